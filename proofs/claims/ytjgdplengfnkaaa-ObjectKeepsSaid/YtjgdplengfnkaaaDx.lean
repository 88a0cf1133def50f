/- nvm.Device: part, Flush. -/
import Derived.Test.YtjgdplengfnkaaaDw
import Derived.Test.YtjgdplengfnkaaaTail
import Derived.Test.YtjgdplengfnkaaaB
import Derived.Laws.CopyOwn
namespace Go.Proofs.Ytjgdplengfnkaaa
open Go.RowKit
set_option linter.unusedVariables false

/-- 'xs[lo:hi]', where it lies alone. -/
theorem wpList_slice_addr {P : Program} {w : World} {ops : Array Oper} {rest : List Oper} {o : Oper} {a : Act} {Q : Exit → Act → World → Prop} {x lo hi : Operand} {t e : TypeId} {z : Value} {size bytes : Nat} (E : Elem P t e z size bytes) {ad : Option Addr} {n cap : Nat} {k k' : IntKind} {L H : Int} (l h : Nat)
    (hL : L = (l : Int)) (hH : H = (h : Int)) (hl : l ≤ h) (hh : h ≤ n) (hn : n ≤ cap)
    (hgd : o.guard = none) (ho : o.op = .slice t x (some lo) (some hi) none) (hx : a.eval x = .slice ad n cap) (hlo : a.eval lo = .int k L) (hhi : a.eval hi = .int k' H)
    (hK : ∀ ad', ad' = (if cap = l then ad else ad.map (·.add (l * size))) → wpList P ops Q rest (a.put o.dst (.slice ad' (h - l) (cap - l))) w) :
    wpList P ops Q (o :: rest) a w := by
  refine wpList_plain hgd fun K hK' => ?_
  subst hL
  subst hH
  have hr := run_slice_any (w := w) E ad n cap l h (some (.int k l)) (some (.int k' h)) (by
    have h1 : (0 : Int) ≤ (l : Int) ∧ (l : Int) ≤ (h : Int) := by omega
    have h2 : (0 : Int) ≤ (h : Int) ∧ (h : Int) ≤ (cap : Int) := by omega
    simp [Instr.sliceBounds, Instr.sliceBound, asIntOf, hl, Nat.le_trans hh hn])
  unfold Oper.wp
  simp only [execOp, ho, hx, hlo, hhi, Option.map_some]
  simp [hr, Result.andThen]
  exact hK' _ _ (hK _ rfl)

/-- 'copy' into a row that is known from its beginning on. -/
theorem wpList_copy_row {P : Program} {w : World} {ops : Array Oper} {rest : List Oper} {o : Oper} {a : Act} {Q : Exit → Act → World → Prop} (hgd : o.guard = none) {d s : Operand} {dT sT : TypeId}
    (ho : o.op = .call { callee := .builtin .copy, args := #[d, s], argTypes := #[dT, sT] }) {elem : TypeId} (hu : P.underlying dT = some (.slice elem)) (hsz : (P.info? elem).map (·.size) = some 1)
    {g off dLen dCap g2 off2 sLen sCap : Nat} (hd : a.eval d = .slice (some ⟨g, off, none⟩) dLen dCap) (hs : a.eval s = .slice (some ⟨g2, off2, none⟩) sLen sCap)
    {t : TypeId} {vs : List Value} (hr : RowAt w g t vs) (cs : List Value) (hn : cs.length = Nat.min sLen dLen) (hsrc : ∀ j v, cs[j]? = some v → w.cell? ⟨g2, off2 + j, none⟩ = some v)
    (hfit : off + cs.length ≤ vs.length) (h1 : ∀ v ∈ cs, v.oneCell' = true)
    (h : ∀ w', RowAt w' g t (splice vs off cs) → Touch [g] w w' → wpList P ops Q rest (a.put o.dst (goInt cs.length)) w') : wpList P ops Q (o :: rest) a w := by
  obtain ⟨xs, hg, more, hx⟩ := hr
  have hsz2 : xs.size = vs.length + more.length := by rw [← Array.length_toList, hx, List.length_append]
  refine wpList_copy_own hgd d s dT sT ho elem hu hsz g off dLen dCap ⟨g2, off2, none⟩ sLen sCap hd hs xs t hg cs hn (fun j v hj => ?_) (by omega) h1 ?_
  · have e : (⟨g2, off2, none⟩ : Addr).add j = ⟨g2, off2 + j, none⟩ := by unfold Addr.add; split <;> simp_all
    rw [e]; exact hsrc j v hj
  · refine h _ ⟨_, setRow_heap w g xs _ t _ hg, more, ?_⟩ ⟨rfl, rfl, rfl, by simp [World.setRow], fun k _ hk => setRow_other w g k _ (fun e => hk (by simp [e]))⟩
    rw [hx, splice]
    simp only [List.append_assoc]
    rw [List.take_append_of_le_length (by omega), List.drop_append_of_le_length (by omega)]

set_option maxHeartbeats 1000000 in
theorem part_any (d : Value) (g n cap j : Nat) (h1 : 8 * j + 8 ≤ n) (h2 : n ≤ cap) (h3 : n ≤ 1000000) (w : World) :
    Calls Try.prog 65 #[d, .slice (some ⟨g, 0, none⟩) n cap, .int .i64 (j : Int)] w fun e w' => e = .returned (.slice (some ⟨g, 8 * j, none⟩) 8 (cap - 8 * j)) ∧ w = w' := by
  have HA : Hid ((⟨g, 0, none⟩ : Addr).add (8 * j * 1) = ⟨g, 8 * j, none⟩) := Lib.hid (by unfold Addr.add; split <;> simp_all)
  have hne : ¬ cap = 8 * j := by omega
  go_enter Try.func65, Try.ntmps65
  go_wp2_with (refine wpList_slice_addr el64 (8 * j) (8 * j + 8) (by omega) (by omega) (by omega) h1 h2 rfl rfl rfl rfl rfl ?_; intro ad' had; rw [if_neg hne, Option.map_some, HA.out] at had; subst had)
  go_ret
  exact ⟨rfl, rfl⟩

theorem part_later {w : World} (x : Later w) (d : Value) (g n cap j : Nat) (h1 : 8 * j + 8 ≤ n) (h2 : n ≤ cap) (h3 : n ≤ 1000000) :
    Calls Try.prog 65 #[d, .slice (some ⟨g, 0, none⟩) n cap, .int .i64 (j : Int)] x.val fun e w' => e = .returned (.slice (some ⟨g, 8 * j, none⟩) 8 (cap - 8 * j)) ∧ Below x.val.heap.size x.val w' :=
  (part_any d g n cap j h1 h2 h3 _).mono fun _ _ ⟨h1, h2⟩ => ⟨h1, by rw [← h2]; exact Below.refl _ _⟩

/-- A flush: the state then, the error's number. -/
def seg (l : List Nat) (j : Nat) : List Nat := (l.drop (8 * j)).take 8
def Dev.hold (S : Dev) (j : Nat) : Dev := if S.dirty.getD j false then { S with pending := S.pending.set j true, flushed := splice S.flushed (8 * j) (seg S.cache j) } else S
def Dev.flush (S : Dev) (j : Int) : Dev := if j < 0 ∨ (S.dirty.length : Int) ≤ j then S else if S.stop then S.step else S.step.hold j.toNat
def Dev.flushE (S : Dev) (j : Int) : Int := if j < 0 ∨ (S.dirty.length : Int) ≤ j then 2 else if S.stop then 3 else 0

theorem seg_length (l : List Nat) (j : Nat) (h : 8 * j + 8 ≤ l.length) : (seg l j).length = 8 := by simp [seg]; omega
theorem seg_at (l : List Nat) (j k : Nat) (hk : k < 8) : (seg l j)[k]? = l[8 * j + k]? := by
  unfold seg
  rw [List.getElem?_take_of_lt hk, List.getElem?_drop]
theorem seg_cell {w : World} {g e : Nat} {l : List Nat} (h : RowAt w g e (l.map vu64)) (j : Nat) : ∀ k v, ((seg l j).map vu64)[k]? = some v → w.cell? ⟨g, 8 * j + k, none⟩ = some v := by
  intro k v hk
  refine h.cell ?_
  rw [List.getElem?_map] at hk ⊢
  by_cases h8 : k < 8
  · rw [seg_at l j k h8] at hk; exact hk
  · have : (seg l j)[k]? = none := List.getElem?_eq_none (by simp [seg]; omega)
    rw [this] at hk
    cases hk
theorem splice_map (l s : List Nat) (o : Nat) : splice (l.map vu64) o (s.map vu64) = (splice l o s).map vu64 := by simp [splice]
theorem splice_lt {l s : List Nat} {B : Nat} (o : Nat) (hl : ∀ z ∈ l, z < B) (hs : ∀ z ∈ s, z < B) : ∀ z ∈ splice l o s, z < B := by
  intro z hz
  simp only [splice, List.mem_append] at hz
  rcases hz with h | h | h
  · exact hl z (List.mem_of_mem_take h)
  · exact hs z h
  · exact hl z (List.mem_of_mem_drop h)
theorem seg_lt {l : List Nat} {B : Nat} (j : Nat) (hl : ∀ z ∈ l, z < B) : ∀ z ∈ seg l j, z < B := fun z hz => hl z (List.mem_of_mem_drop (List.mem_of_mem_take hz))

theorem DevAt.setPending {w : World} {F : Foot} {S : Dev} (h : DevAt w F S) (j : Nat) (hj : j < S.pending.length) (b : Bool) : DevAt (w.setCell ⟨F.p, j, none⟩ (.bool b)) F { S with pending := S.pending.set j b } := by
  have hn := h.nodup
  simp only [Foot.list, List.nodup_cons, List.mem_cons, List.not_mem_nil, or_false, not_or, List.nodup_nil, and_true, not_false_eq_true] at hn
  obtain ⟨⟨a1, a2, a3, a4, a5⟩, ⟨b1, b2, b3, b4⟩, ⟨d1, d2, d3⟩, ⟨e1, e2⟩, f1⟩ := hn
  have k : ∀ g, g ≠ F.p → (w.setCell ⟨F.p, j, none⟩ (.bool b)).heap[g]? = w.heap[g]? := fun g h1 => Below.heap_setCell _ _ _ _ h1
  refine { h with head := (k _ a5).trans h.head, lasting := h.lasting.keep (k _ b4), cache := h.cache.keep (k _ d3), flushed := h.flushed.keep (k _ e2), dirty := h.dirty.keep (k _ f1), pending := ?_, lenP := ?_ }
  · show RowAt _ _ _ ((S.pending.set j b).map Value.bool)
    rw [map_set_bool]
    exact h.pending.set j (by simpa using hj) _
  · simp [h.lenP]
theorem DevAt.setDirty {w : World} {F : Foot} {S : Dev} (h : DevAt w F S) (j : Nat) (hj : j < S.dirty.length) (b : Bool) : DevAt (w.setCell ⟨F.t, j, none⟩ (.bool b)) F { S with dirty := S.dirty.set j b } := by
  have hn := h.nodup
  simp only [Foot.list, List.nodup_cons, List.mem_cons, List.not_mem_nil, or_false, not_or, List.nodup_nil, and_true, not_false_eq_true] at hn
  obtain ⟨⟨a1, a2, a3, a4, a5⟩, ⟨b1, b2, b3, b4⟩, ⟨d1, d2, d3⟩, ⟨e1, e2⟩, f1⟩ := hn
  have k : ∀ g, g ≠ F.t → (w.setCell ⟨F.t, j, none⟩ (.bool b)).heap[g]? = w.heap[g]? := fun g h1 => Below.heap_setCell _ _ _ _ h1
  refine { h with head := ?_, lasting := h.lasting.keep (k _ b3), cache := h.cache.keep (k _ d2), flushed := h.flushed.keep (k _ e1), dirty := ?_, pending := h.pending.keep (k _ (Ne.symm f1)), lenP := ?_, lenD := ?_ }
  · rw [k _ a4, h.head]; simp [devV]
  · show RowAt _ _ _ ((S.dirty.set j b).map Value.bool)
    rw [map_set_bool]
    exact h.dirty.set j (by simpa using hj) _
  · simp [h.lenP]
  · simp [h.lenD]
theorem DevAt.setFlushed {w w' : World} {F : Foot} {S : Dev} (h : DevAt w F S) {l : List Nat} (hr : RowAt w' F.f 76 (l.map vu64)) (ht : Touch [F.f] w w') (hl : l.length = S.flushed.length) (hu : ∀ z ∈ l, z < 18446744073709551616) : DevAt w' F { S with flushed := l } := by
  have hn := h.nodup
  have hm := h.mem
  simp only [Foot.list, List.nodup_cons, List.mem_cons, List.not_mem_nil, or_false, not_or, List.nodup_nil, and_true, not_false_eq_true, forall_eq_or_imp, forall_eq] at hn hm
  obtain ⟨⟨a1, a2, a3, a4, a5⟩, ⟨b1, b2, b3, b4⟩, ⟨d1, d2, d3⟩, ⟨e1, e2⟩, f1⟩ := hn
  obtain ⟨m1, m2, m3, m4, m5, m6⟩ := hm
  have k : ∀ g, g < w.heap.size → g ≠ F.f → w'.heap[g]? = w.heap[g]? := fun g hg h1 => ht.block g hg (by simpa using h1)
  exact { h with head := (k _ m1 a3).trans h.head, lasting := h.lasting.keep (k _ m2 b2), cache := h.cache.keep (k _ m3 d1), flushed := hr, dirty := h.dirty.keep (k _ m5 (Ne.symm e1)), pending := h.pending.keep (k _ m6 (Ne.symm e2)), lenF := hl.trans h.lenF, u64F := hu }
theorem DevAt.setLasting {w w' : World} {F : Foot} {S : Dev} (h : DevAt w F S) {l : List Nat} (hr : RowAt w' F.l 76 (l.map vu64)) (ht : Touch [F.l] w w') (hl : l.length = S.lasting.length) (hu : ∀ z ∈ l, z < 18446744073709551616) : DevAt w' F { S with lasting := l } := by
  have hn := h.nodup
  have hm := h.mem
  simp only [Foot.list, List.nodup_cons, List.mem_cons, List.not_mem_nil, or_false, not_or, List.nodup_nil, and_true, not_false_eq_true, forall_eq_or_imp, forall_eq] at hn hm
  obtain ⟨⟨a1, a2, a3, a4, a5⟩, ⟨b1, b2, b3, b4⟩, ⟨d1, d2, d3⟩, ⟨e1, e2⟩, f1⟩ := hn
  obtain ⟨m1, m2, m3, m4, m5, m6⟩ := hm
  have k : ∀ g, g < w.heap.size → g ≠ F.l → w'.heap[g]? = w.heap[g]? := fun g hg h1 => ht.block g hg (by simpa using h1)
  exact { h with head := (k _ m1 a1).trans h.head, lasting := hr, cache := h.cache.keep (k _ m3 (Ne.symm b1)), flushed := h.flushed.keep (k _ m4 (Ne.symm b2)), dirty := h.dirty.keep (k _ m5 (Ne.symm b3)), pending := h.pending.keep (k _ m6 (Ne.symm b4)), lenL := hl.trans h.lenL, u64L := hu }

set_option maxHeartbeats 1000000 in
set_option maxRecDepth 100000 in
theorem flush_any {w : World} {F : Foot} {S : Dev} (h : DevAt w F S) {N : Nat} (hN : N < 1000000000000) (ho : S.ok N) (i : Int) :
    Calls Try.prog 93 #[vdev F, .int .i64 i] w fun e w' => e = .returned (.int .i64 (S.flushE i)) ∧ DevAt w' F (S.flush i) ∧ Touch F.list w w' := by
  have hh := h.head
  have c1 : w.cell? ⟨F.d, 3, none⟩ = some (.slice (some ⟨F.t, 0, none⟩) S.dirty.length F.ct) := cell_of_row _ _ 3 _ _ _ hh
  have hsm := h.small
  have hl := h.lenD
  by_cases h0 : i < 0
  · have HV : Hid (S.flushE i = 2 ∧ S.flush i = S) := Lib.hid (by unfold Dev.flushE Dev.flush; rw [if_pos (.inl h0), if_pos (.inl h0)]; exact ⟨rfl, rfl⟩)
    have HD := Lib.hid h
    clear hh h
    go_enter Try.func93, Try.ntmps93
    go_wp2_with fail
    go_ret
    exact ⟨ret_int HV.out.1.symm, by rw [HV.out.2]; exact HD.out, Touch.refl _ _⟩
  obtain ⟨j, rfl⟩ := Int.eq_ofNat_of_zero_le (show 0 ≤ i by omega)
  by_cases h1 : j < S.dirty.length
  · have hcond : ¬ ((j : Int) < 0 ∨ (S.dirty.length : Int) ≤ (j : Int)) := by omega
    have HE : Hid (S.flushE (j : Int) = if S.stop then 3 else 0) := Lib.hid (by unfold Dev.flushE; rw [if_neg hcond])
    have HSt : Hid (S.flush (j : Int) = if S.stop then S.step else S.step.hold j) := Lib.hid (by unfold Dev.flush; rw [if_neg hcond]; rfl)
    have HR := Lib.hid S.step_rest
    have HD := Lib.hid h
    clear hcond hh h
    go_enter Try.func93, Try.ntmps93
    go_wp2_with fail
    refine (step_any HD.out hN ho).mono ?_
    rintro e w1 ⟨rfl, hd1, ht1⟩
    have ht1' : Touch F.list w w1 := ⟨ht1.os, ht1.tape, ht1.output, ht1.size, fun k hk hn => ht1.block k hk (fun hm => hn (by simp at hm; rw [hm]; simp [Foot.list]))⟩
    clear HD ht1 c1
    cases hst : S.stop
    · rw [hst] at HE HSt
      have e1 : S.step.cache.length = S.cache.length := by rw [HR.out.2.1]
      have e2 : S.step.dirty.length = S.dirty.length := by rw [HR.out.2.2.2.1]
      rw [← e2] at hl h1
      rw [← e1] at hl hsm
      clear e1 e2
      generalize S.step = S1 at *
      have c3 : w1.cell? ⟨F.d, 3, none⟩ = some (.slice (some ⟨F.t, 0, none⟩) S1.dirty.length F.ct) := cell_of_row _ _ 3 _ _ _ hd1.head
      have d3 : w1.cell? ⟨F.t, j, none⟩ = some (.bool (S1.dirty.getD j false)) := hd1.dirty.cell (by simp [h1])
      cases hdj : S1.dirty.getD j false
      · rw [hdj] at d3
        have HH : Hid (S1.hold j = S1) := Lib.hid (by unfold Dev.hold; rw [hdj]; rfl)
        have HD1 := Lib.hid hd1
        clear hd1 hdj HR
        go_wp2_with fail
        go_ret
        exact ⟨ret_int HE.out.symm, by rw [HSt.out, if_neg (by simp), HH.out]; exact HD1.out, ht1'⟩
      · rw [hdj] at d3
        have HH : Hid (S1.hold j = { S1 with pending := S1.pending.set j true, flushed := splice S1.flushed (8 * j) (seg S1.cache j) }) := Lib.hid (by unfold Dev.hold; rw [hdj]; rfl)
        have c4 : w1.cell? ⟨F.d, 4, none⟩ = some (.slice (some ⟨F.p, 0, none⟩) S1.dirty.length F.cp) := cell_of_row _ _ 4 _ _ _ hd1.head
        have hp := hd1.lenP
        obtain ⟨u, hu⟩ : ∃ u, (S1.pending.map Value.bool)[j]? = some u := ⟨_, List.getElem?_eq_getElem (by simp; omega)⟩
        have d4 : w1.cell? ⟨F.p, j, none⟩ = some u := hd1.pending.cell hu
        have d5 := hd1.pending.frozen j
        have HD1 := Lib.hid hd1
        have hd2 := hd1.setPending j (by omega) true
        have h8 : 8 * j + 8 ≤ S1.cache.length := by omega
        clear hl
        have ht2 : Touch F.list w (w1.setCell ⟨F.p, j, none⟩ (.bool true)) := ht1'.trans (Touch.setCell _ (by simp [Foot.list]) _)
        clear hdj HR hu hp HD1 ht1' hd1
        go_wp2_with fail
        generalize w1.setCell ⟨F.p, j, none⟩ (.bool true) = w2 at *
        clear d4 d5 c3 c4 d3 hst
        have g1 : w2.cell? ⟨F.d, 1, none⟩ = some (.slice (some ⟨F.c, 0, none⟩) S1.cache.length F.cc) := cell_of_row _ _ 1 _ _ _ hd2.head
        have g2 : w2.cell? ⟨F.d, 2, none⟩ = some (.slice (some ⟨F.f, 0, none⟩) S1.cache.length F.cf) := cell_of_row _ _ 2 _ _ _ hd2.head
        have f1 := fun x => later_cell g1 x
        have f2 := fun x => later_cell g2 x
        have hcf : S1.cache.length ≤ F.cf := hd2.capF
        have hcc : S1.cache.length ≤ F.cc := hd2.capC
        have HD2 := Lib.hid hd2
        clear hd2
        refine wp_region_later_tail 14 ?hn ?hm ?hB ?_
        case hn => exact Nat.le_of_ble_eq_true rfl
        case hm => kernel_rfl
        case hB => kernel_rfl
        simp only [List.take_succ_cons, List.take_zero, List.drop_succ_cons, List.drop_zero]
        repeat (quiet_step ((rename_i x; exact calls_later (part_later x _ _ _ _ _ h8 (by assumption) hsm))))
        refine wpQuiet_nil ?_
        rintro w5 ⟨x, hx5⟩
        have hd5 := HD2.out.below x.below
        have ht5 := ht2.trans (Touch.ofBelow x.below)
        rw [← hx5] at hd5 ht5
        clear hx5 x HD2 ht2 f1 f2 g1 g2
        have hsl := seg_length S1.cache j h8
        have HC := Lib.hid (seg_cell hd5.cache j)
        have HF := Lib.hid hd5.flushed
        have hlf : 8 * j + 8 ≤ S1.flushed.length := by have := hd5.lenF; dsimp only at this; omega
        refine wpList_copy_row rfl rfl Try.underlying22 (by kernel_rfl) rfl rfl HF.out ((seg S1.cache j).map vu64) (by simp [hsl]) HC.out (by simp [hsl]; omega) (one_cells _) ?_
        intro w6 hr6 ht6
        rw [splice_map] at hr6
        have hd6 := hd5.setFlushed hr6 ht6 (by rw [length_splice _ _ _ (by rw [hsl]; omega)]) (splice_lt _ hd5.u64F (seg_lt j hd5.u64C))
        have ht7 : Touch F.list w w6 := ht5.trans ⟨ht6.os, ht6.tape, ht6.output, ht6.size, fun k hk hn => ht6.block k hk (fun hm => hn (by simp at hm; rw [hm]; simp [Foot.list]))⟩
        have HZ : Hid (DevAt w6 F (S.flush (j : Int))) := Lib.hid (by rw [HSt.out, if_neg (by simp), HH.out]; exact hd6)
        clear hd5 hd6 hr6 ht6 HF HC
        go_wp2_with fail
        go_ret
        exact ⟨ret_int HE.out.symm, HZ.out, ht7⟩
    · rw [hst] at HE HSt
      clear hst HR
      go_wp2_with fail
      go_ret
      exact ⟨ret_int HE.out.symm, by rw [HSt.out]; assumption, ht1'⟩
  · have HV : Hid (S.flushE (j : Int) = 2 ∧ S.flush (j : Int) = S) := Lib.hid (by unfold Dev.flushE Dev.flush; rw [if_pos (.inr (by omega)), if_pos (.inr (by omega))]; exact ⟨rfl, rfl⟩)
    have HD := Lib.hid h
    clear hh h
    go_enter Try.func93, Try.ntmps93
    go_wp2_with fail
    go_ret
    exact ⟨ret_int HV.out.1.symm, by rw [HV.out.2]; exact HD.out, Touch.refl _ _⟩

end Go.Proofs.Ytjgdplengfnkaaa
