/- Structs and arrays within rows: loaded, stored, made. -/
import Derived.Test.YtjgdplengfnkaaaNa
namespace Go.Proofs.Ytjgdplengfnkaaa
open Go.RowKit
set_option linter.unusedVariables false

theorem made_same (cs : Array Value) (z : Value) (n : Nat) (h0 : 0 < cs.size) (h : ∀ i, i < cs.size → cs[i]? = some z) : (madeCells cs (n * cs.size)).toList = List.replicate (n * cs.size) z := by
  apply List.ext_getElem?
  intro i
  by_cases hi : i < n * cs.size
  · have hm : i % cs.size < cs.size := Nat.mod_lt _ h0
    have hz := h (i % cs.size) hm
    have hz' : cs[i % cs.size] = z := by
      have := Array.getElem?_eq_getElem (xs := cs) hm
      rw [this] at hz
      exact Option.some.inj hz
    simp [madeCells, hi, hz', hm]
  · simp [madeCells, hi]

theorem add_none (b off j : Nat) : (⟨b, off, none⟩ : Addr).add j = ⟨b, off + j, none⟩ := by unfold Addr.add; split <;> simp_all

section
variable {P : Program} {w : World} {ops : Array Oper} {rest : List Oper} {o : Oper} {a : Act} {Q : Exit → Act → World → Prop}

/-- A struct or an array is loaded from its cells. -/
theorem wpList_load_part {ty : TypeId} {zs : Array Value} (A : Agg P ty zs) {p : Operand} {g off : Nat} (cs : List Value) (hc : ∀ i v, cs[i]? = some v → w.cell? ⟨g, off + i, none⟩ = some v) (hs : cs.length = zs.size)
    (hgd : o.guard = none) (ho : o.op = .load ty p) (hp : a.eval p = .pointer (some ⟨g, off, none⟩))
    (hK : wpList P ops Q rest (a.put o.dst (.agg cs.toArray)) w) : wpList P ops Q (o :: rest) a w := by
  refine wpList_plain hgd fun K hK' => ?_
  obtain ⟨d, hu, hd⟩ := A.desc
  have hl : (loadCells ⟨g, off, none⟩ cs.length).run P w = .ok cs.toArray w := run_loadCells_list (P := P) w ⟨g, off, none⟩ cs (fun j v hv => by rw [add_none]; exact hc j v hv)
  have hagg : (isAgg ty).run P w = .ok true w := by
    unfold isAgg
    rw [Sem.run_bind, run_underlying hu w]
    cases d <;> simp_all
  have hsz := A.size
  have hr : (loadVar ty ⟨g, off, none⟩).run P w = .ok (.agg cs.toArray) w := by
    cases hq : P.info? ty with
    | none => simp [hq] at hsz
    | some inf =>
      have e : inf.size = cs.length := by simp [hq] at hsz; rw [hsz, hs]
      simp [loadVar, hagg, sizeOf, typeInfo, hq, e, hl]
  have hr2 : (Instr.loadAt ty (.pointer (some ⟨g, off, none⟩))).run P w = .ok (.agg cs.toArray) w := by
    simp only [Instr.loadAt, Instr.sureAddr, Sem.run_bind, Sem.run_pure, Result.andThen]
    exact hr
  unfold Oper.wp
  simp only [execOp, ho, hp]
  simp only [Sem.run_bind, hr2, Result.andThen, Sem.run_pure]
  exact hK' _ _ hK

theorem run_storeCells_row {g off t : Nat} : ∀ (cs : List Value) (i : Nat) (w : World) (vs : List Value), RowAt w g t vs → off + i + cs.length ≤ vs.length → (∀ u ∈ cs, u.oneCell' = true) →
    ∃ w', (storeCells ⟨g, off, none⟩ cs i).run P w = .ok () w' ∧ RowAt w' g t (splice vs (off + i) cs) ∧ Touch [g] w w' := by
  intro cs
  induction cs with
  | nil =>
    intro i w vs hr hl h1
    refine ⟨w, by simp [storeCells], ?_, Touch.refl _ _⟩
    simpa [splice] using hr
  | cons c cs ih =>
    intro i w vs hr hl h1
    simp only [List.length_cons] at hl
    have hlt : off + i < vs.length := by omega
    have h2 := hr.set (off + i) hlt c
    obtain ⟨w', hw', hr', ht'⟩ := ih (i + 1) (w.setCell ⟨g, off + i, none⟩ c) (vs.set (off + i) c) h2 (by simp; omega) (fun u hu => h1 u (List.mem_cons_of_mem _ hu))
    refine ⟨w', ?_, ?_, (Touch.setCell _ (by simp) _).trans ht'⟩
    · have hcell : w.cell? ⟨g, off + i, none⟩ = some (vs[off + i]) := hr.cell (List.getElem?_eq_getElem hlt)
      have hfz : w.frozen? ⟨g, off + i, none⟩ = false := hr.frozen _
      simp only [storeCells, Sem.run_bind, add_none]
      rw [run_store P w _ c .plain (h1 c (by simp))]
      simp only [hcell, hfz, Result.andThen]
      exact hw'
    · have e : splice (vs.set (off + i) c) (off + (i + 1)) cs = splice vs (off + i) (c :: cs) := by
        unfold splice
        rw [show off + (i + 1) = (off + i) + 1 by omega, List.take_set, List.drop_set_of_lt (by omega), List.length_cons, show off + i + 1 + cs.length = off + i + (cs.length + 1) by omega]
        have e1 : (vs.take (off + i + 1)).set (off + i) c = vs.take (off + i) ++ [c] := by
          have hm : min (off + i) vs.length = off + i := Nat.min_eq_left (Nat.le_of_lt hlt)
          rw [List.take_succ_eq_append_getElem hlt, List.set_append_right _ _ (by simp; omega)]
          simp [hm]
        rw [e1]
        simp
      rw [← e]; exact hr'

/-- A struct or an array is stored into a part of a row. -/
theorem wpList_store_part {ty : TypeId} {zs : Array Value} (A : Agg P ty zs) {p x : Operand} {g off t : Nat} {vs : List Value} {cs : Array Value} (hr : RowAt w g t vs) (hs : cs.size = zs.size) (hfit : off + cs.size ≤ vs.length) (h1 : ∀ u ∈ cs.toList, u.oneCell' = true)
    (hgd : o.guard = none) (ho : o.op = .store ty p x) (hp : a.eval p = .pointer (some ⟨g, off, none⟩)) (hx : a.eval x = .agg cs)
    (hK : ∀ w', RowAt w' g t (splice vs off cs.toList) → Touch [g] w w' → wpList P ops Q rest (a.put o.dst undef) w') :
    wpList P ops Q (o :: rest) a w := by
  refine wpList_plain hgd fun K hK' => ?_
  obtain ⟨w', hw', hr', ht'⟩ := run_storeCells_row (P := P) (off := off) cs.toList 0 w vs hr (by simpa using hfit) h1
  have hsz := A.size
  have hr2 : (storeVar ty ⟨g, off, none⟩ (.agg cs)).run P w = .ok () w' := by
    cases hq : P.info? ty with
    | none => simp [hq] at hsz
    | some inf =>
      have e : inf.size = cs.size := by simp [hq] at hsz; rw [hsz, hs]
      simp only [storeVar, Sem.run_bind, sizeOf, typeInfo]
      simp [hq, e, Value.cells, hw', Result.andThen]
  have hr3 : (Instr.storeAt ty (.pointer (some ⟨g, off, none⟩)) (.agg cs)).run P w = .ok () w' := by
    simp only [Instr.storeAt, Instr.sureAddr, Sem.run_bind, Sem.run_pure, Result.andThen]
    exact hr2
  unfold Oper.wp
  simp only [execOp, ho, hp, hx]
  simp only [Sem.run_bind, hr3, Result.andThen, Sem.run_pure]
  exact hK' _ _ (hK w' (by simpa using hr') ht')

/-- 'make([]T, n)', T of cells that are all alike at first. -/
theorem wpList_make_rows {l c : Operand} {t e : TypeId} {zs : Array Value} {z : Value} {bytes : Nat} (E : Elem P t e (.agg zs) zs.size bytes) (base n : Nat) {kl kc : IntKind} {L C : Int} (hz : ∀ i, i < zs.size → zs[i]? = some z)
    (hL : L = (n : Int)) (hC : C = (n : Int)) (hn : n < 1000000000000) (hby : bytes ≤ 64) (hbase : base ≤ w.heap.size)
    (hgd : o.guard = none) (ho : o.op = .makeSlice t l c) (hl : a.eval l = .int kl L) (hc : a.eval c = .int kc C)
    (hK : ∀ w', w'.ownsRow base e zs.size (.slice (some ⟨w.heap.size, 0, none⟩) n n) n (List.replicate (n * zs.size) z) → w.grownBy w' none → wpList P ops Q rest (a.put o.dst (.slice (some ⟨w.heap.size, 0, none⟩) n n)) w') :
    wpList P ops Q (o :: rest) a w := by
  obtain ⟨i, i1, i2, i3, i4⟩ := E.info
  refine wpList_make_full _ hgd l c t ho base e i (.agg zs) zs.size E.under i1 i2 i3 kl kc L C n hl hc hL hC ?_ (by unfold maxLen; omega) hbase ?_
  · rw [i4]
    have : bytes * n ≤ 64 * 1000000000000 := Nat.mul_le_mul hby (by omega)
    omega
  · have e : (madeCells (Value.agg zs).cells (n * zs.size)).toList = List.replicate (n * zs.size) z := made_same zs z n E.pos hz
    rw [e]
    exact hK

/-- A row that the call owns, as a block. -/
theorem owned_row {w : World} {base e size n g c : Nat} {vs : List Value} (h : w.ownsRow base e size (.slice (some ⟨g, 0, none⟩) n c) n vs) : RowAt w g e vs := by
  rcases h.2 with ⟨h0, _⟩ | ⟨g', cap, cur, hv, hb, hg, h1, h2, h3, h4⟩
  · cases h0
  · simp at hv
    obtain ⟨rfl, rfl⟩ := hv
    exact ⟨cur, hg, cur.toList.drop (n * size), by rw [← h4, List.take_append_drop]⟩
end

/-- nvm.Load. -/
def padTo (ws : List Nat) (m : Nat) : List Nat := ws ++ List.replicate (m - ws.length) 0

theorem splice_pad (ws : List Nat) (m : Nat) : splice (List.replicate m 0) 0 ws = padTo ws m := by unfold splice padTo; simp
theorem below_cells {B : Nat} {w w1 : World} (hb : Below B w w1) {p : Addr} {v : Value} (h : w.cell? p = some v) (hB : w.heap.size ≤ B := by omega) : w1.cell? p = some v := by
  rw [hb.cell (Nat.lt_of_lt_of_le (World.block_lt_of_cell? _ _ h) hB)]; exact h

set_option maxHeartbeats 400000 in
set_option maxRecDepth 20000 in
theorem nload_any (b off : Nat) {n : Nat} (cap : Nat) (ws : List Nat) (hn : ws.length = n) (w : World) (h : ∀ i v, (ws.map vu64)[i]? = some v → w.cell? ⟨b, off + i, none⟩ = some v) (hl : n ≤ 100000) (hu : ∀ z ∈ ws, z < 18446744073709551616) :
    Calls Try.prog 9 #[.slice (some ⟨b, off, none⟩) n cap] w fun e w' => ∃ F : Foot, e = .returned (vdev F) ∧ (∀ i ∈ F.list, w.heap.size ≤ i) ∧ DevAt w' F (freshDev (padTo ws (8 * ((n + 7) / 8))) ((n + 7) / 8)) ∧ Below w.heap.size w w' := by
  have HU : Hid (upN (n : Int) 8 = (((n + 7) / 8 : Nat) : Int)) := Lib.hid (by unfold upN; split <;> omega)
  obtain ⟨m, hm⟩ : ∃ m, m = (n + 7) / 8 := ⟨_, rfl⟩
  have hmb : m ≤ 20000 := by omega
  have hmn : n ≤ 8 * m := by omega
  rw [← hm] at HU ⊢
  have HN := Lib.hid hn
  have H := Lib.hid h
  have HW := Lib.hid hu
  clear hm hn h hu
  go_enter Try.func9, Try.ntmps9
  go_wp2_with fail
  refine (up_any _ _ _ (by omega) (by omega)).mono ?_
  rintro e w1 ⟨rfl, rfl⟩
  rw [HU.out]
  clear HU
  go_wp2_with (first
    | (at_make; refine wpList_make_len el64 w.heap.size (8 * m) rfl (by omega) (by omega) (by omega) (by decide) (Nat.le_refl _) rfl rfl rfl rfl ?_; intro w1 hown hgrow; have HR : Hid (RowAt w1 w.heap.size 76 ((List.replicate (8 * m) 0).map vu64)) := Lib.hid (by rw [List.map_replicate]; exact owned_row hown); have HB := Lib.hid (below_grown hgrow (Nat.le_refl _)); have HS : Hid (∀ j v, (ws.map vu64)[j]? = some v → w1.cell? ⟨b, off + j, none⟩ = some v) := Lib.hid (fun j v hj => below_cells HB.out (H.out j v hj)); clear hown hgrow)
    | (refine wpList_copy_row (off := 0) (dLen := 8 * m) (sLen := n) rfl rfl Try.underlying22 (by kernel_rfl) rfl rfl HR.out (ws.map vu64) (by rw [List.length_map, HN.out]; exact (Nat.min_eq_left hmn).symm) HS.out (by simp [HN.out]; omega) (one_cells _) ?_; intro w2 hr2 ht2; rw [splice_map, splice_pad] at hr2; have HR2 := Lib.hid hr2; have HT2 := Lib.hid ht2; clear hr2 ht2))
  refine (load_any (padTo ws (8 * m)) (by simp [padTo, HN.out]; omega) rfl HR2.out (by omega) (by omega) (fun z hz => by
    simp only [padTo, List.mem_append, List.mem_replicate] at hz
    rcases hz with hz | ⟨_, rfl⟩
    · exact HW.out z hz
    · decide)).mono ?_
  rintro e w3 ⟨F, rfl, hF, hd, hb2⟩
  go_wp2_with fail
  go_ret
  have hs2 := HT2.out.size
  have hs1 := HB.out.size
  have hB2 : Below w.heap.size w w2 := ⟨HT2.out.os.trans HB.out.os, HT2.out.tape.trans HB.out.tape, HT2.out.output.trans HB.out.output, by omega, fun k hk => by
    rw [HT2.out.block k (by omega) (by simp; omega)]; exact HB.out.block k hk⟩
  refine ⟨F, rfl, fun i hi => ?_, hd, hB2.trans (hb2.mono (by omega))⟩
  rcases hF i hi with h | h <;> omega

/-- geom. -/
def hdAt (n b : Int) : Int := if b < 1 ∨ n ≤ b then -1 else 256 + b
abbrev vgeom (n : Int) : Value := .agg #[.int .i64 n]

set_option maxHeartbeats 400000 in
theorem gheader_any (n b : Int) (w : World) (hb : b ≤ 1000000000) : Calls Try.prog 55 #[vgeom n, .int .i64 b] w fun e w' => e = .returned (.int .i64 (hdAt n b)) ∧ Below w.heap.size w w' := by
  by_cases h1 : b < 1
  · have HE : Hid (hdAt n b = -1) := Lib.hid (by unfold hdAt; rw [if_pos (.inl h1)])
    go_enter Try.func55, Try.ntmps55
    go_wp2_with fail
    go_ret
    exact ⟨ret_int HE.out.symm, below_alloc _ _⟩
  by_cases h2 : n ≤ b
  · have HE : Hid (hdAt n b = -1) := Lib.hid (by unfold hdAt; rw [if_pos (.inr h2)])
    go_enter Try.func55, Try.ntmps55
    go_wp2_with fail
    go_ret
    exact ⟨ret_int HE.out.symm, below_alloc _ _⟩
  have HE : Hid (hdAt n b = 256 + b) := Lib.hid (by unfold hdAt; rw [if_neg (by omega)])
  go_enter Try.func55, Try.ntmps55
  go_wp2_with fail
  go_ret
  exact ⟨ret_int HE.out.symm, below_alloc _ _⟩

set_option maxHeartbeats 400000 in
theorem gwords_any (n : Int) (w : World) (h0 : 0 ≤ n) (hb : n ≤ 1000000000) : Calls Try.prog 26 #[vgeom n] w fun e w' => e = .returned (.int .i64 (n * 512)) ∧ Below w.heap.size w w' := by
  go_enter Try.func26, Try.ntmps26
  go_wp2_with fail
  go_ret
  exact ⟨rfl, below_alloc _ _⟩

end Go.Proofs.Ytjgdplengfnkaaa
