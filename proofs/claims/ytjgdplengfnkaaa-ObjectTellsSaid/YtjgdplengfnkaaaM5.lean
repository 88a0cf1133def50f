/- Parts of the proof, one behind the other: Rs, Rt, Ru, Rv, Rw, Cz, Oh, Rx. -/
import Derived.Test.YtjgdplengfnkaaaM4
import Derived.ChangeKeysEq
import Derived.Laws.StructEq
import Derived.Deep.QuietTactic
import Derived.BigQuiet

/- The reference's device: step, lines, flags. -/
namespace Go.Proofs.Ytjgdplengfnkaaa
open Go.RowKit
set_option linter.unusedVariables false

/-- A step of the document's device. -/
structure RStep where
  steps : Int
  fuse : Int
  dead : Bool
  ok : Bool
def rstepF (steps fuse : Int) (dead : Bool) : RStep := if dead = true ∨ fuse = 0 then ⟨steps, fuse, true, false⟩ else ⟨steps + 1, if 0 < fuse then fuse - 1 else fuse, dead, true⟩

set_option maxHeartbeats 1000000 in
set_option maxRecDepth 20000 in
theorem rstep_any (an al aw ad ap : Option Addr) (m cn cl cw cd cp : Nat) (steps fuse : Int) (dead : Bool) (w : World) (hs : 0 ≤ steps ∧ steps < 4611686018427387904) (hf : -1 ≤ fuse ∧ fuse < 9223372036854775808) :
    Calls Try.prog 101 #[.agg #[.slice an m cn, .slice al m cl, .slice aw m cw, .slice ad m cd, .slice ap m cp, .int .i64 steps, .int .i64 fuse, .bool dead]] w fun e w' =>
      e = .returned (.tuple #[.agg #[.slice an m cn, .slice al m cl, .slice aw m cw, .slice ad m cd, .slice ap m cp, .int .i64 (rstepF steps fuse dead).steps, .int .i64 (rstepF steps fuse dead).fuse, .bool (rstepF steps fuse dead).dead], .bool (rstepF steps fuse dead).ok]) ∧ Below w.heap.size w w' := by
  have HM := Lib.hid (Mem.two w #[.slice an m cn, .slice al m cl, .slice aw m cw, .slice ad m cd, .slice ap m cp, .int .i64 steps, .int .i64 fuse, .bool dead] 31 zeroD 31)
  have HF : Hid (rstepF steps fuse dead = if dead = true ∨ fuse = 0 then ⟨steps, fuse, true, false⟩ else ⟨steps + 1, if 0 < fuse then fuse - 1 else fuse, dead, true⟩) := Lib.hid rfl
  generalize rstepF steps fuse dead = R at *
  go_enter Try.func101, Try.ntmps101
  go_upto_region 1 with fail
  unfold zeroD at HM
  generalize (w.alloc _).alloc _ = w0 at *
  obtain ⟨q, hq⟩ : ∃ q, q = w.heap.size := ⟨_, rfl⟩
  rw [← hq] at HM ⊢
  have HQ := Lib.hid hq
  clear hq
  have c5 := HM.out.cell 0 5 rfl rfl
  have c6 := HM.out.cell 0 6 rfl rfl
  have c7 := HM.out.cell 0 7 rfl rfl
  have f5 := HM.out.frozen 0 5 rfl
  have f6 := HM.out.frozen 0 6 rfl
  have f7 := HM.out.frozen 0 7 rfl
  by_cases hst : dead = true ∨ fuse = 0
  · have HV : Hid (R = ⟨steps, fuse, true, false⟩) := Lib.hid (by rw [HF.out, if_pos hst])
    have HM2 := Lib.hid (HM.out.set 0 7 (.bool true) rfl (by simp))
    cases dead
    · obtain rfl : fuse = 0 := by simpa using hst
      clear hst
      go_wp2_with (first | (refine wpList_load_mem aggRd HM2.out 0 rfl rfl rfl rfl rfl ?_) | (refine wpList_store_mem aggRd HM2.out 1 rfl rfl rfl rfl rfl rfl rfl rfl ?_; intro w9 h9 _; have H9 := Lib.hid h9; clear h9))
      refine bodyPost_ret (results_cell_row2 (p := 2) (u := 3) rfl _ _ _ _ _ _ _ rfl (H9.out.exact 1 rfl) Try.underlying31 rfl (by kernel_rfl)) rfl ⟨by rw [HV.out]; rfl, H9.out.below⟩
    · clear hst
      go_wp2_with (first | (refine wpList_load_mem aggRd HM2.out 0 rfl rfl rfl rfl rfl ?_) | (refine wpList_store_mem aggRd HM2.out 1 rfl rfl rfl rfl rfl rfl rfl rfl ?_; intro w9 h9 _; have H9 := Lib.hid h9; clear h9))
      refine bodyPost_ret (results_cell_row2 (p := 2) (u := 3) rfl _ _ _ _ _ _ _ rfl (H9.out.exact 1 rfl) Try.underlying31 rfl (by kernel_rfl)) rfl ⟨by rw [HV.out]; rfl, H9.out.below⟩
  · obtain rfl : dead = false := by cases dead <;> simp_all
    have hne : ¬ fuse = 0 := by simpa using hst
    have hne2 : (fuse == 0) = false := by simpa using hne
    by_cases h0 : 0 < fuse
    · have HV : Hid (R = ⟨steps + 1, fuse - 1, false, true⟩) := Lib.hid (by rw [HF.out, if_neg hst, if_pos h0])
      have HM2 := Lib.hid ((HM.out.set 0 6 (.int .i64 (fuse - 1)) rfl (by simp)).set 0 5 (.int .i64 (steps + 1)) rfl (by simp))
      clear hst hne
      go_wp2_with (first | (refine wpList_load_mem aggRd HM2.out 0 rfl rfl rfl rfl rfl ?_) | (refine wpList_store_mem aggRd HM2.out 1 rfl rfl rfl rfl rfl rfl rfl rfl ?_; intro w9 h9 _; have H9 := Lib.hid h9; clear h9))
      refine bodyPost_ret (results_cell_row2 (p := 2) (u := 3) rfl _ _ _ _ _ _ _ rfl (H9.out.exact 1 rfl) Try.underlying31 rfl (by kernel_rfl)) rfl ⟨by rw [HV.out]; rfl, H9.out.below⟩
    · have HV : Hid (R = ⟨steps + 1, fuse, false, true⟩) := Lib.hid (by rw [HF.out, if_neg hst, if_neg h0])
      have HM2 := Lib.hid (HM.out.set 0 5 (.int .i64 (steps + 1)) rfl (by simp))
      clear hst hne
      go_wp2_with (first | (refine wpList_load_mem aggRd HM2.out 0 rfl rfl rfl rfl rfl ?_) | (refine wpList_store_mem aggRd HM2.out 1 rfl rfl rfl rfl rfl rfl rfl rfl ?_; intro w9 h9 _; have H9 := Lib.hid h9; clear h9))
      refine bodyPost_ret (results_cell_row2 (p := 2) (u := 3) rfl _ _ _ _ _ _ _ rfl (H9.out.exact 1 rfl) Try.underlying31 rfl (by kernel_rfl)) rfl ⟨by rw [HV.out]; rfl, H9.out.below⟩

set_option maxHeartbeats 400000 in
theorem rlines_any (a : Option Addr) (n cap : Nat) (ls : List Nat) (w : World) (hc : Cells w a (ls.map vu64)) (hl : ls.length = 8 * n) (hn : n ≤ 1000000) :
    Calls Try.prog 102 #[.slice a n cap] w (Copied 114 n (ls.map vu64) w) := by
  have hb := below_alloc w (.cells #[] 114)
  have ho := World.ownsRow_lit (base := w.heap.size) (e := 114) (size := 8) w #[] 0 (Nat.le_refl _) (by unfold maxLen; omega) rfl
  have HC := Lib.hid (hc.below hb (Nat.le_refl _))
  have HL : Hid ((ls.map vu64).length = n * 8) := Lib.hid (by rw [List.length_map, hl, Nat.mul_comm])
  have HO := Lib.hid ho
  have HB := Lib.hid hb
  have hone : Hid (∀ u ∈ ls.map vu64, u.oneCell' = true) := Lib.hid (one_cells _)
  have hbase := Lib.hid hb.size
  have hn9 : 0 + n < 1000000000000 := by omega
  clear hb ho hc hl
  go_enter Try.func102, Try.ntmps102
  go_wp2_with (at_builtin; refine wpList_append_cells elLine HO.out HC.out HL.out hone.out hn9 (by decide) hbase.out rfl rfl rfl rfl ?_; intro v2 w2 ho2 hg2 hv2; have HO2 := Lib.hid ho2; have HG2 := Lib.hid hg2; have HV2 := Lib.hid hv2; clear ho2 hg2 hv2)
  go_ret
  have h2 := HO2.out
  rw [Nat.zero_add] at h2
  obtain ⟨g, c, rfl, h3, h4, h5, h6⟩ := owned_new h2 (fun e => by have := (HV2.out e).1; simp at this)
  exact ⟨g, c, rfl, h3, h4, h5, by simpa using h6, below_grownBy HB.out HO.out HG2.out (Nat.le_refl _) (Nat.le_refl _)⟩

theorem bone_cells (bs : List Bool) : ∀ u ∈ bs.map Value.bool, u.oneCell' = true := by
  intro u hu
  simp only [List.mem_map] at hu
  obtain ⟨b, _, rfl⟩ := hu
  rfl

set_option maxHeartbeats 400000 in
theorem rflags_any (a : Option Addr) (n cap : Nat) (bs : List Bool) (w : World) (hc : Cells w a (bs.map Value.bool)) (hl : bs.length = n) (hn : n ≤ 1000000) :
    Calls Try.prog 103 #[.slice a n cap] w (Copied 4 n (bs.map Value.bool) w) := by
  have hb := below_alloc w (.cells #[] 4)
  have ho := World.ownsRow_lit (base := w.heap.size) (e := 4) (size := 1) w #[] 0 (Nat.le_refl _) (by unfold maxLen; omega) rfl
  have HC := Lib.hid (hc.below hb (Nat.le_refl _))
  have HL : Hid ((bs.map Value.bool).length = n * 1) := Lib.hid (by rw [List.length_map, hl, Nat.mul_one])
  have HO := Lib.hid ho
  have HB := Lib.hid hb
  have hone : Hid (∀ u ∈ bs.map Value.bool, u.oneCell' = true) := Lib.hid (bone_cells _)
  have hbase := Lib.hid hb.size
  have hn9 : 0 + n < 1000000000000 := by omega
  clear hb ho hc hl
  go_enter Try.func103, Try.ntmps103
  go_wp2_with (at_builtin; refine wpList_append_cells elBool HO.out HC.out HL.out hone.out hn9 (by decide) hbase.out rfl rfl rfl rfl ?_; intro v2 w2 ho2 hg2 hv2; have HO2 := Lib.hid ho2; have HG2 := Lib.hid hg2; have HV2 := Lib.hid hv2; clear ho2 hg2 hv2)
  go_ret
  have h2 := HO2.out
  rw [Nat.zero_add] at h2
  obtain ⟨g, c, rfl, h3, h4, h5, h6⟩ := owned_new h2 (fun e => by have := (HV2.out e).1; simp at this)
  exact ⟨g, c, rfl, h3, h4, h5, by simpa using h6, below_grownBy HB.out HO.out HG2.out (Nat.le_refl _) (Nat.le_refl _)⟩

end Go.Proofs.Ytjgdplengfnkaaa

/- The reference's device: Store, Flush. -/
namespace Go.Proofs.Ytjgdplengfnkaaa
open Go.RowKit
set_option linter.unusedVariables false

/-- The document's device of the same state. -/
def Dev.ref (S : Dev) : RDev := ⟨S.cache, S.lasting, S.flushed, S.dirty, S.pending, S.steps, if S.armed = true then S.fuse else -1, S.dead⟩
/-- States that the document's device can follow. -/
structure Dev.fit (S : Dev) (N : Nat) : Prop where
  wf : S.wf
  ok : S.ok N
  arm : S.armed = true → 0 ≤ S.fuse

theorem Dev.fit.mono {S : Dev} {N M : Nat} (h : S.fit N) (hM : N ≤ M) : S.fit M := ⟨h.wf, h.ok.mono hM, h.arm⟩
theorem Dev.fit_fuse {S : Dev} {N : Nat} (h : S.fit N) : -1 ≤ S.ref.fuse ∧ S.ref.fuse < 9223372036854775808 := by
  unfold Dev.ref
  dsimp only
  have := h.ok
  unfold Dev.ok at this
  split
  · rename_i c; have := h.arm c; omega
  · omega
theorem rstep_ref {S : Dev} {N : Nat} (h : S.fit N) : (rstepF S.steps S.ref.fuse S.dead).steps = S.step.steps ∧ (rstepF S.steps S.ref.fuse S.dead).fuse = S.step.ref.fuse ∧ (rstepF S.steps S.ref.fuse S.dead).dead = S.step.dead ∧ (rstepF S.steps S.ref.fuse S.dead).ok = !S.stop := by
  unfold rstepF Dev.step Dev.stop Dev.ref
  dsimp only
  have ha := h.arm
  cases hd : S.dead
  · cases hr : S.armed
    · simp [hr]
    · by_cases h0 : S.fuse = 0
      · simp [h0, hr]
      · have := ha hr
        have h1 : 0 < S.fuse := by omega
        simp [h0, h1, hr]
  · simp
theorem Dev.step_fit {S : Dev} {N : Nat} (h : S.fit N) : S.step.fit (N + 1) := by
  refine ⟨Dev.step_wf h.wf, Dev.step_ok h.ok, ?_⟩
  unfold Dev.step
  have ha := h.arm
  have hst : S.stop = false → S.armed = true → ¬ S.fuse = 0 := fun h1 h2 => by unfold Dev.stop at h1; simp [h2] at h1; exact h1.2
  cases hs : S.stop
  · intro c
    have c1 := ha c
    have c2 := hst hs c
    simp at c1 c2 ⊢
    omega
  · exact ha
theorem Dev.store_dl (S : Dev) (i : Int) (x : Nat) : (S.store i x).dirty.length = S.dirty.length := by
  obtain ⟨e1, e2, e3, e4, e5⟩ := S.step_rest
  unfold Dev.store
  split
  · rfl
  · split
    · rw [e4]
    · simp [Dev.put, e4]
theorem Dev.step_arm (S : Dev) : S.step.armed = S.armed := by unfold Dev.step; split <;> rfl
theorem Dev.store_fit {S : Dev} {N : Nat} (h : S.fit N) (i : Int) (x : Nat) (hx : x < 18446744073709551616) : (S.store i x).fit (N + 1) := by
  have h1 := Dev.step_fit h
  unfold Dev.store
  split
  · exact h.mono (by omega)
  · split
    · exact h1
    · have hw := h1.wf
      refine ⟨⟨?_, ?_, ?_, ?_, ?_, hw.u64L, ?_, hw.u64F⟩, h1.ok, h1.arm⟩
      · simp [Dev.put, hw.lenL]
      · simp [Dev.put, hw.lenF]
      · simp [Dev.put, hw.lenP]
      · simp [Dev.put, hw.lenD]
      · simp [Dev.put, hw.small]
      · exact set_lt hw.u64C _ _ hx

/-- A device's slices lie in a block. -/
def RIn (v : Value) (b : Nat) : Prop := ∃ cs, v = .agg cs ∧ ∃ (i : Nat) (x : Addr) (n c : Nat), cs[i]? = some (.slice (some x) n c) ∧ x.block = b
theorem rin8 {an al aw ad ap : Option Addr} {n1 c1 n2 c2 n3 c3 n4 c4 n5 c5 : Nat} {k1 k2 : IntKind} {i1 i2 : Int} {b1 : Bool} {b : Nat} :
    RIn (.agg #[.slice an n1 c1, .slice al n2 c2, .slice aw n3 c3, .slice ad n4 c4, .slice ap n5 c5, .int k1 i1, .int k2 i2, .bool b1]) b ↔ ∃ a ∈ [an, al, aw, ad, ap], ∃ x, a = some x ∧ x.block = b := by
  constructor
  · rintro ⟨cs, hcs, i, x, n, c, hi, hb⟩
    simp only [Value.agg.injEq] at hcs
    subst hcs
    rcases i with _ | _ | _ | _ | _ | _ | _ | _ | i
    all_goals first
      | (simp only [List.getElem?_toArray, List.getElem?_cons_zero, List.getElem?_cons_succ, Option.some.injEq, Value.slice.injEq] at hi; exact ⟨_, by simp, x, hi.1, hb⟩)
      | simp at hi
  · rintro ⟨a, ha, x, rfl, hb⟩
    simp only [List.mem_cons, List.not_mem_nil, or_false] at ha
    rcases ha with rfl | rfl | rfl | rfl | rfl
    · exact ⟨_, rfl, 0, x, _, _, rfl, hb⟩
    · exact ⟨_, rfl, 1, x, _, _, rfl, hb⟩
    · exact ⟨_, rfl, 2, x, _, _, rfl, hb⟩
    · exact ⟨_, rfl, 3, x, _, _, rfl, hb⟩
    · exact ⟨_, rfl, 4, x, _, _, rfl, hb⟩
theorem rin_mk {an al aw ad ap an' al' aw' ad' ap' : Option Addr} {n1 c1 n2 c2 n3 c3 n4 c4 n5 c5 n1' c1' n2' c2' n3' c3' n4' c4' n5' c5' B : Nat} {i1 i2 i1' i2' : Int} {b1 b1' : Bool}
    (h : ∀ a ∈ [an', al', aw', ad', ap'], a ∈ [an, al, aw, ad, ap] ∨ ∃ g o, a = some ⟨g, o, none⟩ ∧ B ≤ g) :
    ∀ b, RIn (.agg #[.slice an' n1' c1', .slice al' n2' c2', .slice aw' n3' c3', .slice ad' n4' c4', .slice ap' n5' c5', .int .i64 i1', .int .i64 i2', .bool b1']) b →
      RIn (.agg #[.slice an n1 c1, .slice al n2 c2, .slice aw n3 c3, .slice ad n4 c4, .slice ap n5 c5, .int .i64 i1, .int .i64 i2, .bool b1]) b ∨ B ≤ b := by
  intro b hb
  rw [rin8] at hb ⊢
  obtain ⟨a, ha, x, rfl, hx⟩ := hb
  rcases h _ ha with h | ⟨g, o', h, hg⟩
  · exact .inl ⟨_, h, x, rfl, hx⟩
  · cases h
    exact .inr (by dsimp only at hx; omega)
/-- What a call of the document's device leaves: the device, a number. -/
def RDone (m : Nat) (S : Dev) (code : Int) (v : Value) (w : World) : Ending → World → Prop := fun e w' => ∃ v', e = .returned (.tuple #[v', .int .i64 code]) ∧ RAt w' v' m S.ref ∧ (∀ b, RIn v' b → RIn v b ∨ w.heap.size ≤ b) ∧ Below w.heap.size w w'
theorem RAt.touch {w w' : World} {v : Value} {m : Nat} {R : RDev} (h : RAt w v m R) {L : List Nat} (ht : Touch L w w') (hL : m = 0 ∨ ∀ b, RIn v b → b ∉ L) : RAt w' v m R := by
  obtain ⟨an, cn, al, cl, aw, cw, ad, cd, ap, cp, rfl, h1, h2, h3, h4, h5⟩ := h.ex
  have key : ∀ (a : Option Addr) (vs : List Value), a ∈ [an, al, aw, ad, ap] → (m = 0 → vs = []) → Cells w a vs → Cells w' a vs := by
    intro a vs ha h0 hc
    rcases hc with hc | ⟨b, off, rfl, hc⟩
    · exact .inl hc
    · rcases hL with hm | hL
      · exact .inl (h0 hm)
      · exact .inr ⟨b, off, rfl, fun i v hi => cell_of_touch ht (hL b (rin8.2 ⟨_, ha, _, rfl, rfl⟩)) (hc i v hi)⟩
  have z : ∀ l : List Nat, l.length = 8 * m → m = 0 → l.map vu64 = [] := fun l hl hm => by subst hm; simp at hl; simp [hl]
  have z2 : ∀ l : List Bool, l.length = m → m = 0 → l.map Value.bool = [] := fun l hl hm => by subst hm; simp at hl; simp [hl]
  exact { h with ex := ⟨an, cn, al, cl, aw, cw, ad, cd, ap, cp, rfl, key _ _ (by simp) (z _ h.lenN) h1, key _ _ (by simp) (z _ h.lenL) h2, key _ _ (by simp) (z _ h.lenW) h3, key _ _ (by simp) (z2 _ h.lenD) h4, key _ _ (by simp) (z2 _ h.lenP) h5⟩ }
theorem RAt.old {w : World} {v : Value} {m : Nat} {R : RDev} (h : RAt w v m R) : m = 0 ∨ ∀ b, RIn v b → b < w.heap.size := by
  by_cases hm : m = 0
  · exact .inl hm
  refine .inr fun b hb => ?_
  obtain ⟨an, cn, al, cl, aw, cw, ad, cd, ap, cp, rfl, h1, h2, h3, h4, h5⟩ := h.ex
  rw [rin8] at hb
  obtain ⟨a, ha, x, rfl, rfl⟩ := hb
  have key : ∀ vs : List Value, vs ≠ [] → Cells w (some x) vs → x.block < w.heap.size := by
    intro vs hne hc
    rcases hc with hc | ⟨b', off, he, hc⟩
    · exact absurd hc hne
    · cases he
      cases vs with
      | nil => exact absurd rfl hne
      | cons x xs => exact World.block_lt_of_cell? _ _ (hc 0 x rfl)
  have z : ∀ l : List Nat, l.length = 8 * m → l.map vu64 ≠ [] := fun l hl h => by simp at h; subst h; simp at hl; omega
  have z2 : ∀ l : List Bool, l.length = m → l.map Value.bool ≠ [] := fun l hl h => by simp at h; subst h; simp at hl; omega
  simp only [List.mem_cons, List.not_mem_nil, or_false] at ha
  rcases ha with rfl | rfl | rfl | rfl | rfl
  · exact key _ (z _ h.lenN) h1
  · exact key _ (z _ h.lenL) h2
  · exact key _ (z _ h.lenW) h3
  · exact key _ (z2 _ h.lenD) h4
  · exact key _ (z2 _ h.lenP) h5

theorem rat_mk {w W : World} (hb : Below w.heap.size w W) {S : Dev} (hw : S.wf) {m : Nat} (hm : m = S.dirty.length) {an al aw ad ap : Option Addr} {cn cl cw cd cp : Nat} {st fz : Int} {dd : Bool} (hs : st = S.steps) (hf : fz = S.ref.fuse) (hd : dd = S.dead)
    (k1 : Cells W an (S.cache.map vu64)) (k2 : Cells W al (S.lasting.map vu64)) (k3 : Cells W aw (S.flushed.map vu64)) (k4 : Cells W ad (S.dirty.map Value.bool)) (k5 : Cells W ap (S.pending.map Value.bool)) :
    RAt W (.agg #[.slice an m cn, .slice al m cl, .slice aw m cw, .slice ad m cd, .slice ap m cp, .int .i64 st, .int .i64 fz, .bool dd]) m S.ref := by
  subst hm hs hf hd
  exact ⟨⟨_, _, _, _, _, _, _, _, _, _, rfl, k1, k2, k3, k4, k5⟩, hw.lenD, by show S.lasting.length = _; rw [hw.lenL, hw.lenD], by show S.flushed.length = _; rw [hw.lenF, hw.lenD], rfl, hw.lenP, hw.u64C, hw.u64L, hw.u64F⟩

set_option maxHeartbeats 4000000 in
set_option maxRecDepth 100000 in
theorem rstore_any {w : World} {v : Value} {S : Dev} (h : RAt w v S.dirty.length S.ref) {N : Nat} (hN : N < 1000000000000) (hf : S.fit N) (i : Int) (x : Nat) (hx : x < 18446744073709551616) (hi : -9223372036854775808 ≤ i ∧ i ≤ 9223372036854775807) :
    Calls Try.prog 81 #[v, .int .i64 i, vu64 x] w (RDone S.dirty.length (S.store i x) (S.storeE i) v w) := by
  obtain ⟨an, cn, al, cl, aw, cw, ad, cd, ap, cp, hv, k1, k2, k3, k4, k5⟩ := h.ex
  obtain ⟨m, hm⟩ : ∃ m, m = S.dirty.length := ⟨_, rfl⟩
  have hsm := hf.wf.small
  have hld := hf.wf.lenD
  have hst0 := hf.ok
  unfold Dev.ok at hst0
  have hfz := Dev.fit_fuse hf
  have HRS := Lib.hid (rstep_ref hf)
  have HSF := Lib.hid (Dev.step_fit hf)
  have HDF := Lib.hid hf
  rw [← hm] at hv
  subst hv
  rw [← hm]
  have HSt : Hid (S.store i x = if i < 0 ∨ (S.cache.length : Int) ≤ i then S else if S.stop then S.step else S.step.put i.toNat x) := Lib.hid rfl
  have HSE : Hid (S.storeE i = if i < 0 ∨ (S.cache.length : Int) ≤ i then 2 else if S.stop then 3 else 0) := Lib.hid rfl
  generalize hPo : RDone m (S.store i x) (S.storeE i) _ w = Post
  have HPo := Lib.hid hPo
  rw [← hm] at hld
  have HMm := Lib.hid hm
  have hcl : S.cache.length = 8 * m := hld
  have HCL := Lib.hid hcl
  have hm8 : m ≤ 125000 := by omega
  have e1 : S.ref.steps = S.steps := rfl
  have e2 : S.ref.dead = S.dead := rfl
  have e3 : S.ref.now = S.cache := rfl
  have e4 : S.ref.last = S.lasting := rfl
  have e5 : S.ref.wait = S.flushed := rfl
  have e6 : S.ref.dirty = S.dirty := rfl
  have e7 : S.ref.pending = S.pending := rfl
  rw [e3] at k1
  rw [e4] at k2
  rw [e5] at k3
  rw [e6] at k4
  rw [e7] at k5
  rw [e1, e2]
  clear e1 e2 e3 e4 e5 e6 e7 hPo hm hcl hld hsm hf h
  generalize hsv : S.steps = sv at *
  generalize hfv : S.ref.fuse = fz at *
  generalize hdv : S.dead = dd at *
  have HV := Lib.hid (And.intro hsv (And.intro hfv hdv))
  have K1 := Lib.hid k1
  have K2 := Lib.hid k2
  have K3 := Lib.hid k3
  have K4 := Lib.hid k4
  have K5 := Lib.hid k5
  clear k1 k2 k3 k4 k5
  clear hsv hfv hdv
  have HM := Lib.hid (Mem.two w #[.slice an m cn, .slice al m cl, .slice aw m cw, .slice ad m cd, .slice ap m cp, .int .i64 sv, .int .i64 fz, .bool dd] 31 zeroD 31)
  unfold zeroD at HM
  go_enter Try.func81, Try.ntmps81
  go_upto_region 1 with fail
  generalize (w.alloc _).alloc _ = w0 at *
  obtain ⟨q, hq⟩ : ∃ q, q = w.heap.size := ⟨_, rfl⟩
  rw [← hq] at HM ⊢
  have HQ := Lib.hid hq
  clear hq
  have c0 := HM.out.cell 0 0 rfl rfl
  by_cases h0 : i < 0 ∨ (S.cache.length : Int) ≤ i
  · have hbad : Hid (S.store i x = S ∧ S.storeE i = 2) := Lib.hid (by rw [HSt.out, HSE.out, if_pos h0, if_pos h0]; exact ⟨rfl, rfl⟩)
    have h0' : i < 0 ∨ 8 * (m : Int) ≤ i := by have := HCL.out; omega
    clear h0
    by_cases h1 : i < 0
    · go_wp2_with (first | (refine wpList_load_mem aggRd HM.out 0 rfl rfl rfl rfl rfl ?_) | (refine wpList_store_mem aggRd HM.out 1 rfl rfl rfl rfl rfl rfl rfl rfl ?_; intro w9 h9 _; have H9 := Lib.hid h9; clear h9))
      refine bodyPost_ret (results_cell_row2 (p := 6) (u := 7) rfl _ _ _ _ _ _ _ rfl (H9.out.exact 1 rfl) Try.underlying31 rfl (by kernel_rfl)) rfl ?_
      rw [← HPo.out, hbad.out.1, hbad.out.2]
      exact ⟨_, rfl, rat_mk H9.out.below HDF.out.wf HMm.out HV.out.1.symm HV.out.2.1.symm HV.out.2.2.symm (K1.out.below H9.out.below (Nat.le_refl _)) (K2.out.below H9.out.below (Nat.le_refl _)) (K3.out.below H9.out.below (Nat.le_refl _)) (K4.out.below H9.out.below (Nat.le_refl _)) (K5.out.below H9.out.below (Nat.le_refl _)), rin_mk (fun a ha => .inl ha), H9.out.below⟩
    · have h2 : 8 * (m : Int) ≤ i := by omega
      clear h0'
      go_wp2_with (first | (refine wpList_load_mem aggRd HM.out 0 rfl rfl rfl rfl rfl ?_) | (refine wpList_store_mem aggRd HM.out 1 rfl rfl rfl rfl rfl rfl rfl rfl ?_; intro w9 h9 _; have H9 := Lib.hid h9; clear h9))
      refine bodyPost_ret (results_cell_row2 (p := 6) (u := 7) rfl _ _ _ _ _ _ _ rfl (H9.out.exact 1 rfl) Try.underlying31 rfl (by kernel_rfl)) rfl ?_
      rw [← HPo.out, hbad.out.1, hbad.out.2]
      exact ⟨_, rfl, rat_mk H9.out.below HDF.out.wf HMm.out HV.out.1.symm HV.out.2.1.symm HV.out.2.2.symm (K1.out.below H9.out.below (Nat.le_refl _)) (K2.out.below H9.out.below (Nat.le_refl _)) (K3.out.below H9.out.below (Nat.le_refl _)) (K4.out.below H9.out.below (Nat.le_refl _)) (K5.out.below H9.out.below (Nat.le_refl _)), rin_mk (fun a ha => .inl ha), H9.out.below⟩
  obtain ⟨j, rfl⟩ := Int.eq_ofNat_of_zero_le (show 0 ≤ i by omega)
  have hjm : (j : Int) < 8 * (m : Int) := by have := HCL.out; omega
  have hStop : Hid (S.store (j : Int) x = (if S.stop then S.step else S.step.put j x) ∧ S.storeE (j : Int) = if S.stop then 3 else 0) := Lib.hid (by rw [HSt.out, HSE.out, if_neg h0, if_neg h0]; exact ⟨rfl, rfl⟩)
  clear h0
  go_upto_region 3 with fail
  go_wp2_with (refine wpList_load_mem aggRd HM.out 0 rfl rfl rfl rfl rfl ?_)
  refine (rstep_any an al aw ad ap m cn cl cw cd cp sv fz dd _ (by omega) hfz).mono ?_
  rintro e w1 ⟨rfl, hb1⟩
  rw [HRS.out.1, HRS.out.2.1, HRS.out.2.2.1, HRS.out.2.2.2]
  have HM1 := Lib.hid (HM.out.later hb1)
  clear hb1 HM c0
  obtain ⟨r1, r2, r3, r4, r5⟩ := S.step_rest
  have HSr := Lib.hid (S.step_rest)
  clear r1 r2 r3 r4 r5
  generalize hsv : S.step.steps = sv1 at *
  generalize hfv : S.step.ref.fuse = fz1 at *
  generalize hdv : S.step.dead = dd1 at *
  have HV1 := Lib.hid (And.intro hsv (And.intro hfv hdv))
  clear hsv hfv hdv
  generalize hstop : S.stop = st at *
  have HStp := Lib.hid hstop
  clear hstop
  go_upto_region 4 with (refine wpList_store_mem aggRd HM1.out 0 rfl rfl rfl rfl rfl rfl rfl rfl ?_; intro w2 h2 _; have HM2 := Lib.hid h2; clear h2)
  clear HM1
  cases st
  case true =>
    go_wp2_with (first | (refine wpList_load_mem aggRd HM2.out 0 rfl rfl rfl rfl rfl ?_) | (refine wpList_store_mem aggRd HM2.out 1 rfl rfl rfl rfl rfl rfl rfl rfl ?_; intro w9 h9 _; have H9 := Lib.hid h9; clear h9))
    refine bodyPost_ret (results_cell_row2 (p := 6) (u := 7) rfl _ _ _ _ _ _ _ rfl (H9.out.exact 1 rfl) Try.underlying31 rfl (by kernel_rfl)) rfl ?_
    rw [← HPo.out, hStop.out.1, hStop.out.2, if_pos trivial, if_pos trivial]
    obtain ⟨r1, r2, r3, r4, r5⟩ := HSr.out
    refine ⟨_, rfl, rat_mk H9.out.below HSF.out.wf (by rw [r4]; exact HMm.out) HV1.out.1.symm HV1.out.2.1.symm HV1.out.2.2.symm ?_ ?_ ?_ ?_ ?_, rin_mk (fun a ha => .inl ha), H9.out.below⟩
    · rw [r2]; exact K1.out.below H9.out.below (Nat.le_refl _)
    · rw [r1]; exact K2.out.below H9.out.below (Nat.le_refl _)
    · rw [r3]; exact K3.out.below H9.out.below (Nat.le_refl _)
    · rw [r4]; exact K4.out.below H9.out.below (Nat.le_refl _)
    · rw [r5]; exact K5.out.below H9.out.below (Nat.le_refl _)
  case false =>
    have c0 := HM2.out.cell 0 0 rfl rfl
    have c3 := HM2.out.cell 0 3 rfl rfl
    go_upto_region 6 with fail
    have r0 := fun x => later_cell c0 x
    have r3 := fun x => later_cell c3 x
    refine wp_region_seg (C := fun w' => ∃ x : Later (w2), w' = x.val) [.fl [0, 1, 3, 4], .sq [2] true, .fl [6], .sq [5] true, .sq [7, 8, 9] false] (by kernel_rfl) (by kernel_rfl) (by intro c a d v w h; cases d <;> exact h) ?_
    simp only [segs, picks, List.getElem?_cons_succ, List.getElem?_cons_zero]
    have hC1 := later_drew (w2)
    refine wpSeg_fl hC1 ?_
    repeat (first | go_big_quiet_step (fail) | quiet_step (fail))
    refine wpQuiet_nil ?_
    refine wpSeg_sq (fun K hK => ?_)
    go_wp2_with fail
    have HM3 := Lib.hid (HM2.out.later (later_below hC1))
    refine (rlines_any an m cn S.cache _ (K1.out.below HM3.out.below (Nat.le_refl _)) HCL.out (by omega)).mono ?_
    rintro e w3 ⟨g1, cg1, rfl, hg1, hc1, hm1, hr1, hb3⟩
    have hC2 := later_step hC1 hb3
    have HM4 := Lib.hid (HM3.out.row hb3 hr1 hg1)
    clear hr1 hb3 HM3
    go_wp2_with fail
    refine hK _ _ (fun _ => hC2) ?_
    clear hK K
    refine wpSeg_fl hC2 ?_
    repeat (first | go_big_quiet_step (fail) | quiet_step (fail))
    refine wpQuiet_nil ?_
    refine wpSeg_sq (fun K hK => ?_)
    go_wp2_with fail
    refine (rflags_any ad m cd S.dirty _ (K4.out.below HM4.out.below (Nat.le_refl _)) HMm.out.symm (by omega)).mono ?_
    rintro e w4 ⟨g2, cg2, rfl, hg2, hc2, hm2, hr2, hb4⟩
    have hC3 := later_step hC2 hb4
    have HM5 := Lib.hid (HM4.out.row hb4 hr2 hg2)
    clear hr2 hb4 HM4
    go_wp2_with fail
    refine hK _ _ (fun _ => hC3) ?_
    clear hK K
    refine wpSeg_last ?_
    have f0 := HM5.out.frozen 0 0 rfl
    have f3 := HM5.out.frozen 0 3 rfl
    have c0' := HM5.out.cell 0 0 rfl rfl
    have c3' := HM5.out.cell 0 3 rfl rfl
    go_upto_region 7 with fail
    have HM6 := Lib.hid ((HM5.out.set 0 0 (.slice (some ⟨g1, 0, none⟩) m cg1) rfl (by simp)).set 0 3 (.slice (some ⟨g2, 0, none⟩) m cg2) rfl (by simp))
    clear HM5 HM2 hC1 hC2 hC3 r0 r3 c0 c3 f0 f3 c0' c3'
    generalize (w4.setCell _ _).setCell _ _ = w5 at *
    have c0 := HM6.out.cell 0 0 rfl rfl
    have c3 := HM6.out.cell 0 3 rfl rfl
    have hlt : j / 8 * 8 + j % 8 < (S.cache.map vu64).length := by rw [List.length_map, HCL.out]; omega
    have hlt2 : j / 8 < (S.dirty.map Value.bool).length := by rw [List.length_map, ← HMm.out]; omega
    have d1 := HM6.out.cell 2 (j / 8 * 8 + j % 8) rfl (List.getElem?_eq_getElem hlt)
    have f1 := HM6.out.frozen 2 (j / 8 * 8 + j % 8) rfl
    have HM7 := Lib.hid ((HM6.out.set 2 (j / 8 * 8 + j % 8) (vu64 x) rfl hlt).set 3 (j / 8) (.bool true) rfl hlt2)
    have HM7a := Lib.hid (HM6.out.set 2 (j / 8 * 8 + j % 8) (vu64 x) rfl hlt)
    generalize (S.cache.map vu64)[j / 8 * 8 + j % 8] = old at d1
    clear hlt
    have hq3 : 0 ≤ (j : Int) / 8 := by omega
    have hq4 : ((j : Int) / 8).toNat = j / 8 := by omega
    have hq5 : (j : Int) / 8 < (m : Int) := by omega
    have hq5n : j / 8 < m := by omega
    have hq6 : 0 ≤ (j : Int) % 8 := by omega
    have hq7 : ((j : Int) % 8).toNat = j % 8 := by omega
    have hq8 : (j : Int) % 8 < 8 := by omega
    have hq9 : j % 8 < 8 := by omega
    have hq2 : (j : Int).tmod 8 = (j : Int) % 8 := Int.tmod_eq_emod_of_nonneg (by omega)
    have hq1 : IntKind.i64.wrap ((j : Int) / 8) = (j : Int) / 8 := IntWalk.i64_in _ (by omega)
    go_upto_region 8 with fail
    clear d1 f1 c0 c3 HM6
    generalize w5.setCell _ _ = w6 at *
    have c3 := HM7a.out.cell 0 3 rfl rfl
    have d1 := HM7a.out.cell 3 (j / 8) rfl (List.getElem?_eq_getElem hlt2)
    have f1 := HM7a.out.frozen 3 (j / 8) rfl
    generalize (S.dirty.map Value.bool)[j / 8] = old2 at d1
    clear hlt2
    go_wp2_with (first | (refine wpList_load_mem aggRd HM7.out 0 rfl rfl rfl rfl rfl ?_) | (refine wpList_store_mem aggRd HM7.out 1 rfl rfl rfl rfl rfl rfl rfl rfl ?_; intro w9 h9 _; have H9 := Lib.hid h9; clear h9))
    refine bodyPost_ret (results_cell_row2 (p := 6) (u := 7) rfl _ _ _ _ _ _ _ rfl (H9.out.exact 1 rfl) Try.underlying31 rfl (by kernel_rfl)) rfl ?_
    rw [← HPo.out, hStop.out.1, hStop.out.2, if_neg (by simp), if_neg (by simp)]
    obtain ⟨r1, r2, r3, r4, r5⟩ := HSr.out
    have hwf : (S.step.put j x).wf := by
      have hw := HSF.out.wf
      refine ⟨?_, ?_, ?_, ?_, ?_, hw.u64L, ?_, hw.u64F⟩
      · simp [Dev.put, hw.lenL]
      · simp [Dev.put, hw.lenF]
      · simp [Dev.put, hw.lenP]
      · simp [Dev.put, hw.lenD]
      · simp [Dev.put, hw.small]
      · exact set_lt hw.u64C _ _ hx
    refine ⟨_, rfl, rat_mk H9.out.below hwf (by simp [Dev.put, r4]; exact HMm.out) HV1.out.1.symm HV1.out.2.1.symm HV1.out.2.2.symm ?_ ?_ ?_ ?_ ?_, rin_mk (by have q1 := H9.out.gbase 2 rfl; have q2 := H9.out.gbase 3 rfl; intro a ha; simp only [List.mem_cons, List.not_mem_nil, or_false] at ha ⊢; rcases ha with rfl | rfl | rfl | rfl | rfl <;> first | exact .inr ⟨_, _, rfl, q1⟩ | exact .inr ⟨_, _, rfl, q2⟩ | simp), H9.out.below⟩
    · have h := (H9.out.at 2 rfl).cells
      rw [show (S.step.put j x).cache = S.cache.set j x by simp [Dev.put, r2], map_set_u64]
      rwa [show j / 8 * 8 + j % 8 = j by omega] at h
    · rw [show (S.step.put j x).lasting = S.lasting by simp [Dev.put, r1]]; exact K2.out.below H9.out.below (Nat.le_refl _)
    · rw [show (S.step.put j x).flushed = S.flushed by simp [Dev.put, r3]]; exact K3.out.below H9.out.below (Nat.le_refl _)
    · have h := (H9.out.at 3 rfl).cells
      rw [show (S.step.put j x).dirty = S.dirty.set (j / 8) true by simp [Dev.put, r4], map_set_bool]
      exact h
    · rw [show (S.step.put j x).pending = S.pending by simp [Dev.put, r5]]; exact K5.out.below H9.out.below (Nat.le_refl _)

end Go.Proofs.Ytjgdplengfnkaaa

/- The reference's device: Flush. -/
namespace Go.Proofs.Ytjgdplengfnkaaa
open Go.RowKit
set_option linter.unusedVariables false

/-- The document's device, opened. -/
structure ROpen (w : World) (S : Dev) (an al aw ad ap : Option Addr) (m : Nat) (sv fz : Int) (dd : Bool) : Prop where
  k1 : Cells w an (S.cache.map vu64)
  k2 : Cells w al (S.lasting.map vu64)
  k3 : Cells w aw (S.flushed.map vu64)
  k4 : Cells w ad (S.dirty.map Value.bool)
  k5 : Cells w ap (S.pending.map Value.bool)
  hm : m = S.dirty.length
  hs : sv = S.steps
  hf : fz = S.ref.fuse
  hd : dd = S.dead
  cl : S.cache.length = 8 * m
theorem ropen {w : World} {v : Value} {S : Dev} (h : RAt w v S.dirty.length S.ref) {N : Nat} (hf : S.fit N) :
    ∃ an cn al cl aw cw ad cd ap cp m sv fz dd, v = .agg #[.slice an m cn, .slice al m cl, .slice aw m cw, .slice ad m cd, .slice ap m cp, .int .i64 sv, .int .i64 fz, .bool dd] ∧ ROpen w S an al aw ad ap m sv fz dd ∧ S.dirty.length = m ∧ m ≤ 125000 ∧ (0 ≤ sv ∧ sv ≤ N) ∧ (-1 ≤ fz ∧ fz < 9223372036854775808) := by
  obtain ⟨an, cn, al, cl, aw, cw, ad, cd, ap, cp, rfl, k1, k2, k3, k4, k5⟩ := h.ex
  have h1 := hf.ok
  unfold Dev.ok at h1
  have h2 := hf.wf.small
  have h3 := hf.wf.lenD
  exact ⟨an, cn, al, cl, aw, cw, ad, cd, ap, cp, _, _, _, _, rfl, ⟨k1, k2, k3, k4, k5, rfl, rfl, rfl, rfl, h3⟩, rfl, by omega, ⟨h1.1, h1.2.1⟩, Dev.fit_fuse hf⟩
theorem ROpen.below {w W : World} {S : Dev} {an al aw ad ap : Option Addr} {m : Nat} {sv fz : Int} {dd : Bool} (h : ROpen w S an al aw ad ap m sv fz dd) (hb : Below w.heap.size w W) : ROpen W S an al aw ad ap m sv fz dd :=
  ⟨h.k1.below hb (Nat.le_refl _), h.k2.below hb (Nat.le_refl _), h.k3.below hb (Nat.le_refl _), h.k4.below hb (Nat.le_refl _), h.k5.below hb (Nat.le_refl _), h.hm, h.hs, h.hf, h.hd, h.cl⟩
theorem ROpen.rat {W : World} {S : Dev} {an al aw ad ap : Option Addr} {m : Nat} {sv fz : Int} {dd : Bool} {cn cl cw cd cp : Nat} (h : ROpen W S an al aw ad ap m sv fz dd) (hw : S.wf) :
    RAt W (.agg #[.slice an m cn, .slice al m cl, .slice aw m cw, .slice ad m cd, .slice ap m cp, .int .i64 sv, .int .i64 fz, .bool dd]) m S.ref :=
  rat_mk (Below.refl _ _) hw h.hm h.hs h.hf h.hd h.k1 h.k2 h.k3 h.k4 h.k5
/-- A step goes by. -/
theorem ROpen.step {W : World} {S : Dev} {an al aw ad ap : Option Addr} {m : Nat} {sv fz : Int} {dd : Bool} (h : ROpen W S an al aw ad ap m sv fz dd) {N : Nat} (hf : S.fit N) :
    ROpen W S.step an al aw ad ap m (rstepF sv fz dd).steps (rstepF sv fz dd).fuse (rstepF sv fz dd).dead ∧ (rstepF sv fz dd).ok = !S.stop := by
  obtain ⟨r1, r2, r3, r4, r5⟩ := S.step_rest
  obtain ⟨k1, k2, k3, k4, k5, rfl, rfl, rfl, rfl, hc⟩ := h
  obtain ⟨q1, q2, q3, q4⟩ := rstep_ref hf
  exact ⟨⟨by rw [r2]; exact k1, by rw [r1]; exact k2, by rw [r3]; exact k3, by rw [r4]; exact k4, by rw [r5]; exact k5, by rw [r4], q1, q2, q3, by rw [r2]; exact hc⟩, q4⟩

theorem Dev.hold_wf {S : Dev} (h : S.wf) (j : Nat) (hj : j < S.dirty.length) : (S.hold j).wf := by
  have hs := seg_length S.cache j (by have := h.lenD; omega)
  unfold Dev.hold
  split
  · exact ⟨h.lenL, by show (splice _ _ _).length = _; rw [length_splice _ _ _ (by rw [hs, h.lenF, h.lenD]; omega)]; exact h.lenF, by simp [h.lenP], h.lenD, h.small, h.u64L, h.u64C, splice_lt _ h.u64F (seg_lt _ h.u64C)⟩
  · exact h
theorem Dev.flush_fit {S : Dev} {N : Nat} (h : S.fit N) (j : Int) : (S.flush j).fit (N + 1) := by
  have h1 := Dev.step_fit h
  unfold Dev.flush
  split
  · exact h.mono (by omega)
  · split
    · exact h1
    · rename_i c _
      have e4 := S.step_rest.2.2.2.1
      refine ⟨Dev.hold_wf h1.wf _ (by rw [e4]; omega), ?_, ?_⟩
      · have := Dev.hold_same S.step j.toNat
        unfold Dev.ok
        rw [this.1, this.2]
        exact h1.ok
      · unfold Dev.hold
        split <;> exact h1.arm
theorem Dev.flush_dl (S : Dev) (j : Int) : (S.flush j).dirty.length = S.dirty.length := by rw [(Dev.flush_len S j).2]

theorem eight {α : Type} {l : List α} (h : l.length = 8) : ∃ a0 a1 a2 a3 a4 a5 a6 a7, l = [a0, a1, a2, a3, a4, a5, a6, a7] := by
  match l, h with
  | [a0, a1, a2, a3, a4, a5, a6, a7], _ => exact ⟨a0, a1, a2, a3, a4, a5, a6, a7, rfl⟩
/-- A line's words and cells. -/
theorem line_cells {W : World} {an : Option Addr} {l : List Nat} {m j : Nat} (h : Cells W an (l.map vu64)) (hl : l.length = 8 * m) (hj : j < m) :
    ∃ b off a0 a1 a2 a3 a4 a5 a6 a7, an = some ⟨b, off, none⟩ ∧ seg l j = [a0, a1, a2, a3, a4, a5, a6, a7] ∧ W.cell? ⟨b, off + j * 8, none⟩ = some (vu64 a0) ∧ W.cell? ⟨b, off + j * 8 + 1, none⟩ = some (vu64 a1) ∧ W.cell? ⟨b, off + j * 8 + 2, none⟩ = some (vu64 a2) ∧
      W.cell? ⟨b, off + j * 8 + 3, none⟩ = some (vu64 a3) ∧ W.cell? ⟨b, off + j * 8 + 4, none⟩ = some (vu64 a4) ∧ W.cell? ⟨b, off + j * 8 + 5, none⟩ = some (vu64 a5) ∧ W.cell? ⟨b, off + j * 8 + 6, none⟩ = some (vu64 a6) ∧ W.cell? ⟨b, off + j * 8 + 7, none⟩ = some (vu64 a7) := by
  obtain ⟨a0, a1, a2, a3, a4, a5, a6, a7, e⟩ := eight (seg_length l j (by omega))
  rcases h with h | ⟨b, off, rfl, hc⟩
  · have := congrArg List.length h
    simp at this
    subst this
    simp at hl
    omega
  · have hk : ∀ k x, [a0, a1, a2, a3, a4, a5, a6, a7][k]? = some x → W.cell? ⟨b, off + j * 8 + k, none⟩ = some (vu64 x) := fun k x hx => by
      have hk8 : k < 8 := by have := (List.getElem?_eq_some_iff.1 hx).1; simpa using this
      have := seg_at l j k hk8
      rw [e, hx] at this
      rw [show off + j * 8 + k = off + (8 * j + k) by omega]
      exact hc _ _ (by rw [List.getElem?_map, ← this]; rfl)
    exact ⟨b, off, a0, a1, a2, a3, a4, a5, a6, a7, rfl, e, hk 0 a0 rfl, hk 1 a1 rfl, hk 2 a2 rfl, hk 3 a3 rfl, hk 4 a4 rfl, hk 5 a5 rfl, hk 6 a6 rfl, hk 7 a7 rfl⟩
theorem splice_line {l : List Nat} {j : Nat} {a0 a1 a2 a3 a4 a5 a6 a7 : Nat} {s : List Nat} (h : seg s j = [a0, a1, a2, a3, a4, a5, a6, a7]) : splice (l.map vu64) (j * 8) [vu64 a0, vu64 a1, vu64 a2, vu64 a3, vu64 a4, vu64 a5, vu64 a6, vu64 a7] = (splice l (8 * j) (seg s j)).map vu64 := by
  rw [h, ← splice_map, Nat.mul_comm]; rfl
theorem aggLine : Agg Try.prog 114 #[vu64 0, vu64 0, vu64 0, vu64 0, vu64 0, vu64 0, vu64 0, vu64 0] := ⟨⟨_, Try.underlying114, rfl⟩, by kernel_rfl⟩

set_option maxHeartbeats 4000000 in
set_option maxRecDepth 100000 in
theorem rflush_any {w : World} {v : Value} {S : Dev} (h : RAt w v S.dirty.length S.ref) {N : Nat} (hN : N < 1000000000000) (hf : S.fit N) (i : Int) :
    Calls Try.prog 104 #[v, .int .i64 i] w (RDone S.dirty.length (S.flush i) (S.flushE i) v w) := by
  obtain ⟨an, cn, al, cl, aw, cw, ad, cd, ap, cp, m, sv, fz, dd, rfl, ho, hdl, hm8, hsv, hfz⟩ := ropen h hf
  have HRS := fun W (h : ROpen W S an al aw ad ap m sv fz dd) => h.step hf
  have HSF := Lib.hid (Dev.step_fit hf)
  have HDF := Lib.hid hf
  rw [hdl]
  have HSt : Hid (S.flush i = if i < 0 ∨ (S.dirty.length : Int) ≤ i then S else if S.stop then S.step else S.step.hold i.toNat) := Lib.hid rfl
  have HSE : Hid (S.flushE i = if i < 0 ∨ (S.dirty.length : Int) ≤ i then 2 else if S.stop then 3 else 0) := Lib.hid rfl
  generalize hpo : RDone m (S.flush i) (S.flushE i) _ w = Post
  have HPO := Lib.hid hpo
  have HDL := Lib.hid hdl
  have HO := Lib.hid ho
  clear hpo hdl ho
  clear hf h
  have HM := Lib.hid (Mem.two w #[.slice an m cn, .slice al m cl, .slice aw m cw, .slice ad m cd, .slice ap m cp, .int .i64 sv, .int .i64 fz, .bool dd] 31 zeroD 31)
  unfold zeroD at HM
  go_enter Try.func104, Try.ntmps104
  go_upto_region 1 with fail
  generalize (w.alloc _).alloc _ = w0 at *
  obtain ⟨q, hq⟩ : ∃ q, q = w.heap.size := ⟨_, rfl⟩
  rw [← hq] at HM ⊢
  have HQ := Lib.hid hq
  clear hq
  have c0 := HM.out.cell 0 0 rfl rfl
  by_cases h0 : i < 0 ∨ (S.dirty.length : Int) ≤ i
  · have hbad : Hid (S.flush i = S ∧ S.flushE i = 2) := Lib.hid (by rw [HSt.out, HSE.out, if_pos h0, if_pos h0]; exact ⟨rfl, rfl⟩)
    rw [HDL.out] at h0
    by_cases h1 : i < 0
    · clear h0
      go_wp2_with (first | (refine wpList_load_mem aggRd HM.out 0 rfl rfl rfl rfl rfl ?_) | (refine wpList_store_mem aggRd HM.out 1 rfl rfl rfl rfl rfl rfl rfl rfl ?_; intro w9 h9 _; have H9 := Lib.hid h9; clear h9))
      refine bodyPost_ret (results_cell_row2 (p := 4) (u := 5) rfl _ _ _ _ _ _ _ rfl (H9.out.exact 1 rfl) Try.underlying31 rfl (by kernel_rfl)) rfl ?_
      rw [← HPO.out, hbad.out.1, hbad.out.2]
      exact ⟨_, rfl, (HO.out.below H9.out.below).rat HDF.out.wf, rin_mk (fun a ha => .inl ha), H9.out.below⟩
    · have h2 : (m : Int) ≤ i := by omega
      clear h0
      go_wp2_with (first | (refine wpList_load_mem aggRd HM.out 0 rfl rfl rfl rfl rfl ?_) | (refine wpList_store_mem aggRd HM.out 1 rfl rfl rfl rfl rfl rfl rfl rfl ?_; intro w9 h9 _; have H9 := Lib.hid h9; clear h9))
      refine bodyPost_ret (results_cell_row2 (p := 4) (u := 5) rfl _ _ _ _ _ _ _ rfl (H9.out.exact 1 rfl) Try.underlying31 rfl (by kernel_rfl)) rfl ?_
      rw [← HPO.out, hbad.out.1, hbad.out.2]
      exact ⟨_, rfl, (HO.out.below H9.out.below).rat HDF.out.wf, rin_mk (fun a ha => .inl ha), H9.out.below⟩
  obtain ⟨j, rfl⟩ := Int.eq_ofNat_of_zero_le (show 0 ≤ i by omega)
  have hjm : j < m := by rw [HDL.out] at h0; omega
  have hjm' : (j : Int) < (m : Int) := by omega
  have hStop : Hid (S.flush (j : Int) = (if S.stop then S.step else S.step.hold j) ∧ S.flushE (j : Int) = if S.stop then 3 else 0) := Lib.hid (by rw [HSt.out, HSE.out, if_neg h0, if_neg h0]; exact ⟨rfl, rfl⟩)
  clear h0
  go_upto_region 3 with fail
  go_wp2_with (refine wpList_load_mem aggRd HM.out 0 rfl rfl rfl rfl rfl ?_)
  refine (rstep_any an al aw ad ap m cn cl cw cd cp sv fz dd _ (by omega) hfz).mono ?_
  rintro e w1 ⟨rfl, hb1⟩
  have HM1 := Lib.hid (HM.out.later hb1)
  have HO1 := Lib.hid (HRS w1 (HO.out.below HM1.out.below)).1
  rw [(HRS w1 (HO.out.below HM1.out.below)).2]
  clear hb1 HM c0 HRS
  have HSr := Lib.hid (S.step_rest)
  generalize (rstepF sv fz dd).steps = sv1 at *
  generalize (rstepF sv fz dd).fuse = fz1 at *
  generalize (rstepF sv fz dd).dead = dd1 at *
  generalize hstop : S.stop = st at *
  have HStp := Lib.hid hstop
  clear hstop
  go_upto_region 4 with (refine wpList_store_mem aggRd HM1.out 0 rfl rfl rfl rfl rfl rfl rfl rfl ?_; intro w2 h2 ht2; have HM2 := Lib.hid h2; have HT2 := Lib.hid ht2; clear h2 ht2)
  have HO2 := Lib.hid (HO.out.below HM2.out.below)
  clear HM1
  cases st
  case true =>
    go_wp2_with (first | (refine wpList_load_mem aggRd HM2.out 0 rfl rfl rfl rfl rfl ?_) | (refine wpList_store_mem aggRd HM2.out 1 rfl rfl rfl rfl rfl rfl rfl rfl ?_; intro w9 h9 _; have H9 := Lib.hid h9; clear h9))
    refine bodyPost_ret (results_cell_row2 (p := 4) (u := 5) rfl _ _ _ _ _ _ _ rfl (H9.out.exact 1 rfl) Try.underlying31 rfl (by kernel_rfl)) rfl ?_
    rw [← HPO.out, hStop.out.1, hStop.out.2, if_pos trivial, if_pos trivial]
    have h1 := HO1.out
    refine ⟨_, rfl, ROpen.rat ⟨?_, ?_, ?_, ?_, ?_, h1.hm, h1.hs, h1.hf, h1.hd, h1.cl⟩ HSF.out.wf, rin_mk (fun a ha => .inl ha), H9.out.below⟩
    · rw [HSr.out.2.1]; exact HO.out.k1.below H9.out.below (Nat.le_refl _)
    · rw [HSr.out.1]; exact HO.out.k2.below H9.out.below (Nat.le_refl _)
    · rw [HSr.out.2.2.1]; exact HO.out.k3.below H9.out.below (Nat.le_refl _)
    · rw [HSr.out.2.2.2.1]; exact HO.out.k4.below H9.out.below (Nat.le_refl _)
    · rw [HSr.out.2.2.2.2]; exact HO.out.k5.below H9.out.below (Nat.le_refl _)
  case false =>
    have c3 := HM2.out.cell 0 3 rfl rfl
    have hjd : j < S.dirty.length := by have := HDL.out; omega
    have HHold : Hid (S.step.hold j = if S.step.dirty.getD j false then { S.step with pending := S.step.pending.set j true, flushed := splice S.step.flushed (8 * j) (seg S.step.cache j) } else S.step) := Lib.hid rfl
    obtain ⟨b3, o3, rfl, _, hcs⟩ := HO2.out.k4.atMap false hjd
    have d0 := hcs j hjd
    clear hcs
    have HDY : Hid (S.dirty.getD j false = S.step.dirty.getD j false) := Lib.hid (by rw [HSr.out.2.2.2.1])
    generalize hdy : S.dirty.getD j false = dy at *
    clear hjd
    have HDY2 := Lib.hid hdy
    clear hdy
    cases dy
    case false =>
      go_wp2_with (first | (refine wpList_load_mem aggRd HM2.out 0 rfl rfl rfl rfl rfl ?_) | (refine wpList_store_mem aggRd HM2.out 1 rfl rfl rfl rfl rfl rfl rfl rfl ?_; intro w9 h9 _; have H9 := Lib.hid h9; clear h9))
      refine bodyPost_ret (results_cell_row2 (p := 4) (u := 5) rfl _ _ _ _ _ _ _ rfl (H9.out.exact 1 rfl) Try.underlying31 rfl (by kernel_rfl)) rfl ?_
      rw [← HPO.out, hStop.out.1, hStop.out.2, if_neg (by simp), if_neg (by simp), HHold.out, ← HDY.out, if_neg (by simp)]
      have h1 := HO1.out
      refine ⟨_, rfl, ROpen.rat ⟨?_, ?_, ?_, ?_, ?_, h1.hm, h1.hs, h1.hf, h1.hd, h1.cl⟩ HSF.out.wf, rin_mk (fun a ha => .inl ha), H9.out.below⟩
      · rw [HSr.out.2.1]; exact HO.out.k1.below H9.out.below (Nat.le_refl _)
      · rw [HSr.out.1]; exact HO.out.k2.below H9.out.below (Nat.le_refl _)
      · rw [HSr.out.2.2.1]; exact HO.out.k3.below H9.out.below (Nat.le_refl _)
      · rw [HSr.out.2.2.2.1]; exact HO.out.k4.below H9.out.below (Nat.le_refl _)
      · rw [HSr.out.2.2.2.2]; exact HO.out.k5.below H9.out.below (Nat.le_refl _)
    case true =>
      have c2 := HM2.out.cell 0 2 rfl rfl
      have c4 := HM2.out.cell 0 4 rfl rfl
      go_upto_region 7 with fail
      have r2 := fun x => later_cell c2 x
      have r4 := fun x => later_cell c4 x
      refine wp_region_seg (C := fun w' => ∃ x : Later (w2), w' = x.val) [.fl [0, 1, 3, 4], .sq [2] true, .fl [6], .sq [5] true, .sq [7, 8, 9] false] (by kernel_rfl) (by kernel_rfl) (by intro c a d v w h; cases d <;> exact h) ?_
      simp only [segs, picks, List.getElem?_cons_succ, List.getElem?_cons_zero]
      have hC1 := later_drew (w2)
      refine wpSeg_fl hC1 ?_
      repeat (first | go_big_quiet_step (fail) | quiet_step (fail))
      refine wpQuiet_nil ?_
      refine wpSeg_sq (fun K hK => ?_)
      go_wp2_with fail
      have HM3 := Lib.hid (HM2.out.later (later_below hC1))
      have HCL : Hid (S.flushed.length = 8 * m ∧ S.pending.length = m) := Lib.hid (by
        have h1 := HDF.out.wf.lenF
        have h2 := HDF.out.wf.lenP
        have h3 := HO.out.cl
        have h4 := HDL.out
        omega)
      refine (rlines_any aw m cw S.flushed _ (HO.out.k3.below HM3.out.below (Nat.le_refl _)) HCL.out.1 (by omega)).mono ?_
      rintro e w3 ⟨g1, cg1, rfl, hg1, hc1, hm1, hr1, hb3⟩
      have hC2 := later_step hC1 hb3
      have HM4 := Lib.hid (HM3.out.row hb3 hr1 hg1)
      clear hr1 hb3 HM3
      go_wp2_with fail
      refine hK _ _ (fun _ => hC2) ?_
      clear hK K
      refine wpSeg_fl hC2 ?_
      repeat (first | go_big_quiet_step (fail) | quiet_step (fail))
      refine wpQuiet_nil ?_
      refine wpSeg_sq (fun K hK => ?_)
      go_wp2_with fail
      refine (rflags_any ap m cp S.pending _ (HO.out.k5.below HM4.out.below (Nat.le_refl _)) HCL.out.2 (by omega)).mono ?_
      rintro e w4 ⟨g2, cg2, rfl, hg2, hc2, hm2, hr2, hb4⟩
      have hC3 := later_step hC2 hb4
      have HM5 := Lib.hid (HM4.out.row hb4 hr2 hg2)
      clear hr2 hb4 HM4
      go_wp2_with fail
      refine hK _ _ (fun _ => hC3) ?_
      clear hK K
      refine wpSeg_last ?_
      have f2 := HM5.out.frozen 0 2 rfl
      have f4 := HM5.out.frozen 0 4 rfl
      have c2' := HM5.out.cell 0 2 rfl rfl
      have c4' := HM5.out.cell 0 4 rfl rfl
      go_upto_region 8 with fail
      have HM6 := Lib.hid ((HM5.out.set 0 2 (.slice (some ⟨g1, 0, none⟩) m cg1) rfl (by simp)).set 0 4 (.slice (some ⟨g2, 0, none⟩) m cg2) rfl (by simp))
      clear HM5 HM2 hC1 hC2 hC3 r2 r4 c2 c3 c4 f2 f4 c2' c4' d0 HO2 HT2
      generalize (w4.setCell _ _).setCell _ _ = w5 at *
      have HO6 := Lib.hid (HO.out.below HM6.out.below)
      obtain ⟨b0, o0, a0, a1, a2, a3, a4, a5, a6, a7, rfl, hseg, e0, e1, e2, e3, e4, e5, e6, e7⟩ := line_cells HO6.out.k1 HO6.out.cl hjm
      have HSg := Lib.hid hseg
      have c0 := HM6.out.cell 0 0 rfl rfl
      have c2 := HM6.out.cell 0 2 rfl rfl
      have r0 := fun x => later_cell c0 x
      have r2 := fun x => later_cell c2 x
      have s0 := fun x => later_cell e0 x
      have s1 := fun x => later_cell e1 x
      have s2 := fun x => later_cell e2 x
      have s3 := fun x => later_cell e3 x
      have s4 := fun x => later_cell e4 x
      have s5 := fun x => later_cell e5 x
      have s6 := fun x => later_cell e6 x
      have s7 := fun x => later_cell e7 x
      clear hseg e0 e1 e2 e3 e4 e5 e6 e7 c0 c2
      refine wp_region_seg (C := fun w' => ∃ x : Later (w5), w' = x.val) [.fl [0, 1, 2, 3, 4, 5, 6, 7], .sq [8, 9] false] (by kernel_rfl) (by kernel_rfl) (by intro c a d v w h; cases d <;> exact h) ?_
      simp only [segs, picks, List.getElem?_cons_succ, List.getElem?_cons_zero]
      have hC1 := later_drew (w5)
      refine wpSeg_fl hC1 ?_
      repeat (first | go_big_quiet_step (fail) | quiet_step (fail))
      refine wpQuiet_nil ?_
      clear r0 r2 s0 s1 s2 s3 s4 s5 s6 s7
      have HM7 := Lib.hid (HM6.out.later (later_below hC1))
      clear HM6 HO6 hC1
      have hfit : j * 8 + 8 ≤ (S.flushed.map vu64).length := by rw [List.length_map, HCL.out.1]; omega
      refine wpSeg_last ?_
      go_upto_region 9 with (refine wpList_store_mem_part aggLine HM7.out 2 (cs := #[vu64 a0, vu64 a1, vu64 a2, vu64 a3, vu64 a4, vu64 a5, vu64 a6, vu64 a7]) rfl rfl rfl rfl rfl rfl hfit rfl ?_; intro w8 h8 _; have HM8 := Lib.hid h8; clear h8)
      clear HM7
      have hlt2 : j < (S.pending.map Value.bool).length := by rw [List.length_map, HCL.out.2]; omega
      have c4 := HM8.out.cell 0 4 rfl rfl
      have d1 := HM8.out.cell 3 j rfl (List.getElem?_eq_getElem hlt2)
      have f1 := HM8.out.frozen 3 j rfl
      have HM9 := Lib.hid (HM8.out.set 3 j (.bool true) rfl hlt2)
      generalize (S.pending.map Value.bool)[j] = old2 at d1
      clear hlt2
      go_wp2_with (first | (refine wpList_load_mem aggRd HM9.out 0 rfl rfl rfl rfl rfl ?_) | (refine wpList_store_mem aggRd HM9.out 1 rfl rfl rfl rfl rfl rfl rfl rfl ?_; intro w9 h9 _; have H9 := Lib.hid h9; clear h9))
      refine bodyPost_ret (results_cell_row2 (p := 4) (u := 5) rfl _ _ _ _ _ _ _ rfl (H9.out.exact 1 rfl) Try.underlying31 rfl (by kernel_rfl)) rfl ?_
      rw [← HPO.out, hStop.out.1, hStop.out.2, if_neg (by simp), if_neg (by simp)]
      have hwf := Dev.hold_wf HSF.out.wf j (by rw [HSr.out.2.2.2.1, HDL.out]; exact hjm)
      rw [HHold.out, ← HDY.out, if_pos rfl] at hwf ⊢
      have h1 := HO1.out
      refine ⟨_, rfl, ROpen.rat ⟨?_, ?_, ?_, ?_, ?_, h1.hm, h1.hs, h1.hf, h1.hd, h1.cl⟩ hwf, rin_mk (by have q1 := H9.out.gbase 2 rfl; have q2 := H9.out.gbase 3 rfl; intro a ha; simp only [List.mem_cons, List.not_mem_nil, or_false] at ha ⊢; rcases ha with rfl | rfl | rfl | rfl | rfl <;> first | exact .inr ⟨_, _, rfl, q1⟩ | exact .inr ⟨_, _, rfl, q2⟩ | simp), H9.out.below⟩
      · rw [HSr.out.2.1]; exact HO.out.k1.below H9.out.below (Nat.le_refl _)
      · rw [HSr.out.1]; exact HO.out.k2.below H9.out.below (Nat.le_refl _)
      · have h := (H9.out.at 2 rfl).cells
        dsimp only at h ⊢
        rw [HSr.out.2.2.1, HSr.out.2.1, ← splice_line HSg.out]
        exact h
      · rw [HSr.out.2.2.2.1]; exact HO.out.k4.below H9.out.below (Nat.le_refl _)
      · have h := (H9.out.at 3 rfl).cells
        dsimp only at h ⊢
        rw [HSr.out.2.2.2.2, map_set_bool]
        exact h

end Go.Proofs.Ytjgdplengfnkaaa

/- The reference's device: Fence. -/
namespace Go.Proofs.Ytjgdplengfnkaaa
open Go.RowKit
set_option linter.unusedVariables false

/-- Arrays of numbers, compared. -/
theorem run_eqItems_ints {P : Program} {e : TypeId} {k : IntKind} (he : P.underlying e = some (.int k)) (d : Nat) (w : World) (xs ys : List Int) :
    ∀ is : List Nat, (∀ i ∈ is, i < xs.length ∧ i < ys.length) → ∃ b, (Op.eqItems (d + 1) e 1 (xs.map (Value.int k)).toArray (ys.map (Value.int k)).toArray is).run P w = .ok b w ∧ (b = true ↔ ∀ i ∈ is, xs[i]? = ys[i]?)
  | [], _ => ⟨true, by simp [Op.eqItems], by simp⟩
  | i :: is, h => by
    obtain ⟨h1, h2⟩ := h i (by simp)
    obtain ⟨b, hb, hiff⟩ := run_eqItems_ints he d w xs ys is (fun j hj => h j (by simp [hj]))
    have hagg : (isAgg e).run P w = .ok false w := by unfold isAgg; rw [Sem.run_bind, run_underlying he w]; simp
    have hp : ∀ (zs : List Int) (hz : i < zs.length), (part e (zs.map (Value.int k)).toArray (i * 1)).run P w = .ok (.int k zs[i]) w := fun zs hz => by
      simp [part, hagg, hz]
    simp only [Op.eqItems, Sem.run_bind, hp xs h1, hp ys h2, Result.andThen_ok]
    rw [run_equalIn_int w d e k k _ _ he]
    simp only [Result.andThen_ok]
    by_cases hab : xs[i] = ys[i]
    · have : (xs[i] == ys[i]) = true := by simpa using hab
      simp only [this, Bool.not_true, Bool.false_eq_true, if_false]
      refine ⟨b, hb, ?_⟩
      rw [hiff]
      simp [h1, h2, hab]
    · have : (xs[i] == ys[i]) = false := by simpa using hab
      simp only [this, Bool.not_false, if_true, Sem.run_pure]
      refine ⟨false, rfl, ?_⟩
      simp [h1, h2, hab]
theorem cellsU64 : Try.prog.cellsOf 76 = 1 := by kernel_rfl
theorem infoU64 : (Try.prog.info? 76).isSome = true := by kernel_rfl
theorem equalLine (w : World) (xs ys : List Nat) (hx : xs.length = 8) (hy : ys.length = 8) : (Op.equalIn 10000 114 (.agg (xs.map vu64).toArray) (.agg (ys.map vu64).toArray)).run Try.prog w = .ok (decide (xs = ys)) w := by
  obtain ⟨i, hi⟩ := Option.isSome_iff_exists.1 infoU64
  have hn : ∀ l : List Nat, l.map vu64 = (l.map (fun n : Nat => (n : Int))).map (Value.int .u64) := by intro l; simp
  rw [show (10000 : Nat) = 9999 + 1 from rfl, run_equalIn_array w 9999 _ _ Try.underlying114 hi, cellsU64, show (9999 : Nat) = 9998 + 1 from rfl, hn xs, hn ys]
  obtain ⟨b, hb, hiff⟩ := run_eqItems_ints Try.underlying76 9998 w (xs.map (fun n : Nat => (n : Int))) (ys.map (fun n : Nat => (n : Int))) (List.range 8) (fun i hi => by simp at hi; simp; omega)
  rw [hb]
  have : b = decide (xs = ys) := by
    rw [Bool.eq_iff_iff, hiff, decide_eq_true_iff]
    constructor
    · intro h
      apply List.ext_getElem (by rw [hx, hy])
      intro i h1 h2
      have := h i (by simp; omega)
      simp [h1, h2] at this
      omega
    · rintro rfl i _; rfl
  rw [this]
theorem gsLine : Try.prog.eqGuardType Try.prog.depth 114 = false := by kernel_rfl

theorem Dev.settle_wf {S : Dev} (h : S.wf) (j : Nat) (hj : j < S.dirty.length) : (S.settle j).wf := by
  have hs := seg_length S.flushed j (by have := h.lenD; have := h.lenF; omega)
  unfold Dev.settle
  split
  · exact ⟨by show (splice _ _ _).length = _; rw [length_splice _ _ _ (by rw [hs, h.lenL, h.lenD]; omega)]; exact h.lenL, h.lenF, by simp [h.lenP], by simp [h.lenD], h.small, splice_lt _ h.u64L (seg_lt _ h.u64F), h.u64C, h.u64F⟩
  · exact h
theorem fenceTo_wf {S : Dev} (h : S.wf) : ∀ k, k ≤ S.dirty.length → (S.fenceTo k).wf
  | 0, _ => h
  | k + 1, hk => Dev.settle_wf (fenceTo_wf h k (by omega)) k (by rw [(fenceTo_len S k).1]; omega)
theorem settle_flags (S : Dev) (j : Nat) : (S.settle j).armed = S.armed ∧ (S.settle j).dead = S.dead := by unfold Dev.settle; split <;> exact ⟨rfl, rfl⟩
theorem fenceTo_flags (S : Dev) (k : Nat) : (S.fenceTo k).armed = S.armed ∧ (S.fenceTo k).dead = S.dead := by
  induction k with
  | zero => exact ⟨rfl, rfl⟩
  | succ k ih => have h := settle_flags (S.fenceTo k) k; exact ⟨h.1.trans ih.1, h.2.trans ih.2⟩
theorem fenceTo_fit {S : Dev} {N : Nat} (h : S.fit N) (k : Nat) (hk : k ≤ S.dirty.length) : (S.fenceTo k).fit N := by
  obtain ⟨e1, e2⟩ := fenceTo_steps S k
  obtain ⟨f1, f2⟩ := fenceTo_flags S k
  refine ⟨fenceTo_wf h.wf k hk, ?_, ?_⟩
  · unfold Dev.ok; rw [e1, e2]; exact h.ok
  · rw [f1, e2]; exact h.arm
theorem Dev.fence_fit {S : Dev} {N : Nat} (h : S.fit N) : S.fence.fit (N + 1) := by
  unfold Dev.fence
  split
  · exact Dev.step_fit h
  · exact fenceTo_fit (Dev.step_fit h) _ (by rw [S.step_rest.2.2.2.1]; exact Nat.le_refl _)
theorem Dev.fence_dl (S : Dev) : S.fence.dirty.length = S.dirty.length := by
  unfold Dev.fence
  split
  · rw [S.step_rest.2.2.2.1]
  · rw [(fenceTo_len _ _).1, S.step_rest.2.2.2.1]

/-- The blocks of a fence under way. -/
def fenceL (q : Nat) (T : Dev) (an aw : Option Addr) (m cn cw g1 c1 g2 c2 g3 c3 : Nat) (sv fz : Int) (dd : Bool) : List Ent :=
  [⟨q, 31, [.slice an m cn, .slice (some ⟨g1, 0, none⟩) m c1, .slice aw m cw, .slice (some ⟨g2, 0, none⟩) m c2, .slice (some ⟨g3, 0, none⟩) m c3, .int .i64 sv, .int .i64 fz, .bool dd], true⟩,
   ⟨q + 1, 31, zeroD.toList, true⟩, ⟨g1, 114, T.lasting.map vu64, false⟩, ⟨g2, 4, T.dirty.map Value.bool, false⟩, ⟨g3, 4, T.pending.map Value.bool, false⟩]

set_option maxHeartbeats 4000000 in
set_option maxRecDepth 100000 in
theorem rfence_any {w : World} {v : Value} {S : Dev} (h : RAt w v S.dirty.length S.ref) {N : Nat} (hN : N < 1000000000000) (hf : S.fit N) :
    Calls Try.prog 105 #[v] w (RDone S.dirty.length S.fence S.fenceE v w) := by
  obtain ⟨an, cn, al, cl, aw, cw, ad, cd, ap, cp, m, sv, fz, dd, rfl, ho, hdl, hm8, hsv, hfz⟩ := ropen h hf
  have HRS := fun W (h : ROpen W S an al aw ad ap m sv fz dd) => h.step hf
  have HSF := Lib.hid (Dev.step_fit hf)
  have HFF := Lib.hid (Dev.fence_fit hf)
  have HDF := Lib.hid hf
  rw [hdl]
  have HSt : Hid (S.fence = if S.stop then S.step else S.step.fenceTo S.dirty.length) := Lib.hid rfl
  have HSE : Hid (S.fenceE = if S.stop then 3 else 0) := Lib.hid rfl
  generalize hpo : RDone m S.fence S.fenceE _ w = Post
  have HPO := Lib.hid hpo
  have HDL := Lib.hid hdl
  have HO := Lib.hid ho
  clear hpo hdl ho
  clear hf h
  have HM := Lib.hid (Mem.two w #[.slice an m cn, .slice al m cl, .slice aw m cw, .slice ad m cd, .slice ap m cp, .int .i64 sv, .int .i64 fz, .bool dd] 31 zeroD 31)
  go_enter Try.func105, Try.ntmps105
  go_upto_region 1 with fail
  rw [show (#[.slice none 0 0, .slice none 0 0, .slice none 0 0, .slice none 0 0, .slice none 0 0, .int .i64 0, .int .i64 0, .bool false] : Array Value) = zeroD from rfl]
  generalize (w.alloc _).alloc _ = w0 at *
  obtain ⟨q, hq⟩ : ∃ q, q = w.heap.size := ⟨_, rfl⟩
  rw [← hq] at HM ⊢
  have HQ := Lib.hid hq
  clear hq
  go_wp2_with (refine wpList_load_mem aggRd HM.out 0 rfl rfl rfl rfl rfl ?_)
  refine (rstep_any an al aw ad ap m cn cl cw cd cp sv fz dd _ (by omega) hfz).mono ?_
  rintro e w1 ⟨rfl, hb1⟩
  have HM1 := Lib.hid (HM.out.later hb1)
  have HO1 := Lib.hid (HRS w1 (HO.out.below HM1.out.below)).1
  rw [(HRS w1 (HO.out.below HM1.out.below)).2]
  clear hb1 HM HRS
  have HSr := Lib.hid (S.step_rest)
  generalize (rstepF sv fz dd).steps = sv1 at *
  generalize (rstepF sv fz dd).fuse = fz1 at *
  generalize (rstepF sv fz dd).dead = dd1 at *
  generalize hstop : S.stop = st at *
  have HStp := Lib.hid hstop
  clear hstop
  go_upto_region 2 with (refine wpList_store_mem aggRd HM1.out 0 rfl rfl rfl rfl rfl rfl rfl rfl ?_; intro w2 h2 ht2; have HM2 := Lib.hid h2; clear h2 ht2)
  clear HM1
  cases st
  case true =>
    go_wp2_with (first | (refine wpList_load_mem aggRd HM2.out 0 rfl rfl rfl rfl rfl ?_) | (refine wpList_store_mem aggRd HM2.out 1 rfl rfl rfl rfl rfl rfl rfl rfl ?_; intro w9 h9 _; have H9 := Lib.hid h9; clear h9))
    refine bodyPost_ret (results_cell_row2 (p := 2) (u := 3) rfl _ _ _ _ _ _ _ rfl (H9.out.exact 1 rfl) Try.underlying31 rfl (by kernel_rfl)) rfl ?_
    rw [← HPO.out, HSt.out, HSE.out, if_pos trivial, if_pos trivial]
    have h1 := HO1.out
    refine ⟨_, rfl, ROpen.rat ⟨?_, ?_, ?_, ?_, ?_, h1.hm, h1.hs, h1.hf, h1.hd, h1.cl⟩ HSF.out.wf, rin_mk (fun a ha => .inl ha), H9.out.below⟩
    · rw [HSr.out.2.1]; exact HO.out.k1.below H9.out.below (Nat.le_refl _)
    · rw [HSr.out.1]; exact HO.out.k2.below H9.out.below (Nat.le_refl _)
    · rw [HSr.out.2.2.1]; exact HO.out.k3.below H9.out.below (Nat.le_refl _)
    · rw [HSr.out.2.2.2.1]; exact HO.out.k4.below H9.out.below (Nat.le_refl _)
    · rw [HSr.out.2.2.2.2]; exact HO.out.k5.below H9.out.below (Nat.le_refl _)
  case false =>
    have HCL : Hid (S.lasting.length = 8 * m ∧ S.pending.length = m ∧ S.flushed.length = 8 * m) := Lib.hid (by
      have h1 := HDF.out.wf.lenL
      have h2 := HDF.out.wf.lenP
      have h3 := HO.out.cl
      have h4 := HDL.out
      have h5 := HDF.out.wf.lenF
      omega)
    have c1 := HM2.out.cell 0 1 rfl rfl
    have c3 := HM2.out.cell 0 3 rfl rfl
    have c4 := HM2.out.cell 0 4 rfl rfl
    go_upto_region 4 with fail
    have r1 := fun x => later_cell c1 x
    have r3 := fun x => later_cell c3 x
    have r4 := fun x => later_cell c4 x
    refine wp_region_seg (C := fun w' => ∃ x : Later (w2), w' = x.val) [.fl [0, 1, 3, 4, 6, 7], .sq [2] true, .fl [9], .sq [5] true, .sq [8] true, .sq [10, 11, 12, 13, 14] false] (by kernel_rfl) (by kernel_rfl) (by intro c a d v w h; cases d <;> exact h) ?_
    simp only [segs, picks, List.getElem?_cons_succ, List.getElem?_cons_zero]
    have hC1 := later_drew (w2)
    refine wpSeg_fl hC1 ?_
    repeat (first | go_big_quiet_step (fail) | quiet_step (fail))
    refine wpQuiet_nil ?_
    refine wpSeg_sq (fun K hK => ?_)
    go_wp2_with fail
    have HM3 := Lib.hid (HM2.out.later (later_below hC1))
    refine (rlines_any al m cl S.lasting _ (HO.out.k2.below HM3.out.below (Nat.le_refl _)) HCL.out.1 (by omega)).mono ?_
    rintro e w3 ⟨g1, cg1, rfl, hg1, hc1, hm1, hr1, hb3⟩
    have hC2 := later_step hC1 hb3
    have HM4 := Lib.hid (HM3.out.row hb3 hr1 hg1)
    clear hr1 hb3 HM3
    go_wp2_with fail
    refine hK _ _ (fun _ => hC2) ?_
    clear hK K
    refine wpSeg_fl hC2 ?_
    repeat (first | go_big_quiet_step (fail) | quiet_step (fail))
    refine wpQuiet_nil ?_
    refine wpSeg_sq (fun K hK => ?_)
    go_wp2_with fail
    refine (rflags_any ad m cd S.dirty _ (HO.out.k4.below HM4.out.below (Nat.le_refl _)) HDL.out (by omega)).mono ?_
    rintro e w4 ⟨g2, cg2, rfl, hg2, hc2, hm2, hr2, hb4⟩
    have hC3 := later_step hC2 hb4
    have HM5 := Lib.hid (HM4.out.row hb4 hr2 hg2)
    clear hr2 hb4 HM4
    go_wp2_with fail
    refine hK _ _ (fun _ => hC3) ?_
    clear hK K
    refine wpSeg_sq (fun K hK => ?_)
    go_wp2_with fail
    refine (rflags_any ap m cp S.pending _ (HO.out.k5.below HM5.out.below (Nat.le_refl _)) HCL.out.2.1 (by omega)).mono ?_
    rintro e w5 ⟨g3, cg3, rfl, hg3, hc3, hm3, hr3, hb5⟩
    have hC4 := later_step hC3 hb5
    have HM6 := Lib.hid (HM5.out.row hb5 hr3 hg3)
    clear hr3 hb5 HM5
    go_wp2_with fail
    refine hK _ _ (fun _ => hC4) ?_
    clear hK K
    refine wpSeg_last ?_
    have f1 := HM6.out.frozen 0 1 rfl
    have f3 := HM6.out.frozen 0 3 rfl
    have f4 := HM6.out.frozen 0 4 rfl
    have c1' := HM6.out.cell 0 1 rfl rfl
    have c3' := HM6.out.cell 0 3 rfl rfl
    have c4' := HM6.out.cell 0 4 rfl rfl
    go_upto_region 5 with fail
    have HM7 := Lib.hid (((HM6.out.set 0 1 (.slice (some ⟨g1, 0, none⟩) m cg1) rfl (by simp)).set 0 3 (.slice (some ⟨g2, 0, none⟩) m cg2) rfl (by simp)).set 0 4 (.slice (some ⟨g3, 0, none⟩) m cg3) rfl (by simp))
    clear HM6 HM2 hC1 hC2 hC3 hC4 r1 r3 r4 c1 c3 c4 f1 f3 f4 c1' c3' c4'
    generalize ((w5.setCell _ _).setCell _ _).setCell _ _ = w6 at *
    have HM8 : Hid (Mem w w6 (fenceL q (S.step.fenceTo 0) an aw m cn cw g1 cg1 g2 cg2 g3 cg3 sv1 fz1 dd1)) := Lib.hid (by
      have h := HM7.out
      obtain ⟨e1, e2, e3, e4, e5⟩ := HSr.out
      show Mem w w6 [_, _, ⟨g1, _, S.step.lasting.map vu64, false⟩, ⟨g2, _, S.step.dirty.map Value.bool, false⟩, ⟨g3, _, S.step.pending.map Value.bool, false⟩]
      rw [e1, e4, e5]
      exact h)
    clear HM7
    go_wp2_with fail
    go_loopw [5] (fun i wr => ∃ k : Nat, k ≤ m ∧ i = .int .i64 k ∧ Mem w wr (fenceL q (S.step.fenceTo k) an aw m cn cw g1 cg1 g2 cg2 g3 cg3 sv1 fz1 dd1)) (fun i _ => m - (intOf i).toNat)
    case atStart => exact ⟨0, Nat.zero_le _, rfl, HM8.out⟩
    case round =>
      obtain ⟨k, hk, rfl, hmem⟩ := hrel
      have HT := Lib.hid (fenceTo_len S.step k)
      have HTw := Lib.hid (fenceTo_wf HSF.out.wf k (by rw [HSr.out.2.2.2.1, HDL.out]; exact hk))
      have HTn : Hid (S.step.fenceTo (k + 1) = (S.step.fenceTo k).settle k) := Lib.hid rfl
      have HTm : Hid (k = m → S.step.fenceTo m = S.step.fenceTo k) := Lib.hid (fun h => by rw [h])
      have HTf := Lib.hid (fenceTo_steps S.step k)
      have HTg := Lib.hid (fenceTo_flags S.step k)
      generalize S.step.fenceTo k = T at *
      have c0 := hmem.cell 0 0 rfl rfl
      have c1 := hmem.cell 0 1 rfl rfl
      have c2 := hmem.cell 0 2 rfl rfl
      have c3 := hmem.cell 0 3 rfl rfl
      have c4 := hmem.cell 0 4 rfl rfl
      have HMEM := Lib.hid hmem
      clear hmem
      clear HM8
      by_cases hlt : k < m
      · have hlt' : (k : Int) < (m : Int) := by omega
        have hpl : k < (T.pending.map Value.bool).length := by rw [List.length_map, HTw.out.lenP, HT.out.1, HSr.out.2.2.2.1, HDL.out]; exact hlt
        have d0 := HMEM.out.cell 4 k rfl (List.getElem?_eq_getElem hpl)
        rw [List.getElem_map] at d0
        have HPg : Hid (T.pending.getD k false = T.pending[k]'(by simpa using hpl)) := Lib.hid (by simp [show k < T.pending.length by simpa using hpl])
        generalize T.pending[k]'(by simpa using hpl) = pk at *
        have HST : Hid (T.settle k = if T.pending.getD k false then { T with lasting := splice T.lasting (8 * k) (seg T.flushed k), pending := T.pending.set k false, dirty := T.dirty.set k (!decide (seg T.flushed k = seg T.cache k)) } else T) := Lib.hid rfl
        rw [HPg.out] at HST
        cases pk
        case false =>
          go_wp2_with fail
          exact ⟨⟨k + 1, by omega, vint (by omega), by rw [HTn.out, HST.out, if_neg (by simp)]; exact HMEM.out⟩, by simp [intOf]; omega⟩
        case true =>
          clear hpl
          have hw := HMEM.out.below
          have HOk := Lib.hid (HO.out.below hw)
          have hwl : T.flushed.length = 8 * m := by rw [HT.out.2.2, HSr.out.2.2.1]; exact HCL.out.2.2
          obtain ⟨b0, o0, a0, a1, a2, a3, a4, a5, a6, a7, rfl, hseg, e0, e1, e2, e3, e4, e5, e6, e7⟩ := line_cells (l := S.flushed) HOk.out.k3 HCL.out.2.2 hlt
          obtain ⟨b1, o1, n0, n1, n2, n3, n4, n5, n6, n7, rfl, hseg2, p0, p1, p2, p3, p4, p5, p6, p7⟩ := line_cells (l := S.cache) HOk.out.k1 HOk.out.cl hlt
          have HSg : Hid (seg T.flushed k = [a0, a1, a2, a3, a4, a5, a6, a7]) := Lib.hid (by rw [HT.out.2.2, HSr.out.2.2.1]; exact hseg)
          have HSh : Hid (seg T.cache k = [n0, n1, n2, n3, n4, n5, n6, n7]) := Lib.hid (by rw [HT.out.2.1, HSr.out.2.1]; exact hseg2)
          have hfit : k * 8 + 8 ≤ (T.lasting.map vu64).length := by rw [List.length_map, HTw.out.lenL, HT.out.2.1, HSr.out.2.1, HO.out.cl]; omega
          clear hw hwl hseg hseg2
          go_upto_region 9 with fail
          have r1 := fun x => later_cell c1 x
          have r2 := fun x => later_cell c2 x
          have s0 := fun x => later_cell e0 x
          have s1 := fun x => later_cell e1 x
          have s2 := fun x => later_cell e2 x
          have s3 := fun x => later_cell e3 x
          have s4 := fun x => later_cell e4 x
          have s5 := fun x => later_cell e5 x
          have s6 := fun x => later_cell e6 x
          have s7 := fun x => later_cell e7 x
          refine wp_region_seg (C := fun w' => ∃ x : Later (wr), w' = x.val) [.fl [0, 1, 2, 3, 4, 5, 6, 7], .sq [8, 9] false] (by kernel_rfl) (by kernel_rfl) (by intro c a d v w h; cases d <;> exact h) ?_
          simp only [segs, picks, List.getElem?_cons_succ, List.getElem?_cons_zero]
          have hC1 := later_drew (wr)
          refine wpSeg_fl hC1 ?_
          repeat (first | go_big_quiet_step (fail) | quiet_step (fail))
          refine wpQuiet_nil ?_
          clear r1 r2 s0 s1 s2 s3 s4 s5 s6 s7
          have HM9 := Lib.hid (HMEM.out.later (later_below hC1))
          clear HMEM c0 c1 c2 c3 c4 d0 e0 e1 e2 e3 e4 e5 e6 e7 p0 p1 p2 p3 p4 p5 p6 p7
          refine wpSeg_last ?_
          go_upto_region 10 with (refine wpList_store_mem_part aggLine HM9.out 2 (cs := #[vu64 a0, vu64 a1, vu64 a2, vu64 a3, vu64 a4, vu64 a5, vu64 a6, vu64 a7]) rfl rfl rfl rfl rfl rfl hfit rfl ?_; intro w8 h8 _; have HM8 := Lib.hid h8; clear h8)
          clear HM9 hC1 HOk
          have hpl : k < (T.pending.map Value.bool).length := by rw [List.length_map, HTw.out.lenP, HT.out.1, HSr.out.2.2.2.1, HDL.out]; exact hlt
          have hdl2 : k < (T.dirty.map Value.bool).length := by rw [List.length_map, HT.out.1, HSr.out.2.2.2.1, HDL.out]; exact hlt
          have c4 := HM8.out.cell 0 4 rfl rfl
          have d1 := HM8.out.cell 4 k rfl (List.getElem?_eq_getElem hpl)
          have f1 := HM8.out.frozen 4 k rfl
          have HM10 := Lib.hid (HM8.out.set 4 k (.bool false) rfl hpl)
          generalize (T.pending.map Value.bool)[k] = old2 at d1
          clear hpl
          go_upto_region 11 with fail
          clear c4 d1 f1 HM8
          generalize w8.setCell _ _ = w9 at *
          have HOk := Lib.hid (HO.out.below HM10.out.below)
          obtain ⟨b0', o0', a0', a1', a2', a3', a4', a5', a6', a7', he1, hseg, e0, e1, e2, e3, e4, e5, e6, e7⟩ := line_cells (l := S.flushed) HOk.out.k3 HCL.out.2.2 hlt
          obtain ⟨b1', o1', n0', n1', n2', n3', n4', n5', n6', n7', he2, hseg2, p0, p1, p2, p3, p4, p5, p6, p7⟩ := line_cells (l := S.cache) HOk.out.k1 HOk.out.cl hlt
          cases he1
          cases he2
          rw [← HSr.out.2.2.1, ← HT.out.2.2, HSg.out] at hseg
          rw [← HSr.out.2.1, ← HT.out.2.1, HSh.out] at hseg2
          cases hseg
          cases hseg2
          have c0 := HM10.out.cell 0 0 rfl rfl
          have c2 := HM10.out.cell 0 2 rfl rfl
          have c3 := HM10.out.cell 0 3 rfl rfl
          have r0 := fun x => later_cell c0 x
          have r2 := fun x => later_cell c2 x
          have r3 := fun x => later_cell c3 x
          have s0 := fun x => later_cell e0 x
          have s1 := fun x => later_cell e1 x
          have s2 := fun x => later_cell e2 x
          have s3 := fun x => later_cell e3 x
          have s4 := fun x => later_cell e4 x
          have s5 := fun x => later_cell e5 x
          have s6 := fun x => later_cell e6 x
          have s7 := fun x => later_cell e7 x
          have t0 := fun x => later_cell p0 x
          have t1 := fun x => later_cell p1 x
          have t2 := fun x => later_cell p2 x
          have t3 := fun x => later_cell p3 x
          have t4 := fun x => later_cell p4 x
          have t5 := fun x => later_cell p5 x
          have t6 := fun x => later_cell p6 x
          have t7 := fun x => later_cell p7 x
          have heq : ∀ w', (Op.equalIn 10000 114 (.agg #[vu64 n0, vu64 n1, vu64 n2, vu64 n3, vu64 n4, vu64 n5, vu64 n6, vu64 n7]) (.agg #[vu64 a0, vu64 a1, vu64 a2, vu64 a3, vu64 a4, vu64 a5, vu64 a6, vu64 a7])).run Try.prog w' = .ok (decide ([n0, n1, n2, n3, n4, n5, n6, n7] = [a0, a1, a2, a3, a4, a5, a6, a7])) w' := fun w' => equalLine w' [n0, n1, n2, n3, n4, n5, n6, n7] [a0, a1, a2, a3, a4, a5, a6, a7] rfl rfl
          have HDc : Hid (decide (seg T.flushed k = seg T.cache k) = decide ([n0, n1, n2, n3, n4, n5, n6, n7] = [a0, a1, a2, a3, a4, a5, a6, a7])) := Lib.hid (by rw [HSg.out, HSh.out, decide_eq_decide]; exact eq_comm)
          have hgd := gsLine
          generalize decide ([n0, n1, n2, n3, n4, n5, n6, n7] = [a0, a1, a2, a3, a4, a5, a6, a7]) = bb at *
          clear c0 c2 c3 e0 e1 e2 e3 e4 e5 e6 e7 p0 p1 p2 p3 p4 p5 p6 p7
          refine wp_region_seg (C := fun w' => ∃ x : Later (w9), w' = x.val) [.fl [0, 1, 2, 3, 4, 5, 6, 7, 8, 9, 10, 11, 12, 13], .sq [14, 15] false] (by kernel_rfl) (by kernel_rfl) (by intro c a d v w h; cases d <;> exact h) ?_
          simp only [segs, picks, List.getElem?_cons_succ, List.getElem?_cons_zero]
          have hC1 := later_drew (w9)
          refine wpSeg_fl hC1 ?_
          repeat (first | go_big_quiet_step (fail) | quiet_step (fail))
          refine wpQuiet_nil ?_
          clear r0 r2 r3 s0 s1 s2 s3 s4 s5 s6 s7 t0 t1 t2 t3 t4 t5 t6 t7 heq hgd
          have HM11 := Lib.hid (HM10.out.later (later_below hC1))
          clear HM10 hC1 HOk
          have d1 := HM11.out.cell 3 k rfl (List.getElem?_eq_getElem hdl2)
          have f1 := HM11.out.frozen 3 k rfl
          have HM12 := Lib.hid (HM11.out.set 3 k (.bool (!bb)) rfl hdl2)
          generalize (T.dirty.map Value.bool)[k] = old3 at d1
          clear hdl2
          refine wpSeg_last ?_
          go_wp2_with fail
          refine ⟨⟨k + 1, by omega, vint (by omega), ?_⟩, by simp [intOf]; omega⟩
          rw [HTn.out, HST.out, if_pos rfl, HDc.out]
          unfold fenceL
          dsimp only
          rw [map_set_bool, map_set_bool, ← splice_line HSg.out]
          exact HM12.out
      · obtain rfl : k = m := by omega
        have hlt' : decide ((k : Int) < (k : Int)) = false := by simp
        go_wp2_with (first | (refine wpList_load_mem aggRd HMEM.out 0 rfl rfl rfl rfl rfl ?_) | (refine wpList_store_mem aggRd HMEM.out 1 rfl rfl rfl rfl rfl rfl rfl rfl ?_; intro w9 h9 _; have H9 := Lib.hid h9; clear h9))
        refine bodyPost_ret (results_cell_row2 (p := 2) (u := 3) rfl _ _ _ _ _ _ _ rfl (H9.out.exact 1 rfl) Try.underlying31 rfl (by kernel_rfl)) rfl ?_
        rw [← HPO.out, HSt.out, HSE.out, if_neg (by simp), if_neg (by simp), HDL.out, HTm.out (by first | rfl | trivial)]
        have h1 := HO1.out
        have hb := H9.out.below
        refine ⟨_, rfl, ROpen.rat ⟨?_, (H9.out.at 2 rfl).cells, ?_, (H9.out.at 3 rfl).cells, (H9.out.at 4 rfl).cells, ?_, ?_, ?_, ?_, ?_⟩ HTw.out, rin_mk (by have q1 := H9.out.gbase 2 rfl; have q2 := H9.out.gbase 3 rfl; have q3 := H9.out.gbase 4 rfl; intro a ha; simp only [List.mem_cons, List.not_mem_nil, or_false] at ha ⊢; rcases ha with rfl | rfl | rfl | rfl | rfl <;> first | exact .inr ⟨_, _, rfl, q1⟩ | exact .inr ⟨_, _, rfl, q2⟩ | exact .inr ⟨_, _, rfl, q3⟩ | simp), hb⟩
        · rw [HT.out.2.1, HSr.out.2.1]; exact HO.out.k1.below hb (Nat.le_refl _)
        · rw [HT.out.2.2, HSr.out.2.2.1]; exact HO.out.k3.below hb (Nat.le_refl _)
        · rw [HT.out.1, HSr.out.2.2.2.1, HDL.out]
        · rw [HTf.out.1]; exact h1.hs
        · rw [h1.hf]
          unfold Dev.ref
          dsimp only
          rw [HTf.out.2, HTg.out.1]
        · rw [HTg.out.2]; exact h1.hd
        · rw [HT.out.2.1]; exact h1.cl

end Go.Proofs.Ytjgdplengfnkaaa

/- The reference's device: Persist, New. -/
namespace Go.Proofs.Ytjgdplengfnkaaa
open Go.RowKit
set_option linter.unusedVariables false

/-- The lines of words p to p + n, so many. -/
def linesOf (p n : Nat) : Nat := if 0 < n then (p + n - 1) / 8 - p / 8 + 1 else 0
def Dev.runAt (S : Dev) (p n k : Nat) : Done := S.flushRun (p / 8) (min (k - p / 8) (linesOf p n))

theorem runAt_zero (S : Dev) (p n : Nat) : S.runAt p n 0 = ⟨S, 0⟩ := by
  unfold Dev.runAt
  rw [Nat.zero_sub, Nat.zero_min]; rfl
theorem runAt_miss (S : Dev) (p n k : Nat) (h : ¬ (0 < n ∧ p ≤ 8 * k + 7 ∧ 8 * k < p + n)) : S.runAt p n (k + 1) = S.runAt p n k := by
  unfold Dev.runAt
  congr 1
  unfold linesOf
  split <;> omega
theorem runAt_hit (S : Dev) (p n k : Nat) (h : 0 < n ∧ p ≤ 8 * k + 7 ∧ 8 * k < p + n) (he : (S.runAt p n k).err = 0) : S.runAt p n (k + 1) = ⟨(S.runAt p n k).dev.flush (k : Int), (S.runAt p n k).dev.flushE (k : Int)⟩ := by
  have h1 : min (k - p / 8) (linesOf p n) = k - p / 8 := by unfold linesOf; rw [if_pos h.1]; omega
  have h2 : min (k + 1 - p / 8) (linesOf p n) = (k - p / 8) + 1 := by unfold linesOf; rw [if_pos h.1]; omega
  unfold Dev.runAt at he ⊢
  rw [h1] at he
  rw [h2, h1, Dev.flushRun, if_neg (by rw [he]; simp), show p / 8 + (k - p / 8) = k by omega]
theorem runAt_stays (S : Dev) (p n k m : Nat) (hm : p + n ≤ 8 * m) (hk : k ≤ m) (h : (S.runAt p n k).err ≠ 0) : S.runAt p n k = S.flushRun (p / 8) (linesOf p n) := by
  unfold Dev.runAt at h ⊢
  exact (Dev.flushRun_stays S _ _ _ (Nat.min_le_right _ _) h).symm
theorem runAt_end (S : Dev) (p n m : Nat) (hm : p + n ≤ 8 * m) : S.runAt p n m = S.flushRun (p / 8) (linesOf p n) := by
  unfold Dev.runAt
  congr 1
  unfold linesOf
  split <;> omega
theorem persist_run {S : Dev} (p n : Nat) (h : p + n ≤ S.cache.length) : S.persist (p : Int) (n : Int) = if (S.flushRun (p / 8) (linesOf p n)).err ≠ 0 then S.flushRun (p / 8) (linesOf p n) else ⟨(S.flushRun (p / 8) (linesOf p n)).dev.fence, (S.flushRun (p / 8) (linesOf p n)).dev.fenceE⟩ := by
  unfold Dev.persist
  rw [if_neg (by omega)]
  by_cases h0 : 0 < n
  · rw [if_pos (by omega)]
    unfold Dev.persistN linesOf
    rw [if_pos h0, show ((p : Int) / 8).toNat = p / 8 by omega, show (((p : Int) + (n : Int) - 1) / 8 - (p : Int) / 8 + 1).toNat = (p + n - 1) / 8 - p / 8 + 1 by omega]
  · rw [if_neg (by omega)]
    unfold linesOf
    rw [if_neg h0]
    rfl
theorem flushRun_fit {S : Dev} {N : Nat} (h : S.fit N) (a : Nat) : ∀ k, (S.flushRun a k).dev.fit (N + k)
  | 0 => h
  | k + 1 => by
    rw [Dev.flushRun]
    split
    · exact (flushRun_fit h a k).mono (by omega)
    · exact Dev.flush_fit (flushRun_fit h a k) _
theorem flushRun_dl (S : Dev) (a : Nat) : ∀ k, (S.flushRun a k).dev.dirty.length = S.dirty.length
  | 0 => rfl
  | k + 1 => by
    rw [Dev.flushRun]
    split
    · exact flushRun_dl S a k
    · dsimp only; rw [Dev.flush_dl]; exact flushRun_dl S a k
theorem Dev.persist_fit {S : Dev} {N : Nat} (h : S.fit N) (p n : Int) : (S.persist p n).dev.fit (N + 200000) := by
  have hs := h.wf.small
  have hd := h.wf.lenD
  unfold Dev.persist
  split
  · exact h.mono (by omega)
  · split
    · unfold Dev.persistN
      have hM : ((p + n - 1) / 8 - p / 8 + 1).toNat ≤ 150000 := by omega
      split
      · exact (flushRun_fit h _ _).mono (by omega)
      · exact (Dev.fence_fit (flushRun_fit h _ _)).mono (by omega)
    · exact (Dev.fence_fit h).mono (by omega)
theorem Dev.persist_dl (S : Dev) (p n : Int) : (S.persist p n).dev.dirty.length = S.dirty.length := by
  unfold Dev.persist
  split
  · rfl
  · split
    · unfold Dev.persistN
      split
      · exact flushRun_dl _ _ _
      · dsimp only; rw [Dev.fence_dl]; exact flushRun_dl _ _ _
    · exact Dev.fence_dl S

theorem rstore_m {w : World} {v : Value} {S : Dev} {m : Nat} (hm : S.dirty.length = m) (h : RAt w v m S.ref) {N : Nat} (hN : N < 1000000000000) (hf : S.fit N) (i : Int) (x : Nat) (hx : x < 18446744073709551616) (hi : -9223372036854775808 ≤ i ∧ i ≤ 9223372036854775807) :
    Calls Try.prog 81 #[v, .int .i64 i, vu64 x] w (RDone m (S.store i x) (S.storeE i) v w) := by
  subst hm; exact rstore_any h hN hf i x hx hi
theorem rflush_m {w : World} {v : Value} {S : Dev} {m : Nat} (hm : S.dirty.length = m) (h : RAt w v m S.ref) {N : Nat} (hN : N < 1000000000000) (hf : S.fit N) (i : Int) :
    Calls Try.prog 104 #[v, .int .i64 i] w (RDone m (S.flush i) (S.flushE i) v w) := by
  subst hm; exact rflush_any h hN hf i
theorem rfence_m {w : World} {v : Value} {S : Dev} {m : Nat} (hm : S.dirty.length = m) (h : RAt w v m S.ref) {N : Nat} (hN : N < 1000000000000) (hf : S.fit N) :
    Calls Try.prog 105 #[v] w (RDone m S.fence S.fenceE v w) := by
  subst hm; exact rfence_any h hN hf
/-- A boxed device, and the result's place. -/
def RBox (v0 : Value) (w W : World) (q m : Nat) (T : Dev) : Prop := ∃ an cn al cl aw cw ad cd ap cp sv fz dd, Mem w W [⟨q, 31, [.slice an m cn, .slice al m cl, .slice aw m cw, .slice ad m cd, .slice ap m cp, .int .i64 sv, .int .i64 fz, .bool dd], true⟩, ⟨q + 1, 31, zeroD.toList, true⟩] ∧
  RAt W (.agg #[.slice an m cn, .slice al m cl, .slice aw m cw, .slice ad m cd, .slice ap m cp, .int .i64 sv, .int .i64 fz, .bool dd]) m T.ref ∧ (m = 0 ∨ ∀ b, RIn (.agg #[.slice an m cn, .slice al m cl, .slice aw m cw, .slice ad m cd, .slice ap m cp, .int .i64 sv, .int .i64 fz, .bool dd]) b → b < q ∨ q + 2 ≤ b) ∧
  (∀ b, RIn (.agg #[.slice an m cn, .slice al m cl, .slice aw m cw, .slice ad m cd, .slice ap m cp, .int .i64 sv, .int .i64 fz, .bool dd]) b → RIn v0 b ∨ w.heap.size ≤ b)

set_option maxHeartbeats 4000000 in
set_option maxRecDepth 100000 in
theorem rpersist_any {w : World} {v : Value} {S : Dev} (h : RAt w v S.dirty.length S.ref) {N : Nat} (hN : N < 100000000000) (hf : S.fit N) (p n : Int) :
    Calls Try.prog 82 #[v, .int .i64 p, .int .i64 n] w (RDone S.dirty.length (S.persist p n).dev (S.persist p n).err v w) := by
  obtain ⟨an, cn, al, cl, aw, cw, ad, cd, ap, cp, m, sv, fz, dd, rfl, ho, hdl, hm8, hsv, hfz⟩ := ropen h hf
  have HRA := Lib.hid h
  have HOld := Lib.hid h.old
  rw [hdl] at HOld
  obtain ⟨v0, hv0⟩ : ∃ v0 : Value, v0 = .agg #[.slice an m cn, .slice al m cl, .slice aw m cw, .slice ad m cd, .slice ap m cp, .int .i64 sv, .int .i64 fz, .bool dd] := ⟨_, rfl⟩
  have HV0 := Lib.hid hv0
  clear hv0
  have HDF := Lib.hid hf
  rw [hdl] at HRA
  rw [hdl]
  have HPD : Hid (S.persist p n = if p < 0 ∨ n < 0 ∨ (S.cache.length : Int) < p ∨ (S.cache.length : Int) - p < n then ⟨S, 2⟩
    else if 0 < n then S.persistN (p / 8).toNat ((p + n - 1) / 8 - p / 8 + 1).toNat else ⟨S.fence, S.fenceE⟩) := Lib.hid rfl
  have HPR := Lib.hid (persist_run (S := S))
  have HCL : Hid (S.cache.length = 8 * m) := Lib.hid ho.cl
  generalize hpo : RDone m (S.persist p n).dev (S.persist p n).err _ w = Post
  have HPO := Lib.hid hpo
  have HDL := Lib.hid hdl
  have HO := Lib.hid ho
  clear hpo hdl ho
  clear hf h
  have HM := Lib.hid (Mem.two w #[.slice an m cn, .slice al m cl, .slice aw m cw, .slice ad m cd, .slice ap m cp, .int .i64 sv, .int .i64 fz, .bool dd] 31 zeroD 31)
  go_enter Try.func82, Try.ntmps82
  go_upto_region 1 with fail
  rw [show (#[.slice none 0 0, .slice none 0 0, .slice none 0 0, .slice none 0 0, .slice none 0 0, .int .i64 0, .int .i64 0, .bool false] : Array Value) = zeroD from rfl]
  generalize (w.alloc _).alloc _ = w0 at *
  obtain ⟨q, hq⟩ : ∃ q, q = w.heap.size := ⟨_, rfl⟩
  rw [← hq] at HM ⊢
  have HQ := Lib.hid hq
  clear hq
  have c0 := HM.out.cell 0 0 rfl rfl
  go_cut [33] from 10 (fun c wc => c = .bool (decide (p < 0 ∨ n < 0 ∨ 8 * (m : Int) < p ∨ 8 * (m : Int) - p < n)) ∧ wc = w0)
  case first =>
    by_cases h1 : p < 0
    · go_wp2_with fail
      go_meet
      exact ⟨by simp [h1], rfl⟩
    by_cases h2 : n < 0
    · go_wp2_with fail
      go_meet
      exact ⟨by simp [h2], rfl⟩
    by_cases h3 : 8 * (m : Int) < p
    · go_wp2_with fail
      go_meet
      exact ⟨by simp [h3], rfl⟩
    have hw : IntKind.i64.wrap (8 * (m : Int) - p) = 8 * (m : Int) - p := IntWalk.i64_in _ (by omega)
    by_cases h4 : 8 * (m : Int) - p < n
    · go_wp2_with fail
      go_meet
      exact ⟨by simp [h4], rfl⟩
    have h5 : ¬ (p < 0 ∨ n < 0 ∨ 8 * (m : Int) < p ∨ 8 * (m : Int) - p < n) := by omega
    have H5 := Lib.hid h5
    clear h5
    go_wp2_with fail
    go_meet
    exact ⟨by simp [H5.out], rfl⟩
  case rest =>
    obtain ⟨rfl, rfl⟩ := hcut
    by_cases h0 : p < 0 ∨ n < 0 ∨ 8 * (m : Int) < p ∨ 8 * (m : Int) - p < n
    · have HV : Hid (S.persist p n = ⟨S, 2⟩) := Lib.hid (by rw [HPD.out, if_pos (by rw [HCL.out]; omega)])
      rw [decide_eq_true h0]
      clear h0
      go_wp2_with (first | (refine wpList_load_mem aggRd HM.out 0 rfl rfl rfl rfl rfl ?_) | (refine wpList_store_mem aggRd HM.out 1 rfl rfl rfl rfl rfl rfl rfl rfl ?_; intro w9 h9 _; have H9 := Lib.hid h9; clear h9))
      refine bodyPost_ret (results_cell_row2 (p := 6) (u := 7) rfl _ _ _ _ _ _ _ rfl (H9.out.exact 1 rfl) Try.underlying31 rfl (by kernel_rfl)) rfl ?_
      rw [← HPO.out, HV.out]
      exact ⟨_, rfl, HRA.out.below H9.out.below (Nat.le_refl _), fun b hb => .inl hb, H9.out.below⟩
    rw [decide_eq_false h0]
    obtain ⟨p, rfl⟩ := Int.eq_ofNat_of_zero_le (show 0 ≤ p by omega)
    obtain ⟨n, rfl⟩ := Int.eq_ofNat_of_zero_le (show 0 ≤ n by omega)
    have hpn : p + n ≤ 8 * m := by omega
    have hpr := HPR.out p n (by rw [HCL.out]; exact hpn)
    have HV := Lib.hid hpr
    clear h0 hpr
    clear HPR HPD c0
    go_wp2_with fail
    go_loopw [8, 9] (fun e i wr => ∃ k : Nat, k ≤ m ∧ i = .int .i64 k ∧ e = .int .i64 0 ∧ (S.runAt p n k).err = 0 ∧ RBox v0 w wr q m (S.runAt p n k).dev) (fun _ i _ => m - (intOf i).toNat)
    case atStart => exact ⟨0, Nat.zero_le _, rfl, rfl, by rw [runAt_zero], by rw [runAt_zero]; exact ⟨_, _, _, _, _, _, _, _, _, _, _, _, _, HM.out, HRA.out.below HM.out.below (Nat.le_refl _), HOld.out.imp id (fun h b hb => .inl (by rw [HQ.out]; exact h b hb)), fun b hb => .inl (by rw [HV0.out]; exact hb)⟩⟩
    case round =>
      obtain ⟨k, hk, rfl, rfl, he0, an, cn, al, cl, aw, cw, ad, cd, ap, cp, sv, fz, dd, hmem, hra, hap, hri⟩ := hrel
      have HMs := Lib.hid (runAt_miss S p n k)
      have HHt := Lib.hid (runAt_hit S p n k)
      have HSy := Lib.hid (fun h => runAt_stays S p n (k + 1) m hpn h)
      have HEn := Lib.hid (runAt_end S p n m hpn)
      have HKm : Hid (k = m → S.runAt p n m = S.runAt p n k) := Lib.hid (fun h => by rw [h])
      have HTf := Lib.hid (flushRun_fit HDF.out (p / 8) (min (k - p / 8) (linesOf p n)))
      have HTd := Lib.hid (flushRun_dl S (p / 8) (min (k - p / 8) (linesOf p n)))
      have hln : linesOf p n ≤ 200000 := by unfold linesOf; split <;> omega
      have hmin : min (k - p / 8) (linesOf p n) ≤ 200000 := by omega
      rw [show S.flushRun (p / 8) (min (k - p / 8) (linesOf p n)) = S.runAt p n k from rfl] at HTf HTd
      generalize min (k - p / 8) (linesOf p n) = mm at *
      generalize S.runAt p n k = T at *
      have c0 := hmem.cell 0 0 rfl rfl
      have HTL : Hid (T.dev.dirty.length = m) := Lib.hid (by rw [HTd.out, HDL.out])
      have HMEM := Lib.hid hmem
      have HE0 := Lib.hid he0
      clear hmem he0
      have HRA2 := Lib.hid hra
      clear hra
      have HAP := Lib.hid hap
      have HRI := Lib.hid hri
      clear HM hap hri
      by_cases hlt : k < m
      · have hlt' : (k : Int) < (m : Int) := by omega
        by_cases hh : 0 < n ∧ p ≤ 8 * k + 7 ∧ 8 * k < p + n
        · have HHn := Lib.hid (HHt.out hh HE0.out)
          obtain ⟨h1, h2, h3⟩ := hh
          have h1' : (0 : Int) < (n : Int) := by omega
          have h2' : (p : Int) ≤ 8 * (k : Int) + 7 := by omega
          have h3' : 8 * (k : Int) < (p : Int) + (n : Int) := by omega
          go_wp2_with (refine wpList_load_mem aggRd HMEM.out 0 rfl rfl rfl rfl rfl ?_)
          refine (rflush_m HTL.out HRA2.out (N := N + mm) (by omega) HTf.out k).mono ?_
          rintro e w1 ⟨v', rfl, hra1, hri1, hb1⟩
          obtain ⟨an1, cn1, al1, cl1, aw1, cw1, ad1, cd1, ap1, cp1, rfl, y1, y2, y3, y4, y5⟩ := hra1.ex
          clear y1 y2 y3 y4 y5
          generalize T.dev.flush (k : Int) = T1 at *
          generalize T.dev.flushE (k : Int) = E1 at *
          generalize T1.ref.steps = sv1 at *
          generalize T1.ref.fuse = fz1 at *
          generalize T1.ref.dead = dd1 at *
          have HM1 := Lib.hid (HMEM.out.later hb1)
          have HR1 := Lib.hid hra1
          have hq2 : q + 2 ≤ wr.heap.size := HMEM.out.glt 1 rfl
          have HAP1 : Hid (m = 0 ∨ ∀ b, RIn (.agg #[.slice an1 m cn1, .slice al1 m cl1, .slice aw1 m cw1, .slice ad1 m cd1, .slice ap1 m cp1, .int .i64 sv1, .int .i64 fz1, .bool dd1]) b → b < q ∨ q + 2 ≤ b) := Lib.hid (HAP.out.imp id (fun h b hb => (hri1 b hb).elim (h b) (fun h => .inr (by omega))))
          have HRI1 : Hid (∀ b, RIn (.agg #[.slice an1 m cn1, .slice al1 m cl1, .slice aw1 m cw1, .slice ad1 m cd1, .slice ap1 m cp1, .int .i64 sv1, .int .i64 fz1, .bool dd1]) b → RIn v0 b ∨ w.heap.size ≤ b) := Lib.hid (fun b hb => (hri1 b hb).elim (HRI.out b) (fun h => .inr (by have := HMEM.out.below.size; omega)))
          clear hra1 hb1 hri1 HMEM c0 HAP HRI
          by_cases hE : E1 = 0
          · subst hE
            go_wp2_with (refine wpList_store_mem aggRd HM1.out 0 rfl rfl rfl rfl rfl rfl rfl rfl ?_; intro w2 h2 ht2; have HM2 := Lib.hid h2; have HT2 := Lib.hid ht2; clear h2 ht2)
            refine ⟨⟨k + 1, by omega, vint (by omega), rfl, by rw [HHn.out], ?_⟩, by simp [intOf]; omega⟩
            rw [HHn.out]
            exact ⟨_, _, _, _, _, _, _, _, _, _, _, _, _, HM2.out, HR1.out.touch HT2.out (HAP1.out.imp id (fun h b hb => by have := h b hb; simp; omega)), HAP1.out, HRI1.out⟩
          · have hE1 : (E1 != 0) = true := by simpa using hE
            have HR : Hid (S.persist (p : Int) (n : Int) = ⟨T1, E1⟩) := Lib.hid (by
              have h1 := HSy.out (by omega) (by rw [HHn.out]; exact hE)
              rw [HHn.out] at h1
              rw [HV.out, ← h1, if_pos hE])
            clear hE
            go_upto_region 9 with (refine wpList_store_mem aggRd HM1.out 0 rfl rfl rfl rfl rfl rfl rfl rfl ?_; intro w2 h2 ht2; have HM2 := Lib.hid h2; have HT2 := Lib.hid ht2; clear h2 ht2)
            go_wp2_with (first | (refine wpList_load_mem aggRd HM2.out 0 rfl rfl rfl rfl rfl ?_) | (refine wpList_store_mem aggRd HM2.out 1 rfl rfl rfl rfl rfl rfl rfl rfl ?_; intro w9 h9 ht9; have H9 := Lib.hid h9; have HT9 := Lib.hid ht9; clear h9 ht9))
            refine bodyPost_ret (results_cell_row2 (p := 6) (u := 7) rfl _ _ _ _ _ _ _ rfl (H9.out.exact 1 rfl) Try.underlying31 rfl (by kernel_rfl)) rfl ?_
            rw [← HPO.out, HR.out]
            exact ⟨_, rfl, (HR1.out.touch HT2.out (HAP1.out.imp id (fun h b hb => by have := h b hb; simp; omega))).touch HT9.out (HAP1.out.imp id (fun h b hb => by have := h b hb; simp; omega)), by rw [← HV0.out]; exact HRI1.out, H9.out.below⟩
        · have HHn := Lib.hid (HMs.out hh)
          have hh' : n = 0 ∨ (0 < n ∧ 8 * k + 7 < p) ∨ (0 < n ∧ p ≤ 8 * k + 7 ∧ p + n ≤ 8 * k) := by omega
          clear hh
          rcases hh' with rfl | ⟨h1, h2⟩ | ⟨h1, h2, h3⟩
          · go_wp2_with fail
            refine ⟨⟨k + 1, by omega, vint (by omega), rfl, by rw [HHn.out]; exact HE0.out, ?_⟩, by simp [intOf]; omega⟩
            rw [HHn.out]
            exact ⟨_, _, _, _, _, _, _, _, _, _, _, _, _, HMEM.out, HRA2.out, HAP.out, HRI.out⟩
          · have h1' : (0 : Int) < (n : Int) := by omega
            have h2' : decide ((p : Int) ≤ 8 * (k : Int) + 7) = false := by simp; omega
            go_wp2_with fail
            refine ⟨⟨k + 1, by omega, vint (by omega), rfl, by rw [HHn.out]; exact HE0.out, ?_⟩, by simp [intOf]; omega⟩
            rw [HHn.out]
            exact ⟨_, _, _, _, _, _, _, _, _, _, _, _, _, HMEM.out, HRA2.out, HAP.out, HRI.out⟩
          · have h1' : (0 : Int) < (n : Int) := by omega
            have h2' : (p : Int) ≤ 8 * (k : Int) + 7 := by omega
            have h3' : decide (8 * (k : Int) < (p : Int) + (n : Int)) = false := by simp; omega
            go_wp2_with fail
            refine ⟨⟨k + 1, by omega, vint (by omega), rfl, by rw [HHn.out]; exact HE0.out, ?_⟩, by simp [intOf]; omega⟩
            rw [HHn.out]
            exact ⟨_, _, _, _, _, _, _, _, _, _, _, _, _, HMEM.out, HRA2.out, HAP.out, HRI.out⟩
      · obtain rfl : k = m := by omega
        have hlt' : decide ((k : Int) < (k : Int)) = false := by simp
        have HR : Hid (S.persist (p : Int) (n : Int) = ⟨T.dev.fence, T.dev.fenceE⟩) := Lib.hid (by
          have h1 := HEn.out
          rw [HKm.out (by first | rfl | trivial)] at h1
          rw [HV.out, ← h1, if_neg (by rw [HE0.out]; simp)])
        go_wp2_with (refine wpList_load_mem aggRd HMEM.out 0 rfl rfl rfl rfl rfl ?_)
        refine (rfence_m HTL.out HRA2.out (N := N + mm) (by omega) HTf.out).mono ?_
        rintro e w1 ⟨v', rfl, hra1, hri1, hb1⟩
        obtain ⟨an1, cn1, al1, cl1, aw1, cw1, ad1, cd1, ap1, cp1, rfl, y1, y2, y3, y4, y5⟩ := hra1.ex
        clear y1 y2 y3 y4 y5
        generalize T.dev.fence = T1 at *
        generalize T.dev.fenceE = E1 at *
        generalize T1.ref.steps = sv1 at *
        generalize T1.ref.fuse = fz1 at *
        generalize T1.ref.dead = dd1 at *
        have HM1 := Lib.hid (HMEM.out.later hb1)
        have HR1 := Lib.hid hra1
        have hq2 : q + 2 ≤ wr.heap.size := HMEM.out.glt 1 rfl
        have HAP1 : Hid (k = 0 ∨ ∀ b, RIn (.agg #[.slice an1 k cn1, .slice al1 k cl1, .slice aw1 k cw1, .slice ad1 k cd1, .slice ap1 k cp1, .int .i64 sv1, .int .i64 fz1, .bool dd1]) b → b < q ∨ q + 2 ≤ b) := Lib.hid (HAP.out.imp id (fun h b hb => (hri1 b hb).elim (h b) (fun h => .inr (by omega))))
        have HRI1 : Hid (∀ b, RIn (.agg #[.slice an1 k cn1, .slice al1 k cl1, .slice aw1 k cw1, .slice ad1 k cd1, .slice ap1 k cp1, .int .i64 sv1, .int .i64 fz1, .bool dd1]) b → RIn v0 b ∨ w.heap.size ≤ b) := Lib.hid (fun b hb => (hri1 b hb).elim (HRI.out b) (fun h => .inr (by have := HMEM.out.below.size; omega)))
        clear hra1 hb1 hri1 HMEM c0 HAP HRI
        go_wp2_with (refine wpList_store_mem aggRd HM1.out 1 rfl rfl rfl rfl rfl rfl rfl rfl ?_; intro w9 h9 ht9; have H9 := Lib.hid h9; have HT9 := Lib.hid ht9; clear h9 ht9)
        refine bodyPost_ret (results_cell_row2 (p := 6) (u := 7) rfl _ _ _ _ _ _ _ rfl (H9.out.exact 1 rfl) Try.underlying31 rfl (by kernel_rfl)) rfl ?_
        rw [← HPO.out, HR.out]
        exact ⟨_, rfl, HR1.out.touch HT9.out (HAP1.out.imp id (fun h b hb => by have := h b hb; simp; omega)), by rw [← HV0.out]; exact HRI1.out, H9.out.below⟩

theorem rpersist_m {w : World} {v : Value} {S : Dev} {m : Nat} (hm : S.dirty.length = m) (h : RAt w v m S.ref) {N : Nat} (hN : N < 100000000000) (hf : S.fit N) (p n : Int) :
    Calls Try.prog 82 #[v, .int .i64 p, .int .i64 n] w (RDone m (S.persist p n).dev (S.persist p n).err v w) := by
  subst hm; exact rpersist_any h hN hf p n

end Go.Proofs.Ytjgdplengfnkaaa

/- Objects: their sizes. -/
namespace Go.Proofs.Ytjgdplengfnkaaa
open Go.RowKit
set_option linter.unusedVariables false

/-- An object's words; 0: it may not be. -/
def objSize (p d : Int) : Nat := if p < 0 ∨ 63 < p ∨ d < 0 ∨ 16384 < d then 0 else (1 + p + d).toNat

theorem objSize_le (p d : Int) : objSize p d ≤ 16448 := by unfold objSize; split <;> omega

/-- What class.Size answers. -/
def csizeV (p d : Int) : Value := if objSize p d = 0 then .tuple #[.int .i64 0, .int .i64 5] else .tuple #[.int .i64 (objSize p d : Nat), .int .i64 0]

set_option maxHeartbeats 400000 in
theorem csize_any (p d : Int) (w : World) : Calls Try.prog 71 #[.int .i64 p, .int .i64 d] w fun e w' => e = .returned (csizeV p d) ∧ w = w' := by
  by_cases h : p < 0 ∨ 63 < p ∨ d < 0 ∨ 16384 < d
  · have HS : Hid (csizeV p d = .tuple #[.int .i64 0, .int .i64 5]) := Lib.hid (by unfold csizeV; rw [if_pos (by unfold objSize; rw [if_pos h])])
    rcases h with h | h | h | h
    · go_enter Try.func71, Try.ntmps71
      go_wp2_with fail
      go_ret2
      exact ⟨by rw [HS.out]; rfl, rfl⟩
    · have h' : ¬ p < 0 := by omega
      go_enter Try.func71, Try.ntmps71
      go_wp2_with fail
      go_ret2
      exact ⟨by rw [HS.out]; rfl, rfl⟩
    · by_cases h1 : p < 0
      · go_enter Try.func71, Try.ntmps71
        go_wp2_with fail
        go_ret2
        exact ⟨by rw [HS.out]; rfl, rfl⟩
      by_cases h2 : 63 < p
      · go_enter Try.func71, Try.ntmps71
        go_wp2_with fail
        go_ret2
        exact ⟨by rw [HS.out]; rfl, rfl⟩
      go_enter Try.func71, Try.ntmps71
      go_wp2_with fail
      go_ret2
      exact ⟨by rw [HS.out]; rfl, rfl⟩
    · have h3 : ¬ d < 0 := by omega
      by_cases h1 : p < 0
      · go_enter Try.func71, Try.ntmps71
        go_wp2_with fail
        go_ret2
        exact ⟨by rw [HS.out]; rfl, rfl⟩
      by_cases h2 : 63 < p
      · go_enter Try.func71, Try.ntmps71
        go_wp2_with fail
        go_ret2
        exact ⟨by rw [HS.out]; rfl, rfl⟩
      go_enter Try.func71, Try.ntmps71
      go_wp2_with fail
      go_ret2
      exact ⟨by rw [HS.out]; rfl, rfl⟩
  · have HS : Hid (csizeV p d = .tuple #[.int .i64 (1 + p + d), .int .i64 0]) := by
      have h1 : ((objSize p d : Nat) : Int) = 1 + p + d := by unfold objSize; rw [if_neg h]; omega
      apply Lib.hid
      unfold csizeV
      rw [if_neg (by omega), h1]
    have h1 : ¬ p < 0 := by omega
    have h2 : ¬ 63 < p := by omega
    have h3 : ¬ d < 0 := by omega
    have h4 : ¬ 16384 < d := by omega
    clear h
    go_enter Try.func71, Try.ntmps71
    go_wp2_with fail
    go_ret2
    exact ⟨by rw [HS.out]; rfl, rfl⟩

set_option maxHeartbeats 400000 in
theorem osize_any (p d : Int) (w : World) : Calls Try.prog 36 #[.agg #[.int .i64 p, .int .i64 d]] w fun e w' => e = .returned (.int .i64 (objSize p d : Nat)) ∧ Below w.heap.size w w' := by
  have hb : ∀ o, Below w.heap.size w (w.alloc o) := fun o => (Below.refl _ _).alloc (Nat.le_refl _) o
  have HB := Lib.hid hb
  clear hb
  go_enter Try.func36, Try.ntmps36
  go_wp2_with fail
  refine (csize_any _ _ _).mono ?_
  rintro e w1 ⟨rfl, rfl⟩
  by_cases h : objSize p d = 0
  · have HV : Hid (csizeV p d = .tuple #[.int .i64 0, .int .i64 5]) := Lib.hid (by unfold csizeV; rw [if_pos h])
    rw [HV.out]
    have H := Lib.hid h
    clear h
    go_wp2_with fail
    go_ret
    exact ⟨ret_int (by rw [H.out]; rfl), HB.out _⟩
  · have HV : Hid (csizeV p d = .tuple #[.int .i64 (objSize p d : Nat), .int .i64 0]) := Lib.hid (by unfold csizeV; rw [if_neg h])
    rw [HV.out]
    clear h
    go_wp2_with fail
    go_ret
    exact ⟨rfl, HB.out _⟩

end Go.Proofs.Ytjgdplengfnkaaa

/- ohead: Encode, Decode, Ptr, Data. -/
namespace Go.Proofs.Ytjgdplengfnkaaa
open Go.RowKit
set_option linter.unusedVariables false

abbrev vob (p d : Int) : Value := .agg #[.int .i64 p, .int .i64 d]
/-- An object's number; its word. -/
def obN (p d : Int) : Nat := (165 + 256 * p + 16384 * d).toNat
def oencN (a p d : Int) : Nat := if objSize p d = 0 then 0 else sealN (obN p d) (pl a)

theorem obj_small {p d : Int} (h : objSize p d ≠ 0) : (0 ≤ p ∧ p < 64) ∧ (0 ≤ d ∧ d ≤ 16384) := by
  unfold objSize at h
  split at h
  · exact absurd rfl h
  · omega
theorem obN_lt {p d : Int} (h : objSize p d ≠ 0) : obN p d < 4294967296 := by
  have := obj_small h
  unfold obN
  omega
theorem oencN_lt (a p d : Int) : oencN a p d < 18446744073709551616 := by
  unfold oencN
  split
  · decide
  · rename_i h; exact sealN_lt _ _ (obN_lt h)

set_option maxHeartbeats 1000000 in
theorem oencode_any (a p d : Int) (w : World) : Calls Try.prog 68 #[vob p d, .int .i64 a] w fun e w' => e = .returned (vu64 (oencN a p d)) ∧ Below w.heap.size w w' := by
  have hb := below_alloc w (Obj.cells #[Value.int .i64 p, Value.int .i64 d] 73)
  have hg := heap_alloc_new w (Obj.cells #[Value.int .i64 p, Value.int .i64 d] 73)
  go_enter Try.func68, Try.ntmps68
  go_wp2_with fail
  generalize w.alloc (Obj.cells #[Value.int .i64 p, Value.int .i64 d] 73) = w0 at *
  refine (osize_any p d w0).mono ?_
  rintro e w1 ⟨rfl, hb1⟩
  have hgl : w.heap.size < w0.heap.size := (Array.getElem?_eq_some_iff.1 hg).1
  have hbb := hb.trans (hb1.mono hb.size)
  have hg1 : w1.heap[w.heap.size]? = _ := (hb1.block _ hgl).trans hg
  have c0 : w1.cell? ⟨w.heap.size, 0, none⟩ = some (.int .i64 p) := cell_of_row _ _ 0 _ _ _ hg1
  have c1 : w1.cell? ⟨w.heap.size, 1, none⟩ = some (.int .i64 d) := cell_of_row _ _ 1 _ _ _ hg1
  clear hb hb1 hg hgl hg1
  by_cases hr : objSize p d = 0
  · have HE : Hid (oencN a p d = 0) := Lib.hid (by unfold oencN; rw [if_pos hr])
    rw [hr]
    clear hr
    go_wp2_with fail
    go_ret
    exact ⟨ret_int (by rw [HE.out]; rfl), hbb⟩
  · have HE : Hid (oencN a p d = sealN (obN p d) (pl a)) := Lib.hid (by unfold oencN; rw [if_neg hr])
    have hn := obN_lt hr
    obtain ⟨⟨p0, p1⟩, d0, d1⟩ := obj_small hr
    have HN : Hid (obN p d = (165 + p.toNat * 256 + d.toNat * 16384)) := Lib.hid (by unfold obN; omega)
    have hz : (((objSize p d : Nat) : Int) == 0) = false := by simp; omega
    generalize objSize p d = sz at *
    clear hr
    obtain ⟨p, rfl⟩ := Int.eq_ofNat_of_zero_le p0
    obtain ⟨d, rfl⟩ := Int.eq_ofNat_of_zero_le d0
    simp only [Int.toNat_natCast] at HN
    have P1 : Hid (Calls Try.prog 91 #[vu64 165, .int .i64 8, .int .i64 6, vu64 p] w1 fun e w' => e = .returned (vu64 (165 + p * 256)) ∧ w1 = w') := Lib.hid (put_any 165 8 6 p (by omega) (by omega) (by decide) (by decide) w1)
    have P2 : Hid (Calls Try.prog 91 #[vu64 (165 + p * 256), .int .i64 14, .int .i64 15, vu64 d] w1 fun e w' => e = .returned (vu64 (165 + p * 256 + d * 16384)) ∧ w1 = w') := Lib.hid (put_any (165 + p * 256) 14 15 d (by omega) (by omega) (by decide) (by decide) w1)
    go_wp2_with fail
    refine P1.out.mono ?_
    rintro e w2 ⟨rfl, rfl⟩
    go_wp2_with fail
    refine P2.out.mono ?_
    rintro e w2 ⟨rfl, rfl⟩
    rw [← HN.out]
    generalize obN (p : Int) (d : Int) = n at *
    clear P1 P2
    go_wp2_with fail
    refine (seal_any n _ hn _).mono ?_
    rintro e w2 ⟨rfl, hb2⟩
    rw [← HE.out]
    go_wp2_with fail
    go_ret
    exact ⟨rfl, hbb.trans (hb2.mono hbb.size)⟩

theorem aggOb : Agg Try.prog 73 #[.int .i64 0, .int .i64 0] := ⟨⟨_, Try.underlying73, rfl⟩, by kernel_rfl⟩

/-- What a word is as an object's header: pointers, words of data, the error's number. -/
structure Odec where
  p : Int
  d : Int
  code : Int
def odecS (a : Int) (x n : Nat) : Odec := if oencN a (n / 256 % 64 : Nat) (n / 16384 % 32768 : Nat) = x then ⟨(n / 256 % 64 : Nat), (n / 16384 % 32768 : Nat), 0⟩ else ⟨0, 0, 26⟩
def odecN (a : Int) (x : Nat) : Odec := ((openN x (pl a)).map (odecS a x)).getD ⟨0, 0, 25⟩
def Odec.val (o : Odec) : Value := .tuple #[vob o.p o.d, .int .i64 o.code]

theorem odecN_none {a : Int} {x : Nat} (h : openN x (pl a) = none) : (odecN a x).val = .tuple #[vob 0 0, .int .i64 25] := by unfold odecN; rw [h]; rfl
theorem odecN_some {a : Int} {x n : Nat} (h : openN x (pl a) = some n) : odecN a x = odecS a x n := by unfold odecN; rw [h]; rfl
theorem odecN_ok {a : Int} {x n : Nat} (h : openN x (pl a) = some n) (he : oencN a (n / 256 % 64 : Nat) (n / 16384 % 32768 : Nat) = x) :
    (odecN a x).val = .tuple #[vob (n / 256 % 64 : Nat) (n / 16384 % 32768 : Nat), .int .i64 0] := by
  rw [odecN_some h, odecS, if_pos he]; rfl
theorem odecN_bad {a : Int} {x n : Nat} (h : openN x (pl a) = some n) (he : oencN a (n / 256 % 64 : Nat) (n / 16384 % 32768 : Nat) ≠ x) :
    (odecN a x).val = .tuple #[vob 0 0, .int .i64 26] := by
  rw [odecN_some h, odecS, if_neg he]; rfl

set_option maxHeartbeats 1000000 in
theorem odecode_any (a : Int) (x : Nat) (hx : x < 18446744073709551616) (w : World) :
    Calls Try.prog 72 #[.int .i64 a, vu64 x] w fun e w' => e = .returned (odecN a x).val ∧ Below w.heap.size w w' := by
  have hbA := below_alloc w (Obj.cells #[Value.int .i64 0, Value.int .i64 0] 73)
  have hg := heap_alloc_new w (Obj.cells #[Value.int .i64 0, Value.int .i64 0] 73)
  go_enter Try.func72, Try.ntmps72
  go_wp2_with fail
  generalize w.alloc (Obj.cells #[Value.int .i64 0, Value.int .i64 0] 73) = w0 at *
  refine (open_any x _ hx w0).mono ?_
  rintro e w1 ⟨rfl, hbo⟩
  have hgl : w.heap.size < w0.heap.size := (Array.getElem?_eq_some_iff.1 hg).1
  have hbb := hbA.trans (hbo.mono hbA.size)
  have hg1 : w1.heap[w.heap.size]? = _ := (hbo.block _ hgl).trans hg
  clear hbA hbo hg hgl
  cases ho : openN x (pl a) with
  | none =>
    have HV := Lib.hid (odecN_none ho)
    clear ho
    simp only [openV]
    go_wp2_with (refine wpList_store_row (cs := #[.int .i64 0, .int .i64 0]) aggOb hg1 rfl rfl (by simp [Value.oneCell']) rfl rfl rfl rfl ?_; intro w2 hg2 hgr2 hs2)
    refine bodyPost_ret (results_cell_row2 (p := 4) (u := 5) rfl _ _ _ _ _ _ _ rfl hg2 Try.underlying73 rfl (by kernel_rfl)) rfl ⟨by rw [HV.out]; rfl, ?_⟩
    exact hbb.grown hgr2 hbb.size (fun k e => by cases e; omega)
  | some n =>
    obtain ⟨hn, -⟩ := openN_some ho
    have HK := Lib.hid (odecN_ok ho)
    have HL := Lib.hid (odecN_bad ho)
    clear ho
    simp only [openV]
    have G1 : Hid (∀ w, Calls Try.prog 76 #[vu64 n, .int .i64 8, .int .i64 6] w fun e w' => e = .returned (vu64 (n / 256 % 64)) ∧ w = w') := Lib.hid (fun w => get_any n 8 6 (by omega) (by decide) (by decide) (by decide) w)
    have G2 : Hid (∀ w, Calls Try.prog 76 #[vu64 n, .int .i64 14, .int .i64 15] w fun e w' => e = .returned (vu64 (n / 16384 % 32768)) ∧ w = w') := Lib.hid (fun w => get_any n 14 15 (by omega) (by decide) (by decide) (by decide) w)
    have h64 : n / 256 % 64 < 64 := by omega
    have h6 : n / 16384 % 32768 < 32768 := by omega
    generalize n / 256 % 64 = k at *
    generalize n / 16384 % 32768 = l at *
    go_wp2_with fail
    refine (G1.out _).mono ?_
    rintro e w2 ⟨rfl, rfl⟩
    go_wp2_with fail
    refine (G2.out _).mono ?_
    rintro e w2 ⟨rfl, rfl⟩
    clear G1 G2
    go_wp2_with fail
    have hb1 := below_alloc w1 (Obj.cells #[Value.int .i64 (k : Int), Value.int .i64 (l : Int)] 73)
    have hg2 := heap_alloc_new w1 (Obj.cells #[Value.int .i64 (k : Int), Value.int .i64 (l : Int)] 73)
    generalize w1.alloc (Obj.cells #[Value.int .i64 (k : Int), Value.int .i64 (l : Int)] 73) = w2 at *
    refine (oencode_any a k l w2).mono ?_
    rintro e w3 ⟨rfl, hb3⟩
    have hgl : w.heap.size < w1.heap.size := (Array.getElem?_eq_some_iff.1 hg1).1
    have hgl2 : w1.heap.size < w2.heap.size := (Array.getElem?_eq_some_iff.1 hg2).1
    have hb3' := hbb.trans ((hb1.trans (hb3.mono hb1.size)).mono hbb.size)
    have hg3 : w3.heap[w.heap.size]? = _ := (hb3.block _ (by omega)).trans ((hb1.block _ hgl).trans hg1)
    have hg4 : w3.heap[w1.heap.size]? = _ := (hb3.block _ hgl2).trans hg2
    have he := oencN_lt a k l
    clear hb1 hb3 hg1 hg2 hbb
    generalize oencN a k l = y at *
    by_cases hyx : y = x
    · have HV := Lib.hid (HK.out hyx)
      subst hyx
      have d0 : w3.cell? ⟨w1.heap.size, 0, none⟩ = some (.int .i64 k) := cell_of_row _ _ 0 _ _ _ hg4
      have d1 : w3.cell? ⟨w1.heap.size, 1, none⟩ = some (.int .i64 l) := cell_of_row _ _ 1 _ _ _ hg4
      go_wp2_with (refine wpList_store_row (cs := #[.int .i64 k, .int .i64 l]) aggOb hg3 rfl rfl (by simp [Value.oneCell']) rfl rfl rfl rfl ?_; intro w4 hg5 hgr4 hs4)
      refine bodyPost_ret (results_cell_row2 (p := 4) (u := 5) rfl _ _ _ _ _ _ _ rfl hg5 Try.underlying73 rfl (by kernel_rfl)) rfl ⟨by rw [HV.out]; rfl, ?_⟩
      exact hb3'.grown hgr4 hb3'.size (fun k e => by cases e; omega)
    · have HV := Lib.hid (HL.out hyx)
      have hne : ¬ ((y : Int) = (x : Int)) := by omega
      clear hyx
      go_wp2_with (refine wpList_store_row (cs := #[.int .i64 0, .int .i64 0]) aggOb hg3 rfl rfl (by simp [Value.oneCell']) rfl rfl rfl rfl ?_; intro w4 hg5 hgr4 hs4)
      refine bodyPost_ret (results_cell_row2 (p := 4) (u := 5) rfl _ _ _ _ _ _ _ rfl hg5 Try.underlying73 rfl (by kernel_rfl)) rfl ⟨by rw [HV.out]; rfl, ?_⟩
      exact hb3'.grown hgr4 hb3'.size (fun k e => by cases e; omega)

/-- A word that is its object's word: then that one may be. -/
theorem odec_size {a : Int} {x : Nat} (h : (odecN a x).code = 0) : objSize (odecN a x).p (odecN a x).d ≠ 0 ∧ oencN a (odecN a x).p (odecN a x).d = x := by
  unfold odecN at h ⊢
  cases ho : openN x (pl a) with
  | none => rw [ho] at h; simp at h
  | some n =>
    rw [ho] at h
    simp only [Option.map_some, Option.getD_some] at h ⊢
    obtain ⟨h1, h2⟩ := openN_some ho
    unfold odecS at h ⊢
    split
    · rename_i he
      dsimp only
      refine ⟨fun hs => ?_, he⟩
      unfold oencN at he
      rw [if_pos hs] at he
      subst he
      simp at h2
      subst h2
      revert hs
      decide
    · rename_i he
      rw [if_neg he] at h
      simp at h

set_option maxHeartbeats 1000000 in
theorem optr_any (p d i : Int) (w : World) : Calls Try.prog 96 #[vob p d, .int .i64 i] w fun e w' => e = .returned (.tuple #[.int .i64 (IntKind.i64.wrap (1 + i)), .bool (decide (0 ≤ i ∧ i < p))]) ∧ Below w.heap.size w w' := by
  have hb := below_alloc w (Obj.cells #[Value.int .i64 p, Value.int .i64 d] 73)
  have c0 : (w.alloc (Obj.cells #[Value.int .i64 p, Value.int .i64 d] 73)).cell? ⟨w.heap.size, 0, none⟩ = some (.int .i64 p) := cell_alloc_new _ _ _ 0 _ rfl
  have HB := Lib.hid hb
  clear hb
  generalize hz : IntKind.i64.wrap (1 + i) = z
  by_cases h0 : 0 ≤ i
  · have h0d : decide (0 ≤ i) = true := by simpa using h0
    by_cases h1 : i < p
    · go_enter Try.func96, Try.ntmps96
      go_wp2_with fail
      go_quiet (fail)
      go_wp2_with fail
      go_ret2
      exact ⟨by simp [h0, h1, hz], below_drewN HB.out _⟩
    · go_enter Try.func96, Try.ntmps96
      go_wp2_with fail
      go_quiet (fail)
      go_wp2_with fail
      go_ret2
      exact ⟨by simp [h0, h1, hz], below_drewN HB.out _⟩
  · have h0d : decide (0 ≤ i) = false := by simpa using h0
    go_enter Try.func96, Try.ntmps96
    go_wp2_with fail
    go_quiet (fail)
    go_wp2_with fail
    go_ret2
    exact ⟨by simp [h0, hz]; omega, below_drewN HB.out _⟩

set_option maxHeartbeats 1000000 in
theorem odata_any (p d i : Int) (w : World) : Calls Try.prog 97 #[vob p d, .int .i64 i] w fun e w' => e = .returned (.tuple #[.int .i64 (IntKind.i64.wrap (IntKind.i64.wrap (1 + p) + i)), .bool (decide (0 ≤ i ∧ i < d))]) ∧ Below w.heap.size w w' := by
  have hb := below_alloc w (Obj.cells #[Value.int .i64 p, Value.int .i64 d] 73)
  have c0 : (w.alloc (Obj.cells #[Value.int .i64 p, Value.int .i64 d] 73)).cell? ⟨w.heap.size, 0, none⟩ = some (.int .i64 p) := cell_alloc_new _ _ _ 0 _ rfl
  have c1 : (w.alloc (Obj.cells #[Value.int .i64 p, Value.int .i64 d] 73)).cell? ⟨w.heap.size, 1, none⟩ = some (.int .i64 d) := cell_alloc_new _ _ _ 1 _ rfl
  have HB := Lib.hid hb
  clear hb
  generalize hy : IntKind.i64.wrap (1 + p) = y
  generalize hz : IntKind.i64.wrap (y + i) = z
  by_cases h0 : 0 ≤ i
  · have h0d : decide (0 ≤ i) = true := by simpa using h0
    by_cases h1 : i < d
    · go_enter Try.func97, Try.ntmps97
      go_wp2_with fail
      go_quiet (fail)
      go_wp2_with fail
      go_ret2
      exact ⟨by simp [h0, h1, hy, hz], below_drewN HB.out _⟩
    · go_enter Try.func97, Try.ntmps97
      go_wp2_with fail
      go_quiet (fail)
      go_wp2_with fail
      go_ret2
      exact ⟨by simp [h0, h1, hy, hz], below_drewN HB.out _⟩
  · have h0d : decide (0 ≤ i) = false := by simpa using h0
    go_enter Try.func97, Try.ntmps97
    go_wp2_with fail
    go_quiet (fail)
    go_wp2_with fail
    go_ret2
    exact ⟨by simp [h0, hy, hz]; omega, below_drewN HB.out _⟩

end Go.Proofs.Ytjgdplengfnkaaa

/- The reference's objects: Size, Encode, Decode; law08.Ref. -/
namespace Go.Proofs.Ytjgdplengfnkaaa
open Go.RowKit
set_option linter.unusedVariables false

theorem aggRo : Agg Try.prog 88 #[.int .i64 0, .int .i64 0] := ⟨⟨_, Try.underlying88, rfl⟩, by kernel_rfl⟩

set_option maxHeartbeats 1000000 in
theorem rsize8_any (p d : Int) (w : World) : Calls Try.prog 74 #[vob p d] w fun e w' => e = .returned (.int .i64 (objSize p d : Nat)) ∧ Below w.heap.size w w' := by
  have HM := Lib.hid (Mem.one w #[.int .i64 p, .int .i64 d] 88)
  have HS : Hid (objSize p d = if p < 0 ∨ 63 < p ∨ d < 0 ∨ 16384 < d then 0 else (1 + p + d).toNat) := Lib.hid rfl
  generalize objSize p d = n at *
  go_enter Try.func74, Try.ntmps74
  go_upto_region 1 with fail
  generalize w.alloc _ = w0 at *
  have c0 := HM.out.cell 0 0 rfl rfl
  have c1 := HM.out.cell 0 1 rfl rfl
  by_cases h1 : p < 0
  · have HV : Hid (n = 0) := Lib.hid (by rw [HS.out, if_pos (.inl h1)])
    go_wp2_with fail
    go_ret
    exact ⟨by rw [HV.out]; rfl, HM.out.below⟩
  by_cases h2 : 63 < p
  · have HV : Hid (n = 0) := Lib.hid (by rw [HS.out, if_pos (.inr (.inl h2))])
    go_wp2_with fail
    go_ret
    exact ⟨by rw [HV.out]; rfl, HM.out.below⟩
  by_cases h3 : d < 0
  · have HV : Hid (n = 0) := Lib.hid (by rw [HS.out, if_pos (.inr (.inr (.inl h3)))])
    go_wp2_with fail
    go_ret
    exact ⟨by rw [HV.out]; rfl, HM.out.below⟩
  by_cases h4 : 16384 < d
  · have HV : Hid (n = 0) := Lib.hid (by rw [HS.out, if_pos (.inr (.inr (.inr h4)))])
    go_wp2_with fail
    go_ret
    exact ⟨by rw [HV.out]; rfl, HM.out.below⟩
  have HV : Hid ((n : Int) = 1 + p + d) := Lib.hid (by rw [HS.out, if_neg (by omega)]; omega)
  go_wp2_with fail
  go_ret
  exact ⟨ret_int HV.out.symm, HM.out.below⟩

set_option maxHeartbeats 1000000 in
theorem rencode8_any (p d a : Int) (w : World) : Calls Try.prog 98 #[vob p d, .int .i64 a] w fun e w' => e = .returned (vu64 (oencN a p d)) ∧ Below w.heap.size w w' := by
  have HM := Lib.hid (Mem.one w #[.int .i64 p, .int .i64 d] 88)
  have HE : Hid (oencN a p d = if objSize p d = 0 then 0 else sealN (obN p d) (pl a)) := Lib.hid rfl
  generalize oencN a p d = y at *
  go_enter Try.func98, Try.ntmps98
  go_upto_region 1 with fail
  generalize w.alloc _ = w0 at *
  go_wp2_with (refine wpList_load_mem aggRo HM.out 0 rfl rfl rfl rfl rfl ?_)
  refine (rsize8_any p d _).mono ?_
  rintro e w1 ⟨rfl, hb1⟩
  have HM1 := Lib.hid (HM.out.later hb1)
  clear hb1 HM
  by_cases hr : objSize p d = 0
  · have HV : Hid (y = 0) := Lib.hid (by rw [HE.out, if_pos hr])
    rw [hr]
    clear hr
    go_wp2_with fail
    go_ret
    exact ⟨ret_int (by rw [HV.out]; rfl), HM1.out.below⟩
  · have HV : Hid (y = sealN (obN p d) (pl a)) := Lib.hid (by rw [HE.out, if_neg hr])
    have hn := obN_lt hr
    obtain ⟨⟨p0, p1⟩, d0, d1⟩ := obj_small hr
    have HN : Hid (165 + 256 * p + 16384 * d = (obN p d : Int)) := Lib.hid (by unfold obN; omega)
    have hz : (((objSize p d : Nat) : Int) == 0) = false := by simp; omega
    have c0 := HM1.out.cell 0 0 rfl rfl
    have c1 := HM1.out.cell 0 1 rfl rfl
    generalize objSize p d = sz at *
    generalize obN p d = n at *
    clear hr
    have hw : IntKind.u32.wrap (165 + 256 * p + 16384 * d) = 165 + 256 * p + 16384 * d := IntWalk.u32_in _ (by omega)
    go_wp2_with fail
    rw [HN.out]
    refine (rseal_any n _ hn _).mono ?_
    rintro e w2 ⟨rfl, hb2⟩
    rw [← HV.out]
    go_wp2_with fail
    go_ret
    exact ⟨rfl, (HM1.out.later hb2).below⟩

set_option maxHeartbeats 1000000 in
theorem rdecode8_any (a : Int) (x : Nat) (hx : x < 18446744073709551616) (w : World) :
    Calls Try.prog 73 #[.int .i64 a, vu64 x] w fun e w' => e = .returned (odecN a x).val ∧ Below w.heap.size w w' := by
  have HM := Lib.hid (Mem.one w #[.int .i64 0, .int .i64 0] 88)
  have HOS : Hid ((odecN a x).code = 0 → objSize (odecN a x).p (odecN a x).d ≠ 0) := Lib.hid (fun h => (odec_size h).1)
  go_enter Try.func73, Try.ntmps73
  go_upto_region 1 with fail
  generalize w.alloc _ = w0 at *
  go_wp2_with fail
  refine (ropen_any x _ hx _).mono ?_
  rintro e w1 ⟨rfl, hbo⟩
  have HM1 := Lib.hid (HM.out.later hbo)
  clear hbo HM
  cases ho : openN x (pl a) with
  | none =>
    have HV := Lib.hid (odecN_none ho)
    clear ho
    simp only [openV]
    go_wp2_with (refine wpList_store_mem aggRo HM1.out 0 rfl rfl rfl rfl rfl rfl rfl rfl ?_; intro w9 h9 _; have H9 := Lib.hid h9; clear h9)
    refine bodyPost_ret (results_cell_row2 (p := 4) (u := 5) rfl _ _ _ _ _ _ _ rfl (H9.out.exact 0 rfl) Try.underlying88 rfl (by kernel_rfl)) rfl ⟨by rw [HV.out]; rfl, H9.out.below⟩
  | some n =>
    obtain ⟨hn, -⟩ := openN_some ho
    have HK := Lib.hid (odecN_ok ho)
    have HL := Lib.hid (odecN_bad ho)
    have HD := Lib.hid (odecN_some ho)
    have HDS : Hid (odecS a x n = if oencN a (n / 256 % 64 : Nat) (n / 16384 % 32768 : Nat) = x then ⟨(n / 256 % 64 : Nat), (n / 16384 % 32768 : Nat), 0⟩ else ⟨0, 0, 26⟩) := Lib.hid rfl
    clear ho
    simp only [openV]
    have h64 : n / 256 % 64 < 64 := by omega
    have h6 : n / 16384 % 32768 < 32768 := by omega
    have hmod1 : (n : Int) / 256 % 64 = ((n / 256 % 64 : Nat) : Int) := by omega
    have hmod2 : (n : Int) / 16384 % 32768 = ((n / 16384 % 32768 : Nat) : Int) := by omega
    have HM1' := Lib.hid (HM1.out.alloc #[.int .i64 ((n : Int) / 256 % 64), .int .i64 ((n : Int) / 16384 % 32768)] 88)
    have HMOD1 := Lib.hid hmod1
    have HMOD2 := Lib.hid hmod2
    clear hmod1 hmod2
    go_upto_region 5 with fail
    rw [HMOD1.out, HMOD2.out] at HM1' ⊢
    clear HMOD1 HMOD2
    generalize n / 256 % 64 = k at *
    generalize n / 16384 % 32768 = l at *
    generalize w1.alloc _ = w2 at *
    generalize w1.heap.size = g at *
    clear HM1
    go_wp2_with (refine wpList_load_mem aggRo HM1'.out 1 rfl rfl rfl rfl rfl ?_)
    refine (rsize8_any k l _).mono ?_
    rintro e w3 ⟨rfl, hb3⟩
    have HM3 := Lib.hid (HM1'.out.later hb3)
    clear hb3 HM1'
    by_cases hyx : oencN a k l = x
    · have HV := Lib.hid (HK.out hyx)
      have hsz : objSize (k : Int) (l : Int) ≠ 0 := by
        have h1 := HOS.out
        rw [HD.out, HDS.out, if_pos hyx] at h1
        exact h1 rfl
      have hz : (((objSize (k : Int) (l : Int) : Nat) : Int) == 0) = false := by simp; omega
      generalize objSize (k : Int) (l : Int) = sz at *
      clear hsz
      have HYX := Lib.hid hyx
      clear hyx
      have c0 := HM3.out.cell 1 0 rfl rfl
      have c1 := HM3.out.cell 1 1 rfl rfl
      go_wp2_with fail
      clear c0 c1
      refine (rencode8_any k l a _).mono ?_
      rintro e w4 ⟨rfl, hb4⟩
      rw [HYX.out]
      have HM4 := Lib.hid (HM3.out.later hb4)
      clear hb4 HM3
      go_wp2_with (first | (refine wpList_load_mem aggRo HM4.out 1 rfl rfl rfl rfl rfl ?_) | (refine wpList_store_mem aggRo HM4.out 0 rfl rfl rfl rfl rfl rfl rfl rfl ?_; intro w9 h9 _; have H9 := Lib.hid h9; clear h9))
      refine bodyPost_ret (results_cell_row2 (p := 4) (u := 5) rfl _ _ _ _ _ _ _ rfl (H9.out.exact 0 rfl) Try.underlying88 rfl (by kernel_rfl)) rfl ⟨by rw [HV.out]; rfl, H9.out.below⟩
    · have HV := Lib.hid (HL.out hyx)
      by_cases hsz : objSize (k : Int) (l : Int) = 0
      · rw [hsz]
        clear hsz
        go_wp2_with (first | (refine wpList_load_mem aggRo HM3.out 1 rfl rfl rfl rfl rfl ?_) | (refine wpList_store_mem aggRo HM3.out 0 rfl rfl rfl rfl rfl rfl rfl rfl ?_; intro w9 h9 _; have H9 := Lib.hid h9; clear h9))
        refine bodyPost_ret (results_cell_row2 (p := 4) (u := 5) rfl _ _ _ _ _ _ _ rfl (H9.out.exact 0 rfl) Try.underlying88 rfl (by kernel_rfl)) rfl ⟨by rw [HV.out]; rfl, H9.out.below⟩
      have hz : (((objSize (k : Int) (l : Int) : Nat) : Int) == 0) = false := by simp; omega
      generalize objSize (k : Int) (l : Int) = sz at *
      clear hsz
      have HYX := Lib.hid hyx
      clear hyx
      have c0 := HM3.out.cell 1 0 rfl rfl
      have c1 := HM3.out.cell 1 1 rfl rfl
      go_wp2_with fail
      clear c0 c1
      refine (rencode8_any k l a _).mono ?_
      rintro e w4 ⟨rfl, hb4⟩
      have HM4 := Lib.hid (HM3.out.later hb4)
      clear hb4 HM3
      have hne : ¬ ((oencN a (k : Int) (l : Int) : Int) = (x : Int)) := by have := HYX.out; omega
      have hne2 : ((oencN a (k : Int) (l : Int) : Int) != (x : Int)) = true := by simp; have := HYX.out; omega
      generalize oencN a (k : Int) (l : Int) = y at *
      go_wp2_with (first | (refine wpList_load_mem aggRo HM4.out 1 rfl rfl rfl rfl rfl ?_) | (refine wpList_store_mem aggRo HM4.out 0 rfl rfl rfl rfl rfl rfl rfl rfl ?_; intro w9 h9 _; have H9 := Lib.hid h9; clear h9))
      refine bodyPost_ret (results_cell_row2 (p := 4) (u := 5) rfl _ _ _ _ _ _ _ rfl (H9.out.exact 0 rfl) Try.underlying88 rfl (by kernel_rfl)) rfl ⟨by rw [HV.out]; rfl, H9.out.below⟩

set_option maxHeartbeats 400000 in
theorem lawref8_any (p d : Int) (w : World) : Calls Try.prog 39 #[vob p d] w fun e w' => e = .returned (vob p d) ∧ Below w.heap.size w w' := by
  have HM := Lib.hid (Mem.two w #[.int .i64 p, .int .i64 d] 73 #[.int .i64 0, .int .i64 0] 88)
  go_enter Try.func39, Try.ntmps39
  go_upto_region 1 with fail
  generalize (w.alloc _).alloc _ = w0 at *
  have c0 := HM.out.cell 0 0 rfl rfl
  have c1 := HM.out.cell 0 1 rfl rfl
  go_wp2_with (refine wpList_store_mem aggRo HM.out 1 rfl rfl rfl rfl rfl rfl rfl rfl ?_; intro w9 h9 _; have H9 := Lib.hid h9; clear h9)
  exact bodyPost_ret (results_cell_row rfl _ _ _ _ _ _ _ rfl (H9.out.exact 1 rfl) Try.underlying88 rfl (by kernel_rfl)) rfl ⟨rfl, H9.out.below⟩

end Go.Proofs.Ytjgdplengfnkaaa
