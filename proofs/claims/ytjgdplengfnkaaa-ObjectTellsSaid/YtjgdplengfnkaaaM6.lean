/- Parts of the proof, one behind the other: Ob, Ry, Oc, Rz, Ua, Ub, Mr, Tr. -/
import Derived.Test.YtjgdplengfnkaaaM5
import Derived.Deep.QuietTactic
import Derived.BigQuiet

/- object: Head, field, Init, SetPtr, SetData, Persist. -/
namespace Go.Proofs.Ytjgdplengfnkaaa
open Go.RowKit
set_option linter.unusedVariables false

/-- The object at an address; code 22: there is none. -/
def headN (S : Dev) (a : Int) : Odec :=
  if a < 0 ∨ (S.cache.length : Int) ≤ a then ⟨0, 0, 22⟩ else
    if (odecN a (peek S.cache a)).code ≠ 0 ∨ (S.cache.length : Int) - a < (objSize (odecN a (peek S.cache a)).p (odecN a (peek S.cache a)).d : Nat) then ⟨0, 0, 22⟩ else ⟨(odecN a (peek S.cache a)).p, (odecN a (peek S.cache a)).d, 0⟩

theorem headN_code (S : Dev) (a : Int) : ((headN S a).code = 0 ∧ 0 ≤ a ∧ a < S.cache.length ∧ objSize (headN S a).p (headN S a).d ≠ 0 ∧ a + (objSize (headN S a).p (headN S a).d : Nat) ≤ S.cache.length ∧ oencN a (headN S a).p (headN S a).d = peek S.cache a) ∨ headN S a = ⟨0, 0, 22⟩ := by
  have hz := odec_size (a := a) (x := peek S.cache a)
  unfold headN
  generalize odecN a (peek S.cache a) = x at *
  obtain ⟨p, d, c⟩ := x
  dsimp only at hz ⊢
  split
  · exact .inr rfl
  · split
    · exact .inr rfl
    · rename_i h1 h2
      have hc : c = 0 := Decidable.byContradiction fun h => h2 (.inl h)
      have := hz hc
      generalize oencN a p d = y at *
      generalize objSize p d = s at *
      exact .inl ⟨rfl, by omega, by omega, this.1, by omega, this.2⟩

set_option maxHeartbeats 2000000 in
set_option maxRecDepth 20000 in
theorem ohead_any {w : World} {F : Foot} {S : Dev} (h : DevAt w F S) (a : Int) :
    Calls Try.prog 37 #[vdev F, .int .i64 a] w fun e w' => e = .returned (headN S a).val ∧ Below w.heap.size w w' := by
  have hbA := below_alloc w (Obj.cells #[Value.int .i64 0, Value.int .i64 0] 73)
  have hg := heap_alloc_new w (Obj.cells #[Value.int .i64 0, Value.int .i64 0] 73)
  have hd := h.below hbA
  have hsm := h.small
  have HE : Hid (∀ x : Odec, x = ⟨0, 0, 22⟩ → x.val = .tuple #[vob 0 0, .int .i64 22]) := Lib.hid (by rintro x rfl; rfl)
  have HB := Lib.hid hbA
  have HD := Lib.hid hd
  clear hbA hd h
  by_cases h0 : a < 0
  · have HV : Hid (headN S a = ⟨0, 0, 22⟩) := Lib.hid (by unfold headN; rw [if_pos (.inl h0)])
    go_enter Try.func37, Try.ntmps37
    go_wp2_with (refine wpList_store_row (cs := #[.int .i64 0, .int .i64 0]) aggOb hg rfl rfl (by simp [Value.oneCell']) rfl rfl rfl rfl ?_; intro w4 hg5 hgr4 hs4)
    refine bodyPost_ret (results_cell_row2 (p := 4) (u := 5) rfl _ _ _ _ _ _ _ rfl hg5 Try.underlying73 rfl (by kernel_rfl)) rfl ⟨by rw [HE.out _ HV.out]; rfl, ?_⟩
    exact HB.out.grown hgr4 HB.out.size (fun k e => by cases e; omega)
  by_cases h1 : (S.cache.length : Int) ≤ a
  · have HV : Hid (headN S a = ⟨0, 0, 22⟩) := Lib.hid (by unfold headN; rw [if_pos (.inr h1)])
    go_enter Try.func37, Try.ntmps37
    go_wp2_with fail
    refine (dlen_any HD.out).mono ?_
    rintro e w1 ⟨rfl, rfl⟩
    go_wp2_with (refine wpList_store_row (cs := #[.int .i64 0, .int .i64 0]) aggOb hg rfl rfl (by simp [Value.oneCell']) rfl rfl rfl rfl ?_; intro w4 hg5 hgr4 hs4)
    refine bodyPost_ret (results_cell_row2 (p := 4) (u := 5) rfl _ _ _ _ _ _ _ rfl hg5 Try.underlying73 rfl (by kernel_rfl)) rfl ⟨by rw [HE.out _ HV.out]; rfl, ?_⟩
    exact HB.out.grown hgr4 HB.out.size (fun k e => by cases e; omega)
  have HV0 : Hid (headN S a = if (odecN a (peek S.cache a)).code ≠ 0 ∨ (S.cache.length : Int) - a < (objSize (odecN a (peek S.cache a)).p (odecN a (peek S.cache a)).d : Nat) then ⟨0, 0, 22⟩ else ⟨(odecN a (peek S.cache a)).p, (odecN a (peek S.cache a)).d, 0⟩) := Lib.hid (by unfold headN; rw [if_neg (by omega)])
  go_enter Try.func37, Try.ntmps37
  go_wp2_with fail
  refine (dlen_any HD.out).mono ?_
  rintro e w1 ⟨rfl, rfl⟩
  go_wp2_with fail
  refine (dget_any HD.out a).mono ?_
  rintro e w1 ⟨rfl, rfl⟩
  have hpk := peek_lt HD.out.u64C a
  generalize w.alloc (Obj.cells #[Value.int .i64 0, Value.int .i64 0] 73) = w0 at *
  go_wp2_with fail
  refine (odecode_any a _ hpk _).mono ?_
  rintro e w1 ⟨rfl, hb1⟩
  have hg0 : w.heap.size < w0.heap.size := (Array.getElem?_eq_some_iff.1 hg).1
  have hg1 : w1.heap[w.heap.size]? = _ := (hb1.block _ hg0).trans hg
  have HB1 := Lib.hid (HB.out.trans (hb1.mono HB.out.size))
  have HD1 := Lib.hid (HD.out.below hb1)
  clear hb1 hg HB HD hpk
  generalize odecN a (peek S.cache a) = x at *
  obtain ⟨p, d, c⟩ := x
  unfold Odec.val
  dsimp only at HV0 ⊢
  have hbx := below_alloc w1 (Obj.cells #[Value.int .i64 p, Value.int .i64 d] 73)
  have hg2 := (hbx.block w.heap.size (by have := HB1.out.size; exact (Array.getElem?_eq_some_iff.1 hg1).1)).trans hg1
  have HB2 := Lib.hid (HB1.out.trans (hbx.mono HB1.out.size))
  have HD2 := Lib.hid (HD1.out.below hbx)
  have e0 : (w1.alloc (Obj.cells #[Value.int .i64 p, Value.int .i64 d] 73)).cell? ⟨w1.heap.size, 0, none⟩ = some (.int .i64 p) := cell_alloc_new _ _ _ 0 _ rfl
  have e1 : (w1.alloc (Obj.cells #[Value.int .i64 p, Value.int .i64 d] 73)).cell? ⟨w1.heap.size, 1, none⟩ = some (.int .i64 d) := cell_alloc_new _ _ _ 1 _ rfl
  clear hbx hg1 HB1 HD1
  by_cases hc : c = 0
  · subst hc
    go_wp2_with fail
    refine (osize_any p d _).mono ?_
    rintro e w2 ⟨rfl, hb2⟩
    generalize w1.alloc (Obj.cells #[Value.int .i64 p, Value.int .i64 d] 73) = w1' at *
    have hg3 : w2.heap[w.heap.size]? = _ := (hb2.block _ (Array.getElem?_eq_some_iff.1 hg2).1).trans hg2
    have HB3 := Lib.hid (HB2.out.trans (hb2.mono HB2.out.size))
    have HD3 := Lib.hid (HD2.out.below hb2)
    have f0 := below_cells hb2 e0 (Nat.le_refl _)
    have f1 := below_cells hb2 e1 (Nat.le_refl _)
    clear hb2 HB2 HD2 hg2 e0 e1
    go_wp2_with fail
    refine (dlen_any HD3.out).mono ?_
    rintro e w3 ⟨rfl, rfl⟩
    have hw1 : IntKind.i64.wrap ((S.cache.length : Int) - a) = (S.cache.length : Int) - a := IntWalk.i64_in _ (by omega)
    by_cases hs : (S.cache.length : Int) - a < (objSize p d : Nat)
    · have HV : Hid (headN S a = ⟨0, 0, 22⟩) := Lib.hid (by rw [HV0.out, if_pos (.inr hs)])
      go_wp2_with (refine wpList_store_row (cs := #[.int .i64 0, .int .i64 0]) aggOb hg3 rfl rfl (by simp [Value.oneCell']) rfl rfl rfl rfl ?_; intro w4 hg5 hgr4 hs4)
      refine bodyPost_ret (results_cell_row2 (p := 4) (u := 5) rfl _ _ _ _ _ _ _ rfl hg5 Try.underlying73 rfl (by kernel_rfl)) rfl ⟨by rw [HE.out _ HV.out]; rfl, ?_⟩
      exact HB3.out.grown hgr4 HB3.out.size (fun k e => by cases e; omega)
    · have HV : Hid (headN S a = ⟨p, d, 0⟩) := Lib.hid (by rw [HV0.out, if_neg (fun h => h.elim (fun h => h rfl) hs)])
      go_wp2_with (refine wpList_store_row (cs := #[.int .i64 p, .int .i64 d]) aggOb hg3 rfl rfl (by simp [Value.oneCell']) rfl rfl rfl rfl ?_; intro w4 hg5 hgr4 hs4)
      refine bodyPost_ret (results_cell_row2 (p := 4) (u := 5) rfl _ _ _ _ _ _ _ rfl hg5 Try.underlying73 rfl (by kernel_rfl)) rfl ⟨by rw [HV.out]; rfl, ?_⟩
      exact HB3.out.grown hgr4 HB3.out.size (fun k e => by cases e; omega)
  · have HV : Hid (headN S a = ⟨0, 0, 22⟩) := Lib.hid (by rw [HV0.out, if_pos (.inl hc)])
    have hc1 : (c != 0) = true := by simpa using hc
    clear hc
    go_wp2_with (refine wpList_store_row (cs := #[.int .i64 0, .int .i64 0]) aggOb hg2 rfl rfl (by simp [Value.oneCell']) rfl rfl rfl rfl ?_; intro w4 hg5 hgr4 hs4)
    refine bodyPost_ret (results_cell_row2 (p := 4) (u := 5) rfl _ _ _ _ _ _ _ rfl hg5 Try.underlying73 rfl (by kernel_rfl)) rfl ⟨by rw [HE.out _ HV.out]; rfl, ?_⟩
    exact HB2.out.grown hgr4 HB2.out.size (fun k e => by cases e; omega)

/-- Where a field lies; code 22, 7. -/
structure Place where
  at_ : Int
  code : Int
def placeN (S : Dev) (a i : Int) (data : Bool) : Place :=
  if (headN S a).code ≠ 0 then ⟨0, 22⟩ else
    if data = true then (if 0 ≤ i ∧ i < (headN S a).d then ⟨a + (1 + (headN S a).p + i), 0⟩ else ⟨0, 7⟩) else (if 0 ≤ i ∧ i < (headN S a).p then ⟨a + (1 + i), 0⟩ else ⟨0, 7⟩)

theorem head_small {S : Dev} (hw : S.cache.length ≤ 1000000) {a : Int} (h : (headN S a).code = 0) : (0 ≤ a ∧ a < 1000000) ∧ (0 ≤ (headN S a).p ∧ (headN S a).p < 64) ∧ (0 ≤ (headN S a).d ∧ (headN S a).d ≤ 16384) := by
  rcases headN_code S a with ⟨_, h1, h2, h3, _⟩ | h1
  · have := obj_small h3
    exact ⟨⟨h1, by omega⟩, this⟩
  · rw [h1] at h; simp at h

set_option maxHeartbeats 2000000 in
set_option maxRecDepth 20000 in
theorem ofield_any {w : World} {F : Foot} {S : Dev} (h : DevAt w F S) (a i : Int) (data : Bool) :
    Calls Try.prog 69 #[vdev F, .int .i64 a, .int .i64 i, .bool data] w fun e w' => e = .returned (.tuple #[.int .i64 (placeN S a i data).at_, .int .i64 (placeN S a i data).code]) ∧ Below w.heap.size w w' := by
  have HSm := Lib.hid (head_small h.small (a := a))
  have HPL : Hid (placeN S a i data = if (headN S a).code ≠ 0 then ⟨0, 22⟩ else if data = true then (if 0 ≤ i ∧ i < (headN S a).d then ⟨a + (1 + (headN S a).p + i), 0⟩ else ⟨0, 7⟩) else (if 0 ≤ i ∧ i < (headN S a).p then ⟨a + (1 + i), 0⟩ else ⟨0, 7⟩)) := Lib.hid rfl
  have HC := Lib.hid (headN_code S a)
  have HD := Lib.hid h
  clear h
  generalize placeN S a i data = pn at *
  go_enter Try.func69, Try.ntmps69
  go_wp2_with fail
  refine (ohead_any HD.out a).mono ?_
  rintro e w1 ⟨rfl, hb1⟩
  have hC22 : Hid ((headN S a).code = 0 ∨ (headN S a).code = 22) := Lib.hid (HC.out.elim (fun h => .inl h.1) (fun h => .inr (by rw [h])))
  generalize headN S a = x at *
  obtain ⟨p, d, c⟩ := x
  unfold Odec.val
  dsimp only at HSm HPL hC22 ⊢
  have hbx := below_alloc w1 (Obj.cells #[Value.int .i64 p, Value.int .i64 d] 73)
  have HB := Lib.hid (hb1.trans (hbx.mono hb1.size))
  have e0 : (w1.alloc (Obj.cells #[Value.int .i64 p, Value.int .i64 d] 73)).cell? ⟨w1.heap.size, 0, none⟩ = some (.int .i64 p) := cell_alloc_new _ _ _ 0 _ rfl
  have e1 : (w1.alloc (Obj.cells #[Value.int .i64 p, Value.int .i64 d] 73)).cell? ⟨w1.heap.size, 1, none⟩ = some (.int .i64 d) := cell_alloc_new _ _ _ 1 _ rfl
  clear hb1 hbx HC HD
  by_cases hc : c = 0
  · subst hc
    obtain ⟨ha, hp, hd⟩ := HSm.out rfl
    go_wp2_with fail
    refine (optr_any p d i _).mono ?_
    rintro e w2 ⟨rfl, hb2⟩
    generalize w1.alloc (Obj.cells #[Value.int .i64 p, Value.int .i64 d] 73) = w1' at *
    have HB2 := Lib.hid (HB.out.trans (hb2.mono HB.out.size))
    have f0 := below_cells hb2 e0 (Nat.le_refl _)
    have f1 := below_cells hb2 e1 (Nat.le_refl _)
    clear hb2 HB e0 e1
    cases data
    · by_cases hi : 0 ≤ i ∧ i < p
      · have hw1 : IntKind.i64.wrap (1 + i) = 1 + i := IntWalk.i64_in _ (by omega)
        have hw2 : IntKind.i64.wrap (a + (1 + i)) = a + (1 + i) := IntWalk.i64_in _ (by omega)
        have hd1 : decide (0 ≤ i ∧ i < p) = true := by simpa using hi
        have HV : Hid (pn = ⟨a + (1 + i), 0⟩) := Lib.hid (by rw [HPL.out, if_neg (by simp), if_neg (by simp), if_pos hi])
        rw [hd1, hw1]
        clear hi hd1
        go_wp2_with fail
        go_ret2
        exact ⟨by rw [HV.out]; rfl, HB2.out⟩
      · have hd1 : decide (0 ≤ i ∧ i < p) = false := by simpa using hi
        have HV : Hid (pn = ⟨0, 7⟩) := Lib.hid (by rw [HPL.out, if_neg (by simp), if_neg (by simp), if_neg hi])
        rw [hd1]
        clear hi hd1
        go_wp2_with fail
        go_ret2
        exact ⟨by rw [HV.out]; rfl, HB2.out⟩
    · generalize IntKind.i64.wrap (1 + i) = z1 at *
      generalize decide (0 ≤ i ∧ i < p) = bb at *
      go_wp2_with fail
      refine (odata_any p d i _).mono ?_
      rintro e w3 ⟨rfl, hb3⟩
      have HB3 := Lib.hid (HB2.out.trans (hb3.mono HB2.out.size))
      clear hb3 HB2 f0 f1
      have hw1 : IntKind.i64.wrap (1 + p) = 1 + p := IntWalk.i64_in _ (by omega)
      rw [hw1]
      by_cases hi : 0 ≤ i ∧ i < d
      · have hw2 : IntKind.i64.wrap (1 + p + i) = 1 + p + i := IntWalk.i64_in _ (by omega)
        have hw3 : IntKind.i64.wrap (a + (1 + p + i)) = a + (1 + p + i) := IntWalk.i64_in _ (by omega)
        have hd1 : decide (0 ≤ i ∧ i < d) = true := by simpa using hi
        have HV : Hid (pn = ⟨a + (1 + p + i), 0⟩) := Lib.hid (by rw [HPL.out]; simp [hi])
        rw [hd1, hw2]
        clear hi hd1
        go_wp2_with fail
        go_ret2
        exact ⟨by rw [HV.out]; rfl, HB3.out⟩
      · have hd1 : decide (0 ≤ i ∧ i < d) = false := by simpa using hi
        have HV : Hid (pn = ⟨0, 7⟩) := Lib.hid (by rw [HPL.out]; simp [hi])
        rw [hd1]
        clear hi hd1
        go_wp2_with fail
        go_ret2
        exact ⟨by rw [HV.out]; rfl, HB3.out⟩
  · have hc2 : c = 22 := hC22.out.elim (fun h => absurd h hc) id
    subst hc2
    have HV : Hid (pn = ⟨0, 22⟩) := Lib.hid (by rw [HPL.out, if_pos hc])
    clear hc
    go_wp2_with fail
    go_ret2
    exact ⟨by rw [HV.out]; rfl, HB.out⟩

/-- Words from one on become noughts, up to the first error. -/
def zeroTo (S : Dev) (a : Nat) : Nat → Done
  | 0 => ⟨S, 0⟩
  | k + 1 => if (zeroTo S a k).err ≠ 0 then zeroTo S a k else ⟨(zeroTo S a k).dev.store ((a + 1 + k : Nat) : Int) 0, (zeroTo S a k).dev.storeE ((a + 1 + k : Nat) : Int)⟩
/-- An object is begun. -/
def Dev.initN (S : Dev) (a : Nat) (n : Nat) (x : Nat) : Done :=
  if (zeroTo S a (n - 1)).err ≠ 0 then zeroTo S a (n - 1) else ⟨(zeroTo S a (n - 1)).dev.store (a : Int) x, (zeroTo S a (n - 1)).dev.storeE (a : Int)⟩
def Dev.init (S : Dev) (a p d : Int) : Done :=
  if objSize p d = 0 then ⟨S, 5⟩ else if a < 0 ∨ (S.cache.length : Int) ≤ a ∨ (S.cache.length : Int) - a < (objSize p d : Nat) then ⟨S, 2⟩ else S.initN a.toNat (objSize p d) (oencN a p d)

theorem zeroTo_stays (S : Dev) (a m : Nat) : ∀ k, m ≤ k → (zeroTo S a m).err ≠ 0 → zeroTo S a k = zeroTo S a m := by
  intro k
  induction k with
  | zero => intro h _; obtain rfl : m = 0 := by omega
            rfl
  | succ k ih =>
    intro hk hne
    by_cases e : m = k + 1
    · rw [e]
    · have := ih (by omega) hne
      rw [zeroTo, this, if_pos hne]
theorem zeroTo_ok {S : Dev} {N : Nat} (h : S.ok N) (a k : Nat) : (zeroTo S a k).dev.ok (N + k) := by
  induction k with
  | zero => exact h
  | succ k ih =>
    unfold zeroTo
    split
    · exact ih.mono (by omega)
    · exact Dev.store_okN ih _ _

set_option maxHeartbeats 2000000 in
set_option maxRecDepth 20000 in
theorem oinit_any {w : World} {F : Foot} {S : Dev} (h : DevAt w F S) {N : Nat} (hN : N ≤ 100000000000) (ho : S.ok N) (a p d : Int) :
    Calls Try.prog 30 #[vdev F, .int .i64 a, vob p d] w fun e w' => e = .returned (.int .i64 (S.init a p d).err) ∧ DevAt w' F (S.init a p d).dev ∧ Touch F.list w w' := by
  have hbx := below_alloc w (Obj.cells #[Value.int .i64 p, Value.int .i64 d] 73)
  have e0 : (w.alloc (Obj.cells #[Value.int .i64 p, Value.int .i64 d] 73)).cell? ⟨w.heap.size, 0, none⟩ = some (.int .i64 p) := cell_alloc_new _ _ _ 0 _ rfl
  have e1 : (w.alloc (Obj.cells #[Value.int .i64 p, Value.int .i64 d] 73)).cell? ⟨w.heap.size, 1, none⟩ = some (.int .i64 d) := cell_alloc_new _ _ _ 1 _ rfl
  have HI : Hid (S.init a p d = if objSize p d = 0 then ⟨S, 5⟩ else if a < 0 ∨ (S.cache.length : Int) ≤ a ∨ (S.cache.length : Int) - a < (objSize p d : Nat) then ⟨S, 2⟩ else S.initN a.toNat (objSize p d) (oencN a p d)) := Lib.hid rfl
  have HMem := Lib.hid h.mem
  have HD0 := Lib.hid (h.below hbx)
  have HT0 : Hid (Touch F.list w (w.alloc (Obj.cells #[Value.int .i64 p, Value.int .i64 d] 73))) := Lib.hid (Touch.ofBelow hbx)
  have hsm := h.small
  have hsz := objSize_le p d
  clear hbx h
  generalize S.init a p d = R at *
  go_enter Try.func30, Try.ntmps30
  go_wp2_with fail
  refine (osize_any p d _).mono ?_
  rintro e w1 ⟨rfl, hb1⟩
  generalize w.alloc (Obj.cells #[Value.int .i64 p, Value.int .i64 d] 73) = w0 at *
  have f0 := below_cells hb1 e0 (Nat.le_refl _)
  have f1 := below_cells hb1 e1 (Nat.le_refl _)
  have HD1 := Lib.hid (HD0.out.below hb1)
  have HT1 : Hid (Touch F.list w w1) := Lib.hid (HT0.out.trans (Touch.ofBelow hb1))
  obtain ⟨q, hq⟩ : ∃ q, q = w.heap.size := ⟨_, rfl⟩
  rw [← hq] at f0 f1 ⊢
  have hqF : q ∉ F.list := fun hm => by have := HMem.out q hm; omega
  clear hb1 HD0 HT0 e0 e1 hq
  have HEn : Hid (oencN a p d < 18446744073709551616) := Lib.hid (oencN_lt a p d)
  generalize hs : objSize p d = n at *
  have HS := Lib.hid hs
  clear hs
  by_cases hn0 : n = 0
  · subst hn0
    have HV : Hid (R = ⟨S, 5⟩) := Lib.hid (by rw [HI.out, if_pos rfl])
    go_wp2_with fail
    go_ret
    rw [HV.out]
    exact ⟨rfl, HD1.out, HT1.out⟩
  have hn0' : ((n : Int) == 0) = false := by simp; omega
  by_cases h0 : a < 0
  · have HV : Hid (R = ⟨S, 2⟩) := Lib.hid (by rw [HI.out, if_neg hn0, if_pos (.inl h0)])
    go_wp2_with fail
    go_ret
    rw [HV.out]
    exact ⟨rfl, HD1.out, HT1.out⟩
  by_cases h1 : (S.cache.length : Int) ≤ a
  · have HV : Hid (R = ⟨S, 2⟩) := Lib.hid (by rw [HI.out, if_neg hn0, if_pos (.inr (.inl h1))])
    go_wp2_with fail
    refine (dlen_any HD1.out).mono ?_
    rintro e w2 ⟨rfl, rfl⟩
    go_wp2_with fail
    go_ret
    rw [HV.out]
    exact ⟨rfl, HD1.out, HT1.out⟩
  obtain ⟨j, rfl⟩ := Int.eq_ofNat_of_zero_le (show 0 ≤ a by omega)
  have h0d : decide ((j : Int) < 0) = false := by simp
  have h1d : decide ((S.cache.length : Int) ≤ (j : Int)) = false := by simpa using h1
  have hw1 : IntKind.i64.wrap ((S.cache.length : Int) - (j : Int)) = (S.cache.length : Int) - (j : Int) := IntWalk.i64_in _ (by omega)
  have hjl : (j : Int) < (S.cache.length : Int) := by omega
  have h1n : decide (S.cache.length ≤ j) = false := by simp; omega
  clear h0 h1
  go_wp2_with fail
  refine (dlen_any HD1.out).mono ?_
  rintro e w2 ⟨rfl, rfl⟩
  go_wp2_with fail
  refine (dlen_any HD1.out).mono ?_
  rintro e w2 ⟨rfl, rfl⟩
  by_cases h2 : (S.cache.length : Int) - (j : Int) < (n : Int)
  · have HV : Hid (R = ⟨S, 2⟩) := Lib.hid (by rw [HI.out, if_neg hn0, if_pos (.inr (.inr h2))])
    go_wp2_with fail
    go_ret
    rw [HV.out]
    exact ⟨rfl, HD1.out, HT1.out⟩
  have HV : Hid (R = S.initN j n (oencN (j : Int) p d)) := Lib.hid (by rw [HI.out, if_neg hn0, if_neg (by omega)]; rfl)
  have h2d : decide ((S.cache.length : Int) - (j : Int) < (n : Int)) = false := by simpa using h2
  have hjn : (j : Int) + (n : Int) ≤ (S.cache.length : Int) := by omega
  clear HI h2
  go_wp2_with fail
  go_loopw [8] (fun i wr => ∃ k : Nat, k + 1 ≤ n ∧ i = .int .i64 ((k : Int) + 1) ∧ (zeroTo S j k).err = 0 ∧ DevAt wr F (zeroTo S j k).dev ∧ Touch F.list w wr ∧ wr.cell? ⟨q, 0, none⟩ = some (.int .i64 p) ∧ wr.cell? ⟨q, 1, none⟩ = some (.int .i64 d)) (fun i _ => n - (intOf i).toNat)
  case atStart => exact ⟨0, by omega, rfl, rfl, HD1.out, HT1.out, f0, f1⟩
  case round =>
    obtain ⟨k, hk, rfl, he, hd, ht, g0, g1⟩ := hrel
    have HOk := Lib.hid (zeroTo_ok ho j k)
    have HStay := Lib.hid (zeroTo_stays S j (k + 1) (n - 1))
    have HZ : Hid (zeroTo S j (k + 1) = if (zeroTo S j k).err ≠ 0 then zeroTo S j k else ⟨(zeroTo S j k).dev.store ((j + 1 + k : Nat) : Int) 0, (zeroTo S j k).dev.storeE ((j + 1 + k : Nat) : Int)⟩) := Lib.hid rfl
    have HIn : Hid (S.initN j n (oencN (j : Int) p d) = if (zeroTo S j (n - 1)).err ≠ 0 then zeroTo S j (n - 1) else ⟨(zeroTo S j (n - 1)).dev.store (j : Int) (oencN (j : Int) p d), (zeroTo S j (n - 1)).dev.storeE (j : Int)⟩) := Lib.hid rfl
    have HZK : Hid (k + 1 = n → zeroTo S j (n - 1) = zeroTo S j k) := Lib.hid (fun h => by rw [← h]; rfl)
    generalize zeroTo S j k = Z at *
    have HE := Lib.hid he
    have HD := Lib.hid hd
    have HT := Lib.hid ht
    clear he hd ht f0 f1
    by_cases hlt : (k : Int) + 1 < (n : Int)
    · have hw2 : IntKind.i64.wrap ((j : Int) + ((k : Int) + 1)) = (j : Int) + ((k : Int) + 1) := IntWalk.i64_in _ (by omega)
      go_wp2_with fail
      refine (store_any HD.out (N := N + k) (by omega) HOk.out _ 0 (by decide)).mono ?_
      rintro e w2 ⟨rfl, hd2, ht2⟩
      have hc : ((j + 1 + k : Nat) : Int) = (j : Int) + ((k : Int) + 1) := by omega
      have HZ2 : Hid (zeroTo S j (k + 1) = ⟨Z.dev.store ((j : Int) + ((k : Int) + 1)) 0, Z.dev.storeE ((j : Int) + ((k : Int) + 1))⟩) := Lib.hid (by rw [HZ.out, if_neg (by rw [HE.out]; simp), hc])
      clear hc
      generalize Z.dev.store ((j : Int) + ((k : Int) + 1)) 0 = S2 at *
      generalize Z.dev.storeE ((j : Int) + ((k : Int) + 1)) = E2 at *
      have i0 := cell_of_touch ht2 (p := ⟨q, 0, none⟩) hqF g0
      have i1 := cell_of_touch ht2 (p := ⟨q, 1, none⟩) hqF g1
      have HD2 := Lib.hid hd2
      have HT2 : Hid (Touch F.list w w2) := Lib.hid (HT.out.trans ht2)
      clear hd2 ht2 g0 g1 HT HD
      by_cases hz : E2 = 0
      · subst hz
        go_wp2_with fail
        exact ⟨⟨k + 1, by omega, vint (by omega), by rw [HZ2.out], by rw [HZ2.out]; exact HD2.out, HT2.out, i0, i1⟩, by simp [intOf]; omega⟩
      · have hz1 : (E2 != 0) = true := by simpa using hz
        have HR : Hid (R = ⟨S2, E2⟩) := Lib.hid (by
          have h1 := HStay.out (by omega) (by rw [HZ2.out]; exact hz)
          rw [HV.out, HIn.out, h1, HZ2.out, if_pos hz])
        clear hz
        go_wp2_with fail
        go_ret
        rw [HR.out]
        exact ⟨rfl, HD2.out, HT2.out⟩
    · have hkn : k + 1 = n := by omega
      have HR : Hid (R = ⟨Z.dev.store (j : Int) (oencN (j : Int) p d), Z.dev.storeE (j : Int)⟩) := Lib.hid (by rw [HV.out, HIn.out, HZK.out hkn, if_neg (by rw [HE.out]; simp)])
      clear hkn
      go_wp2_with fail
      refine (oencode_any _ p d _).mono ?_
      rintro e w2 ⟨rfl, hb2⟩
      have HD2 := Lib.hid (HD.out.below hb2)
      have HT2 : Hid (Touch F.list w w2) := Lib.hid (HT.out.trans (Touch.ofBelow hb2))
      clear hb2 HD HT
      go_wp2_with fail
      refine (store_any HD2.out (N := N + k) (by omega) HOk.out _ _ HEn.out).mono ?_
      rintro e w3 ⟨rfl, hd3, ht3⟩
      have HD3 := Lib.hid hd3
      have HT3 : Hid (Touch F.list w w3) := Lib.hid (HT2.out.trans ht3)
      clear hd3 ht3
      go_wp2_with fail
      go_ret
      rw [HR.out]
      exact ⟨rfl, HD3.out, HT3.out⟩

end Go.Proofs.Ytjgdplengfnkaaa

/- The reference's objects on a device: Head, Place, Init. -/
namespace Go.Proofs.Ytjgdplengfnkaaa
open Go.RowKit
set_option linter.unusedVariables false

/-- What Head answers. -/
def headV (o : Odec) : Value := .tuple #[vob o.p o.d, .bool (decide (o.code = 0))]

set_option maxHeartbeats 4000000 in
set_option maxRecDepth 100000 in
theorem rhead15_any {w : World} {v : Value} {S : Dev} {m : Nat} (hm : S.dirty.length = m) (h : RAt w v m S.ref) {N : Nat} (hf : S.fit N) (a : Int) :
    Calls Try.prog 38 #[v, .int .i64 a] w fun e w' => e = .returned (headV (headN S a)) ∧ Below w.heap.size w w' := by
  subst hm
  obtain ⟨an, cn, al, cl, aw, cw, ad, cd, ap, cp, m, sv, fz, dd, rfl, ho, hdl, hm8, hsv, hfz⟩ := ropen h hf
  have HV : Hid (headN S a = if a < 0 ∨ (S.cache.length : Int) ≤ a then ⟨0, 0, 22⟩ else
    if (odecN a (peek S.cache a)).code ≠ 0 ∨ (S.cache.length : Int) - a < (objSize (odecN a (peek S.cache a)).p (odecN a (peek S.cache a)).d : Nat) then ⟨0, 0, 22⟩ else ⟨(odecN a (peek S.cache a)).p, (odecN a (peek S.cache a)).d, 0⟩) := Lib.hid rfl
  generalize headN S a = R at *
  have HPk := Lib.hid (peek_lt hf.wf.u64C a)
  have HO := Lib.hid ho
  have HCL := Lib.hid ho.cl
  clear h hf ho hdl
  have HM := Lib.hid (Mem.two w #[.slice an m cn, .slice al m cl, .slice aw m cw, .slice ad m cd, .slice ap m cp, .int .i64 sv, .int .i64 fz, .bool dd] 31 #[.int .i64 0, .int .i64 0] 88)
  go_enter Try.func38, Try.ntmps38
  go_upto_region 1 with fail
  generalize (w.alloc _).alloc _ = w0 at *
  have c0 := HM.out.cell 0 0 rfl rfl
  by_cases h1 : a < 0
  · have HR : Hid (R = ⟨0, 0, 22⟩) := Lib.hid (by rw [HV.out, if_pos (.inl h1)])
    go_wp2_with (refine wpList_store_mem aggRo HM.out 1 rfl rfl rfl rfl rfl rfl rfl rfl ?_; intro w9 h9 _; have H9 := Lib.hid h9; clear h9)
    exact bodyPost_ret (results_cell_row2 (p := 4) (u := 5) rfl _ _ _ _ _ _ _ rfl (H9.out.exact 1 rfl) Try.underlying88 rfl (by kernel_rfl)) rfl ⟨by rw [HR.out]; rfl, H9.out.below⟩
  by_cases h2 : 8 * (m : Int) ≤ a
  · have HR : Hid (R = ⟨0, 0, 22⟩) := Lib.hid (by rw [HV.out, if_pos (.inr (by rw [HCL.out]; omega))])
    go_wp2_with (refine wpList_store_mem aggRo HM.out 1 rfl rfl rfl rfl rfl rfl rfl rfl ?_; intro w9 h9 _; have H9 := Lib.hid h9; clear h9)
    exact bodyPost_ret (results_cell_row2 (p := 4) (u := 5) rfl _ _ _ _ _ _ _ rfl (H9.out.exact 1 rfl) Try.underlying88 rfl (by kernel_rfl)) rfl ⟨by rw [HR.out]; rfl, H9.out.below⟩
  have HV2 : Hid (R = if (odecN a (peek S.cache a)).code ≠ 0 ∨ 8 * (m : Int) - a < (objSize (odecN a (peek S.cache a)).p (odecN a (peek S.cache a)).d : Nat) then ⟨0, 0, 22⟩ else ⟨(odecN a (peek S.cache a)).p, (odecN a (peek S.cache a)).d, 0⟩) := Lib.hid (by
    rw [HV.out, if_neg (by rw [HCL.out]; omega), show (S.cache.length : Int) = 8 * (m : Int) by rw [HCL.out]; omega])
  clear HV
  go_wp2_with fail
  refine (rget_any an m cn S.cache _ (HO.out.k1.below HM.out.below (Nat.le_refl _)) HCL.out (by omega) a).mono ?_
  rintro e w1 ⟨rfl, rfl⟩
  generalize peek S.cache a = x at *
  go_wp2_with fail
  refine (rdecode8_any a x HPk.out _).mono ?_
  rintro e w1 ⟨rfl, hb1⟩
  have HM1 := Lib.hid (HM.out.later hb1)
  generalize odecN a x = o at *
  obtain ⟨p, d, c⟩ := o
  unfold Odec.val
  dsimp only at HV2 ⊢
  have HM2 := Lib.hid (HM1.out.alloc #[.int .i64 p, .int .i64 d] 88)
  clear hb1 HM c0 HM1
  go_upto_region 4 with fail
  generalize w1.alloc _ = w2 at *
  generalize w1.heap.size = g at *
  by_cases hc : c = 0
  · subst hc
    have c0 := HM2.out.cell 0 0 rfl rfl
    have d0 := HM2.out.cell 2 0 rfl rfl
    have d1 := HM2.out.cell 2 1 rfl rfl
    have r0 := fun x => later_cell c0 x
    have r1 := fun x => later_cell d0 x
    have r2 := fun x => later_cell d1 x
    have hw : IntKind.i64.wrap (8 * (m : Int) - a) = 8 * (m : Int) - a := IntWalk.i64_in _ (by omega)
    refine wp_region_seg (C := fun w' => ∃ x : Later (w2), w' = x.val) [.sq [0, 1, 2] false, .fl [3, 5, 6, 7, 8, 9, 10], .sq [4] true, .sq [11, 12] false] (by kernel_rfl) (by kernel_rfl) (by intro c a d v w h; cases d <;> exact h) ?_
    simp only [segs, picks, List.getElem?_cons_succ, List.getElem?_cons_zero]
    have hC1 := later_drew (w2)
    refine wpSeg_sq (fun K hK => ?_)
    go_wp2_with fail
    refine hK _ _ (fun h => nomatch h) ?_
    clear hK K
    refine wpSeg_fl hC1 ?_
    repeat (first | go_big_quiet_step (fail) | quiet_step (fail))
    refine wpQuiet_nil ?_
    refine wpSeg_sq (fun K hK => ?_)
    go_wp2_with fail
    have HM3 := Lib.hid (HM2.out.later (later_below hC1))
    refine (rsize8_any p d _).mono ?_
    rintro e w3 ⟨rfl, hb3⟩
    have hC2 := later_step hC1 hb3
    have HM4 := Lib.hid (HM3.out.later hb3)
    clear hb3 HM3
    go_wp2_with fail
    refine hK _ _ (fun _ => hC2) ?_
    clear hK K
    clear HM2 c0 d0 d1 r0 r1 r2 hC1 hC2
    generalize objSize p d = sz at *
    by_cases h3 : 8 * (m : Int) - a < (sz : Int)
    · have HR : Hid (R = ⟨0, 0, 22⟩) := Lib.hid (by rw [HV2.out, if_pos (.inr h3)])
      refine wpSeg_last ?_
      go_wp2_with (refine wpList_store_mem aggRo HM4.out 1 rfl rfl rfl rfl rfl rfl rfl rfl ?_; intro w9 h9 _; have H9 := Lib.hid h9; clear h9)
      exact bodyPost_ret (results_cell_row2 (p := 4) (u := 5) rfl _ _ _ _ _ _ _ rfl (H9.out.exact 1 rfl) Try.underlying88 rfl (by kernel_rfl)) rfl ⟨by rw [HR.out]; rfl, H9.out.below⟩
    · have HR : Hid (R = ⟨p, d, 0⟩) := Lib.hid (by rw [HV2.out, if_neg (by simp; omega)])
      refine wpSeg_last ?_
      go_wp2_with (first | (refine wpList_load_mem aggRo HM4.out 2 rfl rfl rfl rfl rfl ?_) | (refine wpList_store_mem aggRo HM4.out 1 rfl rfl rfl rfl rfl rfl rfl rfl ?_; intro w9 h9 _; have H9 := Lib.hid h9; clear h9))
      exact bodyPost_ret (results_cell_row2 (p := 4) (u := 5) rfl _ _ _ _ _ _ _ rfl (H9.out.exact 1 rfl) Try.underlying88 rfl (by kernel_rfl)) rfl ⟨by rw [HR.out]; rfl, H9.out.below⟩
  · have HR : Hid (R = ⟨0, 0, 22⟩) := Lib.hid (by rw [HV2.out, if_pos (.inl hc)])
    have hc1 : (c != 0) = true := by simpa using hc
    clear hc
    refine wp_region_seg (C := fun w' => ∃ x : Later (w2), w' = x.val) [.sq [0, 1, 2] false, .fl [3, 5, 6, 7, 8, 9, 10], .sq [4] true, .sq [11, 12] false] (by kernel_rfl) (by kernel_rfl) (by intro c a d v w h; cases d <;> exact h) ?_
    simp only [segs, picks, List.getElem?_cons_succ, List.getElem?_cons_zero]
    have hC1 := later_drew (w2)
    refine wpSeg_sq (fun K hK => ?_)
    go_wp2_with fail
    refine hK _ _ (fun h => nomatch h) ?_
    clear hK K
    refine wpSeg_fl hC1 ?_
    repeat (first | go_big_quiet_step (fail) | quiet_step (fail))
    refine wpQuiet_nil ?_
    refine wpSeg_sq (fun K hK => ?_)
    go_wp2_with fail
    go_wp2_with fail
    refine hK _ _ (fun _ => hC1) ?_
    clear hK K
    have HM4 := Lib.hid (HM2.out.later (later_below hC1))
    clear HM2 hC1
    refine wpSeg_last ?_
    go_wp2_with (refine wpList_store_mem aggRo HM4.out 1 rfl rfl rfl rfl rfl rfl rfl rfl ?_; intro w9 h9 _; have H9 := Lib.hid h9; clear h9)
    exact bodyPost_ret (results_cell_row2 (p := 4) (u := 5) rfl _ _ _ _ _ _ _ rfl (H9.out.exact 1 rfl) Try.underlying88 rfl (by kernel_rfl)) rfl ⟨by rw [HR.out]; rfl, H9.out.below⟩

end Go.Proofs.Ytjgdplengfnkaaa

/- object: SetPtr, SetData, Persist, Lasts, Words; nvm: Lasting. -/
namespace Go.Proofs.Ytjgdplengfnkaaa
open Go.RowKit
set_option linter.unusedVariables false

def Dev.setPtr (S : Dev) (a i x : Int) : Done :=
  if (placeN S a i false).code ≠ 0 then ⟨S, (placeN S a i false).code⟩ else if x < 0 then ⟨S, 1⟩ else ⟨S.store (placeN S a i false).at_ x.toNat, S.storeE (placeN S a i false).at_⟩
def Dev.setData (S : Dev) (a i : Int) (x : Nat) : Done :=
  if (placeN S a i true).code ≠ 0 then ⟨S, (placeN S a i true).code⟩ else ⟨S.store (placeN S a i true).at_ x, S.storeE (placeN S a i true).at_⟩
def Dev.opersist (S : Dev) (a : Int) : Done :=
  if (headN S a).code ≠ 0 then ⟨S, (headN S a).code⟩ else S.persist a (objSize (headN S a).p (headN S a).d : Nat)

set_option maxHeartbeats 1000000 in
theorem osetPtr_any {w : World} {F : Foot} {S : Dev} (h : DevAt w F S) {N : Nat} (hN : N < 1000000000000) (ho : S.ok N) (a i x : Int) (hx : x ≤ 9223372036854775807) :
    Calls Try.prog 31 #[vdev F, .int .i64 a, .int .i64 i, .int .i64 x] w fun e w' => e = .returned (.int .i64 (S.setPtr a i x).err) ∧ DevAt w' F (S.setPtr a i x).dev ∧ Touch F.list w w' := by
  have HI : Hid (S.setPtr a i x = if (placeN S a i false).code ≠ 0 then ⟨S, (placeN S a i false).code⟩ else if x < 0 then ⟨S, 1⟩ else ⟨S.store (placeN S a i false).at_ x.toNat, S.storeE (placeN S a i false).at_⟩) := Lib.hid rfl
  generalize S.setPtr a i x = R at *
  have HD := Lib.hid h
  clear h
  go_enter Try.func31, Try.ntmps31
  go_wp2_with fail
  refine (ofield_any HD.out a i false).mono ?_
  rintro e w1 ⟨rfl, hb1⟩
  have HD1 := Lib.hid (HD.out.below hb1)
  have HT1 : Hid (Touch F.list w w1) := Lib.hid (Touch.ofBelow hb1)
  clear hb1 HD
  generalize placeN S a i false = pn at *
  obtain ⟨q, c⟩ := pn
  dsimp only at HI ⊢
  by_cases hc : c = 0
  · subst hc
    by_cases hx0 : x < 0
    · have HV : Hid (R = ⟨S, 1⟩) := Lib.hid (by rw [HI.out, if_neg (by simp), if_pos hx0])
      go_wp2_with fail
      go_ret
      rw [HV.out]
      exact ⟨rfl, HD1.out, HT1.out⟩
    · obtain ⟨y, rfl⟩ := Int.eq_ofNat_of_zero_le (show 0 ≤ x by omega)
      have HV : Hid (R = ⟨S.store q y, S.storeE q⟩) := Lib.hid (by rw [HI.out, if_neg (by simp), if_neg hx0]; rfl)
      have hy : y < 18446744073709551616 := by omega
      clear HI
      go_wp2_with fail
      refine (store_any HD1.out hN ho _ _ hy).mono ?_
      rintro e w2 ⟨rfl, hd2, ht2⟩
      have HD2 := Lib.hid hd2
      have HT2 : Hid (Touch F.list w w2) := Lib.hid (HT1.out.trans ht2)
      clear hd2 ht2
      go_wp2_with fail
      go_ret
      rw [HV.out]
      exact ⟨rfl, HD2.out, HT2.out⟩
  · have hc1 : (c != 0) = true := by simpa using hc
    have HV : Hid (R = ⟨S, c⟩) := Lib.hid (by rw [HI.out, if_pos hc])
    clear hc
    go_wp2_with fail
    go_ret
    rw [HV.out]
    exact ⟨rfl, HD1.out, HT1.out⟩

set_option maxHeartbeats 1000000 in
theorem osetData_any {w : World} {F : Foot} {S : Dev} (h : DevAt w F S) {N : Nat} (hN : N < 1000000000000) (ho : S.ok N) (a i : Int) (x : Nat) (hx : x < 18446744073709551616) :
    Calls Try.prog 32 #[vdev F, .int .i64 a, .int .i64 i, vu64 x] w fun e w' => e = .returned (.int .i64 (S.setData a i x).err) ∧ DevAt w' F (S.setData a i x).dev ∧ Touch F.list w w' := by
  have HI : Hid (S.setData a i x = if (placeN S a i true).code ≠ 0 then ⟨S, (placeN S a i true).code⟩ else ⟨S.store (placeN S a i true).at_ x, S.storeE (placeN S a i true).at_⟩) := Lib.hid rfl
  generalize S.setData a i x = R at *
  have HD := Lib.hid h
  clear h
  go_enter Try.func32, Try.ntmps32
  go_wp2_with fail
  refine (ofield_any HD.out a i true).mono ?_
  rintro e w1 ⟨rfl, hb1⟩
  have HD1 := Lib.hid (HD.out.below hb1)
  have HT1 : Hid (Touch F.list w w1) := Lib.hid (Touch.ofBelow hb1)
  clear hb1 HD
  generalize placeN S a i true = pn at *
  obtain ⟨q, c⟩ := pn
  dsimp only at HI ⊢
  by_cases hc : c = 0
  · subst hc
    have HV : Hid (R = ⟨S.store q x, S.storeE q⟩) := Lib.hid (by rw [HI.out, if_neg (by simp)])
    clear HI
    go_wp2_with fail
    refine (store_any HD1.out hN ho _ _ hx).mono ?_
    rintro e w2 ⟨rfl, hd2, ht2⟩
    have HD2 := Lib.hid hd2
    have HT2 : Hid (Touch F.list w w2) := Lib.hid (HT1.out.trans ht2)
    clear hd2 ht2
    go_wp2_with fail
    go_ret
    rw [HV.out]
    exact ⟨rfl, HD2.out, HT2.out⟩
  · have hc1 : (c != 0) = true := by simpa using hc
    have HV : Hid (R = ⟨S, c⟩) := Lib.hid (by rw [HI.out, if_pos hc])
    clear hc
    go_wp2_with fail
    go_ret
    rw [HV.out]
    exact ⟨rfl, HD1.out, HT1.out⟩

theorem headN_code2 (S : Dev) (a : Int) : (headN S a).code = 0 ∨ (headN S a).code = 22 := (headN_code S a).elim (fun h => .inl h.1) (fun h => .inr (by rw [h]))

set_option maxHeartbeats 1000000 in
theorem opersist_any {w : World} {F : Foot} {S : Dev} (h : DevAt w F S) {N : Nat} (hN : N ≤ 100000000000) (ho : S.ok N) (a : Int) :
    Calls Try.prog 33 #[vdev F, .int .i64 a] w fun e w' => e = .returned (.int .i64 (S.opersist a).err) ∧ DevAt w' F (S.opersist a).dev ∧ Touch F.list w w' := by
  have HSm := Lib.hid (head_small h.small (a := a))
  have HI : Hid (S.opersist a = if (headN S a).code ≠ 0 then ⟨S, (headN S a).code⟩ else S.persist a (objSize (headN S a).p (headN S a).d : Nat)) := Lib.hid rfl
  generalize S.opersist a = R at *
  have HD := Lib.hid h
  clear h
  go_enter Try.func33, Try.ntmps33
  go_wp2_with fail
  refine (ohead_any HD.out a).mono ?_
  rintro e w1 ⟨rfl, hb1⟩
  have hC22 := headN_code2 S a
  generalize headN S a = x at *
  obtain ⟨p, d, c⟩ := x
  unfold Odec.val
  dsimp only at HSm HI hC22 ⊢
  have hbx := below_alloc w1 (Obj.cells #[Value.int .i64 p, Value.int .i64 d] 73)
  have hb := hb1.trans (hbx.mono hb1.size)
  have HB := Lib.hid hb
  have HD1 := Lib.hid (HD.out.below hb)
  have e0 : (w1.alloc (Obj.cells #[Value.int .i64 p, Value.int .i64 d] 73)).cell? ⟨w1.heap.size, 0, none⟩ = some (.int .i64 p) := cell_alloc_new _ _ _ 0 _ rfl
  have e1 : (w1.alloc (Obj.cells #[Value.int .i64 p, Value.int .i64 d] 73)).cell? ⟨w1.heap.size, 1, none⟩ = some (.int .i64 d) := cell_alloc_new _ _ _ 1 _ rfl
  clear hb hb1 hbx HD
  have hsz := objSize_le p d
  by_cases hc : c = 0
  · subst hc
    obtain ⟨ha, _, _⟩ := HSm.out rfl
    have HV : Hid (R = S.persist a (objSize p d : Nat)) := Lib.hid (by rw [HI.out, if_neg (by simp)])
    clear HI HSm hC22
    go_wp2_with fail
    refine (osize_any p d _).mono ?_
    rintro e w2 ⟨rfl, hb2⟩
    generalize w1.alloc (Obj.cells #[Value.int .i64 p, Value.int .i64 d] 73) = w1' at *
    have HD2 := Lib.hid (HD1.out.below hb2)
    have HT2 : Hid (Touch F.list w w2) := Lib.hid (Touch.ofBelow (HB.out.trans (hb2.mono HB.out.size)))
    clear hb2 HD1 HB e0 e1
    go_wp2_with fail
    refine (persist_any HD2.out (N := N) (by omega) ho _ _ (by omega) (by omega)).mono ?_
    rintro e w3 ⟨rfl, hd3, ht3⟩
    have HD3 := Lib.hid hd3
    have HT3 : Hid (Touch F.list w w3) := Lib.hid (HT2.out.trans ht3)
    clear hd3 ht3
    go_wp2_with fail
    go_ret
    rw [HV.out]
    exact ⟨rfl, HD3.out, HT3.out⟩
  · have hc2 : c = 22 := hC22.elim (fun h => absurd h hc) id
    subst hc2
    have HV : Hid (R = ⟨S, 22⟩) := Lib.hid (by rw [HI.out, if_pos hc])
    clear hc hC22
    go_wp2_with fail
    go_ret
    rw [HV.out]
    exact ⟨rfl, HD1.out, Touch.ofBelow HB.out⟩

set_option maxHeartbeats 1000000 in
theorem dlasting_any {w : World} {F : Foot} {S : Dev} (h : DevAt w F S) (i : Int) :
    Calls Try.prog 70 #[vdev F, .int .i64 i] w fun e w' => e = .returned (vu64 (peek S.lasting i)) ∧ w = w' := by
  have c1 : w.cell? ⟨F.d, 0, none⟩ = some (.slice (some ⟨F.l, 0, none⟩) S.cache.length F.cl) := cell_of_row _ _ 0 _ _ _ h.head
  have hll := h.lenL
  have HR := Lib.hid h.lasting
  by_cases h0 : i < 0
  · have HP : Hid (peek S.lasting i = 0) := Lib.hid (by unfold peek; rw [if_neg (by omega)])
    clear h hll
    go_enter Try.func70, Try.ntmps70
    go_wp2_with fail
    go_ret
    exact ⟨ret_int (by rw [HP.out]; rfl), rfl⟩
  obtain ⟨j, rfl⟩ := Int.eq_ofNat_of_zero_le (show 0 ≤ i by omega)
  by_cases h1 : j < S.cache.length
  · have h1' : decide ((S.cache.length : Int) ≤ (j : Int)) = false := by simp; omega
    have h1n : decide (S.cache.length ≤ j) = false := by simp; omega
    have HP : Hid (peek S.lasting (j : Int) = S.lasting.getD j 0) := Lib.hid (by unfold peek; rw [if_pos (by omega)]; rfl)
    have d0 : w.cell? ⟨F.l, j, none⟩ = some (vu64 (S.lasting.getD j 0)) := HR.out.cell (by simp [show j < S.lasting.length by omega])
    clear h hll
    generalize S.lasting.getD j 0 = y at *
    go_enter Try.func70, Try.ntmps70
    go_wp2_with fail
    go_ret
    exact ⟨by rw [HP.out]; rfl, rfl⟩
  · have h1' : (S.cache.length : Int) ≤ (j : Int) := by omega
    have h1n : S.cache.length ≤ j := by omega
    have HP : Hid (peek S.lasting (j : Int) = 0) := Lib.hid (by unfold peek; rw [if_pos (by omega)]; show S.lasting.getD j 0 = 0; exact getD_zero_of (by omega))
    clear h hll
    go_enter Try.func70, Try.ntmps70
    go_wp2_with fail
    go_ret
    exact ⟨ret_int (by rw [HP.out]; rfl), rfl⟩

end Go.Proofs.Ytjgdplengfnkaaa

/- The reference's objects on a device: Place, Init. -/
namespace Go.Proofs.Ytjgdplengfnkaaa
open Go.RowKit
set_option linter.unusedVariables false

set_option maxHeartbeats 4000000 in
set_option maxRecDepth 100000 in
theorem rplace15_any {w : World} {v : Value} {S : Dev} {m : Nat} (hm : S.dirty.length = m) (h : RAt w v m S.ref) {N : Nat} (hf : S.fit N) (a i : Int) (data : Bool) :
    Calls Try.prog 40 #[v, .int .i64 a, .int .i64 i, .bool data] w fun e w' => e = .returned (.tuple #[.int .i64 (placeN S a i data).at_, .int .i64 (placeN S a i data).code]) ∧ Below w.heap.size w w' := by
  subst hm
  obtain ⟨an, cn, al, cl, aw, cw, ad, cd, ap, cp, m, sv, fz, dd, rfl, ho, hdl, hm8, hsv, hfz⟩ := ropen h hf
  have HRA := Lib.hid h
  have HF := Lib.hid hf
  have HSm := Lib.hid (head_small hf.wf.small (a := a))
  have HPL : Hid (placeN S a i data = if (headN S a).code ≠ 0 then ⟨0, 22⟩ else if data = true then (if 0 ≤ i ∧ i < (headN S a).d then ⟨a + (1 + (headN S a).p + i), 0⟩ else ⟨0, 7⟩) else (if 0 ≤ i ∧ i < (headN S a).p then ⟨a + (1 + i), 0⟩ else ⟨0, 7⟩)) := Lib.hid rfl
  generalize placeN S a i data = R at *
  rw [hdl] at HRA
  have HDL := Lib.hid hdl
  clear hdl
  clear h hf ho
  have HM := Lib.hid (Mem.one w #[.slice an m cn, .slice al m cl, .slice aw m cw, .slice ad m cd, .slice ap m cp, .int .i64 sv, .int .i64 fz, .bool dd] 31)
  go_enter Try.func40, Try.ntmps40
  go_upto_region 1 with fail
  generalize w.alloc _ = w0 at *
  go_wp2_with (refine wpList_load_mem aggRd HM.out 0 rfl rfl rfl rfl rfl ?_)
  refine (rhead15_any HDL.out (HRA.out.below HM.out.below (Nat.le_refl _)) HF.out a).mono ?_
  rintro e w1 ⟨rfl, hb1⟩
  have hC22 := headN_code2 S a
  generalize headN S a = x at *
  obtain ⟨p, d, c⟩ := x
  unfold headV
  dsimp only at HSm HPL hC22 ⊢
  have HM1 := Lib.hid (HM.out.later hb1)
  have HM2 := Lib.hid (HM1.out.alloc #[.int .i64 p, .int .i64 d] 88)
  clear hb1 HM HM1
  by_cases hc : c = 0
  · subst hc
    obtain ⟨ha, hp, hd⟩ := HSm.out rfl
    rw [decide_eq_true (show (0 : Int) = 0 from rfl)]
    go_upto_region 2 with fail
    generalize w1.alloc _ = w2 at *
    generalize w1.heap.size = g at *
    have c0 := HM2.out.cell 1 0 rfl rfl
    have c1 := HM2.out.cell 1 1 rfl rfl
    clear hC22
    by_cases h0 : i < 0
    · have HV : Hid (R = ⟨0, 7⟩) := Lib.hid (by rw [HPL.out, if_neg (by simp)]; split <;> rw [if_neg (by omega)])
      cases data
      · go_wp2_with fail
        go_ret2
        exact ⟨by rw [HV.out]; rfl, HM2.out.below⟩
      · go_wp2_with fail
        go_ret2
        exact ⟨by rw [HV.out]; rfl, HM2.out.below⟩
    cases data
    · by_cases h1 : p ≤ i
      · have HV : Hid (R = ⟨0, 7⟩) := Lib.hid (by rw [HPL.out, if_neg (by simp), if_neg (by simp), if_neg (by omega)])
        go_wp2_with fail
        go_ret2
        exact ⟨by rw [HV.out]; rfl, HM2.out.below⟩
      · have HV : Hid (R = ⟨a + 1 + i, 0⟩) := Lib.hid (by rw [HPL.out, if_neg (by simp), if_neg (by simp), if_pos (by omega), show a + (1 + i) = a + 1 + i by omega])
        go_wp2_with fail
        go_ret2
        exact ⟨by rw [HV.out]; rfl, HM2.out.below⟩
    · by_cases h1 : d ≤ i
      · have HV : Hid (R = ⟨0, 7⟩) := Lib.hid (by rw [HPL.out, if_neg (by simp), if_pos rfl, if_neg (by omega)])
        go_wp2_with fail
        go_ret2
        exact ⟨by rw [HV.out]; rfl, HM2.out.below⟩
      · have HV : Hid (R = ⟨a + 1 + p + i, 0⟩) := Lib.hid (by rw [HPL.out, if_neg (by simp), if_pos rfl, if_pos (by omega), show a + (1 + p + i) = a + 1 + p + i by omega])
        go_wp2_with fail
        go_ret2
        exact ⟨by rw [HV.out]; rfl, HM2.out.below⟩
  · have hc2 : c = 22 := hC22.elim (fun h => absurd h hc) id
    subst hc2
    have HV : Hid (R = ⟨0, 22⟩) := Lib.hid (by rw [HPL.out, if_pos hc])
    rw [decide_eq_false hc]
    clear hc hC22
    go_upto_region 2 with fail
    generalize w1.alloc _ = w2 at *
    go_wp2_with fail
    go_ret2
    exact ⟨by rw [HV.out]; rfl, HM2.out.below⟩

/-- A boxed device ahead of other blocks of the call's own: those from q to q + n. -/
def RBx (v0 : Value) (w W : World) (q n m : Nat) (E : List Ent) (T : Dev) : Prop := ∃ an cn al cl aw cw ad cd ap cp sv fz dd, Mem w W (⟨q, 31, [.slice an m cn, .slice al m cl, .slice aw m cw, .slice ad m cd, .slice ap m cp, .int .i64 sv, .int .i64 fz, .bool dd], true⟩ :: E) ∧
  RAt W (.agg #[.slice an m cn, .slice al m cl, .slice aw m cw, .slice ad m cd, .slice ap m cp, .int .i64 sv, .int .i64 fz, .bool dd]) m T.ref ∧ (m = 0 ∨ ∀ b, RIn (.agg #[.slice an m cn, .slice al m cl, .slice aw m cw, .slice ad m cd, .slice ap m cp, .int .i64 sv, .int .i64 fz, .bool dd]) b → b < q ∨ q + n ≤ b) ∧
  (∀ b, RIn (.agg #[.slice an m cn, .slice al m cl, .slice aw m cw, .slice ad m cd, .slice ap m cp, .int .i64 sv, .int .i64 fz, .bool dd]) b → RIn v0 b ∨ w.heap.size ≤ b)

theorem Mem.three (w : World) (cs : Array Value) (t : Nat) (cs' : Array Value) (t' : Nat) (cs'' : Array Value) (t'' : Nat) : Mem w (((w.alloc (.cells cs t)).alloc (.cells cs' t')).alloc (.cells cs'' t''))
    [⟨w.heap.size, t, cs.toList, true⟩, ⟨w.heap.size + 1, t', cs'.toList, true⟩, ⟨w.heap.size + 2, t'', cs''.toList, true⟩] := by
  have h := (Mem.two w cs t cs' t').alloc cs'' t''
  simpa using h

theorem init_fit {S : Dev} {N : Nat} (h : S.fit N) (a : Nat) : ∀ k, (zeroTo S a k).dev.fit (N + k)
  | 0 => h
  | k + 1 => by
    rw [zeroTo]
    split
    · exact (init_fit h a k).mono (by omega)
    · exact Dev.store_fit (init_fit h a k) _ _ (by decide)
theorem zeroTo_dl (S : Dev) (a : Nat) : ∀ k, (zeroTo S a k).dev.dirty.length = S.dirty.length
  | 0 => rfl
  | k + 1 => by
    rw [zeroTo]
    split
    · exact zeroTo_dl S a k
    · dsimp only; rw [Dev.store_dl]; exact zeroTo_dl S a k
theorem Dev.init_fit {S : Dev} {N : Nat} (h : S.fit N) (a p d : Int) : (S.init a p d).dev.fit (N + 20000) := by
  unfold Dev.init
  split
  · exact h.mono (by omega)
  · split
    · exact h.mono (by omega)
    · have hs := objSize_le p d
      unfold Dev.initN
      split
      · exact (Go.Proofs.Ytjgdplengfnkaaa.init_fit h _ _).mono (by omega)
      · exact (Dev.store_fit (Go.Proofs.Ytjgdplengfnkaaa.init_fit h _ _) _ _ (oencN_lt _ _ _)).mono (by omega)
theorem Dev.init_dl (S : Dev) (a p d : Int) : (S.init a p d).dev.dirty.length = S.dirty.length := by
  unfold Dev.init
  split
  · rfl
  · split
    · rfl
    · unfold Dev.initN
      split
      · exact zeroTo_dl _ _ _
      · dsimp only; rw [Dev.store_dl]; exact zeroTo_dl _ _ _

set_option maxHeartbeats 4000000 in
set_option maxRecDepth 100000 in
theorem rinit15_any {w : World} {v : Value} {S : Dev} {m : Nat} (hm : S.dirty.length = m) (h : RAt w v m S.ref) {N : Nat} (hN : N < 100000000000) (hf : S.fit N) (a p d : Int) (ha : -9223372036854775808 ≤ a ∧ a ≤ 9223372036854775807) :
    Calls Try.prog 80 #[v, .int .i64 a, vob p d] w (RDone m (S.init a p d).dev (S.init a p d).err v w) := by
  subst hm
  obtain ⟨an, cn, al, cl, aw, cw, ad, cd, ap, cp, m, sv, fz, dd, rfl, ho, hdl, hm8, hsv, hfz⟩ := ropen h hf
  have HRA := Lib.hid h
  have HOld := Lib.hid h.old
  have HF := Lib.hid hf
  rw [hdl] at HRA HOld ⊢
  obtain ⟨v0, hv0⟩ : ∃ v0 : Value, v0 = .agg #[.slice an m cn, .slice al m cl, .slice aw m cw, .slice ad m cd, .slice ap m cp, .int .i64 sv, .int .i64 fz, .bool dd] := ⟨_, rfl⟩
  have HI : Hid (S.init a p d = if objSize p d = 0 then ⟨S, 5⟩ else if a < 0 ∨ (S.cache.length : Int) ≤ a ∨ (S.cache.length : Int) - a < (objSize p d : Nat) then ⟨S, 2⟩ else S.initN a.toNat (objSize p d) (oencN a p d)) := Lib.hid rfl
  have HCL := Lib.hid ho.cl
  generalize hpo : RDone m (S.init a p d).dev (S.init a p d).err _ w = Post
  generalize S.init a p d = R at *
  have hsz := objSize_le p d
  have HV0 := Lib.hid hv0
  have HDL := Lib.hid hdl
  have HPO := Lib.hid hpo
  clear hdl hpo
  clear h hf ho hv0
  have HM := Lib.hid (Mem.three w #[.slice an m cn, .slice al m cl, .slice aw m cw, .slice ad m cd, .slice ap m cp, .int .i64 sv, .int .i64 fz, .bool dd] 31 #[.int .i64 p, .int .i64 d] 88 zeroD 31)
  go_enter Try.func80, Try.ntmps80
  go_upto_region 1 with fail
  rw [show (#[.slice none 0 0, .slice none 0 0, .slice none 0 0, .slice none 0 0, .slice none 0 0, .int .i64 0, .int .i64 0, .bool false] : Array Value) = zeroD from rfl]
  generalize ((w.alloc _).alloc _).alloc _ = w0 at *
  obtain ⟨q, hq⟩ : ∃ q, q = w.heap.size := ⟨_, rfl⟩
  rw [← hq] at HM ⊢
  have HQ := Lib.hid hq
  clear hq
  go_wp2_with (refine wpList_load_mem aggRo HM.out 1 rfl rfl rfl rfl rfl ?_)
  refine (rsize8_any p d _).mono ?_
  rintro e w1 ⟨rfl, hb1⟩
  have HM1 := Lib.hid (HM.out.later hb1)
  clear hb1 HM
  generalize hs : objSize p d = n at *
  have HS := Lib.hid hs
  clear hs
  have c0 := HM1.out.cell 0 0 rfl rfl
  by_cases hn0 : n = 0
  · subst hn0
    have HR : Hid (R = ⟨S, 5⟩) := Lib.hid (by rw [HI.out, if_pos rfl])
    go_wp2_with (first | (refine wpList_load_mem aggRd HM1.out 0 rfl rfl rfl rfl rfl ?_) | (refine wpList_store_mem aggRd HM1.out 2 rfl rfl rfl rfl rfl rfl rfl rfl ?_; intro w9 h9 _; have H9 := Lib.hid h9; clear h9))
    refine bodyPost_ret (results_cell_row2 (p := 6) (u := 7) rfl _ _ _ _ _ _ _ rfl (H9.out.exact 2 rfl) Try.underlying31 rfl (by kernel_rfl)) rfl ?_
    rw [← HPO.out, HR.out]
    exact ⟨_, rfl, HRA.out.below H9.out.below (Nat.le_refl _), fun b hb => .inl hb, H9.out.below⟩
  have hn0' : ((n : Int) == 0) = false := by simp; omega
  by_cases h0 : a < 0
  · have HR : Hid (R = ⟨S, 2⟩) := Lib.hid (by rw [HI.out, if_neg hn0, if_pos (.inl h0)])
    go_wp2_with (first | (refine wpList_load_mem aggRd HM1.out 0 rfl rfl rfl rfl rfl ?_) | (refine wpList_store_mem aggRd HM1.out 2 rfl rfl rfl rfl rfl rfl rfl rfl ?_; intro w9 h9 _; have H9 := Lib.hid h9; clear h9))
    refine bodyPost_ret (results_cell_row2 (p := 6) (u := 7) rfl _ _ _ _ _ _ _ rfl (H9.out.exact 2 rfl) Try.underlying31 rfl (by kernel_rfl)) rfl ?_
    rw [← HPO.out, HR.out]
    exact ⟨_, rfl, HRA.out.below H9.out.below (Nat.le_refl _), fun b hb => .inl hb, H9.out.below⟩
  by_cases h1 : 8 * (m : Int) ≤ a
  · have HR : Hid (R = ⟨S, 2⟩) := Lib.hid (by rw [HI.out, if_neg hn0, if_pos (.inr (.inl (by rw [HCL.out]; omega)))])
    go_wp2_with (first | (refine wpList_load_mem aggRd HM1.out 0 rfl rfl rfl rfl rfl ?_) | (refine wpList_store_mem aggRd HM1.out 2 rfl rfl rfl rfl rfl rfl rfl rfl ?_; intro w9 h9 _; have H9 := Lib.hid h9; clear h9))
    refine bodyPost_ret (results_cell_row2 (p := 6) (u := 7) rfl _ _ _ _ _ _ _ rfl (H9.out.exact 2 rfl) Try.underlying31 rfl (by kernel_rfl)) rfl ?_
    rw [← HPO.out, HR.out]
    exact ⟨_, rfl, HRA.out.below H9.out.below (Nat.le_refl _), fun b hb => .inl hb, H9.out.below⟩
  obtain ⟨j, rfl⟩ := Int.eq_ofNat_of_zero_le (show 0 ≤ a by omega)
  have h0d : decide ((j : Int) < 0) = false := by simp
  have h1d : decide (8 * (m : Int) ≤ (j : Int)) = false := by simpa using h1
  have hw1 : IntKind.i64.wrap (8 * (m : Int) - (j : Int)) = 8 * (m : Int) - (j : Int) := IntWalk.i64_in _ (by omega)
  by_cases h2 : 8 * (m : Int) - (j : Int) < (n : Int)
  · have HR : Hid (R = ⟨S, 2⟩) := Lib.hid (by rw [HI.out, if_neg hn0, if_pos (.inr (.inr (by rw [HCL.out]; omega)))])
    go_wp2_with (first | (refine wpList_load_mem aggRd HM1.out 0 rfl rfl rfl rfl rfl ?_) | (refine wpList_store_mem aggRd HM1.out 2 rfl rfl rfl rfl rfl rfl rfl rfl ?_; intro w9 h9 _; have H9 := Lib.hid h9; clear h9))
    refine bodyPost_ret (results_cell_row2 (p := 6) (u := 7) rfl _ _ _ _ _ _ _ rfl (H9.out.exact 2 rfl) Try.underlying31 rfl (by kernel_rfl)) rfl ?_
    rw [← HPO.out, HR.out]
    exact ⟨_, rfl, HRA.out.below H9.out.below (Nat.le_refl _), fun b hb => .inl hb, H9.out.below⟩
  have HV : Hid (R = S.initN j n (oencN (j : Int) p d)) := Lib.hid (by rw [HI.out, if_neg hn0, if_neg (by rw [HCL.out]; omega)]; rfl)
  have h2d : decide (8 * (m : Int) - (j : Int) < (n : Int)) = false := by simpa using h2
  have hjn : (j : Int) + (n : Int) ≤ 8 * (m : Int) := by omega
  have HEn : Hid (oencN (j : Int) p d < 18446744073709551616) := Lib.hid (oencN_lt _ p d)
  clear HI h2
  go_wp2_with fail
  go_loopw [9, 10] (fun e i wr => ∃ k : Nat, k + 1 ≤ n ∧ i = .int .i64 ((k : Int) + 1) ∧ e = .int .i64 0 ∧ (zeroTo S j k).err = 0 ∧ RBx v0 w wr q 3 m [⟨q + 1, 88, [.int .i64 p, .int .i64 d], true⟩, ⟨q + 2, 31, zeroD.toList, true⟩] (zeroTo S j k).dev) (fun _ i _ => n - (intOf i).toNat)
  case atStart => exact ⟨0, by omega, rfl, rfl, rfl, ⟨_, _, _, _, _, _, _, _, _, _, _, _, _, HM1.out, HRA.out.below HM1.out.below (Nat.le_refl _), HOld.out.imp id (fun h b hb => .inl (by rw [HQ.out]; exact h b hb)), fun b hb => .inl (by rw [HV0.out]; exact hb)⟩⟩
  case round =>
    obtain ⟨k, hk, rfl, rfl, he0, an, cn, al, cl, aw, cw, ad, cd, ap, cp, sv, fz, dd, hmem, hra, hap, hri⟩ := hrel
    have HStay := Lib.hid (zeroTo_stays S j (k + 1) (n - 1))
    have HZ : Hid (zeroTo S j (k + 1) = if (zeroTo S j k).err ≠ 0 then zeroTo S j k else ⟨(zeroTo S j k).dev.store ((j + 1 + k : Nat) : Int) 0, (zeroTo S j k).dev.storeE ((j + 1 + k : Nat) : Int)⟩) := Lib.hid rfl
    have HIn : Hid (S.initN j n (oencN (j : Int) p d) = if (zeroTo S j (n - 1)).err ≠ 0 then zeroTo S j (n - 1) else ⟨(zeroTo S j (n - 1)).dev.store (j : Int) (oencN (j : Int) p d), (zeroTo S j (n - 1)).dev.storeE (j : Int)⟩) := Lib.hid rfl
    have HZK : Hid (k + 1 = n → zeroTo S j (n - 1) = zeroTo S j k) := Lib.hid (fun h => by rw [← h]; rfl)
    have HTf := Lib.hid (Go.Proofs.Ytjgdplengfnkaaa.init_fit HF.out j k)
    have HTL : Hid ((zeroTo S j k).dev.dirty.length = m) := Lib.hid (by rw [zeroTo_dl]; exact HDL.out)
    generalize zeroTo S j k = T at *
    have HAP := Lib.hid hap
    have HRI := Lib.hid hri
    have HRA2 := Lib.hid hra
    have HMEM := Lib.hid hmem
    have HE0 := Lib.hid he0
    clear hmem he0
    clear hap hri hra HM1 c0
    by_cases hlt : (k : Int) + 1 < (n : Int)
    · have hw2 : IntKind.i64.wrap ((j : Int) + ((k : Int) + 1)) = (j : Int) + ((k : Int) + 1) := IntWalk.i64_in _ (by omega)
      go_wp2_with (refine wpList_load_mem aggRd HMEM.out 0 rfl rfl rfl rfl rfl ?_)
      refine (rstore_m HTL.out HRA2.out (N := N + k) (by omega) HTf.out _ 0 (by decide) (by omega)).mono ?_
      rintro e w1 ⟨v', rfl, hra1, hri1, hb1⟩
      obtain ⟨an1, cn1, al1, cl1, aw1, cw1, ad1, cd1, ap1, cp1, rfl, y1, y2, y3, y4, y5⟩ := hra1.ex
      clear y1 y2 y3 y4 y5
      have hc : ((j + 1 + k : Nat) : Int) = (j : Int) + ((k : Int) + 1) := by omega
      have HZ2 : Hid (zeroTo S j (k + 1) = ⟨T.dev.store ((j : Int) + ((k : Int) + 1)) 0, T.dev.storeE ((j : Int) + ((k : Int) + 1))⟩) := Lib.hid (by rw [HZ.out, if_neg (by rw [HE0.out]; simp), hc])
      clear hc
      generalize T.dev.store ((j : Int) + ((k : Int) + 1)) 0 = T1 at *
      generalize T.dev.storeE ((j : Int) + ((k : Int) + 1)) = E1 at *
      generalize T1.ref.steps = sv1 at *
      generalize T1.ref.fuse = fz1 at *
      generalize T1.ref.dead = dd1 at *
      have HM1 := Lib.hid (HMEM.out.later hb1)
      have HR1 := Lib.hid hra1
      have hq2 : q + 3 ≤ wr.heap.size := HMEM.out.glt 2 rfl
      have HAP1 : Hid (m = 0 ∨ ∀ b, RIn (.agg #[.slice an1 m cn1, .slice al1 m cl1, .slice aw1 m cw1, .slice ad1 m cd1, .slice ap1 m cp1, .int .i64 sv1, .int .i64 fz1, .bool dd1]) b → b < q ∨ q + 3 ≤ b) := Lib.hid (HAP.out.imp id (fun h b hb => (hri1 b hb).elim (h b) (fun h => .inr (by omega))))
      have HRI1 : Hid (∀ b, RIn (.agg #[.slice an1 m cn1, .slice al1 m cl1, .slice aw1 m cw1, .slice ad1 m cd1, .slice ap1 m cp1, .int .i64 sv1, .int .i64 fz1, .bool dd1]) b → RIn v0 b ∨ w.heap.size ≤ b) := Lib.hid (fun b hb => (hri1 b hb).elim (HRI.out b) (fun h => .inr (by have := HMEM.out.below.size; omega)))
      clear hra1 hb1 hri1 HMEM HAP HRI
      by_cases hE : E1 = 0
      · subst hE
        go_wp2_with (refine wpList_store_mem aggRd HM1.out 0 rfl rfl rfl rfl rfl rfl rfl rfl ?_; intro w2 h2 ht2; have HM2 := Lib.hid h2; have HT2 := Lib.hid ht2; clear h2 ht2)
        refine ⟨⟨k + 1, by omega, vint (by omega), rfl, by rw [HZ2.out], ?_⟩, by simp [intOf]; omega⟩
        rw [HZ2.out]
        exact ⟨_, _, _, _, _, _, _, _, _, _, _, _, _, HM2.out, HR1.out.touch HT2.out (HAP1.out.imp id (fun h b hb => by have := h b hb; simp; omega)), HAP1.out, HRI1.out⟩
      · have hE1 : (E1 != 0) = true := by simpa using hE
        have HR : Hid (R = ⟨T1, E1⟩) := Lib.hid (by
          have h1 := HStay.out (by omega) (by rw [HZ2.out]; exact hE)
          rw [HV.out, HIn.out, h1, HZ2.out, if_pos hE])
        clear hE
        go_upto_region 11 with (refine wpList_store_mem aggRd HM1.out 0 rfl rfl rfl rfl rfl rfl rfl rfl ?_; intro w2 h2 ht2; have HM2 := Lib.hid h2; have HT2 := Lib.hid ht2; clear h2 ht2)
        go_wp2_with (first | (refine wpList_load_mem aggRd HM2.out 0 rfl rfl rfl rfl rfl ?_) | (refine wpList_store_mem aggRd HM2.out 2 rfl rfl rfl rfl rfl rfl rfl rfl ?_; intro w9 h9 ht9; have H9 := Lib.hid h9; have HT9 := Lib.hid ht9; clear h9 ht9))
        refine bodyPost_ret (results_cell_row2 (p := 6) (u := 7) rfl _ _ _ _ _ _ _ rfl (H9.out.exact 2 rfl) Try.underlying31 rfl (by kernel_rfl)) rfl ?_
        rw [← HPO.out, HR.out]
        exact ⟨_, rfl, (HR1.out.touch HT2.out (HAP1.out.imp id (fun h b hb => by have := h b hb; simp; omega))).touch HT9.out (HAP1.out.imp id (fun h b hb => by have := h b hb; simp; omega)), by rw [← HV0.out]; exact HRI1.out, H9.out.below⟩
    · have hkn : k + 1 = n := by omega
      have HR : Hid (R = ⟨T.dev.store (j : Int) (oencN (j : Int) p d), T.dev.storeE (j : Int)⟩) := Lib.hid (by rw [HV.out, HIn.out, HZK.out hkn, if_neg (by rw [HE0.out]; simp)])
      have hlt' : decide ((k : Int) + 1 < (n : Int)) = false := by simpa using hlt
      clear hkn
      have d0 := HMEM.out.cell 0 0 rfl rfl
      have d1 := HMEM.out.cell 0 1 rfl rfl
      have d2 := HMEM.out.cell 0 2 rfl rfl
      have d3 := HMEM.out.cell 0 3 rfl rfl
      have d4 := HMEM.out.cell 0 4 rfl rfl
      have d5 := HMEM.out.cell 0 5 rfl rfl
      have d6 := HMEM.out.cell 0 6 rfl rfl
      have d7 := HMEM.out.cell 0 7 rfl rfl
      have o0 := HMEM.out.cell 1 0 rfl rfl
      have o1 := HMEM.out.cell 1 1 rfl rfl
      go_upto_region 13 with fail
      have r0 := fun x => later_cell d0 x
      have r1 := fun x => later_cell d1 x
      have r2 := fun x => later_cell d2 x
      have r3 := fun x => later_cell d3 x
      have r4 := fun x => later_cell d4 x
      have r5 := fun x => later_cell d5 x
      have r6 := fun x => later_cell d6 x
      have r7 := fun x => later_cell d7 x
      have s0 := fun x => later_cell o0 x
      have s1 := fun x => later_cell o1 x
      clear d0 d1 d2 d3 d4 d5 d6 d7 o0 o1
      refine wp_region_seg (C := fun w' => ∃ x : Later (wr), w' = x.val) [.fl [0, 1, 2, 3], .sq [4] true, .sq [5] false, .fl [6, 7], .sq [8, 9] false] (by kernel_rfl) (by kernel_rfl) (by intro c a d v w h; cases d <;> exact h) ?_
      simp only [segs, picks, List.getElem?_cons_succ, List.getElem?_cons_zero]
      have hC1 := later_drew (wr)
      refine wpSeg_fl hC1 ?_
      repeat (first | go_big_quiet_step (fail) | quiet_step (fail))
      refine wpQuiet_nil ?_
      clear r0 r1 r2 r3 r4 r5 r6 r7 s0 s1
      refine wpSeg_sq (fun K hK => ?_)
      go_wp2_with fail
      refine (rencode8_any p d j _).mono ?_
      rintro e w2 ⟨rfl, hb2⟩
      have hC2 := later_step hC1 hb2
      have HMb := Lib.hid (HMEM.out.later (later_below hC2))
      have HRb := Lib.hid (HRA2.out.below (later_below hC2) (Nat.le_refl _))
      clear hb2
      go_wp2_with fail
      refine hK _ _ (fun _ => hC2) ?_
      clear hK K
      refine wpSeg_sq (fun K hK => ?_)
      go_wp2_with fail
      refine (rstore_m HTL.out HRb.out (N := N + k) (by omega) HTf.out _ _ HEn.out (by omega)).mono ?_
      rintro e w1 ⟨v', rfl, hra1, hri1, hb1⟩
      obtain ⟨an1, cn1, al1, cl1, aw1, cw1, ad1, cd1, ap1, cp1, rfl, y1, y2, y3, y4, y5⟩ := hra1.ex
      clear y1 y2 y3 y4 y5
      generalize T.dev.store (j : Int) (oencN (j : Int) p d) = T1 at *
      generalize T.dev.storeE (j : Int) = E1 at *
      generalize T1.ref.steps = sv1 at *
      generalize T1.ref.fuse = fz1 at *
      generalize T1.ref.dead = dd1 at *
      have HM1 := Lib.hid (HMb.out.later hb1)
      have HR1 := Lib.hid hra1
      have hq2 : q + 3 ≤ w2.heap.size := HMb.out.glt 2 rfl
      have HAP1 : Hid (m = 0 ∨ ∀ b, RIn (.agg #[.slice an1 m cn1, .slice al1 m cl1, .slice aw1 m cw1, .slice ad1 m cd1, .slice ap1 m cp1, .int .i64 sv1, .int .i64 fz1, .bool dd1]) b → b < q ∨ q + 3 ≤ b) := Lib.hid (HAP.out.imp id (fun h b hb => (hri1 b hb).elim (h b) (fun h => .inr (by omega))))
      have HRI1 : Hid (∀ b, RIn (.agg #[.slice an1 m cn1, .slice al1 m cl1, .slice aw1 m cw1, .slice ad1 m cd1, .slice ap1 m cp1, .int .i64 sv1, .int .i64 fz1, .bool dd1]) b → RIn v0 b ∨ w.heap.size ≤ b) := Lib.hid (fun b hb => (hri1 b hb).elim (HRI.out b) (fun h => .inr (by have := HMb.out.below.size; omega)))
      have hC3 := later_step hC2 hb1
      clear hra1 hb1 hri1 HMEM HAP HRI HMb HRb
      go_wp2_with fail
      refine hK _ _ (fun h => nomatch h) ?_
      clear hK K
      refine wpSeg_fl hC3 ?_
      repeat (first | go_big_quiet_step (fail) | quiet_step (fail))
      refine wpQuiet_nil ?_
      refine wpSeg_last ?_
      clear hC1 hC2 hC3
      go_wp2_with (refine wpList_store_mem aggRd HM1.out 2 rfl rfl rfl rfl rfl rfl rfl rfl ?_; intro w9 h9 ht9; have H9 := Lib.hid h9; have HT9 := Lib.hid ht9; clear h9 ht9)
      refine bodyPost_ret (results_cell_row2 (p := 6) (u := 7) rfl _ _ _ _ _ _ _ rfl (H9.out.exact 2 rfl) Try.underlying31 rfl (by kernel_rfl)) rfl ?_
      rw [← HPO.out, HR.out]
      exact ⟨_, rfl, HR1.out.touch HT9.out (HAP1.out.imp id (fun h b hb => by have := h b hb; simp; omega)), by rw [← HV0.out]; exact HRI1.out, H9.out.below⟩

end Go.Proofs.Ytjgdplengfnkaaa

/- nvm: Lines, Steps, Dead, All, Arm; the reference's: Dirty, All, New; slices compared. -/
namespace Go.Proofs.Ytjgdplengfnkaaa
open Go.RowKit
set_option linter.unusedVariables false

set_option maxHeartbeats 400000 in
theorem dlines_any {w : World} {F : Foot} {S : Dev} (h : DevAt w F S) :
    Calls Try.prog 84 #[vdev F] w fun e w' => e = .returned (.int .i64 (S.dirty.length : Nat)) ∧ w = w' := by
  have c1 : w.cell? ⟨F.d, 3, none⟩ = some (.slice (some ⟨F.t, 0, none⟩) S.dirty.length F.ct) := cell_of_row _ _ 3 _ _ _ h.head
  clear h
  go_enter Try.func84, Try.ntmps84
  go_wp2_with fail
  go_ret
  exact ⟨rfl, rfl⟩
set_option maxHeartbeats 400000 in
theorem dsteps_any {w : World} {F : Foot} {S : Dev} (h : DevAt w F S) :
    Calls Try.prog 85 #[vdev F] w fun e w' => e = .returned (.int .i64 S.steps) ∧ w = w' := by
  have c1 : w.cell? ⟨F.d, 5, none⟩ = some (.int .i64 S.steps) := cell_of_row _ _ 5 _ _ _ h.head
  clear h
  go_enter Try.func85, Try.ntmps85
  go_wp2_with fail
  go_ret
  exact ⟨rfl, rfl⟩
set_option maxHeartbeats 400000 in
theorem ddead_any {w : World} {F : Foot} {S : Dev} (h : DevAt w F S) :
    Calls Try.prog 86 #[vdev F] w fun e w' => e = .returned (.bool S.dead) ∧ w = w' := by
  have c1 : w.cell? ⟨F.d, 8, none⟩ = some (.bool S.dead) := cell_of_row _ _ 8 _ _ _ h.head
  clear h
  go_enter Try.func86, Try.ntmps86
  go_wp2_with fail
  go_ret
  exact ⟨rfl, rfl⟩
set_option maxHeartbeats 400000 in
theorem dall_any {w : World} {F : Foot} {S : Dev} (h : DevAt w F S) :
    Calls Try.prog 88 #[vdev F] w fun e w' => ∃ v, e = .returned v ∧ w'.ownsRow w.heap.size 76 1 v S.cache.length (S.lasting.map vu64) ∧ Below w.heap.size w w' := by
  have c1 : w.cell? ⟨F.d, 0, none⟩ = some (.slice (some ⟨F.l, 0, none⟩) S.cache.length F.cl) := cell_of_row _ _ 0 _ _ _ h.head
  have HL := Lib.hid h.lenL
  have HR := Lib.hid h.lasting
  have hsm := h.small
  clear h
  go_enter Try.func88, Try.ntmps88
  go_wp2_with fail
  refine (clone_any F.l 0 F.cl S.lasting HL.out w (fun i v hi => by rw [Nat.zero_add]; exact HR.out.cell hi) (by rw [HL.out]; exact hsm)).mono ?_
  rintro e w1 ⟨v, rfl, ho, hb, _⟩
  have HO := Lib.hid ho
  have HB := Lib.hid hb
  clear ho hb
  go_wp2_with fail
  go_ret
  exact ⟨v, rfl, HO.out, HB.out⟩

/-- A device is armed. -/
def Dev.arm (S : Dev) (n : Int) : Dev := { S with fuse := n, armed := decide (0 ≤ n) }
set_option maxHeartbeats 1000000 in
theorem darm_any {w : World} {F : Foot} {S : Dev} (h : DevAt w F S) (n : Int) :
    Calls Try.prog 83 #[vdev F, .int .i64 n] w fun e w' => e = .returned (.tuple #[]) ∧ DevAt w' F (S.arm n) ∧ Touch [F.d] w w' := by
  have hh := h.head
  have c6 : w.cell? ⟨F.d, 6, none⟩ = some (.int .i64 S.fuse) := cell_of_row _ _ 6 _ _ _ hh
  have c7 : w.cell? ⟨F.d, 7, none⟩ = some (.bool S.armed) := cell_of_row _ _ 7 _ _ _ hh
  have z6 : w.frozen? ⟨F.d, 6, none⟩ = false := frozen_of_row _ _ 6 _ _ hh
  have z7 : w.frozen? ⟨F.d, 7, none⟩ = false := frozen_of_row _ _ 7 _ _ hh
  have HF : Hid (DevAt ((w.setCell ⟨F.d, 6, none⟩ (.int .i64 n)).setCell ⟨F.d, 7, none⟩ (.bool (decide (0 ≤ n)))) F (S.arm n) ∧ Touch [F.d] w ((w.setCell ⟨F.d, 6, none⟩ (.int .i64 n)).setCell ⟨F.d, 7, none⟩ (.bool (decide (0 ≤ n))))) := by
    have t : Touch [F.d] w ((w.setCell ⟨F.d, 6, none⟩ (.int .i64 n)).setCell ⟨F.d, 7, none⟩ (.bool (decide (0 ≤ n)))) := (Touch.setCell _ (by simp) _).trans (Touch.setCell _ (by simp) _)
    refine Lib.hid ⟨h.head' ?_ t ⟨rfl, rfl, rfl, rfl, rfl⟩, t⟩
    rw [heap_setCell_same _ F.d 7 _ _ _ (heap_setCell_same w F.d 6 _ _ _ hh)]; rfl
  clear hh h
  go_enter Try.func83, Try.ntmps83
  go_wp2_with fail
  go_end0
  exact ⟨rfl, HF.out⟩

set_option maxHeartbeats 1000000 in
set_option maxRecDepth 20000 in
theorem rints_eq (a b : Option Addr) (n cap cap2 : Nat) (l : List Nat) (hn : l.length = n) (w : World) (hc : Cells w a (l.map vi)) (hc2 : Cells w b (l.map vi)) (hl : n ≤ 1000000000) :
    Calls Try.prog 46 #[.slice a n cap, .slice b n cap2] w fun e w' => e = .returned (.bool true) ∧ ∃ q, w' = w.drewN q := by
  have HN := Lib.hid hn
  have HC := Lib.hid hc
  have HC2 := Lib.hid hc2
  clear hn hc hc2
  have hne : (n != n) = false := by simp
  have hne2 : ((n : Int) != (n : Int)) = false := by simp
  go_enter Try.func46, Try.ntmps46
  go_wp2_with fail
  go_loopw [5] (fun i wr => ∃ k : Nat, k ≤ n ∧ i = .int .i64 k ∧ ∃ q, wr = w.drewN q) (fun i _ => n - (intOf i).toNat)
  case atStart => exact ⟨0, Nat.zero_le _, rfl, 0, rfl⟩
  case round =>
    obtain ⟨k, hk, rfl, q, rfl⟩ := hrel
    by_cases hlt : k < n
    · have hlt' : (k : Int) < (n : Int) := by omega
      have hkl : k < l.length := by rw [HN.out]; exact hlt
      obtain ⟨b1, o1, rfl, _, h1⟩ := HC.out.atMap 0 hkl
      obtain ⟨b2, o2, rfl, _, h2⟩ := HC2.out.atMap 0 hkl
      have d0 := h1 k hkl
      have d1 := h2 k hkl
      clear h1 h2 hkl
      generalize l.getD k 0 = x at *
      have hx : ((x : Int) != (x : Int)) = false := by simp
      have hx2 : (x != x) = false := by simp
      go_wp2_with fail
      go_quiet (fail)
      go_wp2_with fail
      exact ⟨⟨k + 1, by omega, vint (by omega), _, rfl⟩, by simp [intOf]; omega⟩
    · obtain rfl : k = n := by omega
      have hlt' : decide ((k : Int) < (k : Int)) = false := by simp
      go_wp2_with fail
      go_ret
      exact ⟨rfl, _, rfl⟩
set_option maxHeartbeats 1000000 in
set_option maxRecDepth 20000 in
theorem rsame_eq (a b : Option Addr) (n cap cap2 : Nat) (l : List Nat) (hn : l.length = n) (w : World) (hc : Cells w a (l.map vu64)) (hc2 : Cells w b (l.map vu64)) (hl : n ≤ 1000000000) :
    Calls Try.prog 48 #[.slice a n cap, .slice b n cap2] w fun e w' => e = .returned (.bool true) ∧ ∃ q, w' = w.drewN q := by
  have HN := Lib.hid hn
  have HC := Lib.hid hc
  have HC2 := Lib.hid hc2
  clear hn hc hc2
  have hne : (n != n) = false := by simp
  have hne2 : ((n : Int) != (n : Int)) = false := by simp
  go_enter Try.func48, Try.ntmps48
  go_wp2_with fail
  go_loopw [5] (fun i wr => ∃ k : Nat, k ≤ n ∧ i = .int .i64 k ∧ ∃ q, wr = w.drewN q) (fun i _ => n - (intOf i).toNat)
  case atStart => exact ⟨0, Nat.zero_le _, rfl, 0, rfl⟩
  case round =>
    obtain ⟨k, hk, rfl, q, rfl⟩ := hrel
    by_cases hlt : k < n
    · have hlt' : (k : Int) < (n : Int) := by omega
      have hkl : k < l.length := by rw [HN.out]; exact hlt
      obtain ⟨b1, o1, rfl, _, h1⟩ := HC.out.atMap 0 hkl
      obtain ⟨b2, o2, rfl, _, h2⟩ := HC2.out.atMap 0 hkl
      have d0 := h1 k hkl
      have d1 := h2 k hkl
      clear h1 h2 hkl
      generalize l.getD k 0 = x at *
      have hx : ((x : Int) != (x : Int)) = false := by simp
      have hx2 : (x != x) = false := by simp
      go_wp2_with fail
      go_quiet (fail)
      go_wp2_with fail
      exact ⟨⟨k + 1, by omega, vint (by omega), _, rfl⟩, by simp [intOf]; omega⟩
    · obtain rfl : k = n := by omega
      have hlt' : decide ((k : Int) < (k : Int)) = false := by simp
      go_wp2_with fail
      go_ret
      exact ⟨rfl, _, rfl⟩

theorem owned_base {w : World} {base B e size n : Nat} {v : Value} {xs : List Value} (h : w.ownsRow base e size v n xs) (hB : B ≤ base) : w.ownsRow B e size v n xs := by
  refine ⟨h.1, ?_⟩
  rcases h.2 with hn | ⟨g, cap, cur, hv, hb, r⟩
  · exact .inl hn
  · exact .inr ⟨g, cap, cur, hv, Nat.le_trans hB hb, r⟩

set_option maxHeartbeats 1000000 in
set_option maxRecDepth 20000 in
theorem rdirty_any {w : World} {v : Value} {S : Dev} {m : Nat} (hm : S.dirty.length = m) (h : RAt w v m S.ref) (hm8 : m ≤ 125000) :
    Calls Try.prog 87 #[v] w fun e w' => ∃ v', e = .returned v' ∧ w'.ownsRow w.heap.size 3 1 v' (dirtyL S.dirty m).length ((dirtyL S.dirty m).map vi) ∧ Below w.heap.size w w' := by
  obtain ⟨an, cn, al, cl, aw, cw, ad, cd, ap, cp, rfl, k1, k2, k3, k4, k5⟩ := h.ex
  have HK : Hid (Cells w ad (S.dirty.map Value.bool)) := Lib.hid k4
  clear h k1 k2 k3 k4 k5
  generalize S.ref.steps = sv at *
  generalize S.ref.fuse = fz at *
  generalize S.ref.dead = dd at *
  have HM := Lib.hid hm
  clear hm
  have HMm := Lib.hid (Mem.one w #[.slice an m cn, .slice al m cl, .slice aw m cw, .slice ad m cd, .slice ap m cp, .int .i64 sv, .int .i64 fz, .bool dd] 31)
  go_enter Try.func87, Try.ntmps87
  go_upto_region 1 with fail
  generalize w.alloc _ = w0 at *
  obtain ⟨q, hq⟩ : ∃ q, q = w.heap.size := ⟨_, rfl⟩
  rw [← hq] at HMm ⊢
  have HQ := Lib.hid hq
  clear hq
  go_wp2_with fail
  go_loopw [3, 4] (fun v i wr => ∃ k : Nat, k ≤ m ∧ i = .int .i64 k ∧ wr.ownsRow w0.heap.size 3 1 v (dirtyL S.dirty k).length ((dirtyL S.dirty k).map vi) ∧ Below w0.heap.size w0 wr) (fun _ i _ => m - (intOf i).toNat)
  case atStart => exact ⟨0, Nat.zero_le _, rfl, ⟨rfl, .inl ⟨rfl, rfl⟩⟩, Below.refl _ _⟩
  case round =>
    obtain ⟨k, hk, rfl, ho, hb⟩ := hrel
    obtain ⟨a1, c1', rfl, hc1, hm1⟩ := owned_form ho
    have hdl := dirtyL_len S.dirty k
    have c3 := (HMm.out.later hb).cell 0 3 rfl rfl
    have HO := Lib.hid ho
    have HB := Lib.hid hb
    clear ho hb
    by_cases hlt : k < m
    · have hlt' : (k : Int) < (m : Int) := by omega
      have HS : Hid (dirtyL S.dirty (k + 1) = dirtyL S.dirty k ++ (if S.dirty.getD k false then [k] else [])) := Lib.hid rfl
      obtain ⟨b1, o1, rfl, _, hcs⟩ := (HK.out.below (HMm.out.later HB.out).below (Nat.le_refl _)).atMap false (show k < S.dirty.length by rw [HM.out]; exact hlt)
      have d0 := hcs k (by rw [HM.out]; exact hlt)
      clear hcs
      generalize hq : S.dirty.getD k false = bk at *
      cases bk
      · clear hq
        go_wp2_with fail
        refine ⟨⟨k + 1, by omega, vint (by omega), ?_, HB.out⟩, by simp [intOf]; omega⟩
        rw [HS.out]
        simpa using HO.out
      · have hone : Hid (∀ u ∈ (#[Value.int .i64 (k : Int)] : Array Value).toList, u.oneCell' = true) := Lib.hid (by intro u hu; simp at hu; subst hu; rfl)
        have hbase : Hid (w0.heap.size ≤ wr.heap.size) := Lib.hid HB.out.size
        have hk9 : Hid ((dirtyL S.dirty k).length < 1000000000000) := Lib.hid (by omega)
        clear hq hdl hc1 hm1
        generalize hz : (dirtyL S.dirty k).length = z at *
        have HZ := Lib.hid hz
        clear hz
        go_wp2_with (at_builtin; refine wpList_append_new (us := #[.int .i64 (k : Int)]) elInt HO.out rfl hone.out hk9.out (by decide) hbase.out rfl rfl rfl (by simp [Act.eval]) ?_; intro g6 c6 w6 ho6 hg6 hc6 hm6 hb6 hl6; have HO6 := Lib.hid ho6; have HG6 := Lib.hid hg6; clear ho6 hg6)
        refine ⟨⟨k + 1, by omega, vint (by omega), ?_, below_grownBy HB.out HO.out HG6.out (Nat.le_refl _) (Nat.le_refl _)⟩, by simp [intOf]; omega⟩
        rw [HS.out]
        simpa [HZ.out] using HO6.out
    · obtain rfl : k = m := by omega
      have hlt' : decide ((k : Int) < (k : Int)) = false := by simp
      go_wp2_with fail
      go_ret
      exact ⟨_, rfl, owned_base HO.out HMm.out.below.size, HMm.out.below.trans (HB.out.mono HMm.out.below.size)⟩

theorem seg_cells {w : World} {b off : Nat} {l : List Nat} (h : Cells w (some ⟨b, off, none⟩) (l.map vu64)) (k : Nat) : Cells w (some ⟨b, off + k * 8, none⟩) ((seg l k).map vu64) := by
  have := (h.drop (8 * k)).take 8
  rw [Nat.mul_comm k 8]
  unfold seg
  rw [List.map_take, List.map_drop]
  exact this
theorem take_seg (l : List Nat) (k m : Nat) (hl : l.length = 8 * m) (hk : k < m) : l.take (8 * (k + 1)) = l.take (8 * k) ++ seg l k := by
  unfold seg
  rw [show 8 * (k + 1) = 8 * k + 8 by omega, List.take_add]

set_option maxHeartbeats 1000000 in
set_option maxRecDepth 20000 in
theorem rall_any (a : Option Addr) (m cap : Nat) (l : List Nat) (w : World) (hc : Cells w a (l.map vu64)) (hl : l.length = 8 * m) (hm8 : m ≤ 125000) :
    Calls Try.prog 89 #[.slice a m cap] w fun e w' => ∃ v, e = .returned v ∧ w'.ownsRow w.heap.size 76 1 v (8 * m) (l.map vu64) ∧ Below w.heap.size w w' := by
  have HC := Lib.hid hc
  have HL := Lib.hid hl
  clear hc hl
  go_enter Try.func89, Try.ntmps89
  go_wp2_with fail
  go_loopw [3, 4] (fun v i wr => ∃ k : Nat, k ≤ m ∧ i = .int .i64 k ∧ wr.ownsRow w.heap.size 76 1 v (8 * k) ((l.take (8 * k)).map vu64) ∧ Below w.heap.size w wr) (fun _ i _ => m - (intOf i).toNat)
  case atStart => exact ⟨0, Nat.zero_le _, rfl, ⟨rfl, .inl ⟨rfl, rfl⟩⟩, Below.refl _ _⟩
  case round =>
    obtain ⟨k, hk, rfl, ho, hb⟩ := hrel
    obtain ⟨a1, c1, rfl, hc1, hm1⟩ := owned_form ho
    have HO := Lib.hid ho
    have HB := Lib.hid hb
    clear ho hb
    by_cases hlt : k < m
    · have hlt' : (k : Int) < (m : Int) := by omega
      have hlt8 : k * 8 < l.length := by rw [HL.out]; omega
      obtain ⟨b1, o1, rfl, hb1, _⟩ := (HC.out.below HB.out (Nat.le_refl _)).atMap 0 hlt8
      have HSeg := Lib.hid (seg_cells (HC.out.below HB.out (Nat.le_refl _)) k)
      have HSl : Hid (((seg l k).map vu64).length = 8 * 1) := Lib.hid (by rw [List.length_map, seg_length _ _ (by rw [HL.out]; omega)])
      have HT := Lib.hid (take_seg l k m HL.out hlt)
      have hone : Hid (∀ u ∈ (seg l k).map vu64, u.oneCell' = true) := Lib.hid (one_cells _)
      have hbase : Hid (w.heap.size ≤ wr.heap.size) := Lib.hid HB.out.size
      have hk9 : 8 * k + 8 < 1000000000000 := by omega
      clear hlt8 hc1 hm1
      go_wp2_with (at_builtin; refine wpList_append_cells (m := 8) (c := 8) el64 HO.out HSeg.out (by rw [HSl.out]) hone.out hk9 (by decide) hbase.out rfl rfl rfl rfl ?_; intro v6 w6 ho6 hg6 _; have HO6 := Lib.hid ho6; have HG6 := Lib.hid hg6; clear ho6 hg6)
      refine ⟨⟨k + 1, by omega, vint (by omega), ?_, below_grownBy HB.out HO.out HG6.out (Nat.le_refl _) (Nat.le_refl _)⟩, by simp [intOf]; omega⟩
      rw [HT.out, List.map_append]
      exact HO6.out
    · obtain rfl : k = m := by omega
      have hlt' : decide ((k : Int) < (k : Int)) = false := by simp
      go_wp2_with fail
      go_ret
      refine ⟨_, rfl, ?_, HB.out⟩
      have := HO.out
      rwa [List.take_of_length_le (by rw [HL.out]; exact Nat.le_refl _)] at this

end Go.Proofs.Ytjgdplengfnkaaa

/- law03: Same. -/
namespace Go.Proofs.Ytjgdplengfnkaaa
open Go.RowKit
set_option linter.unusedVariables false

set_option maxHeartbeats 4000000 in
set_option maxRecDepth 100000 in
theorem same3_any {w : World} {F : Foot} {v : Value} {S : Dev} {m : Nat} (hm : S.dirty.length = m) (hd : DevAt w F S) (h : RAt w v m S.ref) :
    Calls Try.prog 59 #[vdev F, v] w fun e w' => e = .returned (.bool true) ∧ Below w.heap.size w w' := by
  have hwf := hd.wf
  have hcl : S.cache.length = 8 * m := by have := hwf.lenD; rw [hm] at this; exact this
  have hm8 : m ≤ 125000 := by have := hwf.small; omega
  obtain ⟨an, cn, al, cl, aw, cw, ad, cd, ap, cp, rfl, k1, k2, k3, k4, k5⟩ := h.ex
  have HK1 : Hid (Cells w an (S.cache.map vu64)) := Lib.hid k1
  have HK2 : Hid (Cells w al (S.lasting.map vu64)) := Lib.hid k2
  have HLL : Hid (S.lasting.length = 8 * m) := Lib.hid (by rw [hwf.lenL]; exact hcl)
  have HRA := Lib.hid h
  clear k1 k2 k3 k4 k5 h hwf
  rw [show S.ref.steps = S.steps from rfl, show S.ref.dead = S.dead from rfl] at *
  generalize hfz : S.ref.fuse = fz at *
  have HDSt := Lib.hid (fun W (h : DevAt W F S) => dsteps_any h)
  have HDDd := Lib.hid (fun W (h : DevAt W F S) => ddead_any h)
  generalize hsv : S.steps = sv at *
  generalize hdd : S.dead = dd at *
  have HD := Lib.hid hd
  have HMm := Lib.hid hm
  have HCL := Lib.hid hcl
  clear hfz hsv hdd hd hm hcl
  unfold vdev at *
  have HM := Lib.hid (Mem.one w #[.slice an m cn, .slice al m cl, .slice aw m cw, .slice ad m cd, .slice ap m cp, .int .i64 sv, .int .i64 fz, .bool dd] 31)
  go_enter Try.func59, Try.ntmps59
  go_upto_region 1 with fail
  generalize w.alloc _ = w0 at *
  obtain ⟨q, hq⟩ : ∃ q, q = w.heap.size := ⟨_, rfl⟩
  rw [← hq] at HM ⊢
  have HQ := Lib.hid hq
  clear hq
  have HD0 := Lib.hid (HD.out.below HM.out.below)
  have HRA0 := Lib.hid (HRA.out.below HM.out.below (Nat.le_refl _))
  have HK10 := Lib.hid (HK1.out.below HM.out.below (Nat.le_refl _))
  have HK20 := Lib.hid (HK2.out.below HM.out.below (Nat.le_refl _))
  have d0 := HM.out.cell 0 0 rfl rfl
  have d1 := HM.out.cell 0 1 rfl rfl
  have d2 := HM.out.cell 0 2 rfl rfl
  have d3 := HM.out.cell 0 3 rfl rfl
  have d4 := HM.out.cell 0 4 rfl rfl
  have d5 := HM.out.cell 0 5 rfl rfl
  have d6 := HM.out.cell 0 6 rfl rfl
  have d7 := HM.out.cell 0 7 rfl rfl
  have r0 := fun x => later_cell d0 x
  have r1 := fun x => later_cell d1 x
  have r2 := fun x => later_cell d2 x
  have r3 := fun x => later_cell d3 x
  have r4 := fun x => later_cell d4 x
  have r5 := fun x => later_cell d5 x
  have r6 := fun x => later_cell d6 x
  have r7 := fun x => later_cell d7 x
  clear d0 d1 d2 d3 d4 d5 d6 d7 HD HRA HK1 HK2
  have hn1 : (8 * (m : Int) != 8 * (m : Int)) = false := by simp
  have hn1' : (((8 * m : Nat) : Int) != 8 * (m : Int)) = false := by simp
  have hn2 : ((m : Int) != (m : Int)) = false := by simp
  have hn2' : (m != m) = false := by simp
  have hn3 : (sv != sv) = false := by simp
  have hn4 : (dd != dd) = false := by simp
  refine wp_region_seg (C := fun w' => ∃ x : Later (w0), w' = x.val) [.fl [0, 2, 3, 4, 5], .sq [1] true, .sq [6, 7] false, .fl [8, 10, 11, 12], .sq [9] true, .sq [13, 14, 15] false, .fl [16, 18, 19], .sq [17] true, .sq [20, 21, 22] false, .fl [23, 25, 26], .sq [24] true, .sq [27, 28, 29] false, .fl [30, 32], .sq [31] true, .sq [33, 34, 35, 36, 37] false, .fl [38, 40, 41], .sq [39] true, .sq [42, 43, 44, 45] false] (by kernel_rfl) (by kernel_rfl) (by intro c a d v w h; cases d <;> exact h) ?_
  simp only [segs, picks, List.getElem?_cons_succ, List.getElem?_cons_zero]
  have hC1 := later_drew (w0)
  refine wpSeg_fl hC1 ?_
  repeat (first | go_big_quiet_step (fail) | quiet_step (fail))
  refine wpQuiet_nil ?_
  refine wpSeg_sq (fun K hK => ?_)
  go_wp2_with fail
  refine (dlen_any (HD0.out.below (later_below hC1))).mono ?_
  rintro e w2 ⟨rfl, rfl⟩
  rw [HCL.out]
  go_wp2_with fail
  refine hK _ _ (fun _ => hC1) ?_
  clear hK K
  refine wpSeg_sq (fun K hK => ?_)
  go_wp2_with fail
  go_wp2_with fail
  refine hK _ _ (fun h => nomatch h) ?_
  clear hK K
  refine wpSeg_fl hC1 ?_
  repeat (first | go_big_quiet_step (fail) | quiet_step (fail))
  refine wpQuiet_nil ?_
  refine wpSeg_sq (fun K hK => ?_)
  go_wp2_with fail
  refine (dlines_any (HD0.out.below (later_below hC1))).mono ?_
  rintro e w2 ⟨rfl, rfl⟩
  rw [HMm.out]
  go_wp2_with fail
  refine hK _ _ (fun _ => hC1) ?_
  clear hK K
  refine wpSeg_sq (fun K hK => ?_)
  go_wp2_with fail
  go_wp2_with fail
  refine hK _ _ (fun h => nomatch h) ?_
  clear hK K
  refine wpSeg_fl hC1 ?_
  repeat (first | go_big_quiet_step (fail) | quiet_step (fail))
  refine wpQuiet_nil ?_
  refine wpSeg_sq (fun K hK => ?_)
  go_wp2_with fail
  refine (HDSt.out _ (HD0.out.below (later_below hC1))).mono ?_
  rintro e w2 ⟨rfl, rfl⟩
  go_wp2_with fail
  refine hK _ _ (fun _ => hC1) ?_
  clear hK K
  refine wpSeg_sq (fun K hK => ?_)
  go_wp2_with fail
  go_wp2_with fail
  refine hK _ _ (fun h => nomatch h) ?_
  clear hK K
  refine wpSeg_fl hC1 ?_
  repeat (first | go_big_quiet_step (fail) | quiet_step (fail))
  refine wpQuiet_nil ?_
  refine wpSeg_sq (fun K hK => ?_)
  go_wp2_with fail
  refine (HDDd.out _ (HD0.out.below (later_below hC1))).mono ?_
  rintro e w2 ⟨rfl, rfl⟩
  go_wp2_with fail
  refine hK _ _ (fun _ => hC1) ?_
  clear hK K
  refine wpSeg_sq (fun K hK => ?_)
  go_wp2_with fail
  go_wp2_with fail
  refine hK _ _ (fun h => nomatch h) ?_
  clear hK K
  refine wpSeg_fl hC1 ?_
  repeat (first | go_big_quiet_step (fail) | quiet_step (fail))
  refine wpQuiet_nil ?_
  refine wpSeg_sq (fun K hK => ?_)
  go_wp2_with fail
  refine (dirty_any (HD0.out.below (later_below hC1))).mono ?_
  rintro e w2 ⟨v2, rfl, ho2, hb2⟩
  obtain ⟨a2, c2, rfl, hc2, hm2⟩ := owned_form ho2
  have hC2 := later_step hC1 hb2
  rw [HMm.out] at ho2 ⊢
  have HO2 := Lib.hid (Cells.owned ho2)
  clear ho2 hb2 hc2 hm2
  go_wp2_with fail
  refine hK _ _ (fun _ => hC2) ?_
  clear hK K
  refine wpSeg_sq (fun K hK => ?_)
  go_wp2_with fail
  refine (rdirty_any HMm.out (HRA0.out.below (later_below hC2) (Nat.le_refl _)) hm8).mono ?_
  rintro e w3 ⟨v3, rfl, ho3, hb3⟩
  obtain ⟨a3, c3, rfl, hc3, hm3⟩ := owned_form ho3
  have hC3 := later_step hC2 hb3
  have HO3 := Lib.hid (Cells.owned ho3)
  have HO2' := Lib.hid (HO2.out.below hb3 (Nat.le_refl _))
  have hdl : (dirtyL S.dirty m).length ≤ 1000000000 := by have := dirtyL_len S.dirty m; omega
  clear ho3 hb3 hc3 hm3
  go_wp2_with fail
  refine (rints_eq a2 a3 _ c2 c3 (dirtyL S.dirty m) rfl _ HO2'.out HO3.out hdl).mono ?_
  rintro e w4 ⟨rfl, q4, rfl⟩
  have hC4 := later_drewN hC3 q4
  clear HO2 HO3 HO2'
  go_wp2_with fail
  refine hK _ _ (fun h => nomatch h) ?_
  clear hK K
  refine wpSeg_fl hC4 ?_
  repeat (first | go_big_quiet_step (fail) | quiet_step (fail))
  refine wpQuiet_nil ?_
  refine wpSeg_sq (fun K hK => ?_)
  go_wp2_with fail
  refine (dall_any (HD0.out.below (later_below hC4))).mono ?_
  rintro e w5 ⟨v5, rfl, ho5, hb5⟩
  obtain ⟨a5, c5, rfl, hc5, hm5⟩ := owned_form ho5
  have hC5 := later_step hC4 hb5
  rw [HCL.out] at ho5 ⊢
  have HO5 := Lib.hid (Cells.owned ho5)
  clear ho5 hb5 hc5 hm5
  go_wp2_with fail
  refine hK _ _ (fun _ => hC5) ?_
  clear hK K
  refine wpSeg_last ?_
  go_wp2_with fail
  refine (rall_any al m cl S.lasting _ (HK20.out.below (later_below hC5) (Nat.le_refl _)) HLL.out hm8).mono ?_
  rintro e w6 ⟨v6, rfl, ho6, hb6⟩
  obtain ⟨a6, c6, rfl, hc6, hm6⟩ := owned_form ho6
  have hC6 := later_step hC5 hb6
  have HO6 := Lib.hid (Cells.owned ho6)
  have HO5' := Lib.hid (HO5.out.below hb6 (Nat.le_refl _))
  clear ho6 hb6 hc6 hm6
  go_wp2_with fail
  refine (rsame_eq a5 a6 (8 * m) c5 c6 S.lasting HLL.out _ HO5'.out HO6.out (by omega)).mono ?_
  rintro e w7 ⟨rfl, q7, rfl⟩
  have HB7 := Lib.hid (later_below (later_drewN hC6 q7))
  clear HO5 HO6 HO5' hC1 hC2 hC3 hC4 hC5 hC6 r0 r1 r2 r3 r4 r5 r6 r7
  generalize w6.drewN q7 = w8 at *
  go_wp2_with fail
  go_loopw [5] (fun i wr => ∃ k : Nat, k ≤ 8 * m ∧ i = .int .i64 k ∧ Below w0.heap.size w0 wr) (fun i _ => 8 * m - (intOf i).toNat)
  case atStart => exact ⟨0, Nat.zero_le _, rfl, HB7.out⟩
  case round =>
    obtain ⟨k, hk, rfl, hb⟩ := hrel
    have c0 := (HM.out.later hb).cell 0 0 rfl rfl
    have c1 := (HM.out.later hb).cell 0 1 rfl rfl
    have HB := Lib.hid hb
    clear hb
    by_cases hlt : k < 8 * m
    · have hlt' : (k : Int) < 8 * (m : Int) := by omega
      have HDk := Lib.hid (HD0.out.below HB.out)
      have HK1k := Lib.hid (HK10.out.below HB.out (Nat.le_refl _))
      have HK2k := Lib.hid (HK20.out.below HB.out (Nat.le_refl _))
      have HGet := Lib.hid (fun W (h : DevAt W F S) => dget_any h (k : Int))
      have HLas := Lib.hid (fun W (h : DevAt W F S) => dlasting_any h (k : Int))
      have HRg1 := Lib.hid (fun W (h : Cells W an (S.cache.map vu64)) => rget_any an m cn S.cache W h HCL.out (by omega) (k : Int))
      have HRg2 := Lib.hid (fun W (h : Cells W al (S.lasting.map vu64)) => rget_any al m cl S.lasting W h HLL.out (by omega) (k : Int))
      generalize peek S.cache (k : Int) = x at *
      generalize peek S.lasting (k : Int) = y at *
      have hx1 : ((x : Int) != (x : Int)) = false := by simp
      have hx2 : (x != x) = false := by simp
      have hy1 : ((y : Int) != (y : Int)) = false := by simp
      have hy2 : (y != y) = false := by simp
      have r0 := fun x => later_cell c0 x
      have r1 := fun x => later_cell c1 x
      unfold vdev at HGet HLas
      clear HB7
      go_upto_region 6 with fail
      refine wp_region_seg (C := fun w' => ∃ x : Later (wr), w' = x.val) [.fl [0, 1, 3, 4, 5], .sq [2] true, .sq [6, 7, 8] false, .fl [9, 10, 12, 13, 14], .sq [11] true, .sq [15, 16, 17] false] (by kernel_rfl) (by kernel_rfl) (by intro c a d v w h; cases d <;> exact h) ?_
      simp only [segs, picks, List.getElem?_cons_succ, List.getElem?_cons_zero]
      have hC1 := later_drew (wr)
      refine wpSeg_fl hC1 ?_
      repeat (first | go_big_quiet_step (fail) | quiet_step (fail))
      refine wpQuiet_nil ?_
      refine wpSeg_sq (fun K hK => ?_)
      go_wp2_with fail
      refine (HGet.out _ (HDk.out.below (later_below hC1))).mono ?_
      rintro e w2 ⟨rfl, rfl⟩
      go_wp2_with fail
      refine hK _ _ (fun _ => hC1) ?_
      clear hK K
      refine wpSeg_sq (fun K hK => ?_)
      go_wp2_with fail
      refine (HRg1.out _ (HK1k.out.below (later_below hC1) (Nat.le_refl _))).mono ?_
      rintro e w2 ⟨rfl, rfl⟩
      go_wp2_with fail
      refine hK _ _ (fun h => nomatch h) ?_
      clear hK K
      refine wpSeg_fl hC1 ?_
      repeat (first | go_big_quiet_step (fail) | quiet_step (fail))
      refine wpQuiet_nil ?_
      refine wpSeg_sq (fun K hK => ?_)
      go_wp2_with fail
      refine (HLas.out _ (HDk.out.below (later_below hC1))).mono ?_
      rintro e w2 ⟨rfl, rfl⟩
      go_wp2_with fail
      refine hK _ _ (fun _ => hC1) ?_
      clear hK K
      refine wpSeg_last ?_
      go_wp2_with fail
      refine (HRg2.out _ (HK2k.out.below (later_below hC1) (Nat.le_refl _))).mono ?_
      rintro e w2 ⟨rfl, rfl⟩
      go_wp2_with fail
      exact ⟨⟨k + 1, by omega, vint (by omega), HB.out.trans ((later_below hC1).mono HB.out.size)⟩, by simp [intOf]; omega⟩
    · obtain rfl : k = 8 * m := by omega
      have hlt' : decide (((8 * m : Nat) : Int) < 8 * (m : Int)) = false := by simp
      have hlt2 : decide (8 * (m : Int) < 8 * (m : Int)) = false := by simp
      go_wp2_with fail
      go_ret
      exact ⟨rfl, (HM.out.later HB.out).below⟩

end Go.Proofs.Ytjgdplengfnkaaa

/- The same without the rest of the memory: blocks from B on, where older ones may change. -/
namespace Go.Proofs.Ytjgdplengfnkaaa
open Go.RowKit
set_option linter.unusedVariables false

structure MemR (B : Nat) (W : World) (L : List Ent) : Prop where
  rows : ∀ x ∈ L, RowX W x
  base : ∀ x ∈ L, B ≤ x.g
  nd : (L.map Ent.g).Nodup
  size : B ≤ W.heap.size

theorem Mem.r {w W : World} {L : List Ent} (h : Mem w W L) : MemR w.heap.size W L := ⟨h.rows, h.base, h.nd, h.below.size⟩
theorem MemR.lt {B : Nat} {W : World} {L : List Ent} (h : MemR B W L) : ∀ x ∈ L, x.g < W.heap.size := fun x hx => (h.rows x hx).lt
theorem MemR.later {B : Nat} {W W' : World} {L : List Ent} (h : MemR B W L) (hb : Below W.heap.size W W') : MemR B W' L :=
  ⟨fun x hx => (h.rows x hx).keep (hb.block _ (h.lt x hx)), h.base, h.nd, Nat.le_trans h.size hb.size⟩
/-- Older blocks change. -/
theorem MemR.touch {B : Nat} {W W' : World} {L : List Ent} (h : MemR B W L) {X : List Nat} (ht : Touch X W W') (hX : ∀ k ∈ X, k < B) : MemR B W' L :=
  ⟨fun x hx => (h.rows x hx).keep (ht.block _ (h.lt x hx) (fun hm => by have := hX _ hm; have := h.base x hx; omega)), h.base, h.nd, Nat.le_trans h.size ht.size⟩
/-- Blocks of others change. -/
theorem MemR.apart {B : Nat} {W W' : World} {L : List Ent} (h : MemR B W L) {X : List Nat} (ht : Touch X W W') (hX : ∀ x ∈ L, x.g ∉ X) : MemR B W' L :=
  ⟨fun x hx => (h.rows x hx).keep (ht.block _ (h.lt x hx) (hX x hx)), h.base, h.nd, Nat.le_trans h.size ht.size⟩
theorem MemR.add {B : Nat} {W W' : World} {L : List Ent} (h : MemR B W L) (hb : Below W.heap.size W W') {x : Ent} (hx : RowX W' x) (hg : W.heap.size ≤ x.g) : MemR B W' (L ++ [x]) := by
  have h' := h.later hb
  refine ⟨fun y hy => ?_, fun y hy => ?_, ?_, h'.size⟩
  · rcases List.mem_append.1 hy with hy | hy
    · exact h'.rows y hy
    · obtain rfl : y = x := by simpa using hy
      exact hx
  · rcases List.mem_append.1 hy with hy | hy
    · exact h.base y hy
    · obtain rfl : y = x := by simpa using hy
      exact Nat.le_trans h.size hg
  · rw [List.map_append, List.nodup_append]
    refine ⟨h.nd, by simp, ?_⟩
    intro a ha b hb' e
    simp at hb'
    subst hb'
    subst e
    obtain ⟨y, hy, rfl'⟩ := List.mem_map.1 ha
    have := h.lt y hy
    omega
theorem MemR.front {B : Nat} {W : World} {L E : List Ent} (h : MemR B W (L ++ E)) : MemR B W L :=
  ⟨fun x hx => h.rows x (List.mem_append_left _ hx), fun x hx => h.base x (List.mem_append_left _ hx), (List.nodup_append.1 (by have := h.nd; rwa [List.map_append] at this)).1, h.size⟩
theorem near_of {X : List Nat} {w W : World} (h : Touch X w W) : ∃ x : Near X w, W = x.val := ⟨⟨W, h.size, h.block⟩, rfl⟩
theorem MemR.alloc {B : Nat} {W : World} {L : List Ent} (h : MemR B W L) (cs : Array Value) (t : Nat) : MemR B (W.alloc (.cells cs t)) (L ++ [⟨W.heap.size, t, cs.toList, true⟩]) :=
  h.add (below_alloc W _) ⟨cs, heap_alloc_new W _, [], by simp, fun _ => rfl⟩ (Nat.le_refl _)
theorem MemR.row {B : Nat} {W W' : World} {L : List Ent} (h : MemR B W L) (hb : Below W.heap.size W W') {g e : Nat} {vs : List Value} (hx : RowAt W' g e vs) (hg : W.heap.size ≤ g) : MemR B W' (L ++ [⟨g, e, vs, false⟩]) :=
  h.add hb (RowX.of hx) hg
theorem MemR.at {B : Nat} {W : World} {L : List Ent} (h : MemR B W L) (k : Nat) {g e : Nat} {vs : List Value} {ex : Bool} (hk : L[k]? = some ⟨g, e, vs, ex⟩) : RowAt W g e vs := (h.rows _ (List.mem_of_getElem? hk)).row
theorem MemR.exact {B : Nat} {W : World} {L : List Ent} (h : MemR B W L) (k : Nat) {g e : Nat} {vs : List Value} (hk : L[k]? = some ⟨g, e, vs, true⟩) : W.heap[g]? = some (.cells vs.toArray e (0, 0)) := (h.rows _ (List.mem_of_getElem? hk)).exact
theorem MemR.cell {B : Nat} {W : World} {L : List Ent} (h : MemR B W L) (k i : Nat) {g e : Nat} {vs : List Value} {ex : Bool} {v : Value} (hk : L[k]? = some ⟨g, e, vs, ex⟩) (hi : vs[i]? = some v) : W.cell? ⟨g, i, none⟩ = some v := (h.at k hk).cell hi
theorem MemR.frozen {B : Nat} {W : World} {L : List Ent} (h : MemR B W L) (k i : Nat) {g e : Nat} {vs : List Value} {ex : Bool} (hk : L[k]? = some ⟨g, e, vs, ex⟩) : W.frozen? ⟨g, i, none⟩ = false := (h.at k hk).frozen i
theorem MemR.glt {B : Nat} {W : World} {L : List Ent} (h : MemR B W L) (k : Nat) {g e : Nat} {vs : List Value} {ex : Bool} (hk : L[k]? = some ⟨g, e, vs, ex⟩) : g < W.heap.size := (h.at k hk).lt
theorem MemR.gbase {B : Nat} {W : World} {L : List Ent} (h : MemR B W L) (k : Nat) {g e : Nat} {vs : List Value} {ex : Bool} (hk : L[k]? = some ⟨g, e, vs, ex⟩) : B ≤ g := h.base _ (List.mem_of_getElem? hk)
theorem MemR.upd {B : Nat} {W W' : World} {L : List Ent} (h : MemR B W L) (k : Nat) {x y : Ent} (hk : L[k]? = some x) (hg : y.g = x.g) (ht : Touch [x.g] W W') (hy : RowX W' y) : MemR B W' (L.set k y) := by
  have hx := List.mem_of_getElem? hk
  have hkl : k < L.length := (List.getElem?_eq_some_iff.1 hk).1
  have hmap : (L.set k y).map Ent.g = L.map Ent.g := by
    rw [List.map_set]
    apply List.ext_getElem?
    intro i
    rw [List.getElem?_set]
    split
    · rename_i e
      subst e
      simp [hkl, hg]
      have := (List.getElem?_eq_some_iff.1 hk).2
      rw [this]
    · rfl
  refine ⟨fun z hz => ?_, fun z hz => ?_, by rw [hmap]; exact h.nd, Nat.le_trans h.size ht.size⟩
  · obtain ⟨j, hj, rfl⟩ := List.mem_iff_getElem.1 hz
    rw [List.getElem_set] at hz ⊢
    split
    · exact hy
    · rename_i hne
      have hj' : j < L.length := by simpa using hj
      refine (h.rows _ (List.getElem_mem hj')).keep (ht.block _ (h.lt _ (List.getElem_mem hj')) ?_)
      simp
      intro e
      have e1 : (L.map Ent.g)[j]'(by simpa using hj') = (L.map Ent.g)[k]'(by simpa using hkl) := by
        simp [e, (List.getElem?_eq_some_iff.1 hk).2]
      exact hne (((List.getElem_inj h.nd).1 e1).symm)
  · obtain ⟨j, hj, rfl⟩ := List.mem_iff_getElem.1 hz
    rw [List.getElem_set]
    split
    · rw [hg]; exact h.base x hx
    · exact h.base _ (List.getElem_mem _)
theorem MemR.set {B : Nat} {W : World} {L : List Ent} (h : MemR B W L) (k i : Nat) (v : Value) {g e : Nat} {vs : List Value} {ex : Bool} (hk : L[k]? = some ⟨g, e, vs, ex⟩) (hi : i < vs.length) : MemR B (W.setCell ⟨g, i, none⟩ v) (L.set k ⟨g, e, vs.set i v, ex⟩) := by
  refine h.upd k hk rfl (Touch.setCell _ (by simp) _) ?_
  obtain ⟨xs, h1, more, h2, h3⟩ := h.rows _ (List.mem_of_getElem? hk)
  dsimp only at h1 h2 h3
  refine ⟨_, heap_setCell_same W g i xs e v h1, more, ?_, h3⟩
  dsimp only
  rw [Array.toList_setIfInBounds, h2, List.set_append_left _ _ hi]

/-- Newer blocks do not matter. -/
theorem Touch.own {X : List Nat} {w W W' : World} (h : Touch X w W) {Y : List Nat} (ht : Touch Y W W') (hY : ∀ k ∈ Y, w.heap.size ≤ k ∨ k ∈ X) : Touch X w W' :=
  ⟨ht.os.trans h.os, ht.tape.trans h.tape, ht.output.trans h.output, Nat.le_trans h.size ht.size, fun k hk hn => (ht.block k (Nat.lt_of_lt_of_le hk h.size) (fun hm => (hY k hm).elim (fun h => by omega) hn)).trans (h.block k hk hn)⟩
theorem Touch.later {X : List Nat} {w W W' : World} (h : Touch X w W) (hb : Below W.heap.size W W') : Touch X w W' := h.trans (Touch.ofBelow hb)

section
variable {P : Program} {B : Nat} {W : World} {ops : Array Oper} {rest : List Oper} {o : Oper} {a : Act} {Q : Exit → Act → World → Prop} {L : List Ent}

theorem wpList_load_r {ty : TypeId} {zs : Array Value} (A : Agg P ty zs) (h : MemR B W L) (k : Nat) {p : Operand} {g e : Nat} {vs : List Value} {ex : Bool}
    (hgd : o.guard = none) (ho : o.op = .load ty p) (hp : a.eval p = .pointer (some ⟨g, 0, none⟩)) (hk : L[k]? = some ⟨g, e, vs, ex⟩) (hs : vs.length = zs.size)
    (hK : wpList P ops Q rest (a.put o.dst (.agg vs.toArray)) W) : wpList P ops Q (o :: rest) a W :=
  wpList_load_part A vs (fun i v hi => by rw [Nat.zero_add]; exact h.cell k i hk hi) hs hgd ho hp hK
theorem wpList_store_r {ty : TypeId} {zs : Array Value} (A : Agg P ty zs) (h : MemR B W L) (k : Nat) {p x : Operand} {g e : Nat} {vs : List Value} {cs : Array Value}
    (hgd : o.guard = none) (ho : o.op = .store ty p x) (hp : a.eval p = .pointer (some ⟨g, 0, none⟩)) (hx : a.eval x = .agg cs) (hk : L[k]? = some ⟨g, e, vs, true⟩) (hs : cs.size = zs.size) (hv : vs.length = cs.size) (h1 : cs.toList.all (·.oneCell') = true)
    (hK : ∀ W', MemR B W' (L.set k ⟨g, e, cs.toList, true⟩) → Touch [g] W W' → wpList P ops Q rest (a.put o.dst undef) W') : wpList P ops Q (o :: rest) a W := by
  refine wpList_store_row A (h.exact k hk) hs (by simpa using hv) (by rw [← Array.all_toList]; exact h1) hgd ho hp hx ?_
  intro W' hg hgr hsz
  have ht : Touch [g] W W' := ⟨hgr.os, hgr.tape, hgr.output, hgr.size, fun j hj hn => hgr.block j hj (fun e => hn (by simp at e; simp [e]))⟩
  exact hK W' (h.upd k hk rfl ht ⟨cs, hg, [], by simp, fun _ => rfl⟩) ht
end

end Go.Proofs.Ytjgdplengfnkaaa

/- Regions that draw their order, as a tree: operations that load float, those that look at no memory float without a condition; of two others that may come next either may. -/
namespace Go.Proofs.Ytjgdplengfnkaaa
open Go.RowKit
set_option linter.unusedVariables false

/-- fl: reading operations; pu: such that look at no memory; sq: one by one; br: either of two. -/
inductive Tr where
  | nil
  | fl (ks : List Nat) (t : Tr)
  | pu (ks : List Nat) (t : Tr)
  | sq (ks : List Nat) (lo : Bool) (t : Tr)
  | br (k1 : Nat) (lo1 : Bool) (t1 : Tr) (k2 : Nat) (lo2 : Bool) (t2 : Tr)
inductive TrO where
  | nil
  | fl (os : List Oper) (t : TrO)
  | pu (os : List Oper) (t : TrO)
  | sq (os : List Oper) (lo : Bool) (t : TrO)
  | br (os1 : List Oper) (lo1 : Bool) (t1 : TrO) (os2 : List Oper) (lo2 : Bool) (t2 : TrO)

def isLoad : Op → Bool
  | .load .. => true
  | _ => false

section
variable {P : Program} {ops : Array Oper} {md : Region.Mode} {C : World → Prop} {Q : Exit → Act → World → Prop}

/-- An operation that looks at no memory may be taken first, whatever else may come ahead of it. -/
theorem wpAnyF_pure {loose : Nat → Bool} {i : Nat} {oi : Oper} {v : Value} (hi : ops[i]? = some oi) (hsel : ∀ (j : Nat) (o : Oper) cs b, ops[j]? = some o → o.op ≠ .select cs b)
    (hQ : ∀ c a d v w, Q (.panic c) (a.put d v) w → Q (.panic c) a w) (hlo : loose i = false) :
    ∀ (fuel : Nat) (listed : Array Bool) (a : Act) (w : World),
      (∀ j oj, ops[j]? = some oj → j ≠ i → listed.getD j true = false → (∀ e ∈ oj.after, Region.binds md e = true → e.on ≠ i) → oi.apart ops oj = true) →
      i ∈ Region.ready md ops listed → Stays P ops (fun _ => True) oi v a →
      wpAnyF P md ops Q C loose fuel (listed.setIfInBounds i true) (a.put oi.dst v) w → wpAnyF P md ops Q C loose (fuel + 1) listed a w := by
  intro fuel
  induction fuel with
  | zero =>
    intro listed a w _ hr hy H
    refine ⟨fun h => (by rw [h] at hr; cases hr), fun j hj => ?_⟩
    by_cases hji : j = i
    · subst hji; exact hy.wpOp hi trivial ⟨fun h => (by rw [hlo] at h; cases h), H⟩
    · have := ready_mono hj hji
      rw [H.1] at this
      cases this
  | succ fuel ih =>
    intro listed a w hfree hr hy H
    refine ⟨fun h => (by rw [h] at hr; cases hr), fun j hj => ?_⟩
    by_cases hji : j = i
    · subst hji; exact hy.wpOp hi trivial ⟨fun h => (by rw [hlo] at h; cases h), H⟩
    · have h1 := H.2 j (ready_mono hj hji)
      obtain ⟨hjun, oj, hoj, hall⟩ := mem_ready.1 hj
      have hiun : listed.getD i false = false := by
        have h0 := (mem_ready.1 hr).1
        rcases Nat.lt_or_ge i listed.size with h' | h'
        · simp [h'] at h0 ⊢; exact h0
        · simp [Array.getElem?_eq_none h']
      have hnot : ∀ e ∈ oj.after, Region.binds md e = true → e.on ≠ i := fun e he hb heq => by
        have h1 := hall e he hb
        rw [heq, hiun] at h1
        cases h1
      have h2 := wpOp_putF (C := fun _ => True) hoj (hfree j oj hoj hji hjun hnot) (fun cs b => hsel i oi cs b hi) (fun cs b => hsel j oj cs b hoj) hQ hy h1
      have hun' : ∀ k, (listed.setIfInBounds j true).getD k true = false → listed.getD k true = false := fun k hun => by
        by_cases hjk : j = k
        · subst hjk; exact hjun
        · rw [getD_set_ne true hjk] at hun; exact hun
      refine wpOp_mono (fun a' w' h3 => ⟨h3.2.1, ih (listed.setIfInBounds j true) a' w' (fun k ok hk hki hun hno => hfree k ok hk hki (hun' k hun) hno) (ready_mono hr (Ne.symm hji)) h3.1 ?_⟩) h2
      rw [Array.setIfInBounds_comm _ _ hji]
      exact h3.2.2

/-- Is there an operation that loads and that may come ahead of j as well as behind it? -/
def looseL (md : Region.Mode) (ops : Array Oper) (j : Nat) : Bool :=
  (List.range ops.size).any fun i => i != j && (match ops[i]? with | some o => isLoad o.op | none => false) && !waitsFor md ops ops.size j i && !waitsFor md ops ops.size i j

def flL (md : Region.Mode) (ops : Array Oper) : List Nat → Array Bool → Bool × Array Bool
  | [], listed => (true, listed)
  | k :: ks, listed => match ops[k]? with
    | none => (false, listed)
    | some o => let r := flL md ops ks (listed.setIfInBounds k true)
      (calm o.op && (Region.ready md ops listed).contains k && Region.free md ops listed k && ((List.range ops.size).all fun j => j == k || listed.getD j true || waitsFor md ops ops.size j k || looseL md ops j) && r.1, r.2)
def puL (md : Region.Mode) (ops : Array Oper) : List Nat → Array Bool → Bool × Array Bool
  | [], listed => (true, listed)
  | k :: ks, listed => match ops[k]? with
    | none => (false, listed)
    | some o => let r := puL md ops ks (listed.setIfInBounds k true)
      (calm o.op && (Region.ready md ops listed).contains k && Region.free md ops listed k && !looseL md ops k && r.1, r.2)
def sqL (md : Region.Mode) (ops : Array Oper) (lo : Bool) : List Nat → Array Bool → Bool × Array Bool
  | [], listed => (true, listed)
  | k :: ks, listed => match ops[k]? with
    | none => (false, listed)
    | some _ => let r := sqL md ops lo ks (listed.setIfInBounds k true)
      (Region.ready md ops listed == [k] && (!looseL md ops k || (lo && ks.isEmpty)) && r.1, r.2)
def trLen : Tr → Nat
  | .nil => 0
  | .fl ks t => trLen t + ks.length
  | .pu ks t => trLen t + ks.length
  | .sq ks _ t => trLen t + ks.length
  | .br _ _ t1 _ _ _ => trLen t1 + 1
def trL (md : Region.Mode) (ops : Array Oper) : Tr → Array Bool → Bool
  | .nil, listed => (Region.ready md ops listed).isEmpty
  | .fl ks t, listed => let x := flL md ops ks listed; x.1 && trL md ops t x.2
  | .pu ks t, listed => let x := puL md ops ks listed; x.1 && trL md ops t x.2
  | .sq ks lo t, listed => let x := sqL md ops lo ks listed; x.1 && trL md ops t x.2
  | .br k1 lo1 t1 k2 lo2 t2, listed => Region.ready md ops listed == [k1, k2] && (!looseL md ops k1 || lo1) && (!looseL md ops k2 || lo2) && trLen t1 == trLen t2 && (ops[k1]?).isSome && (ops[k2]?).isSome &&
      trL md ops t1 (listed.setIfInBounds k1 true) && trL md ops t2 (listed.setIfInBounds k2 true)
def trB (md : Region.Mode) (ops : Array Oper) (t : Tr) : Bool := Region.noSelect ops && trLen t == ops.size && trL md ops t (Array.replicate ops.size false)

def trO (l : List Oper) : Tr → TrO
  | .nil => .nil
  | .fl ks t => .fl (picks l ks) (trO l t)
  | .pu ks t => .pu (picks l ks) (trO l t)
  | .sq ks lo t => .sq (picks l ks) lo (trO l t)
  | .br k1 lo1 t1 k2 lo2 t2 => .br (picks l [k1]) lo1 (trO l t1) (picks l [k2]) lo2 (trO l t2)

/-- The walk. -/
def wpTr (P : Program) (ops : Array Oper) (C : World → Prop) (Q : Exit → Act → World → Prop) : TrO → Act → World → Prop
  | .nil, a, w => Q .normal a w
  | .fl os t, a, w => C w ∧ wpQuiet P ops C (fun a' => wpTr P ops C Q t a' w) os a
  | .pu os t, a, w => wpQuiet P ops (fun _ => True) (fun a' => wpTr P ops C Q t a' w) os a
  | .sq os lo t, a, w => wpList P ops (Exit.then (fun a' w' => (lo = true → C w') ∧ wpTr P ops C Q t a' w') Q) os a w
  | .br os1 lo1 t1 os2 lo2 t2, a, w => wpList P ops (Exit.then (fun a' w' => (lo1 = true → C w') ∧ wpTr P ops C Q t1 a' w') Q) os1 a w ∧ wpList P ops (Exit.then (fun a' w' => (lo2 = true → C w') ∧ wpTr P ops C Q t2 a' w') Q) os2 a w

theorem stays_of {C : World → Prop} {o : Oper} {a : Act} {K : Act → Prop} {ks : List Oper} (hcalm : calm o.op = true) (h : wpQuiet P ops C K (o :: ks) a) : ∃ v, Stays P ops C o v a ∧ wpQuiet P ops C K ks (a.put o.dst v) := by
  simp only [wpQuiet] at h
  by_cases hw : Region.wanted o (yielded ops a.tmps) = true
  · rw [if_pos hw] at h
    obtain ⟨v, h1, h2⟩ := h
    refine ⟨v, .inl ⟨hw, fun x hx => ?_⟩, h2⟩
    have h3 := h1 x hx
    unfold Oper.quietAt at h3
    cases hq : (execOp a.eval o).run P x with
    | ok nx w2 =>
      obtain ⟨u, rfl⟩ := calm_value hcalm hq
      rw [hq] at h3
      simp only [Oper.quietUpon] at h3
      rw [h3.1, h3.2]
    | halt x' w2 => rw [hq] at h3; simp only [Oper.quietUpon] at h3
  · rw [if_neg hw] at h
    exact ⟨undef, .inr ⟨by simpa using hw, rfl⟩, h⟩

theorem flL_ok (hs : Region.noSelect ops = true) (hQ : ∀ c a d v w, Q (.panic c) (a.put d v) w → Q (.panic c) a w) {m : Nat} {R : Act → Prop} {w : World} (hC : C w) : ∀ (ks : List Nat) (listed : Array Bool) (a : Act), Shut md ops listed → (flL md ops ks listed).1 = true →
    (∀ a', Shut md ops (flL md ops ks listed).2 → R a' → wpAnyF P md ops Q C (looseL md ops) m (flL md ops ks listed).2 a' w) →
    wpQuiet P ops C R (picks ops.toList ks) a → wpAnyF P md ops Q C (looseL md ops) (m + ks.length) listed a w := by
  intro ks
  induction ks with
  | nil =>
    intro listed a hsh _ hR h
    exact hR a hsh (by simpa [picks, wpQuiet] using h)
  | cons k ks ih =>
    intro listed a hsh hB hR h
    cases hk : ops[k]? with
    | none => simp [flL, hk] at hB
    | some o =>
      have e : picks ops.toList (k :: ks) = o :: picks ops.toList ks := by simp [picks, hk]
      rw [e] at h
      simp only [flL, hk, Bool.and_eq_true] at hB hR
      obtain ⟨⟨⟨⟨hc, hr⟩, hf⟩, hlo⟩, hB'⟩ := hB
      have hrk : k ∈ Region.ready md ops listed := by simpa using hr
      obtain ⟨v, hy, hK⟩ := stays_of hc h
      refine wpAnyF_early (f := ops.size) hk (Region.noSelect_spec hs) hQ (m + ks.length) listed a w ?_ (Region.free_spec hk hf) hrk hsh hy hC (ih _ _ (hsh.set hrk) hB' hR hK)
      intro j oj hj hjk hun
      simp only [List.all_eq_true, List.mem_range, Bool.or_eq_true, beq_iff_eq] at hlo
      rcases hlo j (Array.getElem?_eq_some_iff.1 hj).1 with ((h | h) | h) | h
      · exact absurd h hjk
      · rw [hun] at h; cases h
      · exact .inl h
      · exact .inr h
theorem puL_ok (hs : Region.noSelect ops = true) (hQ : ∀ c a d v w, Q (.panic c) (a.put d v) w → Q (.panic c) a w) {m : Nat} {R : Act → Prop} {w : World} : ∀ (ks : List Nat) (listed : Array Bool) (a : Act), Shut md ops listed → (puL md ops ks listed).1 = true →
    (∀ a', Shut md ops (puL md ops ks listed).2 → R a' → wpAnyF P md ops Q C (looseL md ops) m (puL md ops ks listed).2 a' w) →
    wpQuiet P ops (fun _ => True) R (picks ops.toList ks) a → wpAnyF P md ops Q C (looseL md ops) (m + ks.length) listed a w := by
  intro ks
  induction ks with
  | nil =>
    intro listed a hsh _ hR h
    exact hR a hsh (by simpa [picks, wpQuiet] using h)
  | cons k ks ih =>
    intro listed a hsh hB hR h
    cases hk : ops[k]? with
    | none => simp [puL, hk] at hB
    | some o =>
      have e : picks ops.toList (k :: ks) = o :: picks ops.toList ks := by simp [picks, hk]
      rw [e] at h
      simp only [puL, hk, Bool.and_eq_true, Bool.not_eq_true'] at hB hR
      obtain ⟨⟨⟨⟨hc, hr⟩, hf⟩, hlo⟩, hB'⟩ := hB
      have hrk : k ∈ Region.ready md ops listed := by simpa using hr
      obtain ⟨v, hy, hK⟩ := stays_of hc h
      exact wpAnyF_pure hk (Region.noSelect_spec hs) hQ hlo (m + ks.length) listed a w (Region.free_spec hk hf) hrk hy (ih _ _ (hsh.set hrk) hB' hR hK)

/-- One operation that comes next. -/
theorem oneL_ok {m : Nat} {lo : Bool} {R : Act → World → Prop} {k : Nat} {o : Oper} (hk : ops[k]? = some o) {L : Array Bool} {a : Act} {w : World} (hlo : looseL md ops k = true → lo = true)
    (hR : ∀ a' w', (lo = true → C w') → R a' w' → wpAnyF P md ops Q C (looseL md ops) m L a' w')
    (h : wpList P ops (Exit.then (fun a' w' => (lo = true → C w') ∧ R a' w') Q) [o] a w) : wpOp P ops Q k (fun a' w' => (looseL md ops k = true → C w') ∧ wpAnyF P md ops Q C (looseL md ops) m L a' w') a w := by
  unfold wpOp
  simp only [hk]
  unfold wpList at h
  have hmono : ∀ a' w', wpList P ops (Exit.then (fun a' w' => (lo = true → C w') ∧ R a' w') Q) [] a' w' → (looseL md ops k = true → C w') ∧ wpAnyF P md ops Q C (looseL md ops) m L a' w' := by
    intro a' w' h'
    have h' : (lo = true → C w') ∧ R a' w' := by simpa [wpList, Exit.then] using h'
    exact ⟨fun hl => h'.1 (hlo hl), hR a' w' h'.1 h'.2⟩
  by_cases hw : Region.wanted o (yielded ops a.tmps) = true
  · rw [if_pos hw] at h ⊢
    rcases h with h | h
    · refine .inl ?_
      have h := Oper.wp_mono hmono h
      unfold Oper.wp at *
      generalize (execOp a.eval o).run P w = r at *
      cases r with
      | ok n w' => cases n <;> simp only [Oper.upon] at h ⊢ <;> exact h
      | halt x w' => cases x <;> simp only [Oper.upon] at h ⊢ <;> exact h
    · exact .inr h
  · rw [if_neg hw] at h ⊢
    exact hmono _ _ h

theorem sqL_ok {m : Nat} {lo : Bool} {R : Act → World → Prop} : ∀ (ks : List Nat) (listed : Array Bool) (a : Act) (w : World), Shut md ops listed → (sqL md ops lo ks listed).1 = true →
    (∀ a' w', Shut md ops (sqL md ops lo ks listed).2 → (lo = true → C w') → R a' w' → wpAnyF P md ops Q C (looseL md ops) m (sqL md ops lo ks listed).2 a' w') →
    wpList P ops (Exit.then (fun a' w' => (lo = true → C w') ∧ R a' w') Q) (picks ops.toList ks) a w → wpAnyF P md ops Q C (looseL md ops) (m + ks.length) listed a w := by
  intro ks
  induction ks with
  | nil =>
    intro listed a w hsh _ hR h
    have h : (lo = true → C w) ∧ R a w := by simpa [picks, wpList, Exit.then] using h
    exact hR a w hsh h.1 h.2
  | cons k ks ih =>
    intro listed a w hsh hB hR h
    cases hk : ops[k]? with
    | none => simp [sqL, hk] at hB
    | some o =>
      have e : picks ops.toList (k :: ks) = o :: picks ops.toList ks := by simp [picks, hk]
      rw [e] at h
      simp only [sqL, hk, Bool.and_eq_true, beq_iff_eq] at hB hR
      obtain ⟨⟨hr, hlo⟩, hB'⟩ := hB
      have hrk : k ∈ Region.ready md ops listed := by rw [hr]; simp
      refine ⟨fun h' => (by rw [hr] at h'; cases h'), fun i hi => ?_⟩
      rw [hr] at hi
      obtain rfl : i = k := by simpa using hi
      unfold wpOp
      simp only [hk]
      unfold wpList at h
      have hmono : ∀ a' w', wpList P ops (Exit.then (fun a' w' => (lo = true → C w') ∧ R a' w') Q) (picks ops.toList ks) a' w' →
          (looseL md ops i = true → C w') ∧ wpAnyF P md ops Q C (looseL md ops) (m + ks.length) (listed.setIfInBounds i true) a' w' := by
        intro a' w' h'
        refine ⟨fun hl => ?_, ih _ _ _ (hsh.set hrk) hB' hR h'⟩
        simp only [hl, Bool.not_true, Bool.false_or, Bool.and_eq_true, List.isEmpty_iff] at hlo
        obtain ⟨hlo1, rfl⟩ := hlo
        have h' : (lo = true → C w') ∧ R a' w' := by simpa [picks, wpList, Exit.then] using h'
        exact h'.1 hlo1
      by_cases hw : Region.wanted o (yielded ops a.tmps) = true
      · rw [if_pos hw] at h ⊢
        rcases h with h | h
        · refine .inl ?_
          have h := Oper.wp_mono hmono h
          unfold Oper.wp at *
          generalize (execOp a.eval o).run P w = r at *
          cases r with
          | ok n w' => cases n <;> simp only [Oper.upon] at h ⊢ <;> exact h
          | halt x w' => cases x <;> simp only [Oper.upon] at h ⊢ <;> exact h
        · exact .inr h
      · rw [if_neg hw] at h ⊢
        exact hmono _ _ h

theorem tr_ok (hs : Region.noSelect ops = true) (hQ : ∀ c a d v w, Q (.panic c) (a.put d v) w → Q (.panic c) a w) : ∀ (t : Tr) (listed : Array Bool) (a : Act) (w : World), Shut md ops listed →
    trL md ops t listed = true → wpTr P ops C Q (trO ops.toList t) a w → wpAnyF P md ops Q C (looseL md ops) (trLen t) listed a w := by
  intro t
  induction t with
  | nil =>
    intro listed a w _ hB h
    exact ⟨by simpa [trL] using hB, by simpa [wpTr, trO] using h⟩
  | fl ks t ih =>
    intro listed a w hsh hB h
    simp only [trL, Bool.and_eq_true] at hB
    simp only [trO, wpTr] at h
    exact flL_ok hs hQ h.1 ks listed a hsh hB.1 (fun a' hsh' hR => ih _ a' w hsh' hB.2 hR) h.2
  | pu ks t ih =>
    intro listed a w hsh hB h
    simp only [trL, Bool.and_eq_true] at hB
    simp only [trO, wpTr] at h
    exact puL_ok hs hQ ks listed a hsh hB.1 (fun a' hsh' hR => ih _ a' w hsh' hB.2 hR) h
  | sq ks lo t ih =>
    intro listed a w hsh hB h
    simp only [trL, Bool.and_eq_true] at hB
    simp only [trO, wpTr] at h
    exact sqL_ok ks listed a w hsh hB.1 (fun a' w' hsh' _ hR => ih _ a' w' hsh' hB.2 hR) h
  | br k1 lo1 t1 k2 lo2 t2 ih1 ih2 =>
    intro listed a w hsh hB h
    simp only [trL, Bool.and_eq_true, beq_iff_eq] at hB
    obtain ⟨⟨⟨⟨⟨⟨⟨hr, hl1⟩, hl2⟩, hlen⟩, ho1⟩, ho2⟩, hB1⟩, hB2⟩ := hB
    obtain ⟨o1, ho1⟩ := Option.isSome_iff_exists.1 ho1
    obtain ⟨o2, ho2⟩ := Option.isSome_iff_exists.1 ho2
    simp only [trO, wpTr] at h
    have e1 : picks ops.toList [k1] = [o1] := by simp [picks, ho1]
    have e2 : picks ops.toList [k2] = [o2] := by simp [picks, ho2]
    rw [e1, e2] at h
    refine ⟨fun h' => (by rw [hr] at h'; cases h'), fun i hi => ?_⟩
    have hri := hi
    rw [hr] at hi
    simp only [List.mem_cons, List.not_mem_nil, or_false] at hi
    rcases hi with rfl | rfl
    · exact oneL_ok ho1 (fun hl => by simpa [hl] using hl1) (fun a' w' _ hR => ih1 _ a' w' (hsh.set hri) hB1 hR) h.1
    · exact oneL_ok ho2 (fun hl => by simpa [hl] using hl2) (fun a' w' _ hR => by have := ih2 _ a' w' (hsh.set hri) hB2 hR; rw [← hlen] at this; exact this) h.2

/-- One walk for each branch serves every order. -/
theorem wp_region_tr {id : Nat} {a : Act} {w : World} {l : List Oper} (t : Tr) (hm : P.follows .mixedOrders = true) (hB : trB .any l.toArray t = true)
    (hQ : ∀ c a d v w, Q (.panic c) (a.put d v) w → Q (.panic c) a w)
    (h : wpTr P l.toArray C Q (trO l t) a w.drew) : (Code.region id l.toArray true).wp P Q a w := by
  simp only [trB, Bool.and_eq_true, beq_iff_eq] at hB
  refine wp_region_any hm (wpAny_of_F (C := C) (loose := looseL .any l.toArray) _ _ _ _ ?_)
  have := tr_ok (md := .any) (C := C) hB.1.1 hQ t (Array.replicate l.toArray.size false) a w.drew (shut_none _) hB.2 h
  rw [hB.1.2] at this
  exact this

theorem wpTr_fl {os : List Oper} {t : TrO} {a : Act} {w : World} (hC : C w) (h : wpQuiet P ops C (fun a' => wpTr P ops C Q t a' w) os a) : wpTr P ops C Q (.fl os t) a w := ⟨hC, h⟩
theorem wpTr_pu {os : List Oper} {t : TrO} {a : Act} {w : World} (h : wpQuiet P ops (fun _ => True) (fun a' => wpTr P ops C Q t a' w) os a) : wpTr P ops C Q (.pu os t) a w := h
theorem wpTr_sq {os : List Oper} {lo : Bool} {t : TrO} {a : Act} {w : World}
    (h : ∀ K : Act → World → Prop, (∀ a' w', (lo = true → C w') → wpTr P ops C Q t a' w' → K a' w') → wpList P ops (Exit.then K Q) os a w) : wpTr P ops C Q (.sq os lo t) a w :=
  h _ (fun _ _ h1 h2 => ⟨h1, h2⟩)
theorem wpTr_br {os1 os2 : List Oper} {lo1 lo2 : Bool} {t1 t2 : TrO} {a : Act} {w : World} (h1 : wpTr P ops C Q (.sq os1 lo1 t1) a w) (h2 : wpTr P ops C Q (.sq os2 lo2 t2) a w) : wpTr P ops C Q (.br os1 lo1 t1 os2 lo2 t2) a w := ⟨h1, h2⟩
theorem wpTr_nil {a : Act} {w : World} (h : Q .normal a w) : wpTr P ops C Q .nil a w := h
/-- The last segment. -/
theorem wpTr_last {os : List Oper} {a : Act} {w : World} (h : wpList P ops Q os a w) : wpTr P ops C Q (.sq os false .nil) a w := by
  unfold wpTr
  have e : (fun a' w' => (false = true → C w') ∧ wpTr P ops C Q .nil a' w') = Q .normal := by
    funext a' w'
    simp [wpTr]
  rw [e, exit_then_self]
  exact h
end

end Go.Proofs.Ytjgdplengfnkaaa
