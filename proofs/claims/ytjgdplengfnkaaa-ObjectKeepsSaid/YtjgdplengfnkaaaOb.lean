/- object: Head, field, Init, SetPtr, SetData, Persist. -/
import Derived.Test.YtjgdplengfnkaaaOh
import Derived.Test.YtjgdplengfnkaaaBk
import Derived.Test.YtjgdplengfnkaaaIv
namespace Go.Proofs.Ytjgdplengfnkaaa
open Go.RowKit
set_option linter.unusedVariables false

/-- The object at an address; code 22: there is none. -/
def headN (S : Dev) (a : Int) : Odec :=
  if a < 0 ∨ (S.cache.length : Int) ≤ a then ⟨0, 0, 22⟩ else
    if (odecN a (peek S.cache a)).code ≠ 0 ∨ (S.cache.length : Int) - a < (objSize (odecN a (peek S.cache a)).p (odecN a (peek S.cache a)).d : Nat) then ⟨0, 0, 22⟩ else ⟨(odecN a (peek S.cache a)).p, (odecN a (peek S.cache a)).d, 0⟩

theorem headN_code (S : Dev) (a : Int) : ((headN S a).code = 0 ∧ 0 ≤ a ∧ a < S.cache.length ∧ objSize (headN S a).p (headN S a).d ≠ 0 ∧ a + (objSize (headN S a).p (headN S a).d : Nat) ≤ S.cache.length ∧ oencN a (headN S a).p (headN S a).d = peek S.cache a) ∨ headN S a = ⟨0, 0, 22⟩ := by
  have hz := odec_size (a := a) (x := peek S.cache a)
  unfold headN
  generalize odecN a (peek S.cache a) = x at *
  obtain ⟨p, d, c⟩ := x
  dsimp only at hz ⊢
  split
  · exact .inr rfl
  · split
    · exact .inr rfl
    · rename_i h1 h2
      have hc : c = 0 := Decidable.byContradiction fun h => h2 (.inl h)
      have := hz hc
      generalize oencN a p d = y at *
      generalize objSize p d = s at *
      exact .inl ⟨rfl, by omega, by omega, this.1, by omega, this.2⟩

set_option maxHeartbeats 2000000 in
set_option maxRecDepth 20000 in
theorem ohead_any {w : World} {F : Foot} {S : Dev} (h : DevAt w F S) (a : Int) :
    Calls Try.prog 37 #[vdev F, .int .i64 a] w fun e w' => e = .returned (headN S a).val ∧ Below w.heap.size w w' := by
  have hbA := below_alloc w (Obj.cells #[Value.int .i64 0, Value.int .i64 0] 73)
  have hg := heap_alloc_new w (Obj.cells #[Value.int .i64 0, Value.int .i64 0] 73)
  have hd := h.below hbA
  have hsm := h.small
  have HE : Hid (∀ x : Odec, x = ⟨0, 0, 22⟩ → x.val = .tuple #[vob 0 0, .int .i64 22]) := Lib.hid (by rintro x rfl; rfl)
  have HB := Lib.hid hbA
  have HD := Lib.hid hd
  clear hbA hd h
  by_cases h0 : a < 0
  · have HV : Hid (headN S a = ⟨0, 0, 22⟩) := Lib.hid (by unfold headN; rw [if_pos (.inl h0)])
    go_enter Try.func37, Try.ntmps37
    go_wp2_with (refine wpList_store_row (cs := #[.int .i64 0, .int .i64 0]) aggOb hg rfl rfl (by simp [Value.oneCell']) rfl rfl rfl rfl ?_; intro w4 hg5 hgr4 hs4)
    refine bodyPost_ret (results_cell_row2 (p := 4) (u := 5) rfl _ _ _ _ _ _ _ rfl hg5 Try.underlying73 rfl (by kernel_rfl)) rfl ⟨by rw [HE.out _ HV.out]; rfl, ?_⟩
    exact HB.out.grown hgr4 HB.out.size (fun k e => by cases e; omega)
  by_cases h1 : (S.cache.length : Int) ≤ a
  · have HV : Hid (headN S a = ⟨0, 0, 22⟩) := Lib.hid (by unfold headN; rw [if_pos (.inr h1)])
    go_enter Try.func37, Try.ntmps37
    go_wp2_with fail
    refine (dlen_any HD.out).mono ?_
    rintro e w1 ⟨rfl, rfl⟩
    go_wp2_with (refine wpList_store_row (cs := #[.int .i64 0, .int .i64 0]) aggOb hg rfl rfl (by simp [Value.oneCell']) rfl rfl rfl rfl ?_; intro w4 hg5 hgr4 hs4)
    refine bodyPost_ret (results_cell_row2 (p := 4) (u := 5) rfl _ _ _ _ _ _ _ rfl hg5 Try.underlying73 rfl (by kernel_rfl)) rfl ⟨by rw [HE.out _ HV.out]; rfl, ?_⟩
    exact HB.out.grown hgr4 HB.out.size (fun k e => by cases e; omega)
  have HV0 : Hid (headN S a = if (odecN a (peek S.cache a)).code ≠ 0 ∨ (S.cache.length : Int) - a < (objSize (odecN a (peek S.cache a)).p (odecN a (peek S.cache a)).d : Nat) then ⟨0, 0, 22⟩ else ⟨(odecN a (peek S.cache a)).p, (odecN a (peek S.cache a)).d, 0⟩) := Lib.hid (by unfold headN; rw [if_neg (by omega)])
  go_enter Try.func37, Try.ntmps37
  go_wp2_with fail
  refine (dlen_any HD.out).mono ?_
  rintro e w1 ⟨rfl, rfl⟩
  go_wp2_with fail
  refine (dget_any HD.out a).mono ?_
  rintro e w1 ⟨rfl, rfl⟩
  have hpk := peek_lt HD.out.u64C a
  generalize w.alloc (Obj.cells #[Value.int .i64 0, Value.int .i64 0] 73) = w0 at *
  go_wp2_with fail
  refine (odecode_any a _ hpk _).mono ?_
  rintro e w1 ⟨rfl, hb1⟩
  have hg0 : w.heap.size < w0.heap.size := (Array.getElem?_eq_some_iff.1 hg).1
  have hg1 : w1.heap[w.heap.size]? = _ := (hb1.block _ hg0).trans hg
  have HB1 := Lib.hid (HB.out.trans (hb1.mono HB.out.size))
  have HD1 := Lib.hid (HD.out.below hb1)
  clear hb1 hg HB HD hpk
  generalize odecN a (peek S.cache a) = x at *
  obtain ⟨p, d, c⟩ := x
  unfold Odec.val
  dsimp only at HV0 ⊢
  have hbx := below_alloc w1 (Obj.cells #[Value.int .i64 p, Value.int .i64 d] 73)
  have hg2 := (hbx.block w.heap.size (by have := HB1.out.size; exact (Array.getElem?_eq_some_iff.1 hg1).1)).trans hg1
  have HB2 := Lib.hid (HB1.out.trans (hbx.mono HB1.out.size))
  have HD2 := Lib.hid (HD1.out.below hbx)
  have e0 : (w1.alloc (Obj.cells #[Value.int .i64 p, Value.int .i64 d] 73)).cell? ⟨w1.heap.size, 0, none⟩ = some (.int .i64 p) := cell_alloc_new _ _ _ 0 _ rfl
  have e1 : (w1.alloc (Obj.cells #[Value.int .i64 p, Value.int .i64 d] 73)).cell? ⟨w1.heap.size, 1, none⟩ = some (.int .i64 d) := cell_alloc_new _ _ _ 1 _ rfl
  clear hbx hg1 HB1 HD1
  by_cases hc : c = 0
  · subst hc
    go_wp2_with fail
    refine (osize_any p d _).mono ?_
    rintro e w2 ⟨rfl, hb2⟩
    generalize w1.alloc (Obj.cells #[Value.int .i64 p, Value.int .i64 d] 73) = w1' at *
    have hg3 : w2.heap[w.heap.size]? = _ := (hb2.block _ (Array.getElem?_eq_some_iff.1 hg2).1).trans hg2
    have HB3 := Lib.hid (HB2.out.trans (hb2.mono HB2.out.size))
    have HD3 := Lib.hid (HD2.out.below hb2)
    have f0 := below_cells hb2 e0 (Nat.le_refl _)
    have f1 := below_cells hb2 e1 (Nat.le_refl _)
    clear hb2 HB2 HD2 hg2 e0 e1
    go_wp2_with fail
    refine (dlen_any HD3.out).mono ?_
    rintro e w3 ⟨rfl, rfl⟩
    have hw1 : IntKind.i64.wrap ((S.cache.length : Int) - a) = (S.cache.length : Int) - a := IntWalk.i64_in _ (by omega)
    by_cases hs : (S.cache.length : Int) - a < (objSize p d : Nat)
    · have HV : Hid (headN S a = ⟨0, 0, 22⟩) := Lib.hid (by rw [HV0.out, if_pos (.inr hs)])
      go_wp2_with (refine wpList_store_row (cs := #[.int .i64 0, .int .i64 0]) aggOb hg3 rfl rfl (by simp [Value.oneCell']) rfl rfl rfl rfl ?_; intro w4 hg5 hgr4 hs4)
      refine bodyPost_ret (results_cell_row2 (p := 4) (u := 5) rfl _ _ _ _ _ _ _ rfl hg5 Try.underlying73 rfl (by kernel_rfl)) rfl ⟨by rw [HE.out _ HV.out]; rfl, ?_⟩
      exact HB3.out.grown hgr4 HB3.out.size (fun k e => by cases e; omega)
    · have HV : Hid (headN S a = ⟨p, d, 0⟩) := Lib.hid (by rw [HV0.out, if_neg (fun h => h.elim (fun h => h rfl) hs)])
      go_wp2_with (refine wpList_store_row (cs := #[.int .i64 p, .int .i64 d]) aggOb hg3 rfl rfl (by simp [Value.oneCell']) rfl rfl rfl rfl ?_; intro w4 hg5 hgr4 hs4)
      refine bodyPost_ret (results_cell_row2 (p := 4) (u := 5) rfl _ _ _ _ _ _ _ rfl hg5 Try.underlying73 rfl (by kernel_rfl)) rfl ⟨by rw [HV.out]; rfl, ?_⟩
      exact HB3.out.grown hgr4 HB3.out.size (fun k e => by cases e; omega)
  · have HV : Hid (headN S a = ⟨0, 0, 22⟩) := Lib.hid (by rw [HV0.out, if_pos (.inl hc)])
    have hc1 : (c != 0) = true := by simpa using hc
    clear hc
    go_wp2_with (refine wpList_store_row (cs := #[.int .i64 0, .int .i64 0]) aggOb hg2 rfl rfl (by simp [Value.oneCell']) rfl rfl rfl rfl ?_; intro w4 hg5 hgr4 hs4)
    refine bodyPost_ret (results_cell_row2 (p := 4) (u := 5) rfl _ _ _ _ _ _ _ rfl hg5 Try.underlying73 rfl (by kernel_rfl)) rfl ⟨by rw [HE.out _ HV.out]; rfl, ?_⟩
    exact HB2.out.grown hgr4 HB2.out.size (fun k e => by cases e; omega)

/-- Where a field lies; code 22, 7. -/
structure Place where
  at_ : Int
  code : Int
def placeN (S : Dev) (a i : Int) (data : Bool) : Place :=
  if (headN S a).code ≠ 0 then ⟨0, 22⟩ else
    if data = true then (if 0 ≤ i ∧ i < (headN S a).d then ⟨a + (1 + (headN S a).p + i), 0⟩ else ⟨0, 7⟩) else (if 0 ≤ i ∧ i < (headN S a).p then ⟨a + (1 + i), 0⟩ else ⟨0, 7⟩)

theorem head_small {S : Dev} (hw : S.cache.length ≤ 1000000) {a : Int} (h : (headN S a).code = 0) : (0 ≤ a ∧ a < 1000000) ∧ (0 ≤ (headN S a).p ∧ (headN S a).p < 64) ∧ (0 ≤ (headN S a).d ∧ (headN S a).d ≤ 16384) := by
  rcases headN_code S a with ⟨_, h1, h2, h3, _⟩ | h1
  · have := obj_small h3
    exact ⟨⟨h1, by omega⟩, this⟩
  · rw [h1] at h; simp at h

set_option maxHeartbeats 2000000 in
set_option maxRecDepth 20000 in
theorem ofield_any {w : World} {F : Foot} {S : Dev} (h : DevAt w F S) (a i : Int) (data : Bool) :
    Calls Try.prog 69 #[vdev F, .int .i64 a, .int .i64 i, .bool data] w fun e w' => e = .returned (.tuple #[.int .i64 (placeN S a i data).at_, .int .i64 (placeN S a i data).code]) ∧ Below w.heap.size w w' := by
  have HSm := Lib.hid (head_small h.small (a := a))
  have HPL : Hid (placeN S a i data = if (headN S a).code ≠ 0 then ⟨0, 22⟩ else if data = true then (if 0 ≤ i ∧ i < (headN S a).d then ⟨a + (1 + (headN S a).p + i), 0⟩ else ⟨0, 7⟩) else (if 0 ≤ i ∧ i < (headN S a).p then ⟨a + (1 + i), 0⟩ else ⟨0, 7⟩)) := Lib.hid rfl
  have HC := Lib.hid (headN_code S a)
  have HD := Lib.hid h
  clear h
  generalize placeN S a i data = pn at *
  go_enter Try.func69, Try.ntmps69
  go_wp2_with fail
  refine (ohead_any HD.out a).mono ?_
  rintro e w1 ⟨rfl, hb1⟩
  have hC22 : Hid ((headN S a).code = 0 ∨ (headN S a).code = 22) := Lib.hid (HC.out.elim (fun h => .inl h.1) (fun h => .inr (by rw [h])))
  generalize headN S a = x at *
  obtain ⟨p, d, c⟩ := x
  unfold Odec.val
  dsimp only at HSm HPL hC22 ⊢
  have hbx := below_alloc w1 (Obj.cells #[Value.int .i64 p, Value.int .i64 d] 73)
  have HB := Lib.hid (hb1.trans (hbx.mono hb1.size))
  have e0 : (w1.alloc (Obj.cells #[Value.int .i64 p, Value.int .i64 d] 73)).cell? ⟨w1.heap.size, 0, none⟩ = some (.int .i64 p) := cell_alloc_new _ _ _ 0 _ rfl
  have e1 : (w1.alloc (Obj.cells #[Value.int .i64 p, Value.int .i64 d] 73)).cell? ⟨w1.heap.size, 1, none⟩ = some (.int .i64 d) := cell_alloc_new _ _ _ 1 _ rfl
  clear hb1 hbx HC HD
  by_cases hc : c = 0
  · subst hc
    obtain ⟨ha, hp, hd⟩ := HSm.out rfl
    go_wp2_with fail
    refine (optr_any p d i _).mono ?_
    rintro e w2 ⟨rfl, hb2⟩
    generalize w1.alloc (Obj.cells #[Value.int .i64 p, Value.int .i64 d] 73) = w1' at *
    have HB2 := Lib.hid (HB.out.trans (hb2.mono HB.out.size))
    have f0 := below_cells hb2 e0 (Nat.le_refl _)
    have f1 := below_cells hb2 e1 (Nat.le_refl _)
    clear hb2 HB e0 e1
    cases data
    · by_cases hi : 0 ≤ i ∧ i < p
      · have hw1 : IntKind.i64.wrap (1 + i) = 1 + i := IntWalk.i64_in _ (by omega)
        have hw2 : IntKind.i64.wrap (a + (1 + i)) = a + (1 + i) := IntWalk.i64_in _ (by omega)
        have hd1 : decide (0 ≤ i ∧ i < p) = true := by simpa using hi
        have HV : Hid (pn = ⟨a + (1 + i), 0⟩) := Lib.hid (by rw [HPL.out, if_neg (by simp), if_neg (by simp), if_pos hi])
        rw [hd1, hw1]
        clear hi hd1
        go_wp2_with fail
        go_ret2
        exact ⟨by rw [HV.out]; rfl, HB2.out⟩
      · have hd1 : decide (0 ≤ i ∧ i < p) = false := by simpa using hi
        have HV : Hid (pn = ⟨0, 7⟩) := Lib.hid (by rw [HPL.out, if_neg (by simp), if_neg (by simp), if_neg hi])
        rw [hd1]
        clear hi hd1
        go_wp2_with fail
        go_ret2
        exact ⟨by rw [HV.out]; rfl, HB2.out⟩
    · generalize IntKind.i64.wrap (1 + i) = z1 at *
      generalize decide (0 ≤ i ∧ i < p) = bb at *
      go_wp2_with fail
      refine (odata_any p d i _).mono ?_
      rintro e w3 ⟨rfl, hb3⟩
      have HB3 := Lib.hid (HB2.out.trans (hb3.mono HB2.out.size))
      clear hb3 HB2 f0 f1
      have hw1 : IntKind.i64.wrap (1 + p) = 1 + p := IntWalk.i64_in _ (by omega)
      rw [hw1]
      by_cases hi : 0 ≤ i ∧ i < d
      · have hw2 : IntKind.i64.wrap (1 + p + i) = 1 + p + i := IntWalk.i64_in _ (by omega)
        have hw3 : IntKind.i64.wrap (a + (1 + p + i)) = a + (1 + p + i) := IntWalk.i64_in _ (by omega)
        have hd1 : decide (0 ≤ i ∧ i < d) = true := by simpa using hi
        have HV : Hid (pn = ⟨a + (1 + p + i), 0⟩) := Lib.hid (by rw [HPL.out]; simp [hi])
        rw [hd1, hw2]
        clear hi hd1
        go_wp2_with fail
        go_ret2
        exact ⟨by rw [HV.out]; rfl, HB3.out⟩
      · have hd1 : decide (0 ≤ i ∧ i < d) = false := by simpa using hi
        have HV : Hid (pn = ⟨0, 7⟩) := Lib.hid (by rw [HPL.out]; simp [hi])
        rw [hd1]
        clear hi hd1
        go_wp2_with fail
        go_ret2
        exact ⟨by rw [HV.out]; rfl, HB3.out⟩
  · have hc2 : c = 22 := hC22.out.elim (fun h => absurd h hc) id
    subst hc2
    have HV : Hid (pn = ⟨0, 22⟩) := Lib.hid (by rw [HPL.out, if_pos hc])
    clear hc
    go_wp2_with fail
    go_ret2
    exact ⟨by rw [HV.out]; rfl, HB.out⟩

/-- Words from one on become noughts, up to the first error. -/
def zeroTo (S : Dev) (a : Nat) : Nat → Done
  | 0 => ⟨S, 0⟩
  | k + 1 => if (zeroTo S a k).err ≠ 0 then zeroTo S a k else ⟨(zeroTo S a k).dev.store ((a + 1 + k : Nat) : Int) 0, (zeroTo S a k).dev.storeE ((a + 1 + k : Nat) : Int)⟩
/-- An object is begun. -/
def Dev.initN (S : Dev) (a : Nat) (n : Nat) (x : Nat) : Done :=
  if (zeroTo S a (n - 1)).err ≠ 0 then zeroTo S a (n - 1) else ⟨(zeroTo S a (n - 1)).dev.store (a : Int) x, (zeroTo S a (n - 1)).dev.storeE (a : Int)⟩
def Dev.init (S : Dev) (a p d : Int) : Done :=
  if objSize p d = 0 then ⟨S, 5⟩ else if a < 0 ∨ (S.cache.length : Int) ≤ a ∨ (S.cache.length : Int) - a < (objSize p d : Nat) then ⟨S, 2⟩ else S.initN a.toNat (objSize p d) (oencN a p d)

theorem zeroTo_stays (S : Dev) (a m : Nat) : ∀ k, m ≤ k → (zeroTo S a m).err ≠ 0 → zeroTo S a k = zeroTo S a m := by
  intro k
  induction k with
  | zero => intro h _; obtain rfl : m = 0 := by omega
            rfl
  | succ k ih =>
    intro hk hne
    by_cases e : m = k + 1
    · rw [e]
    · have := ih (by omega) hne
      rw [zeroTo, this, if_pos hne]
theorem zeroTo_ok {S : Dev} {N : Nat} (h : S.ok N) (a k : Nat) : (zeroTo S a k).dev.ok (N + k) := by
  induction k with
  | zero => exact h
  | succ k ih =>
    unfold zeroTo
    split
    · exact ih.mono (by omega)
    · exact Dev.store_okN ih _ _

set_option maxHeartbeats 2000000 in
set_option maxRecDepth 20000 in
theorem oinit_any {w : World} {F : Foot} {S : Dev} (h : DevAt w F S) {N : Nat} (hN : N ≤ 100000000000) (ho : S.ok N) (a p d : Int) :
    Calls Try.prog 30 #[vdev F, .int .i64 a, vob p d] w fun e w' => e = .returned (.int .i64 (S.init a p d).err) ∧ DevAt w' F (S.init a p d).dev ∧ Touch F.list w w' := by
  have hbx := below_alloc w (Obj.cells #[Value.int .i64 p, Value.int .i64 d] 73)
  have e0 : (w.alloc (Obj.cells #[Value.int .i64 p, Value.int .i64 d] 73)).cell? ⟨w.heap.size, 0, none⟩ = some (.int .i64 p) := cell_alloc_new _ _ _ 0 _ rfl
  have e1 : (w.alloc (Obj.cells #[Value.int .i64 p, Value.int .i64 d] 73)).cell? ⟨w.heap.size, 1, none⟩ = some (.int .i64 d) := cell_alloc_new _ _ _ 1 _ rfl
  have HI : Hid (S.init a p d = if objSize p d = 0 then ⟨S, 5⟩ else if a < 0 ∨ (S.cache.length : Int) ≤ a ∨ (S.cache.length : Int) - a < (objSize p d : Nat) then ⟨S, 2⟩ else S.initN a.toNat (objSize p d) (oencN a p d)) := Lib.hid rfl
  have HMem := Lib.hid h.mem
  have HD0 := Lib.hid (h.below hbx)
  have HT0 : Hid (Touch F.list w (w.alloc (Obj.cells #[Value.int .i64 p, Value.int .i64 d] 73))) := Lib.hid (Touch.ofBelow hbx)
  have hsm := h.small
  have hsz := objSize_le p d
  clear hbx h
  generalize S.init a p d = R at *
  go_enter Try.func30, Try.ntmps30
  go_wp2_with fail
  refine (osize_any p d _).mono ?_
  rintro e w1 ⟨rfl, hb1⟩
  generalize w.alloc (Obj.cells #[Value.int .i64 p, Value.int .i64 d] 73) = w0 at *
  have f0 := below_cells hb1 e0 (Nat.le_refl _)
  have f1 := below_cells hb1 e1 (Nat.le_refl _)
  have HD1 := Lib.hid (HD0.out.below hb1)
  have HT1 : Hid (Touch F.list w w1) := Lib.hid (HT0.out.trans (Touch.ofBelow hb1))
  obtain ⟨q, hq⟩ : ∃ q, q = w.heap.size := ⟨_, rfl⟩
  rw [← hq] at f0 f1 ⊢
  have hqF : q ∉ F.list := fun hm => by have := HMem.out q hm; omega
  clear hb1 HD0 HT0 e0 e1 hq
  have HEn : Hid (oencN a p d < 18446744073709551616) := Lib.hid (oencN_lt a p d)
  generalize hs : objSize p d = n at *
  have HS := Lib.hid hs
  clear hs
  by_cases hn0 : n = 0
  · subst hn0
    have HV : Hid (R = ⟨S, 5⟩) := Lib.hid (by rw [HI.out, if_pos rfl])
    go_wp2_with fail
    go_ret
    rw [HV.out]
    exact ⟨rfl, HD1.out, HT1.out⟩
  have hn0' : ((n : Int) == 0) = false := by simp; omega
  by_cases h0 : a < 0
  · have HV : Hid (R = ⟨S, 2⟩) := Lib.hid (by rw [HI.out, if_neg hn0, if_pos (.inl h0)])
    go_wp2_with fail
    go_ret
    rw [HV.out]
    exact ⟨rfl, HD1.out, HT1.out⟩
  by_cases h1 : (S.cache.length : Int) ≤ a
  · have HV : Hid (R = ⟨S, 2⟩) := Lib.hid (by rw [HI.out, if_neg hn0, if_pos (.inr (.inl h1))])
    go_wp2_with fail
    refine (dlen_any HD1.out).mono ?_
    rintro e w2 ⟨rfl, rfl⟩
    go_wp2_with fail
    go_ret
    rw [HV.out]
    exact ⟨rfl, HD1.out, HT1.out⟩
  obtain ⟨j, rfl⟩ := Int.eq_ofNat_of_zero_le (show 0 ≤ a by omega)
  have h0d : decide ((j : Int) < 0) = false := by simp
  have h1d : decide ((S.cache.length : Int) ≤ (j : Int)) = false := by simpa using h1
  have hw1 : IntKind.i64.wrap ((S.cache.length : Int) - (j : Int)) = (S.cache.length : Int) - (j : Int) := IntWalk.i64_in _ (by omega)
  have hjl : (j : Int) < (S.cache.length : Int) := by omega
  have h1n : decide (S.cache.length ≤ j) = false := by simp; omega
  clear h0 h1
  go_wp2_with fail
  refine (dlen_any HD1.out).mono ?_
  rintro e w2 ⟨rfl, rfl⟩
  go_wp2_with fail
  refine (dlen_any HD1.out).mono ?_
  rintro e w2 ⟨rfl, rfl⟩
  by_cases h2 : (S.cache.length : Int) - (j : Int) < (n : Int)
  · have HV : Hid (R = ⟨S, 2⟩) := Lib.hid (by rw [HI.out, if_neg hn0, if_pos (.inr (.inr h2))])
    go_wp2_with fail
    go_ret
    rw [HV.out]
    exact ⟨rfl, HD1.out, HT1.out⟩
  have HV : Hid (R = S.initN j n (oencN (j : Int) p d)) := Lib.hid (by rw [HI.out, if_neg hn0, if_neg (by omega)]; rfl)
  have h2d : decide ((S.cache.length : Int) - (j : Int) < (n : Int)) = false := by simpa using h2
  have hjn : (j : Int) + (n : Int) ≤ (S.cache.length : Int) := by omega
  clear HI h2
  go_wp2_with fail
  go_loopw [8] (fun i wr => ∃ k : Nat, k + 1 ≤ n ∧ i = .int .i64 ((k : Int) + 1) ∧ (zeroTo S j k).err = 0 ∧ DevAt wr F (zeroTo S j k).dev ∧ Touch F.list w wr ∧ wr.cell? ⟨q, 0, none⟩ = some (.int .i64 p) ∧ wr.cell? ⟨q, 1, none⟩ = some (.int .i64 d)) (fun i _ => n - (intOf i).toNat)
  case atStart => exact ⟨0, by omega, rfl, rfl, HD1.out, HT1.out, f0, f1⟩
  case round =>
    obtain ⟨k, hk, rfl, he, hd, ht, g0, g1⟩ := hrel
    have HOk := Lib.hid (zeroTo_ok ho j k)
    have HStay := Lib.hid (zeroTo_stays S j (k + 1) (n - 1))
    have HZ : Hid (zeroTo S j (k + 1) = if (zeroTo S j k).err ≠ 0 then zeroTo S j k else ⟨(zeroTo S j k).dev.store ((j + 1 + k : Nat) : Int) 0, (zeroTo S j k).dev.storeE ((j + 1 + k : Nat) : Int)⟩) := Lib.hid rfl
    have HIn : Hid (S.initN j n (oencN (j : Int) p d) = if (zeroTo S j (n - 1)).err ≠ 0 then zeroTo S j (n - 1) else ⟨(zeroTo S j (n - 1)).dev.store (j : Int) (oencN (j : Int) p d), (zeroTo S j (n - 1)).dev.storeE (j : Int)⟩) := Lib.hid rfl
    have HZK : Hid (k + 1 = n → zeroTo S j (n - 1) = zeroTo S j k) := Lib.hid (fun h => by rw [← h]; rfl)
    generalize zeroTo S j k = Z at *
    have HE := Lib.hid he
    have HD := Lib.hid hd
    have HT := Lib.hid ht
    clear he hd ht f0 f1
    by_cases hlt : (k : Int) + 1 < (n : Int)
    · have hw2 : IntKind.i64.wrap ((j : Int) + ((k : Int) + 1)) = (j : Int) + ((k : Int) + 1) := IntWalk.i64_in _ (by omega)
      go_wp2_with fail
      refine (store_any HD.out (N := N + k) (by omega) HOk.out _ 0 (by decide)).mono ?_
      rintro e w2 ⟨rfl, hd2, ht2⟩
      have hc : ((j + 1 + k : Nat) : Int) = (j : Int) + ((k : Int) + 1) := by omega
      have HZ2 : Hid (zeroTo S j (k + 1) = ⟨Z.dev.store ((j : Int) + ((k : Int) + 1)) 0, Z.dev.storeE ((j : Int) + ((k : Int) + 1))⟩) := Lib.hid (by rw [HZ.out, if_neg (by rw [HE.out]; simp), hc])
      clear hc
      generalize Z.dev.store ((j : Int) + ((k : Int) + 1)) 0 = S2 at *
      generalize Z.dev.storeE ((j : Int) + ((k : Int) + 1)) = E2 at *
      have i0 := cell_of_touch ht2 (p := ⟨q, 0, none⟩) hqF g0
      have i1 := cell_of_touch ht2 (p := ⟨q, 1, none⟩) hqF g1
      have HD2 := Lib.hid hd2
      have HT2 : Hid (Touch F.list w w2) := Lib.hid (HT.out.trans ht2)
      clear hd2 ht2 g0 g1 HT HD
      by_cases hz : E2 = 0
      · subst hz
        go_wp2_with fail
        exact ⟨⟨k + 1, by omega, vint (by omega), by rw [HZ2.out], by rw [HZ2.out]; exact HD2.out, HT2.out, i0, i1⟩, by simp [intOf]; omega⟩
      · have hz1 : (E2 != 0) = true := by simpa using hz
        have HR : Hid (R = ⟨S2, E2⟩) := Lib.hid (by
          have h1 := HStay.out (by omega) (by rw [HZ2.out]; exact hz)
          rw [HV.out, HIn.out, h1, HZ2.out, if_pos hz])
        clear hz
        go_wp2_with fail
        go_ret
        rw [HR.out]
        exact ⟨rfl, HD2.out, HT2.out⟩
    · have hkn : k + 1 = n := by omega
      have HR : Hid (R = ⟨Z.dev.store (j : Int) (oencN (j : Int) p d), Z.dev.storeE (j : Int)⟩) := Lib.hid (by rw [HV.out, HIn.out, HZK.out hkn, if_neg (by rw [HE.out]; simp)])
      clear hkn
      go_wp2_with fail
      refine (oencode_any _ p d _).mono ?_
      rintro e w2 ⟨rfl, hb2⟩
      have HD2 := Lib.hid (HD.out.below hb2)
      have HT2 : Hid (Touch F.list w w2) := Lib.hid (HT.out.trans (Touch.ofBelow hb2))
      clear hb2 HD HT
      go_wp2_with fail
      refine (store_any HD2.out (N := N + k) (by omega) HOk.out _ _ HEn.out).mono ?_
      rintro e w3 ⟨rfl, hd3, ht3⟩
      have HD3 := Lib.hid hd3
      have HT3 : Hid (Touch F.list w w3) := Lib.hid (HT2.out.trans ht3)
      clear hd3 ht3
      go_wp2_with fail
      go_ret
      rw [HR.out]
      exact ⟨rfl, HD3.out, HT3.out⟩

end Go.Proofs.Ytjgdplengfnkaaa
