/- The classes: their sizes, and which class so many words need. -/
import Derived.Test.YtgbgjlgofjbemaaA
namespace Go.Proofs.Ytgbgjlgofjbemaa
open Go.RowKit

def sizesL : List Nat := [2, 3, 4, 5, 6, 7, 8, 10, 12, 14, 16, 18, 20, 24, 28, 32, 36, 40, 46, 51, 56, 64, 73, 85, 92, 102, 113, 128, 146, 170, 204, 256]

/-- Words of a class's cell; 0: there is no such class. -/
def clsWords (k : Int) : Nat := if 0 ≤ k ∧ k < 32 then sizesL.getD k.toNat 0 else 0

def zeros32 : Array Value := (List.replicate 32 (Value.int .i64 0)).toArray
theorem agg32 : Agg Try.prog 51 zeros32 := ⟨⟨_, Try.underlying51, rfl⟩, by kernel_rfl⟩

def sizesV : Array Value := (sizesL.map (fun n : Nat => Value.int .i64 (n : Int))).toArray

theorem sizesV_one : sizesV.all (·.oneCell') = true := by simp [sizesV, sizesL, Value.oneCell']

set_option maxHeartbeats 400000 in
theorem sizes_any (w : World) : Calls Try.prog 43 #[] w fun e w' => e = .returned (.agg sizesV) ∧ Below w.heap.size w w' := by
  go_enter Try.func43, Try.ntmps43
  go_wp2_with (first
    | (refine wpList_alloc_agg agg32 rfl rfl ?_; intro w1 hg1 hgr1 hs1)
    | (refine wpList_store_row (cs := sizesV) agg32 hg1 rfl rfl sizesV_one rfl rfl rfl rfl ?_; intro w2 hg2 hgr2 hs2))
  refine bodyPost_ret (v := .agg sizesV) ?_ rfl ⟨rfl, ?_⟩
  · exact results_cell_row rfl _ _ _ _ _ _ _ rfl hg2 Try.underlying51 rfl (by kernel_rfl)
  · exact (below_grown hgr1 (Nat.le_refl _)).grown hgr2 (by omega) (fun k e => by cases e; omega)

set_option maxHeartbeats 400000 in
theorem cright_any (k : Int) (w : World) : Calls Try.prog 35 #[.int .i64 k] w fun e w' => e = .returned (.bool (decide (0 ≤ k ∧ k < 32))) ∧ w = w' := by
  by_cases h1 : 0 ≤ k
  · by_cases h2 : k < 32
    · go_enter Try.func35, Try.ntmps35
      go_wp2
      go_ret
      exact ⟨ret_bool (by simp [h1, h2]), rfl⟩
    · go_enter Try.func35, Try.ntmps35
      go_wp2
      go_ret
      exact ⟨ret_bool (by simp [h1, h2]), rfl⟩
  · go_enter Try.func35, Try.ntmps35
    go_wp2
    go_ret
    exact ⟨ret_bool (by simp; omega), rfl⟩

set_option maxHeartbeats 400000 in
theorem cwords_any (k : Int) (w : World) : Calls Try.prog 36 #[.int .i64 k] w fun e w' => e = .returned (.int .i64 (clsWords k : Nat)) ∧ Below w.heap.size w w' := by
  by_cases h : 0 ≤ k ∧ k < 32
  · have HW : Hid (clsWords k = sizesL.getD k.toNat 0) := Lib.hid (by unfold clsWords; rw [if_pos h])
    have H := Lib.hid h
    obtain ⟨h1, h2⟩ := h
    go_enter Try.func36, Try.ntmps36
    go_wp2_with fail
    refine (cright_any _ _).mono ?_
    rintro e w1 ⟨rfl, rfl⟩
    rw [decide_eq_true H.out]
    go_wp2_with fail
    refine (sizes_any _).mono ?_
    rintro e w1 ⟨rfl, hb⟩
    have hv : sizesV[k.toNat]? = some (Value.int .i64 (sizesL.getD k.toNat 0 : Nat)) := by
      obtain ⟨j, rfl⟩ := Int.eq_ofNat_of_zero_le h1
      have hj : j < sizesL.length := by show j < 32; omega
      simp only [Int.toNat_natCast, sizesV, List.getElem?_toArray, List.getElem?_map, List.getElem?_eq_getElem hj, Option.map_some, List.getD_eq_getElem?_getD, Option.getD_some]
    have HV := Lib.hid hv
    clear hv
    go_wp2_with (refine wpList_index_arr k.toNat Try.underlying51 Try.underlying3 rfl (by kernel_rfl) (by omega) (by omega) HV.out rfl rfl rfl rfl ?_)
    go_ret
    exact ⟨ret_int (by rw [HW.out, List.getD_eq_getElem?_getD]), hb⟩
  · have HW : Hid (clsWords k = 0) := Lib.hid (by unfold clsWords; rw [if_neg h])
    have H := Lib.hid h
    clear h
    go_enter Try.func36, Try.ntmps36
    go_wp2_with fail
    refine (cright_any _ _).mono ?_
    rintro e w1 ⟨rfl, rfl⟩
    rw [decide_eq_false H.out]
    go_wp2_with fail
    go_ret
    exact ⟨ret_int (by rw [HW.out]; rfl), Below.refl _ _⟩

/-- The least class whose cells have so many words. -/
def ofN (n : Int) : Nat := sizesL.findIdx (fun s : Nat => decide (n ≤ (s : Int)))

theorem ofN_eq (n : Int) (k : Nat) (hk : k < 32) (h1 : n ≤ (sizesL.getD k 0 : Nat)) (h2 : ∀ j, j < k → ((sizesL.getD j 0 : Nat) : Int) < n) : ofN n = k := by
  have hl : k < sizesL.length := hk
  unfold ofN
  rw [List.findIdx_eq hl]
  have g : ∀ j (hj : j < sizesL.length), sizesL.getD j 0 = sizesL[j] := fun j hj => by simp [hj]
  refine ⟨by rw [← g k hl]; simpa using h1, fun j hj => ?_⟩
  rw [← g j (by omega)]
  have := h2 j hj
  simp only [decide_eq_false_iff_not]
  omega

theorem sizes_mono : ∀ i j : Nat, i ≤ j → j < 32 → sizesL.getD i 0 ≤ sizesL.getD j 0 := by
  have h : ∀ j : Fin 32, ∀ i : Fin 32, i ≤ j → sizesL.getD i.val 0 ≤ sizesL.getD j.val 0 := by decide
  intro i j hij hj
  exact h ⟨j, hj⟩ ⟨i, by omega⟩ hij

theorem clsWords_nat (k : Nat) (h : k < 32) : clsWords (k : Int) = sizesL.getD k 0 := by
  unfold clsWords; rw [if_pos (by omega)]; rfl

theorem clsWords_le (k : Int) : clsWords k ≤ 256 := by
  unfold clsWords
  split
  · have h := sizes_mono k.toNat 31 (by omega) (by omega)
    have e : sizesL.getD 31 0 = 256 := rfl
    rw [e] at h
    exact h
  · omega

theorem clsWords_pos (k : Int) (h : 0 ≤ k ∧ k < 32) : 2 ≤ clsWords k := by
  unfold clsWords
  rw [if_pos h]
  have h := sizes_mono 0 k.toNat (by omega) (by omega)
  have e : sizesL.getD 0 0 = 2 := rfl
  rw [e] at h
  exact h

set_option maxHeartbeats 400000 in
theorem cmost_any (w : World) : Calls Try.prog 41 #[] w fun e w' => e = .returned (.int .i64 256) ∧ Below w.heap.size w w' := by
  go_enter Try.func41, Try.ntmps41
  go_wp2_with fail
  refine (cwords_any _ _).mono ?_
  rintro e w1 ⟨rfl, hb⟩
  have e : ((clsWords 31 : Nat) : Int) = 256 := by decide
  rw [e]
  go_wp2_with fail
  go_ret
  exact ⟨rfl, hb⟩

/-- What class.Of answers. -/
def ofV (n : Int) : Value := if 1 ≤ n ∧ n ≤ 256 then .tuple #[.int .i64 (ofN n : Nat), .bool true] else .tuple #[.int .i64 0, .bool false]

set_option maxHeartbeats 400000 in
theorem cof_any (n : Int) (w : World) : Calls Try.prog 33 #[.int .i64 n] w fun e w' => e = .returned (ofV n) ∧ Below w.heap.size w w' := by
  by_cases h1 : n < 1
  · have HV : Hid (ofV n = .tuple #[.int .i64 0, .bool false]) := Lib.hid (by unfold ofV; rw [if_neg (by omega)])
    go_enter Try.func33, Try.ntmps33
    go_wp2_with fail
    go_ret2
    exact ⟨by rw [HV.out]; rfl, Below.refl _ _⟩
  by_cases h2 : 256 < n
  · have HV : Hid (ofV n = .tuple #[.int .i64 0, .bool false]) := Lib.hid (by unfold ofV; rw [if_neg (by omega)])
    go_enter Try.func33, Try.ntmps33
    go_wp2_with fail
    refine (cmost_any _).mono ?_
    rintro e w1 ⟨rfl, hb⟩
    go_wp2_with fail
    go_ret2
    exact ⟨by rw [HV.out]; rfl, hb⟩
  have HV : Hid (ofV n = .tuple #[.int .i64 (ofN n : Nat), .bool true]) := Lib.hid (by unfold ofV; rw [if_pos (by omega)])
  go_enter Try.func33, Try.ntmps33
  go_wp2_with fail
  refine (cmost_any _).mono ?_
  rintro e w1 ⟨rfl, hb⟩
  go_wp2_with fail
  go_loopw [4, 5] (fun lo hi wr => ∃ i j : Nat, i ≤ j ∧ j ≤ 31 ∧ lo = .int .i64 i ∧ hi = .int .i64 j ∧ Hid (∀ t, t < i → ((sizesL.getD t 0 : Nat) : Int) < n) ∧ Hid (n ≤ (sizesL.getD j 0 : Nat)) ∧ Below w.heap.size w wr)
    (fun lo hi _ => (intOf hi).toNat - (intOf lo).toNat)
  case atStart => exact ⟨0, 31, by omega, by omega, rfl, rfl, Lib.hid (fun t ht => by omega), Lib.hid (by show n ≤ 256; omega), hb⟩
  case round =>
    obtain ⟨i, j, hij, hj, rfl, rfl, hlo, hhi, hb⟩ := hrel
    by_cases hlt : i < j
    · have hm : (i + j) / 2 < 32 := by omega
      have HC := Lib.hid (clsWords_nat ((i + j) / 2) hm)
      go_wp2_with fail
      refine (cwords_any _ _).mono ?_
      rintro e w2 ⟨rfl, hb2⟩
      have hb3 := hb.trans (hb2.mono hb.size)
      rw [show ((i : Int) + (j : Int)) / 2 = (((i + j) / 2 : Nat) : Int) by omega] at *
      rw [HC.out]
      obtain ⟨x, hx⟩ : ∃ x, x = sizesL.getD ((i + j) / 2) 0 := ⟨_, rfl⟩
      rw [← hx]
      have HX := Lib.hid hx
      clear hx
      by_cases hc : n ≤ (x : Int)
      · go_wp2_with fail
        refine ⟨⟨i, (i + j) / 2, by omega, by omega, rfl, rfl, hlo, Lib.hid (by rw [← HX.out]; exact hc), hb3⟩, by simp [intOf]; omega⟩
      · go_wp2_with fail
        refine ⟨⟨(i + j) / 2 + 1, j, by omega, by omega, vint (by omega), rfl, Lib.hid (fun t ht => ?_), hhi, hb3⟩, by simp [intOf]; omega⟩
        have h1 := sizes_mono t ((i + j) / 2) (by omega) hm
        rw [← HX.out] at h1
        omega
    · obtain rfl : i = j := by omega
      have HO := Lib.hid (ofN_eq n i (by omega) hhi.out hlo.out)
      go_wp2_with fail
      go_ret2
      exact ⟨by rw [HV.out, HO.out]; rfl, hb⟩

end Go.Proofs.Ytgbgjlgofjbemaa
