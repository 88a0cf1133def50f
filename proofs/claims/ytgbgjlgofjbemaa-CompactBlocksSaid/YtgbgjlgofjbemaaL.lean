/- Objects: their sizes, classes, blocks; the references'. -/
import Derived.Test.YtgbgjlgofjbemaaK
namespace Go.Proofs.Ytgbgjlgofjbemaa
open Go.RowKit

/-- An object's words; 0: it may not be. -/
def objSize (p d : Int) : Nat := if p < 0 ∨ 63 < p ∨ d < 0 ∨ 16384 < d then 0 else (1 + p + d).toNat

theorem objSize_le (p d : Int) : objSize p d ≤ 16448 := by unfold objSize; split <;> omega

/-- What class.Size answers. -/
def csizeV (p d : Int) : Value := if objSize p d = 0 then .tuple #[.int .i64 0, .int .i64 5] else .tuple #[.int .i64 (objSize p d : Nat), .int .i64 0]

set_option maxHeartbeats 400000 in
theorem csize_any (p d : Int) (w : World) : Calls Try.prog 42 #[.int .i64 p, .int .i64 d] w fun e w' => e = .returned (csizeV p d) ∧ w = w' := by
  by_cases h : p < 0 ∨ 63 < p ∨ d < 0 ∨ 16384 < d
  · have HS : Hid (csizeV p d = .tuple #[.int .i64 0, .int .i64 5]) := Lib.hid (by unfold csizeV; rw [if_pos (by unfold objSize; rw [if_pos h])])
    rcases h with h | h | h | h
    · go_enter Try.func42, Try.ntmps42
      go_wp2_with fail
      go_ret2
      exact ⟨by rw [HS.out]; rfl, rfl⟩
    · have h' : ¬ p < 0 := by omega
      go_enter Try.func42, Try.ntmps42
      go_wp2_with fail
      go_ret2
      exact ⟨by rw [HS.out]; rfl, rfl⟩
    · by_cases h1 : p < 0
      · go_enter Try.func42, Try.ntmps42
        go_wp2_with fail
        go_ret2
        exact ⟨by rw [HS.out]; rfl, rfl⟩
      by_cases h2 : 63 < p
      · go_enter Try.func42, Try.ntmps42
        go_wp2_with fail
        go_ret2
        exact ⟨by rw [HS.out]; rfl, rfl⟩
      go_enter Try.func42, Try.ntmps42
      go_wp2_with fail
      go_ret2
      exact ⟨by rw [HS.out]; rfl, rfl⟩
    · have h3 : ¬ d < 0 := by omega
      by_cases h1 : p < 0
      · go_enter Try.func42, Try.ntmps42
        go_wp2_with fail
        go_ret2
        exact ⟨by rw [HS.out]; rfl, rfl⟩
      by_cases h2 : 63 < p
      · go_enter Try.func42, Try.ntmps42
        go_wp2_with fail
        go_ret2
        exact ⟨by rw [HS.out]; rfl, rfl⟩
      go_enter Try.func42, Try.ntmps42
      go_wp2_with fail
      go_ret2
      exact ⟨by rw [HS.out]; rfl, rfl⟩
  · have HS : Hid (csizeV p d = .tuple #[.int .i64 (1 + p + d), .int .i64 0]) := by
      have h1 : ((objSize p d : Nat) : Int) = 1 + p + d := by unfold objSize; rw [if_neg h]; omega
      apply Lib.hid
      unfold csizeV
      rw [if_neg (by omega), h1]
    have h1 : ¬ p < 0 := by omega
    have h2 : ¬ 63 < p := by omega
    have h3 : ¬ d < 0 := by omega
    have h4 : ¬ 16384 < d := by omega
    clear h
    go_enter Try.func42, Try.ntmps42
    go_wp2_with fail
    go_ret2
    exact ⟨by rw [HS.out]; rfl, rfl⟩

set_option maxHeartbeats 400000 in
theorem osize_any (p d : Int) (w : World) : Calls Try.prog 34 #[.agg #[.int .i64 p, .int .i64 d]] w fun e w' => e = .returned (.int .i64 (objSize p d : Nat)) ∧ Below w.heap.size w w' := by
  have hb : ∀ o, Below w.heap.size w (w.alloc o) := fun o => (Below.refl _ _).alloc (Nat.le_refl _) o
  have HB := Lib.hid hb
  clear hb
  go_enter Try.func34, Try.ntmps34
  go_wp2_with fail
  refine (csize_any _ _ _).mono ?_
  rintro e w1 ⟨rfl, rfl⟩
  by_cases h : objSize p d = 0
  · have HV : Hid (csizeV p d = .tuple #[.int .i64 0, .int .i64 5]) := Lib.hid (by unfold csizeV; rw [if_pos h])
    rw [HV.out]
    have H := Lib.hid h
    clear h
    go_wp2_with fail
    go_ret
    exact ⟨ret_int (by rw [H.out]; rfl), HB.out _⟩
  · have HV : Hid (csizeV p d = .tuple #[.int .i64 (objSize p d : Nat), .int .i64 0]) := Lib.hid (by unfold csizeV; rw [if_neg h])
    rw [HV.out]
    clear h
    go_wp2_with fail
    go_ret
    exact ⟨rfl, HB.out _⟩

set_option maxHeartbeats 400000 in
theorem osmall_any (p d : Int) (w : World) : Calls Try.prog 25 #[.agg #[.int .i64 p, .int .i64 d]] w fun e w' => e = .returned (ofV (objSize p d : Nat)) ∧ Below w.heap.size w w' := by
  have hb : ∀ o, Below w.heap.size w (w.alloc o) := fun o => (Below.refl _ _).alloc (Nat.le_refl _) o
  have HB := Lib.hid hb
  clear hb
  go_enter Try.func25, Try.ntmps25
  go_wp2_with fail
  refine (osize_any _ _ _).mono ?_
  rintro e w1 ⟨rfl, hb1⟩
  have hb1' := (HB.out _).trans (hb1.mono (HB.out _).size)
  go_wp2_with fail
  refine (cof_any _ _).mono ?_
  rintro e w2 ⟨rfl, hb2⟩
  have hb2' := hb1'.trans (hb2.mono hb1'.size)
  by_cases h : 1 ≤ ((objSize p d : Nat) : Int) ∧ ((objSize p d : Nat) : Int) ≤ 256
  · have HV : Hid (ofV (objSize p d : Nat) = .tuple #[.int .i64 (ofN (objSize p d : Nat) : Nat), .bool true]) := Lib.hid (by unfold ofV; rw [if_pos h])
    rw [HV.out]
    clear h hb1 hb2 hb1'
    go_wp2_with fail
    go_ret2
    exact ⟨by rw [HV.out]; rfl, hb2'⟩
  · have HV : Hid (ofV (objSize p d : Nat) = .tuple #[.int .i64 0, .bool false]) := Lib.hid (by unfold ofV; rw [if_neg h])
    rw [HV.out]
    clear h hb1 hb2 hb1'
    go_wp2_with fail
    go_ret2
    exact ⟨by rw [HV.out]; rfl, hb2'⟩

/-- Is it small? -/
def small (n : Nat) : Prop := 1 ≤ n ∧ n ≤ 256
instance (n : Nat) : Decidable (small n) := by unfold small; infer_instance

theorem ofV_small (n : Nat) (h : small n) : ofV (n : Int) = .tuple #[.int .i64 (ofN (n : Int) : Nat), .bool true] := by
  unfold ofV; rw [if_pos (by unfold small at h; omega)]
theorem ofV_large (n : Nat) (h : ¬ small n) : ofV (n : Int) = .tuple #[.int .i64 0, .bool false] := by
  unfold ofV; rw [if_neg (by unfold small at h; omega)]

/-- Blocks of an object of so many words. -/
def objBlocks (n : Nat) : Nat := if small n then 0 else (n + 511) / 512

set_option maxHeartbeats 400000 in
theorem oblocks_any (p d : Int) (w : World) : Calls Try.prog 26 #[.agg #[.int .i64 p, .int .i64 d]] w fun e w' => e = .returned (.int .i64 (objBlocks (objSize p d) : Nat)) ∧ Below w.heap.size w w' := by
  have hb : ∀ o, Below w.heap.size w (w.alloc o) := fun o => (Below.refl _ _).alloc (Nat.le_refl _) o
  have HB := Lib.hid hb
  clear hb
  have hle := objSize_le p d
  go_enter Try.func26, Try.ntmps26
  go_wp2_with fail
  refine (osmall_any _ _ _).mono ?_
  rintro e w1 ⟨rfl, hb1⟩
  have hb1' := (HB.out _).trans (hb1.mono (HB.out _).size)
  have hc0 : w1.cell? ⟨w.heap.size, 0, none⟩ = some (.int .i64 p) := by rw [hb1.cell (p := ⟨w.heap.size, 0, none⟩) (by simp)]; exact cell_alloc_new _ _ _ _ _ rfl
  have hc1 : w1.cell? ⟨w.heap.size, 1, none⟩ = some (.int .i64 d) := by rw [hb1.cell (p := ⟨w.heap.size, 1, none⟩) (by simp)]; exact cell_alloc_new _ _ _ _ _ rfl
  by_cases h : small (objSize p d)
  · rw [ofV_small _ h]
    have HO : Hid (objBlocks (objSize p d) = 0) := Lib.hid (by unfold objBlocks; rw [if_pos h])
    clear h hb1
    go_wp2_with fail
    go_ret
    exact ⟨ret_int (by rw [HO.out]; rfl), hb1'⟩
  · rw [ofV_large _ h]
    have HO : Hid (((objBlocks (objSize p d) : Nat) : Int) = upN (objSize p d : Nat) 512) := Lib.hid (by unfold objBlocks upN; rw [if_neg h]; split <;> omega)
    clear h hb1
    go_wp2_with fail
    refine (osize_any _ _ _).mono ?_
    rintro e w2 ⟨rfl, hb2⟩
    have hb2' := hb1'.trans (hb2.mono hb1'.size)
    go_wp2_with fail
    refine (up_any _ _ _ (by omega) (by omega)).mono ?_
    rintro e w3 ⟨rfl, rfl⟩
    rw [← HO.out]
    go_wp2_with fail
    go_ret
    exact ⟨rfl, hb2'⟩

/-- Cells of a block of a class. -/
def clsCells (k : Int) : Nat := 512 / clsWords k

set_option maxHeartbeats 400000 in
theorem ccells_any (k : Int) (w : World) : Calls Try.prog 27 #[.int .i64 k] w fun e w' => e = .returned (.int .i64 (clsCells k : Nat)) ∧ Below w.heap.size w w' := by
  by_cases h : 0 ≤ k ∧ k < 32
  · have hp := clsWords_pos k h
    have HC : Hid (((clsCells k : Nat) : Int) = 512 / ((clsWords k : Nat) : Int)) := Lib.hid (by simp [clsCells])
    have H := Lib.hid h
    clear h
    go_enter Try.func27, Try.ntmps27
    go_wp2_with fail
    refine (cright_any _ _).mono ?_
    rintro e w1 ⟨rfl, rfl⟩
    rw [decide_eq_true H.out]
    go_wp2_with fail
    refine (cwords_any _ _).mono ?_
    rintro e w1 ⟨rfl, hb⟩
    have hle := clsWords_le k
    generalize clsWords k = x at *
    have hx0 : ((x : Int) == 0) = false := by rw [beq_eq_false_iff_ne]; omega
    go_wp2_with fail
    go_ret
    exact ⟨ret_int (by rw [HC.out]), hb⟩
  · have HC : Hid (clsCells k = 0) := Lib.hid (by unfold clsCells clsWords; rw [if_neg h])
    have H := Lib.hid h
    clear h
    go_enter Try.func27, Try.ntmps27
    go_wp2_with fail
    refine (cright_any _ _).mono ?_
    rintro e w1 ⟨rfl, rfl⟩
    rw [decide_eq_false H.out]
    go_wp2_with fail
    go_ret
    exact ⟨ret_int (by rw [HC.out]; rfl), Below.refl _ _⟩

theorem el_int : Elem Try.prog 32 3 (.int .i64 0) 1 8 := Elem.mk' Try.underlying32 (by kernel_rfl) rfl (by decide)

set_option maxHeartbeats 400000 in
theorem rsizes_any (w : World) : Calls Try.prog 44 #[] w fun e w' => e = .returned (.slice (some ⟨w.heap.size, 0, none⟩) 32 32) ∧ w'.heap[w.heap.size]? = some (.cells sizesV 3 (0, 0)) ∧ Below w.heap.size w w' := by
  go_enter Try.func44, Try.ntmps44
  go_wp2_with fail
  go_ret
  exact ⟨rfl, heap_alloc_new w _, below_alloc w _⟩

theorem sizesV_at (k : Nat) (h : k < 32) : sizesV[k]? = some (Value.int .i64 (sizesL.getD k 0 : Nat)) := by
  have hj : k < sizesL.length := h
  simp only [sizesV, List.getElem?_toArray, List.getElem?_map, List.getElem?_eq_getElem hj, Option.map_some, List.getD_eq_getElem?_getD, Option.getD_some]

set_option maxHeartbeats 400000 in
theorem rcwords_any (k : Int) (w : World) : Calls Try.prog 39 #[.int .i64 k] w fun e w' => e = .returned (.int .i64 (clsWords k : Nat)) ∧ Below w.heap.size w w' := by
  by_cases h1 : k < 0
  · have HW : Hid (clsWords k = 0) := Lib.hid (by unfold clsWords; rw [if_neg (by omega)])
    go_enter Try.func39, Try.ntmps39
    go_wp2_with fail
    go_ret
    exact ⟨ret_int (by rw [HW.out]; rfl), Below.refl _ _⟩
  by_cases h2 : 32 ≤ k
  · have HW : Hid (clsWords k = 0) := Lib.hid (by unfold clsWords; rw [if_neg (by omega)])
    go_enter Try.func39, Try.ntmps39
    go_wp2_with fail
    go_ret
    exact ⟨ret_int (by rw [HW.out]; rfl), Below.refl _ _⟩
  obtain ⟨j, rfl⟩ := Int.eq_ofNat_of_zero_le (show 0 ≤ k by omega)
  have HW := Lib.hid (clsWords_nat j (by omega))
  have HV := Lib.hid (sizesV_at j (by omega))
  generalize sizesL.getD j 0 = x at *
  go_enter Try.func39, Try.ntmps39
  go_wp2_with fail
  refine (rsizes_any _).mono ?_
  rintro e w1 ⟨rfl, hg, hb⟩
  have hc : w1.cell? ⟨w.heap.size, j, none⟩ = some (.int .i64 (x : Nat)) := (cell_of_row _ _ _ _ _ _ hg).trans HV.out
  clear hg
  go_wp2_with fail
  go_ret
  exact ⟨ret_int (by rw [HW.out]), hb⟩

/-- What the reference's Of answers. -/
def rofN (n : Int) : Int := if 1 ≤ n ∧ n ≤ 256 then (ofN n : Nat) else -1

set_option maxHeartbeats 400000 in
theorem rof_any (n : Int) (w : World) : Calls Try.prog 37 #[.int .i64 n] w fun e w' => e = .returned (.int .i64 (rofN n)) ∧ Below w.heap.size w w' := by
  by_cases h0 : 0 < n
  · go_enter Try.func37, Try.ntmps37
    go_wp2_with fail
    go_loopw [3] (fun i wr => ∃ k : Nat, k ≤ 32 ∧ i = .int .i64 k ∧ Hid (∀ t, t < k → ((sizesL.getD t 0 : Nat) : Int) < n) ∧ Below w.heap.size w wr) (fun i _ => 32 - (intOf i).toNat)
    case atStart => exact ⟨0, by omega, rfl, Lib.hid (fun t ht => by omega), Below.refl _ _⟩
    case round =>
      obtain ⟨k, hk, rfl, hlo, hb⟩ := hrel
      by_cases hlt : k < 32
      · have HV := Lib.hid (sizesV_at k hlt)
        have HO := Lib.hid (ofN_eq n k hlt)
        have HM := Lib.hid (sizes_mono k 31 (by omega) (by omega))
        obtain ⟨x, hx⟩ : ∃ x, x = sizesL.getD k 0 := ⟨_, rfl⟩
        rw [← hx] at HV HO HM
        have HX := Lib.hid hx
        clear hx
        go_wp2_with fail
        refine (rsizes_any _).mono ?_
        rintro e w1 ⟨rfl, hg, hb1⟩
        have hc : w1.cell? ⟨wr.heap.size, k, none⟩ = some (.int .i64 (x : Nat)) := (cell_of_row _ _ _ _ _ _ hg).trans HV.out
        have hb2 := hb.trans (hb1.mono hb.size)
        clear hg hb1
        by_cases hle : n ≤ (x : Int)
        · have HR : Hid (rofN n = (k : Int)) := by
            have e : sizesL.getD 31 0 = 256 := rfl
            have h31 := HM.out
            rw [e] at h31
            apply Lib.hid
            unfold rofN
            rw [if_pos (by omega), HO.out hle hlo.out]
          go_wp2_with fail
          go_ret
          exact ⟨ret_int HR.out.symm, hb2⟩
        · go_wp2_with fail
          refine ⟨⟨k + 1, by omega, vint (by omega), Lib.hid (fun t ht => ?_), hb2⟩, by simp [intOf]; omega⟩
          by_cases e : t = k
          · subst e; rw [← HX.out]; omega
          · exact hlo.out t (by omega)
      · have HR : Hid (rofN n = -1) := by
          have := hlo.out 31 (by omega)
          have e : sizesL.getD 31 0 = 256 := rfl
          rw [e] at this
          apply Lib.hid
          unfold rofN
          rw [if_neg (by omega)]
        go_wp2_with fail
        go_ret
        exact ⟨ret_int HR.out.symm, hb⟩
  · have HR : Hid (rofN n = -1) := Lib.hid (by unfold rofN; rw [if_neg (by omega)])
    have h0' : decide (0 < n) = false := by simp; omega
    go_enter Try.func37, Try.ntmps37
    go_wp2_with fail
    refine wp_loop_rounds 1 ?_
    rw [rounds_succ]
    go_wp2_with fail
    go_ret
    exact ⟨ret_int HR.out.symm, Below.refl _ _⟩

end Go.Proofs.Ytgbgjlgofjbemaa
