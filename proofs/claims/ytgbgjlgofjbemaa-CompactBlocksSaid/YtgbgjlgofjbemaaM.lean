/- The references of layers 4, 6, 8: Need, Cells, Size, Class, Blocks. -/
import Derived.Test.YtgbgjlgofjbemaaL
namespace Go.Proofs.Ytgbgjlgofjbemaa
open Go.RowKit

theorem cells_step (x n : Nat) (hx : 2 ≤ x) : (n + 1) * x ≤ 512 ↔ n < 512 / x := by
  rw [← Nat.succ_le_iff, Nat.le_div_iff_mul_le (by omega)]

set_option maxHeartbeats 400000 in
theorem rccells_any (k : Int) (w : World) : Calls Try.prog 30 #[.int .i64 k] w fun e w' => e = .returned (.int .i64 (clsCells k : Nat)) ∧ Below w.heap.size w w' := by
  have hle := clsWords_le k
  have HC : Hid (clsCells k = 512 / clsWords k) := Lib.hid rfl
  have HP : Hid (clsWords k = 0 ∨ 2 ≤ clsWords k) := by
    apply Lib.hid
    by_cases h : 0 ≤ k ∧ k < 32
    · exact .inr (clsWords_pos k h)
    · left; unfold clsWords; rw [if_neg h]
  have CW := Lib.hid (rcwords_any k)
  generalize clsWords k = x at *
  by_cases h0 : x = 0
  · subst h0
    go_enter Try.func30, Try.ntmps30
    go_wp2_with fail
    refine wp_loop_rounds 1 ?_
    rw [rounds_succ]
    go_wp2_with fail
    refine (CW.out _).mono ?_
    rintro e w1 ⟨rfl, hb⟩
    go_wp2_with fail
    go_ret
    exact ⟨ret_int (by rw [HC.out]; rfl), hb⟩
  · have hx2 : 2 ≤ x := by rcases HP.out with h | h <;> omega
    clear h0
    go_enter Try.func30, Try.ntmps30
    go_wp2_with fail
    go_loopw [3] (fun i wr => ∃ n : Nat, n ≤ 512 ∧ i = .int .i64 n ∧ Hid (n ≤ 512 / x) ∧ Below w.heap.size w wr) (fun i _ => 512 - (intOf i).toNat)
    case atStart => exact ⟨0, by omega, rfl, Lib.hid (Nat.zero_le _), Below.refl _ _⟩
    case round =>
      obtain ⟨n, hn, rfl, hd, hb⟩ := hrel
      have HS := Lib.hid (cells_step x n hx2)
      have HD : Hid (512 / x ≤ 256) := Lib.hid (by exact Nat.div_le_div_left (a := 512) hx2 (by omega))
      have hm0 : 0 ≤ ((n : Int) + 1) * (x : Int) := Int.mul_nonneg (by omega) (by omega)
      have hm1 : ((n : Int) + 1) * (x : Int) ≤ 513 * 256 := Int.mul_le_mul (by omega) (by omega) (by omega) (by omega)
      have he : ((n : Int) + 1) * (x : Int) = (((n + 1) * x : Nat) : Int) := by simp
      have HE := Lib.hid he
      clear he
      go_wp2_with fail
      refine (CW.out _).mono ?_
      rintro e w1 ⟨rfl, hb1⟩
      have hb1' := hb.trans (hb1.mono hb.size)
      go_wp2_with fail
      refine (CW.out _).mono ?_
      rintro e w2 ⟨rfl, hb2⟩
      have hb2' := hb1'.trans (hb2.mono hb1'.size)
      clear hb1 hb2
      by_cases hc : ((n : Int) + 1) * (x : Int) ≤ 512
      · have hd' : decide (((n : Int) + 1) * (x : Int) ≤ 512) = true := by simp [hc]
        have hlt : n < 512 / x := HS.out.1 (by have := HE.out; omega)
        have hn2 : n + 1 ≤ 512 := by have := HD.out; omega
        have HL := Lib.hid hlt
        clear hlt
        go_wp2_with fail
        exact ⟨⟨n + 1, hn2, vint (by omega), Lib.hid HL.out, hb2'⟩, by simp [intOf]; omega⟩
      · have hd' : decide (((n : Int) + 1) * (x : Int) ≤ 512) = false := by simp [hc]
        have HL : Hid (n = 512 / x) := Lib.hid (by have h1 := hd.out; have h2 := HS.out; have h3 := HE.out; omega)
        go_wp2_with fail
        go_ret
        exact ⟨ret_int (by rw [HC.out, ← HL.out]), hb2'⟩

set_option maxHeartbeats 400000 in
theorem rosize_any (p d : Int) (w : World) : Calls Try.prog 38 #[.agg #[.int .i64 p, .int .i64 d]] w fun e w' => e = .returned (.int .i64 (objSize p d : Nat)) ∧ Below w.heap.size w w' := by
  have HB := Lib.hid (below_alloc w)
  by_cases h1 : p < 0
  · have HS : Hid (objSize p d = 0) := Lib.hid (by unfold objSize; rw [if_pos (by omega)])
    go_enter Try.func38, Try.ntmps38
    go_wp2_with fail
    go_ret
    exact ⟨ret_int (by rw [HS.out]; rfl), HB.out _⟩
  by_cases h2 : 63 < p
  · have HS : Hid (objSize p d = 0) := Lib.hid (by unfold objSize; rw [if_pos (by omega)])
    go_enter Try.func38, Try.ntmps38
    go_wp2_with fail
    go_ret
    exact ⟨ret_int (by rw [HS.out]; rfl), HB.out _⟩
  by_cases h3 : d < 0
  · have HS : Hid (objSize p d = 0) := Lib.hid (by unfold objSize; rw [if_pos (by omega)])
    go_enter Try.func38, Try.ntmps38
    go_wp2_with fail
    go_ret
    exact ⟨ret_int (by rw [HS.out]; rfl), HB.out _⟩
  by_cases h4 : 16384 < d
  · have HS : Hid (objSize p d = 0) := Lib.hid (by unfold objSize; rw [if_pos (by omega)])
    go_enter Try.func38, Try.ntmps38
    go_wp2_with fail
    go_ret
    exact ⟨ret_int (by rw [HS.out]; rfl), HB.out _⟩
  have HS : Hid (((objSize p d : Nat) : Int) = 1 + p + d) := Lib.hid (by unfold objSize; rw [if_neg (by omega)]; omega)
  go_enter Try.func38, Try.ntmps38
  go_wp2_with fail
  go_ret
  exact ⟨ret_int HS.out.symm, HB.out _⟩

set_option maxHeartbeats 400000 in
theorem rclass_any (p d : Int) (w : World) : Calls Try.prog 29 #[.agg #[.int .i64 p, .int .i64 d]] w fun e w' => e = .returned (.int .i64 (rofN (objSize p d : Nat))) ∧ Below w.heap.size w w' := by
  have HB := Lib.hid (below_alloc w)
  go_enter Try.func29, Try.ntmps29
  go_wp2_with fail
  refine (rosize_any _ _ _).mono ?_
  rintro e w1 ⟨rfl, hb1⟩
  have hb1' := (HB.out _).trans (hb1.mono (HB.out _).size)
  go_wp2_with fail
  refine (rof_any _ _).mono ?_
  rintro e w2 ⟨rfl, hb2⟩
  have hb2' := hb1'.trans (hb2.mono hb1'.size)
  go_wp2_with fail
  go_ret
  exact ⟨rfl, hb2'⟩

set_option maxHeartbeats 400000 in
theorem need_any (n : Int) (w : World) (hn : n ≤ 1000000000) : Calls Try.prog 40 #[.int .i64 n] w fun e w' => e = .returned (.int .i64 (upN n 512)) ∧ w = w' := by
  by_cases h : n < 1
  · have HU : Hid (upN n 512 = 0) := Lib.hid (by unfold upN; rw [if_pos (by omega)])
    go_enter Try.func40, Try.ntmps40
    go_wp2_with fail
    go_ret
    exact ⟨ret_int HU.out.symm, rfl⟩
  · have HU := Lib.hid (up_ref n 512 (by omega) (by omega))
    by_cases c : n % 512 = 0
    · have c1 : (n % 512 != 0) = false := by simp [c]
      have C := Lib.hid c
      clear c
      go_enter Try.func40, Try.ntmps40
      go_wp2_with fail
      go_ret
      exact ⟨ret_int (by rw [HU.out, if_pos C.out]), rfl⟩
    · have c1 : (n % 512 != 0) = true := by simp [c]
      have C := Lib.hid c
      clear c
      go_enter Try.func40, Try.ntmps40
      go_wp2_with fail
      go_ret
      exact ⟨ret_int (by rw [HU.out, if_neg C.out]), rfl⟩

theorem rofN_small (n : Nat) (h : small n) : rofN (n : Int) = (ofN (n : Int) : Nat) := by unfold rofN; rw [if_pos (by unfold small at h; omega)]
theorem rofN_large (n : Nat) (h : ¬ small n) : rofN (n : Int) = -1 := by unfold rofN; rw [if_neg (by unfold small at h; omega)]

set_option maxHeartbeats 400000 in
theorem roblocks_any (p d : Int) (w : World) : Calls Try.prog 31 #[.agg #[.int .i64 p, .int .i64 d]] w fun e w' => e = .returned (.int .i64 (objBlocks (objSize p d) : Nat)) ∧ Below w.heap.size w w' := by
  have HB := Lib.hid (below_alloc w)
  have hle := objSize_le p d
  go_enter Try.func31, Try.ntmps31
  go_wp2_with fail
  refine (rclass_any _ _ _).mono ?_
  rintro e w1 ⟨rfl, hb1⟩
  have hb1' := (HB.out _).trans (hb1.mono (HB.out _).size)
  have hc0 : w1.cell? ⟨w.heap.size, 0, none⟩ = some (.int .i64 p) := by rw [hb1.cell (p := ⟨w.heap.size, 0, none⟩) (by simp)]; exact cell_alloc_new _ _ _ _ _ rfl
  have hc1 : w1.cell? ⟨w.heap.size, 1, none⟩ = some (.int .i64 d) := by rw [hb1.cell (p := ⟨w.heap.size, 1, none⟩) (by simp)]; exact cell_alloc_new _ _ _ _ _ rfl
  by_cases h : small (objSize p d)
  · rw [rofN_small _ h]
    have HO : Hid (objBlocks (objSize p d) = 0) := Lib.hid (by unfold objBlocks; rw [if_pos h])
    clear h hb1
    go_wp2_with fail
    go_ret
    exact ⟨ret_int (by rw [HO.out]; rfl), hb1'⟩
  · rw [rofN_large _ h]
    have HO : Hid (((objBlocks (objSize p d) : Nat) : Int) = upN (objSize p d : Nat) 512) := Lib.hid (by unfold objBlocks upN; rw [if_neg h]; split <;> omega)
    clear h hb1
    go_wp2_with fail
    refine (rosize_any _ _ _).mono ?_
    rintro e w2 ⟨rfl, hb2⟩
    have hb2' := hb1'.trans (hb2.mono hb1'.size)
    go_wp2_with fail
    refine (need_any _ _ (by omega)).mono ?_
    rintro e w3 ⟨rfl, rfl⟩
    rw [← HO.out]
    go_wp2_with fail
    go_ret
    exact ⟨rfl, hb2'⟩

end Go.Proofs.Ytgbgjlgofjbemaa
