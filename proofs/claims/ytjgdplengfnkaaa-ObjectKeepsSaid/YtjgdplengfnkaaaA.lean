/- Contracts of the small leaves: bits.Up and the reference's Up; what a slice of numbers reads as. -/
import Derived.Test.YtjgdplengfnkaaaRow
namespace Go.Proofs.Ytjgdplengfnkaaa
open Go.RowKit
set_option linter.unusedVariables false

/-- How many pieces of a size so many need. -/
def upN (n size : Int) : Int := if n ≤ 0 ∨ size ≤ 0 then 0 else (n - 1) / size + 1

set_option maxHeartbeats 400000 in
theorem up_any (n s : Int) (w : World) (h1 : n ≤ 4611686018427387904) (h2 : s ≤ 4611686018427387904) :
    Calls Try.prog 51 #[.int .i64 n, .int .i64 s] w fun e w' => e = .returned (.int .i64 (upN n s)) ∧ w = w' := by
  by_cases a : n ≤ 0
  · go_enter Try.func51, Try.ntmps51
    go_wp2
    go_ret
    exact ⟨by simp [upN, a], rfl⟩
  · by_cases b : s ≤ 0
    · go_enter Try.func51, Try.ntmps51
      go_wp2
      go_ret
      exact ⟨by simp [upN, b], rfl⟩
    · have h3 : 0 ≤ (n - 1) / s := Int.ediv_nonneg (by omega) (by omega)
      have h4 : (n - 1) / s ≤ n - 1 := Int.ediv_le_self _ (by omega)
      go_enter Try.func51, Try.ntmps51
      go_wp2
      go_ret
      exact ⟨ret_int (by rw [upN, if_neg (by omega)]), rfl⟩

theorem up_ref (n s : Int) (h1 : 0 < n) (h2 : 0 < s) : upN n s = if n % s = 0 then n / s else n / s + 1 := by
  rw [upN, if_neg (by omega)]
  have e := Int.emod_add_mul_ediv n s
  have m0 := Int.emod_nonneg n (by omega : s ≠ 0)
  have m1 := Int.emod_lt_of_pos n h2
  split
  · rename_i h0
    have : n - 1 = (s - 1) + s * (n / s - 1) := by rw [Int.mul_sub]; omega
    rw [this, Int.add_mul_ediv_left _ _ (by omega), Int.ediv_eq_zero_of_lt (by omega) (by omega)]
    omega
  · rename_i h0
    have : n - 1 = (n % s - 1) + s * (n / s) := by omega
    rw [this, Int.add_mul_ediv_left _ _ (by omega), Int.ediv_eq_zero_of_lt (by omega) (by omega)]
    omega


set_option maxHeartbeats 400000 in
theorem cright_any (k : Int) (w : World) : Calls Try.prog 95 #[.int .i64 k] w fun e w' => e = .returned (.bool (decide (0 ≤ k ∧ k < 32))) ∧ w = w' := by
  by_cases h1 : 0 ≤ k
  · by_cases h2 : k < 32
    · go_enter Try.func95, Try.ntmps95
      go_wp2
      go_ret
      exact ⟨ret_bool (by simp [h1, h2]), rfl⟩
    · go_enter Try.func95, Try.ntmps95
      go_wp2
      go_ret
      exact ⟨ret_bool (by simp [h1, h2]), rfl⟩
  · go_enter Try.func95, Try.ntmps95
    go_wp2
    go_ret
    exact ⟨ret_bool (by simp; omega), rfl⟩

end Go.Proofs.Ytjgdplengfnkaaa
