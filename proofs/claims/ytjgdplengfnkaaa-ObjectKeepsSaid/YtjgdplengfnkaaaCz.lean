/- Objects: their sizes. -/
import Derived.Test.YtjgdplengfnkaaaRow
namespace Go.Proofs.Ytjgdplengfnkaaa
open Go.RowKit
set_option linter.unusedVariables false

/-- An object's words; 0: it may not be. -/
def objSize (p d : Int) : Nat := if p < 0 ∨ 63 < p ∨ d < 0 ∨ 16384 < d then 0 else (1 + p + d).toNat

theorem objSize_le (p d : Int) : objSize p d ≤ 16448 := by unfold objSize; split <;> omega

/-- What class.Size answers. -/
def csizeV (p d : Int) : Value := if objSize p d = 0 then .tuple #[.int .i64 0, .int .i64 5] else .tuple #[.int .i64 (objSize p d : Nat), .int .i64 0]

set_option maxHeartbeats 400000 in
theorem csize_any (p d : Int) (w : World) : Calls Try.prog 71 #[.int .i64 p, .int .i64 d] w fun e w' => e = .returned (csizeV p d) ∧ w = w' := by
  by_cases h : p < 0 ∨ 63 < p ∨ d < 0 ∨ 16384 < d
  · have HS : Hid (csizeV p d = .tuple #[.int .i64 0, .int .i64 5]) := Lib.hid (by unfold csizeV; rw [if_pos (by unfold objSize; rw [if_pos h])])
    rcases h with h | h | h | h
    · go_enter Try.func71, Try.ntmps71
      go_wp2_with fail
      go_ret2
      exact ⟨by rw [HS.out]; rfl, rfl⟩
    · have h' : ¬ p < 0 := by omega
      go_enter Try.func71, Try.ntmps71
      go_wp2_with fail
      go_ret2
      exact ⟨by rw [HS.out]; rfl, rfl⟩
    · by_cases h1 : p < 0
      · go_enter Try.func71, Try.ntmps71
        go_wp2_with fail
        go_ret2
        exact ⟨by rw [HS.out]; rfl, rfl⟩
      by_cases h2 : 63 < p
      · go_enter Try.func71, Try.ntmps71
        go_wp2_with fail
        go_ret2
        exact ⟨by rw [HS.out]; rfl, rfl⟩
      go_enter Try.func71, Try.ntmps71
      go_wp2_with fail
      go_ret2
      exact ⟨by rw [HS.out]; rfl, rfl⟩
    · have h3 : ¬ d < 0 := by omega
      by_cases h1 : p < 0
      · go_enter Try.func71, Try.ntmps71
        go_wp2_with fail
        go_ret2
        exact ⟨by rw [HS.out]; rfl, rfl⟩
      by_cases h2 : 63 < p
      · go_enter Try.func71, Try.ntmps71
        go_wp2_with fail
        go_ret2
        exact ⟨by rw [HS.out]; rfl, rfl⟩
      go_enter Try.func71, Try.ntmps71
      go_wp2_with fail
      go_ret2
      exact ⟨by rw [HS.out]; rfl, rfl⟩
  · have HS : Hid (csizeV p d = .tuple #[.int .i64 (1 + p + d), .int .i64 0]) := by
      have h1 : ((objSize p d : Nat) : Int) = 1 + p + d := by unfold objSize; rw [if_neg h]; omega
      apply Lib.hid
      unfold csizeV
      rw [if_neg (by omega), h1]
    have h1 : ¬ p < 0 := by omega
    have h2 : ¬ 63 < p := by omega
    have h3 : ¬ d < 0 := by omega
    have h4 : ¬ 16384 < d := by omega
    clear h
    go_enter Try.func71, Try.ntmps71
    go_wp2_with fail
    go_ret2
    exact ⟨by rw [HS.out]; rfl, rfl⟩

set_option maxHeartbeats 400000 in
theorem osize_any (p d : Int) (w : World) : Calls Try.prog 36 #[.agg #[.int .i64 p, .int .i64 d]] w fun e w' => e = .returned (.int .i64 (objSize p d : Nat)) ∧ Below w.heap.size w w' := by
  have hb : ∀ o, Below w.heap.size w (w.alloc o) := fun o => (Below.refl _ _).alloc (Nat.le_refl _) o
  have HB := Lib.hid hb
  clear hb
  go_enter Try.func36, Try.ntmps36
  go_wp2_with fail
  refine (csize_any _ _ _).mono ?_
  rintro e w1 ⟨rfl, rfl⟩
  by_cases h : objSize p d = 0
  · have HV : Hid (csizeV p d = .tuple #[.int .i64 0, .int .i64 5]) := Lib.hid (by unfold csizeV; rw [if_pos h])
    rw [HV.out]
    have H := Lib.hid h
    clear h
    go_wp2_with fail
    go_ret
    exact ⟨ret_int (by rw [H.out]; rfl), HB.out _⟩
  · have HV : Hid (csizeV p d = .tuple #[.int .i64 (objSize p d : Nat), .int .i64 0]) := Lib.hid (by unfold csizeV; rw [if_neg h])
    rw [HV.out]
    clear h
    go_wp2_with fail
    go_ret
    exact ⟨rfl, HB.out _⟩

end Go.Proofs.Ytjgdplengfnkaaa
