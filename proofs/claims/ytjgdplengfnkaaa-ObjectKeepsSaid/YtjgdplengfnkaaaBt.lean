/- bits: mask, Get, Put. -/
import Derived.Test.YtjgdplengfnkaaaRow
import Derived.Laws.BitsAllLaws
namespace Go.Proofs.Ytjgdplengfnkaaa
open Go.RowKit
set_option linter.unusedVariables false

theorem pow_lt64 {k : Nat} (h : k < 64) : 2 ^ k < 18446744073709551616 := Nat.pow_lt_pow_right (by decide : 1 < 2) (show k < 64 from h)

set_option maxHeartbeats 400000 in
theorem mask_any (k : Nat) (h0 : 0 < k) (h : k < 64) (w : World) : Calls Try.prog 99 #[.int .i64 (k : Int)] w fun e w' => e = .returned (vu64 (2 ^ k - 1)) ∧ w = w' := by
  have hp := pow_lt64 h
  have h1 : 0 < 2 ^ k := Nat.two_pow_pos k
  have e1 : (2 : Int) ^ k = ((2 ^ k : Nat) : Int) := by push_cast; rfl
  have E := Lib.hid e1
  clear e1
  go_enter Try.func99, Try.ntmps99
  go_wp2_with fail
  go_ret
  refine ⟨ret_int ?_, rfl⟩
  rw [E.out, IntKind.wrap_u64, IntKind.wrap_u64]
  omega

/-- A field. -/
def fieldN (x at_ k : Nat) : Nat := x / 2 ^ at_ % 2 ^ k
theorem fieldN_lt (x a k : Nat) : fieldN x a k < 2 ^ k := Nat.mod_lt _ (Nat.two_pow_pos k)

theorem and_mask (y k : Nat) (hy : y < 18446744073709551616) (h : k < 64) : bits BinOp.and IntKind.u64 (y : Int) ((2 ^ k - 1 : Nat) : Int) = ((y % 2 ^ k : Nat) : Int) := by
  have hp := pow_lt64 h
  rw [u64_and_nat y (2 ^ k - 1) hy (by omega), Nat.and_two_pow_sub_one_eq_mod]

set_option maxHeartbeats 400000 in
theorem get_any (x a k : Nat) (hx : x < 18446744073709551616) (ha : a < 64) (h0 : 0 < k) (h : k < 64) (w : World) :
    Calls Try.prog 76 #[vu64 x, .int .i64 (a : Int), .int .i64 (k : Int)] w fun e w' => e = .returned (vu64 (fieldN x a k)) ∧ w = w' := by
  have hy : x / 2 ^ a < 18446744073709551616 := Nat.lt_of_le_of_lt (Nat.div_le_self _ _) hx
  have HY : Hid ((x : Int) / 2 ^ a = ((x / 2 ^ a : Nat) : Int)) := Lib.hid (by push_cast; rfl)
  have HF : Hid (fieldN x a k = x / 2 ^ a % 2 ^ k) := Lib.hid rfl
  have HM := Lib.hid (and_mask _ k hy h)
  obtain ⟨m, hm⟩ : ∃ m, m = 2 ^ k - 1 := ⟨_, rfl⟩
  rw [← hm] at HM
  have HMM := Lib.hid hm
  clear hm
  go_enter Try.func76, Try.ntmps76
  go_wp2_with fail
  refine (mask_any k h0 h _).mono ?_
  rintro e w1 ⟨rfl, rfl⟩
  rw [← HMM.out]
  go_wp2_with fail
  go_ret
  refine ⟨ret_int ?_, rfl⟩
  rw [HY.out, HM.out, HF.out]

/-- A field above others is set: what was there of it is nought. -/
theorem put_val (x a k n : Nat) (hx : x < 2 ^ a) (hn : n < 2 ^ k) (h : a + k < 64) :
    bits BinOp.or IntKind.u64 (bits BinOp.andNot IntKind.u64 (x : Int) (((2 ^ k - 1) * 2 ^ a : Nat) : Int)) (bits BinOp.and IntKind.u64 ((n * 2 ^ a : Nat) : Int) (((2 ^ k - 1) * 2 ^ a : Nat) : Int)) = ((x + n * 2 ^ a : Nat) : Int) := by
  have p1 := pow_lt64 (show a < 64 by omega)
  have p2 : 2 ^ k * 2 ^ a < 18446744073709551616 := by rw [← Nat.pow_add, Nat.add_comm]; exact pow_lt64 h
  have q1 : n * 2 ^ a ≤ 2 ^ k * 2 ^ a := Nat.mul_le_mul_right _ (by omega)
  have q2 : (2 ^ k - 1) * 2 ^ a ≤ 2 ^ k * 2 ^ a := Nat.mul_le_mul_right _ (by omega)
  have z : x < 18446744073709551616 := by omega
  rw [u64_andNot_nat _ _ z (by omega), u64_and_nat _ _ (by omega) (by omega)]
  have e1 : x &&& (18446744073709551615 - (2 ^ k - 1) * 2 ^ a) = x := by
    apply Nat.eq_of_testBit_eq
    intro i
    have e : 18446744073709551615 - (2 ^ k - 1) * 2 ^ a = 2 ^ 64 - ((2 ^ k - 1) * 2 ^ a + 1) := by omega
    rw [Nat.testBit_and, e, Nat.testBit_two_pow_sub_succ (by omega)]
    by_cases hi : i < a
    · have : ((2 ^ k - 1) * 2 ^ a).testBit i = false := by rw [Nat.mul_comm, Nat.testBit_two_pow_mul]; simp; omega
      rw [this]; simp; omega
    · have : x.testBit i = false := Nat.testBit_lt_two_pow (Nat.lt_of_lt_of_le hx (Nat.pow_le_pow_right (by decide) (by omega)))
      rw [this]; simp
  have e2 : n * 2 ^ a &&& (2 ^ k - 1) * 2 ^ a = n * 2 ^ a := by
    rw [← Nat.shiftLeft_eq, ← Nat.shiftLeft_eq, ← Nat.shiftLeft_and_distrib, Nat.and_two_pow_sub_one_eq_mod, Nat.mod_eq_of_lt hn]
  rw [e1, e2, u64_or_nat _ _ z (by omega)]
  congr 1
  have := Nat.two_pow_add_eq_or_of_lt (i := a) hx n
  rw [Nat.or_comm, Nat.mul_comm n, ← this, Nat.add_comm]

set_option maxHeartbeats 400000 in
theorem put_any (x a k n : Nat) (hx : x < 2 ^ a) (hn : n < 2 ^ k) (h : a + k < 64) (h0 : 0 < k) (w : World) :
    Calls Try.prog 91 #[vu64 x, .int .i64 (a : Int), .int .i64 (k : Int), vu64 n] w fun e w' => e = .returned (vu64 (x + n * 2 ^ a)) ∧ w = w' := by
  have hv := put_val x a k n hx hn h
  have p2 : 2 ^ k * 2 ^ a < 18446744073709551616 := by rw [← Nat.pow_add, Nat.add_comm]; exact pow_lt64 h
  have q1 : n * 2 ^ a ≤ 2 ^ k * 2 ^ a := Nat.mul_le_mul_right _ (by omega)
  have q2 : (2 ^ k - 1) * 2 ^ a ≤ 2 ^ k * 2 ^ a := Nat.mul_le_mul_right _ (by omega)
  have z : x < 18446744073709551616 := Nat.lt_trans hx (pow_lt64 (by omega))
  have w1 : IntKind.u64.wrap (((2 ^ k - 1 : Nat) : Int) * 2 ^ a) = (((2 ^ k - 1) * 2 ^ a : Nat) : Int) := by
    rw [show ((2 ^ k - 1 : Nat) : Int) * 2 ^ a = (((2 ^ k - 1) * 2 ^ a : Nat) : Int) by push_cast; rfl, IntKind.wrap_u64]; omega
  have w2 : IntKind.u64.wrap ((n : Int) * 2 ^ a) = ((n * 2 ^ a : Nat) : Int) := by
    rw [show (n : Int) * 2 ^ a = ((n * 2 ^ a : Nat) : Int) by push_cast; rfl, IntKind.wrap_u64]; omega
  obtain ⟨m, hm⟩ : ∃ m, m = 2 ^ k - 1 := ⟨_, rfl⟩
  rw [← hm] at hv w1
  have HM := Lib.hid hm
  have HV := Lib.hid hv
  have W1 := Lib.hid w1
  have W2 := Lib.hid w2
  have ha : a < 64 := by omega
  have hk : k < 64 := by omega
  clear hm hv w1 w2 p2 q1 q2
  go_enter Try.func91, Try.ntmps91
  go_wp2_with fail
  refine (mask_any k h0 hk _).mono ?_
  rintro e w1 ⟨rfl, rfl⟩
  rw [← HM.out]
  go_wp2_with fail
  go_ret
  refine ⟨ret_int ?_, rfl⟩
  rw [W1.out, W2.out, HV.out]

end Go.Proofs.Ytjgdplengfnkaaa
