/- bits.Words: bytes as words. -/
import Derived.Test.YtjgdplengfnkaaaA
import Derived.Test.YtjgdplengfnkaaaPw
namespace Go.Proofs.Ytjgdplengfnkaaa
open Go.RowKit
set_option linter.unusedVariables false

theorem el64 : Elem Try.prog 22 76 (.int .u64 0) 1 8 := Elem.mk' Try.underlying22 (by kernel_rfl) rfl (by decide)
theorem el8 : Elem Try.prog 63 5 (.int .u8 0) 1 1 := Elem.mk' Try.underlying63 (by kernel_rfl) rfl (by decide)

theorem upN8 (n : Nat) : upN (n : Int) 8 = (((n + 7) / 8 : Nat) : Int) := by unfold upN; split <;> omega

theorem or_val (x z r : Nat) (hx : x < 18446744073709551616) (hz : z < 256) (hs : z * 2 ^ (8 * r) < 18446744073709551616) :
    bits BinOp.or IntKind.u64 (x : Int) (IntKind.u64.wrap ((z : Int) * 2 ^ (8 * r))) = ((x ||| (z * 2 ^ (8 * r)) : Nat) : Int) := by
  have e2 : (z : Int) * 2 ^ (8 * r) = ((z * 2 ^ (8 * r) : Nat) : Int) := by push_cast; rfl
  rw [e2]
  generalize z * 2 ^ (8 * r) = y at *
  have e3 : IntKind.u64.wrap (y : Int) = y := by rw [IntKind.wrap_u64]; omega
  rw [e3, u64_or_nat x y hx hs]


end Go.Proofs.Ytjgdplengfnkaaa
