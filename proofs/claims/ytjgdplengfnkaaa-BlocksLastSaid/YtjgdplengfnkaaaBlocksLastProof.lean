/- The law BlocksLast holds: for every input it returns true and leaves its arguments as they were. No condition. (The frame of this text follows the kit's skeleton program; the walk is in the texts that it imports.) -/
import Derived.Test.YtjgdplengfnkaaaRows
import Derived.Test.YtjgdplengfnkaaaLa
import Derived.Test.YtjgdplengfnkaaaHread
import Derived.WalkKit
import Derived.ProofKit
import Derived.OpenShut
import Derived.ShutString
import Derived.ChangeOld
import Derived.Below
import Derived.Lib.SmallJoins
namespace Go.Proofs.Ytjgdplengfnkaaa.blocksLast
open Go.ChangeShapes Go.WideShapes Go.ChangeAt Go.RowKit Go.Joins
set_option linter.unusedVariables false

theorem own : ownKnob Try.prog.godebug = none := by kernel_rfl
theorem laidOut : laidOutB Try.prog = true := by kernel_rfl

set_option maxRecDepth 100000 in
theorem lifted (os : Os) (started : os.Started) (H : Type) (enc : TypeId × Value → H) :
    ReturnsInHanded {} Try.checked os 5 .any (Rows.blocksLastSpec.pre6 enc Try.prog Try.f5 Rows.blocksLastRow.domain false) (Rows.blocksLastSpec.post enc Try.prog Try.f5 false true false false) := by
  refine returnsInHanded_of_change (C := Try.checked) own started (by kernel_rfl) Try.func5
    (ChangeSpec.witness6 (enc := enc) (C := Try.checked) false ⟨#[], #[.int .u8 0, .agg #[.int .i64 0, .slice none 0 0, .int .i64 0], .slice none 0 0], []⟩ 8 (by kernel_rfl) (by kernel_rfl) (by kernel_rfl) (by kernel_rfl)) ?_
  intro W base args ds gs before hval0 hW hcnd _
  have hval : ∀ (j : Nat) t v, Try.f5.params[j]? = some t → args[j]? = some v → Value.okWide Try.prog W .any base t v := hval0
  have hW' := hW
  obtain ⟨p, q, hA0, hV, rfl, hfz, hnd⟩ := hW
  have hA : DataW.TrodAll enc Try.prog W 0 (fun _ => true) true Try.f5.params.toList args.toList ds p := hA0
  rw [Try.params5] at hA hval
  obtain ⟨v0, vs0, d0, ds0, p0, q0, hargs, rfl, rfl, h0, r0⟩ := trodAll_cons hA
  obtain ⟨v1, vs1, d1, ds1, p1, q1, rfl, rfl, rfl, h1, r1⟩ := trodAll_cons r0
  obtain ⟨v2, vs2, d2, ds2, p2, q2, rfl, rfl, rfl, h2, r2⟩ := trodAll_cons r1
  obtain ⟨rfl, rfl, rfl⟩ := trodAll_nil r2
  obtain rfl : args = #[v0, v1, v2] := by cases args; simp_all
  obtain ⟨rfl, rfl⟩ := trodVars_none hV
  obtain ⟨a0, rfl, rfl, rfl, w0⟩ := open_int Try.underlying5 (hval 0 5 v0 rfl rfl) h0
  have k1 := h1
  have lt1 : ∀ x ∈ p1, x.block < W.heap.size := by obtain ⟨m, hm⟩ := k1; exact DataW.trod_lt m _ _ _ hm
  obtain ⟨c0, c1, c2, y0, y1, y2, m, rfl, _, _, hy0, hy1, hy2⟩ := open_agg3 Try.underlying62 (by kernel_rfl) (by kernel_rfl) (hval 1 62 v1 rfl rfl) h1
  obtain ⟨blk, rfl, hblk⟩ := int_read Try.underlying3 hy0
  obtain ⟨al, lc, l, rfl, hlc, hll, _⟩ := hds_read hy1
  obtain ⟨fuse, rfl, hfu⟩ := int_read Try.underlying3 hy2
  have k2 := h2
  have lt2 : ∀ x ∈ p2, x.block < W.heap.size := by obtain ⟨m, hm⟩ := k2; exact DataW.trod_lt m _ _ _ hm
  obtain ⟨ca, cm, cc, cs, rfl, hcm, hccs, hcu, hc1, hc2⟩ : ∃ (a : Option Addr) (len cap : Nat) (zs : List Nat), v2 = .slice a len cap ∧ zs.length = len ∧ Cells W a (zs.map (fun n : Nat => Value.int .u8 (n : Int))) ∧ (∀ z ∈ zs, z < 256) ∧ len ≤ cap ∧ cap ≤ maxLen := by
    obtain ⟨a, len, cap, rfl⟩ := okWide_slice Try.underlying63 (hval 2 63 v2 rfl rfl)
    obtain ⟨m, hm⟩ := h2
    exact nats_read (k := .u8) (B := 256) (fun z hz => wf_u8 hz) Try.underlying63 Try.underlying5 (by kernel_rfl) (by simpa [Value.cells] using hm)
  have h8 := wf_u8 w0
  obtain ⟨x, rfl⟩ := Int.eq_ofNat_of_zero_le h8.1
  clear hA0 hval0
  refine (blocksLast_any x (by omega) blk fuse al _ lc l rfl ca cm cc cs hcm W hlc hccs hcu hll (by omega) (wf_i64 hblk)).mono fun e W' ⟨he, bel⟩ => ?_
  subst he
  exact ⟨_, rfl, _, _, _, [], _, [], hW', trodAll_mk1 (shut_bool Try.underlying4 _), (trodAll_cons_mk (shut_int Try.underlying5 w0) (trodAll_cons_mk (Below.trod laidOut (by kernel_rfl) (of_decide_eq_true (by kernel_rfl)) k1 bel lt1) (trodAll_cons_mk (Below.trod laidOut (by kernel_rfl) (of_decide_eq_true (by kernel_rfl)) k2 bel lt2) trodAll_mk0))), rfl, bel.frame _, fun h => by cases h⟩

theorem over : Rows.blocksLastRow.holds Try.pinned (OpenSpec.ofChange Rows.blocksLastSpec) :=
  OpenClaim.holds_of_wide 5 Try.f5 rfl rfl rfl rfl rfl rfl rfl ⟨rfl, rfl, rfl, rfl, rfl⟩ rfl rfl rfl rfl rfl (by kernel_rfl) Try.func5 (by kernel_rfl)
    (of_decide_eq_true (by kernel_rfl)) (by unfold Func.isWrapper; first | (rw [if_pos (by decide +kernel)]; kernel_rfl) | (rw [if_neg (by decide +kernel)]; exact ⟨rfl, rfl⟩))
    (fun os started H enc _ => lifted os started H enc)

/-- The statement. -/
theorem proved : Rows.BlocksLastSaid := over
#print axioms proved
end Go.Proofs.Ytjgdplengfnkaaa.blocksLast
