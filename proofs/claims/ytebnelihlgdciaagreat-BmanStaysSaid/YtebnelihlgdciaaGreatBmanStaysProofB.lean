/- The law BmanStays holds: for every input it returns true and leaves its arguments as they were. No condition. (The frame of this text follows the kit's skeleton program; the walk is in the texts that it imports.) -/
import Derived.Test.YtebnelihlgdciaaGreatM11
import Derived.Test.YtebnelihlgdciaaGreatRows
import Derived.WalkKit
import Derived.ProofKit
import Derived.OpenShut
import Derived.ShutString
import Derived.ChangeOld
import Derived.Below
import Derived.Lib.SmallJoins
namespace Go.Proofs.YtebnelihlgdciaaGreat.bmanStays
open Go.ChangeShapes Go.WideShapes Go.ChangeAt Go.RowKit Go.Joins
set_option linter.unusedVariables false

theorem own : ownKnob Tryz.prog.godebug = none := by kernel_rfl
theorem laidOut : laidOutB Tryz.prog = true := by kernel_rfl

set_option maxRecDepth 100000 in
theorem lifted (os : Os) (started : os.Started) (H : Type) (enc : TypeId × Value → H) :
    ReturnsInHanded {} Tryz.checked os 3 .any (Rows.bmanStaysSpec.pre6 enc Tryz.prog Tryz.f3 Rows.bmanStaysRow.domain false) (Rows.bmanStaysSpec.post enc Tryz.prog Tryz.f3 false true false false) := by
  refine returnsInHanded_of_change (C := Tryz.checked) own started (by kernel_rfl) Tryz.func3
    (ChangeSpec.witness6 (enc := enc) (C := Tryz.checked) false ⟨#[], #[.int .u8 0, .slice none 0 0, .slice none 0 0], []⟩ 8 (by kernel_rfl) (by kernel_rfl) (by kernel_rfl) (by kernel_rfl)) ?_
  intro W base args ds gs before hval0 hW hcnd _
  have hval : ∀ (j : Nat) t v, Tryz.f3.params[j]? = some t → args[j]? = some v → Value.okWide Tryz.prog W .any base t v := hval0
  have hW' := hW
  obtain ⟨p, q, hA0, hV, rfl, hfz, hnd⟩ := hW
  have hA : DataW.TrodAll enc Tryz.prog W 0 (fun _ => true) true Tryz.f3.params.toList args.toList ds p := hA0
  rw [Tryz.params3] at hA hval
  obtain ⟨v0, vs0, d0, ds0, p0, q0, hargs, rfl, rfl, h0, r0⟩ := trodAll_cons hA
  obtain ⟨v1, vs1, d1, ds1, p1, q1, rfl, rfl, rfl, h1, r1⟩ := trodAll_cons r0
  obtain ⟨v2, vs2, d2, ds2, p2, q2, rfl, rfl, rfl, h2, r2⟩ := trodAll_cons r1
  obtain ⟨rfl, rfl, rfl⟩ := trodAll_nil r2
  obtain rfl : args = #[v0, v1, v2] := by cases args; simp_all
  obtain ⟨rfl, rfl⟩ := trodVars_none hV
  obtain ⟨a0, rfl, rfl, rfl, w0⟩ := open_int Tryz.underlying5 (hval 0 5 v0 rfl rfl) h0
  have k1 := h1
  have lt1 : ∀ x ∈ p1, x.block < W.heap.size := by obtain ⟨m, hm⟩ := k1; exact DataW.trod_lt m _ _ _ hm
  obtain ⟨al, n, lc, l, rfl, hn, hcs, hok, hnm, hnc⟩ : ∃ (a : Option Addr) (n cap : Nat) (l : List Op2), v1 = .slice a n cap ∧ l.length = n ∧ Cells W a (recs Op2.cs l) ∧ (∀ o ∈ l, ok64 o) ∧ n ≤ maxLen ∧ n ≤ cap := by
    obtain ⟨a, len, cap, rfl⟩ := okWide_slice Tryz.underlying22 (hval 1 22 v1 rfl rfl)
    obtain ⟨m, hm⟩ := h1
    obtain ⟨a1, n1, c1, m1, f1, f2, _, _⟩ := elems_read (size := 2) Tryz.underlying22 (by kernel_rfl) (by decide) (by simpa [Value.cells] using hm)
    cases f1
    obtain ⟨a', n', c', l', e1, e2, e3, e4, e5⟩ := recs_ints_read (f := Op2.cs) (n := 2) Op2.len (by decide) ⟨0, 0⟩ (fun zs => ⟨zs.getD 0 0, zs.getD 1 0⟩) two12 Tryz.underlying22 Tryz.underlying26 Tryz.underlying3 (by kernel_rfl) (by kernel_rfl) (by kernel_rfl) (by simpa [Value.cells] using hm)
    cases e1
    exact ⟨_, _, _, l', rfl, e2, e3, fun o ho => ok12 (e4 o ho), e5, f2⟩
  have k2 := h2
  have lt2 : ∀ x ∈ p2, x.block < W.heap.size := by obtain ⟨m, hm⟩ := k2; exact DataW.trod_lt m _ _ _ hm
  obtain ⟨ca, cm, cc, cs, rfl, hcm, hccs, hcu, hc1, hc2⟩ : ∃ (a : Option Addr) (len cap : Nat) (zs : List Nat), v2 = .slice a len cap ∧ zs.length = len ∧ Cells W a (zs.map (fun n : Nat => Value.int .u8 (n : Int))) ∧ (∀ z ∈ zs, z < 256) ∧ len ≤ cap ∧ cap ≤ maxLen := by
    obtain ⟨a, len, cap, rfl⟩ := okWide_slice Tryz.underlying23 (hval 2 23 v2 rfl rfl)
    obtain ⟨m, hm⟩ := h2
    exact nats_read (k := .u8) (B := 256) (fun z hz => wf_u8 hz) Tryz.underlying23 Tryz.underlying5 (by kernel_rfl) (by simpa [Value.cells] using hm)
  have h8 := wf_u8 w0
  obtain ⟨x, rfl⟩ := Int.eq_ofNat_of_zero_le h8.1
  clear hA0 hval0
  refine (bmanStays_any x (by omega) al n lc l hn ca cm cc cs hcm W hcs hok hccs hcu hnm hnc).mono fun e W' ⟨he, bel⟩ => ?_
  subst he
  exact ⟨_, rfl, _, _, _, [], _, [], hW', trodAll_mk1 (shut_bool Tryz.underlying4 _), (trodAll_cons_mk (shut_int Tryz.underlying5 w0) (trodAll_cons_mk (Below.trod laidOut (by kernel_rfl) (of_decide_eq_true (by kernel_rfl)) k1 bel lt1) (trodAll_cons_mk (Below.trod laidOut (by kernel_rfl) (of_decide_eq_true (by kernel_rfl)) k2 bel lt2) trodAll_mk0))), rfl, bel.frame _, fun h => by cases h⟩

theorem over : Rows.bmanStaysRow.holds Tryz.pinned (OpenSpec.ofChange Rows.bmanStaysSpec) :=
  OpenClaim.holds_of_wide 3 Tryz.f3 rfl rfl rfl rfl rfl rfl rfl ⟨rfl, rfl, rfl, rfl, rfl⟩ rfl rfl rfl rfl rfl (by kernel_rfl) Tryz.func3 (by kernel_rfl)
    (of_decide_eq_true (by kernel_rfl)) (by unfold Func.isWrapper; first | (rw [if_pos (by decide +kernel)]; kernel_rfl) | (rw [if_neg (by decide +kernel)]; exact ⟨rfl, rfl⟩))
    (fun os started H enc _ => lifted os started H enc)

/-- The statement. -/
theorem proved : Rows.BmanStaysSaid := over
#print axioms proved
end Go.Proofs.YtebnelihlgdciaaGreat.bmanStays
