/- The law CheckHeaders holds: for every input it returns true and leaves its arguments as they were. No condition. (The frame of this text follows the kit's skeleton program; the walk is in the texts that it imports.) -/
import Derived.Test.YtpopbfagliagnaaGreatCH10
import Derived.Test.YtpopbfagliagnaaGreatRows
import Derived.WalkKit
import Derived.ProofKit
import Derived.OpenShut
import Derived.ShutString
import Derived.ChangeOld
import Derived.Below
import Derived.Lib.SmallJoins
namespace Go.Proofs.YtpopbfagliagnaaGreat.checkHeaders
open Go.ChangeShapes Go.WideShapes Go.ChangeAt Go.RowKit Go.Joins
set_option linter.unusedVariables false

theorem own : ownKnob Tryz.prog.godebug = none := by kernel_rfl
theorem laidOut : laidOutB Tryz.prog = true := by kernel_rfl

set_option maxRecDepth 100000 in
theorem lifted (os : Os) (started : os.Started) (H : Type) (enc : TypeId × Value → H) :
    ReturnsInHanded {} Tryz.checked os 7 .any (Rows.checkHeadersSpec.pre6 enc Tryz.prog Tryz.f7 Rows.checkHeadersRow.domain false) (Rows.checkHeadersSpec.post enc Tryz.prog Tryz.f7 false true false false) := by
  refine returnsInHanded_of_change (C := Tryz.checked) own started (by kernel_rfl) Tryz.func7
    (ChangeSpec.witness6 (enc := enc) (C := Tryz.checked) false ⟨#[], #[.slice none 0 0, .slice none 0 0], []⟩ 8 (by kernel_rfl) (by kernel_rfl) (by kernel_rfl) (by kernel_rfl)) ?_
  intro W base args ds gs before hval0 hW hcnd _
  have hval : ∀ (j : Nat) t v, Tryz.f7.params[j]? = some t → args[j]? = some v → Value.okWide Tryz.prog W .any base t v := hval0
  have hW' := hW
  obtain ⟨p, q, hA0, hV, rfl, hfz, hnd⟩ := hW
  have hA : DataW.TrodAll enc Tryz.prog W 0 (fun _ => true) true Tryz.f7.params.toList args.toList ds p := hA0
  rw [Tryz.params7] at hA hval
  obtain ⟨v0, vs0, d0, ds0, p0, q0, hargs, rfl, rfl, h0, r0⟩ := trodAll_cons hA
  obtain ⟨v1, vs1, d1, ds1, p1, q1, rfl, rfl, rfl, h1, r1⟩ := trodAll_cons r0
  obtain ⟨rfl, rfl, rfl⟩ := trodAll_nil r1
  obtain rfl : args = #[v0, v1] := by cases args; simp_all
  obtain ⟨rfl, rfl⟩ := trodVars_none hV
  have k0 := h0
  have lt0 : ∀ x ∈ p0, x.block < W.heap.size := by obtain ⟨m, hm⟩ := k0; exact DataW.trod_lt m _ _ _ hm
  obtain ⟨al0, n0, lc0, l0, rfl, hn0, hcs0, hnm0⟩ : ∃ (a : Option Addr) (n cap : Nat) (l : List Hd), v0 = .slice a n cap ∧ l.length = n ∧ Cells W a (hdCs l) ∧ n ≤ maxLen := by
    obtain ⟨a, len, cap, rfl⟩ := okWide_slice Tryz.underlying22 (hval 0 22 v0 rfl rfl)
    obtain ⟨m, hm⟩ := h0
    obtain ⟨a', n', c', l', e1, e2, e3, _, e5⟩ := recs_ints_read (f := Hd.cs) (n := 3) (fun _ => rfl) (by decide) ⟨0, 0, 0⟩ (fun zs => ⟨zs.getD 0 0, zs.getD 1 0, zs.getD 2 0⟩) three_hd Tryz.underlying22 Tryz.underlying103 Tryz.underlying3 (by kernel_rfl) (by kernel_rfl) (by kernel_rfl) (by simpa [Value.cells] using hm)
    exact ⟨a', n', c', l', e1, e2, e3, e5⟩
  have k1 := h1
  have lt1 : ∀ x ∈ p1, x.block < W.heap.size := by obtain ⟨m, hm⟩ := k1; exact DataW.trod_lt m _ _ _ hm
  obtain ⟨al1, n1, lc1, l1, rfl, hn1, hcs1, hu1, hnm1⟩ : ∃ (a : Option Addr) (n cap : Nat) (l : List U2), v1 = .slice a n cap ∧ l.length = n ∧ Cells W a (recs U2.cs l) ∧ (∀ o ∈ l, (0 ≤ o.a ∧ o.a ≤ 65535) ∧ 0 ≤ o.b ∧ o.b ≤ 65535) ∧ n ≤ maxLen := by
    obtain ⟨a, len, cap, rfl⟩ := okWide_slice Tryz.underlying98 (hval 1 98 v1 rfl rfl)
    obtain ⟨m, hm⟩ := h1
    obtain ⟨a', n', c', l', e1, e2, e3, e4, e5⟩ := recs_u16s_read (f := U2.cs) (n := 2) U2.len (by decide) ⟨0, 0⟩ (fun zs => ⟨zs.getD 0 0, zs.getD 1 0⟩) two_u16 Tryz.underlying98 Tryz.underlying105 Tryz.underlying104 (by kernel_rfl) (by kernel_rfl) (by simpa [Value.cells] using hm)
    exact ⟨a', n', c', l', e1, e2, e3, u2_bounds e4, e5⟩
  clear hA0 hval0
  refine (checkHeaders_any al0 n0 lc0 l0 hn0 al1 n1 lc1 l1 hn1 hu1 W hcs0 hcs1 hnm0 hnm1).mono fun e W' ⟨he, bel⟩ => ?_
  subst he
  exact ⟨_, rfl, _, _, _, [], _, [], hW', trodAll_mk1 (shut_bool Tryz.underlying4 _), (trodAll_cons_mk (Below.trod laidOut (by kernel_rfl) (of_decide_eq_true (by kernel_rfl)) k0 bel lt0) (trodAll_cons_mk (Below.trod laidOut (by kernel_rfl) (of_decide_eq_true (by kernel_rfl)) k1 bel lt1) trodAll_mk0)), rfl, bel.frame _, fun h => by cases h⟩

theorem and2 {a b : Bool} (h1 : a = true) (h2 : b = true) : (a && b) = true := by rw [h1, h2]; rfl
set_option maxHeartbeats 40000000 in
theorem closed : joinedFacts Tryz.prog 7 Tryz.f7 Rows.checkHeadersSpec Rows.checkHeadersRow = true := by
  unfold joinedFacts
  refine (and2 (and2 (and2 (and2 (and2 (and2 (and2 (and2 (and2 (and2 (and2 (and2 (and2 (and2 (and2 (and2 (and2 (and2 (and2 (and2 (and2 (and2 (and2 (and2 (and2 (and2 (and2 (and2 (and2 (and2 (and2 ?_ ?_) ?_) ?_) ?_) ?_) ?_) ?_) ?_) ?_) ?_) ?_) ?_) ?_) ?_) ?_) ?_) ?_) ?_) ?_) ?_) ?_) ?_) ?_) ?_) ?_) ?_) ?_) ?_) ?_) ?_) ?_)
  all_goals (as_aux_lemma => kernel_rfl)
set_option maxHeartbeats 4000000 in
theorem named : Tryz.prog.funcNamed Rows.checkHeadersRow.func = some 7 := by as_aux_lemma => kernel_rfl
set_option maxHeartbeats 4000000 in
theorem over : Rows.checkHeadersRow.holds Tryz.pinned (OpenSpec.ofChange Rows.checkHeadersSpec) :=
  OpenClaim.holds_of_wide 7 Tryz.f7 rfl rfl rfl rfl rfl rfl rfl ⟨rfl, rfl, rfl, rfl, rfl⟩ rfl rfl rfl rfl rfl named Tryz.func7 closed
    (of_decide_eq_true (by as_aux_lemma => kernel_rfl)) (by unfold Func.isWrapper; first | (rw [if_pos (by decide +kernel)]; as_aux_lemma => kernel_rfl) | (rw [if_neg (by decide +kernel)]; exact ⟨rfl, rfl⟩))
    (fun os started H enc _ => lifted os started H enc)

/-- The statement. -/
theorem proved : Rows.CheckHeadersSaid := over
#print axioms proved
end Go.Proofs.YtpopbfagliagnaaGreat.checkHeaders
