/- What the reading of a slice of headers that came in says of its cells. -/
import Derived.Test.YtjgdplengfnkaaaDeep
import Derived.Test.YtjgdplengfnkaaaBk
namespace Go.Proofs.Ytjgdplengfnkaaa
open Go.RowKit Go.ChangeShapes Go.WideShapes Go.Deep
set_option linter.unusedVariables false

section
variable {H : Type} {enc : TypeId × Value → H} {w : World} {spare : Nat → Bool} {held : Bool}

theorem int_read {fuel : Nat} {t : TypeId} {k : IntKind} {v : Value} {y : DataW H × List MemPlace} (ht : Try.prog.underlying t = some (.int k)) (h : DataW.trod enc Try.prog w 0 spare held fuel t [v] = some y) : ∃ n, v = .int k n ∧ (Lit.int k n).wf = true := by
  obtain ⟨n, h1, _, h3⟩ := DataW.trod_int ht h
  exact ⟨n, by simpa using h1, h3⟩

theorem hds_read {fuel : Nat} {v : Value} {y : DataW H × List MemPlace} (h : DataW.trod enc Try.prog w 0 spare held fuel 33 [v] = some y) :
    ∃ (a : Option Addr) (cap : Nat) (l : List Hd), v = .slice a l.length cap ∧ Cells w a (hdCs l) ∧ l.length ≤ maxLen ∧ ∀ x ∈ l, (-9223372036854775808 ≤ x.k ∧ x.k ≤ 9223372036854775807) ∧ (-9223372036854775808 ≤ x.c ∧ x.c ≤ 9223372036854775807) ∧ (-9223372036854775808 ≤ x.l ∧ x.l ≤ 9223372036854775807) := by
  obtain ⟨a, len, cap, n, rfl, hl, hm, hc⟩ := structs_read Try.underlying33 Try.underlying48 (by kernel_rfl) (by kernel_rfl) (by decide) h
  rcases hc with rfl | ⟨b, off, rfl, hc⟩
  · exact ⟨a, cap, [], rfl, Cells.nil _ _, Nat.zero_le _, by simp⟩
  · have each : ∀ i, i < len → ∃ x : Hd, w.cell? ⟨b, off + i * 3, none⟩ = some (.int .i64 x.k) ∧ w.cell? ⟨b, off + i * 3 + 1, none⟩ = some (.int .i64 x.c) ∧ w.cell? ⟨b, off + i * 3 + 2, none⟩ = some (.int .i64 x.l) ∧ (-9223372036854775808 ≤ x.k ∧ x.k ≤ 9223372036854775807) ∧ (-9223372036854775808 ≤ x.c ∧ x.c ≤ 9223372036854775807) ∧ (-9223372036854775808 ≤ x.l ∧ x.l ≤ 9223372036854775807) := by
      intro i hi
      obtain ⟨u0, z0, hu0, hz0⟩ := hc i hi 0 _ rfl
      obtain ⟨u1, z1, hu1, hz1⟩ := hc i hi 1 _ rfl
      obtain ⟨u2, z2, hu2, hz2⟩ := hc i hi 2 _ rfl
      obtain ⟨n0, rfl, hw0⟩ := int_read Try.underlying3 hz0
      obtain ⟨n1, rfl, hw1⟩ := int_read Try.underlying3 hz1
      obtain ⟨n2, rfl, hw2⟩ := int_read Try.underlying3 hz2
      exact ⟨⟨n0, n1, n2⟩, hu0, hu1, hu2, wf_i64 hw0, wf_i64 hw1, wf_i64 hw2⟩
    obtain ⟨f, hf⟩ := choose_lt each
    refine ⟨_, cap, (List.range len).map f, by simp, .inr ⟨b, off, rfl, fun i v hi => ?_⟩, by simp; omega, fun x hx => ?_⟩
    · have hlen : i < 3 * len := by
        have := (List.getElem?_eq_some_iff.1 hi).1
        rw [hdCs_length] at this
        simpa using this
      obtain ⟨q, r, hr, rfl⟩ : ∃ q r, r < 3 ∧ i = q * 3 + r := ⟨i / 3, i % 3, by omega, by omega⟩
      have hq : q < len := by omega
      have hg := hdCs_at ((List.range len).map f) q (by simpa using hq)
      have hfd : ((List.range len).map f).getD q default = f q := by simp [hq]
      rw [hfd] at hg
      have hfc := hf q hq
      have h0 := hg 0 _ rfl
      have h1 := hg 1 _ rfl
      have h2 := hg 2 _ rfl
      rcases (show r = 0 ∨ r = 1 ∨ r = 2 by omega) with rfl | rfl | rfl
      · rw [h0] at hi
        cases hi
        exact hfc.1
      · rw [h1] at hi
        cases hi
        rw [← Nat.add_assoc]
        exact hfc.2.1
      · rw [h2] at hi
        cases hi
        rw [← Nat.add_assoc]
        exact hfc.2.2.1
    · rw [List.mem_map] at hx
      obtain ⟨i, hi, rfl⟩ := hx
      exact (hf i (by simpa using hi)).2.2.2
end

end Go.Proofs.Ytjgdplengfnkaaa
