/- What the walk is told of a slice of unsigned numbers that came in, as cells. -/
import Derived.Test.YtjgdplengfnkaaaRow
namespace Go.Proofs.Ytjgdplengfnkaaa
open Go.RowKit
set_option linter.unusedVariables false

theorem wf_u64 {z : Int} (h : (Lit.int .u64 z).wf = true) : 0 ≤ z ∧ z < 18446744073709551616 := by
  simp [Lit.wf, IntKind.min, IntKind.max, IntKind.signed, IntKind.bits] at h; omega
theorem wf_u8 {z : Int} (h : (Lit.int .u8 z).wf = true) : 0 ≤ z ∧ z < 256 := by
  simp [Lit.wf, IntKind.min, IntKind.max, IntKind.signed, IntKind.bits] at h; omega
theorem wf_i64 {z : Int} (h : (Lit.int .i64 z).wf = true) : -9223372036854775808 ≤ z ∧ z ≤ 9223372036854775807 := by
  simp [Lit.wf, IntKind.min, IntKind.max, IntKind.signed, IntKind.bits] at h; omega

/-- A row of numbers that came in, its first len elements. -/
theorem row_ints {k : IntKind} {w : World} {a : Option Addr} {len cap : Nat} {zs : List Int}
    (h : (a = none ∧ len = 0 ∧ cap = 0 ∧ zs = []) ∨ ∃ x, a = some x ∧ len ≤ cap ∧ cap ≤ maxLen ∧ zs.length = cap ∧ (∀ i, i < zs.length → w.cell? (x.add i) = some (.int k (zs.getD i 0))) ∧ ∀ n ∈ zs, (Lit.int k n).wf = true) :
    (zs.take len).length = len ∧ Cells w a ((zs.take len).map (Value.int k)) ∧ (∀ z ∈ zs.take len, (Lit.int k z).wf = true) ∧ len ≤ cap ∧ cap ≤ maxLen := by
  rcases h with ⟨rfl, rfl, rfl, rfl⟩ | ⟨x, rfl, hl, hm, hz, hc, hw⟩
  · exact ⟨rfl, Cells.nil _ _, by simp, Nat.le_refl _, Nat.zero_le _⟩
  · refine ⟨by rw [List.length_take]; omega, ?_, fun z hz => hw z (List.mem_of_mem_take hz), hl, hm⟩
    by_cases h0 : len = 0
    · subst h0; simp; exact Cells.nil _ _
    · obtain ⟨b, off, spot⟩ := x
      have hs := hc 0 (by omega)
      have hspot : spot = none := by simpa [Addr.add] using World.cell?_spot hs
      subst hspot
      refine .inr ⟨b, off, rfl, fun i v hi => ?_⟩
      rw [List.getElem?_map] at hi
      obtain ⟨z, hz', rfl⟩ := Option.map_eq_some_iff.1 hi
      rw [List.getElem?_take] at hz'
      split at hz'
      · rename_i hlt
        have := hc i (by omega)
        have e : (⟨b, off, none⟩ : Addr).add i = ⟨b, off + i, none⟩ := by unfold Addr.add; split <;> simp_all
        rw [e, List.getD_eq_getElem?_getD, hz'] at this
        exact this
      · simp at hz'

theorem row_nats {k : IntKind} {B : Nat} (hB : ∀ z : Int, (Lit.int k z).wf = true → 0 ≤ z ∧ z < B) {w : World} {a : Option Addr} {len cap : Nat} {zs : List Int}
    (h : (a = none ∧ len = 0 ∧ cap = 0 ∧ zs = []) ∨ ∃ x, a = some x ∧ len ≤ cap ∧ cap ≤ maxLen ∧ zs.length = cap ∧ (∀ i, i < zs.length → w.cell? (x.add i) = some (.int k (zs.getD i 0))) ∧ ∀ n ∈ zs, (Lit.int k n).wf = true) :
    ∃ ws : List Nat, ws.length = len ∧ Cells w a (ws.map (fun n : Nat => Value.int k (n : Int))) ∧ (∀ z ∈ ws, z < B) ∧ len ≤ cap ∧ cap ≤ maxLen := by
  obtain ⟨h1, h2, h3, h4, h5⟩ := row_ints h
  refine ⟨(zs.take len).map Int.toNat, by rw [List.length_map]; exact h1, ?_, ?_, h4, h5⟩
  · have e : ((zs.take len).map Int.toNat).map (fun n : Nat => Value.int k (n : Int)) = (zs.take len).map (Value.int k) := by
      rw [List.map_map]
      apply List.map_congr_left
      intro z hz
      have := hB z (h3 z hz)
      simp only [Function.comp]
      rw [Int.toNat_of_nonneg this.1]
    rw [e]; exact h2
  · intro z hz
    rw [List.mem_map] at hz
    obtain ⟨y, hy, rfl⟩ := hz
    have := hB y (h3 y hy)
    omega

end Go.Proofs.Ytjgdplengfnkaaa
