/- What an argument's reading says of its cells: slices of numbers, slices of structs. -/
import Derived.Test.YtjgdplengfnkaaaIn
import Derived.Deep.Slices
import Derived.Deep.Fields
import Derived.ChangeSame
namespace Go.Proofs.Ytjgdplengfnkaaa
open Go.RowKit Go.ChangeShapes Go.WideShapes Go.Deep
set_option linter.unusedVariables false

section
variable {H : Type} {enc : TypeId × Value → H} {P : Program} {w : World} {base : Nat} {spare : Nat → Bool} {held : Bool}

/-- A slice of numbers. -/
theorem ints_read {t e : TypeId} {k : IntKind} {fuel : Nat} {v : Value} {y : DataW H × List MemPlace} (ht : P.underlying t = some (.slice e)) (he : P.underlying e = some (.int k)) (hc : P.cellsOf e = 1)
    (h : DataW.trod enc P w base spare held fuel t [v] = some y) :
    ∃ (a : Option Addr) (len cap : Nat) (zs : List Int), v = .slice a len cap ∧ zs.length = len ∧ Cells w a (zs.map (Value.int k)) ∧ (∀ z ∈ zs, (Lit.int k z).wf = true) ∧ len ≤ cap ∧ cap ≤ maxLen := by
  rcases open_ints ht he hc h with ⟨hcs, _⟩ | ⟨x, l, c, zs, hcs, _, hl, hm, hz, _, hcell, hwz⟩
  · simp at hcs
    exact ⟨none, 0, 0, [], hcs, rfl, Cells.nil _ _, by simp, Nat.le_refl _, Nat.zero_le _⟩
  · simp at hcs
    have hzl : l ≤ zs.length := by rw [hz]; split <;> omega
    refine ⟨some x, l, c, zs.take l, hcs, by rw [List.length_take]; omega, ?_, fun z hz => hwz z (List.mem_of_mem_take hz), hl, hm⟩
    by_cases h0 : l = 0
    · subst h0; simp; exact Cells.nil _ _
    · obtain ⟨b, off, spot⟩ := x
      have hs := hcell 0 (by omega)
      have hspot : spot = none := by simpa [Addr.add] using World.cell?_spot hs
      subst hspot
      refine .inr ⟨b, off, rfl, fun i v hi => ?_⟩
      rw [List.getElem?_map] at hi
      obtain ⟨z, hz', rfl⟩ := Option.map_eq_some_iff.1 hi
      rw [List.getElem?_take] at hz'
      split at hz'
      · rename_i hlt
        have := hcell i (by omega)
        have e : (⟨b, off, none⟩ : Addr).add i = ⟨b, off + i, none⟩ := by unfold Addr.add; split <;> simp_all
        rw [e, List.getD_eq_getElem?_getD, hz'] at this
        exact this
      · simp at hz'

/-- .. of unsigned ones. -/
theorem nats_read {t e : TypeId} {k : IntKind} {B : Nat} (hB : ∀ z : Int, (Lit.int k z).wf = true → 0 ≤ z ∧ z < B) {fuel : Nat} {v : Value} {y : DataW H × List MemPlace} (ht : P.underlying t = some (.slice e)) (he : P.underlying e = some (.int k)) (hc : P.cellsOf e = 1)
    (h : DataW.trod enc P w base spare held fuel t [v] = some y) :
    ∃ (a : Option Addr) (len cap : Nat) (zs : List Nat), v = .slice a len cap ∧ zs.length = len ∧ Cells w a (zs.map (fun n : Nat => Value.int k (n : Int))) ∧ (∀ z ∈ zs, z < B) ∧ len ≤ cap ∧ cap ≤ maxLen := by
  obtain ⟨a, len, cap, zs, hv, hl, hcs, hw, h1, h2⟩ := ints_read ht he hc h
  refine ⟨a, len, cap, zs.map Int.toNat, hv, by rw [List.length_map]; exact hl, ?_, ?_, h1, h2⟩
  · have e : (zs.map Int.toNat).map (fun n : Nat => Value.int k (n : Int)) = zs.map (Value.int k) := by
      rw [List.map_map]
      apply List.map_congr_left
      intro z hz
      have := hB z (hw z hz)
      simp only [Function.comp]
      rw [Int.toNat_of_nonneg this.1]
    rw [e]; exact hcs
  · intro z hz
    rw [List.mem_map] at hz
    obtain ⟨y, hy, rfl⟩ := hz
    have := hB y (hw y hy)
    omega

/-- A slice of structs of one-cell fields: each field's cell, and its own reading. -/
theorem structs_read {t e : TypeId} {fs : Array Field} {fuel : Nat} {v : Value} {y : DataW H × List MemPlace} (ht : P.underlying t = some (.slice e)) (he : P.underlying e = some (.struct fs))
    (hone : oneCellFields P fs = true) (hC : P.cellsOf e = fs.size) (hpos : 0 < fs.size) (h : DataW.trod enc P w base spare held fuel t [v] = some y) :
    ∃ (a : Option Addr) (len cap : Nat) (n : Nat → Nat), v = .slice a len cap ∧ len ≤ cap ∧ cap ≤ maxLen ∧ (len = 0 ∨ ∃ b off, a = some ⟨b, off, none⟩ ∧ ∀ i, i < len → ∀ (j : Nat) (f : Field), fs[j]? = some f →
      ∃ (u : Value) (z : DataW H × List MemPlace), w.cell? ⟨b, off + (i * fs.size + j), none⟩ = some u ∧ DataW.trod enc P w base spare held (n i) f.type [u] = some z) := by
  rcases open_slice ht h with ⟨hcs, _⟩ | ⟨a, len, cap, m, n, D, Pl, hcs, _, hl, hm, hmm, _, hi⟩
  · simp at hcs
    exact ⟨none, 0, 0, fun _ => 0, hcs, Nat.le_refl _, Nat.zero_le _, .inl rfl⟩
  · simp at hcs
    have hlm : len ≤ m := by rw [hmm]; split <;> omega
    by_cases h0 : len = 0
    · exact ⟨some a, len, cap, fun _ => 0, hcs, hl, hm, .inl h0⟩
    have each : ∀ i, i < len → ∃ n', ∀ (j : Nat) (f : Field), fs[j]? = some f → ∃ (u : Value) (z : DataW H × List MemPlace), w.cell? (a.add (i * fs.size + j)) = some u ∧ DataW.trod enc P w base spare held n' f.type [u] = some z := by
      intro i hil
      obtain ⟨cs', hc, ht'⟩ := hi i (by omega)
      rw [hC] at hc
      obtain ⟨ys, n', _, _, _, hyl, hf⟩ := DataW.trod_struct he ht'
      obtain ⟨_, hcl, hat⟩ := World.cells?_some hc
      refine ⟨n', fun j f hj => ?_⟩
      obtain ⟨ho, hk⟩ := hone_of hone j f hj
      have hjl : j < fs.size := (Array.getElem?_eq_some_iff.1 hj).1
      have hcell := hat j hjl
      have hv : cs'[j]? = some (cs'[j]'(by omega)) := List.getElem?_eq_getElem (by omega)
      have h1 := hf j f hj
      rw [ho, hk] at h1
      have hone' : (cs'.drop j).take 1 = [cs'[j]'(by omega)] := by
        rw [List.drop_eq_getElem_cons (by omega)]
        rfl
      rw [hone'] at h1
      have hys : ys[j]? = some (ys[j]'(by omega)) := List.getElem?_eq_getElem (by omega)
      refine ⟨_, _, ?_, h1.trans hys⟩
      rw [← Go.Deep.add_add, hcell, hv]
    obtain ⟨nf, hnf⟩ := choose_lt each
    obtain ⟨f0, hf0⟩ : ∃ f0, fs[0]? = some f0 := ⟨fs[0], by simp [hpos]⟩
    obtain ⟨u, _, hu, _⟩ := hnf 0 (by omega) 0 f0 hf0
    obtain ⟨b, off, spot⟩ := a
    have hspot : spot = none := by simpa [Addr.add] using World.cell?_spot hu
    subst hspot
    refine ⟨_, len, cap, nf, hcs, hl, hm, .inr ⟨b, off, rfl, fun i hil j f hj => ?_⟩⟩
    obtain ⟨u, z, hu, hz⟩ := hnf i hil j f hj
    have e : (⟨b, off, none⟩ : Addr).add (i * fs.size + j) = ⟨b, off + (i * fs.size + j), none⟩ := by unfold Addr.add; split <;> simp_all
    rw [e] at hu
    exact ⟨u, z, hu, hz⟩
end

end Go.Proofs.Ytjgdplengfnkaaa
