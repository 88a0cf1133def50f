/- What the reading of an array that came in by value says of its elements, each of one cell. -/
import Derived.Test.YtjgdplengfnkaaaDeep
import Derived.OpenShut
import Derived.Lib.SmallJoins
namespace Go.Proofs.Ytjgdplengfnkaaa
open Go.RowKit Go.ChangeShapes Go.WideShapes
set_option linter.unusedVariables false

section
variable {H : Type} {enc : TypeId × Value → H} {P : Program} {w : World} {base b0 : Nat} {r : Reach} {spare : Nat → Bool} {held : Bool}

theorem open_arr {t e : TypeId} {n : Nat} {v : Value} {d : DataW H} {p : List MemPlace} (hs : P.underlying t = some (.array n e)) (hone : P.cellsOf e = 1) (hC : P.cellsOf t = n)
    (hv : Value.okWide P w r b0 t v) (h : DataW.Trod enc P w base spare held t v d p) :
    ∃ (cs : Array Value) (m : Nat), v = .agg cs ∧ cs.size = n ∧ ∀ (i : Nat) (u : Value), cs[i]? = some u → ∃ y, DataW.trod enc P w base spare held m e [u] = some y := by
  simp only [Value.okWide, hs] at hv
  obtain ⟨cs, rfl, hsz, _⟩ := hv
  obtain ⟨fuel, hf⟩ := h
  obtain ⟨xs, m, _, _, _, hl, hel⟩ := DataW.trod_array hs hf
  refine ⟨cs, m, rfl, hsz.trans hC, fun i u hi => ?_⟩
  have hin : i < n := by have := (Array.getElem?_eq_some_iff.1 hi).1; omega
  have h1 := hel i hin
  have e1 : (((Value.agg cs).cells.toList.drop (i * P.cellsOf e)).take (P.cellsOf e)) = [u] := by
    rw [hone, Nat.mul_one]
    show (cs.toList.drop i).take 1 = [u]
    have hlt : i < cs.toList.length := by simpa using (Array.getElem?_eq_some_iff.1 hi).1
    rw [List.drop_eq_getElem_cons hlt]
    simp
    exact (Array.getElem?_eq_some_iff.1 hi).2
  rw [e1] at h1
  exact ⟨xs[i]'(by omega), by rw [h1]; exact List.getElem?_eq_getElem (by omega)⟩

theorem open_arr1 {t e : TypeId} {v : Value} {d : DataW H} {p : List MemPlace} (hs : P.underlying t = some (.array 1 e)) (hone : P.cellsOf e = 1) (hC : P.cellsOf t = 1)
    (hv : Value.okWide P w r b0 t v) (h : DataW.Trod enc P w base spare held t v d p) :
    ∃ (c0 : Value) (m : Nat) (y0 : DataW H × List MemPlace), v = .agg #[c0] ∧ DataW.trod enc P w base spare held m e [c0] = some y0 := by
  obtain ⟨cs, m, rfl, hsz, he⟩ := open_arr hs hone hC hv h
  obtain ⟨l⟩ := cs
  match l, hsz with
  | [c0], _ =>
    obtain ⟨y0, h0⟩ := he 0 c0 rfl
    exact ⟨c0, m, y0, rfl, h0⟩

theorem open_arr2 {t e : TypeId} {v : Value} {d : DataW H} {p : List MemPlace} (hs : P.underlying t = some (.array 2 e)) (hone : P.cellsOf e = 1) (hC : P.cellsOf t = 2)
    (hv : Value.okWide P w r b0 t v) (h : DataW.Trod enc P w base spare held t v d p) :
    ∃ (c0 c1 : Value) (m : Nat) (y0 y1 : DataW H × List MemPlace), v = .agg #[c0, c1] ∧ DataW.trod enc P w base spare held m e [c0] = some y0 ∧ DataW.trod enc P w base spare held m e [c1] = some y1 := by
  obtain ⟨cs, m, rfl, hsz, he⟩ := open_arr hs hone hC hv h
  obtain ⟨l⟩ := cs
  match l, hsz with
  | [c0, c1], _ =>
    obtain ⟨y0, h0⟩ := he 0 c0 rfl
    obtain ⟨y1, h1⟩ := he 1 c1 rfl
    exact ⟨c0, c1, m, y0, y1, rfl, h0, h1⟩
end

end Go.Proofs.Ytjgdplengfnkaaa
