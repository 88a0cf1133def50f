/- Parts of the proof, one behind the other: Arr, Qf. -/
import Derived.Test.YtpohaahihdhleaaGreatRF10
import Derived.OpenShut
import Derived.Lib.SmallJoins
set_option linter.unusedVariables false
namespace Go.Proofs.YtpohaahihdhleaaGreat
open Go.RowKit Go.ChangeShapes Go.WideShapes
section
variable {H : Type} {enc : TypeId × Value → H} {P : Program} {w : World} {base b0 : Nat} {r : Reach} {spare : Nat → Bool} {held : Bool}
theorem open_arr {t e : TypeId} {n : Nat} {v : Value} {d : DataW H} {p : List MemPlace} (hs : P.underlying t = some (.array n e)) (hone : P.cellsOf e = 1) (hC : P.cellsOf t = n)
  (hv : Value.okWide P w r b0 t v) (h : DataW.Trod enc P w base spare held t v d p) :
  ∃ (cs : Array Value) (m : Nat), v = .agg cs ∧ cs.size = n ∧ ∀ (i : Nat) (u : Value), cs[i]? = some u → ∃ y, DataW.trod enc P w base spare held m e [u] = some y := by
 simp only [Value.okWide, hs] at hv
 obtain ⟨cs, rfl, hsz, _⟩ := hv
 obtain ⟨fuel, hf⟩ := h
 obtain ⟨xs, m, _, _, _, hl, hel⟩ := DataW.trod_array hs hf
 refine ⟨cs, m, rfl, hsz.trans hC, fun i u hi => ?_⟩
 have hin : i < n := by have := (Array.getElem?_eq_some_iff.1 hi).1; omega
 have h1 := hel i hin
 have e1 : (((Value.agg cs).cells.toList.drop (i * P.cellsOf e)).take (P.cellsOf e)) = [u] := by
  rw [hone, Nat.mul_one]
  show (cs.toList.drop i).take 1 = [u]
  have hlt : i < cs.toList.length := by simpa using (Array.getElem?_eq_some_iff.1 hi).1
  rw [List.drop_eq_getElem_cons hlt]
  simp
  exact (Array.getElem?_eq_some_iff.1 hi).2
 rw [e1] at h1
 exact ⟨xs[i]'(by omega), by rw [h1]; exact List.getElem?_eq_getElem (by omega)⟩
theorem open_arr2 {t e : TypeId} {v : Value} {d : DataW H} {p : List MemPlace} (hs : P.underlying t = some (.array 2 e)) (hone : P.cellsOf e = 1) (hC : P.cellsOf t = 2)
  (hv : Value.okWide P w r b0 t v) (h : DataW.Trod enc P w base spare held t v d p) :
  ∃ (c0 c1 : Value) (m : Nat) (y0 y1 : DataW H × List MemPlace), v = .agg #[c0, c1] ∧ DataW.trod enc P w base spare held m e [c0] = some y0 ∧ DataW.trod enc P w base spare held m e [c1] = some y1 := by
 obtain ⟨cs, m, rfl, hsz, he⟩ := open_arr hs hone hC hv h
 obtain ⟨l⟩ := cs
 match l, hsz with
 | [c0, c1], _ =>
  obtain ⟨y0, h0⟩ := he 0 c0 rfl
  obtain ⟨y1, h1⟩ := he 1 c1 rfl
  exact ⟨c0, c1, m, y0, y1, rfl, h0, h1⟩
end
end Go.Proofs.YtpohaahihdhleaaGreat
namespace Go.Proofs.YtpohaahihdhleaaGreat
open Go.RowKit Go.ChangeShapes Go.WideShapes Go.Deep
section
variable {H : Type} {enc : TypeId × Value → H} {P : Program} {w : World} {base : Nat} {spare : Nat → Bool} {held : Bool}
theorem wf_u8b {x : Int} (h : (Lit.int .u8 x).wf = true) : 0 ≤ x ∧ x ≤ 255 := by
 simp [Lit.wf, IntKind.min, IntKind.max, IntKind.bits, IntKind.signed] at h
 omega
theorem byte_read {T : TypeId} {fuel : Nat} {c : Value} {z : DataW H × List MemPlace} (hT : P.underlying T = some (.int .u8)) (hz : DataW.trod enc P w base spare held fuel T [c] = some z) : ∃ x : Int, c = .int .u8 x ∧ 0 ≤ x ∧ x ≤ 255 := by
 obtain ⟨x, hx, _, hw⟩ := DataW.trod_int hT hz
 exact ⟨x, by simpa using hx, wf_u8b hw⟩
end
end Go.Proofs.YtpohaahihdhleaaGreat
