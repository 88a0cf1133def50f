/- Spans of free blocks: the plain law. -/
import Derived.Test.YtjgdplengfnkaaaSa
namespace Go.Proofs.Ytjgdplengfnkaaa
open Go.RowKit
set_option linter.unusedVariables false

/-- A span: its first block, how many. -/
abbrev Sp := Nat × Nat
def spCs (l : List Sp) : List Value := l.flatMap fun s => [.int .i64 s.1, .int .i64 s.2]
theorem spCs_length (l : List Sp) : (spCs l).length = 2 * l.length := by
  induction l with
  | nil => rfl
  | cons h l ih => simp only [spCs, List.flatMap_cons, List.length_append, List.length_cons] at *; rw [ih]; simp; omega
theorem spCs_append (l m : List Sp) : spCs (l ++ m) = spCs l ++ spCs m := by simp [spCs]
theorem spCs_last (l : List Sp) (s n : Nat) : (spCs (l ++ [(s, n)]))[l.length * 2]? = some (.int .i64 (s : Int)) ∧ (spCs (l ++ [(s, n)]))[l.length * 2 + 1]? = some (.int .i64 (n : Int)) := by
  have hl := spCs_length l
  rw [spCs_append]
  constructor
  · rw [List.getElem?_append_right (by omega), show l.length * 2 - (spCs l).length = 0 by omega]; rfl
  · rw [List.getElem?_append_right (by omega), show l.length * 2 + 1 - (spCs l).length = 1 by omega]; rfl
theorem spCs_bump (l : List Sp) (s n m : Nat) : (spCs (l ++ [(s, n)])).set (l.length * 2 + 1) (.int .i64 (m : Int)) = spCs (l ++ [(s, m)]) := by
  have hl := spCs_length l
  rw [spCs_append, spCs_append, List.set_append_right _ _ (by omega), show l.length * 2 + 1 - (spCs l).length = 1 by omega]
  rfl

def bump (l : List Sp) : List Sp := match l.getLast? with
  | none => l
  | some s => l.dropLast ++ [(s.1, s.2 + 1)]
theorem bump_last (l : List Sp) (s n : Nat) : bump (l ++ [(s, n)]) = l ++ [(s, n + 1)] := by simp [bump]
/-- Spans of free blocks below b. -/
def spanL (ks : Nat → Bool) : Nat → List Sp
  | 0 => []
  | b + 1 => if b = 0 ∨ ks b = false then spanL ks b else if 1 < b ∧ ks (b - 1) = true then bump (spanL ks b) else spanL ks b ++ [(b, 1)]
/-- The last span ends at b, or ahead of it. -/
theorem spanL_last (ks : Nat → Bool) (b : Nat) (hb : 1 ≤ b) : if 1 < b ∧ ks (b - 1) = true then ∃ l s n, spanL ks b = l ++ [(s, n)] ∧ s + n = b ∧ l.length < b else (spanL ks b = [] ∨ ∃ l s n, spanL ks b = l ++ [(s, n)] ∧ s + n < b ∧ l.length < b) := by
  induction b with
  | zero => omega
  | succ b ih =>
    by_cases h0 : b = 0
    · subst h0; rw [if_neg (by omega)]; left; rfl
    have ih := ih (by omega)
    rw [Nat.add_sub_cancel]
    by_cases hk : ks b = true
    · rw [if_pos ⟨by omega, hk⟩]
      by_cases hp : 1 < b ∧ ks (b - 1) = true
      · rw [if_pos hp] at ih
        obtain ⟨l, s, n, h1, h2, h3⟩ := ih
        refine ⟨l, s, n + 1, ?_, by omega, by omega⟩
        rw [spanL, if_neg (by simp [h0, hk]), if_pos hp, h1, bump_last]
      · rw [if_neg hp] at ih
        refine ⟨spanL ks b, b, 1, ?_, rfl, ?_⟩
        · rw [spanL, if_neg (by simp [h0, hk]), if_neg hp]
        · rcases ih with h | ⟨l, s, n, h1, h2, h3⟩
          · rw [h]; simp
          · rw [h1]; simp; omega
    · have hk' : ks b = false := by simpa using hk
      rw [if_neg (by simp [hk'])]
      have he : spanL ks (b + 1) = spanL ks b := by rw [spanL, if_pos (.inr hk')]
      rw [he]
      split at ih
      · obtain ⟨l, s, n, h1, h2, h3⟩ := ih
        exact .inr ⟨l, s, n, h1, by omega, by omega⟩
      · rcases ih with h | ⟨l, s, n, h1, h2, h3⟩
        · exact .inl h
        · exact .inr ⟨l, s, n, h1, by omega, by omega⟩
theorem spanL_len (ks : Nat → Bool) (b : Nat) : (spanL ks b).length ≤ b := by
  induction b with
  | zero => simp [spanL]
  | succ b ih =>
    unfold spanL
    split
    · omega
    · split
      · unfold bump
        split
        · omega
        · simp; omega
      · simp; omega

def freeAt (l : List Hd) (b : Nat) : Bool := (l.getD b default).k == 0
def spansOf (l : List Hd) : List Sp := spanL (freeAt l) l.length

end Go.Proofs.Ytjgdplengfnkaaa
