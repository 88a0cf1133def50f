/- Parts of the proof, one behind the other: Va, Vb, Vc, Vd, Ve, Im, Io, Ip, Row, Ra, Reg, Aa. -/
import Derived.Maps.OwnOps
import Derived.Maps.RangeWalk
import Derived.Maps.OwnSet
import Derived.Maps.Views
import Derived.WideKeyEntry
import Derived.Test.YtlaaamaaabcfeaaRows
import Derived.WalkKit
import Derived.WalkSpells
import Derived.WalkLawsBesides
import Derived.Lib.Hide
import Derived.Deep.Onto
import Derived.Lib.ConvBytes
import Derived.Laws.AppendOwnNone
import Derived.Deep.WholeRow
import Derived.Laws.BytesArg
import Derived.Deep.QuietTactic
import Derived.BigQuiet
import Derived.OwnWalk
import Derived.Laws.CopyOwn

/- Plain: runs of free blocks. -/
namespace Go.Proofs.Ytlaaamaaabcfeaa
set_option linter.unusedVariables false

/-- A run of free blocks that touches no other one. -/
def IsRun (f : Nat → Bool) (s n : Nat) : Prop :=
  1 ≤ n ∧ (∀ b, s ≤ b → b < s + n → f b = true) ∧ (∀ b, b + 1 = s → f b = false) ∧ f (s + n) = false

theorem IsRun.meet {f : Nat → Bool} {s n s' n' b : Nat} (h : IsRun f s n) (h' : IsRun f s' n') (h1 : s ≤ b) (h2 : b < s + n) (h3 : s' ≤ b) (h4 : b < s' + n') : s = s' ∧ n = n' := by
  obtain ⟨hn, ha, hb, hc⟩ := h
  obtain ⟨hn', ha', hb', hc'⟩ := h'
  have es : s = s' := by
    rcases Nat.lt_trichotomy s s' with hlt | he | hlt
    · have x := hb' (s' - 1) (by omega)
      have y := ha (s' - 1) (by omega) (by omega)
      rw [x] at y; cases y
    · exact he
    · have x := hb (s - 1) (by omega)
      have y := ha' (s - 1) (by omega) (by omega)
      rw [x] at y; cases y
  subst es
  refine ⟨rfl, ?_⟩
  rcases Nat.lt_trichotomy n n' with hlt | he | hlt
  · have y := ha' (s + n) (by omega) (by omega)
    rw [hc] at y; cases y
  · exact he
  · have y := ha (s + n') (by omega) (by omega)
    rw [hc'] at y; cases y

theorem IsRun.one {f : Nat → Bool} {s n n' : Nat} (h : IsRun f s n) (h' : IsRun f s n') : n = n' :=
  (h.meet h' (b := s) (Nat.le_refl _) (by have := h.1; omega) (Nat.le_refl _) (by have := h'.1; omega)).2

theorem IsRun.back {f : Nat → Bool} {s n s' n' : Nat} (h : IsRun f s n) (h' : IsRun f s' n') (he : s + n = s' + n') : s = s' ∧ n = n' :=
  h.meet h' (b := s + n - 1) (by have := h.1; omega) (by have := h.1; omega) (by have := h'.1; omega) (by have := h'.1; omega)

theorem run_start (f : Nat → Bool) : ∀ b, f b = true → ∃ s, s ≤ b ∧ (∀ x, s ≤ x → x ≤ b → f x = true) ∧ ∀ x, x + 1 = s → f x = false
  | 0, h => ⟨0, Nat.le_refl _, fun x _ hx => by rw [show x = 0 by omega]; exact h, fun x hx => by omega⟩
  | b + 1, h => by
    cases hb : f b with
    | false => exact ⟨b + 1, Nat.le_refl _, fun x h1 h2 => by rw [show x = b + 1 by omega]; exact h, fun x hx => by rw [show x = b by omega]; exact hb⟩
    | true =>
      obtain ⟨s, h1, h2, h3⟩ := run_start f b hb
      refine ⟨s, by omega, fun x hx hx' => ?_, h3⟩
      by_cases hxe : x = b + 1
      · rw [hxe]; exact h
      · exact h2 x hx (by omega)

theorem run_end (f : Nat → Bool) (L : Nat) (hL : f L = false) : ∀ k b, b + k = L → f b = true → ∃ e, b < e ∧ (∀ x, b ≤ x → x < e → f x = true) ∧ f e = false
  | 0, b, hb, h => by rw [show b = L by omega, hL] at h; cases h
  | k + 1, b, hb, h => by
    cases hn : f (b + 1) with
    | false => exact ⟨b + 1, by omega, fun x h1 h2 => by rw [show x = b by omega]; exact h, hn⟩
    | true =>
      obtain ⟨e, h1, h2, h3⟩ := run_end f L hL k (b + 1) (by omega) hn
      refine ⟨e, by omega, fun x hx hx' => ?_, h3⟩
      by_cases hxe : x = b
      · rw [hxe]; exact h
      · exact h2 x (by omega) hx'

theorem has_run {f : Nat → Bool} {L b : Nat} (hL : ∀ x, L ≤ x → f x = false) (h : f b = true) : ∃ s n, IsRun f s n ∧ s ≤ b ∧ b < s + n := by
  have hb : b < L := by
    rcases Nat.lt_or_ge b L with h1 | h1
    · exact h1
    · rw [hL b h1] at h; cases h
  obtain ⟨s, h1, h2, h3⟩ := run_start f b h
  obtain ⟨e, h4, h5, h6⟩ := run_end f L (hL L (Nat.le_refl _)) (L - b) b (by omega) h
  refine ⟨s, e - s, ⟨by omega, fun x hx hx' => ?_, h3, by rw [show s + (e - s) = e by omega]; exact h6⟩, h1, by omega⟩
  rcases Nat.lt_or_ge b x with hbx | hbx
  · exact h5 x (by omega) (by omega)
  · exact h2 x hx hbx

/-- Blocks that were not free are: they join what they touch. -/
theorem give_run {f f' : Nat → Bool} {a m s0 e0 : Nat} (hm : 1 ≤ m) (h0 : ∀ b, a ≤ b → b < a + m → f b = false)
    (hin : ∀ b, a ≤ b → b < a + m → f' b = true) (hout : ∀ b, b < a ∨ a + m ≤ b → f' b = f b)
    (hs : s0 = a ∧ (∀ b, b + 1 = a → f b = false) ∨ s0 < a ∧ IsRun f s0 (a - s0))
    (he : e0 = a + m ∧ f (a + m) = false ∨ a + m < e0 ∧ IsRun f (a + m) (e0 - (a + m))) (s n : Nat) :
    IsRun f' s n ↔ (s = s0 ∧ n = e0 - s0) ∨ (IsRun f s n ∧ s + n ≠ a ∧ s ≠ a + m) := by
  have hs0 : s0 ≤ a := by rcases hs with ⟨h, _⟩ | ⟨h, _⟩ <;> omega
  have he0 : a + m ≤ e0 := by rcases he with ⟨h, _⟩ | ⟨h, _⟩ <;> omega
  have hfe : f e0 = false := by
    rcases he with ⟨h, h'⟩ | ⟨h, _, _, _, h'⟩
    · rw [h]; exact h'
    · rw [show e0 = a + m + (e0 - (a + m)) by omega]; exact h'
  have hfs : ∀ b, b + 1 = s0 → f b = false := by
    rcases hs with ⟨h, h'⟩ | ⟨h, _, _, h', _⟩
    · rw [h]; exact h'
    · exact h'
  have hnew : IsRun f' s0 (e0 - s0) := by
    refine ⟨by omega, fun b h1 h2 => ?_, fun b hb => by rw [hout b (by omega)]; exact hfs b hb, by rw [show s0 + (e0 - s0) = e0 by omega, hout e0 (by omega)]; exact hfe⟩
    rcases Nat.lt_or_ge b a with h3 | h3
    · rw [hout b (by omega)]
      rcases hs with ⟨h, _⟩ | ⟨h, _, h', _⟩
      · omega
      · exact h' b h1 (by omega)
    · rcases Nat.lt_or_ge b (a + m) with h4 | h4
      · exact hin b h3 h4
      · rw [hout b (by omega)]
        rcases he with ⟨h, _⟩ | ⟨h, _, h', _⟩
        · omega
        · exact h' b h4 (by omega)
  have hold : ∀ s n, IsRun f s n → s + n ≤ a ∨ a + m ≤ s := by
    intro s n ⟨h1, h2, _, _⟩
    rcases Nat.lt_or_ge a (s + n) with h5 | h5
    · rcases Nat.lt_or_ge s (a + m) with h6 | h6
      · by_cases h7 : a ≤ s
        · have := h2 s (Nat.le_refl _) (by omega); rw [h0 s h7 h6] at this; cases this
        · have := h2 a (by omega) h5; rw [h0 a (Nat.le_refl _) (by omega)] at this; cases this
      · exact .inr h6
    · exact .inl h5
  constructor
  · intro h
    by_cases hc : s < e0 ∧ s0 < s + n
    · left
      have hb : ∃ b, s ≤ b ∧ b < s + n ∧ s0 ≤ b ∧ b < s0 + (e0 - s0) := by
        have := h.1
        by_cases hx : s0 ≤ s
        · exact ⟨s, by omega, by omega, hx, by omega⟩
        · exact ⟨s0, by omega, by omega, by omega, by omega⟩
      obtain ⟨b, h1, h2, h3, h4⟩ := hb
      exact h.meet hnew h1 h2 h3 h4
    · right
      obtain ⟨h1, h2, h3, h4⟩ := h
      have hne : s ≠ e0 := by
        rintro rfl
        have := h2 _ (Nat.le_refl _) (by omega); rw [hout _ (by omega), hfe] at this; cases this
      have hne' : s + n ≠ s0 := by
        intro e
        have := h2 (s0 - 1) (by omega) (by omega); rw [hout _ (by omega), hfs (s0 - 1) (by omega)] at this; cases this
      have hfar : e0 < s ∨ s + n < s0 := by omega
      refine ⟨⟨h1, fun b hb hb' => by rw [← hout b (by omega)]; exact h2 b hb hb', fun b hb => by rw [← hout b (by omega)]; exact h3 b hb, by rw [← hout _ (by omega)]; exact h4⟩, by omega, by omega⟩
  · rintro (⟨rfl, rfl⟩ | ⟨h, h1, h2⟩)
    · exact hnew
    · have ho := hold s n h
      obtain ⟨h3, h4, h5, h6⟩ := h
      refine ⟨h3, fun b hb hb' => by rw [hout b (by omega)]; exact h4 b hb hb', fun b hb => by rw [hout b (by omega)]; exact h5 b hb, ?_⟩
      rw [hout _ (by omega)]; exact h6

/-- The first ones of a run are free no more. -/
theorem take_run {f f' : Nat → Bool} {a k m : Nat} (hr : IsRun f a k) (hm : 1 ≤ m) (hk : m ≤ k)
    (hin : ∀ b, a ≤ b → b < a + m → f' b = false) (hout : ∀ b, b < a ∨ a + m ≤ b → f' b = f b) (s n : Nat) :
    IsRun f' s n ↔ (m < k ∧ s = a + m ∧ n = k - m) ∨ (IsRun f s n ∧ s ≠ a) := by
  have hold : ∀ s n, IsRun f s n → s ≠ a → s + n < a ∨ a + k < s := by
    intro s n h hs
    rcases Nat.lt_or_ge (s + n) a with h1 | h1
    · exact .inl h1
    · rcases Nat.lt_or_ge (a + k) s with h2 | h2
      · exact .inr h2
      · exfalso
        have hn := h.1
        have hk1 := hr.1
        by_cases e1 : s + n = a
        · have := h.2.1 (a - 1) (by omega) (by omega); rw [hr.2.2.1 (a - 1) (by omega)] at this; cases this
        · by_cases e2 : s = a + k
          · have := h.2.1 s (by omega) (by omega); rw [e2, hr.2.2.2] at this; cases this
          · by_cases h3 : a ≤ s
            · exact hs (h.meet hr (b := s) (by omega) (by omega) h3 (by omega)).1
            · exact hs (h.meet hr (b := a) (by omega) (by omega) (by omega) (by omega)).1
  constructor
  · intro h
    obtain ⟨h1, h2, h3, h4⟩ := h
    have hno : ∀ b, s ≤ b → b < s + n → b < a ∨ a + m ≤ b := by
      intro b hb hb'
      rcases Nat.lt_or_ge b a with h5 | h5
      · exact .inl h5
      · rcases Nat.lt_or_ge b (a + m) with h6 | h6
        · have := h2 b hb hb'; rw [hin b h5 h6] at this; cases this
        · exact .inr h6
    by_cases hs : s < a
    · right
      have hle : s + n ≤ a := by
        rcases Nat.lt_or_ge a (s + n) with h5 | h5
        · have := hno a (by omega) h5; omega
        · exact h5
      have hlt : s + n ≠ a := by
        intro e
        have x := h2 (a - 1) (by omega) (by omega)
        rw [hout _ (by omega), hr.2.2.1 (a - 1) (by omega)] at x; cases x
      exact ⟨⟨h1, fun b hb hb' => by rw [← hout b (by omega)]; exact h2 b hb hb', fun b hb => by rw [← hout b (by omega)]; exact h3 b hb, by rw [← hout _ (by omega)]; exact h4⟩, by omega⟩
    · have hge : a + m ≤ s := by have := hno s (Nat.le_refl _) (by omega); omega
      by_cases he : s = a + m
      · left
        have hmk : m < k := by
          rcases Nat.lt_or_ge m k with h5 | h5
          · exact h5
          · have e : m = k := by omega
            have x := h2 s (Nat.le_refl _) (by omega)
            rw [hout s (by omega), he, e, hr.2.2.2] at x; cases x
        have hnew : IsRun f' (a + m) (k - m) := by
          refine ⟨by omega, fun b hb hb' => by rw [hout b (by omega)]; exact hr.2.1 b (by omega) (by omega), fun b hb => hin b (by omega) (by omega), by rw [show a + m + (k - m) = a + k by omega, hout _ (by omega)]; exact hr.2.2.2⟩
        subst he
        exact ⟨hmk, rfl, IsRun.one ⟨h1, h2, h3, h4⟩ hnew⟩
      · right
        refine ⟨⟨h1, fun b hb hb' => by rw [← hout b (by omega)]; exact h2 b hb hb', fun b hb => by rw [← hout b (by omega)]; exact h3 b hb, by rw [← hout _ (by omega)]; exact h4⟩, by omega⟩
  · rintro (⟨h1, rfl, rfl⟩ | ⟨h, hs⟩)
    · exact ⟨by omega, fun b hb hb' => by rw [hout b (by omega)]; exact hr.2.1 b (by omega) (by omega), fun b hb => hin b (by omega) (by omega), by rw [show a + m + (k - m) = a + k by omega, hout _ (by omega)]; exact hr.2.2.2⟩
    · have ho := hold s n h hs
      have hk1 := hr.1
      obtain ⟨h3, h4, h5, h6⟩ := h
      exact ⟨h3, fun b hb hb' => by rw [hout b (by omega)]; exact h4 b hb hb', fun b hb => by rw [hout b (by omega)]; exact h5 b hb, by rw [hout _ (by omega)]; exact h6⟩

end Go.Proofs.Ytlaaamaaabcfeaa

/- Plain: the list of runs. -/
namespace Go.Proofs.Ytlaaamaaabcfeaa
set_option linter.unusedVariables false

def cutAt (f : Nat → Bool) (L b : Nat) : Bool := decide (b < L) && f b

/-- The runs among the first blocks. -/
def runsTo (f : Nat → Bool) : Nat → List (Nat × Nat)
  | 0 => []
  | b + 1 => if f b then
      if 0 < b ∧ f (b - 1) = true then
        match (runsTo f b).getLast? with
        | none => []
        | some x => (runsTo f b).dropLast ++ [(x.1, x.2 + 1)]
      else runsTo f b ++ [(b, 1)]
    else runsTo f b

def Rising (l : List (Nat × Nat)) : Prop := l.Pairwise fun x y => x.1 < y.1

structure IsRuns (f : Nat → Bool) (l : List (Nat × Nat)) : Prop where
  rising : Rising l
  mem : ∀ s n, (s, n) ∈ l ↔ IsRun f s n

theorem isRuns_congr {f g : Nat → Bool} {l : List (Nat × Nat)} (h : IsRuns f l) (hfg : ∀ b, f b = g b) : IsRuns g l := by
  have : f = g := funext hfg
  rw [← this]; exact h

theorem runsTo_step {f f' : Nat → Bool} {l : List (Nat × Nat)} {L : Nat} (h : IsRuns f l) (h0 : ∀ b, L ≤ b → f b = false)
    (hin : f' L = true) (hout : ∀ b, b ≠ L → f' b = f b) :
    IsRuns f' (if 0 < L ∧ f (L - 1) = true then
        match l.getLast? with
        | none => []
        | some x => l.dropLast ++ [(x.1, x.2 + 1)]
      else l ++ [(L, 1)]) := by
  have hlt : ∀ s n, (s, n) ∈ l → s < L := by
    intro s n hm
    have hr := (h.mem s n).1 hm
    rcases Nat.lt_or_ge s L with h1 | h1
    · exact h1
    · have := hr.2.1 s (Nat.le_refl _) (by have := hr.1; omega); rw [h0 s h1] at this; cases this
  split
  · rename_i hc
    obtain ⟨s0, n0, hr0, hs0, he0⟩ := has_run h0 hc.2
    have hend : s0 + n0 = L := by
      rcases Nat.lt_or_ge L (s0 + n0) with h1 | h1
      · have := hr0.2.1 L (by omega) h1; rw [h0 L (Nat.le_refl _)] at this; cases this
      · omega
    have hm0 := (h.mem s0 n0).2 hr0
    obtain ⟨q, x, hq⟩ : ∃ q x, l = q ++ [x] := by
      rcases List.eq_nil_or_concat l with e | ⟨q, x, e⟩
      · rw [e] at hm0; exact absurd hm0 (by simp)
      · exact ⟨q, x, by rw [e]; simp⟩
    have hx : x = (s0, n0) := by
      rw [hq] at hm0
      rcases List.mem_append.1 hm0 with h1 | h1
      · exfalso
        have hp := h.rising
        unfold Rising at hp
        rw [hq] at hp
        have h2 : s0 < x.1 := (List.pairwise_append.1 hp).2.2 _ h1 x (by simp)
        have hxm : (x.1, x.2) ∈ l := by rw [hq]; simp
        have h3 := hlt _ _ hxm
        have hrx := (h.mem _ _).1 hxm
        have := hrx.1
        have := (hr0.meet hrx (b := x.1) (by omega) (by omega) (Nat.le_refl _) (by omega)).1
        omega
      · exact (List.mem_singleton.1 h1).symm
    subst hx
    have hG := fun s n => give_run (f := f) (f' := f') (a := L) (m := 1) (s0 := s0) (e0 := L + 1) (Nat.le_refl _) (fun b h1 _ => h0 b h1)
      (fun b h1 h2 => by rw [show b = L by omega]; exact hin) (fun b hb => hout b (by omega)) (.inr ⟨by omega, by rw [show L - s0 = n0 by omega]; exact hr0⟩) (.inl ⟨rfl, h0 _ (by omega)⟩) s n
    rw [hq, List.getLast?_concat]
    simp only [List.dropLast_concat]
    have hp := h.rising
    unfold Rising at hp
    rw [hq] at hp
    constructor
    · exact List.pairwise_append.2 ⟨(List.pairwise_append.1 hp).1, by simp, fun y hy z hz => by
        rw [List.mem_singleton.1 hz]; exact (List.pairwise_append.1 hp).2.2 y hy (s0, n0) (by simp)⟩
    · intro s n
      rw [hG s n]
      constructor
      · intro hm
        rcases List.mem_append.1 hm with h1 | h1
        · right
          have hr := (h.mem s n).1 (by rw [hq]; simp [h1])
          have h2 : s < s0 := (List.pairwise_append.1 hp).2.2 _ h1 (s0, n0) (by simp)
          refine ⟨hr, ?_, by omega⟩
          intro e
          have := (hr.back hr0 (by omega)).1
          omega
        · left
          have := List.mem_singleton.1 h1
          injection this with e1 e2
          omega
      · rintro (⟨rfl, rfl⟩ | ⟨hr, h1, _⟩)
        · exact List.mem_append.2 (.inr (by rw [show L + 1 - s = n0 + 1 by omega]; simp))
        · have hm := (h.mem s n).2 hr
          rw [hq] at hm
          rcases List.mem_append.1 hm with h2 | h2
          · exact List.mem_append.2 (.inl h2)
          · have := List.mem_singleton.1 h2
            injection this with e1 e2
            omega
  · rename_i hc
    have hfl : ∀ b, b + 1 = L → f b = false := by
      intro b hb
      cases hv : f b with
      | false => rfl
      | true => exact absurd ⟨by omega, by rw [show L - 1 = b by omega]; exact hv⟩ hc
    have hG := fun s n => give_run (f := f) (f' := f') (a := L) (m := 1) (s0 := L) (e0 := L + 1) (Nat.le_refl _) (fun b h1 _ => h0 b h1)
      (fun b h1 h2 => by rw [show b = L by omega]; exact hin) (fun b hb => hout b (by omega)) (.inl ⟨rfl, hfl⟩) (.inl ⟨rfl, h0 _ (by omega)⟩) s n
    constructor
    · exact List.pairwise_append.2 ⟨h.rising, by simp, fun y hy z hz => by
        rw [List.mem_singleton.1 hz]; exact hlt y.1 y.2 hy⟩
    · intro s n
      rw [hG s n]
      constructor
      · intro hm
        rcases List.mem_append.1 hm with h1 | h1
        · right
          have hr := (h.mem s n).1 h1
          refine ⟨hr, ?_, by have := hlt s n h1; omega⟩
          intro e
          have hn := hr.1
          have := hr.2.1 (L - 1) (by omega) (by omega)
          rw [hfl (L - 1) (by omega)] at this; cases this
        · left
          have := List.mem_singleton.1 h1
          injection this with e1 e2
          omega
      · rintro (⟨rfl, rfl⟩ | ⟨hr, _, _⟩)
        · exact List.mem_append.2 (.inr (by rw [show s + 1 - s = 1 by omega]; simp))
        · exact List.mem_append.2 (.inl ((h.mem s n).2 hr))

theorem runsTo_is (f : Nat → Bool) : ∀ L, IsRuns (cutAt f L) (runsTo f L)
  | 0 => ⟨List.Pairwise.nil, fun s n => ⟨fun h => absurd h (by simp [runsTo]), fun h => by
      have := h.2.1 s (Nat.le_refl _) (by have := h.1; omega); simp [cutAt] at this⟩⟩
  | L + 1 => by
    have ih := runsTo_is f L
    unfold runsTo
    cases hf : f L with
    | false =>
      simp only [Bool.false_eq_true, if_false]
      refine isRuns_congr ih fun b => ?_
      unfold cutAt
      by_cases hb : b < L
      · simp [hb, Nat.lt_succ_of_lt hb]
      · by_cases he : b = L
        · subst he; simp [hf]
        · rw [decide_eq_false hb, decide_eq_false (by omega)]
    | true =>
      simp only [if_true]
      have hst := runsTo_step (f' := cutAt f (L + 1)) (L := L) ih (fun b hb => by unfold cutAt; rw [decide_eq_false (by omega)]; rfl) (by unfold cutAt; simp [hf]) (fun b hb => by
        unfold cutAt
        by_cases h1 : b < L
        · simp [h1, Nat.lt_succ_of_lt h1]
        · rw [decide_eq_false h1, decide_eq_false (by omega)])
      have hc : (0 < L ∧ cutAt f L (L - 1) = true) ↔ (0 < L ∧ f (L - 1) = true) := by
        unfold cutAt
        constructor
        · rintro ⟨h1, h2⟩; exact ⟨h1, by simpa [show L - 1 < L by omega] using h2⟩
        · rintro ⟨h1, h2⟩; exact ⟨h1, by simpa [show L - 1 < L by omega] using h2⟩
      simp only [hc] at hst
      exact hst

/-- Rising lists with the same members are the same. -/
theorem rising_ext : ∀ {l r : List (Nat × Nat)}, Rising l → Rising r → (∀ x, x ∈ l ↔ x ∈ r) → l = r
  | [], [], _, _, _ => rfl
  | [], b :: r, _, _, h => absurd ((h b).2 (by simp)) (by simp)
  | a :: l, [], _, _, h => absurd ((h a).1 (by simp)) (by simp)
  | a :: l, b :: r, hl, hr, h => by
    have hl' := List.pairwise_cons.1 hl
    have hr' := List.pairwise_cons.1 hr
    have hab : a = b := by
      rcases List.mem_cons.1 ((h a).1 (by simp)) with e | e
      · exact e
      · rcases List.mem_cons.1 ((h b).2 (by simp)) with e' | e'
        · exact e'.symm
        · have := hr'.1 a e; have := hl'.1 b e'; omega
    subst hab
    congr 1
    refine rising_ext hl'.2 hr'.2 fun x => ⟨fun hx => ?_, fun hx => ?_⟩
    · rcases List.mem_cons.1 ((h x).1 (by simp [hx])) with e | e
      · have := hl'.1 x hx; rw [e] at this; omega
      · exact e
    · rcases List.mem_cons.1 ((h x).2 (by simp [hx])) with e | e
      · have := hr'.1 x hx; rw [e] at this; omega
      · exact e

theorem isRuns_one {f : Nat → Bool} {l r : List (Nat × Nat)} (hl : IsRuns f l) (hr : IsRuns f r) : l = r :=
  rising_ext hl.rising hr.rising fun x => (hl.mem x.1 x.2).trans (hr.mem x.1 x.2).symm

end Go.Proofs.Ytlaaamaaabcfeaa

/- Plain: sums, the longest and the best of runs, in whatever order. -/
namespace Go.Proofs.Ytlaaamaaabcfeaa
set_option linter.unusedVariables false

theorem rising_nodup {l : List (Nat × Nat)} (h : Rising l) : l.Nodup :=
  List.Pairwise.imp (fun {x y} hxy e => by rw [e] at hxy; omega) h

/-- Entries that have been seen, in whatever order. -/
structure Seen (A : Nat → Nat → Prop) (done : List (Nat × Nat)) : Prop where
  nodup : done.Nodup
  mem : ∀ s n, (s, n) ∈ done ↔ A s n

theorem seen_perm {A : Nat → Nat → Prop} {a b : List (Nat × Nat)} (ha : Seen A a) (hb : Seen A b) : a.Perm b :=
  (List.perm_ext_iff_of_nodup ha.nodup hb.nodup).2 fun x => (ha.mem x.1 x.2).trans (hb.mem x.1 x.2).symm

theorem isRuns_seen {f : Nat → Bool} {l : List (Nat × Nat)} (h : IsRuns f l) : Seen (IsRun f) l := ⟨rising_nodup h.rising, h.mem⟩

theorem seen_nil : Seen (fun _ _ => False) [] := ⟨List.nodup_nil, fun _ _ => by simp⟩

theorem seen_add {A A' : Nat → Nat → Prop} {l : List (Nat × Nat)} {s0 n0 : Nat} (h : Seen A l) (hn : ¬ A s0 n0) (hA : ∀ s n, A' s n ↔ A s n ∨ (s = s0 ∧ n = n0)) : Seen A' (l ++ [(s0, n0)]) := by
  refine ⟨List.nodup_append.2 ⟨h.nodup, by simp, fun x hx y hy e => ?_⟩, fun s n => ?_⟩
  · rw [List.mem_singleton.1 hy] at e
    rw [e] at hx
    exact hn ((h.mem s0 n0).1 hx)
  · rw [hA s n, List.mem_append, h.mem s n]; simp

def sumOf (l : List (Nat × Nat)) : Nat := (l.map (·.2)).sum
def longOf (l : List (Nat × Nat)) : Nat := (l.map (·.2)).foldl max 0

theorem sum_perm {a b : List (Nat × Nat)} (h : a.Perm b) : sumOf a = sumOf b := (h.map _).sum_nat
theorem long_perm {a b : List (Nat × Nat)} (h : a.Perm b) : longOf a = longOf b :=
  (h.map _).foldl_eq' (fun x _ y _ z => by omega) 0
theorem sum_add (l : List (Nat × Nat)) (x : Nat × Nat) : sumOf (l ++ [x]) = sumOf l + x.2 := by simp [sumOf]
theorem long_add (l : List (Nat × Nat)) (x : Nat × Nat) : longOf (l ++ [x]) = max (longOf l) x.2 := by simp [longOf]

/-- The shortest one of those that are long enough, of alike ones the first. -/
def Best (n : Nat) (A : Nat → Nat → Prop) : Option (Nat × Nat) → Prop
  | none => ∀ s k, A s k → k < n
  | some x => A x.1 x.2 ∧ n ≤ x.2 ∧ ∀ s k, A s k → n ≤ k → x.2 < k ∨ (x.2 = k ∧ x.1 ≤ s)

theorem best_one {n : Nat} {A : Nat → Nat → Prop} : ∀ {o o' : Option (Nat × Nat)}, Best n A o → Best n A o' → o = o'
  | none, none, _, _ => rfl
  | none, some x, h, h' => absurd (h _ _ h'.1) (by have := h'.2.1; omega)
  | some x, none, h, h' => absurd (h' _ _ h.1) (by have := h.2.1; omega)
  | some (a, b), some (a', b'), h, h' => by
    have h1 := h.2.2 _ _ h'.1 h'.2.1
    have h2 := h'.2.2 _ _ h.1 h.2.1
    simp only at h1 h2
    have e1 : a = a' := by omega
    have e2 : b = b' := by omega
    rw [e1, e2]

def better (n : Nat) (o : Option (Nat × Nat)) (s k : Nat) : Bool :=
  decide (n ≤ k) && match o with
    | none => true
    | some x => decide (k < x.2) || (decide (k = x.2) && decide (s < x.1))

theorem best_step {n : Nat} {A A' : Nat → Nat → Prop} {o : Option (Nat × Nat)} {s0 k0 : Nat} (h : Best n A o) (hA : ∀ s k, A' s k ↔ A s k ∨ (s = s0 ∧ k = k0)) :
    Best n A' (if better n o s0 k0 then some (s0, k0) else o) := by
  cases o with
  | none =>
    by_cases hn : n ≤ k0
    · rw [if_pos (by simp [better, hn])]
      refine ⟨(hA s0 k0).2 (.inr ⟨rfl, rfl⟩), hn, fun s k hk hnk => ?_⟩
      rcases (hA s k).1 hk with h1 | ⟨rfl, rfl⟩
      · have := h s k h1; omega
      · exact .inr ⟨rfl, Nat.le_refl _⟩
    · rw [if_neg (by simp [better, hn])]
      intro s k hk
      rcases (hA s k).1 hk with h1 | ⟨rfl, rfl⟩
      · exact h s k h1
      · omega
  | some x =>
    obtain ⟨h1, h2, h3⟩ := h
    by_cases hb : better n (some x) s0 k0 = true
    · rw [if_pos hb]
      simp [better] at hb
      refine ⟨(hA s0 k0).2 (.inr ⟨rfl, rfl⟩), hb.1, fun s k hk hnk => ?_⟩
      rcases (hA s k).1 hk with h4 | ⟨rfl, rfl⟩
      · have := h3 s k h4 hnk; simp only; omega
      · exact .inr ⟨rfl, Nat.le_refl _⟩
    · rw [if_neg hb]
      simp [better] at hb
      refine ⟨(hA _ _).2 (.inl h1), h2, fun s k hk hnk => ?_⟩
      rcases (hA s k).1 hk with h4 | ⟨rfl, rfl⟩
      · exact h3 s k h4 hnk
      · have := hb hnk; omega

def shorter (n : Nat) (o : Option (Nat × Nat)) (k : Nat) : Bool :=
  decide (n ≤ k) && match o with
    | none => true
    | some y => decide (k < y.2)

/-- Taken in rising order, only the length counts. -/
theorem best_rising {n : Nat} {l : List (Nat × Nat)} {x : Nat × Nat} {o : Option (Nat × Nat)} (h : Best n (fun s k => (s, k) ∈ l) o) (hr : ∀ y ∈ l, y.1 < x.1) :
    better n o x.1 x.2 = shorter n o x.2 := by
  cases o with
  | none => rfl
  | some y =>
    have := hr _ h.1
    simp only at this
    simp only [better, shorter]
    rw [decide_eq_false (show ¬ x.1 < y.1 by omega)]; simp

end Go.Proofs.Ytlaaamaaabcfeaa

/- Plain: the reference's give and take, over truths for each block. -/
namespace Go.Proofs.Ytlaaamaaabcfeaa
set_option linter.unusedVariables false

def pickGo (n : Nat) : Option (Nat × Nat) → List (Nat × Nat) → Option (Nat × Nat)
  | o, [] => o
  | o, x :: l => pickGo n (if shorter n o x.2 then some x else o) l

theorem pickGo_best (n : Nat) : ∀ (l done : List (Nat × Nat)) (o : Option (Nat × Nat)), Rising (done ++ l) → Best n (fun s k => (s, k) ∈ done) o → Best n (fun s k => (s, k) ∈ done ++ l) (pickGo n o l)
  | [], done, o, _, h => by rw [List.append_nil]; exact h
  | x :: l, done, o, hr, h => by
    have hlt : ∀ y ∈ done, y.1 < x.1 := fun y hy => (List.pairwise_append.1 hr).2.2 y hy x (by simp)
    have hb := best_rising h hlt
    have hs := best_step (A' := fun s k => (s, k) ∈ done ++ [x]) (s0 := x.1) (k0 := x.2) h (fun s k => by
      rw [List.mem_append, List.mem_singleton, Prod.ext_iff])
    rw [hb] at hs
    have := pickGo_best n l (done ++ [x]) _ (by rw [List.append_assoc]; exact hr) hs
    rw [List.append_assoc] at this
    exact this

def pick (n : Nat) (l : List (Nat × Nat)) : Option (Nat × Nat) := pickGo n none l

theorem pick_best {n : Nat} {l : List (Nat × Nat)} (h : Rising l) : Best n (fun s k => (s, k) ∈ l) (pick n l) :=
  pickGo_best n l [] none h (fun _ _ hm => absurd hm (by simp))

/-- Is a block free? -/
def fb (l : List Bool) (b : Nat) : Bool := l.getD b false

theorem fb_far (l : List Bool) (b : Nat) (h : l.length ≤ b) : fb l b = false := by
  unfold fb; rw [List.getD_eq_getElem?_getD, List.getElem?_eq_none h]; rfl

def setTo (l : List Bool) (a : Nat) (v : Bool) : Nat → List Bool
  | 0 => l
  | m + 1 => (setTo l a v m).set (a + m) v

theorem setTo_length (l : List Bool) (a : Nat) (v : Bool) : ∀ m, (setTo l a v m).length = l.length
  | 0 => rfl
  | m + 1 => by rw [setTo, List.length_set, setTo_length l a v m]

theorem setTo_fb (l : List Bool) (a : Nat) (v : Bool) : ∀ m, a + m ≤ l.length → ∀ b, fb (setTo l a v m) b = if a ≤ b ∧ b < a + m then v else fb l b
  | 0, _, b => by rw [if_neg (by omega)]; rfl
  | m + 1, h, b => by
    have ih := setTo_fb l a v m (by omega) b
    unfold fb at ih ⊢
    rw [setTo, List.getD_eq_getElem?_getD, List.getElem?_set]
    by_cases hb : a + m = b
    · rw [if_pos hb, if_pos (by rw [setTo_length]; omega), if_pos (by omega)]; rfl
    · rw [if_neg hb, ← List.getD_eq_getElem?_getD, ih]
      by_cases h1 : a ≤ b ∧ b < a + m
      · rw [if_pos h1, if_pos (by omega)]
      · rw [if_neg h1, if_neg (by omega)]

/-- The runs of a list of truths. -/
def runsOf (l : List Bool) : List (Nat × Nat) := runsTo (fb l) l.length

theorem runsOf_is (l : List Bool) : IsRuns (fb l) (runsOf l) :=
  isRuns_congr (runsTo_is (fb l) l.length) fun b => by
    unfold cutAt
    by_cases h : b < l.length
    · simp [h]
    · rw [decide_eq_false h, fb_far l b (by omega)]; rfl

/-- Is one of these blocks free? -/
def anyFree (l : List Bool) (a : Nat) : Nat → Bool
  | 0 => false
  | m + 1 => anyFree l a m || fb l (a + m)

theorem anyFree_false {l : List Bool} {a : Nat} : ∀ {m : Nat}, anyFree l a m = false → ∀ b, a ≤ b → b < a + m → fb l b = false
  | 0, _, b, h1, h2 => by omega
  | m + 1, h, b, h1, h2 => by
    rw [anyFree, Bool.or_eq_false_iff] at h
    by_cases hb : b = a + m
    · rw [hb]; exact h.2
    · exact anyFree_false h.1 b h1 (by omega)

theorem anyFree_true {l : List Bool} {a : Nat} : ∀ {m : Nat}, anyFree l a m = true → ∃ b, a ≤ b ∧ b < a + m ∧ fb l b = true
  | 0, h => by cases h
  | m + 1, h => by
    rw [anyFree, Bool.or_eq_true_iff] at h
    rcases h with h | h
    · obtain ⟨b, h1, h2, h3⟩ := anyFree_true h; exact ⟨b, h1, by omega, h3⟩
    · exact ⟨a + m, by omega, by omega, h⟩

theorem anyFree_one {l : List Bool} {a b : Nat} : ∀ {m : Nat}, a ≤ b → b < a + m → fb l b = true → anyFree l a m = true
  | 0, h1, h2, _ => by omega
  | m + 1, h1, h2, h3 => by
    rw [anyFree, Bool.or_eq_true_iff]
    by_cases hb : b = a + m
    · right; rw [← hb]; exact h3
    · left; exact anyFree_one h1 (by omega) h3

/-- The reference's Give: what is free then, the error's number. -/
def giveR (l : List Bool) (a m : Int) : List Bool × Int :=
  if a < 1 ∨ m < 1 ∨ (l.length : Int) ≤ a ∨ (l.length : Int) - a < m then (l, 1)
  else if anyFree l a.toNat m.toNat then (l, 41)
  else (setTo l a.toNat true m.toNat, 0)

/-- The reference's Take: what is free then, the first block, the error's number. -/
def takeR (l : List Bool) (n : Int) : List Bool × Int × Int :=
  if n < 1 then (l, 0, 1) else match pick n.toNat (runsOf l) with
    | none => (l, 0, 4)
    | some x => (setTo l x.1 false n.toNat, (x.1 : Int), 0)

theorem runEnds {l : List Bool} {s n : Nat} (h : IsRun (fb l) s n) : s + n ≤ l.length := by
  rcases Nat.lt_or_ge l.length (s + n) with h1 | h1
  · have := h.2.1 (s + n - 1) (by have := h.1; omega) (by have := h.1; omega)
    rw [fb_far l _ (by omega)] at this; cases this
  · exact h1

theorem pick_run {l : List Bool} {n : Nat} {x : Nat × Nat} (h : pick n (runsOf l) = some x) : IsRun (fb l) x.1 x.2 ∧ n ≤ x.2 := by
  have hb := pick_best (n := n) (runsOf_is l).rising
  rw [h] at hb
  exact ⟨((runsOf_is l).mem _ _).1 hb.1, hb.2.1⟩

/-- Give at the runs. -/
theorem give_runs {l : List Bool} {a m s0 e0 : Nat} (hm : 1 ≤ m) (ha : a + m ≤ l.length) (h0 : anyFree l a m = false)
    (hs : s0 = a ∧ (∀ b, b + 1 = a → fb l b = false) ∨ s0 < a ∧ IsRun (fb l) s0 (a - s0))
    (he : e0 = a + m ∧ fb l (a + m) = false ∨ a + m < e0 ∧ IsRun (fb l) (a + m) (e0 - (a + m))) (s n : Nat) :
    IsRun (fb (setTo l a true m)) s n ↔ (s = s0 ∧ n = e0 - s0) ∨ (IsRun (fb l) s n ∧ s + n ≠ a ∧ s ≠ a + m) :=
  give_run hm (anyFree_false h0) (fun b h1 h2 => by rw [setTo_fb l a true m ha, if_pos ⟨h1, h2⟩]) (fun b h1 => by rw [setTo_fb l a true m ha, if_neg (by omega)]) hs he s n

/-- Take at the runs. -/
theorem take_runs {l : List Bool} {a k m : Nat} (hr : IsRun (fb l) a k) (hm : 1 ≤ m) (hk : m ≤ k) (s n : Nat) :
    IsRun (fb (setTo l a false m)) s n ↔ (m < k ∧ s = a + m ∧ n = k - m) ∨ (IsRun (fb l) s n ∧ s ≠ a) := by
  have ha : a + m ≤ l.length := by have := runEnds hr; omega
  exact take_run hr hm hk (fun b h1 h2 => by rw [setTo_fb l a false m ha, if_pos ⟨h1, h2⟩]) (fun b h1 => by rw [setTo_fb l a false m ha, if_neg (by omega)]) s n

end Go.Proofs.Ytlaaamaaabcfeaa

/- Plain: an index of runs, as two maps. -/
namespace Go.Proofs.Ytlaaamaaabcfeaa
set_option linter.unusedVariables false

/-- Runs by their starts. -/
def MOf (l : List Bool) (M : Int → Option Int) : Prop := ∀ s c : Int, M s = some c ↔ 0 ≤ s ∧ 0 ≤ c ∧ IsRun (fb l) s.toNat c.toNat
/-- Runs by their ends. -/
def EOf (l : List Bool) (E : Int → Option Int) : Prop := ∀ e s : Int, E e = some s ↔ 0 ≤ s ∧ s ≤ e ∧ IsRun (fb l) s.toNat (e - s).toNat

theorem mof_nil {l : List Bool} (h : ∀ b, fb l b = false) : MOf l fun _ => none := fun s c => ⟨fun e => (by cases e), fun ⟨_, h1, hr⟩ => by
  have := hr.2.1 s.toNat (Nat.le_refl _) (by have := hr.1; omega); rw [h] at this; cases this⟩
theorem eof_nil {l : List Bool} (h : ∀ b, fb l b = false) : EOf l fun _ => none := fun e s => ⟨fun e => (by cases e), fun ⟨_, h1, hr⟩ => by
  have := hr.2.1 s.toNat (Nat.le_refl _) (by have := hr.1; omega); rw [h] at this; cases this⟩

section
variable {l : List Bool} {M E : Int → Option Int} {a m s0 e0 : Nat}

theorem give_M (hM : MOf l M) (hm : 1 ≤ m) (ha : a + m ≤ l.length) (h0 : anyFree l a m = false)
    (hs : s0 = a ∧ (∀ b, b + 1 = a → fb l b = false) ∨ s0 < a ∧ IsRun (fb l) s0 (a - s0))
    (he : e0 = a + m ∧ fb l (a + m) = false ∨ a + m < e0 ∧ IsRun (fb l) (a + m) (e0 - (a + m))) {M' : Int → Option Int}
    (hnew : M' s0 = some ((e0 : Int) - s0)) (hgone : ∀ s, s ≠ (s0 : Int) → (s = (a : Int) + m ∨ M s = some ((a : Int) - s)) → M' s = none)
    (hold : ∀ s, s ≠ (s0 : Int) → s ≠ (a : Int) + m → M s ≠ some ((a : Int) - s) → M' s = M s) : MOf (setTo l a true m) M' := by
  have hs0 : s0 ≤ a := by rcases hs with ⟨h, _⟩ | ⟨h, _⟩ <;> omega
  have he0 : a + m ≤ e0 := by rcases he with ⟨h, _⟩ | ⟨h, _⟩ <;> omega
  intro s c
  have hG := give_runs hm ha h0 hs he s.toNat c.toNat
  by_cases h1 : s = (s0 : Int)
  · rw [h1, hnew]
    constructor
    · intro e
      have e' : (e0 : Int) - s0 = c := by injection e
      refine ⟨by omega, by omega, ?_⟩
      rw [← h1, hG]; left; constructor <;> omega
    · rintro ⟨_, hc, hr⟩
      rw [← h1, hG] at hr
      rcases hr with ⟨_, h2⟩ | ⟨hr, h2, h3⟩
      · congr 1; omega
      · exfalso
        rcases hs with ⟨e, _⟩ | ⟨hlt, hr0⟩
        · have := hr.2.1 s.toNat (Nat.le_refl _) (by have := hr.1; omega)
          rw [anyFree_false h0 s.toNat (by omega) (by omega)] at this; cases this
        · have := hr.one (n' := a - s0) (by rw [show s.toNat = s0 by omega]; exact hr0); omega
  · by_cases h2 : s = (a : Int) + m ∨ M s = some ((a : Int) - s)
    · rw [hgone s h1 h2]
      refine ⟨fun e => (by cases e), ?_⟩
      rintro ⟨hs1, hc, hr⟩
      rw [hG] at hr
      exfalso
      rcases hr with ⟨h3, _⟩ | ⟨hr, h3, h4⟩
      · omega
      · rcases h2 with h2 | h2
        · omega
        · obtain ⟨h5, h6, hr'⟩ := (hM _ _).1 h2
          have := hr.one hr'; omega
    · rw [hold s h1 (fun e => h2 (.inl e)) (fun e => h2 (.inr e)), hM s c]
      constructor
      · rintro ⟨h3, h4, hr⟩
        refine ⟨h3, h4, hG.2 (.inr ⟨hr, fun e => h2 (.inr ((hM _ _).2 ⟨h3, by omega, ?_⟩)), fun e => h2 (.inl (by omega))⟩)⟩
        rw [show ((a : Int) - s).toNat = c.toNat by omega]; exact hr
      · rintro ⟨h3, h4, hr⟩
        rcases hG.1 hr with ⟨h5, _⟩ | ⟨hr', _⟩
        · omega
        · exact ⟨h3, h4, hr'⟩

theorem give_E (hE : EOf l E) (hm : 1 ≤ m) (ha : a + m ≤ l.length) (h0 : anyFree l a m = false)
    (hs : s0 = a ∧ (∀ b, b + 1 = a → fb l b = false) ∨ s0 < a ∧ IsRun (fb l) s0 (a - s0))
    (he : e0 = a + m ∧ fb l (a + m) = false ∨ a + m < e0 ∧ IsRun (fb l) (a + m) (e0 - (a + m))) {E' : Int → Option Int}
    (hnew : E' e0 = some (s0 : Int)) (hgone : ∀ e, e ≠ (e0 : Int) → (e = (a : Int) ∨ E e = some ((a : Int) + m)) → E' e = none)
    (hold : ∀ e, e ≠ (e0 : Int) → e ≠ (a : Int) → E e ≠ some ((a : Int) + m) → E' e = E e) : EOf (setTo l a true m) E' := by
  have hs0 : s0 ≤ a := by rcases hs with ⟨h, _⟩ | ⟨h, _⟩ <;> omega
  have he0 : a + m ≤ e0 := by rcases he with ⟨h, _⟩ | ⟨h, _⟩ <;> omega
  intro e s
  have hG := give_runs hm ha h0 hs he s.toNat (e - s).toNat
  by_cases h1 : e = (e0 : Int)
  · rw [h1, hnew]
    constructor
    · intro x
      have x' : (s0 : Int) = s := by injection x
      refine ⟨by omega, by omega, ?_⟩
      rw [← h1, hG]; left; constructor <;> omega
    · rintro ⟨hs1, hc, hr⟩
      rw [← h1, hG] at hr
      rcases hr with ⟨h2, _⟩ | ⟨hr, h2, h3⟩
      · congr 1; omega
      · exfalso
        rcases he with ⟨x, hf⟩ | ⟨hlt, hr0⟩
        · have hx := hr.2.1 (s.toNat + (e - s).toNat - 1) (by have := hr.1; omega) (by have := hr.1; omega)
          rw [anyFree_false h0 _ (by have := hr.1; omega) (by have := hr.1; omega)] at hx; cases hx
        · have := (hr.back hr0 (by omega)).1; omega
  · by_cases h2 : e = (a : Int) ∨ E e = some ((a : Int) + m)
    · rw [hgone e h1 h2]
      refine ⟨fun x => (by cases x), ?_⟩
      rintro ⟨hs1, hc, hr⟩
      rw [hG] at hr
      exfalso
      rcases hr with ⟨h3, h4⟩ | ⟨hr, h3, h4⟩
      · omega
      · rcases h2 with h2 | h2
        · omega
        · obtain ⟨h5, h6, hr'⟩ := (hE _ _).1 h2
          have := (hr.back hr' (by omega)).1; omega
    · rw [hold e h1 (fun x => h2 (.inl x)) (fun x => h2 (.inr x)), hE e s]
      constructor
      · rintro ⟨h3, h4, hr⟩
        refine ⟨h3, h4, hG.2 (.inr ⟨hr, fun x => h2 (.inl (by omega)), fun x => h2 (.inr ((hE _ _).2 ⟨by omega, by omega, ?_⟩))⟩)⟩
        rw [show ((a : Int) + m).toNat = s.toNat by omega, show (e - ((a : Int) + m)).toNat = (e - s).toNat by omega]; exact hr
      · rintro ⟨h3, h4, hr⟩
        rcases hG.1 hr with ⟨h5, h6⟩ | ⟨hr', _⟩
        · omega
        · exact ⟨h3, h4, hr'⟩
end

section
variable {l : List Bool} {M E : Int → Option Int} {a k m : Nat}

theorem take_M (hM : MOf l M) (hr : IsRun (fb l) a k) (hm : 1 ≤ m) (hk : m ≤ k) {M' : Int → Option Int}
    (hnew : M' ((a : Int) + m) = if m < k then some ((k : Int) - m) else M ((a : Int) + m)) (hgone : M' a = none)
    (hold : ∀ s, s ≠ (a : Int) → s ≠ (a : Int) + m → M' s = M s) : MOf (setTo l a false m) M' := by
  intro s c
  have hT := take_runs hr hm hk s.toNat c.toNat
  have hin : m < k → ∀ n, ¬ IsRun (fb l) (a + m) n := by
    intro hlt n hn
    have := (hn.meet hr (b := a + m) (Nat.le_refl _) (by have := hn.1; omega) (by omega) (by omega)).1
    omega
  by_cases h1 : s = (a : Int)
  · rw [h1, hgone]
    refine ⟨fun x => (by cases x), ?_⟩
    rintro ⟨_, hc, hr'⟩
    rw [← h1, hT] at hr'
    rcases hr' with ⟨_, h2, _⟩ | ⟨_, h2⟩ <;> omega
  · by_cases h2 : s = (a : Int) + m
    · rw [h2, hnew]
      by_cases h3 : m < k
      · rw [if_pos h3]
        constructor
        · intro x
          have x' : (k : Int) - m = c := by injection x
          refine ⟨by omega, by omega, ?_⟩
          rw [← h2, hT]; left; refine ⟨h3, by omega, by omega⟩
        · rintro ⟨_, hc, hr'⟩
          rw [← h2, hT] at hr'
          rcases hr' with ⟨_, _, h4⟩ | ⟨hr', _⟩
          · congr 1; omega
          · exact absurd (show IsRun (fb l) (a + m) c.toNat by rw [show a + m = s.toNat by omega]; exact hr') (hin h3 _)
      · rw [if_neg h3, ← h2, hM s c, hT]
        constructor
        · rintro ⟨h4, h5, h6⟩; exact ⟨h4, h5, .inr ⟨h6, by omega⟩⟩
        · rintro ⟨h4, h5, h6 | h6⟩
          · omega
          · exact ⟨h4, h5, h6.1⟩
    · rw [hold s h1 h2, hM s c, hT]
      constructor
      · rintro ⟨h4, h5, h6⟩; exact ⟨h4, h5, .inr ⟨h6, by omega⟩⟩
      · rintro ⟨h4, h5, h6 | h6⟩
        · omega
        · exact ⟨h4, h5, h6.1⟩

theorem take_E (hE : EOf l E) (hr : IsRun (fb l) a k) (hm : 1 ≤ m) (hk : m ≤ k) {E' : Int → Option Int}
    (hnew : E' ((a : Int) + k) = if m < k then some ((a : Int) + m) else none)
    (hold : ∀ e, e ≠ (a : Int) + k → E' e = E e) : EOf (setTo l a false m) E' := by
  intro e s
  have hT := take_runs hr hm hk s.toNat (e - s).toNat
  by_cases h1 : e = (a : Int) + k
  · rw [h1, hnew]
    by_cases h3 : m < k
    · rw [if_pos h3]
      constructor
      · intro x
        have x' : (a : Int) + m = s := by injection x
        refine ⟨by omega, by omega, ?_⟩
        rw [← h1, hT]; left; refine ⟨h3, by omega, by omega⟩
      · rintro ⟨h4, h5, hr'⟩
        rw [← h1, hT] at hr'
        rcases hr' with ⟨_, h6, _⟩ | ⟨hr', h6⟩
        · congr 1; omega
        · have := (hr'.back hr (by omega)).1; omega
    · rw [if_neg h3]
      refine ⟨fun x => (by cases x), ?_⟩
      rintro ⟨h4, h5, hr'⟩
      rw [← h1, hT] at hr'
      rcases hr' with ⟨h6, _⟩ | ⟨hr', h6⟩
      · omega
      · have := (hr'.back hr (by omega)).1; omega
  · rw [hold e h1, hE e s, hT]
    constructor
    · rintro ⟨h4, h5, h6⟩
      refine ⟨h4, h5, .inr ⟨h6, fun x => ?_⟩⟩
      have := h6.one (n' := k) (by rw [x]; exact hr); omega
    · rintro ⟨h4, h5, h6 | h6⟩
      · omega
      · exact ⟨h4, h5, h6.1⟩
end

end Go.Proofs.Ytlaaamaaabcfeaa

/- Maps of numbers by numbers: one fact for the block, and the laws at the operations. -/
namespace Go.Proofs.Ytlaaamaaabcfeaa
open Go.Maps Go.ChangeMaps
set_option linter.unusedVariables false

/-- The datum of a map tells M. -/
structure Tells (D : DataW Unit) (M : Int → Option Int) : Prop where
  isMap : IsMap D
  has : ∀ x, has D (.int .i64 x) = (M x).isSome
  val : ∀ x c, M x = some c → ∀ z, D.atKey (.int .i64 x) z = .lit (.int .i64 c)

theorem Tells.get {D : DataW Unit} {M : Int → Option Int} (h : Tells D M) (x : Int) : D.atKey (.int .i64 x) (.lit (.int .i64 0)) = .lit (.int .i64 ((M x).getD 0)) := by
  cases hm : M x with
  | none => rw [atKey_of_not_has (by rw [h.has, hm]; rfl)]; rfl
  | some c => rw [h.val x c hm]; rfl

theorem key_wf {x : Int} (_hw : (Lit.int .i64 x).wf = true) : WideAt.IsKeyLit (.int .i64 x) := by
  trivial

theorem tells_nil : Tells (.map []) fun _ => none := ⟨isMap_empty, fun _ => rfl, fun _ _ h => by cases h⟩

theorem Tells.put {D : DataW Unit} {M : Int → Option Int} (h : Tells D M) {x : Int} (hw : (Lit.int .i64 x).wf = true) (c : Int) :
    Tells (D.put (.int .i64 x) (.lit (.int .i64 c))) fun y => if y = x then some c else M y := by
  refine ⟨h.isMap.put _ _, fun y => ?_, fun y d hy z => ?_⟩
  · by_cases e : y = x
    · subst e; rw [has_put_same h.isMap (key_wf hw), if_pos rfl]; rfl
    · rw [has_put_other (by simpa using e), if_neg e, h.has]
  · by_cases e : y = x
    · subst e; rw [if_pos rfl] at hy; cases hy; rw [atKey_put_same h.isMap (key_wf hw)]
    · rw [if_neg e] at hy; rw [atKey_put_other (by simpa using e), h.val y d hy]

theorem Tells.del {D : DataW Unit} {M : Int → Option Int} (h : Tells D M) (x : Int) : Tells (D.del (.int .i64 x)) fun y => if y = x then none else M y := by
  refine ⟨h.isMap.del _, fun y => ?_, fun y d hy z => ?_⟩
  · by_cases e : y = x
    · subst e; rw [has_del_same, if_pos rfl]; rfl
    · rw [has_del_other (by simpa using e), if_neg e, h.has]
  · by_cases e : y = x
    · rw [if_pos e] at hy; cases hy
    · rw [if_neg e] at hy; rw [atKey_del_other (by simpa using e), h.val y d hy]

/-- Block b is a map of numbers by numbers, of at most n entries: M. -/
def IMap (P : Program) (k : TypeId) (w : World) (b n : Nat) (M : Int → Option Int) : Prop :=
  ∃ D : DataW Unit, w.ownsMap P k (plainElem P k) b n D ∧ Tells D M

section
variable {P : Program} {k t : TypeId} {w : World} {b n : Nat} {M : Int → Option Int} {ops : Array Oper} {rest : List Oper} {o : Oper} {a : Act} {Q : Exit → Act → World → Prop}

theorem IMap.kept {w' : World} {row : Option Nat} (h : IMap P k w b n M) (hg : w.grownBy w' row) (hne : some b ≠ row) : IMap P k w' b n M := by
  obtain ⟨D, ho, ht⟩ := h; exact ⟨D, ho.kept hg hne, ht⟩
theorem IMap.alloc (h : IMap P k w b n M) (ob : Obj) : IMap P k (w.alloc ob) b n M := by
  obtain ⟨D, ho, ht⟩ := h; exact ⟨D, ho.alloc ob, ht⟩
theorem IMap.drew (h : IMap P k w b n M) : IMap P k w.drew b n M := by
  obtain ⟨D, ho, ht⟩ := h; exact ⟨D, ho.drew, ht⟩
theorem IMap.mono {n' : Nat} (h : IMap P k w b n M) (hn : n ≤ n') : IMap P k w b n' M := by
  obtain ⟨D, ho, ht⟩ := h; exact ⟨D, ho.mono hn, ht⟩
theorem IMap.lt (h : IMap P k w b n M) : b < w.heap.size := by obtain ⟨D, ho, _⟩ := h; exact ho.lt
theorem IMap.setCell (h : IMap P k w b n M) {ad : Addr} (ha : b ≠ ad.block) (u : Value) : IMap P k (w.setCell ad u) b n M := by
  obtain ⟨D, ho, ht⟩ := h; exact ⟨D, ho.setCell ha u, ht⟩
theorem IMap.made (w : World) (P : Program) (k : TypeId) : IMap P k (w.alloc (.map #[] 0)) w.heap.size 0 fun _ => none :=
  ⟨.map [], World.ownsMap_made w P k _, tells_nil⟩
theorem IMap.block (h : IMap P k w b n M) {w' : World} (he : w'.heap[b]? = w.heap[b]?) : IMap P k w' b n M := by
  obtain ⟨D, ⟨es, clock, hb, F, hs, hD⟩, ht⟩ := h; exact ⟨D, ⟨es, clock, he.trans hb, F, hs, hD⟩, ht⟩

theorem IMap.wf (h : IMap P k w b n M) (hk : P.underlying k = some (.int .i64)) {x c : Int} (hm : M x = some c) : (Lit.int .i64 x).wf = true := by
  obtain ⟨D, ⟨es, clock, _, F, _, rfl⟩, ht⟩ := h
  have hh := ht.has x
  rw [hm] at hh
  obtain ⟨p, hp, hpk⟩ := List.any_eq_true.1 hh
  have hx := WideAt.sameKey_eq hpk
  obtain ⟨e, he, rfl⟩ := List.mem_map.1 (mem_sorted.1 hp)
  obtain ⟨y, hy⟩ := F.reads e he
  rw [Go.WideElems.rg_of hy] at hx
  obtain ⟨z, _, hz, hw⟩ := keyOf_int_inv hk (Go.WideElems.rd_key hy)
  rw [hz] at hx
  injection hx with _ h2
  rw [← h2]; exact hw

theorem wpList_ilook_ok (hg : o.guard = none) (m x : Operand) (t : TypeId) (hop : o.op = Op.lookup t m x true)
    (k : TypeId) (hk : P.underlying k = some (.int .i64)) (ht : P.underlying t = some (.map k k)) (hz : (zeroValue k).run P w = .ok (.int .i64 0) w) (b n : Nat) (M : Int → Option Int)
    (hm : a.eval m = .map (some b)) (hown : IMap P k w b n M) (y : Int) (hx : a.eval x = .int .i64 y) (hw : (Lit.int .i64 y).wf = true)
    (hK : wpList P ops Q rest (a.put o.dst (.tuple #[.int .i64 ((M y).getD 0), .bool (M y).isSome])) w) :
    wpList P ops Q (o :: rest) a w := by
  obtain ⟨D, ho, hT⟩ := hown
  refine wpList_lookup_own_ok_int w hg m x t hop k k .i64 (int_keyed hk) ht hk hz b n D hm ho _ _ hx (keyOf_int_mk hk hw) fun c hat _ => ?_
  rw [hT.get y] at hat
  have e : (M y).getD 0 = c := by injection hat with h1; injection h1
  rw [← e, hT.has y]
  exact hK

theorem wpList_ilook (hg : o.guard = none) (m x : Operand) (t : TypeId) (hop : o.op = Op.lookup t m x false)
    (k : TypeId) (hk : P.underlying k = some (.int .i64)) (ht : P.underlying t = some (.map k k)) (hz : (zeroValue k).run P w = .ok (.int .i64 0) w) (b n : Nat) (M : Int → Option Int)
    (hm : a.eval m = .map (some b)) (hown : IMap P k w b n M) (y : Int) (hx : a.eval x = .int .i64 y) (hw : (Lit.int .i64 y).wf = true)
    (hK : wpList P ops Q rest (a.put o.dst (.int .i64 ((M y).getD 0))) w) :
    wpList P ops Q (o :: rest) a w := by
  obtain ⟨D, ho, hT⟩ := hown
  refine wpList_lookup_own_int w hg m x t hop k k .i64 (int_keyed hk) ht hk hz b n D hm ho _ _ hx (keyOf_int_mk hk hw) fun c hat _ => ?_
  rw [hT.get y] at hat
  have e : (M y).getD 0 = c := by injection hat with h1; injection h1
  rw [← e]
  exact hK

theorem wpList_istore (hg : o.guard = none) (m x v : Operand) (t : TypeId) (hop : o.op = Op.mapUpdate t m x v)
    (k : TypeId) (hk : P.underlying k = some (.int .i64)) (ht : P.underlying t = some (.map k k)) (b n : Nat) (M : Int → Option Int)
    (hm : a.eval m = .map (some b)) (hown : IMap P k w b n M) (hn : n < maxLen) (y c : Int) (hx : a.eval x = .int .i64 y) (hw : (Lit.int .i64 y).wf = true) (hv : a.eval v = .int .i64 c) (hc : (Lit.int .i64 c).wf = true)
    (hK : ∀ w', IMap P k w' b (n + 1) (fun z => if z = y then some c else M z) → w.grownBy w' (some b) → wpList P ops Q rest (a.put o.dst undef) w') :
    wpList P ops Q (o :: rest) a w := by
  obtain ⟨D, ho, hT⟩ := hown
  exact wpList_mapUpdate_own w hg m x v t hop k k (int_keyed hk) ht (plainElem P k) b n D hm ho hn _ _ _ hx hv (keyOf_int_mk hk hw) _ [] (plainElem_int hk hc) fun w' h1 h2 => hK w' ⟨_, h1, hT.put hw c⟩ h2

theorem wpList_idelete (hg : o.guard = none) (m x : Operand) (t k : TypeId) (hop : o.op = Op.call { callee := Callee.builtin Builtin.delete, args := #[m, x], argTypes := #[t, k] })
    (hk : P.underlying k = some (.int .i64)) (ht : P.underlying t = some (.map k k)) (b n : Nat) (M : Int → Option Int)
    (hm : a.eval m = .map (some b)) (hown : IMap P k w b n M) (y : Int) (hx : a.eval x = .int .i64 y) (hw : (Lit.int .i64 y).wf = true)
    (hK : ∀ w', IMap P k w' b n (fun z => if z = y then none else M z) → w.grownBy w' (some b) → wpList P ops Q rest (a.put o.dst (.tuple #[])) w') :
    wpList P ops Q (o :: rest) a w := by
  obtain ⟨D, ho, hT⟩ := hown
  exact wpList_delete_own w hg m x t k hop k (int_keyed hk) ht (plainElem P k) b n D hm ho _ _ hx (keyOf_int_mk hk hw) fun w' h1 h2 => hK w' ⟨_, h1, hT.del y⟩ h2.grown

/-- A range over the map is under way at block r; L: which entries are still to come. -/
def IRange (P : Program) (k : TypeId) (w : World) (b r n : Nat) (M : Int → Option Int) (L : Int → Bool) (cnt : Nat) : Prop :=
  ∃ (D : DataW Unit) (left : Lit → Bool), w.ranges P k (plainElem P k) b r n D left cnt ∧ Tells D M ∧ ∀ x, left (.int .i64 x) = L x

theorem IRange.imap {L : Int → Bool} {cnt r : Nat} (h : IRange P k w b r n M L cnt) : IMap P k w b n M := by
  obtain ⟨D, left, h1, h2, _⟩ := h; exact ⟨D, h1.owns, h2⟩
theorem IRange.left_eq {L : Int → Bool} {cnt r : Nat} (h : IRange P k w b r n M L cnt) : w.rangeLeft b r = cnt := by
  obtain ⟨D, left, h1, _⟩ := h; exact h1.left_eq
theorem IRange.ne {L : Int → Bool} {cnt r : Nat} (h : IRange P k w b r n M L cnt) : r ≠ b := by
  obtain ⟨D, left, h1, _⟩ := h; exact h1.ne
theorem IRange.lt {L : Int → Bool} {cnt r : Nat} (h : IRange P k w b r n M L cnt) : r < w.heap.size := by
  obtain ⟨D, left, h1, _⟩ := h; exact h1.lt
theorem IRange.kept {L : Int → Bool} {cnt r : Nat} {w' : World} {row : Option Nat} (h : IRange P k w b r n M L cnt) (hg : w.grownBy w' row) (h1 : some b ≠ row) (h2 : some r ≠ row) : IRange P k w' b r n M L cnt := by
  obtain ⟨D, left, h3, h4, h5⟩ := h; exact ⟨D, left, h3.kept hg h1 h2, h4, h5⟩

theorem wpList_irange (hg : o.guard = none) (m : Operand) (t : TypeId) (hop : o.op = Op.range t m) (k : TypeId) (hk : P.underlying k = some (.int .i64)) (ht : P.underlying t = some (.map k k)) (b n : Nat) (M : Int → Option Int)
    (hm : a.eval m = .map (some b)) (hown : IMap P k w b n M)
    (hK : ∀ w' cnt, IRange P k w' b w.heap.size n M (fun x => (M x).isSome) cnt → w.grownBy w' none → w'.heap.size = w.heap.size + 1 → wpList P ops Q rest (a.put o.dst (.pointer (some ⟨w.heap.size, 0, none⟩))) w') :
    wpList P ops Q (o :: rest) a w := by
  obtain ⟨D, ho, hT⟩ := hown
  exact wpList_range_own w hg m t hop k k (int_keyed hk) ht (plainElem P k) b n D hm ho fun w' h1 h2 h3 => hK w' _ ⟨D, _, h1, hT, hT.has⟩ h2 h3

theorem wpList_inext (hg : o.guard = none) (it : Operand) (hop : o.op = Op.next it false) (k : TypeId) (hk : P.underlying k = some (.int .i64))
    (b r n : Nat) (M : Int → Option Int) (L : Int → Bool) (cnt : Nat) (hit : a.eval it = .pointer (some ⟨r, 0, none⟩)) (h : IRange P k w b r n M L cnt)
    (hDone : (∀ x, L x = false) → wpList P ops Q rest (a.put o.dst (.tuple #[.bool false])) w)
    (hMore : ∀ (x c : Int) (w' : World) (cnt' : Nat), (Lit.int .i64 x).wf = true → (Lit.int .i64 c).wf = true → L x = true → M x = some c → IRange P k w' b r n M (fun z => L z && !decide (z = x)) cnt' → cnt' < cnt →
      w.grownBy w' (some r) → w'.heap.size = w.heap.size → (Instr.entry (.pointer (some ⟨r, 0, none⟩))).run P w' = .ok (.tuple #[.int .i64 x, .int .i64 c]) w' → wpList P ops Q rest (a.put o.dst (.tuple #[.bool true, .int .i64 x, .int .i64 c])) w') :
    wpList P ops Q (o :: rest) a w := by
  obtain ⟨D, left, h1, hT, hL⟩ := h
  refine wpList_next_ranges_ii w hg it hop k k .i64 .i64 (int_keyed hk) hk hk b r n D left cnt hit h1 (fun _ h0 => hDone fun x => by rw [← hL, h0]) ?_
  intro x c w' cnt' hwx hwc hlx hat hrg hlt hgr hsz hen
  have hhas : has D (.int .i64 x) = true := has_true_of_atKey hat
  rw [hT.has] at hhas
  have hM : M x = some c := by
    cases hm : M x with
    | none => rw [hm] at hhas; cases hhas
    | some c' =>
      have e := hat (.lit (.int .i64 0))
      rw [hT.val x c' hm] at e
      have : c' = c := by injection e with h1; injection h1
      rw [this]
  refine hMore x c w' cnt' hwx hwc (by rw [← hL]; exact hlx) hM ⟨D, _, hrg, hT, fun z => ?_⟩ hlt hgr hsz hen
  simp only [hL]
  congr 2
  by_cases e : z = x
  · subst e; rw [WideAt.sameKey_self (key_wf hwx)]; simp
  · rw [Maps.sameKey_ne (by simpa using e)]; simp [e]
end

end Go.Proofs.Ytlaaamaaabcfeaa

/- Maps of numbers: an entry is laid first, and gets its value later. -/
namespace Go.Proofs.Ytlaaamaaabcfeaa
open Go.Maps Go.ChangeMaps Go.MapKept Go.WideElems
set_option linter.unusedVariables false

section
variable {P : Program} {k t : TypeId} {w : World} {b n : Nat} {M : Int → Option Int}

/-- A store into the entry at a known place. -/
theorem entry_store_at {es : Array MapEntry} {clock j : Nat} {e0 : MapEntry} (hb : w.heap[b]? = some (.map es clock)) (hn : (es.toList.map (·.born)).Nodup) (hj : es.toList[j]? = some e0) (val : Value) :
    (Instr.entryStore t (.map (some b)) (goInt e0.born) val).run P w = .ok () (setBlock w b (.map (es.modify j fun e => { e with val := val }) clock)) := by
  have hidx : es.findIdx? (fun e => ((e.born : Nat) : Int) == ((e0.born : Nat) : Int)) = some j := by
    rw [findIdx_arr]; exact findIdx_born hn hj
  simp [Instr.entryStore, MapKept.run_getObj_map hb, asInt, asIntOf, goInt, hidx, MapKept.run_setObj_map _ hb, Result.andThen, setBlock]

/-- An entry for y is laid: a later store of c gives the map with c at y. -/
theorem imap_entry (h : IMap P k w b n M) (hk : P.underlying k = some (.int .i64)) (ht : P.underlying t = some (.map k k)) (hz : ∀ u : World, (zeroValue k).run P u = .ok (.int .i64 0) u) (hn : n < maxLen) {y : Int} (hw : (Lit.int .i64 y).wf = true) :
    ∃ (v0 : Value) (st : Nat) (es1 : Array MapEntry) (clock1 : Nat), (Instr.mapEntry t (.map (some b)) (.int .i64 y)).run P w = .ok (.tuple #[v0, goInt st]) (setBlock w b (.map es1 clock1)) ∧
      ∀ (w2 : World) (c : Int), (Lit.int .i64 c).wf = true → w2.heap[b]? = some (.map es1 clock1) → ∃ es' clock', (Instr.entryStore t (.map (some b)) (goInt st) (.int .i64 c)).run P w2 = .ok () (setBlock w2 b (.map es' clock')) ∧
        IMap P k (setBlock w2 b (.map es' clock')) b (n + 1) (fun z => if z = y then some c else M z) := by
  have K := int_keyed hk
  obtain ⟨D, ho, hT⟩ := h
  have hup : ∀ c : Int, (Lit.int .i64 c).wf = true → ∃ w', (Instr.mapUpdate t (.map (some b)) (.int .i64 y) (.int .i64 c)).run P w = .ok () w' ∧ IMap P k w' b (n + 1) (fun z => if z = y then some c else M z) := fun c hc => by
    obtain ⟨w', h1, h2, _⟩ := ho.update K ht hn (keyOf_int_mk hk hw) (plainElem_int hk hc)
    exact ⟨w', h1, _, h2, hT.put hw c⟩
  have hmove : ∀ (w2 : World) (c : Int) (es' : Array MapEntry) (clock' : Nat) (e2 : Array MapEntry) (c2 : Nat), (Lit.int .i64 c).wf = true → w2.heap[b]? = some (.map e2 c2) →
      (Instr.mapUpdate t (.map (some b)) (.int .i64 y) (.int .i64 c)).run P w = .ok () (setBlock w b (.map es' clock')) → IMap P k (setBlock w2 b (.map es' clock')) b (n + 1) (fun z => if z = y then some c else M z) := by
    intro w2 c es' clock' e2 c2 hc h2 hrun
    obtain ⟨w', h3, h4⟩ := hup c hc
    rw [hrun] at h3
    injection h3 with _ h5
    rw [← h5] at h4
    obtain ⟨es, clock, hb, _⟩ := ho
    exact h4.block ((heap_setBlock_same h2 _).trans (heap_setBlock_same hb _).symm)
  obtain ⟨es, clock, hb, F, _, _⟩ := ho
  obtain ⟨s1, s2, _⟩ := F.stamped
  have hkey := keyOf_int_mk (k := k) hk hw
  rcases K.find w hkey es.toList F.keys with ⟨h1, h2⟩ | ⟨j, e0, h1, h2, h3⟩
  · have hlast : (es.push ⟨.int .i64 y, .int .i64 0, clock⟩).toList[es.size]? = some ⟨.int .i64 y, .int .i64 0, clock⟩ := by simp
    have hnd : ((es.push ⟨.int .i64 y, .int .i64 0, clock⟩).toList.map (·.born)).Nodup := by
      rw [Array.toList_push, List.map_append]
      refine List.nodup_append.2 ⟨s2, by simp, fun a ha c hc e => ?_⟩
      obtain ⟨x, hx, rfl⟩ := List.mem_map.1 ha
      have := s1 x hx
      simp at hc; omega
    refine ⟨.int .i64 0, clock, _, clock + 1, ?_, fun w2 c hc hw2 => ⟨_, _, entry_store_at hw2 hnd hlast _, hmove w2 c _ _ _ _ hc hw2 ?_⟩⟩
    · simp [Instr.mapEntry, run_underlying ht, MapKept.run_getObj_map hb, K.check w false hkey, h1, hz, MapKept.run_setObj_map _ hb, Result.andThen, setBlock]
    · have hmod : (es.push ⟨.int .i64 y, .int .i64 0, clock⟩).modify es.size (fun e => { e with val := .int .i64 c }) = es.push ⟨.int .i64 y, .int .i64 c, clock⟩ := by
        apply Array.ext'
        rw [Array.toList_modify, Array.toList_push, Array.toList_push, ← Array.length_toList, modify_last]
      rw [hmod]
      simp [Instr.mapUpdate, run_underlying ht, MapKept.run_getObj_map hb, K.check w false hkey, h1, MapKept.run_setObj_map _ hb, Result.andThen, setBlock]
  · have hj : es[j]? = some e0 := by simpa using h2
    have hsame : es.modify j (fun e => { e with key := .int .i64 y }) = es := by
      apply Array.ext'
      rw [Array.toList_modify, modify_eq_set _ _ _ _ h2, show ({ e0 with key := .int .i64 y } : MapEntry) = e0 by rw [← h3]]
      exact set_self _ _ _ h2
    refine ⟨e0.val, e0.born, es, clock, ?_, fun w2 c hc hw2 => ⟨_, _, entry_store_at hw2 s2 h2 _, hmove w2 c _ _ _ _ hc hw2 ?_⟩⟩
    · simp [Instr.mapEntry, run_underlying ht, MapKept.run_getObj_map hb, K.check w false hkey, h1, hj, h3, K.stays w hkey, hsame, MapKept.run_setObj_map _ hb, Result.andThen, setBlock]
    · have hmod : es.modify j (fun e => { e with val := .int .i64 c }) = es.modify j (fun e' => { e' with key := .int .i64 y, val := .int .i64 c }) := by
        apply Array.ext'
        rw [Array.toList_modify, Array.toList_modify, modify_eq_set _ _ _ _ h2, modify_eq_set _ _ _ _ h2, ← h3]
      rw [hmod]
      simp [Instr.mapUpdate, run_underlying ht, MapKept.run_getObj_map hb, K.check w false hkey, h1, hj, h3, K.stays w hkey, MapKept.run_setObj_map _ hb, Result.andThen, setBlock]
end

end Go.Proofs.Ytlaaamaaabcfeaa

/- A tuple assignment into maps of numbers: the entry is laid, the value comes later: the laws at the operations. -/
namespace Go.Proofs.Ytlaaamaaabcfeaa
open Go.Maps Go.ChangeMaps Go.MapKept Go.WideElems
set_option linter.unusedVariables false

/-- In block b an entry for y is laid (its mark: st), which awaits its value. -/
def Pend (P : Program) (k t : TypeId) (w : World) (b n : Nat) (M : Int → Option Int) (y : Int) (st : Nat) : Prop :=
  ∃ (es1 : Array MapEntry) (clock1 : Nat), w.heap[b]? = some (.map es1 clock1) ∧
    ∀ (w2 : World) (c : Int), (Lit.int .i64 c).wf = true → w2.heap[b]? = some (.map es1 clock1) → ∃ es' clock', (Instr.entryStore t (.map (some b)) (goInt st) (.int .i64 c)).run P w2 = .ok () (setBlock w2 b (.map es' clock')) ∧
      IMap P k (setBlock w2 b (.map es' clock')) b (n + 1) (fun z => if z = y then some c else M z)

section
variable {P : Program} {k t : TypeId} {w : World} {b n : Nat} {M : Int → Option Int} {ops : Array Oper} {rest : List Oper} {o : Oper} {a : Act} {Q : Exit → Act → World → Prop} {y : Int} {st : Nat}

theorem Pend.block (h : Pend P k t w b n M y st) {w' : World} (he : w'.heap[b]? = w.heap[b]?) : Pend P k t w' b n M y st := by
  obtain ⟨es1, clock1, h1, h2⟩ := h
  exact ⟨es1, clock1, he.trans h1, h2⟩

theorem grown_setBlock (w : World) (b : Nat) (x : Obj) : w.grownBy (setBlock w b x) (some b) :=
  ⟨rfl, rfl, rfl, by simp [setBlock], fun i hi hne => by
    have : i ≠ b := fun e => hne (by rw [e])
    simp [setBlock, Array.getElem?_setIfInBounds, Ne.symm this]⟩

theorem wpList_ientry (hg : o.guard = none) (m x : Operand) (t : TypeId) (hop : o.op = Op.mapEntry t m x)
    (k : TypeId) (hk : P.underlying k = some (.int .i64)) (ht : P.underlying t = some (.map k k)) (hz : ∀ u : World, (zeroValue k).run P u = .ok (.int .i64 0) u) (b n : Nat) (M : Int → Option Int)
    (hm : a.eval m = .map (some b)) (hown : IMap P k w b n M) (hn : n < maxLen) (y : Int) (hx : a.eval x = .int .i64 y) (hw : (Lit.int .i64 y).wf = true)
    (hK : ∀ w' v0 st, Pend P k t w' b n M y st → w.grownBy w' (some b) → wpList P ops Q rest (a.put o.dst (.tuple #[v0, goInt st])) w') :
    wpList P ops Q (o :: rest) a w := by
  refine wpList_plain hg fun K' hK' => ?_
  have hlt := hown.lt
  obtain ⟨v0, st, es1, clock1, h1, h2⟩ := imap_entry hown hk ht hz hn hw
  unfold Oper.wp
  simp [execOp, hop, hm, hx, h1, Result.andThen]
  exact hK' _ _ (hK _ v0 st ⟨es1, clock1, by simp [setBlock, hlt], h2⟩ (grown_setBlock _ _ _))

theorem wpList_ientryStore (hg : o.guard = none) (m s x : Operand) (t : TypeId) (hop : o.op = Op.entryStore t m s x)
    (k : TypeId) (b n : Nat) (M : Int → Option Int) (y : Int) (st : Nat) (c : Int)
    (hm : a.eval m = .map (some b)) (hs : a.eval s = goInt st) (hx : a.eval x = .int .i64 c) (hp : Pend P k t w b n M y st) (hc : (Lit.int .i64 c).wf = true)
    (hK : ∀ w', IMap P k w' b (n + 1) (fun z => if z = y then some c else M z) → w.grownBy w' (some b) → wpList P ops Q rest (a.put o.dst undef) w') :
    wpList P ops Q (o :: rest) a w := by
  refine wpList_plain hg fun K' hK' => ?_
  obtain ⟨es1, clock1, h1, h2⟩ := hp
  obtain ⟨es', clock', h3, h4⟩ := h2 w c hc h1
  unfold Oper.wp
  simp [execOp, hop, hm, hs, hx, h3, Result.andThen]
  exact hK' _ _ (hK _ h4 (grown_setBlock _ _ _))
end
end Go.Proofs.Ytlaaamaaabcfeaa

/- What a slice reads as in a world, and how that stays while only new memory is written. -/
namespace Go.Proofs.Ytlaaamaaabcfeaa
open Go.RowKit
set_option linter.unusedVariables false

abbrev vu64 (n : Nat) : Value := .int .u64 (n : Int)
abbrev vu8 (n : Nat) : Value := .int .u8 (n : Int)

/-- The bytes of a text, as numbers; and back. -/
def bytesOf (s : ByteArray) : List Nat := s.data.toList.map UInt8.toNat
def strOf (ns : List Nat) : ByteArray := ⟨(ns.map UInt8.ofNat).toArray⟩

theorem bytesOf_length (s : ByteArray) : (bytesOf s).length = s.size := by simp [bytesOf]
theorem bytesOf_lt (s : ByteArray) : ∀ z ∈ bytesOf s, z < 256 := by
  intro z hz
  simp only [bytesOf, List.mem_map] at hz
  obtain ⟨u, _, rfl⟩ := hz
  exact u.toNat_lt
theorem strOf_bytesOf (s : ByteArray) : strOf (bytesOf s) = s := by
  have e : (UInt8.ofNat ∘ UInt8.toNat) = id := by funext u; simp
  simp [strOf, bytesOf, e]

/-- From address a on the cells hold the values vs. -/
def Cells (w : World) (a : Option Addr) (vs : List Value) : Prop :=
  vs = [] ∨ ∃ b off, a = some ⟨b, off, none⟩ ∧ ∀ i v, vs[i]? = some v → w.cell? ⟨b, off + i, none⟩ = some v

theorem Cells.nil (w : World) (a : Option Addr) : Cells w a [] := .inl rfl

theorem Cells.at {w : World} {a : Option Addr} {vs : List Value} (h : Cells w a vs) {i : Nat} (hi : i < vs.length) :
    ∃ b off, a = some ⟨b, off, none⟩ ∧ b < w.heap.size ∧ ∀ i v, vs[i]? = some v → w.cell? ⟨b, off + i, none⟩ = some v := by
  rcases h with rfl | ⟨b, off, rfl, hc⟩
  · simp at hi
  · exact ⟨b, off, rfl, World.block_lt_of_cell? _ _ (hc i _ (List.getElem?_eq_getElem hi)), hc⟩

/-- The same over a list of data, each of one cell. -/
theorem Cells.atMap {α : Type} {f : α → Value} {w : World} {a : Option Addr} {xs : List α} (h : Cells w a (xs.map f)) (d : α) {i : Nat} (hi : i < xs.length) :
    ∃ b off, a = some ⟨b, off, none⟩ ∧ b < w.heap.size ∧ ∀ i, i < xs.length → w.cell? ⟨b, off + i, none⟩ = some (f (xs.getD i d)) := by
  obtain ⟨b, off, rfl, hb, hc⟩ := h.at (i := i) (by simpa using hi)
  exact ⟨b, off, rfl, hb, fun j hj => hc j _ (by simp [hj])⟩

theorem Cells.below {w w' : World} {a : Option Addr} {vs : List Value} {B : Nat} (h : Cells w a vs) (hb : Below B w w') (hB : w.heap.size ≤ B) : Cells w' a vs := by
  rcases h with hn | ⟨b, off, rfl, hc⟩
  · exact .inl hn
  · refine .inr ⟨b, off, rfl, fun i v hi => ?_⟩
    rw [hb.cell (p := ⟨b, off + i, none⟩) (Nat.lt_of_lt_of_le (World.block_lt_of_cell? _ _ (hc i v hi)) hB)]
    exact hc i v hi

/-- A row that the call owns can be read. -/
theorem Cells.owned {w : World} {base e n cap : Nat} {a : Option Addr} {xs : List Value} (h : w.ownsRow base e 1 (.slice a n cap) n xs) : Cells w a xs := by
  rcases h.2 with ⟨_, h0⟩ | ⟨g, cap', cur, hv, _⟩
  · exact .inl (List.eq_nil_of_length_eq_zero (by have := h.1; omega))
  · refine .inr ⟨g, 0, by simp at hv; exact hv.1, fun i v hi => ?_⟩
    simp at hv
    obtain ⟨rfl, _⟩ := hv
    have := h.cells (g := g) rfl i v hi
    have ha : (⟨g, 0, none⟩ : Addr).add i = ⟨g, 0 + i, none⟩ := by unfold Addr.add; split <;> simp_all
    rwa [ha] at this

theorem Cells.drop {w : World} {b off : Nat} {vs : List Value} (h : Cells w (some ⟨b, off, none⟩) vs) (k : Nat) : Cells w (some ⟨b, off + k, none⟩) (vs.drop k) := by
  rcases h with rfl | ⟨b', off', he, hc⟩
  · exact .inl (by simp)
  · simp at he
    obtain ⟨rfl, rfl⟩ := he
    refine .inr ⟨b, off + k, rfl, fun i v hi => ?_⟩
    rw [List.getElem?_drop] at hi
    rw [Nat.add_assoc]
    exact hc _ _ hi

theorem Cells.take {w : World} {a : Option Addr} {vs : List Value} (h : Cells w a vs) (k : Nat) : Cells w a (vs.take k) := by
  rcases h with rfl | ⟨b, off, rfl, hc⟩
  · exact .inl (by simp)
  · refine .inr ⟨b, off, rfl, fun i v hi => ?_⟩
    rw [List.getElem?_take] at hi
    split at hi
    · exact hc _ _ hi
    · simp at hi

/-- The value of a slice that the call owns. -/
theorem owned_form {w : World} {base e size n : Nat} {v : Value} {xs : List Value} (h : w.ownsRow base e size v n xs) : ∃ a cap, v = .slice a n cap ∧ n ≤ cap ∧ cap ≤ maxLen := by
  rcases h.2 with ⟨rfl, rfl⟩ | ⟨g, cap, cur, rfl, _, _, h1, h2, _⟩
  · exact ⟨none, 0, rfl, Nat.le_refl _, Nat.zero_le _⟩
  · exact ⟨_, _, rfl, h1, h2⟩

theorem owned_below {w w' : World} {base e size n B : Nat} {v : Value} {xs : List Value} (h : w.ownsRow base e size v n xs) (hb : Below B w w') (hB : w.heap.size ≤ B) : w'.ownsRow base e size v n xs := by
  refine ⟨h.1, ?_⟩
  rcases h.2 with hn | ⟨g, cap, cur, rfl, h1, hg, r⟩
  · exact .inl hn
  · exact .inr ⟨g, cap, cur, rfl, h1, by rw [hb.block g (Nat.lt_of_lt_of_le (Array.getElem?_eq_some_iff.1 hg).1 hB)]; exact hg, r⟩

theorem cell_alloc_new (w : World) (cs : Array Value) (t : TypeId) (j : Nat) (v : Value) (h : cs[j]? = some v) : (w.alloc (.cells cs t)).cell? ⟨w.heap.size, j, none⟩ = some v := by
  rw [cell_of_row _ _ j cs t (0, 0) (heap_alloc_new w _)]; exact h

theorem below_alloc (w : World) (o : Obj) : Below w.heap.size w (w.alloc o) := (Below.refl _ _).alloc (Nat.le_refl _) o

theorem grown_heap {w w' : World} {v : Value} {base e size n g : Nat} {xs : List Value} {o : Obj} (hg : w.grownBy w' v.ownBlock) (ho : w.ownsRow base e size v n xs) (hb : g < base) (h : w.heap[g]? = some o) : w'.heap[g]? = some o := by
  rw [hg.block g (Array.getElem?_eq_some_iff.1 h).1 (fun c => by have := (ho.lt g c.symm).1; omega)]; exact h

theorem below_grown {B : Nat} {w w' : World} (h : w.grownBy w' none) (hB : B ≤ w.heap.size) : Below B w w' := (Below.refl B w).grown h hB (fun _ e => by cases e)

theorem made_cells (v : Value) (n : Nat) (h : v.cells = #[v]) : (madeCells v.cells (n * 1)).toList = List.replicate n v := by
  rw [h, Nat.mul_one]
  apply List.ext_getElem
  · simp [madeCells]
  · intro i h1 h2; simp [madeCells, Nat.mod_one]

/-- A slice type t of elements e: the element's zero cells, how many cells, how many bytes. -/
structure Elem (P : Program) (t e : TypeId) (z : Value) (size bytes : Nat) : Prop where
  under : P.underlying t = some (.slice e)
  info : ∃ i, P.info? e = some i ∧ i.zero = some z ∧ i.size = size ∧ i.bytes = bytes
  cells : z.cells.size = size
  pos : 0 < size

theorem Elem.mk' {P : Program} {t e : TypeId} {z : Value} {size bytes : Nat} (h1 : P.underlying t = some (.slice e)) (h2 : (P.info? e).map (fun i => (i.zero, i.size, i.bytes)) = some (some z, size, bytes)) (h3 : z.cells.size = size) (h4 : 0 < size) : Elem P t e z size bytes :=
  ⟨h1, info_parts h2, h3, h4⟩

section laws
variable {P : Program} {w : World} {ops : Array Oper} {rest : List Oper} {o : Oper} {a : Act} {Q : Exit → Act → World → Prop}

theorem grownBy_of_alloc {w w' : World} {ob : Obj} {row : Option Nat} (h : (w.alloc ob).grownBy w' row) : w.grownBy w' row :=
  ⟨h.os, h.tape, h.output, Nat.le_trans (by simp) h.size, fun k hk hr => (h.block k (by simp; omega) hr).trans (Below.heap_alloc w ob k hk)⟩

/-- 'append(xs, x)', x of one cell: it was laid into a new block of one cell just before. -/
theorem wpList_append_one {s x : Operand} {t e : TypeId} {z : Value} {bytes base n : Nat} {v u : Value} {xs : List Value} (E : Elem P t e z 1 bytes)
    (hown : w.ownsRow base e 1 v n xs) (hu : u.oneCell' = true) (hn : n < 1000000000000) (hby : bytes ≤ 64) (hbase : base ≤ w.heap.size)
    (hgd : o.guard = none) (ho : o.op = .call { callee := .builtin .append, args := #[s, x], argTypes := #[t, t] })
    (hs : a.eval s = v) (hx : a.eval x = .slice (some ⟨w.heap.size, 0, none⟩) 1 1)
    (hK : ∀ v' w', w'.ownsRow base e 1 v' (n + 1) (xs ++ [u]) → w.grownBy w' v.ownBlock → v' ≠ .slice none 0 0 → wpList P ops Q rest (a.put o.dst v') w') :
    wpList P ops Q (o :: rest) a (w.alloc (.cells #[u] e)) := by
  obtain ⟨i, h1, h2, h3, h4⟩ := E.info
  refine wpList_append_own _ hgd s x t ho base e i z 1 bytes E.under h1 h2 h3 h4 E.cells (by decide) v n xs hs (hown.alloc _) ⟨w.heap.size, 0, none⟩ 1 1 [u] hx rfl (cell_one_new w u e) (by simpa using hu) (by unfold maxLen; omega) ?_ (by simp; omega) ?_
  · have : (n + 1) * bytes ≤ 1000000000000 * 64 := Nat.mul_le_mul (by omega) hby
    omega
  · intro v' w' h1 h2 h3
    exact hK v' w' h1 (grownBy_of_alloc h2) (fun e => by have := (h3.1 e).2; omega)

/-- 'append(xs, T{..})': the element was laid into a new block just before. -/
theorem wpList_append_built {s x : Operand} {t e : TypeId} {z : Value} {size bytes base n : Nat} {v : Value} {xs : List Value} {us : Array Value} (E : Elem P t e z size bytes)
    (hown : w.ownsRow base e size v n xs) (hus : us.size = size) (hu : ∀ u ∈ us.toList, u.oneCell' = true) (hn : n < 1000000000000) (hby : bytes ≤ 64) (hbase : base ≤ w.heap.size)
    (hgd : o.guard = none) (ho : o.op = .call { callee := .builtin .append, args := #[s, x], argTypes := #[t, t] })
    (hs : a.eval s = v) (hx : a.eval x = .slice (some ⟨w.heap.size, 0, none⟩) 1 1)
    (hK : ∀ v' w', w'.ownsRow base e size v' (n + 1) (xs ++ us.toList) → w.grownBy w' v.ownBlock → v' ≠ .slice none 0 0 → wpList P ops Q rest (a.put o.dst v') w') :
    wpList P ops Q (o :: rest) a (w.alloc (.cells us e)) := by
  obtain ⟨i, h1, h2, h3, h4⟩ := E.info
  refine wpList_append_own _ hgd s x t ho base e i z size bytes E.under h1 h2 h3 h4 E.cells E.pos v n xs hs (hown.alloc _) ⟨w.heap.size, 0, none⟩ 1 1 us.toList hx (by simpa using hus) ?_ hu (by unfold maxLen; omega) ?_ (by simp; omega) ?_
  · intro j u hj
    have e : (⟨w.heap.size, 0, none⟩ : Addr).add j = ⟨w.heap.size, j, none⟩ := by unfold Addr.add; split <;> simp_all
    rw [e]
    exact cell_alloc_new w us _ j u (by simpa using hj)
  · have : (n + 1) * bytes ≤ 1000000000000 * 64 := Nat.mul_le_mul (by omega) hby
    omega
  · intro v' w' h1 h2 h3
    exact hK v' w' h1 (grownBy_of_alloc h2) (fun e => by have := (h3.1 e).2; omega)

/-- 'append(xs, ys...)', ys not nil. -/
theorem wpList_append_many {s x : Operand} {t e : TypeId} {z : Value} {size bytes base n m c : Nat} {v : Value} {xs ys : List Value} {ad : Addr} (E : Elem P t e z size bytes)
    (hown : w.ownsRow base e size v n xs) (hl : ys.length = m * size) (hys : ∀ j u, ys[j]? = some u → w.cell? (ad.add j) = some u) (h1 : ∀ u ∈ ys, u.oneCell' = true)
    (hn : n + m < 1000000000000) (hby : bytes ≤ 64) (hbase : base ≤ w.heap.size)
    (hgd : o.guard = none) (ho : o.op = .call { callee := .builtin .append, args := #[s, x], argTypes := #[t, t] })
    (hs : a.eval s = v) (hx : a.eval x = .slice (some ad) m c)
    (hK : ∀ v' w', w'.ownsRow base e size v' (n + m) (xs ++ ys) → w.grownBy w' v.ownBlock → (v' = .slice none 0 0 ↔ v = .slice none 0 0 ∧ m = 0) → wpList P ops Q rest (a.put o.dst v') w') :
    wpList P ops Q (o :: rest) a w := by
  obtain ⟨i, i1, i2, i3, i4⟩ := E.info
  refine wpList_append_own _ hgd s x t ho base e i z size bytes E.under i1 i2 i3 i4 E.cells E.pos v n xs hs hown ad m c ys hx hl hys h1 (by unfold maxLen; omega) ?_ hbase hK
  have : (n + m) * bytes ≤ 1000000000000 * 64 := Nat.mul_le_mul (by omega) hby
  omega

/-- 'make([]T, 0, n)'. -/
theorem wpList_make_cap {l c : Operand} {t e : TypeId} {z : Value} {size bytes : Nat} (E : Elem P t e z size bytes) (base n : Nat) {kl kc : IntKind} {C : Int}
    (hC : C = (n : Int)) (hn : n < 1000000000000) (hby : bytes ≤ 64) (hbase : base ≤ w.heap.size)
    (hgd : o.guard = none) (ho : o.op = .makeSlice t l c) (hl : a.eval l = .int kl 0) (hc : a.eval c = .int kc C)
    (hK : ∀ w', w'.ownsRow base e size (.slice (some ⟨w.heap.size, 0, none⟩) 0 n) 0 [] → w.grownBy w' none → wpList P ops Q rest (a.put o.dst (.slice (some ⟨w.heap.size, 0, none⟩) 0 n)) w') :
    wpList P ops Q (o :: rest) a w := by
  obtain ⟨i, i1, i2, i3, i4⟩ := E.info
  refine wpList_make_own _ hgd l c t ho base e i z size E.under i1 i2 i3 kl kc C n hl hc hC ?_ (by unfold maxLen; omega) hbase hK
  rw [i4]
  have : bytes * n ≤ 64 * 1000000000000 := Nat.mul_le_mul hby (by omega)
  omega

/-- 'make([]T, n)', T of one cell. -/
theorem wpList_make_len {l c : Operand} {t e : TypeId} {z : Value} {bytes : Nat} (E : Elem P t e z 1 bytes) (base n : Nat) {kl kc : IntKind} {L C : Int} (hz : z.cells = #[z])
    (hL : L = (n : Int)) (hC : C = (n : Int)) (hn : n < 1000000000000) (hby : bytes ≤ 64) (hbase : base ≤ w.heap.size)
    (hgd : o.guard = none) (ho : o.op = .makeSlice t l c) (hl : a.eval l = .int kl L) (hc : a.eval c = .int kc C)
    (hK : ∀ w', w'.ownsRow base e 1 (.slice (some ⟨w.heap.size, 0, none⟩) n n) n (List.replicate n z) → w.grownBy w' none → wpList P ops Q rest (a.put o.dst (.slice (some ⟨w.heap.size, 0, none⟩) n n)) w') :
    wpList P ops Q (o :: rest) a w := by
  obtain ⟨i, i1, i2, i3, i4⟩ := E.info
  refine wpList_make_full _ hgd l c t ho base e i z 1 E.under i1 i2 i3 kl kc L C n hl hc hL hC ?_ (by unfold maxLen; omega) hbase ?_
  · rw [i4]
    have : bytes * n ≤ 64 * 1000000000000 := Nat.mul_le_mul hby (by omega)
    omega
  · rw [made_cells z n hz]
    exact hK

/-- 'append(xs, ys...)', both rows that the call made, either of them nil or not. -/
theorem wpList_append_rows {s x : Operand} {t e : TypeId} {z : Value} {size bytes base base2 n m : Nat} {v v2 : Value} {xs ys : List Value} (E : Elem P t e z size bytes)
    (hown : w.ownsRow base e size v n xs) (hsrc : w.ownsRow base2 e size v2 m ys) (h1 : ∀ u ∈ ys, u.oneCell' = true)
    (hn : n + m < 1000000000000) (hby : bytes ≤ 64) (hbase : base ≤ w.heap.size)
    (hgd : o.guard = none) (ho : o.op = .call { callee := .builtin .append, args := #[s, x], argTypes := #[t, t] })
    (hs : a.eval s = v) (hx : a.eval x = v2)
    (hK : ∀ v' w', w'.ownsRow base e size v' (n + m) (xs ++ ys) → w.grownBy w' v.ownBlock → wpList P ops Q rest (a.put o.dst v') w') :
    wpList P ops Q (o :: rest) a w := by
  rcases hsrc.2 with ⟨rfl, rfl⟩ | ⟨g, cap, cur, rfl, _⟩
  · obtain ⟨i, i1, _⟩ := E.info
    have hy : ys = [] := List.eq_nil_of_length_eq_zero (by have := hsrc.1; simpa using this)
    subst hy
    refine wpList_append_own_none hgd s x t ho base e i size E.under i1 v n xs hs hown hx (hK v w (by simpa using hown) ⟨rfl, rfl, rfl, Nat.le_refl _, fun _ _ _ => rfl⟩)
  · exact wpList_append_many E hown hsrc.1 (fun j u hj => hsrc.cells (g := g) rfl j u hj) h1 hn hby hbase hgd ho hs hx (fun v' w' a b _ => hK v' w' a b)

theorem run_slice_any {t e : TypeId} {z : Value} {size bytes : Nat} (E : Elem P t e z size bytes) (ad : Option Addr) (n cap l h : Nat) (low high : Option Value)
    (hb : (Instr.sliceBounds true n cap low high none).run P w = .ok (l, h, cap) w) :
    (Instr.sliceAt t (.slice ad n cap) low high none).run P w = .ok (.slice (if cap = l then ad else ad.map (·.add (l * size))) (h - l) (cap - l)) w := by
  obtain ⟨i, i1, i2, i3, i4⟩ := E.info
  simp [Instr.sliceAt, Instr.slice, run_underlying E.under, hb, sizeOf, typeInfo, i1, i3]

theorem Cells.shift {w : World} {ad : Option Addr} {vs : List Value} (h : Cells w ad vs) (k : Nat) (c : Prop) [Decidable c] (hc : c → vs.length ≤ k) : Cells w (if c then ad else ad.map (·.add k)) (vs.drop k) := by
  split
  · rename_i hc'
    rw [List.drop_eq_nil_of_le (hc hc')]
    exact Cells.nil _ _
  · rcases h with rfl | ⟨b, off, rfl, hcs⟩
    · simp; exact Cells.nil _ _
    · have e : (⟨b, off, none⟩ : Addr).add k = ⟨b, off + k, none⟩ := by unfold Addr.add; split <;> simp_all
      simp only [Option.map_some, e]
      exact Cells.drop (.inr ⟨b, off, rfl, hcs⟩) k

/-- 'xs[lo:]'. -/
theorem wpList_slice_from {x lo : Operand} {t e : TypeId} {z : Value} {size bytes : Nat} (E : Elem P t e z size bytes) {ad : Option Addr} {n cap : Nat} {k : IntKind} {L : Int} (l : Nat) {vs : List Value}
    (hc : Cells w ad vs) (hlen : vs.length = n * size) (hL : L = (l : Int)) (hl : l ≤ n) (hn : n ≤ cap)
    (hgd : o.guard = none) (ho : o.op = .slice t x (some lo) none none) (hx : a.eval x = .slice ad n cap) (hlo : a.eval lo = .int k L)
    (hK : ∀ ad', Cells w ad' (vs.drop (l * size)) → wpList P ops Q rest (a.put o.dst (.slice ad' (n - l) (cap - l))) w) :
    wpList P ops Q (o :: rest) a w := by
  refine wpList_plain hgd fun K hK' => ?_
  subst hL
  have hr := run_slice_any (w := w) E ad n cap l n (some (.int k l)) none (by
    have : (0 : Int) ≤ (l : Int) ∧ (l : Int) ≤ (n : Int) := by omega
    simp [Instr.sliceBounds, Instr.sliceBound, asIntOf, hl, hn, Nat.le_trans hl hn])
  unfold Oper.wp
  simp only [execOp, ho, hx, hlo, Option.map_some, Option.map_none]
  simp [hr, Result.andThen]
  exact hK' _ _ (hK _ (hc.shift (l * size) (cap = l) (fun h => by rw [hlen]; exact Nat.mul_le_mul_right _ (by omega))))

/-- 'xs[:hi]'. -/
theorem wpList_slice_to {x hi : Operand} {t e : TypeId} {z : Value} {size bytes : Nat} (E : Elem P t e z size bytes) {ad : Option Addr} {n cap : Nat} {k : IntKind} {H : Int} (h : Nat) {vs : List Value}
    (hc : Cells w ad vs) (hlen : vs.length = n * size) (hH : H = (h : Int)) (hl : h ≤ n) (hn : n ≤ cap)
    (hgd : o.guard = none) (ho : o.op = .slice t x none (some hi) none) (hx : a.eval x = .slice ad n cap) (hlo : a.eval hi = .int k H)
    (hK : Cells w ad (vs.take (h * size)) → wpList P ops Q rest (a.put o.dst (.slice ad h cap)) w) :
    wpList P ops Q (o :: rest) a w := by
  refine wpList_plain hgd fun K hK' => ?_
  subst hH
  have hr := run_slice_any (w := w) E ad n cap 0 h none (some (.int k h)) (by
    have : (0 : Int) ≤ (h : Int) ∧ (h : Int) ≤ (cap : Int) := by omega
    simp [Instr.sliceBounds, Instr.sliceBound, asIntOf, hl, hn, Nat.le_trans hl hn])
  have e : (if cap = 0 then ad else ad.map (·.add (0 * size))) = ad := by
    split
    · rfl
    · cases ad <;> simp [Addr.add]
  rw [e] at hr
  unfold Oper.wp
  simp only [execOp, ho, hx, hlo, Option.map_some, Option.map_none]
  simp [hr, Result.andThen]
  exact hK' _ _ (hK (hc.take _))

/-- 'xs[lo:hi]'. -/
theorem wpList_slice_mid {x lo hi : Operand} {t e : TypeId} {z : Value} {size bytes : Nat} (E : Elem P t e z size bytes) {ad : Option Addr} {n cap : Nat} {k k' : IntKind} {L H : Int} (l h : Nat) {vs : List Value}
    (hc : Cells w ad vs) (hlen : vs.length = n * size) (hL : L = (l : Int)) (hH : H = (h : Int)) (hl : l ≤ h) (hh : h ≤ n) (hn : n ≤ cap)
    (hgd : o.guard = none) (ho : o.op = .slice t x (some lo) (some hi) none) (hx : a.eval x = .slice ad n cap) (hlo : a.eval lo = .int k L) (hhi : a.eval hi = .int k' H)
    (hK : ∀ ad', ad' = (if cap = l then ad else ad.map (·.add (l * size))) → Cells w ad' ((vs.drop (l * size)).take ((h - l) * size)) → wpList P ops Q rest (a.put o.dst (.slice ad' (h - l) (cap - l))) w) :
    wpList P ops Q (o :: rest) a w := by
  refine wpList_plain hgd fun K hK' => ?_
  subst hL
  subst hH
  have hr := run_slice_any (w := w) E ad n cap l h (some (.int k l)) (some (.int k' h)) (by
    have h1 : (0 : Int) ≤ (l : Int) ∧ (l : Int) ≤ (h : Int) := by omega
    have h2 : (0 : Int) ≤ (h : Int) ∧ (h : Int) ≤ (cap : Int) := by omega
    simp [Instr.sliceBounds, Instr.sliceBound, asIntOf, hl, Nat.le_trans hh hn])
  unfold Oper.wp
  simp only [execOp, ho, hx, hlo, hhi, Option.map_some]
  simp [hr, Result.andThen]
  exact hK' _ _ (hK _ rfl ((hc.shift (l * size) (cap = l) (fun h => by rw [hlen]; exact Nat.mul_le_mul_right _ (by omega))).take _))

/-- A struct or array type: its zero, its cells. -/
structure Agg (P : Program) (ty : TypeId) (zs : Array Value) : Prop where
  desc : ∃ d, P.underlying ty = some d ∧ (match d with | .struct _ | .array _ _ => true | _ => false) = true
  info : (P.info? ty).map (fun i => (i.zero, i.size)) = some (some (.agg zs), zs.size)

theorem Agg.size {ty : TypeId} {zs : Array Value} (A : Agg P ty zs) : (P.info? ty).map (·.size) = some zs.size := (zero_of_info A.info).2

/-- 'var x T', T a struct or an array, its address taken. -/
theorem wpList_alloc_agg {ty : TypeId} {zs : Array Value} (A : Agg P ty zs) (hgd : o.guard = none) (ho : o.op = .alloc ty)
    (hK : ∀ w', w'.heap[w.heap.size]? = some (.cells zs ty (0, 0)) → w.grownBy w' none → w'.heap.size = w.heap.size + 1 → wpList P ops Q rest (a.put o.dst (.pointer (some ⟨w.heap.size, 0, none⟩))) w') :
    wpList P ops Q (o :: rest) a w := by
  refine wpList_plain hgd fun K hK' => ?_
  have hz := (zero_of_info A.info).1
  have hr : (Instr.alloc ty true (.tuple #[])).run P w = .ok (.pointer (some ⟨w.heap.size, 0, none⟩)) (w.alloc (.cells zs ty)) := by
    simp [Instr.alloc, hz, newVar, newRow, Value.cells]
  unfold Oper.wp
  simp only [execOp, ho]
  simp [hr, Result.andThen]
  exact hK' _ _ (hK _ (heap_alloc_new w _) (World.grownBy_alloc w _ none) (by simp))

/-- A struct or an array, whole, into a block of its own. -/
theorem wpList_store_row {ty : TypeId} {zs : Array Value} (A : Agg P ty zs) {p x : Operand} {g : Nat} {t : TypeId} {old cs : Array Value} (hg : w.heap[g]? = some (.cells old t (0, 0)))
    (hs : cs.size = zs.size) (hold : old.size = cs.size) (h1 : cs.all (·.oneCell') = true)
    (hgd : o.guard = none) (ho : o.op = .store ty p x) (hp : a.eval p = .pointer (some ⟨g, 0, none⟩)) (hx : a.eval x = .agg cs)
    (hK : ∀ w', w'.heap[g]? = some (.cells cs t (0, 0)) → w.grownBy w' (some g) → w'.heap.size = w.heap.size → wpList P ops Q rest (a.put o.dst undef) w') :
    wpList P ops Q (o :: rest) a w := by
  refine wpList_plain hgd fun K hK' => ?_
  have hr := run_storeVar_row (P := P) w g t ty old cs hg (by rw [A.size, hs]) hold h1
  have hr2 : (Instr.storeAt ty (.pointer (some ⟨g, 0, none⟩)) (.agg cs)).run P w = .ok () (w.setRow g cs) := by
    simp only [Instr.storeAt, Instr.sureAddr, Sem.run_bind, Sem.run_pure, Result.andThen]
    exact hr
  unfold Oper.wp
  simp only [execOp, ho, hp, hx]
  simp only [Sem.run_bind, hr2, Result.andThen, Sem.run_pure]
  exact hK' _ _ (hK _ (setRow_heap w g old cs t _ hg) ⟨rfl, rfl, rfl, by simp, fun k _ hk => setRow_other w g k _ (fun e => hk (by rw [e]))⟩ (by simp))

/-- 'arr[i]', arr an array by value, its elements of one cell. -/
theorem wpList_index_arr {ty e : TypeId} {n : Nat} {d : TypeDesc} {x ix : Operand} {cs : Array Value} {k : IntKind} {I : Int} (i : Nat) (hu : P.underlying ty = some (.array n e)) (he : P.underlying e = some d)
    (hd : (match d with | .struct _ | .array _ _ => true | _ => false) = false) (hi : (P.info? e).map (·.size) = some 1) (hI : I = (i : Int)) (hn : i < n) {v : Value} (hv : cs[i]? = some v)
    (hgd : o.guard = none) (ho : o.op = .index ty x ix) (hx : a.eval x = .agg cs) (hix : a.eval ix = .int k I)
    (hK : wpList P ops Q rest (a.put o.dst v) w) : wpList P ops Q (o :: rest) a w := by
  refine wpList_plain hgd fun K hK' => ?_
  subst hI
  have hagg : (isAgg e).run P w = .ok false w := by
    unfold isAgg
    rw [Sem.run_bind, run_underlying he w]
    cases d <;> simp_all
  have hr : (Instr.index ty (.agg cs) (.int k i)).run P w = .ok v w := by
    cases hq : P.info? e with
    | none => simp [hq] at hi
    | some inf =>
      have hs : inf.size = 1 := by simpa [hq] using hi
      have h2 : (i : Int) < (n : Int) := by omega
      simp [Instr.index, asIntOf, run_underlying hu, sizeOf, typeInfo, hq, hs, hn, part, hagg, hv]
  unfold Oper.wp
  simp only [execOp, ho, hx, hix]
  simp [hr, Result.andThen]
  exact hK' _ _ hK

/-- '[]byte(s)': a new row. -/
theorem wpList_bytes_of {x : Operand} {src dst e : TypeId} {s : ByteArray} (h1 : P.underlying src = some .string) (h2 : P.underlying dst = some (.slice e)) (h3 : P.underlying e = some (.int .u8))
    (hgd : o.guard = none) (ho : o.op = .convert src dst x) (hx : a.eval x = .string s)
    (hK : ∀ c w', Cells w' (some ⟨w.heap.size, 0, none⟩) ((bytesOf s).map vu8) → w.grownBy w' none → w'.heap.size = w.heap.size + 1 → wpList P ops Q rest (a.put o.dst (.slice (some ⟨w.heap.size, 0, none⟩) s.size c)) w') :
    wpList P ops Q (o :: rest) a w := by
  refine wpList_plain hgd fun K hK' => ?_
  have hr := Lib.run_convert_string_bytes (P := P) w src dst e s h1 h2 h3
  unfold Oper.wp
  simp only [execOp, ho, hx]
  simp [hr, Result.andThen]
  refine hK' _ _ (hK _ _ ?_ ?_ (Lib.bytesWorld_size w e s))
  · refine .inr ⟨_, _, rfl, fun i v hi => ?_⟩
    rw [List.getElem?_map] at hi
    obtain ⟨n, hn, rfl⟩ := Option.map_eq_some_iff.1 hi
    unfold bytesOf at hn
    rw [List.getElem?_map] at hn
    obtain ⟨u, hu, rfl⟩ := Option.map_eq_some_iff.1 hn
    have hl : i < s.size := by
      have := (List.getElem?_eq_some_iff.1 hu).1
      simpa using this
    rw [Nat.zero_add, Lib.bytesWorld_cell w e s i hl]
    simp only [List.getD_eq_getElem?_getD, hu, Option.getD_some]
  · exact ⟨rfl, rfl, rfl, by rw [Lib.bytesWorld_size]; omega, fun k hk _ => Lib.bytesWorld_at_old w e s k hk⟩

/-- 'string(b)'. -/
theorem wpList_string_of {x : Operand} {src dst e : TypeId} {ad : Option Addr} {c : Nat} {ns : List Nat} (h1 : P.underlying src = some (.slice e)) (h2 : P.underlying e = some (.int .u8)) (h3 : P.underlying dst = some .string)
    (hc : Cells w ad (ns.map vu8)) (hgd : o.guard = none) (ho : o.op = .convert src dst x) (hx : a.eval x = .slice ad ns.length c)
    (hK : wpList P ops Q rest (a.put o.dst (.string (strOf ns))) w) :
    wpList P ops Q (o :: rest) a w := by
  refine wpList_plain hgd fun K hK' => ?_
  have hr : (convert src dst (.slice ad ns.length c)).run P w = .ok (.string (strOf ns)) w := by
    rcases hc with h0 | ⟨b, off, rfl, hc⟩
    · have hn : ns = [] := by simpa using h0
      subst hn
      cases ad with
      | none => rw [run_convert_bytes_nil w src e h1 h2 _ _ dst h3]; rfl
      | some d =>
        rw [run_convert_bytes_string w src dst e (some d) _ c h1 h2 h3]
        have := run_bytesToString (P := P) w d 0 c [] (by simp [loadCells, loadCellsFrom])
        simp only [List.length_nil]
        rw [this]; rfl
    · rw [run_convert_bytes_arg w src e h1 h2 b off ns.length c (ns.map (fun n : Nat => (n : Int))) (by simp) ?_ dst h3]
      · congr 2
        simp [strOfNums, strOf]
      · intro i hi
        rw [hc i (vu8 (ns.getD i 0)) (by simp [hi])]
        simp [hi]
  unfold Oper.wp
  simp only [execOp, ho, hx]
  simp [hr, Result.andThen]
  exact hK' _ _ hK
end laws

theorem below_grownBy {B : Nat} {w0 w w' : World} {base e size n : Nat} {v : Value} {xs : List Value} (h : Below B w0 w) (ho : w.ownsRow base e size v n xs) (hg : w.grownBy w' v.ownBlock) (hB : B ≤ w0.heap.size) (hb : B ≤ base) : Below B w0 w' :=
  h.grown hg (Nat.le_trans hB h.size) (fun k e => Nat.le_trans hb (ho.lt k e).1)

theorem one_cells {k : IntKind} (ns : List Nat) : ∀ u ∈ ns.map (fun n : Nat => Value.int k (n : Int)), u.oneCell' = true := by
  intro u hu
  simp only [List.mem_map] at hu
  obtain ⟨n, _, rfl⟩ := hu
  rfl

theorem vint {k : IntKind} {a b : Int} (h : a = b) : Value.int k a = Value.int k b := by rw [h]
theorem ret_int {k : IntKind} {a b : Int} (h : a = b) : Ending.returned (.int k a) = .returned (.int k b) := by rw [h]
theorem ret_bool {a b : Bool} (h : a = b) : Ending.returned (.bool a) = .returned (.bool b) := by rw [h]

end Go.Proofs.Ytlaaamaaabcfeaa

/- What lies in a block; which blocks have changed. -/
namespace Go.Proofs.Ytlaaamaaabcfeaa
open Go.RowKit
set_option linter.unusedVariables false

/-- In block g lie, from its beginning on, these cells (more may follow). -/
def RowAt (w : World) (g e : Nat) (vs : List Value) : Prop := ∃ xs : Array Value, w.heap[g]? = some (.cells xs e (0, 0)) ∧ ∃ more, xs.toList = vs ++ more

theorem RowAt.cell {w : World} {g e : Nat} {vs : List Value} (h : RowAt w g e vs) {i : Nat} {v : Value} (hi : vs[i]? = some v) : w.cell? ⟨g, i, none⟩ = some v := by
  obtain ⟨xs, hg, more, hx⟩ := h
  rw [cell_of_row _ _ i xs e (0, 0) hg, ← Array.getElem?_toList, hx, List.getElem?_append_left (List.getElem?_eq_some_iff.1 hi).1]
  exact hi
theorem RowAt.frozen {w : World} {g e : Nat} {vs : List Value} (h : RowAt w g e vs) (i : Nat) : w.frozen? ⟨g, i, none⟩ = false := by
  obtain ⟨xs, hg, _⟩ := h
  exact frozen_of_row _ _ _ _ _ hg
theorem RowAt.lt {w : World} {g e : Nat} {vs : List Value} (h : RowAt w g e vs) : g < w.heap.size := by
  obtain ⟨xs, hg, _⟩ := h
  exact (Array.getElem?_eq_some_iff.1 hg).1
theorem RowAt.keep {w w' : World} {g e : Nat} {vs : List Value} (h : RowAt w g e vs) (hk : w'.heap[g]? = w.heap[g]?) : RowAt w' g e vs := by
  obtain ⟨xs, hg, r⟩ := h
  exact ⟨xs, hk.trans hg, r⟩
theorem RowAt.set {w : World} {g e : Nat} {vs : List Value} (h : RowAt w g e vs) (i : Nat) (hi : i < vs.length) (v : Value) : RowAt (w.setCell ⟨g, i, none⟩ v) g e (vs.set i v) := by
  obtain ⟨xs, hg, more, hx⟩ := h
  refine ⟨_, heap_setCell_same w g i xs e v hg, more, ?_⟩
  rw [Array.toList_setIfInBounds, hx, List.set_append_left _ _ hi]
theorem RowAt.cells {w : World} {g e : Nat} {vs : List Value} (h : RowAt w g e vs) : Cells w (some ⟨g, 0, none⟩) vs :=
  .inr ⟨g, 0, rfl, fun i v hi => by rw [Nat.zero_add]; exact h.cell hi⟩

/-- Nothing but some blocks has changed. -/
structure Touch (L : List Nat) (w w' : World) : Prop where
  os : w'.os = w.os
  tape : w'.tape = w.tape
  output : w'.output = w.output
  size : w.heap.size ≤ w'.heap.size
  block : ∀ k, k < w.heap.size → k ∉ L → w'.heap[k]? = w.heap[k]?

theorem Touch.refl (L : List Nat) (w : World) : Touch L w w := ⟨rfl, rfl, rfl, Nat.le_refl _, fun _ _ _ => rfl⟩
theorem Touch.trans {L : List Nat} {a b c : World} (h : Touch L a b) (k : Touch L b c) : Touch L a c :=
  ⟨k.os.trans h.os, k.tape.trans h.tape, k.output.trans h.output, Nat.le_trans h.size k.size, fun i hi hn => (k.block i (Nat.lt_of_lt_of_le hi h.size) hn).trans (h.block i hi hn)⟩
theorem Touch.setCell {L : List Nat} {w : World} (p : Addr) (hp : p.block ∈ L) (u : Value) : Touch L w (w.setCell p u) :=
  ⟨rfl, rfl, rfl, by simp [World.setCell], fun k _ hn => Below.heap_setCell _ _ _ _ (fun e => hn (e ▸ hp))⟩
theorem Touch.below {L : List Nat} {B : Nat} {w w' : World} (h : Touch L w w') (hB : B ≤ w.heap.size) (hL : ∀ k ∈ L, B ≤ k) : Below B w w' :=
  ⟨h.os, h.tape, h.output, h.size, fun k hk => h.block k (by omega) (fun hm => by have := hL k hm; omega)⟩
theorem Touch.ofBelow {L : List Nat} {w w' : World} (h : Below w.heap.size w w') : Touch L w w' := ⟨h.os, h.tape, h.output, h.size, fun k hk _ => h.block k hk⟩

end Go.Proofs.Ytlaaamaaabcfeaa

/- Regions that draw their order: operations that only read, then one new row that may come earlier, then operations in a forced order: one walk in the text's order serves every order. And a class of worlds for reading regions with calls that make memory. -/
namespace Go.Proofs.Ytlaaamaaabcfeaa
open Go.RowKit
set_option linter.unusedVariables false

/-- Worlds in which all that was there is as it was. -/
structure Later (w : World) where
  val : World
  below : Below w.heap.size w val
instance (w : World) : Nonempty (Later w) := ⟨⟨w, Below.refl _ _⟩⟩

theorem later_cell {w : World} {p : Addr} {v : Value} (h : w.cell? p = some v) (x : Later w) : x.val.cell? p = some v := by
  rw [x.below.cell (World.block_lt_of_cell? _ _ h)]; exact h

section
variable {P : Program} {ops : Array Oper} {md : Region.Mode} {C : World → Prop} {Q : Exit → Act → World → Prop}

/-- A region whose operations and callees give one value each in every later world. -/
theorem wp_region_later {id : Nat} {a : Act} {w : World} {l : List Oper} (hm : P.follows .mixedOrders = true) (hB : Region.lexB .any l.toArray = true)
    (h : wpQuiet P l.toArray (fun w' => ∃ x : Later w, w' = x.val) (fun a' => ∀ w', (∃ x : Later w, w' = x.val) → Q .normal a' w') l a) : (Code.region id l.toArray true).wp P Q a w :=
  wp_region_quiet (C := fun w' => ∃ x : Later w, w' = x.val) hm hB ⟨⟨w.drew, (Below.refl _ _).drew⟩, rfl⟩ (by simpa using h)

/-- A callee's contract, met in a later world. -/
theorem calls_later {f : FuncId} {args : Array Value} {w : World} {x : Later w} {v : Value} (h : Calls P f args x.val fun e w' => e = .returned v ∧ Below x.val.heap.size x.val w') :
    Calls P f args x.val fun e w'' => e = .returned v ∧ ∃ y : Later w, w'' = y.val :=
  h.mono fun _ w' ⟨he, hb⟩ => ⟨he, ⟨w', x.below.trans (hb.mono x.below.size)⟩, rfl⟩

theorem owned_some {w : World} {base e size n : Nat} {v : Value} {xs : List Value} (h : w.ownsRow base e size v n xs) (hn : 0 < n) : ∃ g c, v = .slice (some ⟨g, 0, none⟩) n c ∧ n ≤ c ∧ c ≤ maxLen ∧ base ≤ g ∧ g < w.heap.size := by
  rcases h.2 with ⟨rfl, rfl⟩ | ⟨g, cap, cur, rfl, hb, hg, h1, h2, _⟩
  · omega
  · exact ⟨_, _, rfl, h1, h2, hb, (Array.getElem?_eq_some_iff.1 hg).1⟩

/-- 'append(xs, x)', the element laid into a new block just before: the slice that comes out is written out. -/
theorem wpList_append_new {w : World} {rest : List Oper} {o : Oper} {a : Act} {s x : Operand} {t e : TypeId} {z : Value} {size bytes base n : Nat} {v : Value} {xs : List Value} {us : Array Value} (E : Elem P t e z size bytes)
    (hown : w.ownsRow base e size v n xs) (hus : us.size = size) (hu : ∀ u ∈ us.toList, u.oneCell' = true) (hn : n < 1000000000000) (hby : bytes ≤ 64) (hbase : base ≤ w.heap.size)
    (hgd : o.guard = none) (ho : o.op = .call { callee := .builtin .append, args := #[s, x], argTypes := #[t, t] })
    (hs : a.eval s = v) (hx : a.eval x = .slice (some ⟨w.heap.size, 0, none⟩) 1 1)
    (hK : ∀ g c w', w'.ownsRow base e size (.slice (some ⟨g, 0, none⟩) (n + 1) c) (n + 1) (xs ++ us.toList) → w.grownBy w' v.ownBlock → n + 1 ≤ c → c ≤ maxLen → base ≤ g → g < w'.heap.size →
      wpList P ops Q rest (a.put o.dst (.slice (some ⟨g, 0, none⟩) (n + 1) c)) w') :
    wpList P ops Q (o :: rest) a (w.alloc (.cells us e)) := by
  refine wpList_append_built E hown hus hu hn hby hbase hgd ho hs hx ?_
  intro v' w' h1 h2 _
  obtain ⟨g, c, rfl, hc, hm, hb, hg⟩ := owned_some h1 (by omega)
  exact hK g c w' h1 h2 hc hm hb hg

/-- Operations that neither call nor write. -/
def calm : Op → Bool
  | .move _ | .assign _ | .pick .. | .build .. | .load .. | .unOp .. | .slice .. | .fieldAddr .. | .field .. | .indexAddr .. | .index .. | .extract .. | .binOp .. | .convert .. | .nilCheck _ => true
  | .call { callee := .builtin .len, .. } => true
  | _ => false

theorem calm_value {o : Oper} (h : calm o.op = true) {ρ : Operand → Value} {w w' : World} {n : Next} (hr : (execOp ρ o).run P w = .ok n w') : ∃ v, n = .value v := by
  have key : ∀ (s : Sem Value), (do pure (Next.value (← s)) : Sem Next).run P w = .ok n w' → ∃ v, n = .value v := by
    intro s hs
    rw [Sem.run_bind] at hs
    cases hq : s.run P w with
    | ok v w1 => rw [hq] at hs; simp [Result.andThen] at hs; exact ⟨v, hs.1.symm⟩
    | halt x w1 => rw [hq] at hs; simp [Result.andThen] at hs
  obtain ⟨dst, op, type, pos, after, guard⟩ := o
  cases op with
  | move x => simp [execOp] at hr; exact ⟨_, hr.1.symm⟩
  | assign x => simp [execOp] at hr; exact ⟨_, hr.1.symm⟩
  | pick c x y =>
    simp only [execOp, Sem.run_bind] at hr
    cases hq : (asBool (ρ c)).run P w with
    | ok v w1 => rw [hq] at hr; simp [Result.andThen] at hr; exact ⟨_, hr.1.symm⟩
    | halt x w1 => rw [hq] at hr; simp [Result.andThen] at hr
  | call c =>
    obtain ⟨callee, args, tys⟩ := c
    cases callee with
    | builtin b =>
      cases b with
      | len =>
        simp only [execOp, resolve, Sem.run_bind, Sem.run_pure, Result.andThen_ok, invoke, builtin] at hr
        exact key _ (by rw [Sem.run_bind]; exact hr)
      | _ => simp [calm] at h
    | _ => simp [calm] at h
  | build t ps => exact key _ hr
  | load t x => exact key _ hr
  | unOp x t y => exact key _ hr
  | slice t x l h m => exact key _ hr
  | fieldAddr t x f => exact key _ hr
  | field t x f => exact key _ hr
  | indexAddr t x i => exact key _ hr
  | index t x i => exact key _ hr
  | extract x i => exact key _ hr
  | binOp o t x y u => exact key _ hr
  | convert x y z => exact key _ hr
  | nilCheck x =>
    simp only [execOp] at hr
    split at hr
    · simp [go_sem] at hr
    · simp [go_sem] at hr
    · simp [go_sem] at hr
    · split at hr
      · simp [go_sem] at hr
      · simp only [Sem.run_bind] at hr
        cases hq : (program : Sem Program).run P w with
        | ok v w1 =>
          rw [hq] at hr
          simp only [Result.andThen] at hr
          split at hr
          · rename_i a w2 _
            by_cases hc : (a != some false) = true
            · rw [if_pos hc] at hr; simp [go_sem] at hr
            · rw [if_neg hc] at hr; simp at hr; exact ⟨_, hr.1.symm⟩
          · cases hr
        | halt x w1 => rw [hq] at hr; simp [Result.andThen] at hr
      · simp at hr; exact ⟨_, hr.1.symm⟩
    · simp at hr; exact ⟨_, hr.1.symm⟩
  | _ => simp [calm] at h

theorem buildSlice_world {t : TypeId} {len : Nat} {parts : Array (Nat × Value)} {w w' : World} {v : Value} (h : (Instr.buildSlice t len parts).run P w = .ok v w') : ∃ ob, w' = w.alloc ob := by
  unfold Instr.buildSlice at h
  rw [Sem.run_bind] at h
  cases hd : P.underlying t with
  | none => simp [underlying, hd, Result.andThen] at h
  | some d =>
    rw [run_underlying hd w] at h
    cases d <;> simp [Result.andThen] at h
    rename_i elem
    cases hi : P.info? elem with
    | none => simp [sizeOf, typeInfo, hi, Result.andThen] at h
    | some inf =>
      simp [sizeOf, typeInfo, hi, Result.andThen] at h
      have key : ∀ x : Option (Array Value), Sem.run P (match x with | some cells => (fun a => Value.slice (some a) len len) <$> newRow elem cells | _ => stuck "buildSlice: a part of the wrong size") w = Result.ok v w' → ∃ ob, w' = w.alloc ob := by
        intro x hx
        cases x with
        | none => simp at hx
        | some c =>
          simp [newRow] at hx
          exact ⟨_, hx.2.symm⟩
      split at h
      · cases h
      · split at h
        · exact key _ h
        · cases hz : inf.zero with
          | none => simp [zeroValue, typeInfo, hi, hz] at h
          | some z =>
            simp [zeroValue, typeInfo, hi, hz] at h
            exact key _ h

/-- A new row of written elements. -/
def rowB : Op → Bool
  | .buildSlice .. => true
  | _ => false

theorem rowB_world {o : Oper} (h : rowB o.op = true) {ρ : Operand → Value} {w w' : World} {n : Next} (hr : (execOp ρ o).run P w = .ok n w') : ∃ v ob, n = .value v ∧ w' = w.alloc ob := by
  obtain ⟨dst, op, type, pos, after, guard⟩ := o
  cases op with
  | buildSlice t len parts =>
    simp only [execOp] at hr
    rw [Sem.run_bind] at hr
    cases hq : (Instr.buildSlice t len (parts.map fun (i, x) => (i, ρ x))).run P w with
    | ok v w1 =>
      rw [hq] at hr
      simp [Result.andThen] at hr
      obtain ⟨ob, hob⟩ := buildSlice_world hq
      exact ⟨v, ob, hr.1.symm, by rw [← hr.2]; exact hob⟩
    | halt x w1 => rw [hq] at hr; simp [Result.andThen] at hr
  | _ => simp [rowB] at h

/-- Does j wait for i, directly or through others? -/
def waitsFor (md : Region.Mode) (ops : Array Oper) : Nat → Nat → Nat → Bool
  | 0, _, _ => false
  | f + 1, j, i => match ops[j]? with
    | none => false
    | some o => o.after.toList.any fun e => Region.binds md e && (e.on == i || waitsFor md ops f e.on i)

/-- What has come up has all that it waits for behind it. -/
def Shut (md : Region.Mode) (ops : Array Oper) (listed : Array Bool) : Prop :=
  ∀ j o, ops[j]? = some o → listed.getD j false = true → ∀ e ∈ o.after, Region.binds md e = true → listed.getD e.on false = true

theorem waitsFor_listed {listed : Array Bool} (hs : Shut md ops listed) : ∀ (f j i : Nat) (o : Oper), ops[j]? = some o → (∀ e ∈ o.after, Region.binds md e = true → listed.getD e.on false = true) →
    waitsFor md ops f j i = true → listed.getD i false = true := by
  intro f
  induction f with
  | zero => intro j i o _ _ h; simp [waitsFor] at h
  | succ f ih =>
    intro j i o ho hp h
    simp only [waitsFor, ho, List.any_eq_true, Array.mem_toList_iff, Bool.and_eq_true, Bool.or_eq_true, beq_iff_eq] at h
    obtain ⟨e, he, hb, h⟩ := h
    have h1 := hp e he hb
    rcases h with rfl | h
    · exact h1
    · cases hq : ops[e.on]? with
      | none => cases f <;> simp [waitsFor, hq] at h
      | some oe => exact ih e.on i oe hq (hs e.on oe hq h1) h

theorem Shut.set {listed : Array Bool} (hs : Shut md ops listed) {i : Nat} (hi : i ∈ Region.ready md ops listed) : Shut md ops (listed.setIfInBounds i true) := by
  intro j o ho hj e he hb
  by_cases hij : i = j
  · subst hij
    obtain ⟨_, o', ho', hall⟩ := mem_ready.1 hi
    rw [ho] at ho'
    cases ho'
    exact getD_set_true (hall e he hb)
  · rw [getD_set_ne false hij] at hj
    exact getD_set_true (hs j o ho hj e he hb)

/-- Whatever order is picked from here on; behind each operation that is 'loose' the world is of the class. -/
def wpAnyF (P : Program) (md : Region.Mode) (ops : Array Oper) (Q : Exit → Act → World → Prop) (C : World → Prop) (loose : Nat → Bool) : Nat → Array Bool → Act → World → Prop
  | 0, listed, a, w => Region.ready md ops listed = [] ∧ Q .normal a w
  | fuel + 1, listed, a, w =>
    (Region.ready md ops listed = [] → Q .normal a w) ∧
    ∀ i ∈ Region.ready md ops listed, wpOp P ops Q i (fun a' w' => (loose i = true → C w') ∧ wpAnyF P md ops Q C loose fuel (listed.setIfInBounds i true) a' w') a w

theorem wpAny_of_F {loose : Nat → Bool} : ∀ (fuel : Nat) (listed : Array Bool) (a : Act) (w : World), wpAnyF P md ops Q C loose fuel listed a w → wpAny P md ops Q fuel listed a w
  | 0, _, _, _, h => h
  | fuel + 1, _, _, _, h => ⟨h.1, fun i hi => wpOp_mono (fun a' w' h' => wpAny_of_F fuel _ a' w' h'.2) (h.2 i hi)⟩

/-- In every world of the class o leaves v, and the world as it was. -/
def Stays (P : Program) (ops : Array Oper) (C : World → Prop) (o : Oper) (v : Value) (a : Act) : Prop :=
  (Region.wanted o (yielded ops a.tmps) = true ∧ ∀ w, C w → (execOp a.eval o).run P w = .ok (.value v) w) ∨ (Region.wanted o (yielded ops a.tmps) = false ∧ v = undef)

theorem Stays.same {o : Oper} {v : Value} {a a' : Act} (hy : Stays P ops C o v a) (he : execOp a'.eval o = execOp a.eval o) (hw : Region.wanted o (yielded ops a'.tmps) = Region.wanted o (yielded ops a.tmps)) : Stays P ops C o v a' := by
  unfold Stays at *; rw [he, hw]; exact hy

theorem Stays.wpOp {i : Nat} {o : Oper} {v : Value} {a : Act} (hi : ops[i]? = some o) (hy : Stays P ops C o v a) {K : Act → World → Prop} {w : World} (hC : C w) (h : K (a.put o.dst v) w) : wpOp P ops Q i K a w := by
  unfold Go.wpOp
  simp only [hi]
  rcases hy with ⟨hw, hv⟩ | ⟨hw, rfl⟩
  · simp only [hw, if_true, Oper.wp, hv w hC, Oper.upon]; exact .inl h
  · simp only [hw, Bool.false_eq_true, if_false]; exact h

theorem wpOp_putF {j : Nat} {oi oj : Oper} {v : Value} (hj : ops[j]? = some oj) (hap : oi.apart ops oj = true)
    (hsi : ∀ cs b, oi.op ≠ .select cs b) (hsj : ∀ cs b, oj.op ≠ .select cs b) (hQ : ∀ c a d v w, Q (.panic c) (a.put d v) w → Q (.panic c) a w) {K : Act → World → Prop} {a : Act} {w : World}
    (hy : Stays P ops C oi v a) (h : wpOp P ops Q j K (a.put oi.dst v) w) :
    wpOp P ops Q j (fun a' w' => Stays P ops C oi v a' ∧ K (a'.put oi.dst v) w') a w := by
  obtain ⟨h1, h2, h3⟩ := Oper.apart_spec hap
  have keep : ∀ (a : Act), Stays P ops C oi v a → ∀ u, Stays P ops C oi v (a.put oj.dst u) := fun a hy u => hy.same (execOp_put oi hsi a oj.dst u h3) (wanted_put oi a oj.dst u h3)
  have keepD : ∀ d, Stays P ops C oi v { a with defers := d :: a.defers } := fun d => hy.same rfl rfl
  unfold Go.wpOp at *
  simp only [hj] at *
  rw [wanted_put oj a oi.dst v h1] at h
  split
  · rename_i hw
    simp only [hw, if_true] at h
    rcases h with h | ⟨hasks, hlets⟩
    case inr => exact .inr ⟨by unfold Oper.asks at *; rw [execOp_put oj hsj a oi.dst v h1] at hasks; exact hasks, hlets⟩
    refine .inl ?_
    unfold Oper.wp at *
    rw [execOp_put oj hsj a oi.dst v h1] at h
    generalize (execOp a.eval oj).run P w = r at *
    cases r with
    | ok n w' =>
      cases n <;> simp only [Oper.upon] at h ⊢
      case value u => exact ⟨keep a hy u, by rw [← Act.put_comm a v u h2]; exact h⟩
      case skip => exact ⟨keep a hy _, by rw [← Act.put_comm a v undef h2]; exact h⟩
      case defer d =>
        refine ⟨keep _ (keepD d) _, ?_⟩
        rw [← Act.put_comm _ v undef h2, ← Act.put_defers]
        exact h
      case enter f args =>
        refine Calls.mono h fun e w'' he => ?_
        cases e with
        | returned u => exact ⟨keep a hy u, by rw [← Act.put_comm a v u h2]; exact he⟩
        | panicked c => exact hQ _ _ _ _ _ he
        | outgrown => exact he
      case row row args => exact Rows.mono h fun u w'' he => ⟨keep a hy u, by rw [← Act.put_comm a v u h2]; exact he⟩
    | halt x w' =>
      cases x <;> simp only [Oper.upon] at h ⊢
      case panic u => exact hQ _ _ _ _ _ h
  · rename_i hw
    simp only [hw] at h
    exact ⟨keep a hy _, by rw [← Act.put_comm a v undef h2]; exact h⟩

/-- Such an operation may be taken first, if whatever may come ahead of it is loose. -/
theorem wpAnyF_first {loose : Nat → Bool} {i f : Nat} {oi : Oper} {v : Value} (hi : ops[i]? = some oi) (hsel : ∀ (j : Nat) (o : Oper) cs b, ops[j]? = some o → o.op ≠ .select cs b)
    (hQ : ∀ c a d v w, Q (.panic c) (a.put d v) w → Q (.panic c) a w) (hl : ∀ j oj, ops[j]? = some oj → j ≠ i → waitsFor md ops f j i = true ∨ loose j = true) :
    ∀ (fuel : Nat) (listed : Array Bool) (a : Act) (w : World),
      (∀ j oj, ops[j]? = some oj → j ≠ i → listed.getD j true = false → (∀ e ∈ oj.after, Region.binds md e = true → e.on ≠ i) → oi.apart ops oj = true) →
      i ∈ Region.ready md ops listed → Shut md ops listed → Stays P ops C oi v a → C w →
      wpAnyF P md ops Q C loose fuel (listed.setIfInBounds i true) (a.put oi.dst v) w → wpAnyF P md ops Q C loose (fuel + 1) listed a w := by
  intro fuel
  induction fuel with
  | zero =>
    intro listed a w _ hr _ hy hC H
    refine ⟨fun h => (by rw [h] at hr; cases hr), fun j hj => ?_⟩
    by_cases hji : j = i
    · subst hji; exact hy.wpOp hi hC ⟨fun _ => hC, H⟩
    · have := ready_mono hj hji
      rw [H.1] at this
      cases this
  | succ fuel ih =>
    intro listed a w hfree hr hsh hy hC H
    refine ⟨fun h => (by rw [h] at hr; cases hr), fun j hj => ?_⟩
    by_cases hji : j = i
    · subst hji; exact hy.wpOp hi hC ⟨fun _ => hC, H⟩
    · have h1 := H.2 j (ready_mono hj hji)
      obtain ⟨hjun, oj, hoj, hall⟩ := mem_ready.1 hj
      have hiun : listed.getD i false = false := by
        have h0 := (mem_ready.1 hr).1
        rcases Nat.lt_or_ge i listed.size with h' | h'
        · simp [h'] at h0 ⊢; exact h0
        · simp [Array.getElem?_eq_none h']
      have hnot : ∀ e ∈ oj.after, Region.binds md e = true → e.on ≠ i := fun e he hb heq => by
        have h1 := hall e he hb
        rw [heq, hiun] at h1
        cases h1
      have hlo : loose j = true := by
        rcases hl j oj hoj hji with h | h
        · have := waitsFor_listed hsh f j i oj hoj hall h
          rw [hiun] at this
          cases this
        · exact h
      have h2 := wpOp_putF (C := C) hoj (hfree j oj hoj hji hjun hnot) (fun cs b => hsel i oi cs b hi) (fun cs b => hsel j oj cs b hoj) hQ hy h1
      have hfree' : ∀ k ok, ops[k]? = some ok → k ≠ i → (listed.setIfInBounds j true).getD k true = false →
          (∀ e ∈ ok.after, Region.binds md e = true → e.on ≠ i) → oi.apart ops ok = true := fun k ok hk hki hun hno => by
        refine hfree k ok hk hki ?_ hno
        by_cases hjk : j = k
        · subst hjk; exact hjun
        · rw [getD_set_ne true hjk] at hun; exact hun
      refine wpOp_mono (fun a' w' h3 => ⟨h3.2.1, ih (listed.setIfInBounds j true) a' w' hfree' (ready_mono hr (Ne.symm hji)) (hsh.set hj) h3.1 (h3.2.1 hlo) ?_⟩) h2
      rw [Array.setIfInBounds_comm _ _ hji]
      exact h3.2.2

/-- The operations from k on come up one by one, in the text's order. -/
def tailFrom (md : Region.Mode) (ops : Array Oper) : Nat → Nat → Array Bool → Bool
  | 0, _, listed => (Region.ready md ops listed).isEmpty
  | f + 1, k, listed => (Region.ready md ops listed == [k]) && tailFrom md ops f (k + 1) (listed.setIfInBounds k true)

/-- The first n operations, and a new row behind them, may float. -/
def looseAt (ops : Array Oper) (n j : Nat) : Bool := decide (j < n) || (j == n && (match ops[n]? with | some o => rowB o.op | none => false))

def headFrom (md : Region.Mode) (ops : Array Oper) (n : Nat) : Nat → Nat → Array Bool → Bool
  | 0, k, listed => tailFrom md ops (ops.size - k) k listed
  | m + 1, k, listed => (Region.ready md ops listed).contains k && Region.free md ops listed k && (match ops[k]? with | some o => calm o.op | none => false) &&
      ((List.range ops.size).all fun j => j == k || waitsFor md ops ops.size j k || looseAt ops n j) && headFrom md ops n m (k + 1) (listed.setIfInBounds k true)

def floatB (md : Region.Mode) (ops : Array Oper) (n : Nat) : Bool := Region.noSelect ops && headFrom md ops n n 0 (Array.replicate ops.size false)

theorem tail_ok {n : Nat} (hA : ∀ w ob, C w → C (w.alloc ob)) : ∀ (l : List Oper) (k : Nat) (listed : Array Bool) (a : Act) (w : World), (∀ j, l[j]? = ops[k + j]?) → n ≤ k → (k = n → C w) →
    tailFrom md ops l.length k listed = true → wpList P ops Q l a w → wpAnyF P md ops Q C (looseAt ops n) l.length listed a w
  | [], _, _, _, _, _, _, _, hB, h => ⟨by simpa [tailFrom] using hB, h⟩
  | o :: l, k, listed, a, w, hl, hk, hC, hB, h => by
    have h0 : ops[k]? = some o := by simpa using (hl 0).symm
    simp only [List.length_cons, tailFrom, Bool.and_eq_true, beq_iff_eq] at hB
    obtain ⟨hr, hB'⟩ := hB
    refine ⟨fun he => (by rw [hr] at he; cases he), fun i hi => ?_⟩
    rw [hr] at hi
    obtain rfl : i = k := by simpa using hi
    have hnext : ∀ a' w', wpList P ops Q l a' w' → wpAnyF P md ops Q C (looseAt ops n) l.length (listed.setIfInBounds i true) a' w' := fun a' w' h' =>
      tail_ok hA l (i + 1) _ a' w' (fun j => by have := hl (j + 1); simpa [Nat.add_assoc, Nat.add_comm 1 j] using this) (by omega) (by omega) hB' h'
    by_cases hlo : looseAt ops n i = true
    · have hin : i = n ∧ rowB o.op = true := by
        simp only [looseAt, Bool.or_eq_true, decide_eq_true_eq, Bool.and_eq_true, beq_iff_eq] at hlo
        rcases hlo with h | ⟨rfl, h⟩
        · omega
        · rw [h0] at h; exact ⟨rfl, h⟩
      have hCw := hC hin.1
      unfold wpOp
      simp only [h0]
      unfold wpList at h
      by_cases hw : Region.wanted o (yielded ops a.tmps) = true
      · rw [if_pos hw] at h ⊢
        rcases h with h | h
        · refine .inl ?_
          unfold Oper.wp at *
          cases hr : (execOp a.eval o).run P w with
          | ok m w' =>
            obtain ⟨v, ob, rfl, rfl⟩ := rowB_world hin.2 hr
            rw [hr] at h
            simp only [Oper.upon] at h ⊢
            exact ⟨fun _ => hA w ob hCw, hnext _ _ h⟩
          | halt x w' =>
            rw [hr] at h
            cases x <;> simp only [Oper.upon] at h ⊢ <;> exact h
        · exact .inr h
      · rw [if_neg hw] at h ⊢
        exact ⟨fun _ => hCw, hnext _ _ h⟩
    · unfold wpOp
      simp only [h0]
      unfold wpList at h
      by_cases hw : Region.wanted o (yielded ops a.tmps) = true
      · rw [if_pos hw] at h ⊢
        exact h.imp (Oper.wp_mono (fun a' w' h' => ⟨fun hc => absurd hc hlo, hnext _ _ h'⟩)) id
      · rw [if_neg hw] at h ⊢
        exact ⟨fun hc => absurd hc hlo, hnext _ _ h⟩

theorem head_ok {n : Nat} (hs : Region.noSelect ops = true) (hQ : ∀ c a d v w, Q (.panic c) (a.put d v) w → Q (.panic c) a w) (hA : ∀ w ob, C w → C (w.alloc ob)) {w : World} (hC : C w) :
    ∀ (m : Nat) (l : List Oper) (k : Nat) (listed : Array Bool) (a : Act), (∀ j, l[j]? = ops[k + j]?) → l.length = ops.size - k → k + m = n → Shut md ops listed → headFrom md ops n m k listed = true →
      wpQuiet P ops C (fun a' => wpList P ops Q (l.drop m) a' w) (l.take m) a → wpAnyF P md ops Q C (looseAt ops n) l.length listed a w := by
  intro m
  induction m with
  | zero =>
    intro l k listed a hl hlen hk _ hB h
    simp only [headFrom] at hB
    rw [← hlen] at hB
    exact tail_ok hA l k listed a w hl (by omega) (fun _ => hC) hB (by simpa [wpQuiet] using h)
  | succ m ih =>
    intro l k listed a hl hlen hk hsh hB h
    simp only [headFrom, Bool.and_eq_true] at hB
    obtain ⟨⟨⟨⟨hr, hf⟩, hcalm⟩, hlo⟩, hB'⟩ := hB
    cases l with
    | nil =>
      have : ops[k]? = none := by simpa using (hl 0).symm
      rw [this] at hcalm
      cases hcalm
    | cons o l =>
      have h0 : ops[k]? = some o := by simpa using (hl 0).symm
      rw [h0] at hcalm
      have hrk : k ∈ Region.ready md ops listed := by simpa using hr
      simp only [List.take_succ_cons, wpQuiet, List.drop_succ_cons] at h
      obtain ⟨v, hy, hK⟩ : ∃ v, Stays P ops C o v a ∧ wpQuiet P ops C (fun a' => wpList P ops Q (l.drop m) a' w) (l.take m) (a.put o.dst v) := by
        by_cases hw : Region.wanted o (yielded ops a.tmps) = true
        · rw [if_pos hw] at h
          obtain ⟨v, h1, h2⟩ := h
          refine ⟨v, .inl ⟨hw, fun w' hw' => ?_⟩, h2⟩
          have h3 := h1 w' hw'
          unfold Oper.quietAt at h3
          cases hq : (execOp a.eval o).run P w' with
          | ok nx w2 =>
            obtain ⟨u, rfl⟩ := calm_value hcalm hq
            rw [hq] at h3
            simp only [Oper.quietUpon] at h3
            rw [h3.1, h3.2]
          | halt x w2 => rw [hq] at h3; simp only [Oper.quietUpon] at h3
        · rw [if_neg hw] at h
          exact ⟨undef, .inr ⟨by simpa using hw, rfl⟩, h⟩
      have hloose : ∀ j oj, ops[j]? = some oj → j ≠ k → waitsFor md ops ops.size j k = true ∨ looseAt ops n j = true := by
        intro j oj hj hjk
        simp only [List.all_eq_true, List.mem_range, Bool.or_eq_true, beq_iff_eq] at hlo
        have := hlo j (Array.getElem?_eq_some_iff.1 hj).1
        rcases this with (h | h) | h
        · exact absurd h hjk
        · exact .inl h
        · exact .inr h
      exact wpAnyF_first (f := ops.size) h0 (Region.noSelect_spec hs) hQ hloose l.length listed a w (Region.free_spec h0 hf) hrk hsh hy hC
        (ih l (k + 1) _ _ (fun j => by have := hl (j + 1); simpa [Nat.add_assoc, Nat.add_comm 1 j] using this) (by simp at hlen; omega) (by omega) (hsh.set hrk) hB' hK)

theorem shut_none (n : Nat) : Shut md ops (Array.replicate n false) := by
  intro j o _ hj
  exfalso
  by_cases h : j < n <;> simp [h] at hj

/-- One walk in the text's order serves every order: n operations that only read, then (it may float ahead of them) a new row, then the rest, one by one. -/
theorem wp_region_float {id : Nat} {a : Act} {w : World} {l : List Oper} (n : Nat) (hm : P.follows .mixedOrders = true) (hB : floatB .any l.toArray n = true)
    (hQ : ∀ c a d v w, Q (.panic c) (a.put d v) w → Q (.panic c) a w)
    (h : wpQuiet P l.toArray (fun w' => ∃ x : Later w, w' = x.val) (fun a' => wpList P l.toArray Q (l.drop n) a' w.drew) (l.take n) a) : (Code.region id l.toArray true).wp P Q a w := by
  simp only [floatB, Bool.and_eq_true] at hB
  refine wp_region_any hm (wpAny_of_F (C := fun w' => ∃ x : Later w, w' = x.val) (loose := looseAt l.toArray n) _ _ _ _ ?_)
  have hCw : (fun w' => ∃ x : Later w, w' = x.val) w.drew := ⟨⟨w.drew, (Below.refl _ _).drew⟩, rfl⟩
  have hA : ∀ w1 ob, (fun w' => ∃ x : Later w, w' = x.val) w1 → (fun w' => ∃ x : Later w, w' = x.val) (w1.alloc ob) := by
    rintro w1 ob ⟨x, rfl⟩
    exact ⟨⟨_, x.below.alloc x.below.size ob⟩, rfl⟩
  have := head_ok (md := .any) (n := n) (C := fun w' => ∃ x : Later w, w' = x.val) hB.1 hQ hA (w := w.drew) hCw n l 0 (Array.replicate l.toArray.size false) a (by simp) (by simp) (by omega) (shut_none _) hB.2 h
  simpa using this

end
end Go.Proofs.Ytlaaamaaabcfeaa

/- Structs and arrays within rows: loaded, stored, made. -/
namespace Go.Proofs.Ytlaaamaaabcfeaa
open Go.RowKit
set_option linter.unusedVariables false

theorem made_same (cs : Array Value) (z : Value) (n : Nat) (h0 : 0 < cs.size) (h : ∀ i, i < cs.size → cs[i]? = some z) : (madeCells cs (n * cs.size)).toList = List.replicate (n * cs.size) z := by
  apply List.ext_getElem?
  intro i
  by_cases hi : i < n * cs.size
  · have hm : i % cs.size < cs.size := Nat.mod_lt _ h0
    have hz := h (i % cs.size) hm
    have hz' : cs[i % cs.size] = z := by
      have := Array.getElem?_eq_getElem (xs := cs) hm
      rw [this] at hz
      exact Option.some.inj hz
    simp [madeCells, hi, hz', hm]
  · simp [madeCells, hi]

theorem add_none (b off j : Nat) : (⟨b, off, none⟩ : Addr).add j = ⟨b, off + j, none⟩ := by unfold Addr.add; split <;> simp_all

section
variable {P : Program} {w : World} {ops : Array Oper} {rest : List Oper} {o : Oper} {a : Act} {Q : Exit → Act → World → Prop}

/-- A struct or an array is loaded from its cells. -/
theorem wpList_load_part {ty : TypeId} {zs : Array Value} (A : Agg P ty zs) {p : Operand} {g off : Nat} (cs : List Value) (hc : ∀ i v, cs[i]? = some v → w.cell? ⟨g, off + i, none⟩ = some v) (hs : cs.length = zs.size)
    (hgd : o.guard = none) (ho : o.op = .load ty p) (hp : a.eval p = .pointer (some ⟨g, off, none⟩))
    (hK : wpList P ops Q rest (a.put o.dst (.agg cs.toArray)) w) : wpList P ops Q (o :: rest) a w := by
  refine wpList_plain hgd fun K hK' => ?_
  obtain ⟨d, hu, hd⟩ := A.desc
  have hl : (loadCells ⟨g, off, none⟩ cs.length).run P w = .ok cs.toArray w := run_loadCells_list (P := P) w ⟨g, off, none⟩ cs (fun j v hv => by rw [add_none]; exact hc j v hv)
  have hagg : (isAgg ty).run P w = .ok true w := by
    unfold isAgg
    rw [Sem.run_bind, run_underlying hu w]
    cases d <;> simp_all
  have hsz := A.size
  have hr : (loadVar ty ⟨g, off, none⟩).run P w = .ok (.agg cs.toArray) w := by
    cases hq : P.info? ty with
    | none => simp [hq] at hsz
    | some inf =>
      have e : inf.size = cs.length := by simp [hq] at hsz; rw [hsz, hs]
      simp [loadVar, hagg, sizeOf, typeInfo, hq, e, hl]
  have hr2 : (Instr.loadAt ty (.pointer (some ⟨g, off, none⟩))).run P w = .ok (.agg cs.toArray) w := by
    simp only [Instr.loadAt, Instr.sureAddr, Sem.run_bind, Sem.run_pure, Result.andThen]
    exact hr
  unfold Oper.wp
  simp only [execOp, ho, hp]
  simp only [Sem.run_bind, hr2, Result.andThen, Sem.run_pure]
  exact hK' _ _ hK

theorem run_storeCells_row {g off t : Nat} : ∀ (cs : List Value) (i : Nat) (w : World) (vs : List Value), RowAt w g t vs → off + i + cs.length ≤ vs.length → (∀ u ∈ cs, u.oneCell' = true) →
    ∃ w', (storeCells ⟨g, off, none⟩ cs i).run P w = .ok () w' ∧ RowAt w' g t (splice vs (off + i) cs) ∧ Touch [g] w w' := by
  intro cs
  induction cs with
  | nil =>
    intro i w vs hr hl h1
    refine ⟨w, by simp [storeCells], ?_, Touch.refl _ _⟩
    simpa [splice] using hr
  | cons c cs ih =>
    intro i w vs hr hl h1
    simp only [List.length_cons] at hl
    have hlt : off + i < vs.length := by omega
    have h2 := hr.set (off + i) hlt c
    obtain ⟨w', hw', hr', ht'⟩ := ih (i + 1) (w.setCell ⟨g, off + i, none⟩ c) (vs.set (off + i) c) h2 (by simp; omega) (fun u hu => h1 u (List.mem_cons_of_mem _ hu))
    refine ⟨w', ?_, ?_, (Touch.setCell _ (by simp) _).trans ht'⟩
    · have hcell : w.cell? ⟨g, off + i, none⟩ = some (vs[off + i]) := hr.cell (List.getElem?_eq_getElem hlt)
      have hfz : w.frozen? ⟨g, off + i, none⟩ = false := hr.frozen _
      simp only [storeCells, Sem.run_bind, add_none]
      rw [run_store P w _ c .plain (h1 c (by simp))]
      simp only [hcell, hfz, Result.andThen]
      exact hw'
    · have e : splice (vs.set (off + i) c) (off + (i + 1)) cs = splice vs (off + i) (c :: cs) := by
        unfold splice
        rw [show off + (i + 1) = (off + i) + 1 by omega, List.take_set, List.drop_set_of_lt (by omega), List.length_cons, show off + i + 1 + cs.length = off + i + (cs.length + 1) by omega]
        have e1 : (vs.take (off + i + 1)).set (off + i) c = vs.take (off + i) ++ [c] := by
          have hm : min (off + i) vs.length = off + i := Nat.min_eq_left (Nat.le_of_lt hlt)
          rw [List.take_succ_eq_append_getElem hlt, List.set_append_right _ _ (by simp; omega)]
          simp [hm]
        rw [e1]
        simp
      rw [← e]; exact hr'

/-- A struct or an array is stored into a part of a row. -/
theorem wpList_store_part {ty : TypeId} {zs : Array Value} (A : Agg P ty zs) {p x : Operand} {g off t : Nat} {vs : List Value} {cs : Array Value} (hr : RowAt w g t vs) (hs : cs.size = zs.size) (hfit : off + cs.size ≤ vs.length) (h1 : ∀ u ∈ cs.toList, u.oneCell' = true)
    (hgd : o.guard = none) (ho : o.op = .store ty p x) (hp : a.eval p = .pointer (some ⟨g, off, none⟩)) (hx : a.eval x = .agg cs)
    (hK : ∀ w', RowAt w' g t (splice vs off cs.toList) → Touch [g] w w' → wpList P ops Q rest (a.put o.dst undef) w') :
    wpList P ops Q (o :: rest) a w := by
  refine wpList_plain hgd fun K hK' => ?_
  obtain ⟨w', hw', hr', ht'⟩ := run_storeCells_row (P := P) (off := off) cs.toList 0 w vs hr (by simpa using hfit) h1
  have hsz := A.size
  have hr2 : (storeVar ty ⟨g, off, none⟩ (.agg cs)).run P w = .ok () w' := by
    cases hq : P.info? ty with
    | none => simp [hq] at hsz
    | some inf =>
      have e : inf.size = cs.size := by simp [hq] at hsz; rw [hsz, hs]
      simp only [storeVar, Sem.run_bind, sizeOf, typeInfo]
      simp [hq, e, Value.cells, hw', Result.andThen]
  have hr3 : (Instr.storeAt ty (.pointer (some ⟨g, off, none⟩)) (.agg cs)).run P w = .ok () w' := by
    simp only [Instr.storeAt, Instr.sureAddr, Sem.run_bind, Sem.run_pure, Result.andThen]
    exact hr2
  unfold Oper.wp
  simp only [execOp, ho, hp, hx]
  simp only [Sem.run_bind, hr3, Result.andThen, Sem.run_pure]
  exact hK' _ _ (hK w' (by simpa using hr') ht')

/-- 'make([]T, n)', T of cells that are all alike at first. -/
theorem wpList_make_rows {l c : Operand} {t e : TypeId} {zs : Array Value} {z : Value} {bytes : Nat} (E : Elem P t e (.agg zs) zs.size bytes) (base n : Nat) {kl kc : IntKind} {L C : Int} (hz : ∀ i, i < zs.size → zs[i]? = some z)
    (hL : L = (n : Int)) (hC : C = (n : Int)) (hn : n < 1000000000000) (hby : bytes ≤ 64) (hbase : base ≤ w.heap.size)
    (hgd : o.guard = none) (ho : o.op = .makeSlice t l c) (hl : a.eval l = .int kl L) (hc : a.eval c = .int kc C)
    (hK : ∀ w', w'.ownsRow base e zs.size (.slice (some ⟨w.heap.size, 0, none⟩) n n) n (List.replicate (n * zs.size) z) → w.grownBy w' none → wpList P ops Q rest (a.put o.dst (.slice (some ⟨w.heap.size, 0, none⟩) n n)) w') :
    wpList P ops Q (o :: rest) a w := by
  obtain ⟨i, i1, i2, i3, i4⟩ := E.info
  refine wpList_make_full _ hgd l c t ho base e i (.agg zs) zs.size E.under i1 i2 i3 kl kc L C n hl hc hL hC ?_ (by unfold maxLen; omega) hbase ?_
  · rw [i4]
    have : bytes * n ≤ 64 * 1000000000000 := Nat.mul_le_mul hby (by omega)
    omega
  · have e : (madeCells (Value.agg zs).cells (n * zs.size)).toList = List.replicate (n * zs.size) z := made_same zs z n E.pos hz
    rw [e]
    exact hK

/-- A row that the call owns, as a block. -/
theorem owned_row {w : World} {base e size n g c : Nat} {vs : List Value} (h : w.ownsRow base e size (.slice (some ⟨g, 0, none⟩) n c) n vs) : RowAt w g e vs := by
  rcases h.2 with ⟨h0, _⟩ | ⟨g', cap, cur, hv, hb, hg, h1, h2, h3, h4⟩
  · cases h0
  · simp at hv
    obtain ⟨rfl, rfl⟩ := hv
    exact ⟨cur, hg, cur.toList.drop (n * size), by rw [← h4, List.take_append_drop]⟩
end

theorem below_cells {B : Nat} {w w1 : World} (hb : Below B w w1) {p : Addr} {v : Value} (h : w.cell? p = some v) (hB : w.heap.size ≤ B := by omega) : w1.cell? p = some v := by
  rw [hb.cell (Nat.lt_of_lt_of_le (World.block_lt_of_cell? _ _ h) hB)]; exact h

end Go.Proofs.Ytlaaamaaabcfeaa
