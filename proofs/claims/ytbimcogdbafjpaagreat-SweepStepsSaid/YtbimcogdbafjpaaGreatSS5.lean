/- Parts of the proof, one behind the other: Va, Vb, Vc, Vd, Ve, Im, Io, Ip, Ix, Iy, Iz, Ig, It, In, Deep, Rec. -/
import Derived.Test.YtbimcogdbafjpaaGreatSS4
import Derived.Maps.OwnOps
import Derived.Maps.RangeWalk
import Derived.Maps.OwnSet
import Derived.Maps.Views
import Derived.WideKeyEntry
import Derived.Carry
import Derived.Deep.Slices
import Derived.Deep.Fields
import Derived.ChangeSame
import Derived.OpenShut
set_option linter.unusedVariables false
namespace Go.Proofs.YtbimcogdbafjpaaGreat
def IsRun (f : Nat → Bool) (s n : Nat) : Prop :=
 1 ≤ n ∧ (∀ b, s ≤ b → b < s + n → f b = true) ∧ (∀ b, b + 1 = s → f b = false) ∧ f (s + n) = false
theorem IsRun.meet {f : Nat → Bool} {s n s' n' b : Nat} (h : IsRun f s n) (h' : IsRun f s' n') (h1 : s ≤ b) (h2 : b < s + n) (h3 : s' ≤ b) (h4 : b < s' + n') : s = s' ∧ n = n' := by
 obtain ⟨hn, ha, hb, hc⟩ := h
 obtain ⟨hn', ha', hb', hc'⟩ := h'
 have es : s = s' := by
  rcases Nat.lt_trichotomy s s' with hlt | he | hlt
  ·have x := hb' (s' - 1) (by omega)
   have y := ha (s' - 1) (by omega) (by omega)
   rw [x] at y; cases y
  ·exact he
  ·have x := hb (s - 1) (by omega)
   have y := ha' (s - 1) (by omega) (by omega)
   rw [x] at y; cases y
 subst es
 refine ⟨rfl, ?_⟩
 rcases Nat.lt_trichotomy n n' with hlt | he | hlt
 ·have y := ha' (s + n) (by omega) (by omega)
  rw [hc] at y; cases y
 ·exact he
 ·have y := ha (s + n') (by omega) (by omega)
  rw [hc'] at y; cases y
theorem IsRun.one {f : Nat → Bool} {s n n' : Nat} (h : IsRun f s n) (h' : IsRun f s n') : n = n' :=
 (h.meet h' (b := s) (Nat.le_refl _) (by have := h.1; omega) (Nat.le_refl _) (by have := h'.1; omega)).2
theorem IsRun.back {f : Nat → Bool} {s n s' n' : Nat} (h : IsRun f s n) (h' : IsRun f s' n') (he : s + n = s' + n') : s = s' ∧ n = n' :=
 h.meet h' (b := s + n - 1) (by have := h.1; omega) (by have := h.1; omega) (by have := h'.1; omega) (by have := h'.1; omega)
theorem run_start (f : Nat → Bool) : ∀ b, f b = true → ∃ s, s ≤ b ∧ (∀ x, s ≤ x → x ≤ b → f x = true) ∧ ∀ x, x + 1 = s → f x = false
 | 0, h => ⟨0, Nat.le_refl _, fun x _ hx => by rw [show x = 0 by omega]; exact h, fun x hx => by omega⟩
 | b + 1, h => by
  cases hb : f b with
  | false => exact ⟨b + 1, Nat.le_refl _, fun x h1 h2 => by rw [show x = b + 1 by omega]; exact h, fun x hx => by rw [show x = b by omega]; exact hb⟩
  | true =>
   obtain ⟨s, h1, h2, h3⟩ := run_start f b hb
   refine ⟨s, by omega, fun x hx hx' => ?_, h3⟩
   by_cases hxe : x = b + 1
   ·rw [hxe]; exact h
   ·exact h2 x hx (by omega)
theorem run_end (f : Nat → Bool) (L : Nat) (hL : f L = false) : ∀ k b, b + k = L → f b = true → ∃ e, b < e ∧ (∀ x, b ≤ x → x < e → f x = true) ∧ f e = false
 | 0, b, hb, h => by rw [show b = L by omega, hL] at h; cases h
 | k + 1, b, hb, h => by
  cases hn : f (b + 1) with
  | false => exact ⟨b + 1, by omega, fun x h1 h2 => by rw [show x = b by omega]; exact h, hn⟩
  | true =>
   obtain ⟨e, h1, h2, h3⟩ := run_end f L hL k (b + 1) (by omega) hn
   refine ⟨e, by omega, fun x hx hx' => ?_, h3⟩
   by_cases hxe : x = b
   ·rw [hxe]; exact h
   ·exact h2 x (by omega) hx'
theorem has_run {f : Nat → Bool} {L b : Nat} (hL : ∀ x, L ≤ x → f x = false) (h : f b = true) : ∃ s n, IsRun f s n ∧ s ≤ b ∧ b < s + n := by
 have hb : b < L := by
  rcases Nat.lt_or_ge b L with h1 | h1
  ·exact h1
  ·rw [hL b h1] at h; cases h
 obtain ⟨s, h1, h2, h3⟩ := run_start f b h
 obtain ⟨e, h4, h5, h6⟩ := run_end f L (hL L (Nat.le_refl _)) (L - b) b (by omega) h
 refine ⟨s, e - s, ⟨by omega, fun x hx hx' => ?_, h3, by rw [show s + (e - s) = e by omega]; exact h6⟩, h1, by omega⟩
 rcases Nat.lt_or_ge b x with hbx | hbx
 ·exact h5 x (by omega) (by omega)
 ·exact h2 x hx hbx
theorem give_run {f f' : Nat → Bool} {a m s0 e0 : Nat} (hm : 1 ≤ m) (h0 : ∀ b, a ≤ b → b < a + m → f b = false)
  (hin : ∀ b, a ≤ b → b < a + m → f' b = true) (hout : ∀ b, b < a ∨ a + m ≤ b → f' b = f b)
  (hs : s0 = a ∧ (∀ b, b + 1 = a → f b = false) ∨ s0 < a ∧ IsRun f s0 (a - s0))
  (he : e0 = a + m ∧ f (a + m) = false ∨ a + m < e0 ∧ IsRun f (a + m) (e0 - (a + m))) (s n : Nat) :
  IsRun f' s n ↔ (s = s0 ∧ n = e0 - s0) ∨ (IsRun f s n ∧ s + n ≠ a ∧ s ≠ a + m) := by
 have hs0 : s0 ≤ a := by rcases hs with ⟨h, _⟩ | ⟨h, _⟩ <;> omega
 have he0 : a + m ≤ e0 := by rcases he with ⟨h, _⟩ | ⟨h, _⟩ <;> omega
 have hfe : f e0 = false := by
  rcases he with ⟨h, h'⟩ | ⟨h, _, _, _, h'⟩
  ·rw [h]; exact h'
  ·rw [show e0 = a + m + (e0 - (a + m)) by omega]; exact h'
 have hfs : ∀ b, b + 1 = s0 → f b = false := by
  rcases hs with ⟨h, h'⟩ | ⟨h, _, _, h', _⟩
  ·rw [h]; exact h'
  ·exact h'
 have hnew : IsRun f' s0 (e0 - s0) := by
  refine ⟨by omega, fun b h1 h2 => ?_, fun b hb => by rw [hout b (by omega)]; exact hfs b hb, by rw [show s0 + (e0 - s0) = e0 by omega, hout e0 (by omega)]; exact hfe⟩
  rcases Nat.lt_or_ge b a with h3 | h3
  ·rw [hout b (by omega)]
   rcases hs with ⟨h, _⟩ | ⟨h, _, h', _⟩
   ·omega
   ·exact h' b h1 (by omega)
  ·rcases Nat.lt_or_ge b (a + m) with h4 | h4
   ·exact hin b h3 h4
   ·rw [hout b (by omega)]
    rcases he with ⟨h, _⟩ | ⟨h, _, h', _⟩
    ·omega
    ·exact h' b h4 (by omega)
 have hold : ∀ s n, IsRun f s n → s + n ≤ a ∨ a + m ≤ s := by
  intro s n ⟨h1, h2, _, _⟩
  rcases Nat.lt_or_ge a (s + n) with h5 | h5
  ·rcases Nat.lt_or_ge s (a + m) with h6 | h6
   ·by_cases h7 : a ≤ s
    ·have := h2 s (Nat.le_refl _) (by omega); rw [h0 s h7 h6] at this; cases this
    ·have := h2 a (by omega) h5; rw [h0 a (Nat.le_refl _) (by omega)] at this; cases this
   ·exact .inr h6
  ·exact .inl h5
 constructor
 ·intro h
  by_cases hc : s < e0 ∧ s0 < s + n
  ·left
   have hb : ∃ b, s ≤ b ∧ b < s + n ∧ s0 ≤ b ∧ b < s0 + (e0 - s0) := by
    have := h.1
    by_cases hx : s0 ≤ s
    ·exact ⟨s, by omega, by omega, hx, by omega⟩
    ·exact ⟨s0, by omega, by omega, by omega, by omega⟩
   obtain ⟨b, h1, h2, h3, h4⟩ := hb
   exact h.meet hnew h1 h2 h3 h4
  ·right
   obtain ⟨h1, h2, h3, h4⟩ := h
   have hne : s ≠ e0 := by
    rintro rfl
    have := h2 _ (Nat.le_refl _) (by omega); rw [hout _ (by omega), hfe] at this; cases this
   have hne' : s + n ≠ s0 := by
    intro e
    have := h2 (s0 - 1) (by omega) (by omega); rw [hout _ (by omega), hfs (s0 - 1) (by omega)] at this; cases this
   have hfar : e0 < s ∨ s + n < s0 := by omega
   refine ⟨⟨h1, fun b hb hb' => by rw [← hout b (by omega)]; exact h2 b hb hb', fun b hb => by rw [← hout b (by omega)]; exact h3 b hb, by rw [← hout _ (by omega)]; exact h4⟩, by omega, by omega⟩
 ·rintro (⟨rfl, rfl⟩ | ⟨h, h1, h2⟩)
  ·exact hnew
  ·have ho := hold s n h
   obtain ⟨h3, h4, h5, h6⟩ := h
   refine ⟨h3, fun b hb hb' => by rw [hout b (by omega)]; exact h4 b hb hb', fun b hb => by rw [hout b (by omega)]; exact h5 b hb, ?_⟩
   rw [hout _ (by omega)]; exact h6
theorem take_run {f f' : Nat → Bool} {a k m : Nat} (hr : IsRun f a k) (hm : 1 ≤ m) (hk : m ≤ k)
  (hin : ∀ b, a ≤ b → b < a + m → f' b = false) (hout : ∀ b, b < a ∨ a + m ≤ b → f' b = f b) (s n : Nat) :
  IsRun f' s n ↔ (m < k ∧ s = a + m ∧ n = k - m) ∨ (IsRun f s n ∧ s ≠ a) := by
 have hold : ∀ s n, IsRun f s n → s ≠ a → s + n < a ∨ a + k < s := by
  intro s n h hs
  rcases Nat.lt_or_ge (s + n) a with h1 | h1
  ·exact .inl h1
  ·rcases Nat.lt_or_ge (a + k) s with h2 | h2
   ·exact .inr h2
   ·exfalso
    have hn := h.1
    have hk1 := hr.1
    by_cases e1 : s + n = a
    ·have := h.2.1 (a - 1) (by omega) (by omega); rw [hr.2.2.1 (a - 1) (by omega)] at this; cases this
    ·by_cases e2 : s = a + k
     ·have := h.2.1 s (by omega) (by omega); rw [e2, hr.2.2.2] at this; cases this
     ·by_cases h3 : a ≤ s
      ·exact hs (h.meet hr (b := s) (by omega) (by omega) h3 (by omega)).1
      ·exact hs (h.meet hr (b := a) (by omega) (by omega) (by omega) (by omega)).1
 constructor
 ·intro h
  obtain ⟨h1, h2, h3, h4⟩ := h
  have hno : ∀ b, s ≤ b → b < s + n → b < a ∨ a + m ≤ b := by
   intro b hb hb'
   rcases Nat.lt_or_ge b a with h5 | h5
   ·exact .inl h5
   ·rcases Nat.lt_or_ge b (a + m) with h6 | h6
    ·have := h2 b hb hb'; rw [hin b h5 h6] at this; cases this
    ·exact .inr h6
  by_cases hs : s < a
  ·right
   have hle : s + n ≤ a := by
    rcases Nat.lt_or_ge a (s + n) with h5 | h5
    ·have := hno a (by omega) h5; omega
    ·exact h5
   have hlt : s + n ≠ a := by
    intro e
    have x := h2 (a - 1) (by omega) (by omega)
    rw [hout _ (by omega), hr.2.2.1 (a - 1) (by omega)] at x; cases x
   exact ⟨⟨h1, fun b hb hb' => by rw [← hout b (by omega)]; exact h2 b hb hb', fun b hb => by rw [← hout b (by omega)]; exact h3 b hb, by rw [← hout _ (by omega)]; exact h4⟩, by omega⟩
  ·have hge : a + m ≤ s := by have := hno s (Nat.le_refl _) (by omega); omega
   by_cases he : s = a + m
   ·left
    have hmk : m < k := by
     rcases Nat.lt_or_ge m k with h5 | h5
     ·exact h5
     ·have e : m = k := by omega
      have x := h2 s (Nat.le_refl _) (by omega)
      rw [hout s (by omega), he, e, hr.2.2.2] at x; cases x
    have hnew : IsRun f' (a + m) (k - m) := by
     refine ⟨by omega, fun b hb hb' => by rw [hout b (by omega)]; exact hr.2.1 b (by omega) (by omega), fun b hb => hin b (by omega) (by omega), by rw [show a + m + (k - m) = a + k by omega, hout _ (by omega)]; exact hr.2.2.2⟩
    subst he
    exact ⟨hmk, rfl, IsRun.one ⟨h1, h2, h3, h4⟩ hnew⟩
   ·right
    refine ⟨⟨h1, fun b hb hb' => by rw [← hout b (by omega)]; exact h2 b hb hb', fun b hb => by rw [← hout b (by omega)]; exact h3 b hb, by rw [← hout _ (by omega)]; exact h4⟩, by omega⟩
 ·rintro (⟨h1, rfl, rfl⟩ | ⟨h, hs⟩)
  ·exact ⟨by omega, fun b hb hb' => by rw [hout b (by omega)]; exact hr.2.1 b (by omega) (by omega), fun b hb => hin b (by omega) (by omega), by rw [show a + m + (k - m) = a + k by omega, hout _ (by omega)]; exact hr.2.2.2⟩
  ·have ho := hold s n h hs
   have hk1 := hr.1
   obtain ⟨h3, h4, h5, h6⟩ := h
   exact ⟨h3, fun b hb hb' => by rw [hout b (by omega)]; exact h4 b hb hb', fun b hb => by rw [hout b (by omega)]; exact h5 b hb, by rw [hout _ (by omega)]; exact h6⟩
def cutAt (f : Nat → Bool) (L b : Nat) : Bool := decide (b < L) && f b
def runsTo (f : Nat → Bool) : Nat → List (Nat × Nat)
 | 0 => []
 | b + 1 => if f b then
   if 0 < b ∧ f (b - 1) = true then
    match (runsTo f b).getLast? with
    | none => []
    | some x => (runsTo f b).dropLast ++ [(x.1, x.2 + 1)]
   else runsTo f b ++ [(b, 1)]
  else runsTo f b
def Rising (l : List (Nat × Nat)) : Prop := l.Pairwise fun x y => x.1 < y.1
structure IsRuns (f : Nat → Bool) (l : List (Nat × Nat)) : Prop where
 rising : Rising l
 mem : ∀ s n, (s, n) ∈ l ↔ IsRun f s n
theorem isRuns_congr {f g : Nat → Bool} {l : List (Nat × Nat)} (h : IsRuns f l) (hfg : ∀ b, f b = g b) : IsRuns g l := by
 have : f = g := funext hfg
 rw [← this]; exact h
theorem runsTo_step {f f' : Nat → Bool} {l : List (Nat × Nat)} {L : Nat} (h : IsRuns f l) (h0 : ∀ b, L ≤ b → f b = false)
  (hin : f' L = true) (hout : ∀ b, b ≠ L → f' b = f b) :
  IsRuns f' (if 0 < L ∧ f (L - 1) = true then
    match l.getLast? with
    | none => []
    | some x => l.dropLast ++ [(x.1, x.2 + 1)]
   else l ++ [(L, 1)]) := by
 have hlt : ∀ s n, (s, n) ∈ l → s < L := by
  intro s n hm
  have hr := (h.mem s n).1 hm
  rcases Nat.lt_or_ge s L with h1 | h1
  ·exact h1
  ·have := hr.2.1 s (Nat.le_refl _) (by have := hr.1; omega); rw [h0 s h1] at this; cases this
 split
 ·rename_i hc
  obtain ⟨s0, n0, hr0, hs0, he0⟩ := has_run h0 hc.2
  have hend : s0 + n0 = L := by
   rcases Nat.lt_or_ge L (s0 + n0) with h1 | h1
   ·have := hr0.2.1 L (by omega) h1; rw [h0 L (Nat.le_refl _)] at this; cases this
   ·omega
  have hm0 := (h.mem s0 n0).2 hr0
  obtain ⟨q, x, hq⟩ : ∃ q x, l = q ++ [x] := by
   rcases List.eq_nil_or_concat l with e | ⟨q, x, e⟩
   ·rw [e] at hm0; exact absurd hm0 (by simp)
   ·exact ⟨q, x, by rw [e]; simp⟩
  have hx : x = (s0, n0) := by
   rw [hq] at hm0
   rcases List.mem_append.1 hm0 with h1 | h1
   ·exfalso
    have hp := h.rising
    unfold Rising at hp
    rw [hq] at hp
    have h2 : s0 < x.1 := (List.pairwise_append.1 hp).2.2 _ h1 x (by simp)
    have hxm : (x.1, x.2) ∈ l := by rw [hq]; simp
    have h3 := hlt _ _ hxm
    have hrx := (h.mem _ _).1 hxm
    have := hrx.1
    have := (hr0.meet hrx (b := x.1) (by omega) (by omega) (Nat.le_refl _) (by omega)).1
    omega
   ·exact (List.mem_singleton.1 h1).symm
  subst hx
  have hG := fun s n => give_run (f := f) (f' := f') (a := L) (m := 1) (s0 := s0) (e0 := L + 1) (Nat.le_refl _) (fun b h1 _ => h0 b h1)
   (fun b h1 h2 => by rw [show b = L by omega]; exact hin) (fun b hb => hout b (by omega)) (.inr ⟨by omega, by rw [show L - s0 = n0 by omega]; exact hr0⟩) (.inl ⟨rfl, h0 _ (by omega)⟩) s n
  rw [hq, List.getLast?_concat]
  simp only [List.dropLast_concat]
  have hp := h.rising
  unfold Rising at hp
  rw [hq] at hp
  constructor
  ·exact List.pairwise_append.2 ⟨(List.pairwise_append.1 hp).1, by simp, fun y hy z hz => by
    rw [List.mem_singleton.1 hz]; exact (List.pairwise_append.1 hp).2.2 y hy (s0, n0) (by simp)⟩
  ·intro s n
   rw [hG s n]
   constructor
   ·intro hm
    rcases List.mem_append.1 hm with h1 | h1
    ·right
     have hr := (h.mem s n).1 (by rw [hq]; simp [h1])
     have h2 : s < s0 := (List.pairwise_append.1 hp).2.2 _ h1 (s0, n0) (by simp)
     refine ⟨hr, ?_, by omega⟩
     intro e
     have := (hr.back hr0 (by omega)).1
     omega
    ·left
     have := List.mem_singleton.1 h1
     injection this with e1 e2
     omega
   ·rintro (⟨rfl, rfl⟩ | ⟨hr, h1, _⟩)
    ·exact List.mem_append.2 (.inr (by rw [show L + 1 - s = n0 + 1 by omega]; simp))
    ·have hm := (h.mem s n).2 hr
     rw [hq] at hm
     rcases List.mem_append.1 hm with h2 | h2
     ·exact List.mem_append.2 (.inl h2)
     ·have := List.mem_singleton.1 h2
      injection this with e1 e2
      omega
 ·rename_i hc
  have hfl : ∀ b, b + 1 = L → f b = false := by
   intro b hb
   cases hv : f b with
   | false => rfl
   | true => exact absurd ⟨by omega, by rw [show L - 1 = b by omega]; exact hv⟩ hc
  have hG := fun s n => give_run (f := f) (f' := f') (a := L) (m := 1) (s0 := L) (e0 := L + 1) (Nat.le_refl _) (fun b h1 _ => h0 b h1)
   (fun b h1 h2 => by rw [show b = L by omega]; exact hin) (fun b hb => hout b (by omega)) (.inl ⟨rfl, hfl⟩) (.inl ⟨rfl, h0 _ (by omega)⟩) s n
  constructor
  ·exact List.pairwise_append.2 ⟨h.rising, by simp, fun y hy z hz => by
    rw [List.mem_singleton.1 hz]; exact hlt y.1 y.2 hy⟩
  ·intro s n
   rw [hG s n]
   constructor
   ·intro hm
    rcases List.mem_append.1 hm with h1 | h1
    ·right
     have hr := (h.mem s n).1 h1
     refine ⟨hr, ?_, by have := hlt s n h1; omega⟩
     intro e
     have hn := hr.1
     have := hr.2.1 (L - 1) (by omega) (by omega)
     rw [hfl (L - 1) (by omega)] at this; cases this
    ·left
     have := List.mem_singleton.1 h1
     injection this with e1 e2
     omega
   ·rintro (⟨rfl, rfl⟩ | ⟨hr, _, _⟩)
    ·exact List.mem_append.2 (.inr (by rw [show s + 1 - s = 1 by omega]; simp))
    ·exact List.mem_append.2 (.inl ((h.mem s n).2 hr))
theorem runsTo_is (f : Nat → Bool) : ∀ L, IsRuns (cutAt f L) (runsTo f L)
 | 0 => ⟨List.Pairwise.nil, fun s n => ⟨fun h => absurd h (by simp [runsTo]), fun h => by
   have := h.2.1 s (Nat.le_refl _) (by have := h.1; omega); simp [cutAt] at this⟩⟩
 | L + 1 => by
  have ih := runsTo_is f L
  unfold runsTo
  cases hf : f L with
  | false =>
   simp only [Bool.false_eq_true, if_false]
   refine isRuns_congr ih fun b => ?_
   unfold cutAt
   by_cases hb : b < L
   ·simp [hb, Nat.lt_succ_of_lt hb]
   ·by_cases he : b = L
    ·subst he; simp [hf]
    ·rw [decide_eq_false hb, decide_eq_false (by omega)]
  | true =>
   simp only [if_true]
   have hst := runsTo_step (f' := cutAt f (L + 1)) (L := L) ih (fun b hb => by unfold cutAt; rw [decide_eq_false (by omega)]; rfl) (by unfold cutAt; simp [hf]) (fun b hb => by
    unfold cutAt
    by_cases h1 : b < L
    ·simp [h1, Nat.lt_succ_of_lt h1]
    ·rw [decide_eq_false h1, decide_eq_false (by omega)])
   have hc : (0 < L ∧ cutAt f L (L - 1) = true) ↔ (0 < L ∧ f (L - 1) = true) := by
    unfold cutAt
    constructor
    ·rintro ⟨h1, h2⟩; exact ⟨h1, by simpa [show L - 1 < L by omega] using h2⟩
    ·rintro ⟨h1, h2⟩; exact ⟨h1, by simpa [show L - 1 < L by omega] using h2⟩
   simp only [hc] at hst
   exact hst
theorem rising_nodup {l : List (Nat × Nat)} (h : Rising l) : l.Nodup :=
 List.Pairwise.imp (fun {x y} hxy e => by rw [e] at hxy; omega) h
def sumOf (l : List (Nat × Nat)) : Nat := (l.map (·.2)).sum
def longOf (l : List (Nat × Nat)) : Nat := (l.map (·.2)).foldl max 0
theorem sum_perm {a b : List (Nat × Nat)} (h : a.Perm b) : sumOf a = sumOf b := (h.map _).sum_nat
def Best (n : Nat) (A : Nat → Nat → Prop) : Option (Nat × Nat) → Prop
 | none => ∀ s k, A s k → k < n
 | some x => A x.1 x.2 ∧ n ≤ x.2 ∧ ∀ s k, A s k → n ≤ k → x.2 < k ∨ (x.2 = k ∧ x.1 ≤ s)
theorem best_one {n : Nat} {A : Nat → Nat → Prop} : ∀ {o o' : Option (Nat × Nat)}, Best n A o → Best n A o' → o = o'
 | none, none, _, _ => rfl
 | none, some x, h, h' => absurd (h _ _ h'.1) (by have := h'.2.1; omega)
 | some x, none, h, h' => absurd (h' _ _ h.1) (by have := h.2.1; omega)
 | some (a, b), some (a', b'), h, h' => by
  have h1 := h.2.2 _ _ h'.1 h'.2.1
  have h2 := h'.2.2 _ _ h.1 h.2.1
  simp only at h1 h2
  have e1 : a = a' := by omega
  have e2 : b = b' := by omega
  rw [e1, e2]
def better (n : Nat) (o : Option (Nat × Nat)) (s k : Nat) : Bool :=
 decide (n ≤ k) && match o with
  | none => true
  | some x => decide (k < x.2) || (decide (k = x.2) && decide (s < x.1))
theorem best_step {n : Nat} {A A' : Nat → Nat → Prop} {o : Option (Nat × Nat)} {s0 k0 : Nat} (h : Best n A o) (hA : ∀ s k, A' s k ↔ A s k ∨ (s = s0 ∧ k = k0)) :
  Best n A' (if better n o s0 k0 then some (s0, k0) else o) := by
 cases o with
 | none =>
  by_cases hn : n ≤ k0
  ·rw [if_pos (by simp [better, hn])]
   refine ⟨(hA s0 k0).2 (.inr ⟨rfl, rfl⟩), hn, fun s k hk hnk => ?_⟩
   rcases (hA s k).1 hk with h1 | ⟨rfl, rfl⟩
   ·have := h s k h1; omega
   ·exact .inr ⟨rfl, Nat.le_refl _⟩
  ·rw [if_neg (by simp [better, hn])]
   intro s k hk
   rcases (hA s k).1 hk with h1 | ⟨rfl, rfl⟩
   ·exact h s k h1
   ·omega
 | some x =>
  obtain ⟨h1, h2, h3⟩ := h
  by_cases hb : better n (some x) s0 k0 = true
  ·rw [if_pos hb]
   simp [better] at hb
   refine ⟨(hA s0 k0).2 (.inr ⟨rfl, rfl⟩), hb.1, fun s k hk hnk => ?_⟩
   rcases (hA s k).1 hk with h4 | ⟨rfl, rfl⟩
   ·have := h3 s k h4 hnk; simp only; omega
   ·exact .inr ⟨rfl, Nat.le_refl _⟩
  ·rw [if_neg hb]
   simp [better] at hb
   refine ⟨(hA _ _).2 (.inl h1), h2, fun s k hk hnk => ?_⟩
   rcases (hA s k).1 hk with h4 | ⟨rfl, rfl⟩
   ·exact h3 s k h4 hnk
   ·have := hb hnk; omega
def shorter (n : Nat) (o : Option (Nat × Nat)) (k : Nat) : Bool :=
 decide (n ≤ k) && match o with
  | none => true
  | some y => decide (k < y.2)
theorem best_rising {n : Nat} {l : List (Nat × Nat)} {x : Nat × Nat} {o : Option (Nat × Nat)} (h : Best n (fun s k => (s, k) ∈ l) o) (hr : ∀ y ∈ l, y.1 < x.1) :
  better n o x.1 x.2 = shorter n o x.2 := by
 cases o with
 | none => rfl
 | some y =>
  have := hr _ h.1
  simp only at this
  simp only [better, shorter]
  rw [decide_eq_false (show ¬ x.1 < y.1 by omega)]; simp
def pickGo (n : Nat) : Option (Nat × Nat) → List (Nat × Nat) → Option (Nat × Nat)
 | o, [] => o
 | o, x :: l => pickGo n (if shorter n o x.2 then some x else o) l
theorem pickGo_best (n : Nat) : ∀ (l done : List (Nat × Nat)) (o : Option (Nat × Nat)), Rising (done ++ l) → Best n (fun s k => (s, k) ∈ done) o → Best n (fun s k => (s, k) ∈ done ++ l) (pickGo n o l)
 | [], done, o, _, h => by rw [List.append_nil]; exact h
 | x :: l, done, o, hr, h => by
  have hlt : ∀ y ∈ done, y.1 < x.1 := fun y hy => (List.pairwise_append.1 hr).2.2 y hy x (by simp)
  have hb := best_rising h hlt
  have hs := best_step (A' := fun s k => (s, k) ∈ done ++ [x]) (s0 := x.1) (k0 := x.2) h (fun s k => by
   rw [List.mem_append, List.mem_singleton, Prod.ext_iff])
  rw [hb] at hs
  have := pickGo_best n l (done ++ [x]) _ (by rw [List.append_assoc]; exact hr) hs
  rw [List.append_assoc] at this
  exact this
def pick (n : Nat) (l : List (Nat × Nat)) : Option (Nat × Nat) := pickGo n none l
theorem pick_best {n : Nat} {l : List (Nat × Nat)} (h : Rising l) : Best n (fun s k => (s, k) ∈ l) (pick n l) :=
 pickGo_best n l [] none h (fun _ _ hm => absurd hm (by simp))
def fb (l : List Bool) (b : Nat) : Bool := l.getD b false
theorem fb_far (l : List Bool) (b : Nat) (h : l.length ≤ b) : fb l b = false := by
 unfold fb; rw [List.getD_eq_getElem?_getD, List.getElem?_eq_none h]; rfl
def setTo (l : List Bool) (a : Nat) (v : Bool) : Nat → List Bool
 | 0 => l
 | m + 1 => (setTo l a v m).set (a + m) v
theorem setTo_length (l : List Bool) (a : Nat) (v : Bool) : ∀ m, (setTo l a v m).length = l.length
 | 0 => rfl
 | m + 1 => by rw [setTo, List.length_set, setTo_length l a v m]
theorem setTo_fb (l : List Bool) (a : Nat) (v : Bool) : ∀ m, a + m ≤ l.length → ∀ b, fb (setTo l a v m) b = if a ≤ b ∧ b < a + m then v else fb l b
 | 0, _, b => by rw [if_neg (by omega)]; rfl
 | m + 1, h, b => by
  have ih := setTo_fb l a v m (by omega) b
  unfold fb at ih ⊢
  rw [setTo, List.getD_eq_getElem?_getD, List.getElem?_set]
  by_cases hb : a + m = b
  ·rw [if_pos hb, if_pos (by rw [setTo_length]; omega), if_pos (by omega)]; rfl
  ·rw [if_neg hb, ← List.getD_eq_getElem?_getD, ih]
   by_cases h1 : a ≤ b ∧ b < a + m
   ·rw [if_pos h1, if_pos (by omega)]
   ·rw [if_neg h1, if_neg (by omega)]
def runsOf (l : List Bool) : List (Nat × Nat) := runsTo (fb l) l.length
theorem runsOf_is (l : List Bool) : IsRuns (fb l) (runsOf l) :=
 isRuns_congr (runsTo_is (fb l) l.length) fun b => by
  unfold cutAt
  by_cases h : b < l.length
  ·simp [h]
  ·rw [decide_eq_false h, fb_far l b (by omega)]; rfl
def anyFree (l : List Bool) (a : Nat) : Nat → Bool
 | 0 => false
 | m + 1 => anyFree l a m || fb l (a + m)
theorem anyFree_false {l : List Bool} {a : Nat} : ∀ {m : Nat}, anyFree l a m = false → ∀ b, a ≤ b → b < a + m → fb l b = false
 | 0, _, b, h1, h2 => by omega
 | m + 1, h, b, h1, h2 => by
  rw [anyFree, Bool.or_eq_false_iff] at h
  by_cases hb : b = a + m
  ·rw [hb]; exact h.2
  ·exact anyFree_false h.1 b h1 (by omega)
theorem anyFree_true {l : List Bool} {a : Nat} : ∀ {m : Nat}, anyFree l a m = true → ∃ b, a ≤ b ∧ b < a + m ∧ fb l b = true
 | 0, h => by cases h
 | m + 1, h => by
  rw [anyFree, Bool.or_eq_true_iff] at h
  rcases h with h | h
  ·obtain ⟨b, h1, h2, h3⟩ := anyFree_true h; exact ⟨b, h1, by omega, h3⟩
  ·exact ⟨a + m, by omega, by omega, h⟩
theorem anyFree_one {l : List Bool} {a b : Nat} : ∀ {m : Nat}, a ≤ b → b < a + m → fb l b = true → anyFree l a m = true
 | 0, h1, h2, _ => by omega
 | m + 1, h1, h2, h3 => by
  rw [anyFree, Bool.or_eq_true_iff]
  by_cases hb : b = a + m
  ·right; rw [← hb]; exact h3
  ·left; exact anyFree_one h1 (by omega) h3
def giveR (l : List Bool) (a m : Int) : List Bool × Int :=
 if a < 1 ∨ m < 1 ∨ (l.length : Int) ≤ a ∨ (l.length : Int) - a < m then (l, 1)
 else if anyFree l a.toNat m.toNat then (l, 41)
 else (setTo l a.toNat true m.toNat, 0)
def takeR (l : List Bool) (n : Int) : List Bool × Int × Int :=
 if n < 1 then (l, 0, 1) else match pick n.toNat (runsOf l) with
  | none => (l, 0, 4)
  | some x => (setTo l x.1 false n.toNat, (x.1 : Int), 0)
theorem runEnds {l : List Bool} {s n : Nat} (h : IsRun (fb l) s n) : s + n ≤ l.length := by
 rcases Nat.lt_or_ge l.length (s + n) with h1 | h1
 ·have := h.2.1 (s + n - 1) (by have := h.1; omega) (by have := h.1; omega)
  rw [fb_far l _ (by omega)] at this; cases this
 ·exact h1
theorem pick_run {l : List Bool} {n : Nat} {x : Nat × Nat} (h : pick n (runsOf l) = some x) : IsRun (fb l) x.1 x.2 ∧ n ≤ x.2 := by
 have hb := pick_best (n := n) (runsOf_is l).rising
 rw [h] at hb
 exact ⟨((runsOf_is l).mem _ _).1 hb.1, hb.2.1⟩
theorem give_runs {l : List Bool} {a m s0 e0 : Nat} (hm : 1 ≤ m) (ha : a + m ≤ l.length) (h0 : anyFree l a m = false)
  (hs : s0 = a ∧ (∀ b, b + 1 = a → fb l b = false) ∨ s0 < a ∧ IsRun (fb l) s0 (a - s0))
  (he : e0 = a + m ∧ fb l (a + m) = false ∨ a + m < e0 ∧ IsRun (fb l) (a + m) (e0 - (a + m))) (s n : Nat) :
  IsRun (fb (setTo l a true m)) s n ↔ (s = s0 ∧ n = e0 - s0) ∨ (IsRun (fb l) s n ∧ s + n ≠ a ∧ s ≠ a + m) :=
 give_run hm (anyFree_false h0) (fun b h1 h2 => by rw [setTo_fb l a true m ha, if_pos ⟨h1, h2⟩]) (fun b h1 => by rw [setTo_fb l a true m ha, if_neg (by omega)]) hs he s n
theorem take_runs {l : List Bool} {a k m : Nat} (hr : IsRun (fb l) a k) (hm : 1 ≤ m) (hk : m ≤ k) (s n : Nat) :
  IsRun (fb (setTo l a false m)) s n ↔ (m < k ∧ s = a + m ∧ n = k - m) ∨ (IsRun (fb l) s n ∧ s ≠ a) := by
 have ha : a + m ≤ l.length := by have := runEnds hr; omega
 exact take_run hr hm hk (fun b h1 h2 => by rw [setTo_fb l a false m ha, if_pos ⟨h1, h2⟩]) (fun b h1 => by rw [setTo_fb l a false m ha, if_neg (by omega)]) s n
def MOf (l : List Bool) (M : Int → Option Int) : Prop := ∀ s c : Int, M s = some c ↔ 0 ≤ s ∧ 0 ≤ c ∧ IsRun (fb l) s.toNat c.toNat
def EOf (l : List Bool) (E : Int → Option Int) : Prop := ∀ e s : Int, E e = some s ↔ 0 ≤ s ∧ s ≤ e ∧ IsRun (fb l) s.toNat (e - s).toNat
theorem mof_nil {l : List Bool} (h : ∀ b, fb l b = false) : MOf l fun _ => none := fun s c => ⟨fun e => (by cases e), fun ⟨_, h1, hr⟩ => by
 have := hr.2.1 s.toNat (Nat.le_refl _) (by have := hr.1; omega); rw [h] at this; cases this⟩
theorem eof_nil {l : List Bool} (h : ∀ b, fb l b = false) : EOf l fun _ => none := fun e s => ⟨fun e => (by cases e), fun ⟨_, h1, hr⟩ => by
 have := hr.2.1 s.toNat (Nat.le_refl _) (by have := hr.1; omega); rw [h] at this; cases this⟩
section
variable {l : List Bool} {M E : Int → Option Int} {a m s0 e0 : Nat}
theorem give_M (hM : MOf l M) (hm : 1 ≤ m) (ha : a + m ≤ l.length) (h0 : anyFree l a m = false)
  (hs : s0 = a ∧ (∀ b, b + 1 = a → fb l b = false) ∨ s0 < a ∧ IsRun (fb l) s0 (a - s0))
  (he : e0 = a + m ∧ fb l (a + m) = false ∨ a + m < e0 ∧ IsRun (fb l) (a + m) (e0 - (a + m))) {M' : Int → Option Int}
  (hnew : M' s0 = some ((e0 : Int) - s0)) (hgone : ∀ s, s ≠ (s0 : Int) → (s = (a : Int) + m ∨ M s = some ((a : Int) - s)) → M' s = none)
  (hold : ∀ s, s ≠ (s0 : Int) → s ≠ (a : Int) + m → M s ≠ some ((a : Int) - s) → M' s = M s) : MOf (setTo l a true m) M' := by
 have hs0 : s0 ≤ a := by rcases hs with ⟨h, _⟩ | ⟨h, _⟩ <;> omega
 have he0 : a + m ≤ e0 := by rcases he with ⟨h, _⟩ | ⟨h, _⟩ <;> omega
 intro s c
 have hG := give_runs hm ha h0 hs he s.toNat c.toNat
 by_cases h1 : s = (s0 : Int)
 ·rw [h1, hnew]
  constructor
  ·intro e
   have e' : (e0 : Int) - s0 = c := by injection e
   refine ⟨by omega, by omega, ?_⟩
   rw [← h1, hG]; left; constructor <;> omega
  ·rintro ⟨_, hc, hr⟩
   rw [← h1, hG] at hr
   rcases hr with ⟨_, h2⟩ | ⟨hr, h2, h3⟩
   ·congr 1; omega
   ·exfalso
    rcases hs with ⟨e, _⟩ | ⟨hlt, hr0⟩
    ·have := hr.2.1 s.toNat (Nat.le_refl _) (by have := hr.1; omega)
     rw [anyFree_false h0 s.toNat (by omega) (by omega)] at this; cases this
    ·have := hr.one (n' := a - s0) (by rw [show s.toNat = s0 by omega]; exact hr0); omega
 ·by_cases h2 : s = (a : Int) + m ∨ M s = some ((a : Int) - s)
  ·rw [hgone s h1 h2]
   refine ⟨fun e => (by cases e), ?_⟩
   rintro ⟨hs1, hc, hr⟩
   rw [hG] at hr
   exfalso
   rcases hr with ⟨h3, _⟩ | ⟨hr, h3, h4⟩
   ·omega
   ·rcases h2 with h2 | h2
    ·omega
    ·obtain ⟨h5, h6, hr'⟩ := (hM _ _).1 h2
     have := hr.one hr'; omega
  ·rw [hold s h1 (fun e => h2 (.inl e)) (fun e => h2 (.inr e)), hM s c]
   constructor
   ·rintro ⟨h3, h4, hr⟩
    refine ⟨h3, h4, hG.2 (.inr ⟨hr, fun e => h2 (.inr ((hM _ _).2 ⟨h3, by omega, ?_⟩)), fun e => h2 (.inl (by omega))⟩)⟩
    rw [show ((a : Int) - s).toNat = c.toNat by omega]; exact hr
   ·rintro ⟨h3, h4, hr⟩
    rcases hG.1 hr with ⟨h5, _⟩ | ⟨hr', _⟩
    ·omega
    ·exact ⟨h3, h4, hr'⟩
theorem give_E (hE : EOf l E) (hm : 1 ≤ m) (ha : a + m ≤ l.length) (h0 : anyFree l a m = false)
  (hs : s0 = a ∧ (∀ b, b + 1 = a → fb l b = false) ∨ s0 < a ∧ IsRun (fb l) s0 (a - s0))
  (he : e0 = a + m ∧ fb l (a + m) = false ∨ a + m < e0 ∧ IsRun (fb l) (a + m) (e0 - (a + m))) {E' : Int → Option Int}
  (hnew : E' e0 = some (s0 : Int)) (hgone : ∀ e, e ≠ (e0 : Int) → (e = (a : Int) ∨ E e = some ((a : Int) + m)) → E' e = none)
  (hold : ∀ e, e ≠ (e0 : Int) → e ≠ (a : Int) → E e ≠ some ((a : Int) + m) → E' e = E e) : EOf (setTo l a true m) E' := by
 have hs0 : s0 ≤ a := by rcases hs with ⟨h, _⟩ | ⟨h, _⟩ <;> omega
 have he0 : a + m ≤ e0 := by rcases he with ⟨h, _⟩ | ⟨h, _⟩ <;> omega
 intro e s
 have hG := give_runs hm ha h0 hs he s.toNat (e - s).toNat
 by_cases h1 : e = (e0 : Int)
 ·rw [h1, hnew]
  constructor
  ·intro x
   have x' : (s0 : Int) = s := by injection x
   refine ⟨by omega, by omega, ?_⟩
   rw [← h1, hG]; left; constructor <;> omega
  ·rintro ⟨hs1, hc, hr⟩
   rw [← h1, hG] at hr
   rcases hr with ⟨h2, _⟩ | ⟨hr, h2, h3⟩
   ·congr 1; omega
   ·exfalso
    rcases he with ⟨x, hf⟩ | ⟨hlt, hr0⟩
    ·have hx := hr.2.1 (s.toNat + (e - s).toNat - 1) (by have := hr.1; omega) (by have := hr.1; omega)
     rw [anyFree_false h0 _ (by have := hr.1; omega) (by have := hr.1; omega)] at hx; cases hx
    ·have := (hr.back hr0 (by omega)).1; omega
 ·by_cases h2 : e = (a : Int) ∨ E e = some ((a : Int) + m)
  ·rw [hgone e h1 h2]
   refine ⟨fun x => (by cases x), ?_⟩
   rintro ⟨hs1, hc, hr⟩
   rw [hG] at hr
   exfalso
   rcases hr with ⟨h3, h4⟩ | ⟨hr, h3, h4⟩
   ·omega
   ·rcases h2 with h2 | h2
    ·omega
    ·obtain ⟨h5, h6, hr'⟩ := (hE _ _).1 h2
     have := (hr.back hr' (by omega)).1; omega
  ·rw [hold e h1 (fun x => h2 (.inl x)) (fun x => h2 (.inr x)), hE e s]
   constructor
   ·rintro ⟨h3, h4, hr⟩
    refine ⟨h3, h4, hG.2 (.inr ⟨hr, fun x => h2 (.inl (by omega)), fun x => h2 (.inr ((hE _ _).2 ⟨by omega, by omega, ?_⟩))⟩)⟩
    rw [show ((a : Int) + m).toNat = s.toNat by omega, show (e - ((a : Int) + m)).toNat = (e - s).toNat by omega]; exact hr
   ·rintro ⟨h3, h4, hr⟩
    rcases hG.1 hr with ⟨h5, h6⟩ | ⟨hr', _⟩
    ·omega
    ·exact ⟨h3, h4, hr'⟩
end
section
variable {l : List Bool} {M E : Int → Option Int} {a k m : Nat}
theorem take_M (hM : MOf l M) (hr : IsRun (fb l) a k) (hm : 1 ≤ m) (hk : m ≤ k) {M' : Int → Option Int}
  (hnew : M' ((a : Int) + m) = if m < k then some ((k : Int) - m) else M ((a : Int) + m)) (hgone : M' a = none)
  (hold : ∀ s, s ≠ (a : Int) → s ≠ (a : Int) + m → M' s = M s) : MOf (setTo l a false m) M' := by
 intro s c
 have hT := take_runs hr hm hk s.toNat c.toNat
 have hin : m < k → ∀ n, ¬ IsRun (fb l) (a + m) n := by
  intro hlt n hn
  have := (hn.meet hr (b := a + m) (Nat.le_refl _) (by have := hn.1; omega) (by omega) (by omega)).1
  omega
 by_cases h1 : s = (a : Int)
 ·rw [h1, hgone]
  refine ⟨fun x => (by cases x), ?_⟩
  rintro ⟨_, hc, hr'⟩
  rw [← h1, hT] at hr'
  rcases hr' with ⟨_, h2, _⟩ | ⟨_, h2⟩ <;> omega
 ·by_cases h2 : s = (a : Int) + m
  ·rw [h2, hnew]
   by_cases h3 : m < k
   ·rw [if_pos h3]
    constructor
    ·intro x
     have x' : (k : Int) - m = c := by injection x
     refine ⟨by omega, by omega, ?_⟩
     rw [← h2, hT]; left; refine ⟨h3, by omega, by omega⟩
    ·rintro ⟨_, hc, hr'⟩
     rw [← h2, hT] at hr'
     rcases hr' with ⟨_, _, h4⟩ | ⟨hr', _⟩
     ·congr 1; omega
     ·exact absurd (show IsRun (fb l) (a + m) c.toNat by rw [show a + m = s.toNat by omega]; exact hr') (hin h3 _)
   ·rw [if_neg h3, ← h2, hM s c, hT]
    constructor
    ·rintro ⟨h4, h5, h6⟩; exact ⟨h4, h5, .inr ⟨h6, by omega⟩⟩
    ·rintro ⟨h4, h5, h6 | h6⟩
     ·omega
     ·exact ⟨h4, h5, h6.1⟩
  ·rw [hold s h1 h2, hM s c, hT]
   constructor
   ·rintro ⟨h4, h5, h6⟩; exact ⟨h4, h5, .inr ⟨h6, by omega⟩⟩
   ·rintro ⟨h4, h5, h6 | h6⟩
    ·omega
    ·exact ⟨h4, h5, h6.1⟩
theorem take_E (hE : EOf l E) (hr : IsRun (fb l) a k) (hm : 1 ≤ m) (hk : m ≤ k) {E' : Int → Option Int}
  (hnew : E' ((a : Int) + k) = if m < k then some ((a : Int) + m) else none)
  (hold : ∀ e, e ≠ (a : Int) + k → E' e = E e) : EOf (setTo l a false m) E' := by
 intro e s
 have hT := take_runs hr hm hk s.toNat (e - s).toNat
 by_cases h1 : e = (a : Int) + k
 ·rw [h1, hnew]
  by_cases h3 : m < k
  ·rw [if_pos h3]
   constructor
   ·intro x
    have x' : (a : Int) + m = s := by injection x
    refine ⟨by omega, by omega, ?_⟩
    rw [← h1, hT]; left; refine ⟨h3, by omega, by omega⟩
   ·rintro ⟨h4, h5, hr'⟩
    rw [← h1, hT] at hr'
    rcases hr' with ⟨_, h6, _⟩ | ⟨hr', h6⟩
    ·congr 1; omega
    ·have := (hr'.back hr (by omega)).1; omega
  ·rw [if_neg h3]
   refine ⟨fun x => (by cases x), ?_⟩
   rintro ⟨h4, h5, hr'⟩
   rw [← h1, hT] at hr'
   rcases hr' with ⟨h6, _⟩ | ⟨hr', h6⟩
   ·omega
   ·have := (hr'.back hr (by omega)).1; omega
 ·rw [hold e h1, hE e s, hT]
  constructor
  ·rintro ⟨h4, h5, h6⟩
   refine ⟨h4, h5, .inr ⟨h6, fun x => ?_⟩⟩
   have := h6.one (n' := k) (by rw [x]; exact hr); omega
  ·rintro ⟨h4, h5, h6 | h6⟩
   ·omega
   ·exact ⟨h4, h5, h6.1⟩
end
end Go.Proofs.YtbimcogdbafjpaaGreat
namespace Go.Proofs.YtbimcogdbafjpaaGreat
open Go.Maps Go.ChangeMaps
structure Tells (D : DataW Unit) (M : Int → Option Int) : Prop where
 isMap : IsMap D
 has : ∀ x, has D (.int .i64 x) = (M x).isSome
 val : ∀ x c, M x = some c → ∀ z, D.atKey (.int .i64 x) z = .lit (.int .i64 c)
theorem Tells.get {D : DataW Unit} {M : Int → Option Int} (h : Tells D M) (x : Int) : D.atKey (.int .i64 x) (.lit (.int .i64 0)) = .lit (.int .i64 ((M x).getD 0)) := by
 cases hm : M x with
 | none => rw [atKey_of_not_has (by rw [h.has, hm]; rfl)]; rfl
 | some c => rw [h.val x c hm]; rfl
theorem key_wf {x : Int} (_hw : (Lit.int .i64 x).wf = true) : WideAt.IsKeyLit (.int .i64 x) := by
 trivial
theorem tells_nil : Tells (.map []) fun _ => none := ⟨isMap_empty, fun _ => rfl, fun _ _ h => by cases h⟩
theorem Tells.put {D : DataW Unit} {M : Int → Option Int} (h : Tells D M) {x : Int} (hw : (Lit.int .i64 x).wf = true) (c : Int) :
  Tells (D.put (.int .i64 x) (.lit (.int .i64 c))) fun y => if y = x then some c else M y := by
 refine ⟨h.isMap.put _ _, fun y => ?_, fun y d hy z => ?_⟩
 ·by_cases e : y = x
  ·subst e; rw [has_put_same h.isMap (key_wf hw), if_pos rfl]; rfl
  ·rw [has_put_other (by simpa using e), if_neg e, h.has]
 ·by_cases e : y = x
  ·subst e; rw [if_pos rfl] at hy; cases hy; rw [atKey_put_same h.isMap (key_wf hw)]
  ·rw [if_neg e] at hy; rw [atKey_put_other (by simpa using e), h.val y d hy]
theorem Tells.del {D : DataW Unit} {M : Int → Option Int} (h : Tells D M) (x : Int) : Tells (D.del (.int .i64 x)) fun y => if y = x then none else M y := by
 refine ⟨h.isMap.del _, fun y => ?_, fun y d hy z => ?_⟩
 ·by_cases e : y = x
  ·subst e; rw [has_del_same, if_pos rfl]; rfl
  ·rw [has_del_other (by simpa using e), if_neg e, h.has]
 ·by_cases e : y = x
  ·rw [if_pos e] at hy; cases hy
  ·rw [if_neg e] at hy; rw [atKey_del_other (by simpa using e), h.val y d hy]
def IMap (P : Program) (k : TypeId) (w : World) (b n : Nat) (M : Int → Option Int) : Prop :=
 ∃ D : DataW Unit, w.ownsMap P k (plainElem P k) b n D ∧ Tells D M
section
variable {P : Program} {k t : TypeId} {w : World} {b n : Nat} {M : Int → Option Int} {ops : Array Oper} {rest : List Oper} {o : Oper} {a : Act} {Q : Exit → Act → World → Prop}
theorem IMap.kept {w' : World} {row : Option Nat} (h : IMap P k w b n M) (hg : w.grownBy w' row) (hne : some b ≠ row) : IMap P k w' b n M := by
 obtain ⟨D, ho, ht⟩ := h; exact ⟨D, ho.kept hg hne, ht⟩
theorem IMap.alloc (h : IMap P k w b n M) (ob : Obj) : IMap P k (w.alloc ob) b n M := by
 obtain ⟨D, ho, ht⟩ := h; exact ⟨D, ho.alloc ob, ht⟩
theorem IMap.mono {n' : Nat} (h : IMap P k w b n M) (hn : n ≤ n') : IMap P k w b n' M := by
 obtain ⟨D, ho, ht⟩ := h; exact ⟨D, ho.mono hn, ht⟩
theorem IMap.lt (h : IMap P k w b n M) : b < w.heap.size := by obtain ⟨D, ho, _⟩ := h; exact ho.lt
theorem IMap.made (w : World) (P : Program) (k : TypeId) : IMap P k (w.alloc (.map #[] 0)) w.heap.size 0 fun _ => none :=
 ⟨.map [], World.ownsMap_made w P k _, tells_nil⟩
theorem IMap.block (h : IMap P k w b n M) {w' : World} (he : w'.heap[b]? = w.heap[b]?) : IMap P k w' b n M := by
 obtain ⟨D, ⟨es, clock, hb, F, hs, hD⟩, ht⟩ := h; exact ⟨D, ⟨es, clock, he.trans hb, F, hs, hD⟩, ht⟩
theorem IMap.wf (h : IMap P k w b n M) (hk : P.underlying k = some (.int .i64)) {x c : Int} (hm : M x = some c) : (Lit.int .i64 x).wf = true := by
 obtain ⟨D, ⟨es, clock, _, F, _, rfl⟩, ht⟩ := h
 have hh := ht.has x
 rw [hm] at hh
 obtain ⟨p, hp, hpk⟩ := List.any_eq_true.1 hh
 have hx := WideAt.sameKey_eq hpk
 obtain ⟨e, he, rfl⟩ := List.mem_map.1 (mem_sorted.1 hp)
 obtain ⟨y, hy⟩ := F.reads e he
 rw [Go.WideElems.rg_of hy] at hx
 obtain ⟨z, _, hz, hw⟩ := keyOf_int_inv hk (Go.WideElems.rd_key hy)
 rw [hz] at hx
 injection hx with _ h2
 rw [← h2]; exact hw
theorem wpList_ilook_ok (hg : o.guard = none) (m x : Operand) (t : TypeId) (hop : o.op = Op.lookup t m x true)
  (k : TypeId) (hk : P.underlying k = some (.int .i64)) (ht : P.underlying t = some (.map k k)) (hz : (zeroValue k).run P w = .ok (.int .i64 0) w) (b n : Nat) (M : Int → Option Int)
  (hm : a.eval m = .map (some b)) (hown : IMap P k w b n M) (y : Int) (hx : a.eval x = .int .i64 y) (hw : (Lit.int .i64 y).wf = true)
  (hK : wpList P ops Q rest (a.put o.dst (.tuple #[.int .i64 ((M y).getD 0), .bool (M y).isSome])) w) :
  wpList P ops Q (o :: rest) a w := by
 obtain ⟨D, ho, hT⟩ := hown
 refine wpList_lookup_own_ok_int w hg m x t hop k k .i64 (int_keyed hk) ht hk hz b n D hm ho _ _ hx (keyOf_int_mk hk hw) fun c hat _ => ?_
 rw [hT.get y] at hat
 have e : (M y).getD 0 = c := by injection hat with h1; injection h1
 rw [← e, hT.has y]
 exact hK
theorem wpList_ilook (hg : o.guard = none) (m x : Operand) (t : TypeId) (hop : o.op = Op.lookup t m x false)
  (k : TypeId) (hk : P.underlying k = some (.int .i64)) (ht : P.underlying t = some (.map k k)) (hz : (zeroValue k).run P w = .ok (.int .i64 0) w) (b n : Nat) (M : Int → Option Int)
  (hm : a.eval m = .map (some b)) (hown : IMap P k w b n M) (y : Int) (hx : a.eval x = .int .i64 y) (hw : (Lit.int .i64 y).wf = true)
  (hK : wpList P ops Q rest (a.put o.dst (.int .i64 ((M y).getD 0))) w) :
  wpList P ops Q (o :: rest) a w := by
 obtain ⟨D, ho, hT⟩ := hown
 refine wpList_lookup_own_int w hg m x t hop k k .i64 (int_keyed hk) ht hk hz b n D hm ho _ _ hx (keyOf_int_mk hk hw) fun c hat _ => ?_
 rw [hT.get y] at hat
 have e : (M y).getD 0 = c := by injection hat with h1; injection h1
 rw [← e]
 exact hK
theorem wpList_idelete (hg : o.guard = none) (m x : Operand) (t k : TypeId) (hop : o.op = Op.call { callee := Callee.builtin Builtin.delete, args := #[m, x], argTypes := #[t, k] })
  (hk : P.underlying k = some (.int .i64)) (ht : P.underlying t = some (.map k k)) (b n : Nat) (M : Int → Option Int)
  (hm : a.eval m = .map (some b)) (hown : IMap P k w b n M) (y : Int) (hx : a.eval x = .int .i64 y) (hw : (Lit.int .i64 y).wf = true)
  (hK : ∀ w', IMap P k w' b n (fun z => if z = y then none else M z) → w.grownBy w' (some b) → wpList P ops Q rest (a.put o.dst (.tuple #[])) w') :
  wpList P ops Q (o :: rest) a w := by
 obtain ⟨D, ho, hT⟩ := hown
 exact wpList_delete_own w hg m x t k hop k (int_keyed hk) ht (plainElem P k) b n D hm ho _ _ hx (keyOf_int_mk hk hw) fun w' h1 h2 => hK w' ⟨_, h1, hT.del y⟩ h2.grown
def IRange (P : Program) (k : TypeId) (w : World) (b r n : Nat) (M : Int → Option Int) (L : Int → Bool) (cnt : Nat) : Prop :=
 ∃ (D : DataW Unit) (left : Lit → Bool), w.ranges P k (plainElem P k) b r n D left cnt ∧ Tells D M ∧ ∀ x, left (.int .i64 x) = L x
theorem IRange.left_eq {L : Int → Bool} {cnt r : Nat} (h : IRange P k w b r n M L cnt) : w.rangeLeft b r = cnt := by
 obtain ⟨D, left, h1, _⟩ := h; exact h1.left_eq
theorem wpList_irange (hg : o.guard = none) (m : Operand) (t : TypeId) (hop : o.op = Op.range t m) (k : TypeId) (hk : P.underlying k = some (.int .i64)) (ht : P.underlying t = some (.map k k)) (b n : Nat) (M : Int → Option Int)
  (hm : a.eval m = .map (some b)) (hown : IMap P k w b n M)
  (hK : ∀ w' cnt, IRange P k w' b w.heap.size n M (fun x => (M x).isSome) cnt → w.grownBy w' none → w'.heap.size = w.heap.size + 1 → wpList P ops Q rest (a.put o.dst (.pointer (some ⟨w.heap.size, 0, none⟩))) w') :
  wpList P ops Q (o :: rest) a w := by
 obtain ⟨D, ho, hT⟩ := hown
 exact wpList_range_own w hg m t hop k k (int_keyed hk) ht (plainElem P k) b n D hm ho fun w' h1 h2 h3 => hK w' _ ⟨D, _, h1, hT, hT.has⟩ h2 h3
theorem wpList_inext (hg : o.guard = none) (it : Operand) (hop : o.op = Op.next it false) (k : TypeId) (hk : P.underlying k = some (.int .i64))
  (b r n : Nat) (M : Int → Option Int) (L : Int → Bool) (cnt : Nat) (hit : a.eval it = .pointer (some ⟨r, 0, none⟩)) (h : IRange P k w b r n M L cnt)
  (hDone : (∀ x, L x = false) → wpList P ops Q rest (a.put o.dst (.tuple #[.bool false])) w)
  (hMore : ∀ (x c : Int) (w' : World) (cnt' : Nat), (Lit.int .i64 x).wf = true → (Lit.int .i64 c).wf = true → L x = true → M x = some c → IRange P k w' b r n M (fun z => L z && !decide (z = x)) cnt' → cnt' < cnt →
   w.grownBy w' (some r) → w'.heap.size = w.heap.size → (Instr.entry (.pointer (some ⟨r, 0, none⟩))).run P w' = .ok (.tuple #[.int .i64 x, .int .i64 c]) w' → wpList P ops Q rest (a.put o.dst (.tuple #[.bool true, .int .i64 x, .int .i64 c])) w') :
  wpList P ops Q (o :: rest) a w := by
 obtain ⟨D, left, h1, hT, hL⟩ := h
 refine wpList_next_ranges_ii w hg it hop k k .i64 .i64 (int_keyed hk) hk hk b r n D left cnt hit h1 (fun _ h0 => hDone fun x => by rw [← hL, h0]) ?_
 intro x c w' cnt' hwx hwc hlx hat hrg hlt hgr hsz hen
 have hhas : has D (.int .i64 x) = true := has_true_of_atKey hat
 rw [hT.has] at hhas
 have hM : M x = some c := by
  cases hm : M x with
  | none => rw [hm] at hhas; cases hhas
  | some c' =>
   have e := hat (.lit (.int .i64 0))
   rw [hT.val x c' hm] at e
   have : c' = c := by injection e with h1; injection h1
   rw [this]
 refine hMore x c w' cnt' hwx hwc (by rw [← hL]; exact hlx) hM ⟨D, _, hrg, hT, fun z => ?_⟩ hlt hgr hsz hen
 simp only [hL]
 congr 2
 by_cases e : z = x
 ·subst e; rw [WideAt.sameKey_self (key_wf hwx)]; simp
 ·rw [Maps.sameKey_ne (by simpa using e)]; simp [e]
end
end Go.Proofs.YtbimcogdbafjpaaGreat
namespace Go.Proofs.YtbimcogdbafjpaaGreat
open Go.Maps Go.ChangeMaps Go.MapKept Go.WideElems
section
variable {P : Program} {k t : TypeId} {w : World} {b n : Nat} {M : Int → Option Int}
theorem entry_store_at {es : Array MapEntry} {clock j : Nat} {e0 : MapEntry} (hb : w.heap[b]? = some (.map es clock)) (hn : (es.toList.map (·.born)).Nodup) (hj : es.toList[j]? = some e0) (val : Value) :
  (Instr.entryStore t (.map (some b)) (goInt e0.born) val).run P w = .ok () (setBlock w b (.map (es.modify j fun e => { e with val := val }) clock)) := by
 have hidx : es.findIdx? (fun e => ((e.born : Nat) : Int) == ((e0.born : Nat) : Int)) = some j := by
  rw [findIdx_arr]; exact findIdx_born hn hj
 simp [Instr.entryStore, MapKept.run_getObj_map hb, asInt, asIntOf, goInt, hidx, MapKept.run_setObj_map _ hb, Result.andThen, setBlock]
theorem imap_entry (h : IMap P k w b n M) (hk : P.underlying k = some (.int .i64)) (ht : P.underlying t = some (.map k k)) (hz : ∀ u : World, (zeroValue k).run P u = .ok (.int .i64 0) u) (hn : n < maxLen) {y : Int} (hw : (Lit.int .i64 y).wf = true) :
  ∃ (v0 : Value) (st : Nat) (es1 : Array MapEntry) (clock1 : Nat), (Instr.mapEntry t (.map (some b)) (.int .i64 y)).run P w = .ok (.tuple #[v0, goInt st]) (setBlock w b (.map es1 clock1)) ∧
   ∀ (w2 : World) (c : Int), (Lit.int .i64 c).wf = true → w2.heap[b]? = some (.map es1 clock1) → ∃ es' clock', (Instr.entryStore t (.map (some b)) (goInt st) (.int .i64 c)).run P w2 = .ok () (setBlock w2 b (.map es' clock')) ∧
    IMap P k (setBlock w2 b (.map es' clock')) b (n + 1) (fun z => if z = y then some c else M z) := by
 have K := int_keyed hk
 obtain ⟨D, ho, hT⟩ := h
 have hup : ∀ c : Int, (Lit.int .i64 c).wf = true → ∃ w', (Instr.mapUpdate t (.map (some b)) (.int .i64 y) (.int .i64 c)).run P w = .ok () w' ∧ IMap P k w' b (n + 1) (fun z => if z = y then some c else M z) := fun c hc => by
  obtain ⟨w', h1, h2, _⟩ := ho.update K ht hn (keyOf_int_mk hk hw) (plainElem_int hk hc)
  exact ⟨w', h1, _, h2, hT.put hw c⟩
 have hmove : ∀ (w2 : World) (c : Int) (es' : Array MapEntry) (clock' : Nat) (e2 : Array MapEntry) (c2 : Nat), (Lit.int .i64 c).wf = true → w2.heap[b]? = some (.map e2 c2) →
   (Instr.mapUpdate t (.map (some b)) (.int .i64 y) (.int .i64 c)).run P w = .ok () (setBlock w b (.map es' clock')) → IMap P k (setBlock w2 b (.map es' clock')) b (n + 1) (fun z => if z = y then some c else M z) := by
  intro w2 c es' clock' e2 c2 hc h2 hrun
  obtain ⟨w', h3, h4⟩ := hup c hc
  rw [hrun] at h3
  injection h3 with _ h5
  rw [← h5] at h4
  obtain ⟨es, clock, hb, _⟩ := ho
  exact h4.block ((heap_setBlock_same h2 _).trans (heap_setBlock_same hb _).symm)
 obtain ⟨es, clock, hb, F, _, _⟩ := ho
 obtain ⟨s1, s2, _⟩ := F.stamped
 have hkey := keyOf_int_mk (k := k) hk hw
 rcases K.find w hkey es.toList F.keys with ⟨h1, h2⟩ | ⟨j, e0, h1, h2, h3⟩
 ·have hlast : (es.push ⟨.int .i64 y, .int .i64 0, clock⟩).toList[es.size]? = some ⟨.int .i64 y, .int .i64 0, clock⟩ := by simp
  have hnd : ((es.push ⟨.int .i64 y, .int .i64 0, clock⟩).toList.map (·.born)).Nodup := by
   rw [Array.toList_push, List.map_append]
   refine List.nodup_append.2 ⟨s2, by simp, fun a ha c hc e => ?_⟩
   obtain ⟨x, hx, rfl⟩ := List.mem_map.1 ha
   have := s1 x hx
   simp at hc; omega
  refine ⟨.int .i64 0, clock, _, clock + 1, ?_, fun w2 c hc hw2 => ⟨_, _, entry_store_at hw2 hnd hlast _, hmove w2 c _ _ _ _ hc hw2 ?_⟩⟩
  ·simp [Instr.mapEntry, run_underlying ht, MapKept.run_getObj_map hb, K.check w false hkey, h1, hz, MapKept.run_setObj_map _ hb, Result.andThen, setBlock]
  ·have hmod : (es.push ⟨.int .i64 y, .int .i64 0, clock⟩).modify es.size (fun e => { e with val := .int .i64 c }) = es.push ⟨.int .i64 y, .int .i64 c, clock⟩ := by
    apply Array.ext'
    rw [Array.toList_modify, Array.toList_push, Array.toList_push, ← Array.length_toList, modify_last]
   rw [hmod]
   simp [Instr.mapUpdate, run_underlying ht, MapKept.run_getObj_map hb, K.check w false hkey, h1, MapKept.run_setObj_map _ hb, Result.andThen, setBlock]
 ·have hj : es[j]? = some e0 := by simpa using h2
  have hsame : es.modify j (fun e => { e with key := .int .i64 y }) = es := by
   apply Array.ext'
   rw [Array.toList_modify, modify_eq_set _ _ _ _ h2, show ({ e0 with key := .int .i64 y } : MapEntry) = e0 by rw [← h3]]
   exact set_self _ _ _ h2
  refine ⟨e0.val, e0.born, es, clock, ?_, fun w2 c hc hw2 => ⟨_, _, entry_store_at hw2 s2 h2 _, hmove w2 c _ _ _ _ hc hw2 ?_⟩⟩
  ·simp [Instr.mapEntry, run_underlying ht, MapKept.run_getObj_map hb, K.check w false hkey, h1, hj, h3, K.stays w hkey, hsame, MapKept.run_setObj_map _ hb, Result.andThen, setBlock]
  ·have hmod : es.modify j (fun e => { e with val := .int .i64 c }) = es.modify j (fun e' => { e' with key := .int .i64 y, val := .int .i64 c }) := by
    apply Array.ext'
    rw [Array.toList_modify, Array.toList_modify, modify_eq_set _ _ _ _ h2, modify_eq_set _ _ _ _ h2, ← h3]
   rw [hmod]
   simp [Instr.mapUpdate, run_underlying ht, MapKept.run_getObj_map hb, K.check w false hkey, h1, hj, h3, K.stays w hkey, MapKept.run_setObj_map _ hb, Result.andThen, setBlock]
end
def Pend (P : Program) (k t : TypeId) (w : World) (b n : Nat) (M : Int → Option Int) (y : Int) (st : Nat) : Prop :=
 ∃ (es1 : Array MapEntry) (clock1 : Nat), w.heap[b]? = some (.map es1 clock1) ∧
  ∀ (w2 : World) (c : Int), (Lit.int .i64 c).wf = true → w2.heap[b]? = some (.map es1 clock1) → ∃ es' clock', (Instr.entryStore t (.map (some b)) (goInt st) (.int .i64 c)).run P w2 = .ok () (setBlock w2 b (.map es' clock')) ∧
   IMap P k (setBlock w2 b (.map es' clock')) b (n + 1) (fun z => if z = y then some c else M z)
section
variable {P : Program} {k t : TypeId} {w : World} {b n : Nat} {M : Int → Option Int} {ops : Array Oper} {rest : List Oper} {o : Oper} {a : Act} {Q : Exit → Act → World → Prop} {y : Int} {st : Nat}
theorem grown_setBlock (w : World) (b : Nat) (x : Obj) : w.grownBy (setBlock w b x) (some b) :=
 ⟨rfl, rfl, rfl, by simp [setBlock], fun i hi hne => by
  have : i ≠ b := fun e => hne (by rw [e])
  simp [setBlock, Ne.symm this]⟩
theorem wpList_ientry (hg : o.guard = none) (m x : Operand) (t : TypeId) (hop : o.op = Op.mapEntry t m x)
  (k : TypeId) (hk : P.underlying k = some (.int .i64)) (ht : P.underlying t = some (.map k k)) (hz : ∀ u : World, (zeroValue k).run P u = .ok (.int .i64 0) u) (b n : Nat) (M : Int → Option Int)
  (hm : a.eval m = .map (some b)) (hown : IMap P k w b n M) (hn : n < maxLen) (y : Int) (hx : a.eval x = .int .i64 y) (hw : (Lit.int .i64 y).wf = true)
  (hK : ∀ w' v0 st, Pend P k t w' b n M y st → w.grownBy w' (some b) → wpList P ops Q rest (a.put o.dst (.tuple #[v0, goInt st])) w') :
  wpList P ops Q (o :: rest) a w := by
 refine wpList_plain hg fun K' hK' => ?_
 have hlt := hown.lt
 obtain ⟨v0, st, es1, clock1, h1, h2⟩ := imap_entry hown hk ht hz hn hw
 unfold Oper.wp
 simp [execOp, hop, hm, hx, h1, Result.andThen]
 exact hK' _ _ (hK _ v0 st ⟨es1, clock1, by simp [setBlock, hlt], h2⟩ (grown_setBlock _ _ _))
theorem wpList_ientryStore (hg : o.guard = none) (m s x : Operand) (t : TypeId) (hop : o.op = Op.entryStore t m s x)
  (k : TypeId) (b n : Nat) (M : Int → Option Int) (y : Int) (st : Nat) (c : Int)
  (hm : a.eval m = .map (some b)) (hs : a.eval s = goInt st) (hx : a.eval x = .int .i64 c) (hp : Pend P k t w b n M y st) (hc : (Lit.int .i64 c).wf = true)
  (hK : ∀ w', IMap P k w' b (n + 1) (fun z => if z = y then some c else M z) → w.grownBy w' (some b) → wpList P ops Q rest (a.put o.dst undef) w') :
  wpList P ops Q (o :: rest) a w := by
 refine wpList_plain hg fun K' hK' => ?_
 obtain ⟨es1, clock1, h1, h2⟩ := hp
 obtain ⟨es', clock', h3, h4⟩ := h2 w c hc h1
 unfold Oper.wp
 simp [execOp, hop, hm, hs, hx, h3, Result.andThen]
 exact hK' _ _ (hK _ h4 (grown_setBlock _ _ _))
end
end Go.Proofs.YtbimcogdbafjpaaGreat
namespace Go.Proofs.YtbimcogdbafjpaaGreat
open Go.RowKit Go.Maps
structure Tri where
 p : Nat
 s : Nat
 e : Nat
def Tri.list (T : Tri) : List Nat := [T.p, T.s, T.e]
structure MapsAt (w : World) (T : Tri) (n lim : Nat) (M E : Int → Option Int) : Prop where
 head : w.heap[T.p]? = some (.cells #[.map (some T.s), .map (some T.e), .int .i64 (lim : Int)] 293 (0, 0))
 byS : IMap Tryz.prog 3 w T.s n M
 byE : IMap Tryz.prog 3 w T.e n E
 ne1 : T.p ≠ T.s
 ne2 : T.p ≠ T.e
 ne3 : T.s ≠ T.e
theorem MapsAt.row {w : World} {T : Tri} {n lim : Nat} {M E : Int → Option Int} (h : MapsAt w T n lim M E) : RowAt w T.p 293 [.map (some T.s), .map (some T.e), .int .i64 (lim : Int)] := ⟨_, h.head, [], rfl⟩
theorem MapsAt.keep {w w' : World} {T : Tri} {n lim : Nat} {M E : Int → Option Int} (h : MapsAt w T n lim M E) (hk : ∀ k ∈ T.list, w'.heap[k]? = w.heap[k]?) : MapsAt w' T n lim M E := by
 have h1 := hk T.p (by simp [Tri.list])
 have h2 := hk T.s (by simp [Tri.list])
 have h3 := hk T.e (by simp [Tri.list])
 exact ⟨h1.trans h.head, h.byS.block h2, h.byE.block h3, h.ne1, h.ne2, h.ne3⟩
theorem MapsAt.mem {w : World} {T : Tri} {n lim : Nat} {M E : Int → Option Int} (h : MapsAt w T n lim M E) : ∀ k ∈ T.list, k < w.heap.size := by
 have h1 := h.row.lt
 have h2 := h.byS.lt
 have h3 := h.byE.lt
 simp only [Tri.list, List.mem_cons, List.not_mem_nil, or_false, forall_eq_or_imp, forall_eq]
 exact ⟨h1, h2, h3⟩
theorem MapsAt.below {w w' : World} {T : Tri} {n lim : Nat} {M E : Int → Option Int} (h : MapsAt w T n lim M E) (hb : Below w.heap.size w w') : MapsAt w' T n lim M E := h.keep (fun k hk => hb.block k (h.mem k hk))
theorem MapsAt.mono {w : World} {T : Tri} {n m lim : Nat} {M E : Int → Option Int} (h : MapsAt w T n lim M E) (hn : n ≤ m) : MapsAt w T m lim M E := ⟨h.head, h.byS.mono hn, h.byE.mono hn, h.ne1, h.ne2, h.ne3⟩
def IxAt (w : World) (T : Tri) (n : Nat) (l : List Bool) : Prop := ∃ M E, MapsAt w T n l.length M E ∧ MOf l M ∧ EOf l E
theorem IxAt.below {w w' : World} {T : Tri} {n : Nat} {l : List Bool} (h : IxAt w T n l) (hb : Below w.heap.size w w') : IxAt w' T n l := by
 obtain ⟨M, E, h1, h2⟩ := h; exact ⟨M, E, h1.below hb, h2⟩
theorem IxAt.keep {w w' : World} {T : Tri} {n : Nat} {l : List Bool} (h : IxAt w T n l) (hk : ∀ k ∈ T.list, w'.heap[k]? = w.heap[k]?) : IxAt w' T n l := by
 obtain ⟨M, E, h1, h2⟩ := h; exact ⟨M, E, h1.keep hk, h2⟩
theorem IxAt.mem {w : World} {T : Tri} {n : Nat} {l : List Bool} (h : IxAt w T n l) : ∀ k ∈ T.list, k < w.heap.size := by
 obtain ⟨M, E, h1, h2⟩ := h; exact h1.mem
theorem MOf.bounds {l : List Bool} {M : Int → Option Int} (h : MOf l M) {s c : Int} (hm : M s = some c) : 0 ≤ s ∧ 1 ≤ c ∧ s + c ≤ l.length := by
 obtain ⟨h1, h2, h3⟩ := (h s c).1 hm
 have := runEnds h3
 have := h3.1
 omega
def hasB (l : List Bool) (b : Int) : Bool := decide (0 ≤ b) && fb l b.toNat
theorem hasB_hit {l : List Bool} {M : Int → Option Int} (h : MOf l M) {s c b : Int} (hm : M s = some c) (h1 : s ≤ b) (h2 : b < s + c) : hasB l b = true := by
 obtain ⟨h3, h4, h5⟩ := (h s c).1 hm
 have := h5.2.1 b.toNat (by omega) (by omega)
 unfold hasB
 rw [this]
 simp; omega
theorem hasB_miss {l : List Bool} {M : Int → Option Int} (h : MOf l M) {b : Int} (hn : ∀ s c, M s = some c → ¬ (s ≤ b ∧ b < s + c)) : hasB l b = false := by
 unfold hasB
 by_cases hb : 0 ≤ b
 ·cases hf : fb l b.toNat with
  | false => simp
  | true =>
   obtain ⟨s, n, h1, h2, h3⟩ := has_run (f := fb l) (L := l.length) (fun x hx => fb_far l x hx) hf
   exact absurd ⟨by omega, by omega⟩ (hn s n ((h s n).2 ⟨by omega, by omega, by simpa using h1⟩))
 ·simp [hb]
theorem grown_one {w w' : World} {r B : Nat} (h : w.grownBy w' (some r)) (hr : B ≤ r) (hB : B ≤ w.heap.size) : Below B w w' :=
 ⟨h.os, h.tape, h.output, h.size, fun k hk => h.block k (by omega) (by simp; omega)⟩
theorem grown_touch {w w' : World} {r : Nat} {L : List Nat} (h : w.grownBy w' (some r)) (hr : r ∈ L) : Touch L w w' :=
 ⟨h.os, h.tape, h.output, h.size, fun k hk hn => h.block k hk (by simp; intro e; exact hn (by rw [e]; exact hr))⟩
theorem grown_none {w w' : World} (h : w.grownBy w' none) : Below w.heap.size w w' :=
 ⟨h.os, h.tape, h.output, h.size, fun k hk => h.block k hk (by simp)⟩
set_option maxHeartbeats 1000000 in
theorem has_any {w : World} {T : Tri} {n : Nat} {l : List Bool} (h : IxAt w T n l) (hl : l.length ≤ 1000000000000) (b : Int) :
  Calls Tryz.prog 215 #[.pointer (some ⟨T.p, 0, none⟩), .int .i64 b] w fun e w' => e = .returned (.bool (hasB l b)) ∧ Below w.heap.size w w' := by
 obtain ⟨M, E, hA, hMO, _⟩ := h
 have e0 : w.cell? ⟨T.p, 0, none⟩ = some (.map (some T.s)) := hA.row.cell rfl
 have HS := LH hA.byS
 have HMO := LH hMO
 have HL := LH hl
 clear hA hMO hl
 go_enter Tryz.func215, Tryz.ntmps215
 go_wp2_with (at_range; refine wpList_irange rfl _ 260 rfl 3 Tryz.underlying3 Tryz.underlying260 T.s n M rfl HS.out ?_; intro w0 cnt0 hr0 hg0 hs0)
 have HR0 := LH hr0
 have HB0 := LH (grown_none hg0)
 clear hr0 hg0 hs0
 go_frame
 go_loopw [5] (fun _ wr => ∃ (L : Int → Bool) (cnt : Nat), IRange Tryz.prog 3 wr T.s w.heap.size n M L cnt ∧ Below w.heap.size w wr ∧ ∀ s c, M s = some c → L s = false → ¬ (s ≤ b ∧ b < s + c)) (fun _ wr => wr.rangeLeft T.s w.heap.size)
 case atStart => exact ⟨_, _, HR0.out, HB0.out, fun s c h1 h2 => by rw [h1] at h2; cases h2⟩
 case round =>
  obtain ⟨L, cnt, hr, hb, hun⟩ := hrel
  have HR := LH hr
  have HB := LH hb
  have HU := LH hun
  clear hr hb hun
  go_wp2_with (at_next; refine wpList_inext rfl _ rfl 3 Tryz.underlying3 T.s w.heap.size n M _ _ rfl HR.out ?_ ?_)
  ·intro h0
   have hres : hasB l b = false := hasB_miss HMO.out (fun s c hm => HU.out s c hm (h0 s))
   clear h0
   go_wp2_with fail
   go_ret
   rw [hres]
   exact ⟨rfl, HB.out⟩
  ·intro x c w1 cnt1 hwx hwc hL hMx hr1 hlt hg1 hs1 hen
   obtain ⟨g1, g2, g3⟩ := HMO.out.bounds hMx
   have g4 := HL.out
   have HR1 := LH hr1
   have HB1 : Hid (Below w.heap.size w w1) := LH (HB.out.trans (grown_one hg1 (Nat.le_refl _) HB.out.size))
   have HMx := LH hMx
   have HLt := LH hlt
   clear hL hMx hr1 hlt hg1 hs1 hwx hwc
   by_cases hit : x ≤ b ∧ b < x + c
   ·obtain ⟨h1, h2⟩ := hit
    have hres : hasB l b = true := hasB_hit HMO.out HMx.out h1 h2
    have HRes := LH hres
    clear hres
    go_wp2_with fail
    go_ret
    rw [HRes.out]
    exact ⟨rfl, HB1.out⟩
   ·have hit' : b < x ∨ (x ≤ b ∧ x + c ≤ b) := by omega
    have HU1 : Hid (∀ s d, M s = some d → (L s && !decide (s = x)) = false → ¬ (s ≤ b ∧ b < s + d)) := LH (by
     intro s d hm hls
     by_cases e : s = x
     ·subst e
      rw [HMx.out] at hm
      cases hm
      exact hit
     ·simp [e] at hls
      exact HU.out s d hm hls)
    clear hit
    rcases hit' with h1 | ⟨h1, h2⟩
    all_goals
     go_wp2_with fail
     go_roundw
     case rel => exact ⟨_, _, HR1.out, HB1.out, HU1.out⟩
     case measure => rw [HR1.out.left_eq, HR.out.left_eq]; exact HLt.out
def mdel (M : Int → Option Int) (y : Int) : Int → Option Int := fun z => if z = y then none else M z
def mput (M : Int → Option Int) (y c : Int) : Int → Option Int := fun z => if z = y then some c else M z
theorem i64wf {x : Int} (h1 : -9223372036854775808 ≤ x) (h2 : x < 9223372036854775808) : (Lit.int .i64 x).wf = true := by
 simp [Lit.wf, IntKind.min, IntKind.max, IntKind.bits, IntKind.signed]
 omega
set_option maxHeartbeats 1000000 in
theorem drop_any {w : World} {T : Tri} {n lim : Nat} {M E : Int → Option Int} (h : MapsAt w T n lim M E) {s c : Int} (hm : M s = some c) (h1 : 0 ≤ s) (h2 : 0 ≤ c) (h3 : s + c ≤ 1000000000000) :
  Calls Tryz.prog 216 #[.pointer (some ⟨T.p, 0, none⟩), .int .i64 s] w fun e w' => e = .returned (.tuple #[]) ∧ MapsAt w' T n lim (mdel M s) (mdel E (s + c)) ∧ Touch [T.s, T.e] w w' := by
 have e0 : w.cell? ⟨T.p, 0, none⟩ = some (.map (some T.s)) := h.row.cell rfl
 have e1 : w.cell? ⟨T.p, 1, none⟩ = some (.map (some T.e)) := h.row.cell rfl
 have hnp : T.p ∉ [T.s, T.e] := by have := h.ne1; have := h.ne2; simp; omega
 have r0 := fun x => near_cell (L := [T.s, T.e]) e0 hnp x
 have r1 := fun x => near_cell (L := [T.s, T.e]) e1 hnp x
 have HM := LH hm
 have HA := LH h
 have HNp := LH hnp
 have HN3 := LH h.ne3
 have HW := LH (i64wf (x := s) (by omega) (by omega))
 have HW2 := LH (i64wf (x := s + c) (by omega) (by omega))
 clear hm h e0 e1 hnp
 go_enter Tryz.func216, Tryz.ntmps216
 go_wp2_with fail
 have HC0 : ∃ x : Near [T.s, T.e] w, w.drew = x.val := near_of (Touch.ofBelow (later_below (later_drew w)))
 refine wp_region_seg (C := fun w' => ∃ x : Near [T.s, T.e] w, w' = x.val) [.fl [0, 1, 2, 3, 4, 5, 6, 7, 8, 9], .sq [10] true, .fl [11], .sq [12] false] (by kernel_rfl) (by kernel_rfl) (by intro c a d v w h; cases d <;> exact h) ?_
 simp only [segs, picks, List.getElem?_cons_succ, List.getElem?_cons_zero]
 refine wpSeg_fl HC0 ?_
 repeat (first | go_big_quiet_step (fail) | quiet_step (fail))
 refine wpQuiet_nil ?_
 have HA0 := LH (HA.out.below (later_below (later_drew w)))
 have HT0 := LH (Touch.ofBelow (L := [T.s, T.e]) (later_below (later_drew w)))
 generalize w.drew = w0 at *
 refine wpSeg_sq (fun K hK => ?_)
 go_wp2_with (refine wpList_ilook rfl _ _ 260 rfl 3 Tryz.underlying3 Tryz.underlying260 (by kernel_rfl) T.s n M rfl HA0.out.byS s rfl HW.out ?_; rw [HM.out, Option.getD_some])
 go_wp2_with fail
 refine hK _ _ (fun _ => HC0) ?_
 clear hK K
 refine wpSeg_fl HC0 ?_
 repeat (first | go_big_quiet_step (fail) | quiet_step (fail))
 refine wpQuiet_nil ?_
 refine wpSeg_last ?_
 go_wp2_with (first | (refine wpList_idelete rfl _ _ 260 3 rfl Tryz.underlying3 Tryz.underlying260 T.e n E rfl HA0.out.byE (s + c) rfl HW2.out ?_; intro w2 hE2 hg2; have HE2 := LH hE2; have HG2 := LH hg2; have HT2 : Hid (Touch [T.s, T.e] w w2) := LH (HT0.out.trans (grown_touch hg2 (by simp))); have HS2 := LH (HA0.out.byS.kept hg2 (by simp; exact HN3.out)); have e0 : w2.cell? ⟨T.p, 0, none⟩ = some (.map (some T.s)) := cell_of_row _ _ 0 _ _ _ ((HT2.out.block T.p (HA.out.row.lt) HNp.out).trans HA.out.head); clear hE2 hg2 HC0 r0 r1) | (refine wpList_idelete rfl _ _ 260 3 rfl Tryz.underlying3 Tryz.underlying260 T.s n M rfl HS2.out s rfl HW.out ?_; intro w3 hS3 hg3; have HS3 := LH hS3; have HG3 := LH hg3; clear hS3 hg3))
 go_end0
 have ht : Touch [T.s] w2 w3 := grown_touch HG3.out (by simp)
 refine ⟨rfl, ⟨?_, HS3.out, HE2.out.kept HG3.out (by simp; exact fun e => HN3.out e.symm), HA.out.ne1, HA.out.ne2, HA.out.ne3⟩, HT2.out.trans (grown_touch HG3.out (by simp))⟩
 exact (ht.block T.p (Nat.lt_of_lt_of_le HA.out.row.lt HT2.out.size) (by have := HNp.out; simp at this ⊢; exact this.1)).trans ((HT2.out.block T.p (HA.out.row.lt) HNp.out).trans HA.out.head)
set_option maxHeartbeats 1000000 in
theorem add_any {w : World} {T : Tri} {n lim : Nat} {M E : Int → Option Int} (h : MapsAt w T n lim M E) (hn : n < 1000000000000) {s c : Int} (h1 : 0 ≤ s) (h2 : 0 ≤ c) (h3 : s + c ≤ 1000000000000) :
  Calls Tryz.prog 217 #[.pointer (some ⟨T.p, 0, none⟩), .int .i64 s, .int .i64 c] w fun e w' => e = .returned (.tuple #[]) ∧ MapsAt w' T (n + 1) lim (mput M s c) (mput E (s + c) s) ∧ Touch [T.s, T.e] w w' := by
 have e0 : w.cell? ⟨T.p, 0, none⟩ = some (.map (some T.s)) := h.row.cell rfl
 have e1 : w.cell? ⟨T.p, 1, none⟩ = some (.map (some T.e)) := h.row.cell rfl
 have hnp : T.p ∉ [T.s, T.e] := by have := h.ne1; have := h.ne2; simp; omega
 have r0 := fun x => near_cell (L := [T.s, T.e]) e0 hnp x
 have r1 := fun x => near_cell (L := [T.s, T.e]) e1 hnp x
 have HA := LH h
 have HNp := LH hnp
 have HN3 := LH h.ne3
 have HW := LH (i64wf (x := s) (by omega) (by omega))
 have HWc := LH (i64wf (x := c) (by omega) (by omega))
 have HW2 := LH (i64wf (x := s + c) (by omega) (by omega))
 have HNm : Hid (n < maxLen) := LH (by unfold maxLen; omega)
 clear h e0 e1 hnp
 go_enter Tryz.func217, Tryz.ntmps217
 go_wp2_with fail
 have HC0 : ∃ x : Near [T.s, T.e] w, w.drew = x.val := near_of (Touch.ofBelow (later_below (later_drew w)))
 refine wp_region_seg (C := fun w' => ∃ x : Near [T.s, T.e] w, w' = x.val) [.fl [0, 1, 2, 3, 4, 5, 6, 7, 8, 9, 10, 11, 12, 13], .sq [14] true, .fl [15], .sq [16] true, .sq [17] true, .fl [18], .sq [19] false] (by kernel_rfl) (by kernel_rfl) (by intro c a d v w h; cases d <;> exact h) ?_
 simp only [segs, picks, List.getElem?_cons_succ, List.getElem?_cons_zero]
 refine wpSeg_fl HC0 ?_
 repeat (first | go_big_quiet_step (fail) | quiet_step (fail))
 refine wpQuiet_nil ?_
 have HA0 := LH (HA.out.below (later_below (later_drew w)))
 have HT0 := LH (Touch.ofBelow (L := [T.s, T.e]) (later_below (later_drew w)))
 generalize w.drew = w0 at *
 refine wpSeg_sq (fun K hK => ?_)
 go_wp2_with (refine wpList_ientry rfl _ _ 260 rfl 3 Tryz.underlying3 Tryz.underlying260 (fun _ => by kernel_rfl) T.s n M rfl HA0.out.byS HNm.out s rfl HW.out ?_; intro w1 v1 st1 hp1 hg1; have HP1 := LH hp1; have HT1 : Hid (Touch [T.s, T.e] w w1) := LH (HT0.out.trans (grown_touch hg1 (by simp))); have HE1 := LH (HA0.out.byE.kept hg1 (by simp; exact fun e => HN3.out e.symm)); have hC1 := near_of HT1.out; clear hp1 hg1; unfold goInt)
 go_wp2_with fail
 refine hK _ _ (fun _ => hC1) ?_
 clear hK K
 refine wpSeg_fl hC1 ?_
 repeat (first | go_big_quiet_step (fail) | quiet_step (fail))
 refine wpQuiet_nil ?_
 refine wpSeg_sq (fun K hK => ?_)
 go_wp2_with (refine wpList_ientryStore rfl _ _ _ 260 rfl 3 T.s n M s st1 c rfl rfl rfl HP1.out HWc.out ?_; intro w2 hs2 hg2; have HS2 := LH hs2; have HT2 : Hid (Touch [T.s, T.e] w w2) := LH (HT1.out.trans (grown_touch hg2 (by simp))); have HE2 := LH (HE1.out.kept hg2 (by simp; exact fun e => HN3.out e.symm)); have hC2 := near_of HT2.out; clear hs2 hg2 hC1)
 go_wp2_with fail
 refine hK _ _ (fun _ => hC2) ?_
 clear hK K
 refine wpSeg_sq (fun K hK => ?_)
 go_wp2_with (refine wpList_ientry rfl _ _ 260 rfl 3 Tryz.underlying3 Tryz.underlying260 (fun _ => by kernel_rfl) T.e n E rfl HE2.out HNm.out (s + c) rfl HW2.out ?_; intro w3 v3 st3 hp3 hg3; have HP3 := LH hp3; have HT3 : Hid (Touch [T.s, T.e] w w3) := LH (HT2.out.trans (grown_touch hg3 (by simp))); have HS3 := LH (HS2.out.kept hg3 (by simp; exact HN3.out)); have hC3 := near_of HT3.out; clear hp3 hg3; unfold goInt)
 go_wp2_with fail
 refine hK _ _ (fun _ => hC3) ?_
 clear hK K
 refine wpSeg_fl hC3 ?_
 repeat (first | go_big_quiet_step (fail) | quiet_step (fail))
 refine wpQuiet_nil ?_
 refine wpSeg_last ?_
 go_wp2_with (refine wpList_ientryStore rfl _ _ _ 260 rfl 3 T.e n E (s + c) st3 s rfl rfl rfl HP3.out HW.out ?_; intro w4 he4 hg4; have HE4 := LH he4; have HT4 : Hid (Touch [T.s, T.e] w w4) := LH (HT3.out.trans (grown_touch hg4 (by simp))); have HS4 := LH (HS3.out.kept hg4 (by simp; exact HN3.out)); clear he4 hg4)
 go_end0
 exact ⟨rfl, ⟨(HT4.out.block T.p (HA.out.row.lt) HNp.out).trans HA.out.head, HS4.out, HE4.out, HA.out.ne1, HA.out.ne2, HA.out.ne3⟩, HT4.out⟩
theorem made_ix (w : World) (m : Nat) : IxAt (((w.alloc (.map #[] 0)).alloc (.map #[] 0)).alloc (.cells #[.map (some w.heap.size), .map (some (w.heap.size + 1)), .int .i64 (m : Int)] 293)) ⟨w.heap.size + 1 + 1, w.heap.size, w.heap.size + 1⟩ 0 (List.replicate m false) ∧
  Below w.heap.size w (((w.alloc (.map #[] 0)).alloc (.map #[] 0)).alloc (.cells #[.map (some w.heap.size), .map (some (w.heap.size + 1)), .int .i64 (m : Int)] 293)) := by
 have hfb : ∀ b, fb (List.replicate m false) b = false := fun b => by unfold fb; simp [List.getD_eq_getElem?_getD, List.getElem?_replicate]; split <;> rfl
 refine ⟨⟨fun _ => none, fun _ => none, ⟨?_, ((IMap.made w Tryz.prog 3).alloc _).alloc _, ?_, by simp; omega, by simp, by simp⟩, mof_nil hfb, eof_nil hfb⟩, ((Below.refl _ _).alloc (Nat.le_refl _) _).alloc (by simp) _ |>.alloc (by simp; omega) _⟩
 ·have := heap_alloc_new ((w.alloc (.map #[] 0)).alloc (.map #[] 0)) (.cells #[.map (some w.heap.size), .map (some (w.heap.size + 1)), .int .i64 (m : Int)] 293)
  rw [List.length_replicate]
  simpa using this
 ·have := (IMap.made (w.alloc (.map #[] 0)) Tryz.prog 3).alloc (.cells #[.map (some w.heap.size), .map (some (w.heap.size + 1)), .int .i64 (m : Int)] 293)
  simpa using this
set_option maxHeartbeats 1000000 in
theorem inew_any (k : Int) (w : World) (hk : k ≤ 1000000000000) :
  Calls Tryz.prog 170 #[.int .i64 k] w fun e w' => ∃ T : Tri, e = .returned (.pointer (some ⟨T.p, 0, none⟩)) ∧ (∀ b ∈ T.list, w.heap.size ≤ b) ∧ IxAt w' T 0 (List.replicate k.toNat false) ∧ Below w.heap.size w w' := by
 have hmm := @run_makeMap Tryz.prog
 by_cases h0 : k < 0
 ·have h1 := LH (made_ix w 0)
  have h2 : Hid (k.toNat = 0) := LH (by omega)
  have hmx : max k 0 = 0 := by omega
  go_enter Tryz.func170, Tryz.ntmps170
  go_wp2_with fail
  go_ret
  refine ⟨⟨w.heap.size + 1 + 1, w.heap.size, w.heap.size + 1⟩, rfl, by simp [Tri.list]; omega, ?_, h1.out.2⟩
  rw [h2.out]; exact h1.out.1
 ·obtain ⟨m, rfl⟩ := Int.eq_ofNat_of_zero_le (show 0 ≤ k by omega)
  have h1 := LH (made_ix w m)
  have hmx : max (m : Int) 0 = (m : Int) := by omega
  go_enter Tryz.func170, Tryz.ntmps170
  go_wp2_with fail
  go_ret
  refine ⟨⟨w.heap.size + 1 + 1, w.heap.size, w.heap.size + 1⟩, rfl, by simp [Tri.list]; omega, ?_, h1.out.2⟩
  exact h1.out.1
structure Part (l : List Bool) (M : Int → Option Int) (L : Int → Bool) (done rest : List Sp) : Prop where
 perm : (done ++ rest).Perm (runsOf l)
 left : ∀ s n : Nat, (s, n) ∈ rest ↔ L s = true ∧ M s = some (n : Int)
theorem Part.start {l : List Bool} {M : Int → Option Int} (h : MOf l M) : Part l M (fun x => (M x).isSome) [] (runsOf l) := by
 refine ⟨List.Perm.refl _, fun s n => ?_⟩
 rw [(runsOf_is l).mem]
 constructor
 ·intro hr
  have hm := (h (s : Int) (n : Int)).2 ⟨by omega, by omega, by simpa using hr⟩
  exact ⟨by rw [hm]; rfl, hm⟩
 ·rintro ⟨_, h1⟩
  simpa using ((h _ _).1 h1).2.2
theorem Part.step {l : List Bool} {M : Int → Option Int} {L : Int → Bool} {done rest : List Sp} (h : Part l M L done rest) (hM : MOf l M) {x c : Int} (hx : L x = true) (hm : M x = some c) :
  ∃ s k : Nat, x = s ∧ c = k ∧ (s, k) ∈ rest ∧ Part l M (fun z => L z && !decide (z = x)) (done ++ [(s, k)]) (rest.erase (s, k)) := by
 obtain ⟨h1, h2, h3⟩ := (hM _ _).1 hm
 obtain ⟨s, rfl⟩ := Int.eq_ofNat_of_zero_le h1
 obtain ⟨k, rfl⟩ := Int.eq_ofNat_of_zero_le h2
 have hin : (s, k) ∈ rest := (h.left s k).2 ⟨hx, hm⟩
 have hnd : rest.Nodup := by
  have := (h.perm.nodup_iff).2 (rising_nodup (runsOf_is l).rising)
  exact (List.nodup_append.1 this).2.1
 refine ⟨s, k, rfl, rfl, hin, ?_, fun a n => ?_⟩
 ·refine List.Perm.trans ?_ h.perm
  rw [List.append_assoc]
  exact List.Perm.append_left _ (List.perm_cons_erase hin).symm
 ·rw [hnd.mem_erase_iff, h.left]
  constructor
  ·rintro ⟨h4, h5, h6⟩
   refine ⟨?_, h6⟩
   rw [h5]
   by_cases e : (a : Int) = (s : Int)
   ·exfalso
    rw [e, hm] at h6
    have : a = s := by omega
    have : k = n := by injection h6 with h7; omega
    exact h4 (by subst this; simp; omega)
   ·simp [e]
  ·rintro ⟨h4, h5⟩
   simp at h4
   exact ⟨fun e => h4.2 (by cases e; rfl), h4.1, h5⟩
theorem Part.finish {l : List Bool} {M : Int → Option Int} {L : Int → Bool} {done rest : List Sp} (h : Part l M L done rest) (h0 : ∀ x, L x = false) : done.Perm (runsOf l) := by
 have : rest = [] := List.eq_nil_iff_forall_not_mem.2 fun x hx => by
  have := ((h.left x.1 x.2).1 hx).1
  rw [h0] at this; cases this
 have h1 := h.perm
 rw [this, List.append_nil] at h1
 exact h1
theorem give_end {l : List Bool} {M E M2 E2 : Int → Option Int} {a m s0 e0 : Nat} (hM : MOf l M) (hE : EOf l E) (hm : 1 ≤ m) (ha : a + m ≤ l.length) (h0 : anyFree l a m = false)
  (hs : s0 = a ∧ E a = none ∨ E a = some (s0 : Int)) (he : e0 = a + m ∧ M ((a : Int) + m) = none ∨ M ((a : Int) + m) = some ((e0 : Int) - (a + m)))
  (hM2 : ∀ s, s ≠ (s0 : Int) → M2 s = if s = (a : Int) + m then none else M s) (hE2 : ∀ e, e ≠ (e0 : Int) → E2 e = if e = (a : Int) then none else E e) :
  MOf (setTo l a true m) (mput M2 s0 ((e0 : Int) - s0)) ∧ EOf (setTo l a true m) (mput E2 e0 s0) ∧ s0 ≤ a ∧ a + m ≤ e0 ∧ e0 ≤ l.length := by
 have hfa : fb l a = false := anyFree_false h0 a (Nat.le_refl _) (by omega)
 have hS : s0 = a ∧ (∀ b, b + 1 = a → fb l b = false) ∨ s0 < a ∧ IsRun (fb l) s0 (a - s0) := by
  rcases hs with ⟨h1, h2⟩ | h1
  ·refine .inl ⟨h1, fun b hb => ?_⟩
   cases hf : fb l b with
   | false => rfl
   | true =>
    exfalso
    obtain ⟨s, n, hr, h3, h4⟩ := has_run (f := fb l) (L := l.length) (fun x hx => fb_far l x hx) hf
    have h5 : s + n = a := by
     rcases Nat.lt_or_ge a (s + n) with h6 | h6
     ·have := hr.2.1 a (by omega) h6; rw [hfa] at this; cases this
     ·omega
    have := (hE (a : Int) (s : Int)).2 ⟨by omega, by omega, by rw [show ((a : Int) - (s : Int)).toNat = n by omega]; exact hr⟩
    rw [h2] at this; cases this
  ·obtain ⟨h2, h3, h4⟩ := (hE _ _).1 h1
   have e : ((a : Int) - (s0 : Int)).toNat = a - s0 := by omega
   rw [e] at h4
   have := h4.1
   exact .inr ⟨by omega, h4⟩
 have hEE : e0 = a + m ∧ fb l (a + m) = false ∨ a + m < e0 ∧ IsRun (fb l) (a + m) (e0 - (a + m)) := by
  rcases he with ⟨h1, h2⟩ | h1
  ·refine .inl ⟨h1, ?_⟩
   cases hf : fb l (a + m) with
   | false => rfl
   | true =>
    exfalso
    obtain ⟨s, n, hr, h3, h4⟩ := has_run (f := fb l) (L := l.length) (fun x hx => fb_far l x hx) hf
    have h5 : s = a + m := by
     rcases Nat.lt_or_ge s (a + m) with h6 | h6
     ·have := hr.2.1 (a + m - 1) (by omega) (by omega); rw [anyFree_false h0 _ (by omega) (by omega)] at this; cases this
     ·omega
    have := (hM ((a : Int) + m) (n : Int)).2 ⟨by omega, by omega, by rw [show ((a : Int) + m).toNat = s by omega]; simpa using hr⟩
    rw [h2] at this; cases this
  ·obtain ⟨h2, h3, h4⟩ := (hM _ _).1 h1
   have e1 : ((a : Int) + (m : Int)).toNat = a + m := by omega
   have e2 : ((e0 : Int) - ((a : Int) + (m : Int))).toNat = e0 - (a + m) := by omega
   rw [e1, e2] at h4
   have := h4.1
   exact .inr ⟨by omega, h4⟩
 have hb1 : s0 ≤ a := by rcases hS with ⟨h, _⟩ | ⟨h, _⟩ <;> omega
 have hb2 : a + m ≤ e0 := by rcases hEE with ⟨h, _⟩ | ⟨h, _⟩ <;> omega
 have hb3 : e0 ≤ l.length := by
  rcases hEE with ⟨h, _⟩ | ⟨h, hr⟩
  ·omega
  ·have := runEnds hr; omega
 refine ⟨give_M hM hm ha h0 hS hEE (by simp [mput]) ?_ ?_, give_E hE hm ha h0 hS hEE (by simp [mput]) ?_ ?_, hb1, hb2, hb3⟩
 ·intro s h1 h2
  simp only [mput, if_neg h1]
  rw [hM2 s h1]
  rcases h2 with h2 | h2
  ·rw [if_pos h2]
  ·exfalso
   obtain ⟨h3, h4, h5⟩ := (hM _ _).1 h2
   have h6 := h5.1
   rcases hS with ⟨_, h7⟩ | ⟨h7, h8⟩
   ·have := h5.2.1 (a - 1) (by omega) (by omega); rw [h7 _ (by omega)] at this; cases this
   ·have := (h5.back h8 (by omega)).1; omega
 ·intro s h1 h2 h3
  simp only [mput, if_neg h1]
  rw [hM2 s h1, if_neg h2]
 ·intro e h1 h2
  simp only [mput, if_neg h1]
  rw [hE2 e h1]
  rcases h2 with h2 | h2
  ·rw [if_pos h2]
  ·exfalso
   obtain ⟨h3, h4, h5⟩ := (hE _ _).1 h2
   have h6 := h5.1
   have e1 : ((a : Int) + (m : Int)).toNat = a + m := by omega
   rw [e1] at h5
   rcases hEE with ⟨_, h7⟩ | ⟨h7, h8⟩
   ·have := h5.2.1 (a + m) (by omega) (by omega); rw [h7] at this; cases this
   ·have := h5.one h8; omega
 ·intro e h1 h2 h3
  simp only [mput, if_neg h1]
  rw [hE2 e h1, if_neg h2]
theorem IxAt.mono {w : World} {T : Tri} {n m : Nat} {l : List Bool} (h : IxAt w T n l) (hn : n ≤ m) : IxAt w T m l := by
 obtain ⟨M, E, h1, h2⟩ := h; exact ⟨M, E, h1.mono hn, h2⟩
theorem hasB_nat (l : List Bool) (b : Nat) : hasB l (b : Int) = fb l b := by simp [hasB]
theorem anyFree_next (l : List Bool) (a b : Nat) (h : a ≤ b) : anyFree l a (b + 1 - a) = (anyFree l a (b - a) || fb l b) := by
 rw [show b + 1 - a = (b - a) + 1 by omega, anyFree, show a + (b - a) = b by omega]
def GivePost (w : World) (T : Tri) (n : Nat) (l : List Bool) (a m : Int) : Ending → World → Prop := fun e w' =>
 e = .returned (.int .i64 (giveR l a m).2) ∧ IxAt w' T (n + 1) (giveR l a m).1 ∧ Touch [T.s, T.e] w w'
theorem giveR_arg {l : List Bool} {a m : Int} (h : a < 1 ∨ m < 1 ∨ (l.length : Int) ≤ a ∨ (l.length : Int) - a < m) : giveR l a m = (l, 1) := by
 unfold giveR; rw [if_pos h]
theorem giveR_twice {l : List Bool} {a m : Nat} (h : 1 ≤ a ∧ 1 ≤ m ∧ a + m ≤ l.length) (h0 : anyFree l a m = true) : giveR l a m = (l, 41) := by
 unfold giveR; rw [if_neg (by omega)]; simp [h0]
theorem giveR_ok {l : List Bool} {a m : Nat} (h : 1 ≤ a ∧ 1 ≤ m ∧ a + m ≤ l.length) (h0 : anyFree l a m = false) : giveR l a m = (setTo l a true m, 0) := by
 unfold giveR; rw [if_neg (by omega)]; simp [h0]
set_option maxHeartbeats 1000000 in
theorem igive_arg {w : World} {T : Tri} {n : Nat} {l : List Bool} (h : IxAt w T n l) (hl : l.length ≤ 1000000000000) (a m : Int) (hbad : a < 1 ∨ m < 1 ∨ (l.length : Int) ≤ a ∨ (l.length : Int) - a < m) :
  Calls Tryz.prog 171 #[.pointer (some ⟨T.p, 0, none⟩), .int .i64 a, .int .i64 m] w (GivePost w T n l a m) := by
 have hR := giveR_arg hbad
 have HP : Hid (GivePost w T n l a m (.returned (.int .i64 1)) w) := LH (by unfold GivePost; rw [hR]; exact ⟨rfl, h.mono (by omega), Touch.refl _ _⟩)
 obtain ⟨M, E, hA, _, _⟩ := h
 have e2 : w.cell? ⟨T.p, 2, none⟩ = some (.int .i64 (l.length : Int)) := hA.row.cell rfl
 have hcase : a < 1 ∨ (1 ≤ a ∧ m < 1) ∨ (1 ≤ a ∧ 1 ≤ m ∧ (l.length : Int) ≤ a) ∨ (1 ≤ a ∧ 1 ≤ m ∧ a < (l.length : Int) ∧ (l.length : Int) - a < m) := by omega
 clear hA hR hbad
 generalize GivePost w T n l a m = Post at *
 generalize l.length = len at *
 rcases hcase with h1 | ⟨h1, h2⟩ | ⟨h1, h2, h3⟩ | ⟨h1, h2, h3, h4⟩
 all_goals
  go_enter Tryz.func171, Tryz.ntmps171
  go_wp2_with fail
  exact HP.out
theorem MapsAt.cast {w : World} {T : Tri} {n lim : Nat} {M E M' E' : Int → Option Int} (h : MapsAt w T n lim M E) (h1 : M = M') (h2 : E = E') : MapsAt w T n lim M' E' := by
 subst h1; subst h2; exact h
theorem give_post {w w' : World} {T : Tri} {n : Nat} {l : List Bool} {a m s0 e0 : Nat} {M E M2 E2 : Int → Option Int} (hb : 1 ≤ a ∧ 1 ≤ m ∧ a + m ≤ l.length) (h0 : anyFree l a m = false) (hM : MOf l M) (hE : EOf l E)
  (hs : s0 = a ∧ E a = none ∨ E a = some (s0 : Int)) (he : e0 = a + m ∧ M ((a : Int) + m) = none ∨ M ((a : Int) + m) = some ((e0 : Int) - (a + m)))
  (hM2 : ∀ s, s ≠ (s0 : Int) → M2 s = if s = (a : Int) + m then none else M s) (hE2 : ∀ e, e ≠ (e0 : Int) → E2 e = if e = (a : Int) then none else E e)
  (hA : MapsAt w' T (n + 1) l.length (mput M2 s0 ((e0 : Int) - s0)) (mput E2 e0 s0)) (ht : Touch [T.s, T.e] w w') : GivePost w T n l a m (.returned (.int .i64 0)) w' := by
 obtain ⟨h1, h2, _⟩ := give_end hM hE hb.2.1 hb.2.2 h0 hs he hM2 hE2
 unfold GivePost
 rw [giveR_ok hb h0]
 exact ⟨rfl, ⟨_, _, by rw [setTo_length]; exact hA, h1, h2⟩, ht⟩
set_option maxHeartbeats 4000000 in
theorem igive_fit {w : World} {T : Tri} {n : Nat} {l : List Bool} (h : IxAt w T n l) (hl : l.length ≤ 1000000000000) (hn : n < 1000000000000) (a m : Nat) (hb : 1 ≤ a ∧ 1 ≤ m ∧ a + m ≤ l.length) :
  Calls Tryz.prog 171 #[.pointer (some ⟨T.p, 0, none⟩), .int .i64 (a : Int), .int .i64 (m : Int)] w (GivePost w T n l a m) := by
 have HI := LH h
 have HB := LH hb
 have HTw : Hid (anyFree l a m = true → ∀ w', Below w.heap.size w w' → GivePost w T n l a m (.returned (.int .i64 41)) w') := LH (fun hf w' hb' => by
  unfold GivePost; rw [giveR_twice hb hf]; exact ⟨rfl, (h.mono (by omega)).below hb', Touch.ofBelow hb'⟩)
 obtain ⟨M, E, hA, hM, hE⟩ := h
 have e2 : w.cell? ⟨T.p, 2, none⟩ = some (.int .i64 (l.length : Int)) := hA.row.cell rfl
 have HA := LH hA
 have HM := LH hM
 have HE := LH hE
 obtain ⟨g1, g2, g3⟩ := hb
 have HEnd : Hid (∀ (s0 e0 : Nat) (M2 E2 : Int → Option Int) (w' : World), anyFree l a m = false → (s0 = a ∧ E a = none ∨ E a = some (s0 : Int)) → (e0 = a + m ∧ M ((a : Int) + m) = none ∨ M ((a : Int) + m) = some ((e0 : Int) - (a + m))) →
   (∀ s, s ≠ (s0 : Int) → M2 s = if s = (a : Int) + m then none else M s) → (∀ e, e ≠ (e0 : Int) → E2 e = if e = (a : Int) then none else E e) →
   MapsAt w' T (n + 1) l.length (mput M2 s0 ((e0 : Int) - s0)) (mput E2 e0 s0) → Touch [T.s, T.e] w w' → GivePost w T n l a m (.returned (.int .i64 0)) w') :=
  LH (fun s0 e0 M2 E2 w' h0 hs he hM2 hE2 hA ht => give_post HB.out h0 hM hE hs he hM2 hE2 hA ht)
 clear hA hM hE
 generalize GivePost w T n l a m = Post at *
 obtain ⟨len, hlen⟩ : ∃ len, len = l.length := ⟨_, rfl⟩
 rw [← hlen] at g3 hl e2
 have HLen := LH hlen
 clear hlen
 have q1 : decide ((a : Int) < 1) = false := by simp; omega
 have q2 : decide ((m : Int) < 1) = false := by simp; omega
 have q3 : decide (len ≤ a) = false := by simp; omega
 have q4 : decide ((len : Int) - (a : Int) < (m : Int)) = false := by simp; omega
 go_enter Tryz.func171, Tryz.ntmps171
 go_wp2_with fail
 go_loopw [6, 7] (fun _ i wr => ∃ b : Nat, a ≤ b ∧ b ≤ a + m ∧ i = .int .i64 (b : Int) ∧ anyFree l a (b - a) = false ∧ Below w.heap.size w wr) (fun _ i _ => a + m - (intOf i).toNat)
 case atStart => exact ⟨a, Nat.le_refl _, by omega, rfl, by rw [Nat.sub_self]; rfl, Below.refl _ _⟩
 case round =>
  obtain ⟨b, hab, hbm, rfl, hfree, hbe⟩ := hrel
  have HF := LH hfree
  have HBe := LH hbe
  clear hfree hbe
  by_cases hlt : b < a + m
  ·have hlt' : (b : Int) < (a : Int) + (m : Int) := by omega
   cases hfb : fb l b with
   | true =>
    have hall : anyFree l a m = true := anyFree_one hab hlt hfb
    have HAll := LH hall
    have HHas : Hid (hasB l (b : Int) = true) := LH (by rw [hasB_nat]; exact hfb)
    clear hall hfb
    go_wp2_with fail
    refine (has_any (HI.out.below HBe.out) (by rw [← HLen.out]; exact hl) (b : Int)).mono ?_
    rintro e w1 ⟨rfl, hb1⟩
    rw [HHas.out]
    have HB1 := LH hb1
    clear hb1
    go_wp2_with fail
    exact HTw.out HAll.out _ (HBe.out.trans (HB1.out.mono HBe.out.size))
   | false =>
    have HN : Hid (anyFree l a (b + 1 - a) = false) := LH (by rw [anyFree_next l a b hab, HF.out, hfb]; rfl)
    have HHas : Hid (hasB l (b : Int) = false) := LH (by rw [hasB_nat]; exact hfb)
    clear hfb
    go_wp2_with fail
    refine (has_any (HI.out.below HBe.out) (by rw [← HLen.out]; exact hl) (b : Int)).mono ?_
    rintro e w1 ⟨rfl, hb1⟩
    rw [HHas.out]
    have HB1 := LH hb1
    clear hb1
    go_wp2_with fail
    go_roundw
    case rel =>
     exact ⟨b + 1, by omega, by omega, vint (by omega), HN.out, HBe.out.trans (HB1.out.mono HBe.out.size)⟩
    case measure => simp [intOf]; omega
  ·obtain rfl : b = a + m := by omega
   have HFr : Hid (anyFree l a m = false) := LH (by have := HF.out; rwa [show a + m - a = m by omega] at this)
   have HA1 := LH (HA.out.below HBe.out)
   have HT1 := LH (Touch.ofBelow (L := [T.s, T.e]) HBe.out)
   clear hlt hab hbm HF
   have f0 : wr.cell? ⟨T.p, 0, none⟩ = some (.map (some T.s)) := HA1.out.row.cell rfl
   have f1 : wr.cell? ⟨T.p, 1, none⟩ = some (.map (some T.e)) := HA1.out.row.cell rfl
   have hlt' : decide (((a + m : Nat) : Int) < (a : Int) + (m : Int)) = false := by simp
   have HWa := LH (i64wf (x := (a : Int)) (by omega) (by omega))
   have HWe := LH (i64wf (x := (a : Int) + (m : Int)) (by omega) (by omega))
   obtain ⟨ea, hea⟩ : ∃ ea, E (a : Int) = ea := ⟨_, rfl⟩
   obtain ⟨mb, hmb⟩ : ∃ mb, M ((a : Int) + m) = mb := ⟨_, rfl⟩
   have hbeh : mb = none ∨ ∃ e0 : Nat, mb = some ((e0 : Int) - ((a : Int) + (m : Int))) ∧ a + m < e0 ∧ e0 ≤ len := by
    cases mb with
    | none => exact .inl rfl
    | some c =>
     have h1 := HM.out.bounds hmb
     rw [← HLen.out] at h1
     exact .inr ⟨(c + ((a : Int) + m)).toNat, by congr 1; omega, by omega, by omega⟩
   have HMb := LH hmb
   clear hmb
   cases ea with
   | none =>
    have HEa := LH hea
    clear hea
    rcases hbeh with rfl | ⟨e0, rfl, h1, h2⟩
    ·go_wp2_with (first | (refine wpList_ilook_ok rfl _ _ 260 rfl 3 Tryz.underlying3 Tryz.underlying260 (by kernel_rfl) T.e n E rfl HA1.out.byE (a : Int) rfl HWa.out ?_; rw [HEa.out, Option.getD_none, Option.isSome_none]) | (refine wpList_ilook_ok rfl _ _ 260 rfl 3 Tryz.underlying3 Tryz.underlying260 (by kernel_rfl) T.s n M rfl HA1.out.byS ((a : Int) + (m : Int)) rfl HWe.out ?_; rw [HMb.out, Option.getD_none, Option.isSome_none]))
     refine (add_any HA1.out hn (s := (a : Int)) (c := (m : Int)) (by omega) (by omega) (by omega)).mono ?_
     rintro e w2 ⟨rfl, hA2, ht2⟩
     have HA2 := LH hA2
     have HT2 := LH ht2
     clear hA2 ht2
     go_wp2_with fail
     refine HEnd.out a (a + m) M E _ HFr.out (.inl ⟨rfl, HEa.out⟩) (.inl ⟨rfl, HMb.out⟩) (fun s _ => ?_) (fun e _ => ?_) ?_ (HT1.out.trans HT2.out)
     ·by_cases x : s = (a : Int) + m
      ·rw [if_pos x, x, HMb.out]
      ·rw [if_neg x]
     ·by_cases x : e = (a : Int)
      ·rw [if_pos x, x, HEa.out]
      ·rw [if_neg x]
     ·exact HA2.out.cast (by congr 1; omega) (by congr 1)
    ·go_wp2_with (first | (refine wpList_ilook_ok rfl _ _ 260 rfl 3 Tryz.underlying3 Tryz.underlying260 (by kernel_rfl) T.e n E rfl HA1.out.byE (a : Int) rfl HWa.out ?_; rw [HEa.out, Option.getD_none, Option.isSome_none]) | (refine wpList_ilook_ok rfl _ _ 260 rfl 3 Tryz.underlying3 Tryz.underlying260 (by kernel_rfl) T.s n M rfl HA1.out.byS ((a : Int) + (m : Int)) rfl HWe.out ?_; rw [HMb.out, Option.getD_some, Option.isSome_some]))
     refine (drop_any HA1.out HMb.out (by omega) (by omega) (by omega)).mono ?_
     rintro e w2 ⟨rfl, hA2, ht2⟩
     have HA2 := LH hA2
     have HT2 := LH ht2
     clear hA2 ht2
     go_wp2_with fail
     refine (add_any HA2.out hn (by omega) (by omega) (by omega)).mono ?_
     rintro e w3 ⟨rfl, hA3, ht3⟩
     have HA3 := LH hA3
     have HT3 := LH ht3
     clear hA3 ht3
     go_wp2_with fail
     refine HEnd.out a e0 (mdel M ((a : Int) + m)) (mdel E ((a : Int) + m + ((e0 : Int) - ((a : Int) + m)))) _ HFr.out (.inl ⟨rfl, HEa.out⟩) (.inr HMb.out) (fun s _ => rfl) (fun e he => ?_) ?_ (HT1.out.trans (HT2.out.trans HT3.out))
     ·unfold mdel
      rw [if_neg (by omega)]
      by_cases x : e = (a : Int)
      ·rw [if_pos x, x, HEa.out]
      ·rw [if_neg x]
     ·exact HA3.out.cast (by congr 1; omega) (by congr 1; omega)
   | some before =>
    obtain ⟨k1, k2, k3⟩ := (HE.out _ _).1 hea
    have k4 := k3.1
    obtain ⟨s0, rfl⟩ := Int.eq_ofNat_of_zero_le k1
    have HEa := LH hea
    have HMs : Hid (M (s0 : Int) = some ((a : Int) - (s0 : Int))) := LH ((HM.out _ _).2 ⟨by omega, by omega, k3⟩)
    have hsa : (s0 : Int) < (a : Int) := by omega
    clear hea k1 k2 k3 k4
    have HWs := LH (i64wf (x := (s0 : Int)) (by omega) (by omega))
    have HWe2 := LH (i64wf (x := (s0 : Int) + ((m : Int) + ((a : Int) - (s0 : Int)))) (by omega) (by omega))
    have HMb2 : Hid (mdel M s0 ((s0 : Int) + ((m : Int) + ((a : Int) - (s0 : Int)))) = mb) := LH (by
     rw [show (s0 : Int) + ((m : Int) + ((a : Int) - (s0 : Int))) = (a : Int) + m by omega]
     unfold mdel; rw [if_neg (by omega)]; exact HMb.out)
    go_wp2_with (first | (refine wpList_ilook_ok rfl _ _ 260 rfl 3 Tryz.underlying3 Tryz.underlying260 (by kernel_rfl) T.e n E rfl HA1.out.byE (a : Int) rfl HWa.out ?_; rw [HEa.out, Option.getD_some, Option.isSome_some]) | (refine wpList_ilook rfl _ _ 260 rfl 3 Tryz.underlying3 Tryz.underlying260 (by kernel_rfl) T.s n M rfl HA1.out.byS (s0 : Int) rfl HWs.out ?_; rw [HMs.out, Option.getD_some]))
    refine (drop_any HA1.out HMs.out (by omega) (by omega) (by omega)).mono ?_
    rintro e w2 ⟨rfl, hA2, ht2⟩
    have HA2 := LH hA2
    have HT2 := LH ht2
    have f2 : w2.cell? ⟨T.p, 0, none⟩ = some (.map (some T.s)) := HA2.out.row.cell rfl
    clear hA2 ht2
    rcases hbeh with rfl | ⟨e0, rfl, h1, h2⟩
    ·go_wp2_with (refine wpList_ilook_ok rfl _ _ 260 rfl 3 Tryz.underlying3 Tryz.underlying260 (by kernel_rfl) T.s n (mdel M s0) rfl HA2.out.byS ((s0 : Int) + ((m : Int) + ((a : Int) - (s0 : Int)))) rfl HWe2.out ?_; rw [HMb2.out, Option.getD_none, Option.isSome_none])
     refine (add_any HA2.out hn (by omega) (by omega) (by omega)).mono ?_
     rintro e w3 ⟨rfl, hA3, ht3⟩
     have HA3 := LH hA3
     have HT3 := LH ht3
     clear hA3 ht3
     go_wp2_with fail
     refine HEnd.out s0 (a + m) (mdel M s0) (mdel E ((s0 : Int) + ((a : Int) - (s0 : Int)))) _ HFr.out (.inr HEa.out) (.inl ⟨rfl, HMb.out⟩) (fun s hs => ?_) (fun e _ => ?_) ?_ (HT1.out.trans (HT2.out.trans HT3.out))
     ·unfold mdel
      rw [if_neg hs]
      by_cases x : s = (a : Int) + m
      ·rw [if_pos x, x, HMb.out]
      ·rw [if_neg x]
     ·unfold mdel; rw [show (s0 : Int) + ((a : Int) - (s0 : Int)) = a by omega]
     ·exact HA3.out.cast (by congr 1; omega) (by congr 1; omega)
    ·go_wp2_with (refine wpList_ilook_ok rfl _ _ 260 rfl 3 Tryz.underlying3 Tryz.underlying260 (by kernel_rfl) T.s n (mdel M s0) rfl HA2.out.byS ((s0 : Int) + ((m : Int) + ((a : Int) - (s0 : Int)))) rfl HWe2.out ?_; rw [HMb2.out, Option.getD_some, Option.isSome_some])
     refine (drop_any HA2.out HMb2.out (by omega) (by omega) (by omega)).mono ?_
     rintro e w3 ⟨rfl, hA3, ht3⟩
     have HA3 := LH hA3
     have HT3 := LH ht3
     clear hA3 ht3
     go_wp2_with fail
     refine (add_any HA3.out hn (by omega) (by omega) (by omega)).mono ?_
     rintro e w4 ⟨rfl, hA4, ht4⟩
     have HA4 := LH hA4
     have HT4 := LH ht4
     clear hA4 ht4
     go_wp2_with fail
     refine HEnd.out s0 e0 _ _ _ HFr.out (.inr HEa.out) (.inr HMb.out) (fun s hs => ?_) (fun e he => ?_) (HA4.out.cast (M' := mput (mdel (mdel M s0) ((s0 : Int) + ((m : Int) + ((a : Int) - (s0 : Int))))) s0 ((e0 : Int) - s0)) (E' := mput (mdel (mdel E ((s0 : Int) + ((a : Int) - (s0 : Int)))) ((s0 : Int) + ((m : Int) + ((a : Int) - (s0 : Int))) + ((e0 : Int) - ((a : Int) + (m : Int))))) e0 s0) (by congr 1; omega) (by congr 1; omega)) (HT1.out.trans (HT2.out.trans (HT3.out.trans HT4.out)))
     ·unfold mdel
      rw [show (s0 : Int) + ((m : Int) + ((a : Int) - (s0 : Int))) = (a : Int) + m by omega, if_neg hs]
     ·unfold mdel
      rw [if_neg (by omega), show (s0 : Int) + ((a : Int) - (s0 : Int)) = a by omega]
theorem Cells.owned2 {w : World} {base e n size cap : Nat} {a : Option Addr} {xs : List Value} (h : w.ownsRow base e size (.slice a n cap) n xs) : Cells w a xs := by
 rcases h.2 with ⟨_, h0⟩ | ⟨g, cap', cur, hv, _⟩
 ·exact .inl (List.eq_nil_of_length_eq_zero (by have := h.1; rw [h0] at this; simpa using this))
 ·refine .inr ⟨g, 0, by simp at hv; exact hv.1, fun i v hi => ?_⟩
  simp at hv
  obtain ⟨rfl, _⟩ := hv
  have := h.cells (g := g) rfl i v hi
  have ha : (⟨g, 0, none⟩ : Addr).add i = ⟨g, 0 + i, none⟩ := by unfold Addr.add; split <;> simp_all
  rwa [ha] at this
theorem giveR_len (l : List Bool) (a m : Int) : (giveR l a m).1.length = l.length := by
 unfold giveR
 split
 ·rfl
 ·split
  ·rfl
  ·rw [setTo_length]
theorem takeR_len (l : List Bool) (m : Int) : (takeR l m).1.length = l.length := by
 unfold takeR
 split
 ·rfl
 ·split
  ·rfl
  ·rw [setTo_length]
def TakePost (w : World) (T : Tri) (k : Nat) (l : List Bool) (n : Int) : Ending → World → Prop := fun e w' =>
 e = .returned (.tuple #[.int .i64 (takeR l n).2.1, .int .i64 (takeR l n).2.2]) ∧ IxAt w' T (k + 1) (takeR l n).1 ∧ Touch [T.s, T.e] w w'
theorem takeR_arg {l : List Bool} {n : Int} (h : n < 1) : takeR l n = (l, 0, 1) := by unfold takeR; rw [if_pos h]
theorem takeR_none {l : List Bool} {m : Nat} (h : 1 ≤ m) (hp : pick m (runsOf l) = none) : takeR l m = (l, 0, 4) := by
 unfold takeR; rw [if_neg (by omega)]; simp [hp]
theorem takeR_some {l : List Bool} {m : Nat} (h : 1 ≤ m) {x : Sp} (hp : pick m (runsOf l) = some x) : takeR l m = (setTo l x.1 false m, (x.1 : Int), 0) := by
 unfold takeR; rw [if_neg (by omega)]; simp [hp]
theorem best_mem {n : Nat} {A B : List Sp} (h : ∀ x, x ∈ A ↔ x ∈ B) {o : Option Sp} (hb : Best n (fun s k => (s, k) ∈ A) o) : Best n (fun s k => (s, k) ∈ B) o := by
 have : (fun s k => (s, k) ∈ A) = fun s k => (s, k) ∈ B := by funext s k; exact propext (h (s, k))
 rw [← this]; exact hb
theorem best_add {n s0 k0 : Nat} {done : List Sp} {o : Option Sp} (h : Best n (fun s k => (s, k) ∈ done) o) : Best n (fun s k => (s, k) ∈ done ++ [(s0, k0)]) (if better n o s0 k0 then some (s0, k0) else o) :=
 best_step h fun s k => by rw [List.mem_append, List.mem_singleton, Prod.ext_iff]
def bestI : Option Sp → Int
 | none => -1
 | some x => x.1
theorem IMap.look {P : Program} {k t : TypeId} {w : World} {b n : Nat} {M : Int → Option Int} (h : IMap P k w b n M) (hk : P.underlying k = some (.int .i64)) (ht : P.underlying t = some (.map k k)) (hz : (zeroValue k).run P w = .ok (.int .i64 0) w)
  {y c : Int} (hm : M y = some c) : (Instr.lookup t (.map (some b)) (.int .i64 y) false).run P w = .ok (.int .i64 c) w := by
 have hw := h.wf hk hm
 obtain ⟨D, ho, hT⟩ := h
 obtain ⟨c', hrun, hat, _⟩ := ho.lookup_int (int_keyed hk) ht hk hz (keyOf_int_mk hk hw)
 rw [hT.get y, hm] at hat
 have e : c = c' := by injection hat with h1; injection h1
 rw [hrun, e]
theorem take_end {w w' : World} {T : Tri} {n : Nat} {l : List Bool} {M E M' E' : Int → Option Int} {a k m : Nat} (hM : MOf l M) (hE : EOf l E) (hm : 1 ≤ m) (hp : pick m (runsOf l) = some (a, k))
  (hA : MapsAt w' T (n + 1) l.length M' E') (ht : Touch [T.s, T.e] w w')
  (h1 : M' ((a : Int) + m) = if m < k then some ((k : Int) - m) else M ((a : Int) + m)) (h2 : M' a = none) (h3 : ∀ s, s ≠ (a : Int) → s ≠ (a : Int) + m → M' s = M s)
  (h4 : E' ((a : Int) + k) = if m < k then some ((a : Int) + m) else none) (h5 : ∀ e, e ≠ (a : Int) + k → E' e = E e) :
  TakePost w T n l m (.returned (.tuple #[.int .i64 (a : Int), .int .i64 0])) w' := by
 obtain ⟨hr, hk⟩ := pick_run hp
 unfold TakePost
 rw [takeR_some hm hp]
 exact ⟨rfl, ⟨M', E', by rw [setTo_length]; exact hA, take_M hM hr hm hk h1 h2 h3, take_E hE hr hm hk h4 h5⟩, ht⟩
set_option maxHeartbeats 4000000 in
set_option maxRecDepth 20000 in
theorem itake_any {w : World} {T : Tri} {n : Nat} {l : List Bool} (h : IxAt w T n l) (hl : l.length ≤ 1000000000000) (hn : n < 1000000000000) (z : Int) :
  Calls Tryz.prog 227 #[.pointer (some ⟨T.p, 0, none⟩), .int .i64 z] w (TakePost w T n l z) := by
 by_cases hz : z < 1
 ·have HP : Hid (TakePost w T n l z (.returned (.tuple #[.int .i64 0, .int .i64 1])) w) := LH (by unfold TakePost; rw [takeR_arg hz]; exact ⟨rfl, h.mono (by omega), Touch.refl _ _⟩)
  generalize TakePost w T n l z = Post at *
  clear h
  go_enter Tryz.func227, Tryz.ntmps227
  go_wp2_with fail
  exact HP.out
 obtain ⟨m, rfl⟩ := Int.eq_ofNat_of_zero_le (show 0 ≤ z by omega)
 have hm1 : 1 ≤ m := by omega
 have HNone : Hid (pick m (runsOf l) = none → ∀ w', Below w.heap.size w w' → TakePost w T n l m (.returned (.tuple #[.int .i64 0, .int .i64 4])) w') := LH (fun hp w' hb => by
  unfold TakePost; rw [takeR_none hm1 hp]; exact ⟨rfl, (h.mono (by omega)).below hb, Touch.ofBelow hb⟩)
 obtain ⟨M, E, hA, hM, hE⟩ := h
 have HEnd : Hid (∀ (a k : Nat) (M' E' : Int → Option Int) (w' : World), pick m (runsOf l) = some (a, k) → MapsAt w' T (n + 1) l.length M' E' → Touch [T.s, T.e] w w' →
   (M' ((a : Int) + m) = if m < k then some ((k : Int) - m) else M ((a : Int) + m)) → M' a = none → (∀ s, s ≠ (a : Int) → s ≠ (a : Int) + m → M' s = M s) →
   (E' ((a : Int) + k) = if m < k then some ((a : Int) + m) else none) → (∀ e, e ≠ (a : Int) + k → E' e = E e) → TakePost w T n l m (.returned (.tuple #[.int .i64 (a : Int), .int .i64 0])) w') :=
  LH (fun a k M' E' w' hp hA ht h1 h2 h3 h4 h5 => take_end hM hE hm1 hp hA ht h1 h2 h3 h4 h5)
 have e0 : w.cell? ⟨T.p, 0, none⟩ = some (.map (some T.s)) := hA.row.cell rfl
 have HA := LH hA
 have HMO := LH hM
 have HL := LH hl
 clear hA hM hE hl hz
 generalize TakePost w T n l m = Post at *
 have q1 : decide ((m : Int) < 1) = false := by simp; omega
 go_enter Tryz.func227, Tryz.ntmps227
 go_wp2_with (at_range; refine wpList_irange rfl _ 260 rfl 3 Tryz.underlying3 Tryz.underlying260 T.s n M rfl HA.out.byS ?_; intro w0 cnt0 hr0 hg0 hs0)
 have HR0 := LH hr0
 have HB0 := LH (grown_none hg0)
 clear hr0 hg0 hs0
 go_frame
 go_loopw [6] (fun v wr => ∃ (L : Int → Bool) (cnt : Nat) (done rest : List Sp) (o : Option Sp) (b : Int), v = .int .i64 b ∧ b = bestI o ∧ IRange Tryz.prog 3 wr T.s w.heap.size n M L cnt ∧ Below w.heap.size w wr ∧ Part l M L done rest ∧ Best m (fun s k => (s, k) ∈ done) o) (fun _ wr => wr.rangeLeft T.s w.heap.size)
 case atStart => exact ⟨_, _, [], runsOf l, none, -1, rfl, rfl, HR0.out, HB0.out, Part.start HMO.out, fun s k hk => by simp at hk⟩
 case round =>
  obtain ⟨L, cnt, done, rest, o, b, rfl, hbo, hr, hb, hp, hbest⟩ := hrel
  have HR := LH hr
  have HB := LH hb
  have HBo := LH hbo
  have HP := LH hp
  have HBest := LH hbest
  clear hr hb hp hbo hbest
  go_wp2_with (at_next; refine wpList_inext rfl _ rfl 3 Tryz.underlying3 T.s w.heap.size n M _ _ rfl HR.out ?_ ?_)
  ·intro h0
   have hperm := HP.out.finish h0
   have hbb := best_mem (fun x => hperm.mem_iff) HBest.out
   have hpk : pick m (runsOf l) = o := best_one (pick_best (runsOf_is l).rising) hbb
   have HPk := LH hpk
   have HA1 := LH (HA.out.below HB.out)
   have HT1 := LH (Touch.ofBelow (L := [T.s, T.e]) HB.out)
   have f0 : wr.cell? ⟨T.p, 0, none⟩ = some (.map (some T.s)) := HA1.out.row.cell rfl
   clear h0 hperm hbb hpk
   cases o with
   | none =>
    obtain rfl : b = -1 := HBo.out
    go_wp2_with fail
    exact HNone.out HPk.out _ HB.out
   | some x =>
    obtain ⟨a, k⟩ := x
    obtain rfl : b = (a : Int) := HBo.out
    obtain ⟨hr, hk⟩ := pick_run HPk.out
    dsimp only at hr hk
    have hin := runEnds hr
    have HMa : Hid (M (a : Int) = some (k : Int)) := LH ((HMO.out _ _).2 ⟨by omega, by omega, by simpa using hr⟩)
    have hlen := HL.out
    clear hr
    have q2 : decide ((a : Int) < 0) = false := by simp
    have hq := HA1.out.byS.look Tryz.underlying3 (t := 260) Tryz.underlying260 (by kernel_rfl) HMa.out
    by_cases hkm : m < k
    ·go_wp2_with fail
     refine (drop_any HA1.out HMa.out (by omega) (by omega) (by omega)).mono ?_
     rintro e w2 ⟨rfl, hA2, ht2⟩
     have HA2 := LH hA2
     have HT2 := LH ht2
     clear hA2 ht2
     have hkm' : (m : Int) < (k : Int) := by omega
     go_wp2_with fail
     refine (add_any HA2.out hn (by omega) (by omega) (by omega)).mono ?_
     rintro e w3 ⟨rfl, hA3, ht3⟩
     have HA3 := LH hA3
     have HT3 := LH ht3
     clear hA3 ht3
     go_wp2_with fail
     refine HEnd.out a k _ _ _ HPk.out HA3.out (HT1.out.trans (HT2.out.trans HT3.out)) ?_ ?_ (fun s h1 h2 => ?_) ?_ (fun e h1 => ?_)
     ·rw [if_pos hkm]; simp [mput]
     ·unfold mput mdel; rw [if_neg (by omega), if_pos rfl]
     ·unfold mput mdel; rw [if_neg h2, if_neg h1]
     ·rw [if_pos hkm]; unfold mput; rw [if_pos (by omega)]
     ·unfold mput mdel; rw [if_neg (by omega), if_neg h1]
    ·obtain rfl : k = m := by omega
     go_wp2_with fail
     refine (drop_any HA1.out HMa.out (by omega) (by omega) (by omega)).mono ?_
     rintro e w2 ⟨rfl, hA2, ht2⟩
     have HA2 := LH hA2
     have HT2 := LH ht2
     clear hA2 ht2
     go_wp2_with fail
     refine HEnd.out a k _ _ _ HPk.out (HA2.out.mono (by omega)) (HT1.out.trans HT2.out) ?_ ?_ (fun s h1 h2 => ?_) ?_ (fun e h1 => ?_)
     ·rw [if_neg hkm]; unfold mdel; rw [if_neg (by omega)]
     ·unfold mdel; rw [if_pos rfl]
     ·unfold mdel; rw [if_neg h1]
     ·rw [if_neg hkm]; unfold mdel; rw [if_pos rfl]
     ·unfold mdel; rw [if_neg h1]
  ·intro x c w1 cnt1 hwx hwc hL hMx hr1 hlt hg1 hs1 hen
   obtain ⟨s, k, rfl, rfl, _, hp1⟩ := HP.out.step HMO.out hL hMx
   have HP1 := LH hp1
   have HR1 := LH hr1
   have HB1 : Hid (Below w.heap.size w w1) := LH (HB.out.trans (grown_one hg1 (Nat.le_refl _) HB.out.size))
   have HLt := LH hlt
   have f0 : w1.cell? ⟨T.p, 0, none⟩ = some (.map (some T.s)) := (HA.out.below HB1.out).row.cell rfl
   have HBA := LH (best_add (s0 := s) (k0 := k) HBest.out)
   clear hL hMx hr1 hlt hg1 hs1 hwx hwc hp1
   by_cases hkm : m ≤ k
   ·have hkm' : (m : Int) ≤ (k : Int) := by omega
    cases o with
    | none =>
     obtain rfl : b = -1 := HBo.out
     have HN : Hid (Best m (fun a b => (a, b) ∈ done ++ [(s, k)]) (some (s, k))) := LH (by have := HBA.out; rwa [if_pos (by simp [better, hkm])] at this)
     go_wp2_with fail
     go_roundw
     case rel => exact ⟨_, _, _, _, some (s, k), (s : Int), rfl, rfl, HR1.out, HB1.out, HP1.out, HN.out⟩
     case measure => rw [HR1.out.left_eq, HR.out.left_eq]; exact HLt.out
    | some x =>
     obtain ⟨a, d⟩ := x
     obtain rfl : b = (a : Int) := HBo.out
     have hmem : (a, d) ∈ runsOf l := HP.out.perm.mem_iff.1 (List.mem_append_left _ HBest.out.1)
     have hM1 : M (a : Int) = some (d : Int) := (HMO.out _ _).2 ⟨by omega, by omega, by simpa using ((runsOf_is l).mem a d).1 hmem⟩
     have hq := (HA.out.below HB1.out).byS.look Tryz.underlying3 (t := 260) Tryz.underlying260 (by kernel_rfl) hM1
     have q2 : decide ((a : Int) < 0) = false := by simp
     clear hmem hM1
     rcases Nat.lt_trichotomy k d with h1 | h1 | h1
     ·have HN : Hid (Best m (fun a b => (a, b) ∈ done ++ [(s, k)]) (some (s, k))) := LH (by have := HBA.out; rwa [if_pos (by simp [better, hkm]; omega)] at this)
      go_wp2_with fail
      go_roundw
      case rel => exact ⟨_, _, _, _, some (s, k), (s : Int), rfl, rfl, HR1.out, HB1.out, HP1.out, HN.out⟩
      case measure => rw [HR1.out.left_eq, HR.out.left_eq]; exact HLt.out
     ·subst h1
      by_cases h2 : s < a
      ·have HN : Hid (Best m (fun a b => (a, b) ∈ done ++ [(s, k)]) (some (s, k))) := LH (by have := HBA.out; rwa [if_pos (by simp [better, hkm]; omega)] at this)
       go_wp2_with fail
       go_roundw
       case rel => exact ⟨_, _, _, _, some (s, k), (s : Int), rfl, rfl, HR1.out, HB1.out, HP1.out, HN.out⟩
       case measure => rw [HR1.out.left_eq, HR.out.left_eq]; exact HLt.out
      ·have HN : Hid (Best m (fun a b => (a, b) ∈ done ++ [(s, k)]) (some (a, k))) := LH (by have := HBA.out; rwa [if_neg (by simp [better, hkm]; omega)] at this)
       go_wp2_with fail
       go_roundw
       case rel => exact ⟨_, _, _, _, some (a, k), (a : Int), rfl, rfl, HR1.out, HB1.out, HP1.out, HN.out⟩
       case measure => rw [HR1.out.left_eq, HR.out.left_eq]; exact HLt.out
     ·have HN : Hid (Best m (fun a b => (a, b) ∈ done ++ [(s, k)]) (some (a, d))) := LH (by have := HBA.out; rwa [if_neg (by simp [better, hkm]; omega)] at this)
      have q3 : (k == d) = false := by simp; omega
      have q4 : ((k : Int) == (d : Int)) = false := by simp; omega
      go_wp2_with fail
      go_roundw
      case rel => exact ⟨_, _, _, _, some (a, d), (a : Int), rfl, rfl, HR1.out, HB1.out, HP1.out, HN.out⟩
      case measure => rw [HR1.out.left_eq, HR.out.left_eq]; exact HLt.out
   ·have HN : Hid (Best m (fun a b => (a, b) ∈ done ++ [(s, k)]) o) := LH (by have := HBA.out; rwa [if_neg (by simp [better, hkm])] at this)
    have q5 : decide ((m : Int) ≤ (k : Int)) = false := by simp; omega
    go_wp2_with fail
    go_roundw
    case rel => exact ⟨_, _, _, _, o, b, rfl, HBo.out, HR1.out, HB1.out, HP1.out, HN.out⟩
    case measure => rw [HR1.out.left_eq, HR.out.left_eq]; exact HLt.out
end Go.Proofs.YtbimcogdbafjpaaGreat
namespace Go.Proofs.YtbimcogdbafjpaaGreat
open Go.RowKit
theorem wf_u8 {z : Int} (h : (Lit.int .u8 z).wf = true) : 0 ≤ z ∧ z < 256 := by
 simp [Lit.wf, IntKind.min, IntKind.max, IntKind.signed, IntKind.bits] at h; omega
end Go.Proofs.YtbimcogdbafjpaaGreat
namespace Go.Proofs.YtbimcogdbafjpaaGreat
open Go.RowKit Go.ChangeShapes Go.WideShapes Go.Deep
section
variable {H : Type} {enc : TypeId × Value → H} {P : Program} {w : World} {base : Nat} {spare : Nat → Bool} {held : Bool}
end
def recs {α : Type} (f : α → List Value) (l : List α) : List Value := l.flatMap f
theorem recs_length {α : Type} {f : α → List Value} {n : Nat} (hf : ∀ x, (f x).length = n) (l : List α) : (recs f l).length = l.length * n := by
 induction l with
 | nil => simp [recs]
 | cons x l ih => unfold recs at *; rw [List.flatMap_cons, List.length_append, ih, hf, List.length_cons, Nat.succ_mul, Nat.add_comm]
theorem recs_append {α : Type} (f : α → List Value) (l m : List α) : recs f (l ++ m) = recs f l ++ recs f m := by simp [recs]
theorem recs_at {α : Type} {f : α → List Value} {n : Nat} (hf : ∀ x, (f x).length = n) (d : α) (l : List α) (i : Nat) (hi : i < l.length) : ∀ j v, (f (l.getD i d))[j]? = some v → (recs f l)[i * n + j]? = some v := by
 intro j v hj
 have e : l = l.take i ++ (l[i] :: l.drop (i + 1)) := by simp
 have hl : (recs f (l.take i)).length = i * n := by rw [recs_length hf, List.length_take, Nat.min_eq_left (by omega)]
 have hg : l.getD i d = l[i] := by simp [hi]
 rw [hg] at hj
 have hj3 : j < (f l[i]).length := (List.getElem?_eq_some_iff.1 hj).1
 rw [e, recs_append, List.getElem?_append_right (by omega), hl, show i * n + j - i * n = j by omega]
 unfold recs
 rw [List.flatMap_cons, List.getElem?_append_left hj3]
 exact hj
theorem recs_cells {α : Type} {f : α → List Value} {n : Nat} (hf : ∀ x, (f x).length = n) (hn : 0 < n) (d : α) {w : World} {a : Option Addr} {l : List α} (h : Cells w a (recs f l)) {j : Nat} (hj : j < l.length) :
  ∃ b off, a = some ⟨b, off, none⟩ ∧ b < w.heap.size ∧ ∀ i v, (f (l.getD j d))[i]? = some v → w.cell? ⟨b, off + j * n + i, none⟩ = some v := by
 have hl := recs_length hf l
 have hlt : 0 < (recs f l).length := by rw [hl]; exact Nat.mul_pos (by omega) hn
 obtain ⟨b, off, rfl, hb, hc⟩ := h.at hlt
 refine ⟨b, off, rfl, hb, fun i v hi => ?_⟩
 rw [Nat.add_assoc]
 exact hc _ _ (recs_at hf d l j hj i v hi)
section
variable {H : Type} {enc : TypeId × Value → H} {P : Program} {w : World} {base : Nat} {spare : Nat → Bool} {held : Bool}
theorem elems_read {t e : TypeId} {size : Nat} {fuel : Nat} {v : Value} {y : DataW H × List MemPlace} (ht : P.underlying t = some (.slice e)) (hC : P.cellsOf e = size) (hpos : 0 < size) (h : DataW.trod enc P w base spare held fuel t [v] = some y) :
  ∃ (a : Option Addr) (len cap m : Nat), v = .slice a len cap ∧ len ≤ cap ∧ cap ≤ maxLen ∧ (len = 0 ∨ ∃ b off, a = some ⟨b, off, none⟩ ∧ ∀ i, i < len →
   ∃ (us : List Value) (z : DataW H × List MemPlace), us.length = size ∧ (∀ r u, us[r]? = some u → w.cell? ⟨b, off + i * size + r, none⟩ = some u) ∧ DataW.trod enc P w base spare held m e us = some z) := by
 rcases open_slice ht h with ⟨hcs, _⟩ | ⟨a, len, cap, m, n, D, Pl, hcs, _, hl, hm, hmm, _, hi⟩
 ·simp at hcs
  exact ⟨none, 0, 0, 0, hcs, Nat.le_refl _, Nat.zero_le _, .inl rfl⟩
 ·simp at hcs
  have hlm : len ≤ m := by rw [hmm]; split <;> omega
  by_cases h0 : len = 0
  ·exact ⟨some a, len, cap, 0, hcs, hl, hm, .inl h0⟩
  have each : ∀ i, i < len → ∃ (us : List Value) (z : DataW H × List MemPlace), us.length = size ∧ (∀ r u, us[r]? = some u → w.cell? ((a.add (i * size)).add r) = some u) ∧ DataW.trod enc P w base spare held n e us = some z := by
   intro i hil
   obtain ⟨cs', hc, ht'⟩ := hi i (by omega)
   rw [hC] at hc
   obtain ⟨_, hcl, hat⟩ := World.cells?_some hc
   have hz : ∃ z, DataW.trod enc P w base spare held n e cs' = some z := ⟨_, ht'⟩
   obtain ⟨z, hz⟩ := hz
   refine ⟨cs', z, hcl, fun r u hr => ?_, hz⟩
   have hrl : r < size := by have := (List.getElem?_eq_some_iff.1 hr).1; omega
   rw [hat r hrl, hr]
  obtain ⟨us, z, h1, h2, _⟩ := each 0 (by omega)
  obtain ⟨b, off, spot⟩ := a
  have hus : us[0]? = some (us[0]'(by omega)) := List.getElem?_eq_getElem (by omega)
  have h20 := h2 0 _ hus
  have hspot : spot = none := by
   have := World.cell?_spot h20
   simpa [Addr.add] using this
  subst hspot
  refine ⟨_, len, cap, n, hcs, hl, hm, .inr ⟨b, off, rfl, fun i hil => ?_⟩⟩
  obtain ⟨us, z, h1, h2, h3⟩ := each i hil
  refine ⟨us, z, h1, fun r u hr => ?_, h3⟩
  have := h2 r u hr
  rwa [add_none', add_none'] at this
where
 add_none' (b off j : Nat) : (⟨b, off, none⟩ : Addr).add j = ⟨b, off + j, none⟩ := by unfold Addr.add; split <;> simp_all
end
theorem recs_of {α : Type} {f : α → List Value} {n : Nat} (hf : ∀ x, (f x).length = n) (hn : 0 < n) (d : α) {w : World} {b off len : Nat} {ok : α → Prop}
  (each : ∀ i, i < len → ∃ x : α, (∀ r u, (f x)[r]? = some u → w.cell? ⟨b, off + i * n + r, none⟩ = some u) ∧ ok x) :
  ∃ l : List α, l.length = len ∧ Cells w (some ⟨b, off, none⟩) (recs f l) ∧ ∀ x ∈ l, ok x := by
 haveI : Inhabited α := ⟨d⟩
 obtain ⟨g, hg⟩ := choose_lt each
 refine ⟨(List.range len).map g, by simp, .inr ⟨b, off, rfl, fun i v hi => ?_⟩, fun x hx => ?_⟩
 ·have hlen : i < len * n := by
   have := (List.getElem?_eq_some_iff.1 hi).1
   rw [recs_length hf] at this
   simpa using this
  obtain ⟨q, r, hr, rfl⟩ : ∃ q r, r < n ∧ i = q * n + r := ⟨i / n, i % n, Nat.mod_lt _ hn, by rw [Nat.mul_comm]; exact (Nat.div_add_mod i n).symm⟩
  have hq : q < len := Decidable.byContradiction fun h => by
   have h1 : len ≤ q := by omega
   have := Nat.mul_le_mul_right n h1
   omega
  have hfd : ((List.range len).map g).getD q d = g q := by simp [hq]
  have hx : (f (g q))[r]? = some ((f (g q))[r]'(by rw [hf]; exact hr)) := List.getElem?_eq_getElem (by rw [hf]; exact hr)
  have := recs_at hf d ((List.range len).map g) q (by simpa using hq) r _ (by rw [hfd]; exact hx)
  rw [this] at hi
  cases hi
  rw [← Nat.add_assoc]
  exact (hg q hq).1 r _ hx
 ·rw [List.mem_map] at hx
  obtain ⟨i, hi, rfl⟩ := hx
  exact (hg i (by simpa using hi)).2
end Go.Proofs.YtbimcogdbafjpaaGreat
