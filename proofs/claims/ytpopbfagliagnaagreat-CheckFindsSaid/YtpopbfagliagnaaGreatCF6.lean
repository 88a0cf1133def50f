/- Parts of the proof, one behind the other: Ig, It, In, Deep, Rec, If, Ya, Aw, Rl, Yb, Yc, Iv. -/
import Derived.Test.YtpopbfagliagnaaGreatCF5
import Derived.Deep.Slices
import Derived.Deep.Fields
import Derived.ChangeSame
import Derived.OpenShut
import Derived.Deep.Cut
set_option linter.unusedVariables false
namespace Go.Proofs.YtpopbfagliagnaaGreat
open Go.RowKit Go.Maps
theorem give_end {l : List Bool} {M E M2 E2 : Int → Option Int} {a m s0 e0 : Nat} (hM : MOf l M) (hE : EOf l E) (hm : 1 ≤ m) (ha : a + m ≤ l.length) (h0 : anyFree l a m = false)
  (hs : s0 = a ∧ E a = none ∨ E a = some (s0 : Int)) (he : e0 = a + m ∧ M ((a : Int) + m) = none ∨ M ((a : Int) + m) = some ((e0 : Int) - (a + m)))
  (hM2 : ∀ s, s ≠ (s0 : Int) → M2 s = if s = (a : Int) + m then none else M s) (hE2 : ∀ e, e ≠ (e0 : Int) → E2 e = if e = (a : Int) then none else E e) :
  MOf (setTo l a true m) (mput M2 s0 ((e0 : Int) - s0)) ∧ EOf (setTo l a true m) (mput E2 e0 s0) ∧ s0 ≤ a ∧ a + m ≤ e0 ∧ e0 ≤ l.length := by
 have hfa : fb l a = false := anyFree_false h0 a (Nat.le_refl _) (by omega)
 have hS : s0 = a ∧ (∀ b, b + 1 = a → fb l b = false) ∨ s0 < a ∧ IsRun (fb l) s0 (a - s0) := by
  rcases hs with ⟨h1, h2⟩ | h1
  ·refine .inl ⟨h1, fun b hb => ?_⟩
   cases hf : fb l b with
   | false => rfl
   | true =>
    exfalso
    obtain ⟨s, n, hr, h3, h4⟩ := has_run (f := fb l) (L := l.length) (fun x hx => fb_far l x hx) hf
    have h5 : s + n = a := by
     rcases Nat.lt_or_ge a (s + n) with h6 | h6
     ·have := hr.2.1 a (by omega) h6; rw [hfa] at this; cases this
     ·omega
    have := (hE (a : Int) (s : Int)).2 ⟨by omega, by omega, by rw [show ((a : Int) - (s : Int)).toNat = n by omega]; exact hr⟩
    rw [h2] at this; cases this
  ·obtain ⟨h2, h3, h4⟩ := (hE _ _).1 h1
   have e : ((a : Int) - (s0 : Int)).toNat = a - s0 := by omega
   rw [e] at h4
   have := h4.1
   exact .inr ⟨by omega, h4⟩
 have hEE : e0 = a + m ∧ fb l (a + m) = false ∨ a + m < e0 ∧ IsRun (fb l) (a + m) (e0 - (a + m)) := by
  rcases he with ⟨h1, h2⟩ | h1
  ·refine .inl ⟨h1, ?_⟩
   cases hf : fb l (a + m) with
   | false => rfl
   | true =>
    exfalso
    obtain ⟨s, n, hr, h3, h4⟩ := has_run (f := fb l) (L := l.length) (fun x hx => fb_far l x hx) hf
    have h5 : s = a + m := by
     rcases Nat.lt_or_ge s (a + m) with h6 | h6
     ·have := hr.2.1 (a + m - 1) (by omega) (by omega); rw [anyFree_false h0 _ (by omega) (by omega)] at this; cases this
     ·omega
    have := (hM ((a : Int) + m) (n : Int)).2 ⟨by omega, by omega, by rw [show ((a : Int) + m).toNat = s by omega]; simpa using hr⟩
    rw [h2] at this; cases this
  ·obtain ⟨h2, h3, h4⟩ := (hM _ _).1 h1
   have e1 : ((a : Int) + (m : Int)).toNat = a + m := by omega
   have e2 : ((e0 : Int) - ((a : Int) + (m : Int))).toNat = e0 - (a + m) := by omega
   rw [e1, e2] at h4
   have := h4.1
   exact .inr ⟨by omega, h4⟩
 have hb1 : s0 ≤ a := by rcases hS with ⟨h, _⟩ | ⟨h, _⟩ <;> omega
 have hb2 : a + m ≤ e0 := by rcases hEE with ⟨h, _⟩ | ⟨h, _⟩ <;> omega
 have hb3 : e0 ≤ l.length := by
  rcases hEE with ⟨h, _⟩ | ⟨h, hr⟩
  ·omega
  ·have := runEnds hr; omega
 refine ⟨give_M hM hm ha h0 hS hEE (by simp [mput]) ?_ ?_, give_E hE hm ha h0 hS hEE (by simp [mput]) ?_ ?_, hb1, hb2, hb3⟩
 ·intro s h1 h2
  simp only [mput, if_neg h1]
  rw [hM2 s h1]
  rcases h2 with h2 | h2
  ·rw [if_pos h2]
  ·exfalso
   obtain ⟨h3, h4, h5⟩ := (hM _ _).1 h2
   have h6 := h5.1
   rcases hS with ⟨_, h7⟩ | ⟨h7, h8⟩
   ·have := h5.2.1 (a - 1) (by omega) (by omega); rw [h7 _ (by omega)] at this; cases this
   ·have := (h5.back h8 (by omega)).1; omega
 ·intro s h1 h2 h3
  simp only [mput, if_neg h1]
  rw [hM2 s h1, if_neg h2]
 ·intro e h1 h2
  simp only [mput, if_neg h1]
  rw [hE2 e h1]
  rcases h2 with h2 | h2
  ·rw [if_pos h2]
  ·exfalso
   obtain ⟨h3, h4, h5⟩ := (hE _ _).1 h2
   have h6 := h5.1
   have e1 : ((a : Int) + (m : Int)).toNat = a + m := by omega
   rw [e1] at h5
   rcases hEE with ⟨_, h7⟩ | ⟨h7, h8⟩
   ·have := h5.2.1 (a + m) (by omega) (by omega); rw [h7] at this; cases this
   ·have := h5.one h8; omega
 ·intro e h1 h2 h3
  simp only [mput, if_neg h1]
  rw [hE2 e h1, if_neg h2]
theorem IxAt.mono {w : World} {T : Tri} {n m : Nat} {l : List Bool} (h : IxAt w T n l) (hn : n ≤ m) : IxAt w T m l := by
 obtain ⟨M, E, h1, h2⟩ := h; exact ⟨M, E, h1.mono hn, h2⟩
theorem hasB_nat (l : List Bool) (b : Nat) : hasB l (b : Int) = fb l b := by simp [hasB]
theorem anyFree_next (l : List Bool) (a b : Nat) (h : a ≤ b) : anyFree l a (b + 1 - a) = (anyFree l a (b - a) || fb l b) := by
 rw [show b + 1 - a = (b - a) + 1 by omega, anyFree, show a + (b - a) = b by omega]
def GivePost (w : World) (T : Tri) (n : Nat) (l : List Bool) (a m : Int) : Ending → World → Prop := fun e w' =>
 e = .returned (.int .i64 (giveR l a m).2) ∧ IxAt w' T (n + 1) (giveR l a m).1 ∧ Touch [T.s, T.e] w w'
theorem giveR_arg {l : List Bool} {a m : Int} (h : a < 1 ∨ m < 1 ∨ (l.length : Int) ≤ a ∨ (l.length : Int) - a < m) : giveR l a m = (l, 1) := by
 unfold giveR; rw [if_pos h]
theorem giveR_twice {l : List Bool} {a m : Nat} (h : 1 ≤ a ∧ 1 ≤ m ∧ a + m ≤ l.length) (h0 : anyFree l a m = true) : giveR l a m = (l, 41) := by
 unfold giveR; rw [if_neg (by omega)]; simp [h0]
theorem giveR_ok {l : List Bool} {a m : Nat} (h : 1 ≤ a ∧ 1 ≤ m ∧ a + m ≤ l.length) (h0 : anyFree l a m = false) : giveR l a m = (setTo l a true m, 0) := by
 unfold giveR; rw [if_neg (by omega)]; simp [h0]
set_option maxHeartbeats 1000000 in
theorem igive_arg {w : World} {T : Tri} {n : Nat} {l : List Bool} (h : IxAt w T n l) (hl : l.length ≤ 1000000000000) (a m : Int) (hbad : a < 1 ∨ m < 1 ∨ (l.length : Int) ≤ a ∨ (l.length : Int) - a < m) :
  Calls Tryz.prog 248 #[.pointer (some ⟨T.p, 0, none⟩), .int .i64 a, .int .i64 m] w (GivePost w T n l a m) := by
 have hR := giveR_arg hbad
 have HP : Hid (GivePost w T n l a m (.returned (.int .i64 1)) w) := LH (by unfold GivePost; rw [hR]; exact ⟨rfl, h.mono (by omega), Touch.refl _ _⟩)
 obtain ⟨M, E, hA, _, _⟩ := h
 have e2 : w.cell? ⟨T.p, 2, none⟩ = some (.int .i64 (l.length : Int)) := hA.row.cell rfl
 have hcase : a < 1 ∨ (1 ≤ a ∧ m < 1) ∨ (1 ≤ a ∧ 1 ≤ m ∧ (l.length : Int) ≤ a) ∨ (1 ≤ a ∧ 1 ≤ m ∧ a < (l.length : Int) ∧ (l.length : Int) - a < m) := by omega
 clear hA hR hbad
 generalize GivePost w T n l a m = Post at *
 generalize l.length = len at *
 rcases hcase with h1 | ⟨h1, h2⟩ | ⟨h1, h2, h3⟩ | ⟨h1, h2, h3, h4⟩
 all_goals
  go_enter Tryz.func248, Tryz.ntmps248
  go_wp2_with fail
  exact HP.out
theorem MapsAt.cast {w : World} {T : Tri} {n lim : Nat} {M E M' E' : Int → Option Int} (h : MapsAt w T n lim M E) (h1 : M = M') (h2 : E = E') : MapsAt w T n lim M' E' := by
 subst h1; subst h2; exact h
theorem give_post {w w' : World} {T : Tri} {n : Nat} {l : List Bool} {a m s0 e0 : Nat} {M E M2 E2 : Int → Option Int} (hb : 1 ≤ a ∧ 1 ≤ m ∧ a + m ≤ l.length) (h0 : anyFree l a m = false) (hM : MOf l M) (hE : EOf l E)
  (hs : s0 = a ∧ E a = none ∨ E a = some (s0 : Int)) (he : e0 = a + m ∧ M ((a : Int) + m) = none ∨ M ((a : Int) + m) = some ((e0 : Int) - (a + m)))
  (hM2 : ∀ s, s ≠ (s0 : Int) → M2 s = if s = (a : Int) + m then none else M s) (hE2 : ∀ e, e ≠ (e0 : Int) → E2 e = if e = (a : Int) then none else E e)
  (hA : MapsAt w' T (n + 1) l.length (mput M2 s0 ((e0 : Int) - s0)) (mput E2 e0 s0)) (ht : Touch [T.s, T.e] w w') : GivePost w T n l a m (.returned (.int .i64 0)) w' := by
 obtain ⟨h1, h2, _⟩ := give_end hM hE hb.2.1 hb.2.2 h0 hs he hM2 hE2
 unfold GivePost
 rw [giveR_ok hb h0]
 exact ⟨rfl, ⟨_, _, by rw [setTo_length]; exact hA, h1, h2⟩, ht⟩
set_option maxHeartbeats 4000000 in
theorem igive_fit {w : World} {T : Tri} {n : Nat} {l : List Bool} (h : IxAt w T n l) (hl : l.length ≤ 1000000000000) (hn : n < 1000000000000) (a m : Nat) (hb : 1 ≤ a ∧ 1 ≤ m ∧ a + m ≤ l.length) :
  Calls Tryz.prog 248 #[.pointer (some ⟨T.p, 0, none⟩), .int .i64 (a : Int), .int .i64 (m : Int)] w (GivePost w T n l a m) := by
 have HI := LH h
 have HB := LH hb
 have HTw : Hid (anyFree l a m = true → ∀ w', Below w.heap.size w w' → GivePost w T n l a m (.returned (.int .i64 41)) w') := LH (fun hf w' hb' => by
  unfold GivePost; rw [giveR_twice hb hf]; exact ⟨rfl, (h.mono (by omega)).below hb', Touch.ofBelow hb'⟩)
 obtain ⟨M, E, hA, hM, hE⟩ := h
 have e2 : w.cell? ⟨T.p, 2, none⟩ = some (.int .i64 (l.length : Int)) := hA.row.cell rfl
 have HA := LH hA
 have HM := LH hM
 have HE := LH hE
 obtain ⟨g1, g2, g3⟩ := hb
 have HEnd : Hid (∀ (s0 e0 : Nat) (M2 E2 : Int → Option Int) (w' : World), anyFree l a m = false → (s0 = a ∧ E a = none ∨ E a = some (s0 : Int)) → (e0 = a + m ∧ M ((a : Int) + m) = none ∨ M ((a : Int) + m) = some ((e0 : Int) - (a + m))) →
   (∀ s, s ≠ (s0 : Int) → M2 s = if s = (a : Int) + m then none else M s) → (∀ e, e ≠ (e0 : Int) → E2 e = if e = (a : Int) then none else E e) →
   MapsAt w' T (n + 1) l.length (mput M2 s0 ((e0 : Int) - s0)) (mput E2 e0 s0) → Touch [T.s, T.e] w w' → GivePost w T n l a m (.returned (.int .i64 0)) w') :=
  LH (fun s0 e0 M2 E2 w' h0 hs he hM2 hE2 hA ht => give_post HB.out h0 hM hE hs he hM2 hE2 hA ht)
 clear hA hM hE
 generalize GivePost w T n l a m = Post at *
 obtain ⟨len, hlen⟩ : ∃ len, len = l.length := ⟨_, rfl⟩
 rw [← hlen] at g3 hl e2
 have HLen := LH hlen
 clear hlen
 have q1 : decide ((a : Int) < 1) = false := by simp; omega
 have q2 : decide ((m : Int) < 1) = false := by simp; omega
 have q3 : decide (len ≤ a) = false := by simp; omega
 have q4 : decide ((len : Int) - (a : Int) < (m : Int)) = false := by simp; omega
 go_enter Tryz.func248, Tryz.ntmps248
 go_wp2_with fail
 go_loopw [6, 7] (fun _ i wr => ∃ b : Nat, a ≤ b ∧ b ≤ a + m ∧ i = .int .i64 (b : Int) ∧ anyFree l a (b - a) = false ∧ Below w.heap.size w wr) (fun _ i _ => a + m - (intOf i).toNat)
 case atStart => exact ⟨a, Nat.le_refl _, by omega, rfl, by rw [Nat.sub_self]; rfl, Below.refl _ _⟩
 case round =>
  obtain ⟨b, hab, hbm, rfl, hfree, hbe⟩ := hrel
  have HF := LH hfree
  have HBe := LH hbe
  clear hfree hbe
  by_cases hlt : b < a + m
  ·have hlt' : (b : Int) < (a : Int) + (m : Int) := by omega
   cases hfb : fb l b with
   | true =>
    have hall : anyFree l a m = true := anyFree_one hab hlt hfb
    have HAll := LH hall
    have HHas : Hid (hasB l (b : Int) = true) := LH (by rw [hasB_nat]; exact hfb)
    clear hall hfb
    go_wp2_with fail
    refine (has_any (HI.out.below HBe.out) (by rw [← HLen.out]; exact hl) (b : Int)).mono ?_
    rintro e w1 ⟨rfl, hb1⟩
    rw [HHas.out]
    have HB1 := LH hb1
    clear hb1
    go_wp2_with fail
    exact HTw.out HAll.out _ (HBe.out.trans (HB1.out.mono HBe.out.size))
   | false =>
    have HN : Hid (anyFree l a (b + 1 - a) = false) := LH (by rw [anyFree_next l a b hab, HF.out, hfb]; rfl)
    have HHas : Hid (hasB l (b : Int) = false) := LH (by rw [hasB_nat]; exact hfb)
    clear hfb
    go_wp2_with fail
    refine (has_any (HI.out.below HBe.out) (by rw [← HLen.out]; exact hl) (b : Int)).mono ?_
    rintro e w1 ⟨rfl, hb1⟩
    rw [HHas.out]
    have HB1 := LH hb1
    clear hb1
    go_wp2_with fail
    go_roundw
    case rel =>
     exact ⟨b + 1, by omega, by omega, vint (by omega), HN.out, HBe.out.trans (HB1.out.mono HBe.out.size)⟩
    case measure => simp [intOf]; omega
  ·obtain rfl : b = a + m := by omega
   have HFr : Hid (anyFree l a m = false) := LH (by have := HF.out; rwa [show a + m - a = m by omega] at this)
   have HA1 := LH (HA.out.below HBe.out)
   have HT1 := LH (Touch.ofBelow (L := [T.s, T.e]) HBe.out)
   clear hlt hab hbm HF
   have f0 : wr.cell? ⟨T.p, 0, none⟩ = some (.map (some T.s)) := HA1.out.row.cell rfl
   have f1 : wr.cell? ⟨T.p, 1, none⟩ = some (.map (some T.e)) := HA1.out.row.cell rfl
   have hlt' : decide (((a + m : Nat) : Int) < (a : Int) + (m : Int)) = false := by simp
   have HWa := LH (i64wf (x := (a : Int)) (by omega) (by omega))
   have HWe := LH (i64wf (x := (a : Int) + (m : Int)) (by omega) (by omega))
   obtain ⟨ea, hea⟩ : ∃ ea, E (a : Int) = ea := ⟨_, rfl⟩
   obtain ⟨mb, hmb⟩ : ∃ mb, M ((a : Int) + m) = mb := ⟨_, rfl⟩
   have hbeh : mb = none ∨ ∃ e0 : Nat, mb = some ((e0 : Int) - ((a : Int) + (m : Int))) ∧ a + m < e0 ∧ e0 ≤ len := by
    cases mb with
    | none => exact .inl rfl
    | some c =>
     have h1 := HM.out.bounds hmb
     rw [← HLen.out] at h1
     exact .inr ⟨(c + ((a : Int) + m)).toNat, by congr 1; omega, by omega, by omega⟩
   have HMb := LH hmb
   clear hmb
   cases ea with
   | none =>
    have HEa := LH hea
    clear hea
    rcases hbeh with rfl | ⟨e0, rfl, h1, h2⟩
    ·go_wp2_with (first | (refine wpList_ilook_ok rfl _ _ 248 rfl 3 Tryz.underlying3 Tryz.underlying248 (by kernel_rfl) T.e n E rfl HA1.out.byE (a : Int) rfl HWa.out ?_; rw [HEa.out, Option.getD_none, Option.isSome_none]) | (refine wpList_ilook_ok rfl _ _ 248 rfl 3 Tryz.underlying3 Tryz.underlying248 (by kernel_rfl) T.s n M rfl HA1.out.byS ((a : Int) + (m : Int)) rfl HWe.out ?_; rw [HMb.out, Option.getD_none, Option.isSome_none]))
     refine (add_any HA1.out hn (s := (a : Int)) (c := (m : Int)) (by omega) (by omega) (by omega)).mono ?_
     rintro e w2 ⟨rfl, hA2, ht2⟩
     have HA2 := LH hA2
     have HT2 := LH ht2
     clear hA2 ht2
     go_wp2_with fail
     refine HEnd.out a (a + m) M E _ HFr.out (.inl ⟨rfl, HEa.out⟩) (.inl ⟨rfl, HMb.out⟩) (fun s _ => ?_) (fun e _ => ?_) ?_ (HT1.out.trans HT2.out)
     ·by_cases x : s = (a : Int) + m
      ·rw [if_pos x, x, HMb.out]
      ·rw [if_neg x]
     ·by_cases x : e = (a : Int)
      ·rw [if_pos x, x, HEa.out]
      ·rw [if_neg x]
     ·exact HA2.out.cast (by congr 1; omega) (by congr 1)
    ·go_wp2_with (first | (refine wpList_ilook_ok rfl _ _ 248 rfl 3 Tryz.underlying3 Tryz.underlying248 (by kernel_rfl) T.e n E rfl HA1.out.byE (a : Int) rfl HWa.out ?_; rw [HEa.out, Option.getD_none, Option.isSome_none]) | (refine wpList_ilook_ok rfl _ _ 248 rfl 3 Tryz.underlying3 Tryz.underlying248 (by kernel_rfl) T.s n M rfl HA1.out.byS ((a : Int) + (m : Int)) rfl HWe.out ?_; rw [HMb.out, Option.getD_some, Option.isSome_some]))
     refine (drop_any HA1.out HMb.out (by omega) (by omega) (by omega)).mono ?_
     rintro e w2 ⟨rfl, hA2, ht2⟩
     have HA2 := LH hA2
     have HT2 := LH ht2
     clear hA2 ht2
     go_wp2_with fail
     refine (add_any HA2.out hn (by omega) (by omega) (by omega)).mono ?_
     rintro e w3 ⟨rfl, hA3, ht3⟩
     have HA3 := LH hA3
     have HT3 := LH ht3
     clear hA3 ht3
     go_wp2_with fail
     refine HEnd.out a e0 (mdel M ((a : Int) + m)) (mdel E ((a : Int) + m + ((e0 : Int) - ((a : Int) + m)))) _ HFr.out (.inl ⟨rfl, HEa.out⟩) (.inr HMb.out) (fun s _ => rfl) (fun e he => ?_) ?_ (HT1.out.trans (HT2.out.trans HT3.out))
     ·unfold mdel
      rw [if_neg (by omega)]
      by_cases x : e = (a : Int)
      ·rw [if_pos x, x, HEa.out]
      ·rw [if_neg x]
     ·exact HA3.out.cast (by congr 1; omega) (by congr 1; omega)
   | some before =>
    obtain ⟨k1, k2, k3⟩ := (HE.out _ _).1 hea
    have k4 := k3.1
    obtain ⟨s0, rfl⟩ := Int.eq_ofNat_of_zero_le k1
    have HEa := LH hea
    have HMs : Hid (M (s0 : Int) = some ((a : Int) - (s0 : Int))) := LH ((HM.out _ _).2 ⟨by omega, by omega, k3⟩)
    have hsa : (s0 : Int) < (a : Int) := by omega
    clear hea k1 k2 k3 k4
    have HWs := LH (i64wf (x := (s0 : Int)) (by omega) (by omega))
    have HWe2 := LH (i64wf (x := (s0 : Int) + ((m : Int) + ((a : Int) - (s0 : Int)))) (by omega) (by omega))
    have HMb2 : Hid (mdel M s0 ((s0 : Int) + ((m : Int) + ((a : Int) - (s0 : Int)))) = mb) := LH (by
     rw [show (s0 : Int) + ((m : Int) + ((a : Int) - (s0 : Int))) = (a : Int) + m by omega]
     unfold mdel; rw [if_neg (by omega)]; exact HMb.out)
    go_wp2_with (first | (refine wpList_ilook_ok rfl _ _ 248 rfl 3 Tryz.underlying3 Tryz.underlying248 (by kernel_rfl) T.e n E rfl HA1.out.byE (a : Int) rfl HWa.out ?_; rw [HEa.out, Option.getD_some, Option.isSome_some]) | (refine wpList_ilook rfl _ _ 248 rfl 3 Tryz.underlying3 Tryz.underlying248 (by kernel_rfl) T.s n M rfl HA1.out.byS (s0 : Int) rfl HWs.out ?_; rw [HMs.out, Option.getD_some]))
    refine (drop_any HA1.out HMs.out (by omega) (by omega) (by omega)).mono ?_
    rintro e w2 ⟨rfl, hA2, ht2⟩
    have HA2 := LH hA2
    have HT2 := LH ht2
    have f2 : w2.cell? ⟨T.p, 0, none⟩ = some (.map (some T.s)) := HA2.out.row.cell rfl
    clear hA2 ht2
    rcases hbeh with rfl | ⟨e0, rfl, h1, h2⟩
    ·go_wp2_with (refine wpList_ilook_ok rfl _ _ 248 rfl 3 Tryz.underlying3 Tryz.underlying248 (by kernel_rfl) T.s n (mdel M s0) rfl HA2.out.byS ((s0 : Int) + ((m : Int) + ((a : Int) - (s0 : Int)))) rfl HWe2.out ?_; rw [HMb2.out, Option.getD_none, Option.isSome_none])
     refine (add_any HA2.out hn (by omega) (by omega) (by omega)).mono ?_
     rintro e w3 ⟨rfl, hA3, ht3⟩
     have HA3 := LH hA3
     have HT3 := LH ht3
     clear hA3 ht3
     go_wp2_with fail
     refine HEnd.out s0 (a + m) (mdel M s0) (mdel E ((s0 : Int) + ((a : Int) - (s0 : Int)))) _ HFr.out (.inr HEa.out) (.inl ⟨rfl, HMb.out⟩) (fun s hs => ?_) (fun e _ => ?_) ?_ (HT1.out.trans (HT2.out.trans HT3.out))
     ·unfold mdel
      rw [if_neg hs]
      by_cases x : s = (a : Int) + m
      ·rw [if_pos x, x, HMb.out]
      ·rw [if_neg x]
     ·unfold mdel; rw [show (s0 : Int) + ((a : Int) - (s0 : Int)) = a by omega]
     ·exact HA3.out.cast (by congr 1; omega) (by congr 1; omega)
    ·go_wp2_with (refine wpList_ilook_ok rfl _ _ 248 rfl 3 Tryz.underlying3 Tryz.underlying248 (by kernel_rfl) T.s n (mdel M s0) rfl HA2.out.byS ((s0 : Int) + ((m : Int) + ((a : Int) - (s0 : Int)))) rfl HWe2.out ?_; rw [HMb2.out, Option.getD_some, Option.isSome_some])
     refine (drop_any HA2.out HMb2.out (by omega) (by omega) (by omega)).mono ?_
     rintro e w3 ⟨rfl, hA3, ht3⟩
     have HA3 := LH hA3
     have HT3 := LH ht3
     clear hA3 ht3
     go_wp2_with fail
     refine (add_any HA3.out hn (by omega) (by omega) (by omega)).mono ?_
     rintro e w4 ⟨rfl, hA4, ht4⟩
     have HA4 := LH hA4
     have HT4 := LH ht4
     clear hA4 ht4
     go_wp2_with fail
     refine HEnd.out s0 e0 _ _ _ HFr.out (.inr HEa.out) (.inr HMb.out) (fun s hs => ?_) (fun e he => ?_) (HA4.out.cast (M' := mput (mdel (mdel M s0) ((s0 : Int) + ((m : Int) + ((a : Int) - (s0 : Int))))) s0 ((e0 : Int) - s0)) (E' := mput (mdel (mdel E ((s0 : Int) + ((a : Int) - (s0 : Int)))) ((s0 : Int) + ((m : Int) + ((a : Int) - (s0 : Int))) + ((e0 : Int) - ((a : Int) + (m : Int))))) e0 s0) (by congr 1; omega) (by congr 1; omega)) (HT1.out.trans (HT2.out.trans (HT3.out.trans HT4.out)))
     ·unfold mdel
      rw [show (s0 : Int) + ((m : Int) + ((a : Int) - (s0 : Int))) = (a : Int) + m by omega, if_neg hs]
     ·unfold mdel
      rw [if_neg (by omega), show (s0 : Int) + ((a : Int) - (s0 : Int)) = a by omega]
theorem Cells.owned2 {w : World} {base e n size cap : Nat} {a : Option Addr} {xs : List Value} (h : w.ownsRow base e size (.slice a n cap) n xs) : Cells w a xs := by
 rcases h.2 with ⟨_, h0⟩ | ⟨g, cap', cur, hv, _⟩
 ·exact .inl (List.eq_nil_of_length_eq_zero (by have := h.1; rw [h0] at this; simpa using this))
 ·refine .inr ⟨g, 0, by simp at hv; exact hv.1, fun i v hi => ?_⟩
  simp at hv
  obtain ⟨rfl, _⟩ := hv
  have := h.cells (g := g) rfl i v hi
  have ha : (⟨g, 0, none⟩ : Addr).add i = ⟨g, 0 + i, none⟩ := by unfold Addr.add; split <;> simp_all
  rwa [ha] at this
theorem giveR_len (l : List Bool) (a m : Int) : (giveR l a m).1.length = l.length := by
 unfold giveR
 split
 ·rfl
 ·split
  ·rfl
  ·rw [setTo_length]
theorem takeR_len (l : List Bool) (m : Int) : (takeR l m).1.length = l.length := by
 unfold takeR
 split
 ·rfl
 ·split
  ·rfl
  ·rw [setTo_length]
def TakePost (w : World) (T : Tri) (k : Nat) (l : List Bool) (n : Int) : Ending → World → Prop := fun e w' =>
 e = .returned (.tuple #[.int .i64 (takeR l n).2.1, .int .i64 (takeR l n).2.2]) ∧ IxAt w' T (k + 1) (takeR l n).1 ∧ Touch [T.s, T.e] w w'
theorem takeR_arg {l : List Bool} {n : Int} (h : n < 1) : takeR l n = (l, 0, 1) := by unfold takeR; rw [if_pos h]
theorem takeR_none {l : List Bool} {m : Nat} (h : 1 ≤ m) (hp : pick m (runsOf l) = none) : takeR l m = (l, 0, 4) := by
 unfold takeR; rw [if_neg (by omega)]; simp [hp]
theorem takeR_some {l : List Bool} {m : Nat} (h : 1 ≤ m) {x : Sp} (hp : pick m (runsOf l) = some x) : takeR l m = (setTo l x.1 false m, (x.1 : Int), 0) := by
 unfold takeR; rw [if_neg (by omega)]; simp [hp]
theorem best_mem {n : Nat} {A B : List Sp} (h : ∀ x, x ∈ A ↔ x ∈ B) {o : Option Sp} (hb : Best n (fun s k => (s, k) ∈ A) o) : Best n (fun s k => (s, k) ∈ B) o := by
 have : (fun s k => (s, k) ∈ A) = fun s k => (s, k) ∈ B := by funext s k; exact propext (h (s, k))
 rw [← this]; exact hb
theorem best_add {n s0 k0 : Nat} {done : List Sp} {o : Option Sp} (h : Best n (fun s k => (s, k) ∈ done) o) : Best n (fun s k => (s, k) ∈ done ++ [(s0, k0)]) (if better n o s0 k0 then some (s0, k0) else o) :=
 best_step h fun s k => by rw [List.mem_append, List.mem_singleton, Prod.ext_iff]
def bestI : Option Sp → Int
 | none => -1
 | some x => x.1
theorem IMap.look {P : Program} {k t : TypeId} {w : World} {b n : Nat} {M : Int → Option Int} (h : IMap P k w b n M) (hk : P.underlying k = some (.int .i64)) (ht : P.underlying t = some (.map k k)) (hz : (zeroValue k).run P w = .ok (.int .i64 0) w)
  {y c : Int} (hm : M y = some c) : (Instr.lookup t (.map (some b)) (.int .i64 y) false).run P w = .ok (.int .i64 c) w := by
 have hw := h.wf hk hm
 obtain ⟨D, ho, hT⟩ := h
 obtain ⟨c', hrun, hat, _⟩ := ho.lookup_int (int_keyed hk) ht hk hz (keyOf_int_mk hk hw)
 rw [hT.get y, hm] at hat
 have e : c = c' := by injection hat with h1; injection h1
 rw [hrun, e]
theorem take_end {w w' : World} {T : Tri} {n : Nat} {l : List Bool} {M E M' E' : Int → Option Int} {a k m : Nat} (hM : MOf l M) (hE : EOf l E) (hm : 1 ≤ m) (hp : pick m (runsOf l) = some (a, k))
  (hA : MapsAt w' T (n + 1) l.length M' E') (ht : Touch [T.s, T.e] w w')
  (h1 : M' ((a : Int) + m) = if m < k then some ((k : Int) - m) else M ((a : Int) + m)) (h2 : M' a = none) (h3 : ∀ s, s ≠ (a : Int) → s ≠ (a : Int) + m → M' s = M s)
  (h4 : E' ((a : Int) + k) = if m < k then some ((a : Int) + m) else none) (h5 : ∀ e, e ≠ (a : Int) + k → E' e = E e) :
  TakePost w T n l m (.returned (.tuple #[.int .i64 (a : Int), .int .i64 0])) w' := by
 obtain ⟨hr, hk⟩ := pick_run hp
 unfold TakePost
 rw [takeR_some hm hp]
 exact ⟨rfl, ⟨M', E', by rw [setTo_length]; exact hA, take_M hM hr hm hk h1 h2 h3, take_E hE hr hm hk h4 h5⟩, ht⟩
set_option maxHeartbeats 4000000 in
set_option maxRecDepth 20000 in
theorem itake_any {w : World} {T : Tri} {n : Nat} {l : List Bool} (h : IxAt w T n l) (hl : l.length ≤ 1000000000000) (hn : n < 1000000000000) (z : Int) :
  Calls Tryz.prog 334 #[.pointer (some ⟨T.p, 0, none⟩), .int .i64 z] w (TakePost w T n l z) := by
 by_cases hz : z < 1
 ·have HP : Hid (TakePost w T n l z (.returned (.tuple #[.int .i64 0, .int .i64 1])) w) := LH (by unfold TakePost; rw [takeR_arg hz]; exact ⟨rfl, h.mono (by omega), Touch.refl _ _⟩)
  generalize TakePost w T n l z = Post at *
  clear h
  go_enter Tryz.func334, Tryz.ntmps334
  go_wp2_with fail
  exact HP.out
 obtain ⟨m, rfl⟩ := Int.eq_ofNat_of_zero_le (show 0 ≤ z by omega)
 have hm1 : 1 ≤ m := by omega
 have HNone : Hid (pick m (runsOf l) = none → ∀ w', Below w.heap.size w w' → TakePost w T n l m (.returned (.tuple #[.int .i64 0, .int .i64 4])) w') := LH (fun hp w' hb => by
  unfold TakePost; rw [takeR_none hm1 hp]; exact ⟨rfl, (h.mono (by omega)).below hb, Touch.ofBelow hb⟩)
 obtain ⟨M, E, hA, hM, hE⟩ := h
 have HEnd : Hid (∀ (a k : Nat) (M' E' : Int → Option Int) (w' : World), pick m (runsOf l) = some (a, k) → MapsAt w' T (n + 1) l.length M' E' → Touch [T.s, T.e] w w' →
   (M' ((a : Int) + m) = if m < k then some ((k : Int) - m) else M ((a : Int) + m)) → M' a = none → (∀ s, s ≠ (a : Int) → s ≠ (a : Int) + m → M' s = M s) →
   (E' ((a : Int) + k) = if m < k then some ((a : Int) + m) else none) → (∀ e, e ≠ (a : Int) + k → E' e = E e) → TakePost w T n l m (.returned (.tuple #[.int .i64 (a : Int), .int .i64 0])) w') :=
  LH (fun a k M' E' w' hp hA ht h1 h2 h3 h4 h5 => take_end hM hE hm1 hp hA ht h1 h2 h3 h4 h5)
 have e0 : w.cell? ⟨T.p, 0, none⟩ = some (.map (some T.s)) := hA.row.cell rfl
 have HA := LH hA
 have HMO := LH hM
 have HL := LH hl
 clear hA hM hE hl hz
 generalize TakePost w T n l m = Post at *
 have q1 : decide ((m : Int) < 1) = false := by simp; omega
 go_enter Tryz.func334, Tryz.ntmps334
 go_wp2_with (at_range; refine wpList_irange rfl _ 248 rfl 3 Tryz.underlying3 Tryz.underlying248 T.s n M rfl HA.out.byS ?_; intro w0 cnt0 hr0 hg0 hs0)
 have HR0 := LH hr0
 have HB0 := LH (grown_none hg0)
 clear hr0 hg0 hs0
 go_frame
 go_loopw [6] (fun v wr => ∃ (L : Int → Bool) (cnt : Nat) (done rest : List Sp) (o : Option Sp) (b : Int), v = .int .i64 b ∧ b = bestI o ∧ IRange Tryz.prog 3 wr T.s w.heap.size n M L cnt ∧ Below w.heap.size w wr ∧ Part l M L done rest ∧ Best m (fun s k => (s, k) ∈ done) o) (fun _ wr => wr.rangeLeft T.s w.heap.size)
 case atStart => exact ⟨_, _, [], runsOf l, none, -1, rfl, rfl, HR0.out, HB0.out, Part.start HMO.out, fun s k hk => by simp at hk⟩
 case round =>
  obtain ⟨L, cnt, done, rest, o, b, rfl, hbo, hr, hb, hp, hbest⟩ := hrel
  have HR := LH hr
  have HB := LH hb
  have HBo := LH hbo
  have HP := LH hp
  have HBest := LH hbest
  clear hr hb hp hbo hbest
  go_wp2_with (at_next; refine wpList_inext rfl _ rfl 3 Tryz.underlying3 T.s w.heap.size n M _ _ rfl HR.out ?_ ?_)
  ·intro h0
   have hperm := HP.out.finish h0
   have hbb := best_mem (fun x => hperm.mem_iff) HBest.out
   have hpk : pick m (runsOf l) = o := best_one (pick_best (runsOf_is l).rising) hbb
   have HPk := LH hpk
   have HA1 := LH (HA.out.below HB.out)
   have HT1 := LH (Touch.ofBelow (L := [T.s, T.e]) HB.out)
   have f0 : wr.cell? ⟨T.p, 0, none⟩ = some (.map (some T.s)) := HA1.out.row.cell rfl
   clear h0 hperm hbb hpk
   cases o with
   | none =>
    obtain rfl : b = -1 := HBo.out
    go_wp2_with fail
    exact HNone.out HPk.out _ HB.out
   | some x =>
    obtain ⟨a, k⟩ := x
    obtain rfl : b = (a : Int) := HBo.out
    obtain ⟨hr, hk⟩ := pick_run HPk.out
    dsimp only at hr hk
    have hin := runEnds hr
    have HMa : Hid (M (a : Int) = some (k : Int)) := LH ((HMO.out _ _).2 ⟨by omega, by omega, by simpa using hr⟩)
    have hlen := HL.out
    clear hr
    have q2 : decide ((a : Int) < 0) = false := by simp
    have hq := HA1.out.byS.look Tryz.underlying3 (t := 248) Tryz.underlying248 (by kernel_rfl) HMa.out
    by_cases hkm : m < k
    ·go_wp2_with fail
     refine (drop_any HA1.out HMa.out (by omega) (by omega) (by omega)).mono ?_
     rintro e w2 ⟨rfl, hA2, ht2⟩
     have HA2 := LH hA2
     have HT2 := LH ht2
     clear hA2 ht2
     have hkm' : (m : Int) < (k : Int) := by omega
     go_wp2_with fail
     refine (add_any HA2.out hn (by omega) (by omega) (by omega)).mono ?_
     rintro e w3 ⟨rfl, hA3, ht3⟩
     have HA3 := LH hA3
     have HT3 := LH ht3
     clear hA3 ht3
     go_wp2_with fail
     refine HEnd.out a k _ _ _ HPk.out HA3.out (HT1.out.trans (HT2.out.trans HT3.out)) ?_ ?_ (fun s h1 h2 => ?_) ?_ (fun e h1 => ?_)
     ·rw [if_pos hkm]; simp [mput]
     ·unfold mput mdel; rw [if_neg (by omega), if_pos rfl]
     ·unfold mput mdel; rw [if_neg h2, if_neg h1]
     ·rw [if_pos hkm]; unfold mput; rw [if_pos (by omega)]
     ·unfold mput mdel; rw [if_neg (by omega), if_neg h1]
    ·obtain rfl : k = m := by omega
     go_wp2_with fail
     refine (drop_any HA1.out HMa.out (by omega) (by omega) (by omega)).mono ?_
     rintro e w2 ⟨rfl, hA2, ht2⟩
     have HA2 := LH hA2
     have HT2 := LH ht2
     clear hA2 ht2
     go_wp2_with fail
     refine HEnd.out a k _ _ _ HPk.out (HA2.out.mono (by omega)) (HT1.out.trans HT2.out) ?_ ?_ (fun s h1 h2 => ?_) ?_ (fun e h1 => ?_)
     ·rw [if_neg hkm]; unfold mdel; rw [if_neg (by omega)]
     ·unfold mdel; rw [if_pos rfl]
     ·unfold mdel; rw [if_neg h1]
     ·rw [if_neg hkm]; unfold mdel; rw [if_pos rfl]
     ·unfold mdel; rw [if_neg h1]
  ·intro x c w1 cnt1 hwx hwc hL hMx hr1 hlt hg1 hs1 hen
   obtain ⟨s, k, rfl, rfl, _, hp1⟩ := HP.out.step HMO.out hL hMx
   have HP1 := LH hp1
   have HR1 := LH hr1
   have HB1 : Hid (Below w.heap.size w w1) := LH (HB.out.trans (grown_one hg1 (Nat.le_refl _) HB.out.size))
   have HLt := LH hlt
   have f0 : w1.cell? ⟨T.p, 0, none⟩ = some (.map (some T.s)) := (HA.out.below HB1.out).row.cell rfl
   have HBA := LH (best_add (s0 := s) (k0 := k) HBest.out)
   clear hL hMx hr1 hlt hg1 hs1 hwx hwc hp1
   by_cases hkm : m ≤ k
   ·have hkm' : (m : Int) ≤ (k : Int) := by omega
    cases o with
    | none =>
     obtain rfl : b = -1 := HBo.out
     have HN : Hid (Best m (fun a b => (a, b) ∈ done ++ [(s, k)]) (some (s, k))) := LH (by have := HBA.out; rwa [if_pos (by simp [better, hkm])] at this)
     go_wp2_with fail
     go_roundw
     case rel => exact ⟨_, _, _, _, some (s, k), (s : Int), rfl, rfl, HR1.out, HB1.out, HP1.out, HN.out⟩
     case measure => rw [HR1.out.left_eq, HR.out.left_eq]; exact HLt.out
    | some x =>
     obtain ⟨a, d⟩ := x
     obtain rfl : b = (a : Int) := HBo.out
     have hmem : (a, d) ∈ runsOf l := HP.out.perm.mem_iff.1 (List.mem_append_left _ HBest.out.1)
     have hM1 : M (a : Int) = some (d : Int) := (HMO.out _ _).2 ⟨by omega, by omega, by simpa using ((runsOf_is l).mem a d).1 hmem⟩
     have hq := (HA.out.below HB1.out).byS.look Tryz.underlying3 (t := 248) Tryz.underlying248 (by kernel_rfl) hM1
     have q2 : decide ((a : Int) < 0) = false := by simp
     clear hmem hM1
     rcases Nat.lt_trichotomy k d with h1 | h1 | h1
     ·have HN : Hid (Best m (fun a b => (a, b) ∈ done ++ [(s, k)]) (some (s, k))) := LH (by have := HBA.out; rwa [if_pos (by simp [better, hkm]; omega)] at this)
      go_wp2_with fail
      go_roundw
      case rel => exact ⟨_, _, _, _, some (s, k), (s : Int), rfl, rfl, HR1.out, HB1.out, HP1.out, HN.out⟩
      case measure => rw [HR1.out.left_eq, HR.out.left_eq]; exact HLt.out
     ·subst h1
      by_cases h2 : s < a
      ·have HN : Hid (Best m (fun a b => (a, b) ∈ done ++ [(s, k)]) (some (s, k))) := LH (by have := HBA.out; rwa [if_pos (by simp [better, hkm]; omega)] at this)
       go_wp2_with fail
       go_roundw
       case rel => exact ⟨_, _, _, _, some (s, k), (s : Int), rfl, rfl, HR1.out, HB1.out, HP1.out, HN.out⟩
       case measure => rw [HR1.out.left_eq, HR.out.left_eq]; exact HLt.out
      ·have HN : Hid (Best m (fun a b => (a, b) ∈ done ++ [(s, k)]) (some (a, k))) := LH (by have := HBA.out; rwa [if_neg (by simp [better, hkm]; omega)] at this)
       go_wp2_with fail
       go_roundw
       case rel => exact ⟨_, _, _, _, some (a, k), (a : Int), rfl, rfl, HR1.out, HB1.out, HP1.out, HN.out⟩
       case measure => rw [HR1.out.left_eq, HR.out.left_eq]; exact HLt.out
     ·have HN : Hid (Best m (fun a b => (a, b) ∈ done ++ [(s, k)]) (some (a, d))) := LH (by have := HBA.out; rwa [if_neg (by simp [better, hkm]; omega)] at this)
      have q3 : (k == d) = false := by simp; omega
      have q4 : ((k : Int) == (d : Int)) = false := by simp; omega
      go_wp2_with fail
      go_roundw
      case rel => exact ⟨_, _, _, _, some (a, d), (a : Int), rfl, rfl, HR1.out, HB1.out, HP1.out, HN.out⟩
      case measure => rw [HR1.out.left_eq, HR.out.left_eq]; exact HLt.out
   ·have HN : Hid (Best m (fun a b => (a, b) ∈ done ++ [(s, k)]) o) := LH (by have := HBA.out; rwa [if_neg (by simp [better, hkm])] at this)
    have q5 : decide ((m : Int) ≤ (k : Int)) = false := by simp; omega
    go_wp2_with fail
    go_roundw
    case rel => exact ⟨_, _, _, _, o, b, rfl, HBo.out, HR1.out, HB1.out, HP1.out, HN.out⟩
    case measure => rw [HR1.out.left_eq, HR.out.left_eq]; exact HLt.out
end Go.Proofs.YtpopbfagliagnaaGreat
namespace Go.Proofs.YtpopbfagliagnaaGreat
open Go.RowKit
end Go.Proofs.YtpopbfagliagnaaGreat
namespace Go.Proofs.YtpopbfagliagnaaGreat
open Go.RowKit Go.ChangeShapes Go.WideShapes Go.Deep
section
variable {H : Type} {enc : TypeId × Value → H} {P : Program} {w : World} {base : Nat} {spare : Nat → Bool} {held : Bool}
end
def recs {α : Type} (f : α → List Value) (l : List α) : List Value := l.flatMap f
theorem recs_length {α : Type} {f : α → List Value} {n : Nat} (hf : ∀ x, (f x).length = n) (l : List α) : (recs f l).length = l.length * n := by
 induction l with
 | nil => simp [recs]
 | cons x l ih => unfold recs at *; rw [List.flatMap_cons, List.length_append, ih, hf, List.length_cons, Nat.succ_mul, Nat.add_comm]
theorem recs_append {α : Type} (f : α → List Value) (l m : List α) : recs f (l ++ m) = recs f l ++ recs f m := by simp [recs]
theorem recs_at {α : Type} {f : α → List Value} {n : Nat} (hf : ∀ x, (f x).length = n) (d : α) (l : List α) (i : Nat) (hi : i < l.length) : ∀ j v, (f (l.getD i d))[j]? = some v → (recs f l)[i * n + j]? = some v := by
 intro j v hj
 have e : l = l.take i ++ (l[i] :: l.drop (i + 1)) := by simp
 have hl : (recs f (l.take i)).length = i * n := by rw [recs_length hf, List.length_take, Nat.min_eq_left (by omega)]
 have hg : l.getD i d = l[i] := by simp [hi]
 rw [hg] at hj
 have hj3 : j < (f l[i]).length := (List.getElem?_eq_some_iff.1 hj).1
 rw [e, recs_append, List.getElem?_append_right (by omega), hl, show i * n + j - i * n = j by omega]
 unfold recs
 rw [List.flatMap_cons, List.getElem?_append_left hj3]
 exact hj
theorem recs_cells {α : Type} {f : α → List Value} {n : Nat} (hf : ∀ x, (f x).length = n) (hn : 0 < n) (d : α) {w : World} {a : Option Addr} {l : List α} (h : Cells w a (recs f l)) {j : Nat} (hj : j < l.length) :
  ∃ b off, a = some ⟨b, off, none⟩ ∧ b < w.heap.size ∧ ∀ i v, (f (l.getD j d))[i]? = some v → w.cell? ⟨b, off + j * n + i, none⟩ = some v := by
 have hl := recs_length hf l
 have hlt : 0 < (recs f l).length := by rw [hl]; exact Nat.mul_pos (by omega) hn
 obtain ⟨b, off, rfl, hb, hc⟩ := h.at hlt
 refine ⟨b, off, rfl, hb, fun i v hi => ?_⟩
 rw [Nat.add_assoc]
 exact hc _ _ (recs_at hf d l j hj i v hi)
section
variable {H : Type} {enc : TypeId × Value → H} {P : Program} {w : World} {base : Nat} {spare : Nat → Bool} {held : Bool}
theorem elems_read {t e : TypeId} {size : Nat} {fuel : Nat} {v : Value} {y : DataW H × List MemPlace} (ht : P.underlying t = some (.slice e)) (hC : P.cellsOf e = size) (hpos : 0 < size) (h : DataW.trod enc P w base spare held fuel t [v] = some y) :
  ∃ (a : Option Addr) (len cap m : Nat), v = .slice a len cap ∧ len ≤ cap ∧ cap ≤ maxLen ∧ (len = 0 ∨ ∃ b off, a = some ⟨b, off, none⟩ ∧ ∀ i, i < len →
   ∃ (us : List Value) (z : DataW H × List MemPlace), us.length = size ∧ (∀ r u, us[r]? = some u → w.cell? ⟨b, off + i * size + r, none⟩ = some u) ∧ DataW.trod enc P w base spare held m e us = some z) := by
 rcases open_slice ht h with ⟨hcs, _⟩ | ⟨a, len, cap, m, n, D, Pl, hcs, _, hl, hm, hmm, _, hi⟩
 ·simp at hcs
  exact ⟨none, 0, 0, 0, hcs, Nat.le_refl _, Nat.zero_le _, .inl rfl⟩
 ·simp at hcs
  have hlm : len ≤ m := by rw [hmm]; split <;> omega
  by_cases h0 : len = 0
  ·exact ⟨some a, len, cap, 0, hcs, hl, hm, .inl h0⟩
  have each : ∀ i, i < len → ∃ (us : List Value) (z : DataW H × List MemPlace), us.length = size ∧ (∀ r u, us[r]? = some u → w.cell? ((a.add (i * size)).add r) = some u) ∧ DataW.trod enc P w base spare held n e us = some z := by
   intro i hil
   obtain ⟨cs', hc, ht'⟩ := hi i (by omega)
   rw [hC] at hc
   obtain ⟨_, hcl, hat⟩ := World.cells?_some hc
   have hz : ∃ z, DataW.trod enc P w base spare held n e cs' = some z := ⟨_, ht'⟩
   obtain ⟨z, hz⟩ := hz
   refine ⟨cs', z, hcl, fun r u hr => ?_, hz⟩
   have hrl : r < size := by have := (List.getElem?_eq_some_iff.1 hr).1; omega
   rw [hat r hrl, hr]
  obtain ⟨us, z, h1, h2, _⟩ := each 0 (by omega)
  obtain ⟨b, off, spot⟩ := a
  have hus : us[0]? = some (us[0]'(by omega)) := List.getElem?_eq_getElem (by omega)
  have h20 := h2 0 _ hus
  have hspot : spot = none := by
   have := World.cell?_spot h20
   simpa [Addr.add] using this
  subst hspot
  refine ⟨_, len, cap, n, hcs, hl, hm, .inr ⟨b, off, rfl, fun i hil => ?_⟩⟩
  obtain ⟨us, z, h1, h2, h3⟩ := each i hil
  refine ⟨us, z, h1, fun r u hr => ?_, h3⟩
  have := h2 r u hr
  rwa [add_none', add_none'] at this
where
 add_none' (b off j : Nat) : (⟨b, off, none⟩ : Addr).add j = ⟨b, off + j, none⟩ := by unfold Addr.add; split <;> simp_all
end
theorem recs_of {α : Type} {f : α → List Value} {n : Nat} (hf : ∀ x, (f x).length = n) (hn : 0 < n) (d : α) {w : World} {b off len : Nat} {ok : α → Prop}
  (each : ∀ i, i < len → ∃ x : α, (∀ r u, (f x)[r]? = some u → w.cell? ⟨b, off + i * n + r, none⟩ = some u) ∧ ok x) :
  ∃ l : List α, l.length = len ∧ Cells w (some ⟨b, off, none⟩) (recs f l) ∧ ∀ x ∈ l, ok x := by
 haveI : Inhabited α := ⟨d⟩
 obtain ⟨g, hg⟩ := choose_lt each
 refine ⟨(List.range len).map g, by simp, .inr ⟨b, off, rfl, fun i v hi => ?_⟩, fun x hx => ?_⟩
 ·have hlen : i < len * n := by
   have := (List.getElem?_eq_some_iff.1 hi).1
   rw [recs_length hf] at this
   simpa using this
  obtain ⟨q, r, hr, rfl⟩ : ∃ q r, r < n ∧ i = q * n + r := ⟨i / n, i % n, Nat.mod_lt _ hn, by rw [Nat.mul_comm]; exact (Nat.div_add_mod i n).symm⟩
  have hq : q < len := Decidable.byContradiction fun h => by
   have h1 : len ≤ q := by omega
   have := Nat.mul_le_mul_right n h1
   omega
  have hfd : ((List.range len).map g).getD q d = g q := by simp [hq]
  have hx : (f (g q))[r]? = some ((f (g q))[r]'(by rw [hf]; exact hr)) := List.getElem?_eq_getElem (by rw [hf]; exact hr)
  have := recs_at hf d ((List.range len).map g) q (by simpa using hq) r _ (by rw [hfd]; exact hx)
  rw [this] at hi
  cases hi
  rw [← Nat.add_assoc]
  exact (hg q hq).1 r _ hx
 ·rw [List.mem_map] at hx
  obtain ⟨i, hi, rfl⟩ := hx
  exact (hg i (by simpa using hi)).2
end Go.Proofs.YtpopbfagliagnaaGreat
namespace Go.Proofs.YtpopbfagliagnaaGreat
open Go.RowKit
theorem igive_any {w : World} {T : Tri} {n : Nat} {l : List Bool} (h : IxAt w T n l) (hl : l.length ≤ 1000000000000) (hn : n < 1000000000000) (a m : Int) :
  Calls Tryz.prog 248 #[.pointer (some ⟨T.p, 0, none⟩), .int .i64 a, .int .i64 m] w (GivePost w T n l a m) := by
 by_cases hbad : a < 1 ∨ m < 1 ∨ (l.length : Int) ≤ a ∨ (l.length : Int) - a < m
 ·exact igive_arg h hl a m hbad
 ·obtain ⟨a, rfl⟩ := Int.eq_ofNat_of_zero_le (show 0 ≤ a by omega)
  obtain ⟨m, rfl⟩ := Int.eq_ofNat_of_zero_le (show 0 ≤ m by omega)
  exact igive_fit h hl hn a m (by omega)
theorem Tri.two {T : Tri} {B : Nat} (h : ∀ b ∈ T.list, B ≤ b) : ∀ k ∈ [T.s, T.e], B ≤ k := fun k hk => h k (by simp [Tri.list] at hk ⊢; rcases hk with rfl | rfl <;> simp)
structure Op2 where
 a : Int
 b : Int
def Op2.cs (o : Op2) : List Value := [.int .i64 o.a, .int .i64 o.b]
theorem Op2.len (o : Op2) : o.cs.length = 2 := rfl
def fillR : List Op2 → List Bool → List Bool × Int
 | [], l => (l, 0)
 | o :: r, l => if (giveR l o.a o.b).2 = 0 then fillR r (giveR l o.a o.b).1 else (l, (giveR l o.a o.b).2)
theorem drop2 {s : List Op2} {k : Nat} (h : k < s.length) : s.drop k = s.getD k ⟨0, 0⟩ :: s.drop (k + 1) := by
 rw [List.drop_eq_getElem_cons h, List.getD_eq_getElem?_getD, List.getElem?_eq_getElem h]; rfl
def FillPost (w : World) (r : List Bool × Int) : Ending → World → Prop := fun e w' => Below w.heap.size w w' ∧
  ((r.2 = 0 ∧ ∃ (T : Tri) (k : Nat), e = .returned (.tuple #[.pointer (some ⟨T.p, 0, none⟩), .int .i64 0]) ∧ IxAt w' T k r.1 ∧ k ≤ 1000000 ∧ (∀ b ∈ T.list, w.heap.size ≤ b)) ∨
   (r.2 ≠ 0 ∧ e = .returned (.tuple #[.pointer none, .int .i64 r.2])))
set_option maxHeartbeats 4000000 in
set_option maxRecDepth 100000 in
theorem ifill_any (L : Int) (hL : L ≤ 1000000) (a : Option Addr) (m cap : Nat) (s : List Op2) (hm : s.length = m) (w : World) (hcs : Cells w a (recs Op2.cs s)) (hmm : m ≤ 1000000) :
  Calls Tryz.prog 208 #[.int .i64 L, .slice a m cap] w (FillPost w (fillR s (List.replicate L.toNat false))) := by
 have HM := LH hm
 have HCS := LH hcs
 clear hm hcs
 generalize hPo : FillPost w (fillR s (List.replicate L.toNat false)) = Post
 have HPo := LH hPo
 clear hPo
 go_enter Tryz.func208, Tryz.ntmps208
 go_wp2_with fail
 refine (inew_any L _ (by omega)).mono ?_
 rintro e w1 ⟨T, rfl, hT, hi, hb1⟩
 have HT := LH hT
 have HI1 := LH hi
 have HB1 := LH hb1
 obtain ⟨n, hn⟩ : ∃ n, n = L.toNat := ⟨_, rfl⟩
 have hn1 : n ≤ 1000000 := by omega
 rw [← hn] at HI1 HPo
 clear hT hi hb1 hn
 go_wp2_with fail
 go_loopw [14] (fun i wr => ∃ (k : Nat) (l : List Bool), k ≤ m ∧ i = .int .i64 (k : Int) ∧ l.length = n ∧ IxAt wr T k l ∧ Below w.heap.size w wr ∧ fillR s (List.replicate n false) = fillR (s.drop k) l) (fun i _ => m - (intOf i).toNat)
 case atStart => exact ⟨0, List.replicate n false, Nat.zero_le _, rfl, by simp, HI1.out, HB1.out, rfl⟩
 case round =>
  obtain ⟨k, l, hk, rfl, hln, hi, hb, hf⟩ := hrel
  have HI := LH hi
  have HB := LH hb
  have HF := LH hf
  have HLn := LH hln
  clear hi hb hf hln
  by_cases hlt : k < m
  ·have hlt' : (k : Int) < (m : Int) := by omega
   have hkl : k < s.length := by rw [HM.out]; exact hlt
   obtain ⟨b1, o1, rfl, hbl, hcell⟩ := recs_cells Op2.len (by decide) (⟨0, 0⟩ : Op2) (HCS.out.below HB.out (Nat.le_refl _)) hkl
   have hdr := drop2 hkl
   generalize s.getD k ⟨0, 0⟩ = o at *
   obtain ⟨oa, ob⟩ := o
   have HF2 : Hid (fillR s (List.replicate n false) = fillR (⟨oa, ob⟩ :: s.drop (k + 1)) l) := LH (by rw [HF.out, hdr])
   have e0 : wr.cell? ⟨b1, o1 + k * 2, none⟩ = some (.int .i64 oa) := hcell 0 _ rfl
   have e1 : wr.cell? ⟨b1, o1 + k * 2 + 1, none⟩ = some (.int .i64 ob) := hcell 1 _ rfl
   have HBa := LH (HB.out.trans ((below_alloc wr (.cells #[.int .i64 oa, .int .i64 ob] 286)).mono HB.out.size))
   have HIa := LH (HI.out.below (below_alloc wr (.cells #[.int .i64 oa, .int .i64 ob] 286)))
   have HMa := LH (Mem.one wr #[.int .i64 oa, .int .i64 ob] 286)
   have hk1 : k < 1000000000000 := by omega
   clear hcell hkl hdr HF
   go_upto_region 5 with fail
   generalize wr.alloc _ = wa at *
   have d0 := HMa.out.cell 0 0 rfl rfl
   have d1 := HMa.out.cell 0 1 rfl rfl
   go_wp2_with fail
   refine (igive_any HIa.out (by rw [HLn.out]; omega) hk1 oa ob).mono ?_
   rintro e w3 ⟨rfl, hi3, ht3⟩
   have HL3 : Hid ((giveR l oa ob).1.length = n) := LH (by rw [giveR_len]; exact HLn.out)
   have HF3 : Hid (fillR s (List.replicate n false) = if (giveR l oa ob).2 = 0 then fillR (s.drop (k + 1)) (giveR l oa ob).1 else (l, (giveR l oa ob).2)) := HF2
   have HB3 : Hid (Below w.heap.size w w3) := LH (below_touched HBa.out ht3 (Tri.two HT.out) (Nat.le_refl _))
   have HI3 := LH hi3
   generalize giveR l oa ob = r at *
   obtain ⟨l3, r2⟩ := r
   dsimp only at HF3 HL3 HI3 ⊢
   clear hi3 ht3 HF2
   by_cases hr : r2 = 0
   ·subst hr
    rw [if_pos rfl] at HF3
    go_wp2_with fail
    go_roundw
    case rel => exact ⟨k + 1, l3, by omega, vint (by omega), HL3.out, HI3.out, HB3.out, HF3.out⟩
    case measure => simp [intOf]; omega
   ·rw [if_neg hr] at HF3
    have hr' : (r2 != 0) = true := by simpa using hr
    have HEnd : Hid (FillPost w (fillR s (List.replicate n false)) (.returned (.tuple #[.pointer none, .int .i64 r2])) w3) := LH (by rw [HF3.out]; exact ⟨HB3.out, .inr ⟨hr, rfl⟩⟩)
    rw [HPo.out] at HEnd
    clear hr
    go_wp2_with fail
    exact HEnd.out
  ·obtain rfl : k = m := by omega
   have hlt' : decide ((k : Int) < (k : Int)) = false := by simp
   have hdr : s.drop k = [] := List.drop_of_length_le (by rw [HM.out]; exact Nat.le_refl _)
   have HEnd : Hid (FillPost w (fillR s (List.replicate n false)) (.returned (.tuple #[.pointer (some ⟨T.p, 0, none⟩), .int .i64 0])) wr) := LH (by
    rw [HF.out, hdr]; exact ⟨HB.out, .inl ⟨rfl, T, k, rfl, HI.out, hmm, HT.out⟩⟩)
   rw [HPo.out] at HEnd
   clear hlt hdr
   go_wp2_with fail
   exact HEnd.out
end Go.Proofs.YtpopbfagliagnaaGreat
namespace Go.Proofs.YtpopbfagliagnaaGreat
def contTo (l : List Hd) (b : Nat) : Nat → Bool
 | 0 => true
 | n + 1 => contTo l b n && (n == 0 || decide (l.getD (b + n) default = ⟨3, 0, n⟩))
def wholeN (l : List Hd) (b : Nat) : Nat :=
 if l.length ≤ b ∨ (l.getD b default).k ≠ 2 ∨ (l.getD b default).l < 1 ∨ (l.length : Int) - b < (l.getD b default).l then 0
 else if contTo l b (l.getD b default).l.toNat then (l.getD b default).l.toNat else 0
theorem contTo_at {l : List Hd} {b : Nat} : ∀ {n : Nat}, contTo l b n = true → ∀ i, 1 ≤ i → i < n → l.getD (b + i) default = ⟨3, 0, i⟩
 | 0, _, i, h1, h2 => by omega
 | n + 1, h, i, h1, h2 => by
  rw [contTo, Bool.and_eq_true] at h
  by_cases e : i = n
  ·subst e
   have := h.2
   simp at this
   rcases this with h0 | h0
   ·omega
   ·exact h0
  ·exact contTo_at h.1 i h1 (by omega)
theorem contTo_of {l : List Hd} {b : Nat} : ∀ {n : Nat}, (∀ i, 1 ≤ i → i < n → l.getD (b + i) default = ⟨3, 0, i⟩) → contTo l b n = true
 | 0, _ => rfl
 | n + 1, h => by
  rw [contTo, contTo_of (fun i h1 h2 => h i h1 (by omega)), Bool.true_and]
  by_cases e : n = 0
  ·simp [e]
  ·rw [h n (by omega) (by omega)]; simp
def soundN (l : List Hd) : Nat → Nat → Nat
 | 0, _ => 0
 | f + 1, b => if l.length ≤ b then 0 else if (l.getD b default).k = 2 then (if wholeN l b = 0 then b else soundN l f (b + wholeN l b)) else if (l.getD b default).k = 3 then b else soundN l f (b + 1)
def freeL (ks : Nat → Bool) (B b : Nat) : List Bool := (List.range B).map fun i => decide (1 ≤ i) && decide (i < b) && ks i
theorem freeL_len (ks : Nat → Bool) (B b : Nat) : (freeL ks B b).length = B := by simp [freeL]
theorem freeL_fb (ks : Nat → Bool) (B b i : Nat) : fb (freeL ks B b) i = true ↔ i < B ∧ 1 ≤ i ∧ i < b ∧ ks i = true := by
 unfold fb freeL
 by_cases h : i < B
 ·simp [h, and_assoc]
 ·simp [h]
theorem setTo_tt {l : List Bool} {a m : Nat} (h : a + m ≤ l.length) (b : Nat) : fb (setTo l a true m) b = true ↔ (a ≤ b ∧ b < a + m) ∨ fb l b = true := by
 rw [setTo_fb _ _ _ _ h]
 by_cases c : a ≤ b ∧ b < a + m
 ·rw [if_pos c]; simp [c]
 ·rw [if_neg c]; simp [c]
theorem setTo_ff {l : List Bool} {a m : Nat} (h : a + m ≤ l.length) (b : Nat) : fb (setTo l a false m) b = true ↔ ¬ (a ≤ b ∧ b < a + m) ∧ fb l b = true := by
 rw [setTo_fb _ _ _ _ h]
 by_cases c : a ≤ b ∧ b < a + m
 ·rw [if_pos c]; simp [c]
 ·rw [if_neg c]; simp only [c, not_false_eq_true, true_and]
theorem fb_no {l : List Bool} {b : Nat} (h : ¬ fb l b = true) : fb l b = false := by simpa using h
def op2s (l : List Sp) : List Op2 := l.map fun x => ⟨x.1, x.2⟩
theorem op2s_cs (l : List Sp) : recs Op2.cs (op2s l) = spCs l := by
 induction l with
 | nil => rfl
 | cons x l ih => simp only [recs, op2s, spCs, List.map_cons, List.flatMap_cons] at *; rw [ih]; rfl
theorem fillR_cons (o : Op2) (r : List Op2) (l : List Bool) : fillR (o :: r) l = if (giveR l o.a o.b).2 = 0 then fillR r (giveR l o.a o.b).1 else (l, (giveR l o.a o.b).2) := rfl
theorem fillR_append (s t : List Op2) : ∀ l, (fillR s l).2 = 0 → fillR (s ++ t) l = fillR t (fillR s l).1 := by
 induction s with
 | nil => intro l _; rfl
 | cons o r ih =>
  intro l h
  rw [List.cons_append]
  rw [fillR_cons] at h
  rw [fillR_cons, fillR_cons]
  by_cases c : (giveR l o.a o.b).2 = 0
  ·rw [if_pos c] at h
   rw [if_pos c, if_pos c]
   exact ih _ h
  ·rw [if_neg c] at h
   exact absurd h c
theorem fillR_one (l : List Bool) (s n : Nat) : fillR [⟨s, n⟩] l = if (giveR l s n).2 = 0 then ((giveR l s n).1, 0) else (l, (giveR l s n).2) := by
 unfold fillR
 split
 ·rfl
 ·rfl
theorem anyFree_none {l : List Bool} {a m : Nat} (h : ∀ b, a ≤ b → b < a + m → fb l b = false) : anyFree l a m = false := by
 cases hq : anyFree l a m with
 | false => rfl
 | true =>
  obtain ⟨b, h1, h2, h3⟩ := anyFree_true hq
  rw [h b h1 h2] at h3
  cases h3
theorem fb_same {a b : List Bool} (hl : a.length = b.length) (h : ∀ i, fb a i = fb b i) : a = b := by
 apply List.ext_getElem hl
 intro i h1 h2
 have := h i
 unfold fb at this
 simpa [h1, h2] using this
theorem span_in (ks : Nat → Bool) (b : Nat) : ∀ x ∈ spanL ks b, 1 ≤ x.1 ∧ 1 ≤ x.2 ∧ x.1 + x.2 ≤ b := by
 induction b with
 | zero => intro x hx; simp [spanL] at hx
 | succ b ih =>
  by_cases h0 : b = 0
  ·subst h0; intro x hx; simp [spanL] at hx
  intro x hx
  rcases span_round ks b (by omega) with ⟨_, h2⟩ | ⟨_, _, _, l, s, n, h2, h3, h4⟩ | ⟨_, _, h2, h3⟩ | ⟨_, _, l, s, n, h2, h3, h4⟩
  ·rw [h2] at hx
   have := ih x hx
   omega
  ·rw [h4, List.mem_append, List.mem_singleton] at hx
   rcases hx with hx | rfl
   ·have := ih x (by rw [h2]; exact List.mem_append_left _ hx)
    omega
   ·have := ih (s, n) (by rw [h2]; simp)
    dsimp only at this ⊢
    omega
  ·rw [h3, List.mem_singleton] at hx
   subst hx
   dsimp only
   omega
  ·rw [h4, List.mem_append, List.mem_singleton] at hx
   rcases hx with hx | rfl
   ·have := ih x (by rw [h2]; exact hx)
    omega
   ·dsimp only
    omega
theorem fb_same' {a b : List Bool} (hl : a.length = b.length) (h : ∀ i, fb a i = true ↔ fb b i = true) : a = b := fb_same hl fun i => Bool.eq_iff_iff.2 (h i)
theorem fill_none (l' : List Op2) : ∀ (L : List Bool), (fillR l' L).2 ≠ 0 → ∀ t, (fillR (l' ++ t) L).2 ≠ 0 := by
 induction l' with
 | nil => intro L h; exact absurd rfl h
 | cons o r ih' =>
  intro L h t
  rw [List.cons_append, fillR_cons]
  rw [fillR_cons] at h
  by_cases c : (giveR L o.a o.b).2 = 0
  ·rw [if_pos c] at h
   rw [if_pos c]
   exact ih' _ h t
  ·rw [if_neg c]
   exact c
theorem fill_new {ks : Nat → Bool} {B b : Nat} (hb : b + 1 ≤ B) (h0 : b ≠ 0) {T : List Bool} (hT : T.length = B) (hf : ∀ i, fb T i = true ↔ i < B ∧ 1 ≤ i ∧ i < b ∧ ks i = true) (hk : ks b = true) :
  giveR T b (1 : Nat) = (freeL ks B (b + 1), 0) := by
 have hn : anyFree T b 1 = false := anyFree_none (fun i h1 h2 => fb_no (fun h => by have := (hf i).1 h; omega))
 rw [giveR_ok ⟨by omega, Nat.le_refl _, by rw [hT]; omega⟩ hn]
 refine Prod.ext_iff.2 ⟨fb_same' (by rw [setTo_length, hT, freeL_len]) (fun i => ?_), rfl⟩
 rw [setTo_tt (by rw [hT]; omega), freeL_fb, hf i]
 by_cases e : i = b
 ·subst e; exact ⟨fun _ => ⟨by omega, by omega, by omega, hk⟩, fun _ => .inl ⟨Nat.le_refl _, by omega⟩⟩
 ·constructor
  ·rintro (h | ⟨h1, h2, h3, h4⟩)
   ·omega
   ·exact ⟨h1, h2, by omega, h4⟩
  ·rintro ⟨h1, h2, h3, h4⟩
   exact .inr ⟨h1, h2, by omega, h4⟩
theorem fill_spans (ks : Nat → Bool) (B : Nat) : ∀ b, b ≤ B → fillR (op2s (spanL ks b)) (List.replicate B false) = (freeL ks B b, 0)
 | 0, _ => by
  have : freeL ks B 0 = List.replicate B false := fb_same (by simp [freeL]) (fun i => by
   rw [fb_no (by rw [freeL_fb]; omega)]
   unfold fb
   simp only [List.getD_eq_getElem?_getD, List.getElem?_replicate]
   split <;> rfl)
  rw [this]; rfl
 | b + 1, hb => by
  have ih := fill_spans ks B b (by omega)
  by_cases h0 : b = 0
  ·subst h0
   have e : freeL ks B (0 + 1) = freeL ks B 0 := fb_same' (by simp [freeL]) (fun i => by rw [freeL_fb, freeL_fb]; omega)
   rw [e, ← ih]; rfl
  rcases span_round ks b (by omega) with ⟨h1, h2⟩ | ⟨h1, _, _, l, s, n, h2, h3, h4⟩ | ⟨h1, _, h2, h3⟩ | ⟨h1, _, l, s, n, h2, h3, h4⟩
  ·rw [h2, ih]
   refine Prod.ext_iff.2 ⟨fb_same' (by simp [freeL]) (fun i => ?_), rfl⟩
   rw [freeL_fb, freeL_fb]
   constructor
   ·rintro ⟨a1, a2, a3, a4⟩; exact ⟨a1, a2, by omega, a4⟩
   ·rintro ⟨a1, a2, a3, a4⟩
    refine ⟨a1, a2, ?_, a4⟩
    have : i ≠ b := by rintro rfl; rw [h1] at a4; cases a4
    omega
  ·have hx := span_in ks b (s, n) (by rw [h2]; simp)
   dsimp only at hx
   rw [h2] at ih
   rw [h4]
   have happ : ∀ x : Sp, op2s (l ++ [x]) = op2s l ++ [⟨x.1, x.2⟩] := fun x => by simp [op2s]
   have hp : (fillR (op2s l) (List.replicate B false)).2 = 0 := by
    apply Decidable.byContradiction
    intro hne
    have h5 := fill_none _ _ hne [⟨((s, n) : Sp).1, ((s, n) : Sp).2⟩]
    rw [← happ, ih] at h5
    exact h5 rfl
   rw [happ, fillR_append _ _ _ hp] at ih
   rw [happ, fillR_append _ _ _ hp]
   dsimp only at ih ⊢
   generalize (fillR (op2s l) (List.replicate B false)).1 = T0 at *
   rw [fillR_one] at ih ⊢
   have hg0 : (giveR T0 s n).2 = 0 := by
    apply Decidable.byContradiction
    intro hne
    rw [if_neg hne] at ih
    exact hne (congrArg Prod.snd ih)
   rw [if_pos hg0] at ih
   have hT := congrArg Prod.fst ih
   dsimp only at hT
   have hcase : 1 ≤ s ∧ 1 ≤ n ∧ s + n ≤ T0.length ∧ anyFree T0 s n = false := by
    unfold giveR at hg0
    split at hg0
    ·simp at hg0
    ·rename_i hc
     split at hg0
     ·simp at hg0
     ·rename_i hf
      refine ⟨by omega, by omega, by omega, ?_⟩
      simpa using hf
   obtain ⟨c1, c2, c3, c4⟩ := hcase
   rw [giveR_ok ⟨c1, c2, c3⟩ c4] at hT
   dsimp only at hT
   have hlen : T0.length = B := by have := congrArg List.length hT; rwa [setTo_length, freeL_len] at this
   have hTi : ∀ i, (s ≤ i ∧ i < s + n) ∨ fb T0 i = true ↔ i < B ∧ 1 ≤ i ∧ i < b ∧ ks i = true := fun i => by rw [← setTo_tt c3, hT, freeL_fb]
   have hb0 : fb T0 b = false := fb_no (fun h => by have := (hTi b).1 (.inr h); omega)
   have hn : anyFree T0 s (n + 1) = false := anyFree_none (fun i i1 i2 => by
    by_cases e : i = b
    ·subst e; exact hb0
    ·exact anyFree_false c4 i i1 (by omega))
   rw [giveR_ok ⟨c1, by omega, by omega⟩ hn]
   rw [if_pos rfl]
   refine Prod.ext_iff.2 ⟨fb_same' (by rw [setTo_length, freeL_len, hlen]) (fun i => ?_), rfl⟩
   dsimp only
   rw [setTo_tt (by omega), freeL_fb]
   constructor
   ·rintro (h | h)
    ·by_cases e : i = b
     ·subst e; exact ⟨by omega, by omega, by omega, h1⟩
     ·have := (hTi i).1 (.inl (by omega)); exact ⟨this.1, this.2.1, by omega, this.2.2.2⟩
    ·have := (hTi i).1 (.inr h); exact ⟨this.1, this.2.1, by omega, this.2.2.2⟩
   ·rintro ⟨a1, a2, a3, a4⟩
    by_cases e : i = b
    ·exact .inl (by omega)
    ·rcases (hTi i).2 ⟨a1, a2, by omega, a4⟩ with h | h
     ·exact .inl (by omega)
     ·exact .inr h
  ·rw [h2] at ih
   rw [h3]
   have hr : List.replicate B false = freeL ks B b := congrArg Prod.fst ih
   have h6 := fill_new hb h0 (T := List.replicate B false) (by simp) (fun i => by rw [hr, freeL_fb]) h1
   show fillR [⟨(b : Nat), (1 : Nat)⟩] _ = _
   rw [fillR_one, h6, if_pos rfl]
  ·rw [← h2] at h4
   rw [h4]
   have happ : op2s (spanL ks b ++ [(b, 1)]) = op2s (spanL ks b) ++ [⟨(b : Nat), (1 : Nat)⟩] := by simp [op2s]
   rw [happ, fillR_append _ _ _ (by rw [ih]), ih]
   have h6 := fill_new hb h0 (freeL_len ks B b) (fun i => freeL_fb _ _ _ _) h1
   rw [fillR_one, h6, if_pos rfl]
end Go.Proofs.YtpopbfagliagnaaGreat
namespace Go.Proofs.YtpopbfagliagnaaGreat
open Go.RowKit
set_option maxHeartbeats 400000 in
theorem tspans_any {w : World} {p B : Nat} {F : Foot} {l : List Hd} (h : TabAt w p F B l) (hl : l.length ≤ 1000) :
  Calls Tryz.prog 209 #[.pointer (some ⟨p, 0, none⟩)] w (SpansPost 286 (spansOf l) w) := by
 obtain ⟨g, c, hp, hc, hr, hne⟩ := h.ex
 have c2 : w.cell? ⟨p, 2, none⟩ = some (.slice (some ⟨g, 0, none⟩) l.length c) := cell_of_row _ _ 2 _ _ _ hp
 generalize hP : SpansPost 286 (spansOf l) w = Post
 have HP := LH hP
 have HR := LH hr
 clear hP hp hr h
 go_enter Tryz.func209, Tryz.ntmps209
 go_wp2_with fail
 refine (bspans_any (some ⟨g, 0, none⟩) l.length c l rfl w HR.out.cells hl).mono ?_
 rintro e w1 ⟨v, rfl, h1, h2⟩
 have HZ : Hid (Post (.returned v) w1) := LH (by rw [← HP.out]; exact ⟨v, rfl, h1, h2⟩)
 clear h1 h2
 go_wp2_with fail
 exact HZ.out
theorem fresh_live (ws : List Nat) (m : Nat) : (freshDev ws m).live := ⟨rfl, rfl⟩
theorem fresh_ok (ws : List Nat) (m N : Nat) : (freshDev ws m).ok N := by unfold Dev.ok freshDev; simp
theorem fmt_words {S : Dev} (hv : S.live) (ho : S.ok 100) (B : Nat) (hB2 : 2 ≤ B) (hd : S.cache.length = 8 * S.dirty.length) (hlen : 256 + B ≤ S.cache.length) (b : Nat) (h1 : 1 ≤ b) (h2 : b < B) : devWord (S.fmt B) b = encN b 0 0 0 := by
 obtain ⟨p1, p2, p3, p5, p4⟩ := fmtTo_props hv ho B hlen
 have := (p1.persist 257 (B - 1) (by omega) (by rw [p3, p5]; exact hd) (by rw [p3]; omega)).2
 rw [show ((B - 1 : Nat) : Int) = (B : Int) - 1 by omega] at this
 unfold devWord Dev.fmt
 rw [show ((257 : Nat) : Int) = 257 from rfl] at this
 rw [this, show (256 : Int) + (b : Int) = ((256 + b : Nat) : Int) by omega, peek_in, p4 b h1 h2]
theorem fmt_ok {S : Dev} (hv : S.live) (ho : S.ok 100) (B : Nat) (hB2 : 2 ≤ B) (hd : S.cache.length = 8 * S.dirty.length) (hlen : 256 + B ≤ S.cache.length) : AllOk (devWord (S.fmt B)) B := by
 intro b h1 h2
 rw [fmt_words hv ho B hB2 hd hlen b h1 h2, dec_enc _ _ _ _ right_zero]
theorem fmt_hds {S : Dev} (hv : S.live) (ho : S.ok 100) (B : Nat) (hB2 : 2 ≤ B) (hd : S.cache.length = 8 * S.dirty.length) (hlen : 256 + B ≤ S.cache.length) : hds (devWord (S.fmt B)) B = List.replicate B ⟨0, 0, 0⟩ := by
 apply List.ext_getElem (by simp [hds])
 intro i h1 h2
 simp [hds] at h1
 simp only [hds, List.getElem_map, List.getElem_range, List.getElem_replicate]
 unfold hdF
 split
 ·rfl
 ·rw [fmt_words hv ho B hB2 hd hlen i (by omega) h1, dec_enc _ _ _ _ right_zero]
theorem owned_addr {w : World} {base e size n n' c : Nat} {a : Option Addr} {xs : List Value} (h : w.ownsRow base e size (.slice a n' c) n xs) (x : Addr) (hx : a = some x) : base ≤ x.block := by
 rcases h.2 with ⟨h0, _⟩ | ⟨g, cap, cur, hv, hb, _⟩
 ·simp at h0; rw [h0.1] at hx; cases hx
 ·simp at hv; rw [hv.1] at hx; cases hx; exact hb
theorem contTo_no {l : List Hd} {b i n : Nat} (h1 : 1 ≤ i) (h2 : i < n) (h : l.getD (b + i) default ≠ ⟨3, 0, i⟩) : contTo l b n = false := by
 cases hq : contTo l b n with
 | false => rfl
 | true => exact absurd (contTo_at hq i h1 h2) h
def WholePost (l : List Hd) (b : Nat) (w : World) : Ending → World → Prop := fun e w' => e = .returned (.tuple #[.int .i64 ((wholeN l b : Nat) : Int), .bool (decide (wholeN l b ≠ 0))]) ∧ Below w.heap.size w w'
theorem whole_none {l : List Hd} {b : Nat} {w w' : World} (h : wholeN l b = 0) (hb : Below w.heap.size w w') : WholePost l b w (.returned (.tuple #[.int .i64 0, .bool false])) w' := by
 unfold WholePost; rw [h]; exact ⟨rfl, hb⟩
theorem whole_some {l : List Hd} {b : Nat} {w w' : World} {z : Int} (h : (wholeN l b : Int) = z) (hz : 1 ≤ z) (hb : Below w.heap.size w w') : WholePost l b w (.returned (.tuple #[.int .i64 z, .bool true])) w' := by
 unfold WholePost
 rw [h, decide_eq_true (by omega : wholeN l b ≠ 0)]; exact ⟨rfl, hb⟩
set_option maxHeartbeats 2000000 in
set_option maxRecDepth 20000 in
theorem bwhole_any (a : Option Addr) (n cap : Nat) (l : List Hd) (hn : l.length = n) (w : World) (hc : Cells w a (hdCs l)) (hl : n ≤ 1000) (b : Nat) (hb : b < n) :
  Calls Tryz.prog 184 #[.slice a n cap, .int .i64 (b : Int)] w (WholePost l b w) := by
 have hbl : b < l.length := by rw [hn]; exact hb
 obtain ⟨k, c, z, he⟩ := hdGetD l b
 have HW : Hid (wholeN l b = if k ≠ 2 ∨ z < 1 ∨ (n : Int) - b < z then 0 else if contTo l b z.toNat then z.toNat else 0) := LH (by
  unfold wholeN
  rw [he, hn]
  dsimp only
  by_cases h1 : k ≠ 2 ∨ z < 1 ∨ (n : Int) - b < z
  ·rw [if_pos (.inr h1), if_pos h1]
  ·rw [if_neg h1, if_neg (by rintro (h | h); omega; exact h1 h)])
 obtain ⟨b1, o1, rfl, d0, d1, d2⟩ := hd_cells hc hbl he
 have HC := LH hc
 have HN := LH hn
 have H0 : Hid (wholeN l b = 0 → ∀ w', Below w.heap.size w w' → WholePost l b w (.returned (.tuple #[.int .i64 0, .bool false])) w') := LH (fun h w' => whole_none h)
 have H1 : Hid ((wholeN l b : Int) = z → 1 ≤ z → ∀ w', Below w.heap.size w w' → WholePost l b w (.returned (.tuple #[.int .i64 z, .bool true])) w') := LH (fun h hz w' => whole_some h hz)
 generalize WholePost l b w = Post at *
 clear hc hn he d1
 have hbn : (b : Int) < (n : Int) := by omega
 by_cases hk : k = 2
 case neg =>
  have HE := LH (H0.out (by rw [HW.out, if_pos (.inl hk)]))
  have hk' : (k != 2) = true := by simpa using hk
  clear hk
  go_enter Tryz.func184, Tryz.ntmps184
  go_wp2_with fail
  exact HE.out _ (Below.refl _ _)
 subst hk
 by_cases hz : z < 1
 ·have HE := LH (H0.out (by rw [HW.out, if_pos (.inr (.inl hz))]))
  go_enter Tryz.func184, Tryz.ntmps184
  go_wp2_with fail
  exact HE.out _ (Below.refl _ _)
 by_cases hz2 : (n : Int) - b < z
 ·have HE := LH (H0.out (by rw [HW.out, if_pos (.inr (.inr hz2))]))
  have hw1 : IntKind.i64.wrap ((n : Int) - (b : Int)) = (n : Int) - (b : Int) := IntWalk.i64_in _ (by omega)
  go_enter Tryz.func184, Tryz.ntmps184
  go_wp2_with fail
  exact HE.out _ (Below.refl _ _)
 obtain ⟨m, rfl⟩ := Int.eq_ofNat_of_zero_le (show 0 ≤ z by omega)
 have hm1 : 1 ≤ m := by omega
 have hmn : b + m ≤ n := by omega
 have HW2 : Hid (wholeN l b = if contTo l b m then m else 0) := LH (by rw [HW.out, if_neg (by rintro (h | h | h); exact h rfl; omega; omega)]; rfl)
 have hw1 : IntKind.i64.wrap ((n : Int) - (b : Int)) = (n : Int) - (b : Int) := IntWalk.i64_in _ (by omega)
 clear HW hz hz2
 go_enter Tryz.func184, Tryz.ntmps184
 go_wp2_with fail
 go_loopw [7] (fun i wr => ∃ j : Nat, 1 ≤ j ∧ j ≤ m ∧ i = .int .i64 (j : Int) ∧ contTo l b j = true ∧ Below w.heap.size w wr) (fun i _ => m - (intOf i).toNat)
 case atStart => exact ⟨1, Nat.le_refl _, hm1, rfl, by simp [contTo], Below.refl _ _⟩
 case round =>
  obtain ⟨j, hj1, hjm, rfl, hco, hbe⟩ := hrel
  have HCo := LH hco
  have HB := LH hbe
  clear hco hbe
  by_cases hlt : j < m
  ·have hlt' : (j : Int) < (m : Int) := by omega
   have hin : b + j < n := by omega
   have hin' : (b : Int) + (j : Int) < (n : Int) := by omega
   obtain ⟨k2, c2, z2, he2⟩ := hdGetD l (b + j)
   obtain ⟨b2, o2, hee, e0, e1, e2⟩ := hd_cells (HC.out.below HB.out (Nat.le_refl _)) (by rw [HN.out]; exact hin) he2
   cases hee
   have hto : ((b : Int) + (j : Int)).toNat = b + j := by omega
   have HE2 := LH he2
   clear he2
   by_cases hq : (⟨k2, c2, z2⟩ : Hd) = ⟨3, 0, (j : Int)⟩
   ·have heq : ∀ w', (Op.equalIn 10000 103 (.agg #[.int .i64 k2, .int .i64 c2, .int .i64 z2]) (.agg #[.int .i64 3, .int .i64 0, .int .i64 (j : Int)])).run Tryz.prog w' = .ok true w' := fun w' => equalBh w' _ _ _ _ _ _ _ (by rw [← hd_beq]; simp [hq])
    have hgd := gsBh
    have HCo2 : Hid (contTo l b (j + 1) = true) := LH (by rw [contTo, HCo.out, HE2.out, hq]; simp)
    clear hq
    go_wp2_with fail
    exact ⟨⟨j + 1, by omega, by omega, vint (by omega), HCo2.out, HB.out⟩, by simp [intOf]; omega⟩
   ·have heq : ∀ w', (Op.equalIn 10000 103 (.agg #[.int .i64 k2, .int .i64 c2, .int .i64 z2]) (.agg #[.int .i64 3, .int .i64 0, .int .i64 (j : Int)])).run Tryz.prog w' = .ok false w' := fun w' => equalBh w' _ _ _ _ _ _ _ (by rw [← hd_beq]; simp [hq])
    have hgd := gsBh
    have HE := LH (H0.out (by rw [HW2.out, contTo_no hj1 hlt (by rw [HE2.out]; exact hq)]; rfl))
    clear hq
    go_wp2_with fail
    exact HE.out _ HB.out
  ·obtain rfl : j = m := by omega
   have hlt' : decide ((j : Int) < (j : Int)) = false := by simp
   have HE := LH (H1.out (by rw [HW2.out, HCo.out, if_pos rfl]) (by omega))
   go_wp2_with fail
   exact HE.out _ HB.out
theorem wholeN_le (l : List Hd) (b : Nat) (h : wholeN l b ≠ 0) : b + wholeN l b ≤ l.length := by
 unfold wholeN at h ⊢
 by_cases hc : l.length ≤ b ∨ (l.getD b default).k ≠ 2 ∨ (l.getD b default).l < 1 ∨ (l.length : Int) - b < (l.getD b default).l
 ·rw [if_pos hc] at h; exact absurd rfl h
 ·rw [if_neg hc] at h ⊢
  by_cases hd : contTo l b (l.getD b default).l.toNat = true
  ·rw [if_pos hd]; omega
  ·rw [if_neg hd] at h; exact absurd rfl h
def SoundPost (l : List Hd) (w : World) : Ending → World → Prop := fun e w' => e = .returned (.tuple #[.int .i64 ((soundN l l.length 1 : Nat) : Int), .bool (decide (soundN l l.length 1 = 0))]) ∧ Below w.heap.size w w'
set_option maxHeartbeats 2000000 in
set_option maxRecDepth 20000 in
theorem bsound_any (a : Option Addr) (n cap : Nat) (l : List Hd) (hn : l.length = n) (w : World) (hc : Cells w a (hdCs l)) (hl : n ≤ 1000) :
  Calls Tryz.prog 137 #[.slice a n cap] w (SoundPost l w) := by
 have HC := LH hc
 have HN := LH hn
 have H0 : Hid (soundN l n 1 = 0 → ∀ w', Below w.heap.size w w' → SoundPost l w (.returned (.tuple #[.int .i64 0, .bool true])) w') := LH (fun h w' hb => by
  unfold SoundPost; rw [hn, h]; exact ⟨rfl, hb⟩)
 have H1 : Hid (∀ b : Nat, soundN l n 1 = b → b ≠ 0 → ∀ w', Below w.heap.size w w' → SoundPost l w (.returned (.tuple #[.int .i64 (b : Int), .bool false])) w') := LH (fun b h hne w' hb => by
  unfold SoundPost; rw [hn, h, decide_eq_false hne]; exact ⟨rfl, hb⟩)
 generalize SoundPost l w = Post at *
 clear hc hn
 go_enter Tryz.func137, Tryz.ntmps137
 go_wp2_with fail
 go_loopw [4] (fun i wr => ∃ b f : Nat, 1 ≤ b ∧ b ≤ n + 1 ∧ n ≤ b + f - 1 ∧ i = .int .i64 (b : Int) ∧ soundN l n 1 = soundN l f b ∧ Below w.heap.size w wr) (fun i _ => n + 1 - (intOf i).toNat)
 case atStart => exact ⟨1, n, Nat.le_refl _, by omega, by omega, rfl, rfl, Below.refl _ _⟩
 case round =>
  obtain ⟨b, f, hb1, hbn, hf, rfl, hs, hbe⟩ := hrel
  have HS := LH hs
  have HB := LH hbe
  clear hs hbe
  by_cases hlt : b < n
  ·have hlt' : (b : Int) < (n : Int) := by omega
   obtain ⟨g, rfl⟩ : ∃ g, f = g + 1 := ⟨f - 1, by omega⟩
   obtain ⟨k, c, z, he⟩ := hdGetD l b
   have HC1 := LH (HC.out.below HB.out (Nat.le_refl _))
   have HS2 : Hid (soundN l n 1 = if k = 2 then (if wholeN l b = 0 then b else soundN l g (b + wholeN l b)) else if k = 3 then b else soundN l g (b + 1)) := LH (by
    rw [HS.out, soundN, if_neg (by rw [HN.out]; omega), he])
   have HWh := LH (bwhole_any a n cap l HN.out wr HC1.out hl b hlt)
   have HLe := LH (wholeN_le l b)
   obtain ⟨b1, o1, rfl, d0, d1, d2⟩ := hd_cells HC1.out (by rw [HN.out]; exact hlt) he
   clear he d1 d2
   by_cases h2 : k = 2
   ·subst h2
    have h2' : ((2 : Int) == 2) = true := rfl
    go_wp2_with fail
    refine HWh.out.mono ?_
    rintro e w1 ⟨rfl, hb1⟩
    have HB1 := LH (HB.out.trans (hb1.mono HB.out.size))
    clear hb1
    obtain ⟨q, hq⟩ : ∃ q, q = wholeN l b := ⟨_, rfl⟩
    rw [← hq] at HS2 HLe ⊢
    by_cases hz : q = 0
    ·have hz' : decide (q ≠ 0) = false := by simpa using hz
     have HE := LH (H1.out b (by rw [HS2.out]; simp [hz]) (by omega))
     rw [hz']
     clear hz hq hz'
     go_wp2_with fail
     exact HE.out _ HB1.out
    ·have hz' : decide (q ≠ 0) = true := by simpa using hz
     have hle := HLe.out hz
     rw [HN.out] at hle
     have HS3 : Hid (soundN l n 1 = soundN l g (b + q)) := LH (by rw [HS2.out]; simp [hz])
     rw [hz']
     clear hq hz'
     have hw1 : IntKind.i64.wrap ((q : Int) - 1) = (q : Int) - 1 := IntWalk.i64_in _ (by omega)
     have hw2 : IntKind.i64.wrap ((b : Int) + ((q : Int) - 1)) = (b : Int) + ((q : Int) - 1) := IntWalk.i64_in _ (by omega)
     have hw3 : IntKind.i64.wrap ((b : Int) + ((q : Int) - 1) + 1) = (b : Int) + ((q : Int) - 1) + 1 := IntWalk.i64_in _ (by omega)
     go_wp2_with fail
     exact ⟨⟨b + q, g, by omega, by omega, by omega, vint (by omega), HS3.out, HB1.out⟩, by simp [intOf]; omega⟩
   ·have h2' : (k == 2) = false := by simpa using h2
    by_cases h3 : k = 3
    ·subst h3
     have HE := LH (H1.out b (by rw [HS2.out]; simp) (by omega))
     clear h2
     go_wp2_with fail
     exact HE.out _ HB.out
    ·have h3' : (k == 3) = false := by simpa using h3
     have HS3 : Hid (soundN l n 1 = soundN l g (b + 1)) := LH (by rw [HS2.out]; simp [h2, h3])
     clear h2 h3
     go_wp2_with fail
     exact ⟨⟨b + 1, g, by omega, by omega, by omega, vint (by omega), HS3.out, HB.out⟩, by simp [intOf]; omega⟩
  ·have hlt' : decide ((b : Int) < (n : Int)) = false := by simp; omega
   have HE := LH (H0.out (by
    rw [HS.out]
    cases f with
    | zero => rfl
    | succ f => rw [soundN, if_pos (by rw [HN.out]; omega)]))
   go_wp2_with fail
   exact HE.out _ HB.out
set_option maxHeartbeats 1000000 in
theorem tall_any {w : World} {p g c B : Nat} {F : Foot} {l : List Hd} (h : TabG w p g c F B l) (hB : B ≤ 1000) :
  Calls Tryz.prog 36 #[.pointer (some ⟨p, 0, none⟩)] w fun e w' => ∃ q k, e = .returned (.slice (some ⟨q, 0, none⟩) B k) ∧ w.heap.size ≤ q ∧ B ≤ k ∧ RowAt w' q 103 (hdCs l) ∧ Below w.heap.size w w' := by
 have hb := below_alloc w (.cells #[] 103)
 have ho := World.ownsRow_lit (base := w.heap.size) (e := 103) (size := 3) w #[] 0 (Nat.le_refl _) (by unfold maxLen; omega) rfl
 have HC := LH (h.row.cells.below hb (Nat.le_refl _))
 have c2 : (w.alloc (.cells #[] 103)).cell? ⟨p, 2, none⟩ = some (.slice (some ⟨g, 0, none⟩) B c) := by rw [hb.cell (p := ⟨p, 2, none⟩) h.lt.1]; exact cell_of_row _ _ 2 _ _ _ h.head
 have HL : Hid ((hdCs l).length = B * 3) := LH (by rw [hdCs_length, h.len, Nat.mul_comm])
 have HO := LH ho
 have HB := LH hb
 have hone : Hid (∀ u ∈ hdCs l, u.oneCell' = true) := LH (hdCs_one l)
 have hbase := LH hb.size
 have hn9 : 0 + B < 1000000000000 := by omega
 clear hb ho h
 go_enter Tryz.func36, Tryz.ntmps36
 go_wp2_with (at_builtin; refine wpList_append_cells elHd HO.out HC.out HL.out hone.out hn9 (by decide) hbase.out rfl rfl rfl rfl ?_; intro v2 w2 ho2 hg2 hv2; have HO2 := LH ho2; have HG2 := LH hg2; have HV2 := LH hv2; clear ho2 hg2 hv2)
 go_ret
 have h2 := HO2.out
 rw [Nat.zero_add] at h2
 obtain ⟨q, k, rfl, h3, h4, h5, h6⟩ := owned_new h2 (fun e => by have := (HV2.out e).1; simp at this)
 exact ⟨q, k, rfl, h3, h4, by simpa using h6, below_grownBy HB.out HO.out HG2.out (Nat.le_refl _) (Nat.le_refl _)⟩
def hdRun (n : Nat) : Nat → List Hd
 | 0 => []
 | i + 1 => hdRun n i ++ [if i = 0 then ⟨2, 0, n⟩ else ⟨3, 0, i⟩]
theorem hdRun_len (n : Nat) : ∀ i, (hdRun n i).length = i
 | 0 => rfl
 | i + 1 => by rw [hdRun, List.length_append, hdRun_len n i]; rfl
theorem hdRun_getD (n : Nat) : ∀ i j, j < i → (hdRun n i).getD j default = if j = 0 then ⟨2, 0, n⟩ else ⟨3, 0, j⟩
 | 0, j, h => by omega
 | i + 1, j, h => by
  have hl := hdRun_len n i
  rw [hdRun, List.getD_eq_getElem?_getD]
  by_cases e : j = i
  ·subst e
   rw [List.getElem?_append_right (by omega), hl, Nat.sub_self]
   rfl
  ·rw [List.getElem?_append_left (by omega), ← List.getD_eq_getElem?_getD]
   exact hdRun_getD n i j (by omega)
def RunPost (t n : Nat) (w : World) : Ending → World → Prop := fun e w' => ∃ v, e = .returned v ∧ w'.ownsRow w.heap.size t 3 v n (hdCs (hdRun n n)) ∧ Below w.heap.size w w'
set_option maxHeartbeats 2000000 in
theorem brun_any (n : Nat) (hn : n ≤ 1000) (w : World) : Calls Tryz.prog 335 #[.int .i64 (n : Int)] w (RunPost 103 n w) := by
 generalize hPo : RunPost 103 n w = Post
 have HPo := LH hPo
 clear hPo
 go_enter Tryz.func335, Tryz.ntmps335
 go_wp2_with fail
 go_loopw [3, 6] (fun v i wr => ∃ b : Nat, b ≤ n ∧ i = .int .i64 (b : Int) ∧ wr.ownsRow w.heap.size 103 3 v b (hdCs (hdRun n b)) ∧ Below w.heap.size w wr) (fun _ i _ => n - (intOf i).toNat)
 case atStart => exact ⟨0, Nat.zero_le _, rfl, ⟨rfl, .inl ⟨rfl, rfl⟩⟩, Below.refl _ _⟩
 case round =>
  obtain ⟨b, hbn, rfl, ho, hb⟩ := hrel
  obtain ⟨a1, c1, rfl, hc1, hm1⟩ := owned_form ho
  have HO1 := LH ho
  have HB := LH hb
  clear ho hb
  by_cases hlt : b < n
  ·have hlt' : (b : Int) < (n : Int) := by omega
   have hL9 : b < 1000000000000 := by omega
   have hbase : Hid (w.heap.size ≤ wr.heap.size) := LH HB.out.size
   by_cases h0 : b = 0
   ·subst h0
    have hone : Hid (∀ u ∈ (#[Value.int .i64 2, Value.int .i64 0, Value.int .i64 (n : Int)] : Array Value).toList, u.oneCell' = true) := LH (by intro u hu; simp at hu; rcases hu with rfl | rfl | rfl <;> rfl)
    go_wp2_with (at_builtin; refine wpList_append_new (us := #[.int .i64 2, .int .i64 0, .int .i64 (n : Int)]) elHd HO1.out rfl hone.out hL9 (by decide) hbase.out rfl rfl rfl (by simp [Act.eval]) ?_; intro g6 c6 w6 ho6 hg6 hc6 hm6 hb6 hl6; have HO6 := LH ho6; have HG6 := LH hg6; clear ho6 hg6)
    exact ⟨⟨1, by omega, vint (by omega), HO6.out, below_grownBy HB.out HO1.out HG6.out (Nat.le_refl _) (Nat.le_refl _)⟩, by simp [intOf]; omega⟩
   ·have h0' : ((b : Int) == 0) = false := by simp; omega
    have hone : Hid (∀ u ∈ (#[Value.int .i64 3, Value.int .i64 0, Value.int .i64 (b : Int)] : Array Value).toList, u.oneCell' = true) := LH (by intro u hu; simp at hu; rcases hu with rfl | rfl | rfl <;> rfl)
    have HS : Hid (hdCs (hdRun n (b + 1)) = hdCs (hdRun n b) ++ [Value.int .i64 3, Value.int .i64 0, Value.int .i64 (b : Int)]) := LH (by rw [hdRun, if_neg h0, hdCs_append]; rfl)
    go_wp2_with (at_builtin; refine wpList_append_new (us := #[.int .i64 3, .int .i64 0, .int .i64 (b : Int)]) elHd HO1.out rfl hone.out hL9 (by decide) hbase.out rfl rfl rfl (by simp [Act.eval]) ?_; intro g6 c6 w6 ho6 hg6 hc6 hm6 hb6 hl6; have HO6 := LH ho6; have HG6 := LH hg6; clear ho6 hg6)
    exact ⟨⟨b + 1, by omega, vint (by omega), by rw [HS.out]; exact HO6.out, below_grownBy HB.out HO1.out HG6.out (Nat.le_refl _) (Nat.le_refl _)⟩, by simp [intOf]; omega⟩
  ·obtain rfl : b = n := by omega
   have hlt' : decide ((b : Int) < (b : Int)) = false := by simp
   go_wp2_with fail
   rw [← HPo.out]
   exact ⟨_, rfl, HO1.out, HB.out⟩
structure MF where
 m : Nat
 t : Nat
 g : Nat
 c : Nat
 F : Foot
 T : Tri
def MF.list (X : MF) : List Nat := X.m :: X.t :: X.T.p :: X.g :: X.T.s :: X.T.e :: X.F.list
def MF.hot (X : MF) : List Nat := X.g :: X.T.s :: X.T.e :: X.F.list
structure Bm where
 dev : Dev
 list : List Hd
 free : List Bool
structure ManAt (w : World) (X : MF) (n B : Nat) (m : Bm) : Prop where
 head : w.heap[X.m]? = some (.cells #[.pointer (some ⟨X.t, 0, none⟩), .pointer (some ⟨X.T.p, 0, none⟩), .int .i64 (B : Int)] 87 (0, 0))
 tab : TabG w X.t X.g X.c X.F B m.list
 dev : DevAt w X.F m.dev
 ix : IxAt w X.T n m.free
 lenF : m.free.length = B
 nd : X.list.Nodup
theorem ManAt.mem {w : World} {X : MF} {n B : Nat} {m : Bm} (h : ManAt w X n B m) : ∀ k ∈ X.list, k < w.heap.size := by
 intro k hk
 have h1 := h.ix.mem
 simp only [Tri.list, List.mem_cons, List.not_mem_nil, or_false, forall_eq_or_imp, forall_eq] at h1
 simp only [MF.list, List.mem_cons] at hk
 rcases hk with rfl | rfl | rfl | rfl | rfl | rfl | hk
 ·exact (Array.getElem?_eq_some_iff.1 h.head).1
 ·exact h.tab.lt.1
 ·exact h1.1
 ·exact h.tab.lt.2
 ·exact h1.2.1
 ·exact h1.2.2
 ·exact h.dev.mem k hk
theorem ManAt.keep {w w' : World} {X : MF} {n B : Nat} {m : Bm} (h : ManAt w X n B m) (hk : ∀ k ∈ X.list, w'.heap[k]? = w.heap[k]?) : ManAt w' X n B m := by
 have e : ∀ k ∈ X.F.list, k ∈ X.list := fun k hk => by simp only [MF.list, List.mem_cons]; simp [hk]
 have e2 : ∀ k ∈ X.T.list, k ∈ X.list := fun k hk => by
  simp only [Tri.list, List.mem_cons, List.not_mem_nil, or_false] at hk
  simp only [MF.list, List.mem_cons]
  rcases hk with rfl | rfl | rfl <;> simp
 exact ⟨(hk X.m (by simp [MF.list])).trans h.head, h.tab.keep (hk X.t (by simp [MF.list])) (hk X.g (by simp [MF.list])), h.dev.keep (fun k hk' => hk k (e k hk')), h.ix.keep (fun k hk' => hk k (e2 k hk')), h.lenF, h.nd⟩
theorem ManAt.below {w w' : World} {X : MF} {n B : Nat} {m : Bm} (h : ManAt w X n B m) (hb : Below w.heap.size w w') : ManAt w' X n B m := h.keep (fun k hk => hb.block k (h.mem k hk))
theorem ManAt.mono {w : World} {X : MF} {n n' B : Nat} {m : Bm} (h : ManAt w X n B m) (hn : n ≤ n') : ManAt w X n' B m := by
 obtain ⟨M, E, h1, h2⟩ := h.ix
 exact { h with ix := ⟨M, E, h1.mono hn, h2⟩ }
structure MF.Apart (X : MF) : Prop where
 m : X.m ∉ X.hot
 t : X.t ∉ X.hot
 p : X.T.p ∉ X.hot
 g : X.g ∉ X.F.list
 gs : X.g ≠ X.T.s
 ge : X.g ≠ X.T.e
 s : X.T.s ∉ X.F.list
 e : X.T.e ∉ X.F.list
theorem MF.apart {X : MF} (h : X.list.Nodup) : X.Apart := by
 simp only [MF.list, List.nodup_cons, List.mem_cons, not_or] at h
 obtain ⟨⟨m1, m2, m3, m4, m5, m6⟩, ⟨t1, t2, t3, t4, t5⟩, ⟨p1, p2, p3, p4⟩, ⟨g1, g2, g3⟩, ⟨s1, s2⟩, e1, _⟩ := h
 refine ⟨?_, ?_, ?_, g3, g1, g2, s2, e1⟩
 all_goals simp only [MF.hot, List.mem_cons, not_or]
 ·exact ⟨m3, m4, m5, m6⟩
 ·exact ⟨t2, t3, t4, t5⟩
 ·exact ⟨p1, p2, p3, p4⟩
theorem MF.hotF {X : MF} {k : Nat} (h : k ∈ X.F.list) : k ∈ X.hot := by simp only [MF.hot, List.mem_cons]; simp [h]
theorem MF.hot_sub {X : MF} {k : Nat} (h : k ∈ X.hot) : k ∈ X.list := by
 simp only [MF.hot, List.mem_cons] at h
 simp only [MF.list, List.mem_cons]
 rcases h with h | h | h | h <;> simp [h]
theorem ManAt.lt {w : World} {X : MF} {n B : Nat} {m : Bm} (h : ManAt w X n B m) {k : Nat} (hk : w.heap.size ≤ k) : k ∉ X.hot := fun hm => by
 have := h.mem k (MF.hot_sub hm)
 omega
theorem MF.notHot {X : MF} {k : Nat} (h : k ∉ X.hot) : k ≠ X.g ∧ k ≠ X.T.s ∧ k ≠ X.T.e ∧ k ∉ X.F.list := by simpa only [MF.hot, List.mem_cons, not_or] using h
theorem ManAt.put {w w' : World} {X : MF} {n B : Nat} {m : Bm} (h : ManAt w X n B m) {d : Dev} {l : List Hd} (hd : DevAt w' X.F d) (ht : TabG w' X.t X.g X.c X.F B l) (hh : Touch (X.g :: X.F.list) w w') : ManAt w' X n B ⟨d, l, m.free⟩ ∧ Touch X.hot w w' := by
 have ap := MF.apart h.nd
 have h1 := MF.notHot ap.m
 have h2 := MF.notHot ap.p
 have hm := h.mem
 refine ⟨⟨?_, ht, hd, h.ix.keep (fun k hk => ?_), h.lenF, h.nd⟩, hh.wide (fun b hb => ?_)⟩
 ·exact (hh.block X.m (hm _ (by simp [MF.list])) (by simp only [List.mem_cons, not_or]; exact ⟨h1.1, h1.2.2.2⟩)).trans h.head
 ·simp only [Tri.list, List.mem_cons, List.not_mem_nil, or_false] at hk
  rcases hk with rfl | rfl | rfl
  ·exact hh.block _ (hm _ (by simp [MF.list])) (by simp only [List.mem_cons, not_or]; exact ⟨h2.1, h2.2.2.2⟩)
  ·exact hh.block _ (hm _ (by simp [MF.list])) (by simp only [List.mem_cons, not_or]; exact ⟨fun e => ap.gs e.symm, ap.s⟩)
  ·exact hh.block _ (hm _ (by simp [MF.list])) (by simp only [List.mem_cons, not_or]; exact ⟨fun e => ap.ge e.symm, ap.e⟩)
 ·rcases List.mem_cons.1 hb with rfl | hb
  ·simp [MF.hot]
  ·exact MF.hotF hb
theorem ManAt.setIx {w w' : World} {X : MF} {n n' B : Nat} {m : Bm} (h : ManAt w X n B m) {f : List Bool} (hi : IxAt w' X.T n' f) (hf : f.length = B) (hh : Touch [X.T.s, X.T.e] w w') : ManAt w' X n' B ⟨m.dev, m.list, f⟩ ∧ Touch X.hot w w' := by
 have ap := MF.apart h.nd
 have h1 := MF.notHot ap.m
 have h2 := MF.notHot ap.t
 have hm := h.mem
 refine ⟨⟨?_, h.tab.keep ?_ ?_, h.dev.keep (fun k hk => ?_), hi, hf, h.nd⟩, hh.wide (fun b hb => by simp only [List.mem_cons, List.not_mem_nil, or_false] at hb; rcases hb with rfl | rfl <;> simp [MF.hot])⟩
 ·exact (hh.block X.m (hm _ (by simp [MF.list])) (by simp; exact ⟨h1.2.1, h1.2.2.1⟩)).trans h.head
 ·exact hh.block _ (hm _ (by simp [MF.list])) (by simp; exact ⟨h2.2.1, h2.2.2.1⟩)
 ·exact hh.block _ (hm _ (by simp [MF.list])) (by simp; exact ⟨ap.gs, ap.ge⟩)
 ·exact hh.block _ (h.dev.mem k hk) (by simp; exact ⟨fun e => ap.s (e ▸ hk), fun e => ap.e (e ▸ hk)⟩)
def TakenM (w : World) (X : MF) (n B : Nat) (m : Bm) (z : Int) : Ending → World → Prop := fun e w' =>
 e = .returned (.tuple #[.int .i64 (takeR m.free z).2.1, .int .i64 (takeR m.free z).2.2]) ∧ ManAt w' X (n + 1) B ⟨m.dev, m.list, (takeR m.free z).1⟩ ∧ Touch X.hot w w'
theorem mtake_any {w : World} {X : MF} {n B : Nat} {m : Bm} (h : ManAt w X n B m) (hB : B ≤ 1000) (hn : n < 1000000000000) (z : Int) :
  Calls Tryz.prog 334 #[.pointer (some ⟨X.T.p, 0, none⟩), .int .i64 z] w (TakenM w X n B m z) := by
 refine (itake_any h.ix (by rw [h.lenF]; omega) hn z).mono ?_
 rintro e w' ⟨rfl, hi, ht⟩
 exact ⟨rfl, h.setIx hi (by rw [takeR_len, h.lenF]) ht⟩
def GivenM (w : World) (X : MF) (n B : Nat) (m : Bm) (a z : Int) : Ending → World → Prop := fun e w' =>
 e = .returned (.int .i64 (giveR m.free a z).2) ∧ ManAt w' X (n + 1) B ⟨m.dev, m.list, (giveR m.free a z).1⟩ ∧ Touch X.hot w w'
theorem mgive_any {w : World} {X : MF} {n B : Nat} {m : Bm} (h : ManAt w X n B m) (hB : B ≤ 1000) (hn : n < 1000000000000) (a z : Int) :
  Calls Tryz.prog 248 #[.pointer (some ⟨X.T.p, 0, none⟩), .int .i64 a, .int .i64 z] w (GivenM w X n B m a z) := by
 refine (igive_any h.ix (by rw [h.lenF]; omega) hn a z).mono ?_
 rintro e w' ⟨rfl, hi, ht⟩
 exact ⟨rfl, h.setIx hi (by rw [giveR_len, h.lenF]) ht⟩
def PutM (w : World) (X : MF) (n B : Nat) (m : Bm) (b : Int) (l : List Hd) : Ending → World → Prop := fun e w' =>
 e = .returned (.int .i64 (putAll m.dev m.list b l).err) ∧ ManAt w' X n B ⟨(putAll m.dev m.list b l).dev, (putAll m.dev m.list b l).list, m.free⟩ ∧ Touch X.hot w w'
theorem mput_any {w : World} {X : MF} {n B : Nat} {m : Bm} (h : ManAt w X n B m) (hB : B ≤ 1000) {N : Nat} (hN : N ≤ 1000000000) (ho : m.dev.ok N)
  (a : Option Addr) (k cap : Nat) (l : List Hd) (hk : l.length = k) (hc : Cells w a (hdCs l)) (hap : 0 < k → ∀ b o s, a = some ⟨b, o, s⟩ → b ∉ X.hot) (hkm : k ≤ 2 ^ 63 - 1) (b : Int) :
  Calls Tryz.prog 247 #[.pointer (some ⟨X.t, 0, none⟩), .int .i64 b, .slice a k cap] w (PutM w X n B m b l) := by
 have ap := MF.apart h.nd
 have h2 := MF.notHot ap.t
 refine (tput_any h.dev h.tab h2.1 h2.2.2.2 ap.g hN ho hB a k cap l hk hc (fun h0 b o s e hm => ?_) hkm b).mono ?_
 ·have := MF.notHot (hap h0 b o s e)
  rcases List.mem_cons.1 hm with h3 | h3
  ·exact this.1 h3
  ·exact this.2.2.2 h3
 ·rintro e w' ⟨rfl, hd, ht, hh⟩
  exact ⟨rfl, h.put hd ht hh⟩
structure BmR where
 bm : Bm
 b : Int
 err : Int
def Bm.small (m : Bm) (k : Int) : BmR :=
 if hdRight 1 k 0 = false then ⟨m, 0, 1⟩ else
 if (takeR m.free 1).2.2 ≠ 0 then ⟨⟨m.dev, m.list, (takeR m.free 1).1⟩, 0, (takeR m.free 1).2.2⟩ else
 ⟨⟨(putAll m.dev m.list (takeR m.free 1).2.1 [⟨1, k, 0⟩]).dev, (putAll m.dev m.list (takeR m.free 1).2.1 [⟨1, k, 0⟩]).list, (takeR m.free 1).1⟩,
  if (putAll m.dev m.list (takeR m.free 1).2.1 [⟨1, k, 0⟩]).err = 0 then (takeR m.free 1).2.1 else 0, (putAll m.dev m.list (takeR m.free 1).2.1 [⟨1, k, 0⟩]).err⟩
def BmDone (w : World) (X : MF) (n B : Nat) (r : BmR) : Ending → World → Prop := fun e w' =>
 e = .returned (.tuple #[.int .i64 r.b, .int .i64 r.err]) ∧ ManAt w' X n B r.bm ∧ Touch X.hot w w'
theorem ManAt.c0 {w : World} {X : MF} {n B : Nat} {m : Bm} (h : ManAt w X n B m) : w.cell? ⟨X.m, 0, none⟩ = some (.pointer (some ⟨X.t, 0, none⟩)) := cell_of_row _ _ 0 _ _ _ h.head
theorem ManAt.c1 {w : World} {X : MF} {n B : Nat} {m : Bm} (h : ManAt w X n B m) : w.cell? ⟨X.m, 1, none⟩ = some (.pointer (some ⟨X.T.p, 0, none⟩)) := cell_of_row _ _ 1 _ _ _ h.head
theorem ManAt.c2 {w : World} {X : MF} {n B : Nat} {m : Bm} (h : ManAt w X n B m) : w.cell? ⟨X.m, 2, none⟩ = some (.int .i64 (B : Int)) := cell_of_row _ _ 2 _ _ _ h.head
theorem hdCs_single (k c l : Int) : hdCs [⟨k, c, l⟩] = [.int .i64 k, .int .i64 c, .int .i64 l] := rfl
set_option maxHeartbeats 2000000 in
set_option maxRecDepth 20000 in
theorem bsmall_any {w : World} {X : MF} {n B : Nat} {m : Bm} (h : ManAt w X n B m) (hB : B ≤ 1000) (hn : n < 1000000000000) {N : Nat} (hN : N ≤ 1000000000) (ho : m.dev.ok N) (k : Int) :
  Calls Tryz.prog 292 #[.pointer (some ⟨X.m, 0, none⟩), .int .i64 k] w (BmDone w X (n + 1) B (m.small k)) := by
 have HM := LH (Mem.one w #[.int .i64 1, .int .i64 k, .int .i64 0] 103)
 have HA := LH (h.below HM.out.below)
 have HMem := LH (h.mem)
 have HT := LH (Touch.ofBelow (L := X.hot) HM.out.below)
 have HAp := LH (MF.apart h.nd)
 have HV : Hid (m.small k = if hdRight 1 k 0 = false then ⟨m, 0, 1⟩ else
  if (takeR m.free 1).2.2 ≠ 0 then ⟨⟨m.dev, m.list, (takeR m.free 1).1⟩, 0, (takeR m.free 1).2.2⟩ else
  ⟨⟨(putAll m.dev m.list (takeR m.free 1).2.1 [⟨1, k, 0⟩]).dev, (putAll m.dev m.list (takeR m.free 1).2.1 [⟨1, k, 0⟩]).list, (takeR m.free 1).1⟩,
   if (putAll m.dev m.list (takeR m.free 1).2.1 [⟨1, k, 0⟩]).err = 0 then (takeR m.free 1).2.1 else 0, (putAll m.dev m.list (takeR m.free 1).2.1 [⟨1, k, 0⟩]).err⟩) := LH rfl
 generalize hr : m.small k = r at *
 generalize hP : BmDone w X (n + 1) B r = Post
 have HP := LH hP
 clear h hP hr
 obtain ⟨q, hq⟩ : ∃ q, q = w.heap.size := ⟨_, rfl⟩
 have HQ := LH hq
 go_enter Tryz.func292, Tryz.ntmps292
 go_upto_region 2 with fail
 rw [← hq] at HM ⊢
 generalize w.alloc _ = w0 at *
 clear hq
 have d0 := HM.out.cell 0 0 rfl rfl
 have d1 := HM.out.cell 0 1 rfl rfl
 have d2 := HM.out.cell 0 2 rfl rfl
 go_wp2_with fail
 refine (bright_any 1 k 0 _).mono ?_
 rintro e w1 ⟨rfl, hb1⟩
 have HM1 := LH (HM.out.later hb1)
 have HA1 := LH (HA.out.below hb1)
 have HT1 := LH (HT.out.later hb1)
 clear hb1 d0 d1 d2 HM HA HT
 cases hrt : hdRight 1 k 0
 ·have HE : Hid (r = ⟨m, 0, 1⟩) := LH (by rw [HV.out, if_pos hrt])
  clear hrt
  go_wp2_with fail
  rw [← HP.out, HE.out]
  exact ⟨rfl, HA1.out.mono (by omega), HT1.out⟩
 ·have HV2 : Hid (r = if (takeR m.free 1).2.2 ≠ 0 then ⟨⟨m.dev, m.list, (takeR m.free 1).1⟩, 0, (takeR m.free 1).2.2⟩ else
   ⟨⟨(putAll m.dev m.list (takeR m.free 1).2.1 [⟨1, k, 0⟩]).dev, (putAll m.dev m.list (takeR m.free 1).2.1 [⟨1, k, 0⟩]).list, (takeR m.free 1).1⟩,
    if (putAll m.dev m.list (takeR m.free 1).2.1 [⟨1, k, 0⟩]).err = 0 then (takeR m.free 1).2.1 else 0, (putAll m.dev m.list (takeR m.free 1).2.1 [⟨1, k, 0⟩]).err⟩) := LH (by rw [HV.out, if_neg (by rw [hrt]; simp)])
  clear hrt HV
  have c1 := HA1.out.c1
  go_wp2_with fail
  refine (mtake_any HA1.out hB hn 1).mono ?_
  rintro e w2 ⟨rfl, ha2, ht2⟩
  generalize takeR m.free 1 = t at *
  obtain ⟨f2, b2, e2⟩ := t
  dsimp only at ha2 HV2 ⊢
  have hqh : q ∉ X.hot := fun hm => by
   have := HMem.out q (MF.hot_sub hm)
   rw [← HQ.out] at this
   omega
  have HR2 : Hid (RowAt w2 q 103 [.int .i64 1, .int .i64 k, .int .i64 0]) := LH ((HM1.out.at 0 rfl).keep (ht2.block q (HM1.out.glt 0 rfl) hqh))
  have HA2 := LH ha2
  have HT2 := LH (HT1.out.trans ht2)
  clear ha2 ht2 c1 HM1 HA1 HT1
  by_cases he : e2 = 0
  ·subst he
   have HV3 : Hid (r = ⟨⟨(putAll m.dev m.list b2 [⟨1, k, 0⟩]).dev, (putAll m.dev m.list b2 [⟨1, k, 0⟩]).list, f2⟩, if (putAll m.dev m.list b2 [⟨1, k, 0⟩]).err = 0 then b2 else 0, (putAll m.dev m.list b2 [⟨1, k, 0⟩]).err⟩) := LH (by rw [HV2.out, if_neg (by simp)])
   clear HV2
   have d0 := HR2.out.cell (i := 0) rfl
   have d1 := HR2.out.cell (i := 1) rfl
   have d2 := HR2.out.cell (i := 2) rfl
   have c0 := HA2.out.c0
   go_upto_region 7 with fail
   have r0 := fun x => later_cell d0 x
   have r1 := fun x => later_cell d1 x
   have r2 := fun x => later_cell d2 x
   have r3 := fun x => later_cell c0 x
   clear d0 d1 d2 c0
   refine wp_region_seg (C := fun w' => ∃ x : Later (w2), w' = x.val) [.fl [0, 1, 2, 3, 4, 5], .sq [6] true, .sq [7, 8] false] (by kernel_rfl) (by kernel_rfl) (by intro c a d v w h; cases d <;> exact h) ?_
   simp only [segs, picks, List.getElem?_cons_succ, List.getElem?_cons_zero]
   have hC1 := later_drew (w2)
   refine wpSeg_fl hC1 ?_
   repeat (first | go_big_quiet_step (fail) | quiet_step (fail))
   refine wpQuiet_nil ?_
   clear r0 r1 r2 r3
   refine wpSeg_sq (fun K hK => ?_)
   go_wp2_with fail
   have hbn := below_alloc w2.drew (.cells #[.int .i64 1, .int .i64 k, .int .i64 0] 103)
   have hC2 := later_step hC1 hbn
   have HC2 : Hid (Cells (w2.drew.alloc (.cells #[.int .i64 1, .int .i64 k, .int .i64 0] 103)) (some ⟨w2.drew.heap.size, 0, none⟩) (hdCs [⟨1, k, 0⟩])) := LH (by
    rw [hdCs_single]
    exact (RowAt.cells ⟨_, heap_alloc_new _ _, [], rfl⟩))
   clear hbn
   go_wp2_with fail
   refine hK _ _ (fun _ => hC2) ?_
   clear hK K
   refine wpSeg_last ?_
   go_wp2_with fail
   refine (mput_any (HA2.out.below (later_below hC2)) hB hN ho _ 1 1 [⟨1, k, 0⟩] rfl HC2.out (fun _ b o s e hm => ?_) (by omega) b2).mono ?_
   ·cases e
    exact HA2.out.lt (by simp) hm
   rintro e w3 ⟨rfl, ha3, ht3⟩
   dsimp only at ha3 ⊢
   generalize putAll m.dev m.list b2 [⟨1, k, 0⟩] = pr at *
   have HA3 := LH ha3
   have HT3 := LH ((HT2.out.later (later_below hC2)).trans ht3)
   clear ha3 ht3 hC1 hC2
   by_cases hz : pr.err = 0
   ·have HE : Hid (r = ⟨⟨pr.dev, pr.list, f2⟩, b2, 0⟩) := LH (by rw [HV3.out, if_pos hz, hz])
    rw [hz]
    go_wp2_with fail
    rw [← HP.out, HE.out]
    exact ⟨rfl, HA3.out, HT3.out⟩
   ·have HE : Hid (r = ⟨⟨pr.dev, pr.list, f2⟩, 0, pr.err⟩) := LH (by rw [HV3.out, if_neg hz])
    have hz' : (pr.err != 0) = true := by simpa using hz
    generalize pr.err = pe at *
    clear hz
    go_wp2_with fail
    rw [← HP.out, HE.out]
    exact ⟨rfl, HA3.out, HT3.out⟩
  ·have HE : Hid (r = ⟨⟨m.dev, m.list, f2⟩, 0, e2⟩) := LH (by rw [HV2.out, if_pos he])
   have he' : (e2 != 0) = true := by simpa using he
   clear he
   go_wp2_with fail
   rw [← HP.out, HE.out]
   exact ⟨rfl, HA2.out, HT2.out⟩
end Go.Proofs.YtpopbfagliagnaaGreat
namespace Go.Proofs.YtpopbfagliagnaaGreat
theorem splice_getD (l s : List Nat) (o i : Nat) (h : o + s.length ≤ l.length) : (splice l o s).getD i 0 = if o ≤ i ∧ i < o + s.length then s.getD (i - o) 0 else l.getD i 0 := by
 unfold splice
 simp only [List.getD_eq_getElem?_getD]
 by_cases h1 : i < o
 ·rw [if_neg (by omega), List.getElem?_append_left (by simp; omega), List.getElem?_take_of_lt h1]
 ·rw [List.getElem?_append_right (by simp; omega), show (l.take o).length = o by simp; omega]
  by_cases h2 : i < o + s.length
  ·rw [if_pos (by omega), List.getElem?_append_left (by omega)]
  ·rw [if_neg (by omega), List.getElem?_append_right (by omega), List.getElem?_drop, show o + s.length + (i - o - s.length) = i by omega]
theorem seg_getD (l : List Nat) (j i : Nat) (hi : 8 * j ≤ i) (h2 : i < 8 * j + 8) : (seg l j).getD (i - 8 * j) 0 = l.getD i 0 := by
 rw [List.getD_eq_getElem?_getD, seg_at l j (i - 8 * j) (by omega), show 8 * j + (i - 8 * j) = i by omega, ← List.getD_eq_getElem?_getD]
theorem seg_eq_iff (l m : List Nat) (j : Nat) (h1 : 8 * j + 8 ≤ l.length) (h2 : 8 * j + 8 ≤ m.length) : seg l j = seg m j ↔ ∀ i, 8 * j ≤ i → i < 8 * j + 8 → l.getD i 0 = m.getD i 0 := by
 constructor
 ·intro h i hi hi2
  rw [← seg_getD l j i hi hi2, ← seg_getD m j i hi hi2, h]
 ·intro h
  apply List.ext_getElem (by rw [seg_length l j h1, seg_length m j h2])
  intro i hi1 hi2
  rw [seg_length l j h1] at hi1
  have := h (8 * j + i) (by omega) (by omega)
  have e1 := seg_getD l j (8 * j + i) (by omega) (by omega)
  have e2 := seg_getD m j (8 * j + i) (by omega) (by omega)
  rw [show 8 * j + i - 8 * j = i by omega] at e1 e2
  rw [this, ← e2] at e1
  simpa [List.getD_eq_getElem?_getD, seg_length l j h1, seg_length m j h2, hi1] using e1
theorem splice_seg_getD (l s : List Nat) (j i : Nat) (h1 : 8 * j + 8 ≤ l.length) (h2 : 8 * j + 8 ≤ s.length) : (splice l (8 * j) (seg s j)).getD i 0 = if i / 8 = j then s.getD i 0 else l.getD i 0 := by
 have hl := seg_length s j h2
 rw [splice_getD _ _ _ _ (by rw [hl]; exact h1), hl]
 by_cases h : i / 8 = j
 ·rw [if_pos (by omega), if_pos h, seg_getD s j i (by omega) (by omega)]
 ·rw [if_neg (by omega), if_neg h]
theorem getD_setB (l : List Bool) (i j : Nat) (b : Bool) (hi : i < l.length) : (l.set i b).getD j false = if j = i then b else l.getD j false := by
 simp only [List.getD_eq_getElem?_getD]
 by_cases h : j = i
 ·subst h; rw [if_pos rfl, List.getElem?_set_self hi]; rfl
 ·rw [if_neg h, List.getElem?_set_ne (Ne.symm h)]
theorem getD_setN (l : List Nat) (i j x : Nat) (hi : i < l.length) : (l.set i x).getD j 0 = if j = i then x else l.getD j 0 := by
 simp only [List.getD_eq_getElem?_getD]
 by_cases h : j = i
 ·subst h; rw [if_pos rfl, List.getElem?_set_self hi]; rfl
 ·rw [if_neg h, List.getElem?_set_ne (Ne.symm h)]
structure Dev.inv (S : Dev) : Prop where
 wf : S.wf
 sound : ∀ j, S.dirty.getD (j / 8) false = false → S.lasting.getD j 0 = S.cache.getD j 0
 pend : ∀ l, S.pending.getD l false = true → S.dirty.getD l false = true
theorem Dev.step_wf {S : Dev} (h : S.wf) : S.step.wf := by
 unfold Dev.step
 split
 ·exact ⟨h.lenL, h.lenF, h.lenP, h.lenD, h.small, h.u64L, h.u64C, h.u64F⟩
 ·exact ⟨h.lenL, h.lenF, h.lenP, h.lenD, h.small, h.u64L, h.u64C, h.u64F⟩
theorem Dev.step_inv {S : Dev} (h : S.inv) : S.step.inv := by
 obtain ⟨e1, e2, e3, e4, e5⟩ := S.step_rest
 exact ⟨Dev.step_wf h.wf, by rw [e1, e2, e4]; exact h.sound, by rw [e5, e4]; exact h.pend⟩
theorem fresh_inv {ws : List Nat} {m : Nat} (h8 : ws.length = 8 * m) (hs : ws.length ≤ 1000000) (hu : ∀ z ∈ ws, z < 18446744073709551616) : (freshDev ws m).inv := by
 refine ⟨⟨rfl, by simp [freshDev], by simp [freshDev], by simpa [freshDev] using h8, hs, hu, hu, ?_⟩, fun j _ => rfl, fun l hl => ?_⟩
 ·intro z hz
  simp [freshDev] at hz
  omega
 ·exfalso
  simp [freshDev, List.getD_eq_getElem?_getD, List.getElem?_replicate] at hl
  split at hl <;> simp at hl
theorem Dev.put_inv {S : Dev} (h : S.inv) (i x : Nat) (hi : i < S.cache.length) (hx : x < 18446744073709551616) : (S.put i x).inv := by
 have hw := h.wf
 have hD := hw.lenD
 have hl : i / 8 < S.dirty.length := by omega
 refine ⟨⟨by simp [Dev.put, hw.lenL], by simp [Dev.put, hw.lenF], by simp [Dev.put, hw.lenP], by simp [Dev.put, hD], by simp [Dev.put, hw.small], hw.u64L, set_lt hw.u64C _ _ hx, hw.u64F⟩, fun j hj => ?_, fun l hl2 => ?_⟩
 ·simp only [Dev.put] at hj ⊢
  rw [getD_setB _ _ _ _ hl] at hj
  rw [getD_setN _ _ _ _ hi]
  split at hj
  ·cases hj
  ·rw [if_neg (by rintro rfl; simp at *)]
   exact h.sound j hj
 ·simp only [Dev.put] at hl2 ⊢
  rw [getD_setB _ _ _ _ hl]
  split
  ·rfl
  ·exact h.pend l hl2
theorem Dev.store_inv {S : Dev} (h : S.inv) (i : Int) (x : Nat) (hx : x < 18446744073709551616) : (S.store i x).inv := by
 unfold Dev.store
 split
 ·exact h
 ·split
  ·exact Dev.step_inv h
  ·exact Dev.put_inv (Dev.step_inv h) _ _ (by rw [(Dev.step_rest S).2.1]; omega) hx
theorem Dev.hold_inv {S : Dev} (h : S.inv) (j : Nat) (hj : j < S.dirty.length) : (S.hold j).inv := by
 have hw := h.wf
 have hD := hw.lenD
 unfold Dev.hold
 split
 ·rename_i hd
  have hs := seg_length S.cache j (by omega)
  refine ⟨⟨hw.lenL, by rw [length_splice _ _ _ (by rw [hs, hw.lenF]; omega)]; exact hw.lenF, by simp [hw.lenP], hD, hw.small, hw.u64L, hw.u64C, splice_lt _ hw.u64F (seg_lt _ hw.u64C)⟩, h.sound, fun l hl => ?_⟩
  dsimp only at hl ⊢
  rw [getD_setB _ _ _ _ (by rw [hw.lenP]; exact hj)] at hl
  split at hl
  ·rename_i e; rw [e]; exact hd
  ·exact h.pend l hl
 ·exact h
theorem Dev.flush_inv {S : Dev} (h : S.inv) (j : Int) : (S.flush j).inv := by
 unfold Dev.flush
 split
 ·exact h
 ·split
  ·exact Dev.step_inv h
  ·exact Dev.hold_inv (Dev.step_inv h) _ (by rw [(Dev.step_rest S).2.2.2.1]; omega)
theorem Dev.flushRun_inv {S : Dev} (h : S.inv) (a m : Nat) : (S.flushRun a m).dev.inv := by
 induction m with
 | zero => exact h
 | succ m ih =>
  unfold Dev.flushRun
  split
  ·exact ih
  ·exact Dev.flush_inv ih _
structure FenceAt (S : Dev) (k : Nat) (T : Dev) : Prop where
 cache : T.cache = S.cache
 flushed : T.flushed = S.flushed
 lenD : T.dirty.length = S.dirty.length
 lenP : T.pending.length = S.pending.length
 lenL : T.lasting.length = S.lasting.length
 pending : ∀ l, T.pending.getD l false = if l < k then false else S.pending.getD l false
 dirty : ∀ l, T.dirty.getD l false = if l < k ∧ S.pending.getD l false = true then !decide (seg S.flushed l = seg S.cache l) else S.dirty.getD l false
 lasting : ∀ j, T.lasting.getD j 0 = if j / 8 < k ∧ S.pending.getD (j / 8) false = true then S.flushed.getD j 0 else S.lasting.getD j 0
 u64 : ∀ z ∈ T.lasting, z < 18446744073709551616
theorem fenceTo_at {S : Dev} (h : S.wf) : ∀ k, k ≤ S.dirty.length → FenceAt S k (S.fenceTo k)
 | 0, _ => ⟨rfl, rfl, rfl, rfl, rfl, by simp [Dev.fenceTo], by simp [Dev.fenceTo], by simp [Dev.fenceTo], h.u64L⟩
 | k + 1, hk => by
  have i := fenceTo_at h k (by omega)
  have hD := h.lenD
  have hP := h.lenP
  have hL := h.lenL
  have hF := h.lenF
  unfold Dev.fenceTo
  generalize S.fenceTo k = T at *
  have hp : T.pending.getD k false = S.pending.getD k false := by rw [i.pending k, if_neg (by omega)]
  unfold Dev.settle
  rw [hp]
  cases hq : S.pending.getD k false
  ·simp only [Bool.false_eq_true, if_false]
   refine ⟨i.cache, i.flushed, i.lenD, i.lenP, i.lenL, fun l => ?_, fun l => ?_, fun j => ?_, i.u64⟩
   ·rw [i.pending l]
    by_cases e : l = k
    ·subst e; rw [if_neg (by omega), if_pos (by omega), hq]
    ·by_cases h1 : l < k
     ·rw [if_pos h1, if_pos (by omega)]
     ·rw [if_neg h1, if_neg (by omega)]
   ·rw [i.dirty l]
    by_cases e : l = k
    ·subst e; rw [if_neg (by omega), if_neg (by rw [hq]; simp)]
    ·by_cases h1 : l < k ∧ S.pending.getD l false = true
     ·rw [if_pos h1, if_pos ⟨by omega, h1.2⟩]
     ·rw [if_neg h1, if_neg (fun h2 => h1 ⟨by omega, h2.2⟩)]
   ·rw [i.lasting j]
    by_cases e : j / 8 = k
    ·rw [if_neg (by omega), if_neg (by rw [e, hq]; simp)]
    ·by_cases h1 : j / 8 < k ∧ S.pending.getD (j / 8) false = true
     ·rw [if_pos h1, if_pos ⟨by omega, h1.2⟩]
     ·rw [if_neg h1, if_neg (fun h2 => h1 ⟨by omega, h2.2⟩)]
  ·simp only [if_true]
   rw [i.flushed, i.cache]
   have hs := seg_length S.flushed k (by omega)
   have hlT : 8 * k + 8 ≤ T.lasting.length := by rw [i.lenL]; omega
   refine ⟨rfl, rfl, by simp [i.lenD], by simp [i.lenP], by rw [length_splice _ _ _ (by rw [hs]; exact hlT)]; exact i.lenL, fun l => ?_, fun l => ?_, fun j => ?_, splice_lt _ i.u64 (seg_lt _ h.u64F)⟩
   ·dsimp only
    rw [getD_setB _ _ _ _ (by rw [i.lenP]; omega), i.pending l]
    by_cases e : l = k
    ·subst e; rw [if_pos rfl, if_pos (by omega)]
    ·rw [if_neg e]
     by_cases h1 : l < k
     ·rw [if_pos h1, if_pos (by omega)]
     ·rw [if_neg h1, if_neg (by omega)]
   ·dsimp only
    rw [getD_setB _ _ _ _ (by rw [i.lenD]; omega), i.dirty l]
    by_cases e : l = k
    ·subst e; rw [if_pos rfl, if_pos ⟨by omega, hq⟩]
    ·rw [if_neg e]
     by_cases h1 : l < k ∧ S.pending.getD l false = true
     ·rw [if_pos h1, if_pos ⟨by omega, h1.2⟩]
     ·rw [if_neg h1, if_neg (fun h2 => h1 ⟨by omega, h2.2⟩)]
   ·dsimp only
    rw [splice_seg_getD _ _ _ _ hlT (by omega), i.lasting j]
    by_cases e : j / 8 = k
    ·rw [if_pos e, if_pos ⟨by omega, by rw [e]; exact hq⟩]
    ·rw [if_neg e]
     by_cases h1 : j / 8 < k ∧ S.pending.getD (j / 8) false = true
     ·rw [if_pos h1, if_pos ⟨by omega, h1.2⟩]
     ·rw [if_neg h1, if_neg (fun h2 => h1 ⟨by omega, h2.2⟩)]
theorem getD_false_of {l : List Bool} {i : Nat} (h : l.length ≤ i) : l.getD i false = false := by simp [List.getD_eq_getElem?_getD, List.getElem?_eq_none h]
theorem getD_zero_of {l : List Nat} {i : Nat} (h : l.length ≤ i) : l.getD i 0 = 0 := by simp [List.getD_eq_getElem?_getD, List.getElem?_eq_none h]
theorem Dev.fence_at {S : Dev} (h : S.wf) (hs : S.stop = false) : FenceAt S S.dirty.length S.fence := by
 unfold Dev.fence
 rw [hs]
 simp only [Bool.false_eq_true, if_false]
 obtain ⟨e1, e2, e3, e4, e5⟩ := S.step_rest
 have i := fenceTo_at (Dev.step_wf h) S.dirty.length (by rw [e4]; exact Nat.le_refl _)
 exact ⟨by rw [← e2]; exact i.cache, by rw [← e3]; exact i.flushed, by rw [← e4]; exact e4 ▸ i.lenD, by rw [← e5]; exact i.lenP, by rw [← e1]; exact i.lenL, by have := i.pending; rwa [e5] at this, by have := i.dirty; rwa [e5, e3, e2, e4] at this, by have := i.lasting; rwa [e5, e3, e1] at this, i.u64⟩
theorem Dev.fence_inv {S : Dev} (h : S.inv) : S.fence.inv := by
 by_cases hs : S.stop = true
 ·unfold Dev.fence; rw [hs]; exact Dev.step_inv h
 ·have i := Dev.fence_at h.wf (by simpa using hs)
  have hw := h.wf
  have hD := hw.lenD
  generalize S.fence = T at *
  refine ⟨⟨by rw [i.lenL, i.cache]; exact hw.lenL, by rw [i.flushed, i.cache]; exact hw.lenF, by rw [i.lenP, i.lenD]; exact hw.lenP, by rw [i.cache, i.lenD]; exact hD, by rw [i.cache]; exact hw.small, i.u64, by rw [i.cache]; exact hw.u64C, by rw [i.flushed]; exact hw.u64F⟩, fun j hj => ?_, fun l hl => ?_⟩
  ·rw [i.lasting j, i.cache]
   rw [i.dirty (j / 8)] at hj
   by_cases h1 : j / 8 < S.dirty.length ∧ S.pending.getD (j / 8) false = true
   ·rw [if_pos h1]
    rw [if_pos h1] at hj
    have : seg S.flushed (j / 8) = seg S.cache (j / 8) := by simpa using hj
    exact (seg_eq_iff _ _ _ (by rw [hw.lenF]; omega) (by omega)).1 this j (by omega) (by omega)
   ·rw [if_neg h1]
    rw [if_neg h1] at hj
    exact h.sound j hj
  ·rw [i.pending l] at hl
   by_cases h1 : l < S.dirty.length
   ·rw [if_pos h1] at hl; cases hl
   ·rw [getD_false_of (by rw [hw.lenP]; omega)] at hl
    simp at hl
theorem Dev.persist_inv {S : Dev} (h : S.inv) (p n : Int) : (S.persist p n).dev.inv := by
 unfold Dev.persist
 split
 ·exact h
 ·split
  ·unfold Dev.persistN
   split
   ·exact Dev.flushRun_inv h _ _
   ·exact Dev.fence_inv (Dev.flushRun_inv h _ _)
  ·exact Dev.fence_inv h
theorem settle_steps (S : Dev) (j : Nat) : (S.settle j).steps = S.steps ∧ (S.settle j).fuse = S.fuse := by
 unfold Dev.settle; split <;> exact ⟨rfl, rfl⟩
theorem fenceTo_steps (S : Dev) (k : Nat) : (S.fenceTo k).steps = S.steps ∧ (S.fenceTo k).fuse = S.fuse := by
 induction k with
 | zero => exact ⟨rfl, rfl⟩
 | succ k ih => have h := settle_steps (S.fenceTo k) k; exact ⟨h.1.trans ih.1, h.2.trans ih.2⟩
theorem Dev.fence_ok {S : Dev} {N : Nat} (h : S.ok N) : S.fence.ok (N + 1) := by
 unfold Dev.fence
 split
 ·exact Dev.step_ok h
 ·have := Dev.step_ok h
  have e := fenceTo_steps S.step S.dirty.length
  unfold Dev.ok at *
  rw [e.1, e.2]
  exact this
theorem Dev.persist_ok {S : Dev} (hw : S.wf) {N : Nat} (h : S.ok N) (p n : Int) : (S.persist p n).dev.ok (N + 200000) := by
 have hD := hw.lenD
 have hs := hw.small
 unfold Dev.persist
 split
 ·exact h.mono (by omega)
 ·split
  ·unfold Dev.persistN
   have hM : (((p : Int) + (n : Int) - 1) / 8 - (p : Int) / 8 + 1).toNat ≤ 150000 := by omega
   split
   ·exact (Dev.flushRun_ok h _ _).mono (by omega)
   ·exact (Dev.fence_ok (Dev.flushRun_ok h _ _)).mono (by omega)
  ·exact (Dev.fence_ok h).mono (by omega)
theorem settle_live {S : Dev} (h : S.live) (j : Nat) : (S.settle j).live := by
 unfold Dev.settle; split <;> exact h
theorem fenceTo_live {S : Dev} (h : S.live) (k : Nat) : (S.fenceTo k).live := by
 induction k with
 | zero => exact h
 | succ k ih => exact settle_live ih k
theorem Dev.live.fence {S : Dev} (h : S.live) : S.fence.live := by
 unfold Dev.fence
 rw [h.stop]
 exact fenceTo_live h.step _
theorem Dev.live.persist_live {S : Dev} (h : S.live) (p n : Nat) (hn : 0 < n) (hd : S.cache.length = 8 * S.dirty.length) (hp : p + n ≤ S.cache.length) : (S.persist p n).dev.live := by
 unfold Dev.persist
 rw [if_neg (by omega), if_pos (by omega)]
 unfold Dev.persistN
 obtain ⟨i1, i2, i3, i4⟩ := h.flushRun ((p : Int) / 8).toNat (((p : Int) + (n : Int) - 1) / 8 - (p : Int) / 8 + 1).toNat (by omega)
 rw [if_neg (by rw [i1]; simp)]
 exact i2.fence
theorem Dev.flushRun_held {S : Dev} (h : S.inv) (a : Nat) : ∀ m, (S.flushRun a m).err = 0 → (S.flushRun a m).dev.cache = S.cache ∧ (S.flushRun a m).dev.dirty = S.dirty ∧ (0 < m → a + m ≤ S.dirty.length) ∧
  ∀ l, a ≤ l → l < a + m → S.dirty.getD l false = true → (S.flushRun a m).dev.pending.getD l false = true ∧ seg (S.flushRun a m).dev.flushed l = seg S.cache l
 | 0, _ => ⟨rfl, rfl, fun h => absurd h (Nat.lt_irrefl _), fun l h1 h2 => by omega⟩
 | m + 1, he => by
  have hinv := Dev.flushRun_inv h a m
  unfold Dev.flushRun at he ⊢
  by_cases h0 : (S.flushRun a m).err ≠ 0
  ·rw [if_pos h0] at he
   exact absurd he h0
  ·rw [if_neg h0] at he ⊢
   obtain ⟨i1, i2, i3, i4⟩ := Dev.flushRun_held h a m (by simpa using h0)
   generalize (S.flushRun a m).dev = T at *
   dsimp only at he ⊢
   unfold Dev.flushE at he
   unfold Dev.flush
   by_cases c1 : ((a + m : Nat) : Int) < 0 ∨ (T.dirty.length : Int) ≤ ((a + m : Nat) : Int)
   ·rw [if_pos c1] at he; simp at he
   rw [if_neg c1] at he ⊢
   cases c2 : T.stop
   ·simp only [Bool.false_eq_true, if_false]
    obtain ⟨e1, e2, e3, e4, e5⟩ := T.step_rest
    rw [show ((a + m : Nat) : Int).toNat = a + m by omega]
    have hw := Dev.step_wf hinv.wf
    have hD := hw.lenD
    have hdl : T.dirty.length = S.dirty.length := by rw [i2]
    have hj : a + m < T.step.dirty.length := by rw [e4]; omega
    rw [← e4] at i2
    rw [← e2] at i1
    rw [← e5, ← e3] at i4
    generalize T.step = U at *
    refine ⟨by rw [(Dev.hold_len U _).1, i1], by rw [(Dev.hold_len U _).2, i2], fun _ => by rw [← i2]; omega, fun l h1 h2 hd => ?_⟩
    unfold Dev.hold
    by_cases hl : l = a + m
    ·subst hl
     rw [if_pos (by rw [i2]; exact hd)]
     dsimp only
     refine ⟨by rw [getD_setB _ _ _ _ (by rw [hw.lenP]; exact hj), if_pos rfl], ?_⟩
     rw [seg_splice _ _ _ (seg_length _ _ (by omega)) (by rw [hw.lenF]; omega), i1]
    ·have := i4 l h1 (by omega) hd
     have hll : l < U.dirty.length := by
      rcases Nat.lt_or_ge l U.dirty.length with h | h
      ·exact h
      ·rw [← i2, getD_false_of h] at hd; cases hd
     split
     ·dsimp only
      refine ⟨by rw [getD_setB _ _ _ _ (by rw [hw.lenP]; exact hj), if_neg hl]; exact this.1, ?_⟩
      rw [← this.2]
      have hs := seg_length U.cache (a + m) (by omega)
      refine (seg_eq_iff _ _ _ (by rw [length_splice _ _ _ (by rw [hs, hw.lenF]; omega), hw.lenF]; omega) (by rw [hw.lenF]; omega)).2 (fun i h3 h4 => ?_)
      rw [splice_seg_getD _ _ _ _ (by rw [hw.lenF]; omega) (by omega), if_neg (by omega)]
     ·exact this
   ·rw [c2] at he
    simp at he
theorem Dev.persist_clean {S : Dev} (h : S.inv) (p n : Nat) (hn : 0 < n) (he : (S.persist p n).err = 0) : (S.persist p n).dev.cache = S.cache ∧ p + n ≤ S.cache.length ∧ (S.persist p n).dev.dirty.length = S.dirty.length ∧
  (∀ j, p ≤ j → j < p + n → (S.persist p n).dev.dirty.getD (j / 8) false = false) ∧ ∀ l, S.dirty.getD l false = false → (S.persist p n).dev.dirty.getD l false = false := by
 unfold Dev.persist at he ⊢
 by_cases c1 : (p : Int) < 0 ∨ (n : Int) < 0 ∨ (S.cache.length : Int) < (p : Int) ∨ (S.cache.length : Int) - (p : Int) < (n : Int)
 ·rw [if_pos c1] at he; simp at he
 rw [if_neg c1, if_pos (by omega)] at he ⊢
 unfold Dev.persistN at he ⊢
 generalize hA : ((p : Int) / 8).toNat = A at *
 generalize hM : (((p : Int) + (n : Int) - 1) / 8 - (p : Int) / 8 + 1).toNat = M at *
 by_cases c2 : (S.flushRun A M).err ≠ 0
 ·rw [if_pos c2] at he; exact absurd he c2
 rw [if_neg c2] at he ⊢
 obtain ⟨i1, i2, i3, i4⟩ := Dev.flushRun_held h A M (by simpa using c2)
 have hinv := Dev.flushRun_inv h A M
 generalize (S.flushRun A M).dev = T at *
 dsimp only at he ⊢
 unfold Dev.fenceE at he
 cases c3 : T.stop
 ·have f := Dev.fence_at hinv.wf c3
  refine ⟨f.cache.trans i1, by omega, by rw [f.lenD, i2], fun j h1 h2 => ?_, fun l hl => ?_⟩
  ·rw [f.dirty, i2, i1]
   cases hd : S.dirty.getD (j / 8) false
   ·rw [if_neg]
    rintro ⟨_, hp⟩
    have := hinv.pend _ hp
    rw [i2, hd] at this
    cases this
   ·have := i4 (j / 8) (by omega) (by omega) hd
    have hl : j / 8 < S.dirty.length := by
     rcases Nat.lt_or_ge (j / 8) S.dirty.length with h | h
     ·exact h
     ·rw [getD_false_of h] at hd; cases hd
    rw [if_pos ⟨hl, this.1⟩, this.2]
    simp
  ·rw [f.dirty, i2, if_neg]
   ·exact hl
   ·rintro ⟨_, hp⟩
    have := hinv.pend _ hp
    rw [i2, hl] at this
    cases this
 ·rw [c3] at he
  simp at he
end Go.Proofs.YtpopbfagliagnaaGreat
