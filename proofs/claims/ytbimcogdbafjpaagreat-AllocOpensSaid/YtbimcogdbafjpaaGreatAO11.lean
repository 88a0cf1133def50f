/- Parts of the proof, one behind the other: Fa, Fb, Wb, Ey, We, Wf, Wg, Wm, Wh, Wi, Wj, Wk, Fi, Fj, Fk, Wc, Fl, Wl, Ws, M, Fn, Fo. -/
import Derived.Test.YtbimcogdbafjpaaGreatAO10
import Derived.RangeFuncNested
import Derived.RangeFuncBound
import Derived.RangeFuncCalls
import Derived.RangeFuncLeaves
import Derived.RangeFuncBox
import Derived.Shelf.Abstract
import Derived.WalkKit
import Derived.OwnWalkIn
import Derived.TacticsInMore
import Derived.LoopNIn
import Derived.LoopIn
import Derived.Maps.AppendAt
import Derived.Lib.SliceRun
import Derived.Deep.DeepCutAuto
import Derived.Deep.CutBlock
set_option linter.unusedVariables false
namespace Go.Proofs.YtbimcogdbafjpaaGreat
variable {B : Nat} {m : Al}
structure Shrank (L L' : List Hd) (a n : Nat) : Prop where
 len : L'.length = L.length
 at_ : ∀ q, L'.getD q default = if a ≤ q ∧ q < a + n then ⟨0, 0, 0⟩ else L.getD q default
 kind : (L.getD a default).k = 1 ∨ (L.getD a default).k = 2
 cont : ∀ i : Nat, 1 ≤ i → i < n → L.getD (a + i) default = ⟨3, 0, i⟩
theorem Shrank.out {L L' : List Hd} {a n : Nat} (h : Shrank L L' a n) {q : Nat} (hq : ¬ (a ≤ q ∧ q < a + n)) : L'.getD q default = L.getD q default := by rw [h.at_, if_neg hq]
theorem Shrank.cell {L L' : List Hd} {a n : Nat} (h : Shrank L L' a n) (k x : Nat) : isCell L' k x ↔ isCell L k x ∧ ¬ (a ≤ x / 512 ∧ x / 512 < a + n) := by
 unfold isCell
 rw [h.len, h.at_]
 by_cases c : a ≤ x / 512 ∧ x / 512 < a + n
 ·rw [if_pos c]
  constructor
  ·rintro ⟨_, _, e, _⟩
   have := congrArg Hd.k e
   exact absurd this (by simp)
  ·rintro ⟨_, e⟩; exact absurd c e
 ·rw [if_neg c]
  constructor
  ·intro e; exact ⟨e, c⟩
  ·intro e; exact e.1
theorem Shrank.whole {L L' : List Hd} {a n : Nat} (h : Shrank L L' a n) {b k : Nat} (hk : 1 ≤ k) (hw : wholeN L b = k) (hb : ¬ (a ≤ b ∧ b < a + n)) : wholeN L' b = k := by
 have hf := wholeN_fits (L := L) (b := b) (by omega)
 rw [hw] at hf
 obtain ⟨f1, f2, f3, f4, f5⟩ := hf
 have hbb := h.out hb
 have hc : ∀ i, 1 ≤ i → i < k → L'.getD (b + i) default = ⟨3, 0, i⟩ := fun i h1 h2 => by
  have e := f5 i h1 h2
  rw [h.out, e]
  intro c
  by_cases c0 : b + i = a
  ·have hkd := h.kind
   rw [← c0, e] at hkd
   simp at hkd
  ·have e2 := h.cont (b + i - a) (by omega) (by omega)
   rw [show a + (b + i - a) = b + i by omega, e] at e2
   have := congrArg Hd.l e2
   simp at this
   omega
 unfold wholeN
 rw [hbb, h.len, if_neg (by omega), if_pos]
 ·omega
 ·exact contTo_of fun i h1 h2 => hc i h1 (by omega)
theorem Shrank.placed {L L' : List Hd} {a n : Nat} (h : Shrank L L' a n) {S T : Dev} {x : Nat} {o : Odec} (hp : placedN S L (x : Int) = some o) (hl : T.cache.length = S.cache.length) (hw : T.cache.getD x 0 = S.cache.getD x 0) (hx : ¬ (a ≤ x / 512 ∧ x / 512 < a + n)) : placedN T L' (x : Int) = some o := by
 have hh : headN T (x : Int) = headN S (x : Int) := headN_same hl (by rw [peek_in, peek_in]; exact hw)
 obtain ⟨e1, e0, h1, h2⟩ := placed_head hp
 obtain ⟨s1, _⟩ := placed_size hp
 unfold placedN at hp ⊢
 rw [e1, Int.toNat_natCast] at hp
 rw [hh, e1, h.len, Int.toNat_natCast]
 split at hp
 ·cases hp
 ·rename_i h0
  rw [if_neg h0]
  by_cases hs : small (objSize o.p o.d)
  ·rw [if_pos hs] at hp ⊢
   split at hp
   ·next hc => rw [if_pos ((h.cell _ _).2 ⟨hc, hx⟩)]
   ·cases hp
  ·rw [if_neg hs] at hp ⊢
   split at hp
   ·next hc =>
    have hnz : 1 ≤ objBlocks (objSize o.p o.d) := by
     unfold objBlocks
     rw [if_neg hs]; omega
    rw [if_pos ⟨hc.1, h.whole hnz hc.2 hx⟩]
   ·cases hp
def Snd (L : List Hd) : Prop := ∀ q, 1 ≤ q → (L.getD q default).k = 3 → ∃ a, 1 ≤ a ∧ a < q ∧ (L.getD a default).k = 2 ∧ (q : Int) < (a : Int) + (L.getD a default).l
theorem snd_small {bm : Bm} (h : BmOk B bm) (hv : bm.dev.live) (k : Nat) (hk : k < 32) (hs : Snd bm.list) : Snd (bm.small (k : Int)).bm.list := by
 rcases small_live h hv k hk with ⟨e, _⟩ | ⟨b, _, _, b1, b2, hf, _, _, _, hl, _⟩
 ·rw [e]; exact hs
 ·have hb := ((h.free b).1 hf).2.2
  intro q q1 hq
  rw [hl] at hq
  by_cases e : q = b
  ·rw [if_pos e] at hq; exact absurd hq (by simp)
  ·rw [if_neg e] at hq
   obtain ⟨a, a1, a2, a3, a4⟩ := hs q q1 hq
   have hab : a ≠ b := fun e => by rw [e, hb] at a3; exact absurd a3 (by decide)
   exact ⟨a, a1, a2, by rw [hl, if_neg hab]; exact a3, by rw [hl, if_neg hab]; exact a4⟩
theorem snd_large {bm : Bm} (h : BmOk B bm) (hv : bm.dev.live) (n : Nat) (h1 : 1 ≤ n) (h2 : n < 256) (hs : Snd bm.list) : Snd (bm.large (n : Int)).bm.list := by
 rcases large_live h hv n h1 h2 with ⟨e, _⟩ | ⟨b, _, _, b1, b2, hf, _, _, _, hl, _⟩
 ·rw [e]; exact hs
 ·intro q q1 hq
  rw [hl] at hq
  by_cases e : q = b
  ·rw [if_pos e] at hq; exact absurd hq (by simp)
  ·rw [if_neg e] at hq
   by_cases c : b ≤ q ∧ q < b + n
   ·exact ⟨b, b1, by omega, by rw [hl, if_pos rfl], by rw [hl, if_pos rfl]; dsimp only; omega⟩
   ·rw [if_neg c] at hq
    obtain ⟨a, a1, a2, a3, a4⟩ := hs q q1 hq
    have hab : ¬ (b ≤ a ∧ a < b + n) := fun e => by
     have := ((h.free a).1 (hf a e.1 e.2)).2.2
     rw [this] at a3; exact absurd a3 (by decide)
    have hab2 : a ≠ b := fun e => hab ⟨by omega, by omega⟩
    exact ⟨a, a1, a2, by rw [hl, if_neg hab2, if_neg hab]; exact a3, by rw [hl, if_neg hab2, if_neg hab]; exact a4⟩
theorem snd_shrunk {L L' : List Hd} {a n : Nat} (hs : Snd L) (hq : ∀ q, L'.getD q default = if a ≤ q ∧ q < a + n then ⟨0, 0, 0⟩ else L.getD q default)
  (hb : ∀ q, a ≤ q → q < a + n → (L.getD q default).k = 2 → q = a ∧ (L.getD a default).l = (n : Int)) : Snd L' := by
 intro q q1 hk
 rw [hq] at hk
 by_cases c : a ≤ q ∧ q < a + n
 ·rw [if_pos c] at hk; exact absurd hk (by decide)
 ·rw [if_neg c] at hk
  obtain ⟨b, b1, b2, b3, b4⟩ := hs q q1 hk
  have hbn : ¬ (a ≤ b ∧ b < a + n) := fun e => by
   obtain ⟨rfl, e2⟩ := hb b e.1 e.2 b3
   rw [e2] at b4
   omega
  exact ⟨b, b1, b2, by rw [hq, if_neg hbn]; exact b3, by rw [hq, if_neg hbn]; exact b4⟩
theorem snd_room (h : AlOk B m) (hs : Snd m.bm.list) (mu n : Nat) (h1 : 1 ≤ n) (h2 : n ≤ 16448) : Snd (m.room mu n).al.bm.list := by
 unfold Al.room
 by_cases hsm : small n
 ·rw [if_pos hsm]
  have hk := ofN_lt hsm
  have hS := snd_small h.bm h.live _ hk hs
  generalize ofN (n : Int) = k at *
  unfold Al.roomS Al.steal
  split
  ·rw [take_bm]; exact hs
  ·split
   ·rw [take_bm]; exact hS
   ·split
    ·exact hS
    ·split
     ·rw [take_bm]; exact hS
     ·exact hS
 ·rw [if_neg hsm]
  have hnb : 1 ≤ objBlocks n ∧ objBlocks n < 256 := by
   unfold objBlocks
   rw [if_neg hsm]
   omega
  have hS := snd_large h.bm h.live _ hnb.1 hnb.2 hs
  unfold Al.roomL
  split <;> exact hS
theorem snd_alloc (h : AlOk B m) (hs : Snd m.bm.list) (mu p d : Int) : Snd (m.alloc mu p d).al.bm.list := by
 unfold Al.alloc
 split
 ·exact hs
 ·split
  ·exact hs
  ·next c =>
   have hR := snd_room h hs mu.toNat (objSize p d) (by omega) (objSize_le _ _)
   split
   ·exact hR
   ·unfold Al.made
    split <;> exact hR
structure Gone (B : Nat) (m m' : Al) (a : Nat) : Prop where
 ok : AlOk B m'
 used : m'.used = m.used.set a false
 keep : ∀ x : Nat, m.used.getD x false = true → x ≠ a → placedN m'.bm.dev m'.bm.list (x : Int) = placedN m.bm.dev m.bm.list (x : Int)
 cells : ∀ k x : Nat, isCell m'.bm.list k x ↔ isCell m.bm.list k x
 snd : Snd m.bm.list → Snd m'.bm.list
 kin : ∀ q, m'.bm.list.getD q default = m.bm.list.getD q default ∨ (m'.bm.list.getD q default = ⟨0, 0, 0⟩ ∧ 2 ≤ (m.bm.list.getD q default).k)
 k2 : (m'.bm.list.getD (a / 512) default).k ≠ 2
theorem getD_set_off (l : List Bool) (a x : Nat) : (l.set a false).getD x false = if x = a then false else l.getD x false := by
 by_cases e : x = a
 ·subst e
  rw [if_pos rfl, List.getD_eq_getElem?_getD, List.getElem?_set_self']
  cases l[x]? <;> rfl
 ·rw [if_neg e, List.getD_eq_getElem?_getD, List.getElem?_set_ne (fun h => e h.symm), ← List.getD_eq_getElem?_getD]
theorem gone_small (h : AlOk B m) {a : Nat} {o : Odec} (hu : m.used.getD a false = true) (ho : placedN m.bm.dev m.bm.list (a : Int) = some o) (hs : small (objSize o.p o.d)) {f : FL}
  (hf : ∀ j x : Nat, f.cnt j x = m.fl.cnt j x + if j = ofN (objSize o.p o.d : Nat) ∧ x = a ∧ m.fl.cnt (ofN (objSize o.p o.d : Nat)) a = 0 then 1 else 0) :
  Gone B m ⟨m.bm, m.used.set a false, f⟩ a := by
 have hk := ofN_lt hs
 have hc : isCell m.bm.list (ofN (objSize o.p o.d : Nat)) a := by
  obtain ⟨e1, _⟩ := placed_head ho
  unfold placedN at ho
  rw [e1, if_pos hs, Int.toNat_natCast] at ho
  split at ho
  ·cases ho
  ·split at ho
   ·assumption
   ·cases ho
 have h0 : m.fl.cnt (ofN (objSize o.p o.d : Nat)) a = 0 := by rw [h.cells _ _ hk, if_neg]; rintro ⟨_, e⟩; rw [hu] at e; cases e
 refine ⟨⟨h.bm, h.live, h.len, by simp [h.lenU], fun x hx => ?_, fun k x hk' => ?_⟩, rfl, fun x _ _ => rfl, fun _ _ => Iff.rfl, fun h => h, fun q => .inl rfl, by dsimp only; rw [hc.2.2.1]; show (1 : Int) ≠ 2; decide⟩
 ·dsimp only at hx ⊢
  rw [getD_set_off] at hx
  by_cases e : x = a
  ·rw [if_pos e] at hx; cases hx
  ·rw [if_neg e] at hx; exact h.placed x hx
 ·dsimp only
  rw [hf, h0, h.cells _ _ hk', getD_set_off]
  generalize ofN (objSize o.p o.d : Nat) = c at *
  by_cases e : x = a
  ·subst e
   rw [if_pos rfl, hu]
   by_cases e2 : k = c
   ·subst e2
    simp [hc]
   ·have : ¬ isCell m.bm.list k x := fun hc' => by
     have := hc.2.2.1.symm.trans hc'.2.2.1
     have := congrArg Hd.c this
     simp at this
     exact e2 (by omega)
    simp [this, e2]
  ·simp [e]
theorem AlOk.shrink (h : AlOk B m) (hB : B ≤ 200) {a n : Nat} {bm : Bm} (hb : BmOk B bm) (hv : bm.dev.live) (hf : Far B m.bm.dev bm.dev) (hS : Shrank m.bm.list bm.list a n) {u : List Bool} (hu : u.length = m.used.length) (hsub : ∀ x, u.getD x false = true → m.used.getD x false = true ∧ ¬ (a ≤ x / 512 ∧ x / 512 < a + n))
  (hout : ∀ x, ¬ (a ≤ x / 512 ∧ x / 512 < a + n) → (∃ k, isCell m.bm.list k x) → u.getD x false = m.used.getD x false) {f : FL}
  (hc : ∀ k x : Nat, k < 32 → f.cnt k x = if a ≤ x / 512 ∧ x / 512 < a + n then 0 else m.fl.cnt k x) : AlOk B ⟨bm, u, f⟩ := by
 refine ⟨hb, hv, by dsimp only; rw [hf.len, h.len], by dsimp only; rw [hu, h.lenU], fun x hx => ?_, fun k x hk => ?_⟩
 ·dsimp only at hx ⊢
  obtain ⟨h1, h2⟩ := hsub x hx
  obtain ⟨o, ho⟩ := Option.isSome_iff_exists.1 (h.placed x h1)
  rw [hS.placed ho hf.len (hf.word x (by have := (h.used_kind h1).1; have := (h.used_kind h1).2.1; intro c; have := h.len; have hfit := h.bm.clean.fits; omega)) h2]
  rfl
 ·show f.cnt k x = if isCell bm.list k x ∧ u.getD x false = false then 1 else 0
  rw [hc k x hk]
  by_cases c : a ≤ x / 512 ∧ x / 512 < a + n
  ·rw [if_pos c, if_neg (fun e => ((hS.cell k x).1 e.1).2 c)]
  ·rw [if_neg c, h.cells k x hk]
   by_cases e : isCell m.bm.list k x
   ·have e' := (hS.cell k x).2 ⟨e, c⟩
    rw [hout x c ⟨k, e⟩]
    simp [e, e']
   ·rw [if_neg (fun q => e q.1), if_neg (fun q => e ((hS.cell k x).1 q.1).1)]
theorem BmOk.shrank {bm bm' : Bm} (h : BmOk B bm) (h' : BmOk B bm') {a n : Nat} (a1 : 1 ≤ a) (a2 : a < B) (hk : (bm.list.getD a default).k = 1 ∨ (bm.list.getD a default).k = 2) (hn : relN (bm.list.getD a default) = (n : Int))
  (hq : ∀ q, bm'.list.getD q default = if a ≤ q ∧ q < a + n then ⟨0, 0, 0⟩ else bm.list.getD q default) : Shrank bm.list bm'.list a n := by
 obtain ⟨n', n1, hn', haB, hcont⟩ := rel_many h a1 a2 hk
 obtain rfl : n' = n := by omega
 exact ⟨by rw [h.lenL, h'.lenL], hq, hk, hcont⟩
theorem gone_large (h : AlOk B m) (hB : B ≤ 200) {a : Nat} {o : Odec} (hu : m.used.getD a false = true) (ho : placedN m.bm.dev m.bm.list (a : Int) = some o) (hs : ¬ small (objSize o.p o.d)) :
  (m.bm.release ((a / 512 : Nat) : Int)).err = 0 ∧ Gone B m ⟨(m.bm.release ((a / 512 : Nat) : Int)).bm, m.used.set a false, m.fl⟩ a := by
 obtain ⟨e1, e0, h1, h2⟩ := placed_head ho
 have hro := placed_room ho
 have hkk := h.used_kind hu
 have hw : a % 512 = 0 ∧ wholeN m.bm.list (a / 512) = objBlocks (objSize o.p o.d) := by
  unfold placedN at ho
  rw [e1, if_neg hs, Int.toNat_natCast] at ho
  split at ho
  ·cases ho
  ·split at ho
   ·assumption
   ·cases ho
 have hnz : 1 ≤ objBlocks (objSize o.p o.d) := by
  have := (placed_size ho).1
  unfold objBlocks
  rw [if_neg hs]; omega
 have hf := wholeN_fits (L := m.bm.list) (b := a / 512) (by omega)
 obtain ⟨f1, f2, f3, f4, f5⟩ := hf
 have hn : relN (m.bm.list.getD (a / 512) default) = ((wholeN m.bm.list (a / 512) : Nat) : Int) := by unfold relN; rw [if_neg (by rw [f2]; decide), f3]
 obtain ⟨r1, r2, r3, r4, r5, r6⟩ := release_live h.bm h.live (a := a / 512) (by omega) hkk.2.1 (.inr f2) _ hn
 have hS := h.bm.shrank r2 (a := a / 512) (by omega) hkk.2.1 (.inr f2) hn r5
 have hin : ∀ x, m.used.getD x false = true → x ≠ a → ¬ (a / 512 ≤ x / 512 ∧ x / 512 < a / 512 + wholeN m.bm.list (a / 512)) := fun x hx hxa => by
  obtain ⟨o', ho'⟩ := Option.isSome_iff_exists.1 (h.placed x hx)
  have hrx := placed_room ho'
  have hrm : roomN o.p o.d = 512 * wholeN m.bm.list (a / 512) := by unfold roomN; rw [if_neg hs, hw.2]
  rcases Nat.lt_or_gt_of_ne hxa with c | c
  ·intro e
   have := hrx.apart hro c
   have := hrx.pos
   omega
  ·have := hro.apart hrx c
   rw [hrm] at this
   omega
 have hnc : ∀ k x : Nat, isCell m.bm.list k x → ¬ (a / 512 ≤ x / 512 ∧ x / 512 < a / 512 + wholeN m.bm.list (a / 512)) := fun k x hc c => by
  have e := hc.2.2.1
  by_cases c0 : x / 512 = a / 512
  ·rw [c0] at e; rw [e] at f2; simp at f2
  ·have e2 := f5 (x / 512 - a / 512) (by omega) (by omega)
   rw [show a / 512 + (x / 512 - a / 512) = x / 512 by omega, e] at e2
   have := congrArg Hd.k e2
   simp at this
 refine ⟨r1, h.shrink hB r2 r3 r4 hS (by simp) (fun x hx => ?_) (fun x hx hc => ?_) (fun k x hk => ?_), rfl, fun x hx hxa => ?_, fun k x => (hS.cell k x).trans ⟨fun h => h.1, fun h => ⟨h, hnc k x h⟩⟩, fun hs => snd_shrunk hs r5 (fun q q1 q2 hk2 => ?_), fun q => ?_, ?_⟩
 ·rw [getD_set_off] at hx
  by_cases e : x = a
  ·rw [if_pos e] at hx; cases hx
  ·rw [if_neg e] at hx; exact ⟨hx, hin x hx e⟩
 ·rw [getD_set_off, if_neg]
  rintro rfl
  omega
 ·split
  ·next c =>
   rw [h.cells k x hk, if_neg]
   rintro ⟨hc, _⟩
   exact hnc k x hc c
  ·rfl
 ·dsimp only
  obtain ⟨o', ho'⟩ := Option.isSome_iff_exists.1 (h.placed x hx)
  rw [ho']
  exact hS.placed ho' r4.len (r4.word x (by have := (h.used_kind hx).1; have hfit := h.bm.clean.fits; have := h.len; intro c; omega)) (hin x hx hxa)
 ·by_cases c0 : q = a / 512
  ·subst c0
   exact ⟨rfl, f3.symm⟩
  ·have e2 := f5 (q - a / 512) (by omega) (by omega)
   rw [show a / 512 + (q - a / 512) = q by omega] at e2
   rw [e2] at hk2
   exact absurd hk2 (by simp)
 ·dsimp only
  rw [r5 q]
  by_cases c : a / 512 ≤ q ∧ q < a / 512 + wholeN m.bm.list (a / 512)
  ·rw [if_pos c]
   refine .inr ⟨rfl, ?_⟩
   by_cases c0 : q = a / 512
   ·rw [c0, f2]; decide
   ·have e2 := f5 (q - a / 512) (by omega) (by omega)
    rw [show a / 512 + (q - a / 512) = q by omega] at e2
    rw [e2]
    show (2 : Int) ≤ 3
    decide
  ·rw [if_neg c]; exact .inl rfl
 ·dsimp only
  rw [r5, if_pos ⟨Nat.le_refl _, by omega⟩]
  show (0 : Int) ≠ 2
  decide
structure Trimmed (B : Nat) (m m' : Al) (b : Nat) : Prop where
 ok : AlOk B m'
 used : m'.used = m.used
 keep : ∀ x : Nat, m.used.getD x false = true → placedN m'.bm.dev m'.bm.list (x : Int) = placedN m.bm.dev m.bm.list (x : Int)
 list : ∀ q, m'.bm.list.getD q default = if q = b then ⟨0, 0, 0⟩ else m.bm.list.getD q default
 free : m'.bm.free = setTo m.bm.free b true 1
 snd : Snd m.bm.list → Snd m'.bm.list
theorem trim_done (h : AlOk B m) (hB : B ≤ 200) {b k : Nat} (b1 : 1 ≤ b) (b2 : b < B) (hk : k < 32) (hb : m.bm.list.getD b default = ⟨1, k, 0⟩) (hu : ∀ x, x / 512 = b → m.used.getD x false = false) :
  (m.bm.release (b : Int)).err = 0 ∧ Trimmed B m ⟨(m.bm.release (b : Int)).bm, m.used, m.fl.remove k (512 * b) (512 * b + 512)⟩ b := by
 have hkd : (m.bm.list.getD b default).k = 1 := by rw [hb]
 have hn : relN (m.bm.list.getD b default) = ((1 : Nat) : Int) := by unfold relN; rw [if_pos hkd]; rfl
 obtain ⟨r1, r2, r3, r4, r5, r6⟩ := release_live h.bm h.live b1 b2 (.inl hkd) _ hn
 have hS := h.bm.shrank r2 b1 b2 (.inl hkd) hn r5
 have hrg : ∀ x, (b ≤ x / 512 ∧ x / 512 < b + 1) ↔ x / 512 = b := fun x => by omega
 have hin : ∀ x, m.used.getD x false = true → ¬ (b ≤ x / 512 ∧ x / 512 < b + 1) := fun x hx c => by
  rw [hu x ((hrg x).1 c)] at hx; cases hx
 refine ⟨r1, h.shrink hB r2 r3 r4 hS rfl (fun x hx => ⟨hx, hin x hx⟩) (fun _ _ _ => rfl) (fun j x hj => ?_), rfl, fun x hx => ?_, fun q => ?_, r6, fun hs => snd_shrunk hs r5 (fun q q1 q2 hk2 => ?_)⟩
 ·rw [FL.remove_cnt]
  by_cases c : b ≤ x / 512 ∧ x / 512 < b + 1
  ·rw [if_pos c]
   by_cases e : j = k
   ·rw [if_pos ⟨e, by omega, by omega⟩]
   ·rw [if_neg (fun q => e q.1), h.cells j x hj, if_neg]
    rintro ⟨hc, _⟩
    have := hc.2.2.1
    rw [(hrg x).1 c, hb] at this
    have := congrArg Hd.c this
    simp at this
    exact e (by omega)
  ·rw [if_neg c, if_neg]
   rintro ⟨_, h1, h2⟩
   exact c ⟨by omega, by omega⟩
 ·dsimp only
  obtain ⟨o', ho'⟩ := Option.isSome_iff_exists.1 (h.placed x hx)
  rw [ho']
  exact hS.placed ho' r4.len (r4.word x (by have := (h.used_kind hx).1; have hfit := h.bm.clean.fits; have := h.len; intro c; omega)) (hin x hx)
 ·dsimp only
  rw [r5 q]
  by_cases e : q = b
  ·rw [if_pos (by omega), if_pos e]
  ·rw [if_neg (by omega), if_neg e]
 ·obtain rfl : q = b := by omega
  rw [hkd] at hk2
  exact absurd hk2 (by decide)
def cellsTo (u : Nat → Bool) (b k : Nat) : Nat → List Nat
 | 0 => []
 | n + 1 => cellsTo u b k n ++ if u (cellOf b k n) then [] else [cellOf b k n]
def isSm (L : List Hd) (k b : Nat) : Bool := decide ((L.getD b default).k = 1) && decide ((L.getD b default).c = (k : Int))
def freeTo (u : Nat → Bool) (L : List Hd) (k : Nat) : Nat → List Nat
 | 0 => []
 | n + 1 => freeTo u L k n ++ if isSm L k (n + 1) then cellsTo u (n + 1) k (clsCells k) else []
theorem cellsTo_count {u : Nat → Bool} {b k : Nat} (hk : k < 32) (x : Nat) : ∀ n, (cellsTo u b k n).count x = if u x = false ∧ ∃ i, i < n ∧ x = cellOf b k i then 1 else 0
 | 0 => by rw [if_neg (by rintro ⟨_, i, hi, _⟩; omega)]; rfl
 | n + 1 => by
  unfold cellsTo
  rw [List.count_append, cellsTo_count hk x n]
  by_cases e : x = cellOf b k n
  ·subst e
   rw [if_neg (by rintro ⟨_, i, hi, e⟩; have := cellOf_inj hk _ _ e; omega)]
   cases h : u (cellOf b k n) with
   | true => rw [if_pos rfl, if_neg (by simp)]; rfl
   | false => rw [if_neg (by simp), if_pos ⟨rfl, n, by omega, rfl⟩]; simp
  ·have h0 : (if u (cellOf b k n) = true then ([] : List Nat) else [cellOf b k n]).count x = 0 := by
    split
    ·rfl
    ·rw [List.count_singleton, if_neg]; simpa using fun h => e h.symm
   rw [h0, Nat.add_zero]
   congr 1
   refine propext ⟨fun ⟨h1, i, hi, h2⟩ => ⟨h1, i, by omega, h2⟩, fun ⟨h1, i, hi, h2⟩ => ⟨h1, i, ?_, h2⟩⟩
   by_cases c : i = n
   ·subst c; exact absurd h2 e
   ·omega
theorem freeTo_count {u : Nat → Bool} {L : List Hd} {k : Nat} (hk : k < 32) (hL : ∀ b, b < L.length → (L.getD b default).k = 1 → (L.getD b default).l = 0) (x : Nat) : ∀ n, n < L.length → (freeTo u L k n).count x = if isCell L k x ∧ u x = false ∧ x / 512 ≤ n then 1 else 0
 | 0, hn => by rw [if_neg (by rintro ⟨hc, _, h⟩; have := hc.1; omega)]; rfl
 | n + 1, hn => by
  unfold freeTo
  rw [List.count_append, freeTo_count hk hL x n (by omega)]
  by_cases e : x / 512 = n + 1
  ·rw [if_neg (by rintro ⟨_, _, h⟩; omega), Nat.zero_add]
   cases hs : isSm L k (n + 1) with
   | false =>
    rw [if_neg (by simp), if_neg]
    ·rfl
    ·rintro ⟨hc, _⟩
     have := hc.2.2.1
     rw [e] at this
     unfold isSm at hs
     rw [this] at hs
     simp at hs
   | true =>
    rw [if_pos rfl, cellsTo_count hk]
    have hd : L.getD (n + 1) default = ⟨1, k, 0⟩ := by
     unfold isSm at hs
     simp only [Bool.and_eq_true, decide_eq_true_eq] at hs
     have h3 := hL (n + 1) hn hs.1
     generalize L.getD (n + 1) default = h at *
     obtain ⟨a, b, c⟩ := h
     obtain ⟨h1, h2⟩ := hs
     dsimp only at h1 h2 h3
     rw [h1, h2, h3]
    have hio := isCell_of (L := L) (x := x) hk (b := n + 1) (by omega) hn hd
    congr 1
    refine propext ⟨fun ⟨h1, h2⟩ => ⟨(hio.2 h2).1, h1, by omega⟩, fun ⟨h1, h2, _⟩ => ⟨h2, hio.1 ⟨h1, e⟩⟩⟩
  ·have h0 : (if isSm L k (n + 1) = true then cellsTo u (n + 1) k (clsCells k) else []).count x = 0 := by
    split
    ·rw [cellsTo_count hk, if_neg]
     rintro ⟨_, i, hi, h2⟩
     exact e (by rw [h2]; exact (cellOf_at hk hi).1)
    ·rfl
   rw [h0, Nat.add_zero]
   congr 1
   refine propext ⟨fun ⟨h1, h2, h3⟩ => ⟨h1, h2, by omega⟩, fun ⟨h1, h2, h3⟩ => ⟨h1, h2, by omega⟩⟩
theorem cellOf_lt {b k i j : Nat} (hk : k < 32) (h : i < j) : cellOf b k i < cellOf b k j := by
 have hp := clsWords_pos (k : Int) (by omega)
 unfold cellOf
 have : (i + 1) * clsWords k ≤ j * clsWords k := Nat.mul_le_mul_right _ h
 rw [Nat.add_mul, Nat.one_mul] at this
 omega
theorem cellsTo_mem {u : Nat → Bool} {b k x : Nat} : ∀ {n}, x ∈ cellsTo u b k n → ∃ i, i < n ∧ x = cellOf b k i
 | 0, h => by cases h
 | n + 1, h => by
  unfold cellsTo at h
  rcases List.mem_append.1 h with h | h
  ·obtain ⟨i, hi, e⟩ := cellsTo_mem h; exact ⟨i, by omega, e⟩
  ·split at h
   ·cases h
   ·exact ⟨n, by omega, by simpa using h⟩
theorem cellsTo_sorted {u : Nat → Bool} {b k : Nat} (hk : k < 32) : ∀ n, (cellsTo u b k n).Pairwise (· ≤ ·)
 | 0 => List.Pairwise.nil
 | n + 1 => by
  unfold cellsTo
  refine List.pairwise_append.2 ⟨cellsTo_sorted hk n, ?_, fun x hx y hy => ?_⟩
  ·split
   ·exact List.Pairwise.nil
   ·exact List.pairwise_singleton _ _
  ·obtain ⟨i, hi, rfl⟩ := cellsTo_mem hx
   split at hy
   ·cases hy
   ·have : y = cellOf b k n := by simpa using hy
    rw [this]; exact Nat.le_of_lt (cellOf_lt hk hi)
theorem freeTo_mem {u : Nat → Bool} {L : List Hd} {k x : Nat} (hk : k < 32) : ∀ {n}, x ∈ freeTo u L k n → x < 512 * (n + 1)
 | 0, h => by cases h
 | n + 1, h => by
  unfold freeTo at h
  rcases List.mem_append.1 h with h | h
  ·have := freeTo_mem hk h; omega
  ·split at h
   ·obtain ⟨i, hi, rfl⟩ := cellsTo_mem h
    have := (cellOf_at hk hi (b := n + 1)).1
    omega
   ·cases h
theorem freeTo_sorted {u : Nat → Bool} {L : List Hd} {k : Nat} (hk : k < 32) : ∀ n, (freeTo u L k n).Pairwise (· ≤ ·)
 | 0 => List.Pairwise.nil
 | n + 1 => by
  unfold freeTo
  refine List.pairwise_append.2 ⟨freeTo_sorted hk n, ?_, fun x hx y hy => ?_⟩
  ·split
   ·exact cellsTo_sorted hk _
   ·exact List.Pairwise.nil
  ·have := freeTo_mem hk hx
   split at hy
   ·obtain ⟨i, hi, rfl⟩ := cellsTo_mem hy
    have := (cellOf_at hk hi (b := n + 1)).1
    omega
   ·cases hy
theorem cellsTo_len {u : Nat → Bool} {b k : Nat} : ∀ n, (cellsTo u b k n).length ≤ n
 | 0 => Nat.le_refl _
 | n + 1 => by
  unfold cellsTo
  have := cellsTo_len (u := u) (b := b) (k := k) n
  rw [List.length_append]
  split <;> simp <;> omega
theorem freeTo_len {u : Nat → Bool} {L : List Hd} {k : Nat} (hk : k < 32) : ∀ n, (freeTo u L k n).length ≤ 256 * n
 | 0 => Nat.le_refl _
 | n + 1 => by
  unfold freeTo
  have h1 := freeTo_len (u := u) (L := L) hk n
  have h2 := cellsTo_len (u := u) (b := n + 1) (k := k) (clsCells k)
  have h3 : clsCells k ≤ 256 := by
   unfold clsCells
   have hp := clsWords_pos (k : Int) (by omega)
   have := Nat.div_le_div_left (c := 2) (b := clsWords (k : Int)) (a := 512) hp (by decide)
   omega
  rw [List.length_append]
  split
  ·omega
  ·simp; omega
theorem AlOk.free_is {B : Nat} {m : Al} (h : AlOk B m) {k : Nat} (hk : k < 32) {l : List Nat} (hl : l.Pairwise (· ≤ ·)) (hp : ∀ x, l.count x = m.fl.cnt k x) (hB : 1 ≤ B) : l = freeTo (fun a => m.used.getD a false) m.bm.list k (B - 1) := by
 have hL : ∀ b, b < m.bm.list.length → (m.bm.list.getD b default).k = 1 → (m.bm.list.getD b default).l = 0 := fun b hb h1 => by
  have hr := of_decide_eq_true (h.bm.right b (by rw [← h.bm.lenL]; exact hb))
  unfold HdRight at hr
  omega
 refine sorted_same hl (freeTo_sorted hk _) fun x => ?_
 rw [hp, h.cells k x hk, freeTo_count hk hL x _ (by rw [h.bm.lenL]; omega)]
 congr 1
 refine propext ⟨fun ⟨h1, h2⟩ => ⟨h1, h2, ?_⟩, fun ⟨h1, h2, _⟩ => ⟨h1, h2⟩⟩
 have := h1.2.1
 rw [h.bm.lenL] at this
 omega
end Go.Proofs.YtbimcogdbafjpaaGreat
namespace Go.Proofs.YtbimcogdbafjpaaGreat
open Go.RowKit Go.Shelf
attribute [local go_sem] Oper.semAt_some
theorem onesF_next {l : List Bool} {a : Nat} : onesF l a = match nextB l a with | some i => i :: onesF l (i + 1) | none => [] := by
 cases h : nextB l a with
 | none => exact onesF_none h
 | some i => exact onesF_step h
def Coming (l : List Bool) (pre : List Nat) (o : Option Nat) : Prop := onesL l = pre ++ (match o with | some i => i :: onesF l (i + 1) | none => [])
theorem Coming.start (l : List Bool) : Coming l [] (nextB l 0) := by unfold Coming; rw [List.nil_append, ← onesF_zero]; exact onesF_next
theorem Coming.next {l : List Bool} {pre : List Nat} {i : Nat} (h : Coming l pre (some i)) : Coming l (pre ++ [i]) (nextB l (i + 1)) := by
 unfold Coming at h ⊢
 rw [h, ← onesF_next]; simp
theorem Coming.done {l : List Bool} {pre : List Nat} (h : Coming l pre none) : pre = onesL l := by unfold Coming at h; simpa using h.symm
theorem Coming.lt {l : List Bool} {pre : List Nat} {i : Nat} (h : Coming l pre (some i)) : pre.length < (onesL l).length := by unfold Coming at h; rw [h]; simp
theorem Coming.pre {l : List Bool} {pre : List Nat} {i : Nat} (h : Coming l pre (some i)) : pre ++ [i] <+: onesL l := by unfold Coming at h; rw [h]; exact ⟨onesF l (i + 1), by simp⟩
theorem Coming.in_ {l : List Bool} {pre : List Nat} {i : Nat} (h : Coming l pre (some i)) : i < l.length := by
 have : i ∈ onesL l := by unfold Coming at h; rw [h]; simp
 unfold onesL at this
 exact List.mem_range.1 (List.mem_filter.1 this).1
theorem nextV_eq (o : Option Nat) : nextV o = .tuple #[.int .i64 ((o.getD 0 : Nat) : Int), .bool o.isSome] := by cases o <;> rfl
def leftB (n : Nat) (v b : Value) : Nat := match b with
 | .bool true => n + 1 - (intOf v).toNat
 | _ => 0
theorem leftB_next {l : List Bool} {pre : List Nat} {i : Nat} (h : Coming l pre (some i)) : leftB l.length (.int .i64 (((nextB l (i + 1)).getD 0 : Nat) : Int)) (.bool (nextB l (i + 1)).isSome) < leftB l.length (.int .i64 (i : Int)) (.bool true) := by
 have hi := h.in_
 cases ho : nextB l (i + 1) with
 | none => simp [leftB, intOf]; omega
 | some j =>
  have := nextB_is ho
  simp [leftB, intOf]; omega
def KpB (n₀ Bn : Nat) (A B : World) : Prop := Below n₀ A B ∧ B.heap[Bn]? = A.heap[Bn]?
theorem KpB.trans {n₀ Bn : Nat} {A B C : World} (h : KpB n₀ Bn A B) (k : KpB n₀ Bn B C) : KpB n₀ Bn A C := ⟨h.1.trans k.1, k.2.trans h.2⟩
theorem KpB.book {n₀ Bn : Nat} {w : World} (hn : n₀ ≤ w.heap.size) (hB : Bn < w.heap.size) (W : World) (l : Nat) (o o' : Obj) (hl : w.heap.size ≤ l) (h : W.heap[l]? = some o) (h1 : o.isCells = false) (h2 : o.isWalk = false) : KpB n₀ Bn W (W.putObj l o') :=
 ⟨belowK_b hn W l o o' hl h h1 h2, World.putObj_heap_other (by omega)⟩
set_option maxRecDepth 100000 in
set_option maxHeartbeats 2000000 in
theorem sall1_in {X : SetF} {l : List Bool} (n : Nat) (hn : 1 ≤ n) (lp Bn n₀ : Nat) (J Jx : List Nat → World → Prop)
  (hY : ∀ pre (x : Nat) W, J pre W → pre.length < (onesL l).length → YieldAt Fence.wide (n - 1) Tryz.prog lp #[.int .i64 (x : Int)] W fun e W' =>
   (e = .returned (.bool true) ∧ J (pre ++ [x]) W' ∧ KpB n₀ Bn W W') ∨ (e = .returned (.bool false) ∧ Jx (pre ++ [x]) W'))
  (W : World) (hBn : Boxed W Bn 48 (vset X)) (hS : SetAt W X l) (hX : ∀ k ∈ X.list, k < n₀) (h0 : J [] W) :
  CallsIn Fence.wide n Tryz.prog 222 #[.func (.yield lp) #[] #[], .pointer (some ⟨Bn, 0, none⟩)] W fun e W' => (∃ v, e = .returned v) ∧
   ((∃ ys, ys = onesL l ∧ J ys W') ∨ (∃ pre, pre <+: onesL l ∧ Jx pre W')) := by
 have HS := LH hS
 refine callsIn_of_wp Tryz.func222 rfl trivial ?_ rfl
 simp only [Tryz.ntmps222, List.size_toArray, List.length_cons, List.length_nil, Nat.reduceAdd, Nat.reduceSub, Array.replicate_succ, Array.replicate_zero, List.push_toArray, List.append_toArray, List.nil_append, List.cons_append]
 have HN0 := LH (snext_any hS 0)
 rw [show (0 : Int).toNat = 0 from rfl, nextV_eq] at HN0
 have HC0 := LH (Coming.start l)
 generalize nextB l 0 = o0 at *
 have hc0 := hBn.cell
 clear hS
 gi_wp2_with (refine ⟨trivial, ?_⟩; gi_at_call 211; refine (callsIn_wide.2 HN0.out).mono ?_; rintro e w1 ⟨rfl, rfl⟩)
 gi_loopw [3, 4] (fun v b wr => ∃ (pre : List Nat) (o : Option Nat), v = .int .i64 ((o.getD 0 : Nat) : Int) ∧ b = .bool o.isSome ∧ Hid (Coming l pre o) ∧ Hid (SetAt wr X l) ∧ Boxed wr Bn 48 (vset X) ∧ J pre wr) (fun v b _ => leftB l.length v b)
 case atStart => exact ⟨[], o0, rfl, rfl, HC0, HS, hBn, h0⟩
 case round =>
  clear HN0 hBn h0 HS HC0 hc0
  obtain ⟨pre, o, rfl, rfl, HC, HS, hBn, hJ⟩ := hrel
  cases o with
  | none =>
   simp only [Option.isSome_none, Option.getD_none]
   gi_wp2
   go_end0
   exact ⟨⟨_, rfl⟩, .inl ⟨pre, HC.out.done, hJ⟩⟩
  | some i =>
   simp only [Option.isSome_some, Option.getD_some]
   obtain ⟨fn, tmps, assign, body, hy, hR⟩ := hY pre i wr hJ HC.out.lt
   gi_wp2
   refine hR.mono ?_
   rintro e W3 (⟨rfl, hJ3, hk3⟩ | ⟨rfl, hJx3⟩)
   ·have hBn3 : Boxed W3 Bn 48 (vset X) := hk3.2.trans hBn
    have hc3 := hBn3.cell
    have HS3 := LH (HS.out.keep (fun k hk => hk3.1.block k (hX k hk)))
    have HN := LH (snext_any HS3.out ((i : Int) + 1))
    rw [show ((i : Int) + 1).toNat = i + 1 by omega, nextV_eq] at HN
    have HL := LH (leftB_next HC.out)
    have HC3 := LH HC.out.next
    have hil := HC.out.in_
    have hls := HS.out.small
    clear hk3 hy hR
    generalize nextB l (i + 1) = o at *
    gi_wp2_with (refine ⟨trivial, ?_⟩; gi_at_call 211; refine (callsIn_wide.2 HN.out).mono ?_; rintro e w1 ⟨rfl, rfl⟩)
    go_roundw
    case rel => exact ⟨pre ++ [i], o, rfl, rfl, HC3, HS3, hBn3, hJ3⟩
    case measure => exact HL.out
   ·gi_wp2
    refine bodyPost_ret (results_none rfl _ _ _) rfl ?_
    exact ⟨⟨_, rfl⟩, .inr ⟨pre ++ [i], HC.out.pre, hJx3⟩⟩
set_option maxHeartbeats 1000000 in
theorem sall_in (X : SetF) (n : Nat) (w : World) :
  CallsIn Fence.wide n Tryz.prog 179 #[vset X] w fun e w' => e = .returned (.func (.func 222) #[] #[.pointer (some ⟨w.heap.size, 0, none⟩)]) ∧ w' = w.alloc (.cells #[vset X] 48) := by
 refine callsIn_of_wp Tryz.func179 rfl trivial ?_ rfl
 simp only [Tryz.ntmps179, List.size_toArray, List.length_cons, List.length_nil, Nat.reduceAdd, Nat.reduceSub, Array.replicate_succ, Array.replicate_zero, List.push_toArray, List.append_toArray, List.nil_append, List.cons_append]
 gi_wp2
 go_ret
 exact ⟨rfl, rfl⟩
theorem sall_stops {X : SetF} {l : List Bool} (n : Nat) (hn : 1 ≤ n) (Bn n₀ : Nat) (w : World) (hn₀ : n₀ ≤ w.heap.size) (hc : Boxed w Bn 48 (vset X)) (hS : SetAt w X l) (hX : ∀ k ∈ X.list, k < n₀) :
  SeqStopsK Fence.wide n Tryz.prog 222 #[.pointer (some ⟨Bn, 0, none⟩)] (fun x : Nat => #[Value.int .i64 (x : Int)]) (KpB n₀ Bn) (fun ys => ys = onesL l) (fun pre => pre <+: onesL l) (onesL l).length w := fun lp J Jx W hW _ _ hY h0 =>
 sall1_in n hn lp Bn n₀ J Jx hY W ((hW.block Bn hc.lt).trans hc) (hS.below hW) hX h0
theorem infoInt : (Tryz.prog.info? 3).map (fun i => (i.zero, i.size, i.bytes)) = some (some (.int .i64 0), 1, 8) := by kernel_rfl
def ListPost (w : World) (xs : List Nat) : Ending → World → Prop := fun e w' => ∃ v, e = .returned v ∧ w'.ownsRow w.heap.size 3 1 v xs.length (xs.map vi) ∧ (v = .slice none 0 0 ↔ xs = []) ∧ Below w.heap.size w w'
set_option maxRecDepth 100000 in
set_option maxHeartbeats 2000000 in
theorem slist_any {w : World} {X : SetF} {l : List Bool} (h : SetAt w X l) : Calls Tryz.prog 116 #[vset X] w (ListPost w (onesL l)) := by
 have hlen : (onesL l).length ≤ 1000000 := by rw [onesL_length]; exact Nat.le_trans (count_le_len l) h.small
 obtain ⟨i0, hi, hz0, hz1, hz2⟩ := info_parts infoInt
 refine (callsIn_wide (n := 5)).1 ?_
 refine callsIn_of_wp_marks Tryz.func116 rfl trivial ?_ rfl
 simp only [Tryz.ntmps116, List.size_toArray, List.length_cons, List.length_nil, Nat.reduceAdd, Nat.reduceSub, Array.replicate_succ, Array.replicate_zero, List.push_toArray, List.append_toArray, List.nil_append, List.cons_append]
 gi_wp2_with (refine ⟨trivial, ?_⟩; gi_at_call 179; refine (sall_in X _ _).mono ?_; rintro e w' ⟨rfl, rfl⟩)
 have bO := Boxed.new w 35 (.slice none 0 0)
 have bN := Boxed.new (w.alloc (.cells #[.slice none 0 0] 35)) 48 (vset X)
 rw [World.size_alloc] at bN
 have hB0 : Below w.heap.size w ((w.alloc (.cells #[.slice none 0 0] 35)).alloc (.cells #[vset X] 48)) := ((Below.refl _ w).alloc (Nat.le_refl _) _).alloc (by simp) _
 refine wpIn_rangeFunc_ownG rfl (by omega) (gf := 222) (lb := #[.pointer (some ⟨w.heap.size + 1, 0, none⟩)]) rfl trivial (enters_of Tryz.func222 (by kernel_rfl) rfl)
  (sall_stops 4 (by omega) (w.heap.size + 1) w.heap.size _ (by simp; omega) bN (h.below hB0) h.mem) KpB.trans (KpB.book (by simp; omega) (by simp)) (Below.refl _ _) (fun _ => rfl)
  (fun pre W => (∃ v, Boxed W w.heap.size 35 v ∧ W.ownsRow w.heap.size 3 1 v pre.length (pre.map vi) ∧ (v = .slice none 0 0 ↔ pre = [])) ∧ Boxed W (w.heap.size + 1) 48 (vset X) ∧ Below w.heap.size w W)
  (fun _ _ _ => False)
  (OwnFrom.and (Own.from (holdsRow_own w.heap.size w.heap.size 35 3 1 (fun pre : List Nat => pre.length) (fun pre => pre.map vi) (fun pre v => v = .slice none 0 0 ↔ pre = [])) _) (OwnFrom.and (Own.from (boxed_own _ _ _) _) (ownFrom_below (Nat.le_refl _) (by simp; omega))))
  (fun _ _ _ _ _ hs _ _ => hs)
  ⟨⟨_, bO.alloc _, World.ownsRow_nil _ _ _ _, by simp⟩, bN, hB0⟩
  (fun x => { tmps := #[vset X, undef, .slice none 0 0, .pointer (some ⟨w.heap.size, 0, none⟩), .int .i64 (x : Int), vset X, .func (.func 222) #[] #[.pointer (some ⟨w.heap.size + 1, 0, none⟩)], .int .i64 (x : Int), undef, undef, undef, undef, undef], defers := [] }) ?assign ?body ?done ?stop
 case assign =>
  intro l x W K hK
  gi_wp2
  exact hK
 case body =>
  rintro l' pre x W ⟨⟨v, hv, hrow, hnil⟩, hX, hB⟩ hlt
  have hc := hv.cell
  gi_wp2_with (gi_at_builtin; refine wpListIn_append_own _ rfl _ _ 35 rfl w.heap.size 3 i0 (.int .i64 0) 1 8 Tryz.underlying35 hi hz0 hz1 hz2 rfl (by decide) _ _ _ rfl (hrow.alloc _) ⟨W.heap.size, 0, none⟩ 1 1 [.int .i64 (x : Int)] rfl rfl (cell_one_new _ _ _) (by simp [Value.oneCell']) (by have : maxLen = 9223372036854775807 := rfl; omega) (by omega) (by have := hB.size; simp; omega) ?_; intro v' w1 hown' hgrow _; obtain ⟨g', cap', rfl⟩ := ownsRow_succ hown'; obtain ⟨hv1, hv2, hr2, hk2, hb2⟩ := hv.appended (by decide) hrow hB.size (Nat.le_refl _) hown' hgrow; have hc1 := hv1.cell; have hf1 := hv1.frozen)
  have hX2 := Boxed.other ((hX.alloc _).kept hgrow (hX.not_row (by decide) hrow)) (show w.heap.size + 1 ≠ w.heap.size by omega) (Value.slice (some ⟨g', 0, none⟩) (pre.length + 1) cap')
  exact ⟨hk2.from _, ⟨hb2, hX2.trans hX.symm⟩, ⟨_, hv2, by simpa using hr2, by simp⟩, hX2, hB.trans hb2⟩
 case done =>
  rintro D ys W hD rfl ⟨⟨v, hv, hrow, hnil⟩, _, hB⟩ hK
  have hc := hv.cell
  gi_wp2
  refine ⟨by simp, .inl ⟨_, _, rfl, run_takeDeferred hK, ?_⟩⟩
  exact ⟨_, results_tmp rfl _ _ _, v, rfl, ownsRow_putObj hrow _ hK rfl, hnil, hB.trans (belowK_b (w := w) (Nat.le_refl _) W D _ _ (by simp at hD; omega) hK rfl rfl)⟩
 case stop =>
  rintro D c pre W _ _ h _
  exact h.elim
end Go.Proofs.YtbimcogdbafjpaaGreat
namespace Go.Proofs.YtbimcogdbafjpaaGreat
open Go.RowKit
set_option maxHeartbeats 400000 in
theorem adev_any {w : World} {A : AF} {n B : Nat} {m : Al} (h : AlAt w A n B m) :
  Calls Tryz.prog 104 #[valloc A] w fun e w' => e = .returned (vdev A.X.F) ∧ w = w' := by
 have c1 := h.c1
 clear h
 go_enter Tryz.func104, Tryz.ntmps104
 go_wp2_with fail
 go_ret
 exact ⟨rfl, rfl⟩
set_option maxHeartbeats 400000 in
theorem aused_any {w : World} {A : AF} {n B : Nat} {m : Al} (h : AlAt w A n B m) (x : Int) :
  Calls Tryz.prog 165 #[valloc A, .int .i64 x] w fun e w' => e = .returned (.bool (hasI m.used x)) ∧ w = w' := by
 have c3 := h.c3
 have HS := LH h.set
 clear h
 go_enter Tryz.func165, Tryz.ntmps165
 go_wp2_with fail
 refine (shas_any HS.out x).mono ?_
 rintro e w1 ⟨rfl, rfl⟩
 go_wp2_with fail
 go_ret
 exact ⟨rfl, rfl⟩
set_option maxHeartbeats 400000 in
theorem aobjects_any {w : World} {A : AF} {n B : Nat} {m : Al} (h : AlAt w A n B m) :
  Calls Tryz.prog 28 #[valloc A] w (ListPost w (onesL m.used)) := by
 have c3 := h.c3
 have HS := LH h.set
 have HP : Hid (∀ e w', ListPost w (onesL m.used) e w' → ListPost w (onesL m.used) e w') := LH (fun _ _ h => h)
 generalize hP : ListPost w (onesL m.used) = Post at *
 clear h
 go_enter Tryz.func28, Tryz.ntmps28
 go_wp2_with fail
 refine (slist_any HS.out).mono ?_
 rw [hP]
 rintro e w1 hp
 have HPp := LH hp
 rw [← hP] at hp
 obtain ⟨v, rfl, _⟩ := hp
 clear hP
 go_wp2_with fail
 exact HPp.out
end Go.Proofs.YtbimcogdbafjpaaGreat
namespace Go.Proofs.YtbimcogdbafjpaaGreat
open Go.RowKit Go.Maps
end Go.Proofs.YtbimcogdbafjpaaGreat
namespace Go.Proofs.YtbimcogdbafjpaaGreat
open Go.RowKit
structure MkF where
 p : Nat
 X : SetF
 Y : SetF
 s : Nat
 v : Value
section
variable {w w' : World} {A : AF} {K : MkF} {M : Mk}
end
section
variable {w w0 w1 w' : World} {A : AF} {n B : Nat} {m : Al} {K : MkF} {M M' : Mk}
end
section
variable {w : World} {A : AF} {K : MkF} {M : Mk}
end
section
variable {w : World} {A : AF} {n B : Nat} {m : Al} {K : MkF} {M : Mk}
end
end Go.Proofs.YtbimcogdbafjpaaGreat
namespace Go.Proofs.YtbimcogdbafjpaaGreat
section
variable {U : List Bool} {P : Nat → List Nat} {M : Mk}
section
variable {b : Bool} {M' : Mk}
end
end
end Go.Proofs.YtbimcogdbafjpaaGreat
namespace Go.Proofs.YtbimcogdbafjpaaGreat
open Go.RowKit
section
variable {w : World} {A : AF} {n B : Nat} {m : Al} {K : MkF} {M : Mk}
end
section
variable {U : List Bool} {P : Nat → List Nat} {M : Mk}
end
section
variable {w : World} {A : AF} {n B : Nat} {m : Al} {K : MkF} {M : Mk}
end
theorem dropI_set (l : List Bool) (a : Nat) : dropI l (a : Int) = l.set a false := by
 unfold dropI
 by_cases h : hasI l (a : Int) = true
 ·rw [if_pos h, Int.toNat_natCast]
 ·rw [if_neg h]
  rw [hasI_nat] at h
  symm
  refine List.ext_getElem? fun i => ?_
  by_cases e : a = i
  ·subst e
   by_cases hl : a < l.length
   ·rw [List.getElem?_set_self hl, List.getElem?_eq_getElem hl]
    rw [List.getD_eq_getElem?_getD, List.getElem?_eq_getElem hl] at h
    simpa using h
   ·rw [List.set_eq_of_length_le (by omega)]
  ·rw [List.getElem?_set_ne e]
section
variable {w : World} {A : AF} {n B : Nat} {m : Al} {K : MkF} {M : Mk}
end
end Go.Proofs.YtbimcogdbafjpaaGreat
namespace Go.Proofs.YtbimcogdbafjpaaGreat
open Go.RowKit Go.Maps
theorem bm_smallL {B : Nat} {b : Bm} (h : BmOk B b) : ∀ i, (b.list.getD i default).l ≤ 100000 := fun i => by
 by_cases hi : i < B
 ·have := of_decide_eq_true (h.right i hi)
  unfold HdRight at this
  omega
 ·rw [List.getD_eq_getElem?_getD, List.getElem?_eq_none (by rw [h.lenL]; omega)]
  show (0 : Int) ≤ 100000
  decide
theorem aput_any {w : World} {A : AF} {n B : Nat} {m : Al} (h : AlAt w A n B m) (hL : m.fl.upto 900000) (hn : n < 1000000000000) (mu k a : Nat) (hm4 : mu < 4) (hk : k < 32) :
  Calls Tryz.prog 160 #[.pointer (some ⟨A.f, 0, none⟩), .int .i64 (mu : Int), .int .i64 (k : Int), .int .i64 (a : Int)] w fun e w' => e = .returned (.int .i64 (if m.fl.has k a then 41 else 0)) ∧ AlGo w w' A (n + 2) B ⟨m.bm, m.used, m.fl.put mu k a⟩ := by
 refine (fput_any h.free hL hn mu k a hm4 hk).mono ?_
 rintro e w' ⟨rfl, hg⟩
 exact ⟨rfl, h.setFree (by omega) hg⟩
theorem apush_any {w : World} {A : AF} {n B : Nat} {m : Al} (h : AlAt w A n B m) (hL : m.fl.upto 1000000) (k a : Nat) (hk : k < 32) :
  Calls Tryz.prog 159 #[.pointer (some ⟨A.f, 0, none⟩), .int .i64 (k : Int), .int .i64 (a : Int)] w fun e w' => e = .returned (.int .i64 (if m.fl.has k a then 41 else 0)) ∧ AlGo w w' A n B ⟨m.bm, m.used, m.fl.pushed k a⟩ := by
 refine (fpush_any h.free hL k a hk).mono ?_
 rintro e w' ⟨rfl, hg⟩
 exact ⟨rfl, h.setFree (Nat.le_refl _) hg⟩
theorem adrop_any {w : World} {A : AF} {n B : Nat} {m : Al} (h : AlAt w A n B m) (a : Nat) :
  Calls Tryz.prog 158 #[vset A.U, .int .i64 (a : Int)] w fun e w' => e = .returned (.bool (hasI m.used (a : Int))) ∧ AlGo w w' A n B ⟨m.bm, m.used.set a false, m.fl⟩ := by
 refine (sdrop_any h.set (a : Int)).mono ?_
 rintro e w' ⟨rfl, hs, ht⟩
 rw [dropI_set] at hs
 exact ⟨rfl, h.setUsed hs ht (by simp)⟩
set_option maxHeartbeats 1000000 in
theorem afreeCells_any {w : World} {A : AF} {n B : Nat} {m : Al} (h : AlAt w A n B m) (hL : m.fl.upto 900000) (k : Nat) (hk : k < 32) :
  Calls Tryz.prog 85 #[valloc A, .int .i64 (k : Int)] w (ListI w m.fl k) := by
 have HL := LH (flist_any h.free hL k hk)
 have c4 := h.c4
 have HP : Hid (∀ e w', ListI w m.fl k e w' → ListI w m.fl k e w') := LH (fun _ _ h => h)
 clear h hL
 generalize hPo : ListI w m.fl k = Post at *
 go_enter Tryz.func85, Tryz.ntmps85
 go_wp2_with fail
 refine HL.out.mono ?_
 intro e w1 h1
 have h2 := h1
 rw [← hPo] at h2
 obtain ⟨v, ys, rfl, _⟩ := h2
 have H1 := LH h1
 clear h1 hPo
 go_wp2_with fail
 exact H1.out
def FreePost (w : World) (A : AF) (n B N : Nat) (m : Al) (x : Int) : Ending → World → Prop := fun e w' =>
 (hasI m.used x = false ∧ e = .returned (.int .i64 42) ∧ AlGo w w' A n B m) ∨
 (∃ (a : Nat) (m' : Al), x = (a : Int) ∧ m.used.getD a false = true ∧ e = .returned (.int .i64 0) ∧ Gone B m m' a ∧ m'.bm.dev.ok (N + 500000) ∧ AlGo w w' A n B m')
set_option maxHeartbeats 4000000 in
set_option maxRecDepth 20000 in
theorem afree_any {w : World} {A : AF} {n B : Nat} {m : Al} (h : AlAt w A n B m) (hok : AlOk B m) (hB : B ≤ 200) (hn : n < 900000000000) {N : Nat} (hN : N ≤ 900000000) (ho : m.bm.dev.ok N) (mu x : Int) :
  Calls Tryz.prog 84 #[valloc A, .int .i64 mu, .int .i64 x] w (FreePost w A (n + 4) B N m x) := by
 have HA := LH h
 have HOk := LH hok
 have HON := LH ho
 have HUp := LH hok.upto
 have HPl := LH (aplace_any h (by omega) x)
 have HP1 : Hid (∀ w', hasI m.used x = false → AlGo w w' A (n + 4) B m → FreePost w A (n + 4) B N m x (.returned (.int .i64 42)) w') := LH (fun w' h1 h2 => .inl ⟨h1, rfl, h2⟩)
 have HP2 : Hid (∀ (a : Nat) m' w', x = (a : Int) → m.used.getD a false = true → Gone B m m' a → m'.bm.dev.ok (N + 500000) → AlGo w w' A (n + 4) B m' → FreePost w A (n + 4) B N m x (.returned (.int .i64 0)) w') := LH (fun a m' w' h1 h2 h3 h4 h5 => .inr ⟨a, m', h1, h2, rfl, h3, h4, h5⟩)
 generalize FreePost w A (n + 4) B N m x = Post at *
 clear h hok ho
 go_enter Tryz.func84, Tryz.ntmps84
 go_wp2_with fail
 refine HPl.out.mono ?_
 rintro e w1 ⟨⟨p, d, rfl, hpl⟩, hb1⟩
 have HM := LH (Mem.one w1 #[.int .i64 p, .int .i64 d] 129)
 have HA1 := LH (HA.out.below hb1)
 have HW1 := LH hb1
 have HPd := LH hpl
 clear hb1 hpl HPl
 generalize hbv : (placedN m.bm.dev m.bm.list x).isSome = bv at *
 have HBv := LH hbv
 clear hbv
 go_upto_region 2 with fail
 obtain ⟨q, hq⟩ : ∃ q, q = w1.heap.size := ⟨_, rfl⟩
 rw [← hq] at HM ⊢
 have HQ := LH hq
 have HA2 := LH (HA1.out.below HM.out.below)
 have HW2 := LH (HW1.out.trans (HM.out.below.mono HW1.out.size))
 generalize w1.alloc _ = w2 at *
 clear hq
 cases hu : hasI m.used x with
 | false =>
  have HFin := LH (fun w' (h : AlGo w w' A (n + 4) B m) => HP1.out w' hu h)
  cases bv with
  | false =>
   clear hu
   go_wp2_with fail
   exact HFin.out _ (AlGo.ahead HW2.out ((AlGo.refl HA2.out).mono (by omega)))
  | true =>
   have HH := LH (shas_any HA2.out.set x)
   rw [hu] at HH
   have c3 := HA2.out.c3
   clear hu
   go_wp2_with fail
   refine HH.out.mono ?_
   rintro e w3 ⟨rfl, rfl⟩
   go_wp2_with fail
   exact HFin.out _ (AlGo.ahead HW2.out ((AlGo.refl HA2.out).mono (by omega)))
 | true =>
 obtain ⟨a, rfl, hal, hua⟩ := hasI_is hu
 have HUa := LH hua
 obtain ⟨o, hop⟩ := Option.isSome_iff_exists.1 (HOk.out.placed a hua)
 have hbv : bv = true := by rw [← HBv.out, hop]; rfl
 subst hbv
 obtain rfl := HPd.out o hop
 have HOp := LH hop
 have HH := LH (shas_any HA2.out.set (a : Int))
 rw [hu] at HH
 have c3 := HA2.out.c3
 clear hu hua hop HPd HBv
 go_wp2_with fail
 refine HH.out.mono ?_
 rintro e w3 ⟨rfl, rfl⟩
 have d0 := HM.out.cell 0 0 rfl rfl
 have d1 := HM.out.cell 0 1 rfl rfl
 have HSm := LH (fun w => osmall_any p d w)
 go_wp2_with fail
 refine (HSm.out _).mono ?_
 rintro e w3 ⟨rfl, hb3⟩
 have HA3 := LH (HA2.out.below hb3)
 have HW3 := LH (HW2.out.trans (hb3.mono HW2.out.size))
 clear hb3 d0 d1 c3 HSm
 by_cases hsm : small (objSize p d)
 case neg =>
  rw [ofV_large _ hsm]
  obtain ⟨hre, hgone⟩ := gone_large HOk.out hB HUa.out HOp.out hsm
  have HRe := LH hre
  have HGone := LH hgone
  have hkk := HOk.out.used_kind HUa.out
  have HBo : Hid (blockOf (B : Int) (a : Int) = ((a / 512 : Nat) : Int)) := LH (by unfold blockOf; rw [if_neg (by omega)]; omega)
  have HOkN2 : Hid ((m.bm.release ((a / 512 : Nat) : Int)).bm.dev.ok (N + 500000)) := LH (release_okN HOk.out.bm.clean.inv HON.out (by rw [HOk.out.bm.lenL]; omega) _)
  have HLc : Hid ((m.bm.release ((a / 512 : Nat) : Int)).bm.dev.cache.length = m.bm.dev.cache.length) := LH (by rw [hgone.ok.len, HOk.out.len])
  clear hsm hre hgone hkk
  go_upto_region 6 with fail
  have r0 := fun x => later_cell HA3.out.c0 x
  have r2 := fun x => later_cell HA3.out.c2 x
  refine wp_region_seg (C := fun w' => ∃ x : Later (w3), w' = x.val) [.fl [0, 1, 2, 3, 4, 5, 6, 7, 8], .sq [9] true, .sq [10, 11] false] (by kernel_rfl) (by kernel_rfl) (by intro c a d v w h; cases d <;> exact h) ?_
  simp only [segs, picks, List.getElem?_cons_succ, List.getElem?_cons_zero]
  have hC1 := later_drew (w3)
  refine wpSeg_fl hC1 ?_
  repeat (first | go_big_quiet_step (fail) | quiet_step (fail))
  refine wpQuiet_nil ?_
  clear r0 r2
  have HD4 := LH (later_below hC1)
  generalize w3.drew = w4 at *
  refine wpSeg_sq (fun K hK => ?_)
  go_wp2_with fail
  refine (gblockOf_any B (by omega) (a : Int) _).mono ?_
  rintro e w5 ⟨rfl, hb5⟩
  rw [HBo.out]
  have hC2 := later_step hC1 hb5
  have HA5 := LH (HA3.out.below (HD4.out.trans (hb5.mono HD4.out.size)))
  have HW5 := LH (HW3.out.trans ((HD4.out.trans (hb5.mono HD4.out.size)).mono HW3.out.size))
  have HRl := LH (brelease_any HA5.out.man (by omega) (by omega) (N := N) (by omega) HON.out HOk.out.bm.clean.inv (bm_smallL HOk.out.bm) ((a / 512 : Nat) : Int))
  clear hb5
  generalize m.bm.release ((a / 512 : Nat) : Int) = rl at *
  obtain ⟨bm', b', er⟩ := rl
  dsimp only at HRe HGone HOkN2 HLc
  obtain rfl := HRe.out
  generalize ((a / 512 : Nat) : Int) = bi at *
  go_wp2_with fail
  refine hK _ _ (fun _ => hC2) ?_
  clear hK K
  refine wpSeg_last ?_
  go_wp2_with fail
  refine HRl.out.mono ?_
  rintro e w6 ⟨rfl, hm6, ht6⟩
  obtain ⟨R6, ha6, ht6', hr6⟩ := HA5.out.setMan (by omega) hm6 ht6 HLc.out
  have HA6 := LH ha6
  have HT6 := LH ht6'
  have HR6 := LH hr6
  have c3 := ha6.c3
  change w6.cell? ⟨A.a, 3, none⟩ = some (vset A.U) at c3
  have HDr := LH (adrop_any HA6.out a)
  clear ha6 ht6' hr6 hm6 ht6 hC1 hC2 HRl
  dsimp only
  go_wp2_with fail
  refine HDr.out.mono ?_
  rintro e w7 ⟨rfl, hg7⟩
  have HG7 := LH (AlGo.ahead HW5.out (AlGo.trans HT6.out HR6.out hg7))
  clear hg7 HDr
  go_wp2_with fail
  exact HP2.out a _ _ rfl HUa.out HGone.out HOkN2.out (HG7.out.mono (by omega))
 have HGone := LH (fun f hf => gone_small (f := f) HOk.out HUa.out HOp.out hsm hf)
 have HCnt : Hid (m.fl.cnt (ofN (objSize p d : Nat)) a = 0) := LH (by rw [HOk.out.cells _ _ (ofN_lt hsm), if_neg]; rintro ⟨_, e⟩; rw [HUa.out] at e; cases e)
 have hk := ofN_lt hsm
 rw [ofV_small _ hsm]
 dsimp only at HGone
 clear hsm
 generalize ofN (objSize p d : Nat) = k at *
 have c3 := HA3.out.c3
 have HDr := LH (adrop_any HA3.out a)
 have HHas : Hid (m.fl.has k a = false) := LH ((m.fl.has_not k a).2 HCnt.out)
 go_wp2_with fail
 refine HDr.out.mono ?_
 rintro e w4 ⟨rfl, hg4⟩
 obtain ⟨R4, ha4, ht4, hr4⟩ := hg4
 have HA4 := LH ha4
 have HT4 := LH ht4
 have HR4 := LH hr4
 have c4 := ha4.c4
 change w4.cell? ⟨A.a, 4, none⟩ = some (.pointer (some ⟨A.f, 0, none⟩)) at c4
 clear ha4 ht4 hr4 c3 HDr
 have HOk4 : Hid (m.bm.dev.ok (N + 500000)) := LH (HON.out.mono (by omega))
 by_cases hmu : mu < 0 ∨ 4 ≤ mu
 ·have HFin := LH (HGone.out (m.fl.pushed k a) (fun j y => FL.pushed_cnt _ _ _ _ _))
  have HPu := LH (apush_any HA4.out (HUp.out.mono (by omega)) k a hk)
  rw [HHas.out] at HPu
  clear HGone
  rcases hmu with hmu | hmu
  ·go_wp2_with fail
   refine HPu.out.mono ?_
   rintro e w5 ⟨rfl, hg5⟩
   have HG5 := LH (AlGo.ahead HW3.out (AlGo.trans HT4.out HR4.out hg5))
   clear hg5
   go_wp2_with fail
   exact HP2.out a _ _ rfl HUa.out HFin.out HOk4.out (HG5.out.mono (by omega))
  ·have hmu0 : 0 ≤ mu := by omega
   go_wp2_with fail
   refine HPu.out.mono ?_
   rintro e w5 ⟨rfl, hg5⟩
   have HG5 := LH (AlGo.ahead HW3.out (AlGo.trans HT4.out HR4.out hg5))
   clear hg5
   go_wp2_with fail
   exact HP2.out a _ _ rfl HUa.out HFin.out HOk4.out (HG5.out.mono (by omega))
 ·have hmu0 : 0 ≤ mu := by omega
  have hmu4 : mu < 4 := by omega
  obtain ⟨mn, rfl⟩ := Int.eq_ofNat_of_zero_le hmu0
  have hmn : mn < 4 := by omega
  have HFin := LH (HGone.out (m.fl.put mn k a) (fun j y => FL.put_cnt _ hmn _ _ _ _))
  have HPu := LH (aput_any HA4.out (HUp.out.mono (by omega)) (by omega) mn k a hmn hk)
  rw [HHas.out] at HPu
  clear HGone hmu
  go_wp2_with fail
  refine HPu.out.mono ?_
  rintro e w5 ⟨rfl, hg5⟩
  have HG5 := LH (AlGo.ahead HW3.out (AlGo.trans HT4.out HR4.out hg5))
  clear hg5
  go_wp2_with fail
  exact HP2.out a _ _ rfl HUa.out HFin.out HOk4.out (HG5.out.mono (by omega))
def BetwPost (w : World) (l : List Bool) (fr to_ : Nat) : Ending → World → Prop := fun e w' => w = w' ∧ ∃ c : Nat, e = .returned (.int .i64 (c : Int)) ∧ c ≤ 1000000 ∧ (c = 0 ↔ ∀ i, fr ≤ i → i < to_ → l.getD i false = false)
def betwM (L : Nat) (av ov : Value) : Nat := match ov with | .bool true => L + 1 - (intOf av).toNat | _ => 0
theorem betwM_next {l : List Bool} {s i : Nat} (hi : i < l.length) (h : i < s) {av ov : Value} (hv : nextV (nextB l s) = .tuple #[av, ov]) : betwM l.length av ov < l.length + 1 - i := by
 cases hn : nextB l s with
 | none =>
  rw [hn] at hv
  unfold nextV at hv
  injection hv with h1
  have e2 := congrArg (fun a => a[1]?) h1
  simp at e2
  subst e2
  show 0 < _
  omega
 | some j =>
  rw [hn] at hv
  unfold nextV at hv
  injection hv with h1
  have e1 := congrArg (fun a => a[0]?) h1
  have e2 := congrArg (fun a => a[1]?) h1
  simp at e1 e2
  subst e1 e2
  have := (nextB_is hn).1
  have h3 := (nextB_is hn).2.2.1
  show l.length + 1 - (Int.toNat (j : Int)) < _
  rw [Int.toNat_natCast]
  omega
set_option maxHeartbeats 1000000 in
theorem sbetween_any {w : World} {X : SetF} {l : List Bool} (h : SetAt w X l) (hl : l.length ≤ 900000) (fr to_ : Nat) (hfr : fr ≤ 1000000000) :
  Calls Tryz.prog 167 #[vset X, .int .i64 (fr : Int), .int .i64 (to_ : Int)] w (BetwPost w l fr to_) := by
 have HS := LH h
 have HN := LH (fun a => snext_any h a)
 have HP : Hid (∀ c : Nat, c ≤ 1000000 → (c = 0 ↔ ∀ i, fr ≤ i → i < to_ → l.getD i false = false) → BetwPost w l fr to_ (.returned (.int .i64 (c : Int))) w) := LH (fun c h1 h2 => ⟨rfl, c, rfl, h1, h2⟩)
 generalize BetwPost w l fr to_ = Post at *
 clear h
 have hv : ∀ o, ∃ av ov, nextV o = .tuple #[av, ov] := fun o => by cases o <;> exact ⟨_, _, rfl⟩
 have HN0 := LH (HN.out (fr : Int))
 rw [Int.toNat_natCast] at HN0
 obtain ⟨av0, ov0, hv0⟩ := hv (nextB l fr)
 rw [hv0] at HN0
 have HV0 := LH hv0
 clear hv0
 go_enter Tryz.func167, Tryz.ntmps167
 go_wp2_with fail
 refine HN0.out.mono ?_
 rintro e w1 ⟨rfl, rfl⟩
 go_wp2_with fail
 go_loopw [7, 8, 9] (fun nv av ov wr => ∃ (c s : Nat), nv = .int .i64 (c : Int) ∧ c ≤ l.length ∧ c ≤ s ∧ Hid (nextV (nextB l s) = .tuple #[av, ov]) ∧ Hid (w = wr) ∧ Hid ((c = 0 ∧ s = fr) ∨ (1 ≤ c ∧ ∃ i, fr ≤ i ∧ i < to_ ∧ l.getD i false = true)) ∧ Hid (fr ≤ s)) (fun _ av ov _ => betwM l.length av ov)
 case atStart => exact ⟨0, fr, rfl, by omega, by omega, HV0, LH rfl, LH (.inl ⟨rfl, rfl⟩), LH (Nat.le_refl _)⟩
 case round =>
  obtain ⟨c, s, rfl, hc, hcs, hnv, hw, hst, hfs⟩ := hrel
  cases hnx : nextB l s with
  | none =>
   have h1 := hnv.out
   rw [hnx] at h1
   unfold nextV at h1
   injection h1 with h1
   have e1 := congrArg (fun a => a[0]?) h1
   have e2 := congrArg (fun a => a[1]?) h1
   simp at e1 e2
   subst e1 e2
   have HFin : Hid (c = 0 ↔ ∀ i, fr ≤ i → i < to_ → l.getD i false = false) := LH (by
    rcases hst.out with ⟨c0, rfl⟩ | ⟨c1, i, i1, i2, i3⟩
    ·exact ⟨fun _ i i1 _ => nextB_not hnx i i1, fun _ => c0⟩
    ·exact ⟨fun h => by omega, fun h => by rw [h i i1 i2] at i3; cases i3⟩)
   have HFin2 := LH (HP.out c (by omega) HFin.out)
   obtain rfl := hw.out
   clear hnx h1
   go_wp2_with fail
   exact HFin2.out
  | some i =>
   have h1 := hnv.out
   rw [hnx] at h1
   unfold nextV at h1
   injection h1 with h1
   have e1 := congrArg (fun a => a[0]?) h1
   have e2 := congrArg (fun a => a[1]?) h1
   simp at e1 e2
   subst e1 e2
   obtain ⟨k1, k2, k3, k4⟩ := nextB_is hnx
   obtain rfl := hw.out
   have hfsn := hfs.out
   clear hnx h1
   by_cases hit : i < to_
   case neg =>
    have hitI : ¬ (i : Int) < (to_ : Int) := by omega
    have HFin : Hid (c = 0 ↔ ∀ j, fr ≤ j → j < to_ → l.getD j false = false) := LH (by
     rcases hst.out with ⟨c0, rfl⟩ | ⟨c1, j, i1, i2, i3⟩
     ·exact ⟨fun _ j j1 j2 => k4 j j1 (by omega), fun _ => c0⟩
     ·exact ⟨fun h => by omega, fun h => by rw [h j i1 i2] at i3; cases i3⟩)
    have HFin2 := LH (HP.out c (by omega) HFin.out)
    clear k4 hst HFin
    go_wp2_with fail
    exact HFin2.out
   case pos =>
   have hitI : (i : Int) < (to_ : Int) := by omega
   have HNi := LH (HN.out ((i : Int) + 1))
   rw [show ((i : Int) + 1).toNat = i + 1 by omega] at HNi
   obtain ⟨av1, ov1, hv1⟩ := hv (nextB l (i + 1))
   rw [hv1] at HNi
   have HV1 := LH hv1
   have HM1 := LH (betwM_next k3 (by omega : i < i + 1) hv1)
   have HS1 : Hid ((c + 1 = 0 ∧ i + 1 = fr) ∨ (1 ≤ c + 1 ∧ ∃ i, fr ≤ i ∧ i < to_ ∧ l.getD i false = true)) := LH (.inr ⟨by omega, i, by omega, hit, k2⟩)
   have hc1 : Hid (c + 1 ≤ l.length ∧ c + 1 ≤ i + 1) := LH ⟨by omega, by omega⟩
   clear hv1 k4 k2
   go_wp2_with fail
   refine HNi.out.mono ?_
   rintro e w2 ⟨rfl, rfl⟩
   go_wp2_with fail
   go_roundw
   case rel => exact ⟨c + 1, i + 1, vint (by omega), hc1.out.1, hc1.out.2, HV1, LH trivial, HS1, LH (by omega)⟩
   case measure =>
    show betwM _ _ _ < l.length + 1 - (Int.toNat (i : Int))
    rw [Int.toNat_natCast]
    exact HM1.out
theorem aremove_any {w : World} {A : AF} {n B : Nat} {m : Al} (h : AlAt w A n B m) (hL : m.fl.upto 900000) (hn : n < 1000000000000) (k lo hi : Nat) (hk : k < 32) :
  Calls Tryz.prog 168 #[.pointer (some ⟨A.f, 0, none⟩), .int .i64 (k : Int), .int .i64 (lo : Int), .int .i64 (hi : Int)] w fun e w' => (∃ x, e = .returned (.int .i64 x)) ∧ AlGo w w' A (n + 4) B ⟨m.bm, m.used, m.fl.remove k lo hi⟩ := by
 refine (fremove_any h.free hL hn k lo hi hk).mono ?_
 rintro e w' ⟨he, hg⟩
 exact ⟨he, h.setFree (by omega) hg⟩
def TrimOk (m : Al) (b : Int) : Prop := (hdGet m.bm.list b).k = 1 ∧ ∀ x : Nat, ((x / 512 : Nat) : Int) = b → m.used.getD x false = false
def TrimPost (w : World) (A : AF) (n B N : Nat) (m : Al) (b : Int) : Ending → World → Prop := fun e w' =>
 (¬ TrimOk m b ∧ e = .returned (.tuple #[.bool false, .int .i64 0]) ∧ AlGo w w' A n B m) ∨
 (∃ (bn : Nat) (m' : Al), b = (bn : Int) ∧ 1 ≤ bn ∧ bn < B ∧ TrimOk m b ∧ e = .returned (.tuple #[.bool true, .int .i64 0]) ∧ Trimmed B m m' bn ∧ m'.bm.dev.ok (N + 500000) ∧ AlGo w w' A n B m')
set_option maxHeartbeats 4000000 in
set_option maxRecDepth 20000 in
theorem atrim_any {w : World} {A : AF} {n B : Nat} {m : Al} (h : AlAt w A n B m) (hok : AlOk B m) (hB : B ≤ 200) (hn : n < 900000000000) {N : Nat} (hN : N ≤ 900000000) (ho : m.bm.dev.ok N) (b : Int) :
  Calls Tryz.prog 91 #[valloc A, .int .i64 b] w (TrimPost w A (n + 5) B N m b) := by
 have HA := LH h
 have HOk := LH hok
 have HON := LH ho
 have HUp := LH hok.upto
 have HGet := LH (tget_any (h.man.tab.at (MF.notHot (MF.apart h.man.nd).t).1) b (by rw [hok.bm.lenL]; omega))
 have HP1 : Hid (∀ w', ¬ TrimOk m b → AlGo w w' A (n + 5) B m → TrimPost w A (n + 5) B N m b (.returned (.tuple #[.bool false, .int .i64 0])) w') := LH (fun w' h1 h2 => .inl ⟨h1, rfl, h2⟩)
 have HP2 : Hid (∀ (bn : Nat) m' w', b = (bn : Int) → 1 ≤ bn → bn < B → TrimOk m b → Trimmed B m m' bn → m'.bm.dev.ok (N + 500000) → AlGo w w' A (n + 5) B m' → TrimPost w A (n + 5) B N m b (.returned (.tuple #[.bool true, .int .i64 0])) w') := LH (fun bn m' w' h1 h2 h3 h4 h5 h6 h7 => .inr ⟨bn, m', h1, h2, h3, h4, rfl, h5, h6, h7⟩)
 generalize TrimPost w A (n + 5) B N m b = Post at *
 have c0 := h.c0
 have c3 := h.man.c0
 clear h hok ho
 obtain ⟨hk0, hc0, hl0, he⟩ : ∃ hk0 hc0 hl0, hdGet m.bm.list b = ⟨hk0, hc0, hl0⟩ := ⟨_, _, _, rfl⟩
 have HE := LH he
 unfold Hd.val at HGet
 rw [he] at HGet
 dsimp only at HGet
 clear he
 go_enter Tryz.func91, Tryz.ntmps91
 go_wp2_with fail
 refine HGet.out.mono ?_
 rintro e w1 ⟨rfl, hb1⟩
 have HM := LH (Mem.one w1 #[.int .i64 hk0, .int .i64 hc0, .int .i64 hl0] 104)
 have HA1 := LH (HA.out.below hb1)
 have HW1 := LH hb1
 clear hb1 HGet c0 c3
 go_upto_region 2 with fail
 obtain ⟨q, hq⟩ : ∃ q, q = w1.heap.size := ⟨_, rfl⟩
 rw [← hq] at HM ⊢
 have HA2 := LH (HA1.out.below HM.out.below)
 have HW2 := LH (HW1.out.trans (HM.out.below.mono HW1.out.size))
 have HQn : Hid (∀ k ∈ A.list, k ≠ q) := LH (fun k hk e => by have := HA1.out.mem k hk; omega)
 generalize w1.alloc _ = w2 at *
 clear hq
 have c2 := HA2.out.c2
 have HFi := LH (fun w => gfirst_any B (by omega) b w)
 go_wp2_with fail
 refine (HFi.out _).mono ?_
 rintro e w3 ⟨rfl, hb3⟩
 have HM3 := LH (HM.out.later hb3)
 have HA3 := LH (HA2.out.below hb3)
 have HW3 := LH (HW2.out.trans (hb3.mono HW2.out.size))
 have d0 := HM3.out.cell 0 0 rfl rfl
 clear hb3 c2 HFi
 by_cases hk1 : hk0 = 1
 case neg =>
  have HNo : Hid (¬ TrimOk m b) := LH (fun h => hk1 (by have := h.1; rw [HE.out] at this; exact this))
  go_wp2_with fail
  exact HP1.out _ HNo.out (AlGo.ahead HW3.out ((AlGo.refl HA3.out).mono (by omega)))
 subst hk1
 obtain ⟨bn, hbn, hbl⟩ : ∃ bn : Nat, b = (bn : Int) ∧ 1 ≤ bn ∧ bn < B := by
  have h1 := HE.out
  unfold hdGet at h1
  split at h1
  ·have := congrArg Hd.k h1; simp at this
  ·rename_i h0
   rw [HOk.out.bm.lenL] at h0
   exact ⟨b.toNat, by omega, by omega, by omega⟩
 obtain ⟨hb1, hbB⟩ := hbl
 subst hbn
 have HL : Hid (m.bm.list.getD bn default = ⟨1, hc0, hl0⟩) := LH (by rw [← hdGet_at HOk.out.bm hb1 hbB]; exact HE.out)
 obtain ⟨cn, hcn, hc32, hl00⟩ : ∃ cn : Nat, hc0 = (cn : Int) ∧ cn < 32 ∧ hl0 = 0 := by
  have hr := of_decide_eq_true (HOk.out.bm.right bn hbB)
  rw [HL.out] at hr
  unfold HdRight at hr
  dsimp only at hr
  exact ⟨hc0.toNat, by omega, by omega, by omega⟩
 subst hcn hl00
 have hfo : firstOf (B : Int) (bn : Int) = ((512 * bn : Nat) : Int) := by unfold firstOf; rw [if_neg (by omega)]; omega
 rw [hfo]
 clear hfo
 have HBw := LH (sbetween_any HA3.out.set (by rw [HOk.out.lenU]; omega) (512 * bn) (512 * bn + 512) (by omega))
 obtain ⟨fr, hfr⟩ : ∃ fr, fr = 512 * bn := ⟨_, rfl⟩
 rw [← hfr] at HBw ⊢
 have hfr2 : Hid (((fr : Int) + 512) = ((fr + 512 : Nat) : Int)) := LH (by omega)
 have hfrl : fr ≤ 200000 := by omega
 have HFr := LH hfr
 have c3 := HA3.out.c3
 clear hfr
 go_wp2_with fail
 rw [hfr2.out]
 refine HBw.out.mono ?_
 rintro e w4 ⟨rfl, c, rfl, hcl, hciff⟩
 have HCi := LH hciff
 clear hciff HBw
 by_cases hc : c = 0
 case neg =>
  have HNo : Hid (¬ TrimOk m (bn : Int)) := LH (fun h => hc (HCi.out.2 (fun i h1 h2 => h.2 i (by have := HFr.out; omega))))
  have hcp : (0 : Int) < (c : Int) := by omega
  go_wp2_with fail
  exact HP1.out _ HNo.out (AlGo.ahead HW3.out ((AlGo.refl HA3.out).mono (by omega)))
 subst hc
 have HYes : Hid (TrimOk m (bn : Int)) := LH ⟨by rw [HE.out], fun x hx => HCi.out.1 rfl x (by have := HFr.out; omega) (by have := HFr.out; omega)⟩
 obtain ⟨hre, htr⟩ := trim_done HOk.out hB hb1 hbB hc32 HL.out (fun x hx => HYes.out.2 x (by rw [hx]))
 rw [← HFr.out] at htr
 have HRe := LH hre
 have HTr := LH htr
 have HOkN2 : Hid ((m.bm.release (bn : Int)).bm.dev.ok (N + 500000)) := LH (release_okN HOk.out.bm.clean.inv HON.out (by rw [HOk.out.bm.lenL]; omega) _)
 have HLc : Hid ((m.bm.release (bn : Int)).bm.dev.cache.length = m.bm.dev.cache.length) := LH (by rw [htr.ok.len, HOk.out.len])
 clear hre htr HCi c3
 go_upto_region 5 with fail
 have r0 := fun x => later_cell HA3.out.c4 x
 have r1 := fun x => later_cell (HM3.out.cell 0 1 rfl rfl) x
 refine wp_region_seg (C := fun w' => ∃ x : Later (w3), w' = x.val) [.fl [0, 1, 2, 3, 4, 5, 6, 7, 8], .sq [9] false] (by kernel_rfl) (by kernel_rfl) (by intro c a d v w h; cases d <;> exact h) ?_
 simp only [segs, picks, List.getElem?_cons_succ, List.getElem?_cons_zero]
 have hC1 := later_drew (w3)
 refine wpSeg_fl hC1 ?_
 repeat (first | go_big_quiet_step (fail) | quiet_step (fail))
 refine wpQuiet_nil ?_
 clear r0 r1
 have HD4 := LH (later_below hC1)
 generalize w3.drew = w4 at *
 have HA4 := LH (HA3.out.below HD4.out)
 have HW4 := LH (HW3.out.trans (HD4.out.mono HW3.out.size))
 have HRm := LH (aremove_any HA4.out (HUp.out.mono (by omega)) (by omega) cn fr (fr + 512) hc32)
 clear hC1
 refine wpSeg_last ?_
 go_wp2_with fail
 rw [hfr2.out]
 refine HRm.out.mono ?_
 rintro e w5 ⟨⟨rv, rfl⟩, hg5⟩
 obtain ⟨R5, ha5, ht5, hr5⟩ := hg5
 have HA5 := LH ha5
 have HT5 := LH ht5
 have HR5 := LH hr5
 have c0 := ha5.c0
 change w5.cell? ⟨A.a, 0, none⟩ = some (.pointer (some ⟨A.X.m, 0, none⟩)) at c0
 have HRl := LH (brelease_any (X := A.X) HA5.out.man (by omega) (by omega) (N := N) (by omega) HON.out HOk.out.bm.clean.inv (bm_smallL HOk.out.bm) (bn : Int))
 clear ha5 ht5 hr5 HRm
 generalize m.bm.release (bn : Int) = rl at *
 obtain ⟨bm', b', er⟩ := rl
 dsimp only at HRe HTr HOkN2 HLc
 obtain rfl := HRe.out
 go_wp2_with fail
 refine HRl.out.mono ?_
 rintro e w6 ⟨rfl, hm6, ht6⟩
 have HG6 := LH (AlGo.ahead HW4.out (AlGo.trans HT5.out HR5.out (HA5.out.setMan (by omega) hm6 ht6 HLc.out)))
 clear hm6 ht6 HRl c0
 dsimp only
 go_wp2_with fail
 exact HP2.out bn _ _ rfl hb1 hbB HYes.out HTr.out HOkN2.out (HG6.out.mono (by omega))
end Go.Proofs.YtbimcogdbafjpaaGreat
namespace Go.Proofs.YtbimcogdbafjpaaGreat
open Go.RowKit
theorem dev0_ok {B : Nat} (hB2 : 2 ≤ B) (hB : B ≤ 100) : (dev0 B).ok 201000 := (fmt_formed hB2 hB).ok
def Begun16 (B : Nat) (w : World) : Ending → World → Prop := fun e w' => ∃ (A : AF) (n : Nat), e = .returned (.tuple #[valloc A, vdev A.X.F, .bool true]) ∧ AlAt w' A n B (al0 B) ∧ n ≤ 1000000 ∧ (∀ k ∈ A.list, w.heap.size ≤ k) ∧ Below w.heap.size w w'
set_option maxHeartbeats 8000000 in
set_option maxRecDepth 100000 in
theorem begun16_any (B : Nat) (hB2 : 2 ≤ B) (hB : B ≤ 100) (w : World) : Calls Tryz.prog 13 #[.int .i64 (B : Int)] w (Begun16 B w) := by
 generalize hP : Begun16 B w = Post
 have HP := LH hP
 clear hP
 have HM := LH (Mem.one w #[.int .i64 (B : Int)] 46)
 have HFo : Hid (Formed (dev0 B) B) := LH (fmt_formed hB2 hB)
 go_enter Tryz.func13, Tryz.ntmps13
 go_upto_region 2 with fail
 generalize w.alloc _ = w0 at *
 obtain ⟨q, hq⟩ : ∃ q, q = w.heap.size := ⟨_, rfl⟩
 rw [← hq] at HM ⊢
 have HQ := LH hq
 clear hq
 have c0 := HM.out.cell 0 0 rfl rfl
 go_wp2_with fail
 refine (gwords_any _ _ (by omega) (by omega)).mono ?_
 rintro e w1 ⟨rfl, hb1⟩
 have HM1 := LH (HM.out.later hb1)
 clear hb1 HM c0
 go_wp2_with fail
 refine (new_any ((B : Int) * 512) _ (by omega)).mono ?_
 rintro e w2 ⟨F, rfl, hF, hd2, hb2⟩
 have hfd : freshDev (List.replicate (8 * ((((B : Int) * 512).toNat + 7) / 8)) 0) ((((B : Int) * 512).toNat + 7) / 8) = freshDev (List.replicate (512 * B) 0) (64 * B) := by
  have h1 : (((B : Int) * 512).toNat + 7) / 8 = 64 * B := by omega
  rw [h1, show 8 * (64 * B) = 512 * B by omega]
 rw [hfd] at hd2
 clear hfd
 obtain ⟨S, hS⟩ : ∃ S, S = freshDev (List.replicate (512 * B) 0) (64 * B) := ⟨_, rfl⟩
 have hlv : S.live := by rw [hS]; exact fresh_live _ _
 have hok : S.ok 100 := by rw [hS]; exact fresh_ok _ _ _
 have hSl : S.cache.length = 512 * B := by rw [hS]; simp [freshDev]
 rw [← hS] at hd2
 have HS0 : Hid (S.fmt B = dev0 B) := LH (by rw [hS]; rfl)
 have HD2 := LH hd2
 have HM2 := LH (HM1.out.later hb2)
 have HF := LH (fun k hk => Nat.le_trans HM1.out.below.size (hF k hk))
 have HF1 := LH (fun k (hk : k ∈ F.list) => Nat.lt_of_lt_of_le (HM1.out.glt 0 rfl) (hF k hk))
 have HLv : Hid (S.live ∧ S.ok 100 ∧ 256 + B ≤ S.cache.length) := LH ⟨hlv, hok, by omega⟩
 clear hd2 hb2 hF hS hlv hok hSl HM1
 unfold vdev
 have c0 := HM2.out.cell 0 0 rfl rfl
 go_wp2_with fail
 refine (format_any HD2.out HLv.out.1 HLv.out.2.1 B hB2 (by omega) HLv.out.2.2).mono ?_
 rintro e w3 ⟨rfl, hd3, ht3⟩
 rw [HS0.out] at hd3
 have HD3 := LH hd3
 have HM3 : Hid (Mem w w3 [⟨q, 46, [.int .i64 (B : Int)], true⟩]) := LH (by
  have hr := HM2.out.rows
  refine ⟨below_touched HM2.out.below ht3 (fun k hk => HF.out k hk) (Nat.le_refl _), fun x hx => (hr x hx).keep (ht3.block _ (HM2.out.lt x hx) (fun hk => ?_)), HM2.out.base, HM2.out.nd⟩
  simp only [List.mem_cons, List.not_mem_nil, or_false] at hx
  subst hx
  exact Nat.lt_irrefl _ (HF1.out _ hk))
 clear hd3 ht3 HM2 HD2 c0 HLv HS0
 have c0 := HM3.out.cell 0 0 rfl rfl
 go_wp2_with fail
 refine (bopen_any HD3.out B (by omega) (by omega)).mono ?_
 rintro e w4 ⟨hb4, ⟨_, _, X, n, rfl, hXF, hm4, hn4, hX4⟩ | ⟨_, hbad, _⟩ | ⟨hbad, _⟩⟩
 case inr.inr => exact absurd HFo.out.allOk hbad
 case inr.inl => exact absurd (by rw [HFo.out.hds]; exact sound_zero B B 1) hbad
 subst hXF
 have HM4 := LH (HM3.out.later hb4)
 have HA4 := LH hm4
 have HXn : Hid (∀ k ∈ X.list, w.heap.size ≤ k) := LH (fun k hk => by
  have h3 := HM3.out.below.size
  rcases hX4 k hk with h | h
  ·exact HF.out k h
  ·exact Nat.le_trans h3 h)
 clear hb4 hm4 hX4 HM3 HD3 c0 HF HF1
 have HNo : Hid (∀ b : Nat, b < B → (hdGet (bmOf (dev0 B) B).list (b : Int)).k ≠ 1) := LH (fun b _ => by
  have e : (bmOf (dev0 B) B).list = List.replicate B ⟨0, 0, 0⟩ := HFo.out.hds
  rw [e, free_small]; decide)
 have HDl : Hid ((bmOf (dev0 B) B).dev.cache.length = 512 * B) := LH HFo.out.len
 go_wp2_with fail
 refine (anew_free HA4.out (by omega) (by rw [HDl.out]; omega) HNo.out).mono ?_
 rintro e w5 ⟨A, rfl, hAX, ha5, hb5, hA5⟩
 rw [HDl.out] at ha5
 have HA5 : Hid (AlAt w5 A n B (al0 B)) := LH ha5
 have HM5 := LH (HM4.out.later hb5)
 have HAn : Hid (∀ k ∈ A.list, w.heap.size ≤ k) := LH (fun k hk => by
  have h3 := HM4.out.below.size
  rcases hA5 k hk with h | h
  ·exact HXn.out k h
  ·exact Nat.le_trans h3 h)
 have HAX := LH hAX
 clear ha5 hb5 hA5 hAX HM4 HA4 HNo HDl
 have hAe := HAX.out
 subst hAe
 go_upto_region 9 with fail
 have r0 := fun x => later_cell HA5.out.c0 x
 have hC1 := later_drew w5
 refine wp_region_later (by kernel_rfl) (by kernel_rfl) ?_
 repeat (first | go_big_quiet_step (fail) | quiet_step (fail))
 refine wpQuiet_nil ?_
 rintro w6 ⟨x6, hx6⟩
 have HB6 : Hid (Below w5.heap.size w5 w6) := LH (by rw [hx6]; exact x6.below)
 clear hx6 r0 hC1
 go_wp2_with fail
 go_ret3
 rw [← HP.out]
 exact ⟨A, n, rfl, HA5.out.below HB6.out, hn4, HAn.out, HM5.out.below.trans (HB6.out.mono HM5.out.below.size)⟩
theorem objSize11 : objSize 1 1 = 3 := by decide +kernel
theorem small3 : small 3 := by decide +kernel
theorem ofN3 : ofN ((3 : Nat) : Int) = 1 := by decide +kernel
theorem allocFirst {m m' : Al} {a : Int} (hok : AlOk 3 m) (hl0 : ∀ q, m.bm.list.getD q default = ⟨0, 0, 0⟩) (hfl : m.fl.cell 0 1 = none) (hcn : ∀ x, m.fl.cnt 1 x = 0) (hnr : ¬ NoRoom m 3) (h : m.alloc 0 1 1 = ⟨m', a, 0⟩) :
  ∃ b, 1 ≤ b ∧ b < 3 ∧ ∀ q, m'.bm.list.getD q default = if q = b then ⟨1, 1, 0⟩ else ⟨0, 0, 0⟩ := by
 have hm : m'.bm.list = (m.room 0 3).al.bm.list := by
  unfold Al.alloc at h
  rw [if_neg (by omega), objSize11, hok.bm.lenL, if_neg (by omega), show (0 : Int).toNat = 0 from rfl] at h
  by_cases he : (m.room 0 3).err ≠ 0
  ·rw [if_pos he] at h
   exact absurd (congrArg AlR.err h) he
  ·rw [if_neg he] at h
   unfold Al.made at h
   by_cases he2 : ((m.room 0 3).al.bm.dev.init (m.room 0 3).a 1 1).err ≠ 0
   ·rw [if_pos he2] at h
    exact absurd (congrArg AlR.err h) he2
   ·rw [if_neg he2] at h
    exact (congrArg (fun r => r.al.bm.list) h).symm
 have hr : m.room 0 3 = m.roomS 0 1 := by unfold Al.room; rw [if_pos small3, ofN3]
 rw [hm, hr]
 unfold Al.roomS
 rw [hfl, if_neg (by simp)]
 rcases small_live hok.bm hok.live 1 (by omega) with ⟨e, hp⟩ | ⟨b, s1, s2, s3, s4, s5, s6, s7, s8, s9, s10, s11⟩
 ·exact absurd ⟨fun _ => ⟨hp, fun x => by rw [ofN3]; exact hcn x⟩, fun hn => absurd small3 hn⟩ hnr
 ·refine ⟨b, s3, s4, fun q => ?_⟩
  rw [if_pos s2, take_bm, s9, hl0]
  rfl
theorem alloc0 {m' : Al} {a : Int} (h : (al0 3).alloc 0 1 1 = ⟨m', a, 0⟩) : ∃ b, 1 ≤ b ∧ b < 3 ∧ ∀ q, m'.bm.list.getD q default = if q = b then ⟨1, 1, 0⟩ else ⟨0, 0, 0⟩ :=
 allocFirst (al0_ok (by omega) (by omega)) (fun q => by
  rw [al0_list (by omega) (by omega), List.getD_eq_getElem?_getD, List.getElem?_replicate]
  split <;> rfl) rfl (fun _ => rfl) (roomy0 (by omega) (by omega) small3) h
theorem cells170 {m : Al} (hok : AlOk 3 m) {b : Nat} (b1 : 1 ≤ b) (b2 : b < 3) (hc : ∀ x : Nat, isCell m.bm.list 1 x ↔ ∃ i, i < 170 ∧ x = cellOf b 1 i) (hu : ∀ x, m.used.getD x false = false) {ys : List Nat} (hy : ∀ a, ys.count a = m.fl.cnt 1 a) : ys.length = 170 := by
 have hp : ys.Perm ((List.range 170).map (cellOf b 1)) := List.perm_iff_count.2 fun x => by
  have hnd : ((List.range 170).map (cellOf b 1)).Nodup := by
   refine List.pairwise_map.2 (List.nodup_range.imp fun h e => h (cellOf_inj (by omega) _ _ e))
  rw [hy, hok.cells 1 x (by omega), hnd.count]
  have : x ∈ (List.range 170).map (cellOf b 1) ↔ isCell m.bm.list 1 x := by
   rw [hc]
   simp only [List.mem_map, List.mem_range]
   exact ⟨fun ⟨i, h1, h2⟩ => ⟨i, h1, h2.symm⟩, fun ⟨i, h1, h2⟩ => ⟨i, h1, h2.symm⟩⟩
  by_cases e : isCell m.bm.list 1 x
  ·rw [if_pos ⟨e, hu x⟩, if_pos (this.2 e)]
  ·rw [if_neg (fun h => e h.1), if_neg (fun h => e (this.1 h))]
 rw [hp.length_eq]; simp
theorem Made.lt {B : Nat} {m m' : Al} {a : Nat} {p d : Int} (h : Made B m m' a p d) : a < m.used.length := by
 have h1 := h.ok.lenU
 rw [h.used, List.length_set] at h1
 have h4 := placed_head h.placed
 rw [h.ok.bm.lenL] at h4
 omega
theorem Made.isUsed {B : Nat} {m m' : Al} {a : Nat} {p d : Int} (h : Made B m m' a p d) : m'.used.getD a false = true := by
 rw [h.used, getD_set_bool _ _ _ _ h.lt]; simp
set_option maxHeartbeats 4000000 in
set_option maxRecDepth 100000 in
theorem awake16_any (w : World) : Calls Tryz.prog 12 #[] w (Gives (.bool true) w) := by
 have HP : Hid (∀ w', Below w.heap.size w w' → Gives (.bool true) w (.returned (.bool true)) w') := LH (fun w' h => ⟨rfl, h⟩)
 generalize Gives (.bool true) w = Post at *
 go_enter Tryz.func12, Tryz.ntmps12
 go_wp2_with fail
 refine (begun16_any 3 (by omega) (by omega) _).mono ?_
 rintro e w1 ⟨A, n, rfl, ha, hn, hA, hb⟩
 have hok := al0_ok (B := 3) (by omega) (by omega)
 have hdk : (al0 3).bm.dev.ok 201000 := dev0_ok (by omega) (by omega)
 have HAl := LH (aalloc_any ha hok (by omega) (by omega) (by omega) (N := 201000) (by omega) hdk 0 1 1)
 have HON : Hid (((al0 3).alloc 0 1 1).al.bm.dev.ok 801000) := LH ((alloc_okN hok.bm.clean.inv hdk (by rw [hok.bm.lenL]; omega) 0 1 1).mono (by omega))
 have hal := alloc_done hok (by omega) (mu := 0) (p := 1) (d := 1) (by omega) (by omega) (by rw [objSize11]; omega) (by rw [objSize11]; omega)
 have hal2 : ∃ m' a, (al0 3).alloc 0 1 1 = ⟨m', ((a : Nat) : Int), 0⟩ ∧ Made 3 (al0 3) m' a 1 1 := by
  rcases hal with h | ⟨_, h⟩
  ·exact h
  ·rw [objSize11] at h
   exact absurd h (roomy0 (by omega) (by omega) small3)
 obtain ⟨m1, a, he, hmd⟩ := hal2
 obtain ⟨b, b1, b2, hL⟩ := alloc0 he
 rw [he] at HAl HON
 have HMd := LH hmd
 have HAn := LH hA
 have HW1 := LH hb
 have HL := LH hL
 have HU : Hid (∀ x, (al0 3).used.getD x false = false) := LH (fun x => by
  show (List.replicate (512 * 3) false).getD x false = false
  simp only [List.getD_eq_getElem?_getD, List.getElem?_replicate]; split <;> rfl)
 have HUse : Hid (m1.used = (al0 3).used.set a true) := LH hmd.used
 generalize al0 3 = m0 at *
 clear ha hok hdk hal he hmd hL hb hA
 go_wp2_with fail
 refine HAl.out.mono ?_
 rintro e w2 ⟨rfl, R2, ha2, ht2, hr2⟩
 have HA2 := LH ha2
 have HT2 := LH ht2
 have HR2 := LH hr2
 have HFr := LH (afree_any ha2 HMd.out.ok (by omega) (by omega) (N := 801000) (by omega) HON.out 0 (a : Int))
 clear ha2 ht2 hr2 HAl
 dsimp only
 go_wp2_with fail
 refine HFr.out.mono ?_
 rintro e w3 (⟨hno, _, _⟩ | ⟨a', m2, hae, hua, rfl, hg, hok2, hgo⟩)
 ·exfalso
  have h1 := HMd.out.isUsed
  rw [hasI_nat, h1] at hno
  cases hno
 obtain rfl : a = a' := by omega
 have HG := LH hg
 obtain ⟨R3, ha3, ht3, hr3⟩ := AlGo.trans HT2.out HR2.out hgo
 have HA3 := LH ha3
 have HT3 := LH ht3
 have HU2 : Hid (∀ x, m2.used.getD x false = false) := LH (fun x => by
  rw [hg.used, HUse.out, getD_set_off]
  by_cases e : x = a
  ·rw [if_pos e]
  ·rw [if_neg e, List.getD_eq_getElem?_getD, List.getElem?_set_ne (fun h => e h.symm), ← List.getD_eq_getElem?_getD]; exact HU.out x)
 have HCe : Hid (∀ x : Nat, isCell m2.bm.list 1 x ↔ ∃ i, i < 170 ∧ x = cellOf b 1 i) := LH (fun x => by
  have hlen : m1.bm.list.length = 3 := HMd.out.ok.bm.lenL
  have h1 := isCell_of (L := m1.bm.list) (x := x) (k := 1) (by omega) b1 (by rw [hlen]; exact b2) (by rw [HL.out, if_pos rfl]; rfl)
  have h170 : clsCells ((1 : Nat) : Int) = 170 := by decide +kernel
  rw [h170] at h1
  rw [hg.cells, ← h1]
  refine ⟨fun h => ⟨h, ?_⟩, fun h => h.1⟩
  have h2 := h.2.2.1
  rw [HL.out] at h2
  by_cases e : x / 512 = b
  ·exact e
  ·rw [if_neg e] at h2
   have := congrArg Hd.k h2
   simp at this)
 have HFc := LH (afreeCells_any (A := A.re R3) ha3 (hg.ok.upto.mono (by omega)) 1 (by omega))
 clear ha3 ht3 hr3 hg hgo hok2 hua hae HFr
 go_wp2_with fail
 refine HFc.out.mono ?_
 rintro e w4 ⟨v, ys, rfl, ho, _, hc, _, hb4⟩
 have h170 := cells170 HG.out.ok b1 b2 HCe.out HU2.out hc
 obtain ⟨va, vc, rfl, _⟩ := ho.cells
 rw [h170]
 have HFin := LH (HP.out w4 ((HW1.out.trans (HT3.out.below HW1.out.size (fun k hk => HAn.out k (AF.hot_list hk)))).trans (hb4.mono (Nat.le_trans HW1.out.size HT3.out.size))))
 clear ho hc hb4 HFc h170
 go_wp2_with fail
 exact HFin.out
section
variable {w wr w' : World} {Q Q' : List Nat} {A : AF} {n N N' : Nat} {m m' : Al} {v : Value} {xs : List Nat} {K : MkF} {M M' : Mk}
end
end Go.Proofs.YtbimcogdbafjpaaGreat
namespace Go.Proofs.YtbimcogdbafjpaaGreat
open Go.RowKit Go.Maps
set_option maxHeartbeats 1000000 in
theorem rints_same {w : World} (a b : Option Addr) (n ca cb : Nat) (xs : List Nat) (hn : xs.length = n) (ha : Cells w a (xs.map vi)) (hb : Cells w b (xs.map vi)) (hl : n ≤ 1000000000) :
  Calls Tryz.prog 49 #[.slice a n ca, .slice b n cb] w (Gives (.bool true) w) := by
 have HP : Hid (∀ w', Below w.heap.size w w' → Gives (.bool true) w (.returned (.bool true)) w') := LH (fun w' h => ⟨rfl, h⟩)
 generalize Gives (.bool true) w = Post at *
 have HA := LH ha
 have HB := LH hb
 have HN := LH hn
 clear ha hb hn
 go_enter Tryz.func49, Tryz.ntmps49
 go_wp2_with fail
 go_loopw [4, 5] (fun f i wr => ∃ k : Nat, k ≤ n ∧ f = .bool false ∧ i = .int .i64 (k : Int) ∧ Hid (Below w.heap.size w wr)) (fun _ i _ => n - (intOf i).toNat)
 case atStart => exact ⟨0, Nat.zero_le _, rfl, rfl, LH (Below.refl _ _)⟩
 case round =>
  obtain ⟨k, hk, rfl, rfl, HBl⟩ := hrel
  by_cases hlt : k < n
  ·have hlt' : (k : Int) < (n : Int) := by omega
   obtain ⟨b1, o1, rfl, _, hc1⟩ := (HA.out.below HBl.out (Nat.le_refl _)).at (i := k) (by rw [List.length_map, HN.out]; exact hlt)
   obtain ⟨b2, o2, rfl, _, hc2⟩ := (HB.out.below HBl.out (Nat.le_refl _)).at (i := k) (by rw [List.length_map, HN.out]; exact hlt)
   obtain ⟨x, hx⟩ : ∃ x, xs[k]? = some x := ⟨_, List.getElem?_eq_getElem (by rw [HN.out]; exact hlt)⟩
   have c1 := hc1 k (vi x) (by rw [List.getElem?_map, hx]; rfl)
   have c2 := hc2 k (vi x) (by rw [List.getElem?_map, hx]; rfl)
   have r1 := fun x => later_cell c1 x
   have r2 := fun x => later_cell c2 x
   clear hc1 hc2 hx c1 c2
   go_upto_region 6 with fail
   refine wp_region_later (by kernel_rfl) (by kernel_rfl) ?_
   repeat (quiet_step (fail))
   refine wpQuiet_nil ?_
   rintro w1 ⟨x1, hx1⟩
   have HB1 := LH (HBl.out.trans ((show Below wr.heap.size wr w1 by rw [hx1]; exact x1.below).mono HBl.out.size))
   clear hx1 r1 r2
   go_wp2_with fail
   exact ⟨⟨k + 1, by omega, rfl, vint (by omega), HB1⟩, by simp [intOf]; omega⟩
  ·obtain rfl : k = n := by omega
   have hf : decide ((k : Int) < (k : Int)) = false := by simp
   go_wp2_with fail
   exact HP.out _ HBl.out
theorem contains_take_succ (xs : List Nat) (y k x : Nat) (hx : xs[k]? = some x) : (xs.take (k + 1)).contains y = ((xs.take k).contains y || (x == y)) := by
 have h1 := (List.getElem?_eq_some_iff.1 hx).1
 rw [List.take_succ_eq_append_getElem h1]
 have h2 : xs[k] = x := (List.getElem?_eq_some_iff.1 hx).2
 rw [h2]
 rw [Bool.eq_iff_iff]
 simp
 constructor
 ·rintro (h | h)
  ·exact .inl h
  ·exact .inr h.symm
 ·rintro (h | h)
  ·exact .inl h
  ·exact .inr h.symm
end Go.Proofs.YtbimcogdbafjpaaGreat
namespace Go.Proofs.YtbimcogdbafjpaaGreat
open Go.RowKit
theorem cells_step (x n : Nat) (hx : 2 ≤ x) : (n + 1) * x ≤ 512 ↔ n < 512 / x := by
 rw [← Nat.succ_le_iff, Nat.le_div_iff_mul_le (by omega)]
set_option maxHeartbeats 400000 in
theorem rccells_any (k : Int) (w : World) : Calls Tryz.prog 107 #[.int .i64 k] w fun e w' => e = .returned (.int .i64 (clsCells k : Nat)) ∧ Below w.heap.size w w' := by
 have hle := clsWords_le k
 have HC : Hid (clsCells k = 512 / clsWords k) := LH rfl
 have HP : Hid (clsWords k = 0 ∨ 2 ≤ clsWords k) := by
  apply LH
  by_cases h : 0 ≤ k ∧ k < 32
  ·exact .inr (clsWords_pos k h)
  ·left; unfold clsWords; rw [if_neg h]
 have CW := LH (rcwords_any k)
 generalize clsWords k = x at *
 by_cases h0 : x = 0
 ·subst h0
  go_enter Tryz.func107, Tryz.ntmps107
  go_wp2_with fail
  refine wp_loop_rounds 1 ?_
  rw [rounds_succ]
  go_wp2_with fail
  refine (CW.out _).mono ?_
  rintro e w1 ⟨rfl, hb⟩
  go_wp2_with fail
  go_ret
  exact ⟨ret_int (by rw [HC.out]; rfl), hb⟩
 ·have hx2 : 2 ≤ x := by rcases HP.out with h | h <;> omega
  clear h0
  go_enter Tryz.func107, Tryz.ntmps107
  go_wp2_with fail
  go_loopw [3] (fun i wr => ∃ n : Nat, n ≤ 512 ∧ i = .int .i64 n ∧ Hid (n ≤ 512 / x) ∧ Below w.heap.size w wr) (fun i _ => 512 - (intOf i).toNat)
  case atStart => exact ⟨0, by omega, rfl, LH (Nat.zero_le _), Below.refl _ _⟩
  case round =>
   obtain ⟨n, hn, rfl, hd, hb⟩ := hrel
   have HS := LH (cells_step x n hx2)
   have HD : Hid (512 / x ≤ 256) := LH (by exact Nat.div_le_div_left (a := 512) hx2 (by omega))
   have hm0 : 0 ≤ ((n : Int) + 1) * (x : Int) := Int.mul_nonneg (by omega) (by omega)
   have hm1 : ((n : Int) + 1) * (x : Int) ≤ 513 * 256 := Int.mul_le_mul (by omega) (by omega) (by omega) (by omega)
   have he : ((n : Int) + 1) * (x : Int) = (((n + 1) * x : Nat) : Int) := by simp
   have HE := LH he
   clear he
   go_wp2_with fail
   refine (CW.out _).mono ?_
   rintro e w1 ⟨rfl, hb1⟩
   have hb1' := hb.trans (hb1.mono hb.size)
   go_wp2_with fail
   refine (CW.out _).mono ?_
   rintro e w2 ⟨rfl, hb2⟩
   have hb2' := hb1'.trans (hb2.mono hb1'.size)
   clear hb1 hb2
   by_cases hc : ((n : Int) + 1) * (x : Int) ≤ 512
   ·have hd' : decide (((n : Int) + 1) * (x : Int) ≤ 512) = true := by simp [hc]
    have hlt : n < 512 / x := HS.out.1 (by have := HE.out; omega)
    have hn2 : n + 1 ≤ 512 := by have := HD.out; omega
    have HL := LH hlt
    clear hlt
    go_wp2_with fail
    exact ⟨⟨n + 1, hn2, vint (by omega), LH HL.out, hb2'⟩, by simp [intOf]; omega⟩
   ·have hd' : decide (((n : Int) + 1) * (x : Int) ≤ 512) = false := by simp [hc]
    have HL : Hid (n = 512 / x) := LH (by have h1 := hd.out; have h2 := HS.out; have h3 := HE.out; omega)
    go_wp2_with fail
    go_ret
    exact ⟨ret_int (by rw [HC.out, ← HL.out]), hb2'⟩
set_option maxHeartbeats 400000 in
theorem rosize_any (p d : Int) (w : World) : Calls Tryz.prog 66 #[.agg #[.int .i64 p, .int .i64 d]] w fun e w' => e = .returned (.int .i64 (objSize p d : Nat)) ∧ Below w.heap.size w w' := by
 have HB := LH (below_alloc w)
 by_cases h1 : p < 0
 ·have HS : Hid (objSize p d = 0) := LH (by unfold objSize; rw [if_pos (by omega)])
  go_enter Tryz.func66, Tryz.ntmps66
  go_wp2_with fail
  go_ret
  exact ⟨ret_int (by rw [HS.out]; rfl), HB.out _⟩
 by_cases h2 : 63 < p
 ·have HS : Hid (objSize p d = 0) := LH (by unfold objSize; rw [if_pos (by omega)])
  go_enter Tryz.func66, Tryz.ntmps66
  go_wp2_with fail
  go_ret
  exact ⟨ret_int (by rw [HS.out]; rfl), HB.out _⟩
 by_cases h3 : d < 0
 ·have HS : Hid (objSize p d = 0) := LH (by unfold objSize; rw [if_pos (by omega)])
  go_enter Tryz.func66, Tryz.ntmps66
  go_wp2_with fail
  go_ret
  exact ⟨ret_int (by rw [HS.out]; rfl), HB.out _⟩
 by_cases h4 : 16384 < d
 ·have HS : Hid (objSize p d = 0) := LH (by unfold objSize; rw [if_pos (by omega)])
  go_enter Tryz.func66, Tryz.ntmps66
  go_wp2_with fail
  go_ret
  exact ⟨ret_int (by rw [HS.out]; rfl), HB.out _⟩
 have HS : Hid (((objSize p d : Nat) : Int) = 1 + p + d) := LH (by unfold objSize; rw [if_neg (by omega)]; omega)
 go_enter Tryz.func66, Tryz.ntmps66
 go_wp2_with fail
 go_ret
 exact ⟨ret_int HS.out.symm, HB.out _⟩
set_option maxHeartbeats 400000 in
theorem rclass_any (p d : Int) (w : World) : Calls Tryz.prog 15 #[.agg #[.int .i64 p, .int .i64 d]] w fun e w' => e = .returned (.int .i64 (rofN (objSize p d : Nat))) ∧ Below w.heap.size w w' := by
 have HB := LH (below_alloc w)
 go_enter Tryz.func15, Tryz.ntmps15
 go_wp2_with fail
 refine (rosize_any _ _ _).mono ?_
 rintro e w1 ⟨rfl, hb1⟩
 have hb1' := (HB.out _).trans (hb1.mono (HB.out _).size)
 go_wp2_with fail
 refine (rof_any _ _).mono ?_
 rintro e w2 ⟨rfl, hb2⟩
 have hb2' := hb1'.trans (hb2.mono hb1'.size)
 go_wp2_with fail
 go_ret
 exact ⟨rfl, hb2'⟩
set_option maxHeartbeats 400000 in
theorem need_any (n : Int) (w : World) (hn : n ≤ 1000000000) : Calls Tryz.prog 176 #[.int .i64 n] w fun e w' => e = .returned (.int .i64 (upN n 512)) ∧ w = w' := by
 by_cases h : n < 1
 ·have HU : Hid (upN n 512 = 0) := LH (by unfold upN; rw [if_pos (by omega)])
  go_enter Tryz.func176, Tryz.ntmps176
  go_wp2_with fail
  go_ret
  exact ⟨ret_int HU.out.symm, rfl⟩
 ·have HU := LH (up_ref n 512 (by omega) (by omega))
  by_cases c : n % 512 = 0
  ·have c1 : (n % 512 != 0) = false := by simp [c]
   have C := LH c
   clear c
   go_enter Tryz.func176, Tryz.ntmps176
   go_wp2_with fail
   go_ret
   exact ⟨ret_int (by rw [HU.out, if_pos C.out]), rfl⟩
  ·have c1 : (n % 512 != 0) = true := by simp [c]
   have C := LH c
   clear c
   go_enter Tryz.func176, Tryz.ntmps176
   go_wp2_with fail
   go_ret
   exact ⟨ret_int (by rw [HU.out, if_neg C.out]), rfl⟩
theorem rofN_small (n : Nat) (h : small n) : rofN (n : Int) = (ofN (n : Int) : Nat) := by unfold rofN; rw [if_pos (by unfold small at h; omega)]
theorem rofN_large (n : Nat) (h : ¬ small n) : rofN (n : Int) = -1 := by unfold rofN; rw [if_neg (by unfold small at h; omega)]
set_option maxHeartbeats 400000 in
theorem roblocks_any (p d : Int) (w : World) : Calls Tryz.prog 109 #[.agg #[.int .i64 p, .int .i64 d]] w fun e w' => e = .returned (.int .i64 (objBlocks (objSize p d) : Nat)) ∧ Below w.heap.size w w' := by
 have HB := LH (below_alloc w)
 have hle := objSize_le p d
 go_enter Tryz.func109, Tryz.ntmps109
 go_wp2_with fail
 refine (rclass_any _ _ _).mono ?_
 rintro e w1 ⟨rfl, hb1⟩
 have hb1' := (HB.out _).trans (hb1.mono (HB.out _).size)
 have hc0 : w1.cell? ⟨w.heap.size, 0, none⟩ = some (.int .i64 p) := by rw [hb1.cell (p := ⟨w.heap.size, 0, none⟩) (by simp)]; exact cell_alloc_new _ _ _ _ _ rfl
 have hc1 : w1.cell? ⟨w.heap.size, 1, none⟩ = some (.int .i64 d) := by rw [hb1.cell (p := ⟨w.heap.size, 1, none⟩) (by simp)]; exact cell_alloc_new _ _ _ _ _ rfl
 by_cases h : small (objSize p d)
 ·rw [rofN_small _ h]
  have HO : Hid (objBlocks (objSize p d) = 0) := LH (by unfold objBlocks; rw [if_pos h])
  clear h hb1
  go_wp2_with fail
  go_ret
  exact ⟨ret_int (by rw [HO.out]; rfl), hb1'⟩
 ·rw [rofN_large _ h]
  have HO : Hid (((objBlocks (objSize p d) : Nat) : Int) = upN (objSize p d : Nat) 512) := LH (by unfold objBlocks upN; rw [if_neg h]; split <;> omega)
  clear h hb1
  go_wp2_with fail
  refine (rosize_any _ _ _).mono ?_
  rintro e w2 ⟨rfl, hb2⟩
  have hb2' := hb1'.trans (hb2.mono hb1'.size)
  go_wp2_with fail
  refine (need_any _ _ (by omega)).mono ?_
  rintro e w3 ⟨rfl, rfl⟩
  rw [← HO.out]
  go_wp2_with fail
  go_ret
  exact ⟨rfl, hb2'⟩
end Go.Proofs.YtbimcogdbafjpaaGreat
namespace Go.Proofs.YtbimcogdbafjpaaGreat
open Go.RowKit Go.Maps
set_option maxHeartbeats 1000000 in
theorem rroom_any (p d : Int) (w : World) : Calls Tryz.prog 149 #[vob p d] w (Gives (.int .i64 (roomN p d : Nat)) w) := by
 have HM := LH (Mem.one w #[.int .i64 p, .int .i64 d] 38)
 have HP : Hid (∀ x w', x = ((roomN p d : Nat) : Int) → Below w.heap.size w w' → Gives (.int .i64 (roomN p d : Nat)) w (.returned (.int .i64 x)) w') := LH (fun x w' h1 h2 => by subst h1; exact ⟨rfl, h2⟩)
 have HR : Hid (roomN p d = if small (objSize p d) then clsWords (ofN (objSize p d : Nat) : Nat) else 512 * objBlocks (objSize p d)) := LH rfl
 generalize Gives (.int .i64 (roomN p d : Nat)) w = Post at *
 generalize roomN p d = rn at *
 have hob : objBlocks (objSize p d) ≤ 100 := by
  have := objSize_le p d
  unfold objBlocks
  split <;> omega
 have HCl := LH (fun w => rclass_any p d w)
 have HBl := LH (fun w => roblocks_any p d w)
 go_enter Tryz.func149, Tryz.ntmps149
 go_upto_region 1 with fail
 obtain ⟨q, hq⟩ : ∃ q, q = w.heap.size := ⟨_, rfl⟩
 rw [← hq] at HM ⊢
 generalize w.alloc _ = w0 at *
 clear hq
 have d0 := HM.out.cell 0 0 rfl rfl
 have d1 := HM.out.cell 0 1 rfl rfl
 go_wp2_with fail
 refine (HCl.out _).mono ?_
 rintro e w1 ⟨rfl, hb1⟩
 have HM1 := LH (HM.out.later hb1)
 clear hb1 d0 d1
 by_cases hs : small (objSize p d)
 ·have HE : Hid (((clsWords (ofN (objSize p d : Nat) : Nat) : Nat) : Int) = (rn : Int)) := LH (by rw [HR.out, if_pos hs])
  rw [rofN_small _ hs]
  have hk0 : (0 : Int) ≤ ((ofN (objSize p d : Nat) : Nat) : Int) := by omega
  clear hs
  generalize ofN (objSize p d : Nat) = k at *
  have HW := LH (fun w => rcwords_any (k : Int) w)
  go_wp2_with fail
  refine (HW.out _).mono ?_
  rintro e w2 ⟨rfl, hb2⟩
  have HFin := LH (HP.out _ w2 HE.out (HM1.out.later hb2).below)
  clear hb2
  go_wp2_with fail
  exact HFin.out
 ·have HE : Hid (512 * ((objBlocks (objSize p d) : Nat) : Int) = (rn : Int)) := LH (by rw [HR.out, if_neg hs]; omega)
  rw [rofN_large _ hs]
  clear hs
  generalize objBlocks (objSize p d) = nb at *
  have d0 := HM1.out.cell 0 0 rfl rfl
  have d1 := HM1.out.cell 0 1 rfl rfl
  go_wp2_with fail
  refine (HBl.out _).mono ?_
  rintro e w2 ⟨rfl, hb2⟩
  have HFin := LH (HP.out _ w2 HE.out (HM1.out.later hb2).below)
  clear hb2
  go_wp2_with fail
  exact HFin.out
def FreeL (w : World) (ys : List Nat) : Ending → World → Prop := fun e w' => ∃ v, e = .returned v ∧ OwnI w' v ys ∧ (∀ b, rowOf v = some b → w.heap.size ≤ b) ∧ Below w.heap.size w w'
set_option maxHeartbeats 4000000 in
set_option maxRecDepth 20000 in
theorem rfree16_any {w : World} (a : Option Addr) (n cap : Nat) (L : List Hd) (hn : L.length = n) (hc : Cells w a (hdCs L)) (hl : n ≤ 200) (k : Nat) (hk : k < 32) (b : Option Addr) (un uc : Nat) (xs : List Nat) (hun : xs.length = un) (hx : Cells w b (xs.map vi)) (hul : un ≤ 1000000) :
  Calls Tryz.prog 79 #[.slice a n cap, .int .i64 (k : Int), .slice b un uc] w (FreeL w (freeTo (fun y => xs.contains y) L k (n - 1))) := by
 have HP : Hid (∀ v w', OwnI w' v (freeTo (fun y => xs.contains y) L k (n - 1)) → (∀ b, rowOf v = some b → w.heap.size ≤ b) → Below w.heap.size w w' → FreeL w (freeTo (fun y => xs.contains y) L k (n - 1)) (.returned v) w') := LH (fun v w' h1 h2 h3 => ⟨v, rfl, h1, h2, h3⟩)
 generalize FreeL w (freeTo (fun y => xs.contains y) L k (n - 1)) = Post at *
 obtain ⟨u, hu⟩ : ∃ u : Nat → Bool, u = fun y => xs.contains y := ⟨_, rfl⟩
 rw [← hu] at HP
 have HU := LH hu
 have HC := LH hc
 have HX := LH hx
 have HLn := LH hn
 have HUn := LH hun
 have hcp := clsWords_pos (k : Int) (by omega)
 have hc256 : clsCells k ≤ 256 := by
  unfold clsCells
  have := Nat.div_le_div_left (c := 2) (b := clsWords (k : Int)) (a := 512) hcp (by decide)
  omega
 have hw512 : clsWords k ≤ 512 := by
  have := clsWords_le (k : Int)
  omega
 clear hc hx hn hun hu
 obtain ⟨cc, hcc⟩ : ∃ cc, cc = clsCells k := ⟨_, rfl⟩
 obtain ⟨cw, hcw⟩ : ∃ cw, cw = clsWords k := ⟨_, rfl⟩
 have HCe := LH (fun w => rccells_any (k : Int) w)
 have HWe := LH (fun w => rcwords_any (k : Int) w)
 rw [← hcc] at HCe hc256
 rw [← hcw] at HWe hw512
 have HCc := LH hcc
 have HCw := LH hcw
 clear hcc hcw hcp
 go_enter Tryz.func79, Tryz.ntmps79
 go_wp2_with fail
 go_loopw [7, 8] (fun ov bv wr => ∃ bn : Nat, 1 ≤ bn ∧ (bn ≤ n ∨ bn = 1) ∧ bv = .int .i64 (bn : Int) ∧ Hid (OwnI wr ov (freeTo u L k (bn - 1))) ∧ Hid (∀ b, rowOf ov = some b → w.heap.size ≤ b) ∧ Hid (Below w.heap.size w wr)) (fun _ bv _ => n + 1 - (intOf bv).toNat)
 case atStart => exact ⟨1, by omega, by omega, rfl, LH (OwnI.nil _), LH (fun b hb => by cases hb), LH (Below.refl _ _)⟩
 case round =>
  obtain ⟨bn, hb1, hbn, rfl, HO, HR, HB⟩ := hrel
  by_cases hlt : bn < n
  case neg =>
   have hlt' : ¬ (bn : Int) < (n : Int) := by omega
   have e : bn - 1 = n - 1 := by omega
   rw [e] at HO
   go_wp2_with fail
   exact HP.out _ _ HO.out HR.out HB.out
  have hlt' : (bn : Int) < (n : Int) := by omega
  obtain ⟨kk, cc0, zz, he⟩ := hdGetD L bn
  obtain ⟨ba, oa, rfl, e0, e1, e2⟩ := hd_cells HC.out (by rw [HLn.out]; exact hlt) he
  have HSm : Hid (isSm L k bn = (decide (kk = 1) && decide (cc0 = (k : Int)))) := LH (by unfold isSm; rw [he])
  have HSuc : Hid (freeTo u L k (bn + 1 - 1) = freeTo u L k (bn - 1) ++ if isSm L k bn then cellsTo u bn k cc else []) := LH (by
   rw [HCc.out]
   obtain ⟨z, rfl⟩ : ∃ z, bn = z + 1 := ⟨bn - 1, by omega⟩
   rfl)
  generalize hF : freeTo u L k (bn - 1) = F at *
  have HFl : Hid (F.length ≤ 60000) := LH (by rw [← hF]; have := freeTo_len (u := u) (L := L) hk (bn - 1); have : 256 * (bn - 1) ≤ 256 * 200 := Nat.mul_le_mul_left _ (by omega); omega)
  have HE0 := LH e0
  have HE1 := LH e1
  clear he e0 e1 e2 hF
  go_wp2_with fail
  go_loopw [7, 9] (fun ov iv wi => ∃ i : Nat, i ≤ cc ∧ iv = .int .i64 (i : Int) ∧ Hid (OwnI wi ov (F ++ if isSm L k bn then cellsTo u bn k i else [])) ∧ Hid (∀ b, rowOf ov = some b → w.heap.size ≤ b) ∧ Hid (Below w.heap.size w wi)) (fun _ iv _ => cc - (intOf iv).toNat)
  case atStart => exact ⟨0, by omega, rfl, LH (by
   have h := HO.out
   by_cases e : isSm L k bn
   ·rw [if_pos e]; show OwnI _ _ (F ++ []); rw [List.append_nil]; exact h
   ·rw [if_neg e, List.append_nil]; exact h), HR, HB⟩
  case round =>
   obtain ⟨i, hic, rfl, HOi, HRi, HBi⟩ := hrel
   have c0 := (HBi.out.cell (p := ⟨ba, oa + bn * 3, none⟩) (World.block_lt_of_cell? _ _ HE0.out)).trans HE0.out
   have c1 := (HBi.out.cell (p := ⟨ba, oa + bn * 3 + 1, none⟩) (World.block_lt_of_cell? _ _ HE1.out)).trans HE1.out
   by_cases hk1 : kk = 1
   case neg =>
    have HNext : Hid (OwnI wr _ (freeTo u L k (bn + 1 - 1))) := LH (by
     have h := HOi.out
     have e : isSm L k bn = false := by rw [HSm.out]; simp [hk1]
     rw [HSuc.out]
     rw [e] at h ⊢
     exact h)
    go_wp2_with fail
    go_roundw
    case rel => exact ⟨bn + 1, by omega, by omega, vint (by omega), HNext, HRi, HBi⟩
    case measure => simp [intOf]; omega
   subst hk1
   by_cases hk2 : cc0 = (k : Int)
   case neg =>
    have HNext : Hid (OwnI wr _ (freeTo u L k (bn + 1 - 1))) := LH (by
     have h := HOi.out
     have e : isSm L k bn = false := by rw [HSm.out]; simp [hk2]
     rw [HSuc.out]
     rw [e] at h ⊢
     exact h)
    go_wp2_with fail
    go_roundw
    case rel => exact ⟨bn + 1, by omega, by omega, vint (by omega), HNext, HRi, HBi⟩
    case measure => simp [intOf]; omega
   subst hk2
   have HYes : Hid (isSm L k bn = true) := LH (by rw [HSm.out]; simp)
   rw [HYes.out, if_pos rfl] at HOi
   go_wp2_with fail
   refine (HCe.out _).mono ?_
   rintro e w2 ⟨rfl, hb2⟩
   have HO2 := LH (HOi.out.keep (fun b hb => hb2.block b (HOi.out.lt b hb)))
   have HB2 := LH (HBi.out.trans (hb2.mono HBi.out.size))
   clear hb2 c0 c1
   by_cases hii : i < cc
   case neg =>
    obtain rfl : i = cc := by omega
    have HNext : Hid (OwnI w2 _ (freeTo u L k (bn + 1 - 1))) := LH (by rw [HSuc.out, HYes.out, if_pos rfl]; exact HO2.out)
    have hni : ¬ (i : Int) < (i : Int) := by omega
    go_wp2_with fail
    go_roundw
    case rel => exact ⟨bn + 1, by omega, by omega, vint (by omega), HNext, HRi, HB2⟩
    case measure => simp [intOf]; omega
   have hiI : (i : Int) < (cc : Int) := by omega
   have hfit : i * cw + cw ≤ 512 := by
    have h1 := HCc.out
    have h2 := HCw.out
    unfold clsCells at h1
    rw [← h2] at h1
    have h3 : (i + 1) * cw ≤ 512 / cw * cw := Nat.mul_le_mul_right _ (by omega)
    have h4 := Nat.div_mul_le_self 512 cw
    rw [Nat.add_mul, Nat.one_mul] at h3
    omega
   have hm0 : (0 : Int) ≤ (i : Int) * (cw : Int) := by rw [← Int.natCast_mul]; omega
   have hm1 : (i : Int) * (cw : Int) ≤ 512 := by rw [← Int.natCast_mul]; omega
   obtain ⟨at_, hat⟩ : ∃ at_, at_ = cellOf bn k i := ⟨_, rfl⟩
   have hatI : 512 * (bn : Int) + (i : Int) * (cw : Int) = (at_ : Int) := by rw [hat, HCw.out]; unfold cellOf; rw [Int.natCast_add, Int.natCast_mul, Int.natCast_mul]; rfl
   have HAt := LH hat
   have HStop : Hid (cellsTo u bn k (i + 1) = cellsTo u bn k i ++ if u at_ then [] else [at_]) := LH (by rw [hat]; rfl)
   clear hat hfit
   go_wp2_with fail
   refine (HWe.out _).mono ?_
   rintro e w3 ⟨rfl, hb3⟩
   have HO3 := LH (HO2.out.keep (fun b hb => hb3.block b (HO2.out.lt b hb)))
   have HB3 := LH (HB2.out.trans (hb3.mono HB2.out.size))
   clear hb3 HO2
   go_wp2_with fail
   go_loopw [11, 12] (fun fv jv wj => ∃ j : Nat, j ≤ un ∧ fv = .bool ((xs.take j).contains at_) ∧ jv = .int .i64 (j : Int) ∧ Hid (OwnI wj u7 (F ++ cellsTo u bn k i)) ∧ Hid (Below w.heap.size w wj)) (fun _ jv _ => un - (intOf jv).toNat)
   case atStart => exact ⟨0, by omega, rfl, rfl, HO3, HB3⟩
   case round =>
    obtain ⟨j, hj, rfl, rfl, HOj, HBj⟩ := hrel
    by_cases hjj : j < un
    ·have hjI : (j : Int) < (un : Int) := by omega
     obtain ⟨x, hx⟩ : ∃ x, xs[j]? = some x := ⟨_, List.getElem?_eq_getElem (by rw [HUn.out]; exact hjj)⟩
     have HCs := LH (contains_take_succ xs at_ j x hx)
     obtain ⟨bb, ob, rfl, _, hcx⟩ := (HX.out.below HBj.out (Nat.le_refl _)).at (i := j) (by rw [List.length_map, HUn.out]; exact hjj)
     have cx := hcx j (vi x) (by rw [List.getElem?_map, hx]; rfl)
     unfold vi at cx
     clear hcx hx
     have HXe : Hid (((x : Int) == (at_ : Int)) = (x == at_)) := LH (by
      by_cases e : x = at_
      ·subst e; simp
      ·have e2 : ¬ (x : Int) = (at_ : Int) := by omega
       rw [beq_eq_false_iff_ne.2 e2, beq_eq_false_iff_ne.2 e])
     obtain ⟨nf, hnf⟩ : ∃ nf, nf = (xs.take (j + 1)).contains at_ := ⟨_, rfl⟩
     rw [← hnf] at HCs
     have HNe := LH hnf.symm
     clear hnf
     cases hf : (xs.take j).contains at_ with
     | true =>
      rw [hf] at HCs
      have HNf : Hid (nf = true) := LH (by rw [HCs.out]; rfl)
      clear hf
      go_wp2_with fail
      go_roundw
      case rel => exact ⟨j + 1, by omega, by rw [HNe.out, HNf.out], vint (by omega), HOj, HBj⟩
      case measure => simp [intOf]; omega
     | false =>
      rw [hf] at HCs
      have HNf : Hid (nf = (x == at_)) := LH (by rw [HCs.out]; rfl)
      clear hf
      go_wp2_with fail
      go_roundw
      case rel => exact ⟨j + 1, by omega, by rw [HNe.out, HNf.out, HXe.out], vint (by omega), HOj, HBj⟩
      case measure => simp [intOf]; omega
    ·obtain rfl : j = un := by omega
     have hni : ¬ (j : Int) < (j : Int) := by omega
     have HUa : Hid (u at_ = (xs.take j).contains at_) := LH (by rw [HU.out, ← HUn.out, List.take_length])
     cases hf : (xs.take j).contains at_ with
     | true =>
      have HNext : Hid (OwnI wr u7 (F ++ cellsTo u bn k (i + 1))) := LH (by rw [HStop.out, HUa.out, hf, if_pos rfl, List.append_nil]; exact HOj.out)
      clear hf
      go_wp2_with fail
      go_roundw
      case rel => exact ⟨i + 1, by omega, vint (by omega), LH (by rw [HYes.out, if_pos rfl]; exact HNext.out), HRi, HBj⟩
      case measure => simp [intOf]; omega
     | false =>
      have HE : Hid (cellsTo u bn k (i + 1) = cellsTo u bn k i ++ [at_]) := LH (by rw [HStop.out, HUa.out, hf, if_neg (by simp)])
      have HC1 : Hid (Cells (wr.alloc (.cells #[.int .i64 (at_ : Int)] 3)) (some ⟨wr.heap.size, 0, none⟩) ([at_].map vi)) := LH (RowAt.cells ⟨_, heap_alloc_new _ _, [], rfl⟩)
      have hba := below_alloc wr (.cells #[.int .i64 (at_ : Int)] 3)
      have HB1 := LH (HBj.out.trans (hba.mono HBj.out.size))
      have HO1 := LH (HOj.out.keep (fun b hb => hba.block b (HOj.out.lt b hb)))
      have HN1 : Hid ((F ++ cellsTo u bn k i).length + 1 ≤ 1000000000000) := LH (by
       have h1 := HFl.out
       have h2 := cellsTo_len (u := u) (b := bn) (k := k) i
       rw [List.length_append]; omega)
      clear hba hf
      go_wp2_with (at_builtin; refine wpList_append_newI (m := 1) (B := w.heap.size) HO1.out (Below.refl _ _) HRi.out HB1.out.size HC1.out rfl HN1.out rfl rfl rfl rfl ?_; intro v' w9 ho hb hr; have HO9 := LH ho; have HB9 := LH hb; have HR9 := LH hr; clear ho hb hr)
      go_roundw
      case rel => exact ⟨i + 1, by omega, vint (by omega), LH (by rw [HYes.out, if_pos rfl, HE.out, ← List.append_assoc]; exact HO9.out), HR9, LH (HB1.out.trans HB9.out)⟩
      case measure => simp [intOf]; omega
structure Ob where
 a : Nat
 p : Int
 d : Int
def Ob.cs (o : Ob) : List Value := [.int .i64 (o.a : Int), .int .i64 o.p, .int .i64 o.d]
theorem Ob.len (o : Ob) : (Ob.cs o).length = 3 := rfl
theorem aggOb3 : Agg Tryz.prog 40 #[.int .i64 0, .int .i64 0, .int .i64 0] := ⟨⟨_, Tryz.underlying40, rfl⟩, by kernel_rfl⟩
theorem elOb : Elem Tryz.prog 30 40 (.agg #[.int .i64 0, .int .i64 0, .int .i64 0]) 3 24 := Elem.mk' Tryz.underlying30 (by kernel_rfl) rfl (by decide)
abbrev Ob.val (o : Ob) : Value := .agg #[.int .i64 (o.a : Int), .int .i64 o.p, .int .i64 o.d]
theorem ob_cells {w : World} {a : Option Addr} {l : List Ob} (h : Cells w a (recs Ob.cs l)) {j : Nat} {x : Ob} (hx : l[j]? = some x) :
  ∃ b off, a = some ⟨b, off, none⟩ ∧ w.cell? ⟨b, off + j * 3, none⟩ = some (.int .i64 (x.a : Int)) ∧ w.cell? ⟨b, off + j * 3 + 1, none⟩ = some (.int .i64 x.p) ∧ w.cell? ⟨b, off + j * 3 + 2, none⟩ = some (.int .i64 x.d) := by
 have hj := (List.getElem?_eq_some_iff.1 hx).1
 obtain ⟨b, off, e, hc⟩ := recs_cells Ob.len (by decide) ⟨0, 0, 0⟩ h hj
 have hg : l.getD j ⟨0, 0, 0⟩ = x := by rw [List.getD_eq_getElem?_getD, hx]; rfl
 rw [hg] at hc
 exact ⟨b, off, e, hc.2 0 _ rfl, hc.2 1 _ rfl, hc.2 2 _ rfl⟩
def HasPost (xs : List Ob) (x : Int) (w : World) : Ending → World → Prop := fun e w' => ∃ r : Int, e = .returned (.int .i64 r) ∧ (0 ≤ r ↔ ∃ o ∈ xs, (o.a : Int) = x) ∧ w' = w
set_option maxHeartbeats 1000000 in
theorem has16_any {w : World} (a : Option Addr) (n cap : Nat) (xs : List Ob) (hn : xs.length = n) (hc : Cells w a (recs Ob.cs xs)) (hl : n ≤ 1000000) (x : Int) :
  Calls Tryz.prog 92 #[.slice a n cap, .int .i64 x] w (HasPost xs x w) := by
 have HP : Hid (∀ r, (0 ≤ r ↔ ∃ o ∈ xs, (o.a : Int) = x) → HasPost xs x w (.returned (.int .i64 r)) w) := LH (fun r h => ⟨r, rfl, h, rfl⟩)
 generalize HasPost xs x w = Post at *
 have HC := LH hc
 have HN := LH hn
 clear hc hn
 go_enter Tryz.func92, Tryz.ntmps92
 go_wp2_with fail
 go_loopw [5] (fun iv wr => ∃ i : Nat, i ≤ n ∧ iv = .int .i64 (i : Int) ∧ Hid (wr = w) ∧ Hid (∀ o ∈ xs.take i, (o.a : Int) ≠ x)) (fun iv _ => n - (intOf iv).toNat)
 case atStart => exact ⟨0, by omega, rfl, LH rfl, LH (by simp)⟩
 case round =>
  obtain ⟨i, hi, rfl, hw, HNo⟩ := hrel
  obtain rfl := hw.out
  by_cases hlt : i < n
  case neg =>
   obtain rfl : i = n := by omega
   have hni : ¬ (i : Int) < (i : Int) := by omega
   have HFin := LH (HP.out (-1) ⟨fun h => by omega, fun ⟨o, h1, h2⟩ => absurd h2 (HNo.out o (by rw [← HN.out, List.take_length]; exact h1))⟩)
   go_wp2_with fail
   exact HFin.out
  have hltI : (i : Int) < (n : Int) := by omega
  obtain ⟨o, ho⟩ : ∃ o, xs[i]? = some o := ⟨_, List.getElem?_eq_getElem (by rw [HN.out]; exact hlt)⟩
  obtain ⟨b, off, rfl, c0, _, _⟩ := ob_cells HC.out ho
  have HO := LH ho
  clear ho
  by_cases he : (o.a : Int) = x
  ·have HFin := LH (HP.out (i : Int) ⟨fun _ => ⟨o, List.mem_of_getElem? HO.out, he⟩, fun _ => by omega⟩)
   go_wp2_with fail
   exact HFin.out
  ·have HNx : Hid (∀ o ∈ xs.take (i + 1), (o.a : Int) ≠ x) := LH (fun o' h => by
    have h1 := (List.getElem?_eq_some_iff.1 HO.out).1
    rw [List.take_succ_eq_append_getElem h1, List.mem_append] at h
    rcases h with h | h
    ·exact HNo.out o' h
    ·have : o' = o := by
      have h2 := (List.getElem?_eq_some_iff.1 HO.out).2
      rw [h2] at h; simpa using h
     rw [this]; exact he)
   go_wp2_with fail
   go_roundw
   case rel => exact ⟨i + 1, by omega, vint (by omega), LH trivial, HNx⟩
   case measure => simp [intOf]; omega
def OwnOb (w : World) (base : Nat) (v : Value) (xs : List Ob) : Prop := w.ownsRow base 40 3 v xs.length (recs Ob.cs xs)
def NewOb (w : World) (xs : List Ob) : Ending → World → Prop := fun e w' => ∃ v, e = .returned v ∧ OwnOb w' w.heap.size v xs ∧ Below w.heap.size w w'
set_option maxHeartbeats 2000000 in
theorem remove16_any {w : World} (a : Option Addr) (n cap : Nat) (xs : List Ob) (hn : xs.length = n) (hc : Cells w a (recs Ob.cs xs)) (hl : n ≤ 1000000) (x : Nat) :
  Calls Tryz.prog 89 #[.slice a n cap, .int .i64 (x : Int)] w (NewOb w (xs.filter (fun o => o.a != x))) := by
 have HP : Hid (∀ v w', OwnOb w' w.heap.size v (xs.filter (fun o => o.a != x)) → Below w.heap.size w w' → NewOb w (xs.filter (fun o => o.a != x)) (.returned v) w') := LH (fun v w' h1 h2 => ⟨v, rfl, h1, h2⟩)
 generalize NewOb w (xs.filter (fun o => o.a != x)) = Post at *
 have HC := LH hc
 have HN := LH hn
 clear hc hn
 go_enter Tryz.func89, Tryz.ntmps89
 go_wp2_with fail
 go_loopw [5, 6] (fun ov iv wr => ∃ i : Nat, i ≤ n ∧ iv = .int .i64 (i : Int) ∧ Hid (OwnOb wr w.heap.size ov ((xs.take i).filter (fun o => o.a != x))) ∧ Hid (Below w.heap.size w wr)) (fun _ iv _ => n - (intOf iv).toNat)
 case atStart => exact ⟨0, by omega, rfl, LH ⟨rfl, .inl ⟨rfl, rfl⟩⟩, LH (Below.refl _ _)⟩
 case round =>
  obtain ⟨i, hi, rfl, HO, HB⟩ := hrel
  by_cases hlt : i < n
  case neg =>
   obtain rfl : i = n := by omega
   have hni : ¬ (i : Int) < (i : Int) := by omega
   have e : xs.take i = xs := by rw [← HN.out, List.take_length]
   rw [e] at HO
   have HFin := LH (HP.out _ _ HO.out HB.out)
   go_wp2_with fail
   exact HFin.out
  have hltI : (i : Int) < (n : Int) := by omega
  obtain ⟨o, ho⟩ : ∃ o, xs[i]? = some o := ⟨_, List.getElem?_eq_getElem (by rw [HN.out]; exact hlt)⟩
  obtain ⟨b, off, rfl, c0, c1, c2⟩ := ob_cells (HC.out.below HB.out (Nat.le_refl _)) ho
  have HTk : Hid (xs.take (i + 1) = xs.take i ++ [o]) := LH (by
   have h1 := (List.getElem?_eq_some_iff.1 ho).1
   rw [List.take_succ_eq_append_getElem h1, (List.getElem?_eq_some_iff.1 ho).2])
  clear ho
  by_cases he : o.a = x
  ·have HNx : Hid ((xs.take (i + 1)).filter (fun o => o.a != x) = (xs.take i).filter (fun o => o.a != x)) := LH (by rw [HTk.out, List.filter_append]; simp [he])
   have heI : (o.a : Int) = (x : Int) := by omega
   go_wp2_with fail
   go_roundw
   case rel => exact ⟨i + 1, by omega, vint (by omega), LH (by rw [HNx.out]; exact HO.out), HB⟩
   case measure => simp [intOf]; omega
  ·have HNx : Hid ((xs.take (i + 1)).filter (fun o => o.a != x) = (xs.take i).filter (fun o => o.a != x) ++ [o]) := LH (by rw [HTk.out, List.filter_append]; simp [he])
   have heI : ¬ (o.a : Int) = (x : Int) := by omega
   obtain ⟨K, hK⟩ : ∃ K, K = (xs.take i).filter (fun o => o.a != x) := ⟨_, rfl⟩
   rw [← hK] at HO HNx
   have HKl : Hid (K.length < 1000000000000) := LH (by
    have h1 := List.length_filter_le (fun o : Ob => o.a != x) (xs.take i)
    rw [hK]
    have h2 := List.length_take_le i xs
    have h3 := HN.out
    omega)
   have HOu : Hid (wr.ownsRow w.heap.size 40 3 _ K.length (recs Ob.cs K)) := LH HO.out
   have hone : Hid (∀ u ∈ (#[.int .i64 (o.a : Int), .int .i64 o.p, .int .i64 o.d] : Array Value).toList, u.oneCell' = true) := LH (by intro u hu; simp at hu; rcases hu with rfl | rfl | rfl <;> rfl)
   clear hK HO
   obtain ⟨oa, op, od⟩ := o
   dsimp only at c0 c1 c2 heI hone he
   have HCo : Hid (∀ j v, ([.int .i64 (oa : Int), .int .i64 op, .int .i64 od] : List Value)[j]? = some v → wr.cell? ⟨b, off + i * 3 + j, none⟩ = some v) := LH (by
    intro j v hj
    rcases j with _ | _ | _ | j
    ·simp at hj; subst hj; exact c0
    ·simp at hj; subst hj; exact c1
    ·simp at hj; subst hj; exact c2
    ·simp at hj)
   go_wp2_with (first
    | (refine wpList_load_part aggOb3 [.int .i64 (oa : Int), .int .i64 op, .int .i64 od] HCo.out rfl rfl rfl rfl ?_)
    | (at_builtin; refine wpList_append_new (us := #[.int .i64 (oa : Int), .int .i64 op, .int .i64 od]) elOb HOu.out rfl hone.out HKl.out (by decide) HB.out.size rfl rfl rfl (by simp [Act.eval]) ?_; intro g6 c6 w6 ho6 hg6 hc6 hm6 hb6 hl6; have HO6 := LH ho6; have HG6 := LH hg6; clear ho6 hg6))
   go_roundw
   case rel =>
    refine ⟨i + 1, by omega, vint (by omega), LH ?_, LH (below_grownBy HB.out HOu.out HG6.out (Nat.le_refl _) (Nat.le_refl _))⟩
    rw [HNx.out]
    unfold OwnOb
    rw [List.length_append, recs_append]
    exact HO6.out
   case measure => simp [intOf]; omega
end Go.Proofs.YtbimcogdbafjpaaGreat
