/- Parts of the proof, one behind the other: Ed, Ee, Zq, En, Eo, Ep, Eq, Er, Cm, Fc. -/
import Derived.Test.YtpopbfagliagnaaGreatCW8
import Derived.Deep.Cut
import Derived.WideKeyEntry
set_option linter.unusedVariables false
namespace Go.Proofs.YtpopbfagliagnaaGreat
structure Grew (L L' : List Hd) : Prop where
 len : L'.length = L.length
 same : ∀ q, (L.getD q default).k ≠ 0 → L'.getD q default = L.getD q default
theorem Grew.refl (L : List Hd) : Grew L L := ⟨rfl, fun _ _ => rfl⟩
theorem isCell_kind {L : List Hd} {k a : Nat} (h : isCell L k a) : (L.getD (a / 512) default).k = 1 := by rw [h.2.2.1]
theorem Grew.cell {L L' : List Hd} (h : Grew L L') {k a : Nat} (hc : isCell L k a) : isCell L' k a := by
 have := h.same _ (by rw [isCell_kind hc]; decide)
 obtain ⟨c1, c2, c3, c4, c5⟩ := hc
 exact ⟨c1, by rw [h.len]; exact c2, by rw [this]; exact c3, c4, c5⟩
theorem wholeN_of {L : List Hd} {b m : Nat} (hm : 1 ≤ m) (h : L.getD b default = ⟨2, 0, m⟩) (hf : b + m ≤ L.length) (hc : ∀ i, 1 ≤ i → i < m → L.getD (b + i) default = ⟨3, 0, i⟩) : wholeN L b = m := by
 unfold wholeN
 rw [h]
 dsimp only
 rw [if_neg (by omega), Int.toNat_natCast, if_pos (contTo_of hc)]
theorem Grew.whole {L L' : List Hd} (h : Grew L L') {b m : Nat} (hm : 1 ≤ m) (hw : wholeN L b = m) : wholeN L' b = m := by
 have hf := wholeN_fits (L := L) (b := b) (by omega)
 rw [hw] at hf
 obtain ⟨f1, f2, f3, f4, f5⟩ := hf
 have hb := h.same b (by rw [f2]; decide)
 unfold wholeN
 rw [hb, h.len, if_neg (by omega), if_pos]
 ·omega
 ·refine contTo_of fun i h1 h2 => ?_
  have := f5 i h1 (by omega)
  rw [h.same _ (by rw [this]; simp), this]
theorem headN_same {S T : Dev} {a : Int} (hl : T.cache.length = S.cache.length) (hw : peek T.cache a = peek S.cache a) : headN T a = headN S a := by
 unfold headN; rw [hl, hw]
theorem placed_keep {S T : Dev} {L L' : List Hd} {a : Nat} {o : Odec} (h : placedN S L (a : Int) = some o) (hl : T.cache.length = S.cache.length) (hw : T.cache.getD a 0 = S.cache.getD a 0) (hg : Grew L L') : placedN T L' (a : Int) = some o := by
 have hh : headN T (a : Int) = headN S (a : Int) := headN_same hl (by rw [peek_in, peek_in]; exact hw)
 obtain ⟨e1, e0, h1, h2⟩ := placed_head h
 unfold placedN at h ⊢
 rw [e1, Int.toNat_natCast] at h
 rw [hh, e1, hg.len, Int.toNat_natCast]
 split at h
 ·cases h
 ·rename_i h0
  rw [if_neg h0]
  by_cases hs : small (objSize o.p o.d)
  ·rw [if_pos hs] at h ⊢
   split at h
   ·next hc => rw [if_pos (hg.cell hc)]
   ·cases h
  ·rw [if_neg hs] at h ⊢
   split at h
   ·next hc =>
    have hnz : 1 ≤ objBlocks (objSize o.p o.d) := by
     unfold objBlocks
     rw [if_neg hs]
     have := headN_code S (a : Int)
     rw [e1] at this
     rcases this with this | this
     ·have := this.2.2.2.1; omega
     ·rw [this] at e0; cases e0
    rw [if_pos ⟨hc.1, hg.whole hnz hc.2⟩]
   ·cases h
structure AlR where
 al : Al
 a : Int
 err : Int
def Al.take (m : Al) (bm : Bm) (f : FL) (mu k : Nat) : AlR :=
 if (f.cell mu k).isSome then ⟨⟨bm, m.used, f.taken mu k⟩, ((f.cell mu k).getD 0 : Nat), 0⟩ else ⟨⟨bm, m.used, f⟩, 0, 4⟩
def FL.owner (S : FL) (k : Nat) : Option Nat := if S.c 0 k ≠ [] then some 0 else if S.c 1 k ≠ [] then some 1 else if S.c 2 k ≠ [] then some 2 else if S.c 3 k ≠ [] then some 3 else none
def cellOf (b k i : Nat) : Nat := 512 * b + i * clsWords k
def Al.carved (m : Al) (b k : Nat) : FL := m.fl.carve (fun a => m.used.getD a false) (cellOf b k) k (clsCells k)
def Al.steal (m : Al) (bm : Bm) (mu k : Nat) : AlR :=
 match m.fl.owner k with
 | some i => m.take bm (m.fl.drain i) mu k
 | none => ⟨⟨bm, m.used, m.fl⟩, 0, 4⟩
def Al.roomS (m : Al) (mu k : Nat) : AlR :=
 if (m.fl.cell mu k).isSome then m.take m.bm m.fl mu k
 else if (m.bm.small k).err = 0 then m.take (m.bm.small k).bm (m.carved (m.bm.small k).b.toNat k) mu k
 else if (m.bm.small k).err ≠ 4 then ⟨⟨(m.bm.small k).bm, m.used, m.fl⟩, 0, (m.bm.small k).err⟩
 else m.steal (m.bm.small k).bm mu k
def Al.roomL (m : Al) (n : Nat) : AlR :=
 if (m.bm.large n).err ≠ 0 then ⟨⟨(m.bm.large n).bm, m.used, m.fl⟩, 0, (m.bm.large n).err⟩
 else ⟨⟨(m.bm.large n).bm, m.used, m.fl⟩, 512 * (m.bm.large n).b, 0⟩
def Al.room (m : Al) (mu : Nat) (n : Nat) : AlR := if small n then m.roomS mu (ofN n) else m.roomL (objBlocks n)
def Al.made (m : Al) (a p d : Int) : AlR :=
 if (m.bm.dev.init a p d).err ≠ 0 then ⟨⟨⟨(m.bm.dev.init a p d).dev, m.bm.list, m.bm.free⟩, m.used, m.fl⟩, 0, (m.bm.dev.init a p d).err⟩
 else ⟨⟨⟨(m.bm.dev.init a p d).dev, m.bm.list, m.bm.free⟩, addI m.used a, m.fl⟩, a, 0⟩
def Al.alloc (m : Al) (mu p d : Int) : AlR :=
 if mu < 0 ∨ 4 ≤ mu then ⟨m, 0, 1⟩
 else if objSize p d = 0 ∨ 512 * ((m.bm.list.length : Int) - 1) < (objSize p d : Nat) then ⟨m, 0, 5⟩
 else if (m.room mu.toNat (objSize p d)).err ≠ 0 then ⟨(m.room mu.toNat (objSize p d)).al, 0, (m.room mu.toNat (objSize p d)).err⟩
 else (m.room mu.toNat (objSize p d)).al.made (m.room mu.toNat (objSize p d)).a p d
structure Found (B : Nat) (m : Al) (n : Nat) (r : AlR) (a : Nat) : Prop where
 at_ : r.a = (a : Int)
 err : r.err = 0
 bm : BmOk B r.al.bm
 live : r.al.bm.dev.live
 far : Far B m.bm.dev r.al.bm.dev
 grew : Grew m.bm.list r.al.bm.list
 used : r.al.used = m.used
 new : m.used.getD a false = false
 cells : ∀ k x : Nat, k < 32 → r.al.fl.cnt k x = if isCell r.al.bm.list k x ∧ m.used.getD x false = false ∧ x ≠ a then 1 else 0
 where_ : if small n then isCell r.al.bm.list (ofN (n : Int)) a else (a % 512 = 0 ∧ 512 ≤ a ∧ a < 512 * B ∧ wholeN r.al.bm.list (a / 512) = objBlocks n)
structure NoRoom (m : Al) (n : Nat) : Prop where
 cell : small n → pick 1 (runsOf m.bm.free) = none ∧ ∀ x, m.fl.cnt (ofN (n : Int)) x = 0
 run : ¬ small n → pick (objBlocks n) (runsOf m.bm.free) = none
variable {B : Nat} {m : Al}
theorem AlOk.used_kind (h : AlOk B m) {a : Nat} (hu : m.used.getD a false = true) : 512 ≤ a ∧ a / 512 < B ∧ (m.bm.list.getD (a / 512) default).k ≠ 0 := by
 have hp := h.placed a hu
 obtain ⟨o, ho⟩ := Option.isSome_iff_exists.1 hp
 have hr := placed_room ho
 obtain ⟨p1, p2, p3⟩ := hr.pos
 rw [h.bm.lenL] at p3
 refine ⟨p2, by omega, ?_⟩
 rcases hr with ⟨k, hk, hc, _⟩ | ⟨x, hb, h1, hx, hw, _⟩
 ·rw [isCell_kind hc]; decide
 ·have := wholeN_fits (L := m.bm.list) (b := a / 512) (by omega)
  rw [this.2.1]; decide
theorem take_found (h : AlOk B m) {mu k : Nat} (hmu : mu < 4) (hk : k < 32) {bm : Bm} {f : FL} (hb : BmOk B bm) (hv : bm.dev.live) (hf : Far B m.bm.dev bm.dev) (hg : Grew m.bm.list bm.list)
  (hc : ∀ j x : Nat, j < 32 → f.cnt j x = if isCell bm.list j x ∧ m.used.getD x false = false then 1 else 0) {x : Nat} (hx : f.cell mu k = some x) :
  m.take bm f mu k = ⟨⟨bm, m.used, f.taken mu k⟩, (x : Int), 0⟩ ∧ isCell bm.list k x ∧ m.used.getD x false = false ∧
  ∀ j y : Nat, j < 32 → (f.taken mu k).cnt j y = if isCell bm.list j y ∧ m.used.getD y false = false ∧ y ≠ x then 1 else 0 := by
 have ht := FL.taken_cnt hmu hx
 have h1 := ht k x
 rw [if_pos ⟨rfl, rfl⟩, hc k x hk] at h1
 have hcx : isCell bm.list k x ∧ m.used.getD x false = false := by
  apply Classical.byContradiction
  intro c
  rw [if_neg c] at h1
  omega
 refine ⟨by unfold Al.take; rw [hx]; rfl, hcx.1, hcx.2, fun j y hj => ?_⟩
 have h2 := ht j y
 rw [hc j y hj] at h2
 by_cases e : y = x
 ·subst e
  rw [if_neg (c := isCell bm.list j y ∧ _) (fun c => c.2.2 rfl)]
  by_cases ej : j = k
  ·subst ej
   rw [if_pos hcx, if_pos ⟨rfl, rfl⟩] at h2
   omega
  ·rw [if_neg (c := j = k ∧ y = y) (fun c => ej c.1), if_neg] at h2
   ·omega
   ·rintro ⟨c, _⟩
    have e1 := hcx.1.2.2.1
    rw [c.2.2.1] at e1
    have := congrArg Hd.c e1
    simp at this
    omega
 ·rw [if_neg (c := j = k ∧ y = x) (fun c => e c.2), Nat.add_zero] at h2
  rw [← h2]
  simp only [ne_eq, e, not_false_eq_true, and_true]
theorem carve_c {used : Nat → Bool} {at_ : Nat → Nat} {k : Nat} : ∀ {n : Nat} {S : FL}, (S.carve used at_ k n).c = S.c
 | 0, _ => rfl
 | n + 1, S => by
  unfold FL.carve
  rw [carve_c]
  split
  ·rfl
  ·unfold FL.pushed
   split
   ·rfl
   ·rfl
theorem cellOf_inj {b k : Nat} (hk : k < 32) : ∀ i j, cellOf b k i = cellOf b k j → i = j := by
 intro i j h
 have hp := clsWords_pos (k : Int) (by omega)
 unfold cellOf at h
 have : i * clsWords (k : Int) = j * clsWords (k : Int) := by omega
 exact Nat.eq_of_mul_eq_mul_right (by omega) this
theorem cellOf_at {b k i : Nat} (hk : k < 32) (hi : i < clsCells k) : cellOf b k i / 512 = b ∧ cellOf b k i % 512 = i * clsWords k ∧ (i * clsWords k) % clsWords k = 0 ∧ (i * clsWords k) / clsWords k = i := by
 have hp := clsWords_pos (k : Int) (by omega)
 have h1 : (i * clsWords (k : Int)) % clsWords k = 0 := Nat.mul_mod_left _ _
 have h2 : (i * clsWords (k : Int)) / clsWords k = i := Nat.mul_div_cancel _ (by omega)
 have := cell_in hk h1 (by rw [h2]; exact hi)
 unfold cellOf
 exact ⟨by omega, by omega, h1, h2⟩
theorem isCell_of {L : List Hd} {b k x : Nat} (hk : k < 32) (hb : 1 ≤ b) (hbL : b < L.length) (hL : L.getD b default = ⟨1, k, 0⟩) : isCell L k x ∧ x / 512 = b ↔ ∃ i, i < clsCells k ∧ x = cellOf b k i := by
 constructor
 ·rintro ⟨⟨c1, c2, c3, c4, c5⟩, e⟩
  refine ⟨x % 512 / clsWords k, c5, ?_⟩
  unfold cellOf
  have := Nat.div_add_mod (x % 512) (clsWords k)
  rw [c4, Nat.mul_comm] at this
  omega
 ·rintro ⟨i, hi, rfl⟩
  obtain ⟨e1, e2, e3, e4⟩ := cellOf_at (b := b) hk hi
  exact ⟨⟨by omega, by omega, by rw [e1]; exact hL, by rw [e2]; exact e3, by rw [e2, e4]; exact hi⟩, e1⟩
theorem clsCells_two {k : Nat} (hk : k < 32) : 2 ≤ clsCells k := by
 have h1 := clsWords_pos (k : Int) (by omega)
 have h2 := clsWords_le (k : Int)
 unfold clsCells
 rw [Nat.le_div_iff_mul_le (by omega)]
 omega
theorem carved_cells (h : AlOk B m) {b k : Nat} (hk : k < 32) (hb : 1 ≤ b) (hbB : b < B) (hz : (m.bm.list.getD b default).k = 0) {L : List Hd} (hlen : L.length = B) (hL : ∀ q, L.getD q default = if q = b then ⟨1, k, 0⟩ else m.bm.list.getD q default) :
  ∀ j x : Nat, j < 32 → (m.carved b k).cnt j x = if isCell L j x ∧ m.used.getD x false = false then 1 else 0 := by
 have hno : ∀ x, x / 512 = b → m.used.getD x false = false := by
  intro x hx
  cases hu : m.used.getD x false with
  | false => rfl
  | true => have := (h.used_kind hu).2.2; rw [hx] at this; exact absurd hz this
 have hnc : ∀ j x, x / 512 = b → ¬ isCell m.bm.list j x := fun j x hx c => by
  have := isCell_kind c; rw [hx, hz] at this; cases this
 have hLb : L.getD b default = ⟨1, k, 0⟩ := by rw [hL b, if_pos rfl]
 intro j x hj
 unfold Al.carved
 rw [FL.carve_cnt (cellOf_inj hk) (fun i hi => by
  rw [h.cells k _ hk, if_neg]
  rintro ⟨c, _⟩
  exact hnc k _ (cellOf_at hk hi).1 c) j x, h.cells j x hj]
 by_cases e : x / 512 = b
 ·rw [if_neg (fun c => hnc j x e c.1), Nat.zero_add]
  have key := isCell_of (x := x) hk hb (by rw [hlen]; exact hbB) hLb
  by_cases ej : j = k
  ·subst ej
   by_cases c : ∃ i, i < clsCells j ∧ x = cellOf b j i
   ·rw [if_pos ⟨rfl, hno x e, c⟩, if_pos ⟨(key.2 c).1, hno x e⟩]
   ·rw [if_neg (fun h => c h.2.2), if_neg (fun h => c (key.1 ⟨h.1, e⟩))]
  ·rw [if_neg (fun h => ej h.1), if_neg]
   rintro ⟨⟨_, _, c3, _⟩, _⟩
   rw [e, hLb] at c3
   have := congrArg Hd.c c3
   simp at this
   omega
 ·have hc : isCell L j x ↔ isCell m.bm.list j x := by
   unfold isCell
   rw [hL (x / 512), if_neg e, hlen, h.bm.lenL]
  have hn : ¬ (j = k ∧ m.used.getD x false = false ∧ ∃ i, i < clsCells k ∧ x = cellOf b k i) := by
   rintro ⟨_, _, i, hi, rfl⟩
   exact e (cellOf_at hk hi).1
  rw [if_neg hn, Nat.add_zero]
  simp only [hc]
theorem roomS_found (h : AlOk B m) {mu n : Nat} (hmu : mu < 4) (hs : small n) :
  (∃ a, Found B m n (m.room mu n) a) ∨ (m.room mu n = ⟨m, 0, 4⟩ ∧ NoRoom m n) := by
 have hk := ofN_lt hs
 unfold Al.room
 rw [if_pos hs]
 generalize hke : ofN (n : Int) = k at *
 unfold Al.roomS
 cases hc : m.fl.cell mu k with
 | some x =>
  rw [if_pos (by rfl)]
  obtain ⟨t1, t2, t3, t4⟩ := take_found h hmu hk h.bm h.live (Far.refl _ _) (Grew.refl _) h.cells hc
  rw [t1]
  exact .inl ⟨x, rfl, rfl, h.bm, h.live, Far.refl _ _, Grew.refl _, rfl, t3, t4, by rw [if_pos hs, hke]; exact t2⟩
 | none =>
  rw [if_neg (by simp)]
  rcases small_live h.bm h.live k hk with ⟨e, hp⟩ | ⟨b, s1, s2, s3, s4, s5, s6, s7, s8, s9, s10, s11⟩
  ·rw [e]
   rw [if_neg (by simp), if_neg (by simp)]
   obtain ⟨g0, c0⟩ := FL.cell_none hc
   unfold Al.steal
   cases ho : m.fl.owner k with
   | none =>
    refine .inr ⟨rfl, fun _ => ⟨hp, fun x => ?_⟩, fun h => absurd hs h⟩
    rw [hke]
    unfold FL.owner at ho
    repeat' split at ho
    all_goals try cases ho
    rename_i h0 h1 h2 h3
    simp only [ne_eq, Decidable.not_not] at h0 h1 h2 h3
    unfold FL.cnt
    rw [g0, h0, h1, h2, h3]
    simp
   | some i =>
    have hi : i < 4 ∧ m.fl.c i k ≠ [] := by
     unfold FL.owner at ho
     repeat' split at ho
     all_goals cases ho
     all_goals exact ⟨by omega, by assumption⟩
    have hcd : ∀ j x : Nat, j < 32 → (m.fl.drain i).cnt j x = if isCell m.bm.list j x ∧ m.used.getD x false = false then 1 else 0 := fun j x hj => by
     rw [FL.drain_cnt _ hi.1 hj]; exact h.cells j x hj
    cases hcx : (m.fl.drain i).cell mu k with
    | none =>
     exfalso
     have := (FL.cell_none hcx).1
     unfold FL.drain at this
     dsimp only at this
     rw [if_pos hk] at this
     exact hi.2 (List.append_eq_nil_iff.1 this).2
    | some x =>
     obtain ⟨t1, t2, t3, t4⟩ := take_found h hmu hk h.bm h.live (Far.refl _ _) (Grew.refl _) hcd hcx
     dsimp only
     rw [t1]
     exact .inl ⟨x, rfl, rfl, h.bm, h.live, Far.refl _ _, Grew.refl _, rfl, t3, t4, by rw [if_pos hs, hke]; exact t2⟩
  ·rw [if_pos s2, s1, Int.toNat_natCast]
   have hz := ((h.bm.free b).1 s5).2.2
   have hcd := carved_cells h hk s3 s4 hz s6.lenL s9
   have hg : Grew m.bm.list (m.bm.small (k : Int)).bm.list := ⟨by rw [s6.lenL, h.bm.lenL], fun q hq => by
    rw [s9 q, if_neg]
    intro e
    rw [e] at hq
    exact hq hz⟩
   cases hcx : (m.carved b k).cell mu k with
   | none =>
    exfalso
    obtain ⟨g1, g2⟩ := FL.cell_none hcx
    have hb : isCell (m.bm.small (k : Int)).bm.list k (cellOf b k 0) := ((isCell_of (x := cellOf b k 0) hk s3 (by rw [s6.lenL]; exact s4) (by rw [s9 b, if_pos rfl])).2 ⟨0, by have := clsCells_two hk; omega, rfl⟩).1
    have hu : m.used.getD (cellOf b k 0) false = false := by
     cases hu : m.used.getD (cellOf b k 0) false with
     | false => rfl
     | true =>
      have := (h.used_kind hu).2.2
      rw [(cellOf_at hk (by have := clsCells_two hk; omega)).1] at this
      exact absurd hz this
    have h1 := hcd k (cellOf b k 0) hk
    rw [if_pos ⟨hb, hu⟩] at h1
    have h0 := h.cells k (cellOf b k 0) hk
    rw [if_neg (fun c => by
     have := isCell_kind c.1
     rw [(cellOf_at hk (by have := clsCells_two hk; omega)).1, hz] at this
     cases this)] at h0
    have hce : (m.carved b k).c = m.fl.c := carve_c
    unfold FL.cnt at h1 h0
    rw [g1, hce] at h1
    simp only [List.count_nil] at h1
    omega
   | some x =>
    obtain ⟨t1, t2, t3, t4⟩ := take_found h hmu hk s6 s7 s8 hg hcd hcx
    rw [t1]
    exact .inl ⟨x, rfl, rfl, s6, s7, s8, hg, rfl, t3, t4, by rw [if_pos hs, hke]; exact t2⟩
theorem roomL_found (h : AlOk B m) (hB : B ≤ 200) {mu n : Nat} (hs : ¬ small n) (h1 : 1 ≤ n) (hn : n ≤ 16448) :
  (∃ a, Found B m n (m.room mu n) a) ∨ (m.room mu n = ⟨m, 0, 4⟩ ∧ NoRoom m n) := by
 unfold Al.room
 rw [if_neg hs]
 have hnb : 1 ≤ objBlocks n ∧ objBlocks n < 256 := by
  unfold objBlocks
  rw [if_neg hs]
  omega
 unfold Al.roomL
 rcases large_live h.bm h.live (objBlocks n) hnb.1 hnb.2 with ⟨e, hp⟩ | ⟨b, s1, s2, s3, s4, s5, s6, s7, s8, s9, s10, s11⟩
 ·rw [e, if_pos (by simp)]
  exact .inr ⟨rfl, fun h => absurd h hs, fun _ => hp⟩
 ·rw [if_neg (by rw [s2]; simp), s1]
  have hfk : ∀ q, b ≤ q → q < b + objBlocks n → (m.bm.list.getD q default).k = 0 := fun q h1 h2 => ((h.bm.free q).1 (s5 q h1 h2)).2.2
  have hg : Grew m.bm.list (m.bm.large (objBlocks n : Nat)).bm.list := ⟨by rw [s6.lenL, h.bm.lenL], fun q hq => by
   rw [s9 q, if_neg, if_neg]
   ·intro c; exact hq (hfk q c.1 c.2)
   ·intro e; exact hq (hfk q (by omega) (by omega))⟩
  have hLb := s9 b
  rw [if_pos rfl] at hLb
  refine .inl ⟨512 * b, by dsimp only; omega, rfl, s6, s7, s8, hg, rfl, ?_, fun k x hk => ?_, ?_⟩
  ·cases hu : m.used.getD (512 * b) false with
   | false => rfl
   | true =>
    have := (h.used_kind hu).2.2
    rw [show 512 * b / 512 = b by omega] at this
    exact absurd (hfk b (Nat.le_refl _) (by omega)) this
  ·dsimp only
   rw [h.cells k x hk]
   have hc : isCell (m.bm.large (objBlocks n : Nat)).bm.list k x ↔ isCell m.bm.list k x := by
    constructor
    ·intro c
     have c3 := c.2.2.1
     rw [s9 (x / 512)] at c3
     by_cases e : x / 512 = b
     ·rw [if_pos e] at c3; exact absurd (congrArg Hd.k c3) (by simp)
     ·rw [if_neg e] at c3
      by_cases e2 : b ≤ x / 512 ∧ x / 512 < b + objBlocks n
      ·rw [if_pos e2] at c3; exact absurd (congrArg Hd.k c3) (by simp)
      ·rw [if_neg e2] at c3
       obtain ⟨c1, c2, _, c4, c5⟩ := c
       exact ⟨c1, by rw [← hg.len]; exact c2, c3, c4, c5⟩
    ·exact hg.cell
   simp only [hc]
   by_cases e : x = 512 * b
   ·subst e
    have : ¬ isCell m.bm.list k (512 * b) := fun c => by
     have := isCell_kind c
     rw [show 512 * b / 512 = b by omega, hfk b (Nat.le_refl _) (by omega)] at this
     cases this
    rw [if_neg (fun c => this c.1), if_neg (fun c => this c.1)]
   ·simp only [e, ne_eq, not_false_eq_true, and_true]
  ·rw [if_neg hs]
   refine ⟨by omega, by omega, by omega, ?_⟩
   rw [show 512 * b / 512 = b by omega]
   refine wholeN_of hnb.1 hLb (by rw [s6.lenL]; omega) fun i i1 i2 => ?_
   rw [s9 (b + i), if_neg (by omega), if_pos (by omega), show b + i - b = i by omega]
theorem store_dirty {S : Dev} (i : Nat) (x l : Nat) (h : l ≠ i / 8) : (S.store (i : Int) x).dirty.getD l false = S.dirty.getD l false := by
 obtain ⟨_, _, _, e4, _⟩ := S.step_rest
 unfold Dev.store
 split
 ·rfl
 ·split
  ·rw [e4]
  ·show (S.step.dirty.set ((i : Int).toNat / 8) true).getD l false = _
   rw [e4, List.getD_eq_getElem?_getD, List.getElem?_set_ne (by rw [Int.toNat_natCast]; exact fun e => h e.symm), ← List.getD_eq_getElem?_getD]
theorem zeroTo_dirty {S : Dev} (a l : Nat) (h : l < a / 8) : ∀ k, (zeroTo S a k).dev.dirty.getD l false = S.dirty.getD l false
 | 0 => rfl
 | k + 1 => by
  unfold zeroTo
  split
  ·exact zeroTo_dirty a l h k
  ·dsimp only
   rw [store_dirty _ _ _ (by omega)]
   exact zeroTo_dirty a l h k
theorem init_rest {S : Dev} (h : S.live) (hi : S.inv) (a : Nat) (p d : Int) (hs : objSize p d ≠ 0) (hf : a + objSize p d ≤ S.cache.length) :
  (S.init a p d).dev.cache.length = S.cache.length ∧ (∀ j, ¬ (a ≤ j ∧ j < a + objSize p d) → (S.init a p d).dev.cache.getD j 0 = S.cache.getD j 0) ∧ ∀ l, l < a / 8 → (S.init a p d).dev.dirty.getD l false = S.dirty.getD l false := by
 have hE : S.init a p d = S.initN a (objSize p d) (oencN a p d) := by unfold Dev.init; rw [if_neg hs, if_neg (by omega)]; rfl
 rw [hE]
 obtain ⟨i1, i2, i3, i4, i5⟩ := zeroTo_live h hi a (objSize p d - 1) (by omega)
 have hI : S.initN a (objSize p d) (oencN a p d) = ⟨(zeroTo S a (objSize p d - 1)).dev.store (a : Int) (oencN a p d), (zeroTo S a (objSize p d - 1)).dev.storeE (a : Int)⟩ := by unfold Dev.initN; rw [if_neg (by rw [i1]; simp)]
 rw [hI]
 have hzd := fun l hl => zeroTo_dirty (S := S) a l hl (objSize p d - 1)
 generalize (zeroTo S a (objSize p d - 1)).dev = T at *
 obtain ⟨s1, s2⟩ := i2.store_ok a (oencN (a : Int) p d) (by omega)
 refine ⟨by dsimp only; rw [s2]; simp [i4], fun j hj => ?_, fun l hl => ?_⟩
 ·dsimp only
  rw [s2, getD_setN _ _ _ _ (by omega), if_neg (by omega), i5 j, if_neg (by omega)]
 ·dsimp only
  rw [store_dirty _ _ _ (by omega)]; exact hzd l hl
theorem BmOk.words {B : Nat} {m : Bm} (h : BmOk B m) (hB : B ≤ 200) {T : Dev} (hi : T.inv) (hl : T.cache.length = m.dev.cache.length) (hw : ∀ j, j < 512 → T.cache.getD j 0 = m.dev.cache.getD j 0) (hd : ∀ l, l < 64 → T.dirty.getD l false = m.dev.dirty.getD l false) : BmOk B ⟨T, m.list, m.free⟩ := by
 refine ⟨h.lenL, h.lenF, ⟨hi, by rw [hl]; exact h.clean.fits, fun b h1 h2 => ?_⟩, h.right, fun b h1 h2 => ?_, h.free, h.large⟩
 ·rw [hd _ (by omega)]; exact h.clean.clean b h1 h2
 ·dsimp only
  rw [hw _ (by omega)]; exact h.word b h1 h2
structure Made (B : Nat) (m m' : Al) (a : Nat) (p d : Int) : Prop where
 ok : AlOk B m'
 new : m.used.getD a false = false
 used : m'.used = m.used.set a true
 lo : 512 ≤ a
 placed : placedN m'.bm.dev m'.bm.list (a : Int) = some ⟨p, d, 0⟩
 size : objSize p d ≠ 0
 zero : ∀ i, 1 ≤ i → i < objSize p d → m'.bm.dev.cache.getD (a + i) 0 = 0
 old : ∀ j, 512 ≤ j → ¬ (a ≤ j ∧ j < a + objSize p d) → m'.bm.dev.cache.getD j 0 = m.bm.dev.cache.getD j 0
 grew : Grew m.bm.list m'.bm.list
variable {B : Nat} {m : Al}
theorem addI_new {l : List Bool} {a : Nat} (ha : a < l.length) (h : l.getD a false = false) : addI l (a : Int) = l.set a true := by
 unfold addI freshI
 rw [hasI_nat, h, if_pos]
 ·rfl
 ·simp; omega
theorem Found.apart {n a : Nat} {r : AlR} (h : AlOk B m) (hB : B ≤ 200) (hf : Found B m n r a) {L : List Hd} (hL : L = r.al.bm.list) {k : Nat} (hn : n ≤ k) (hr : RoomAt L a k) {x : Nat} (hu : m.used.getD x false = true) : x < a ∨ a + n ≤ x := by
 subst hL
 obtain ⟨o, ho⟩ := Option.isSome_iff_exists.1 (h.placed x hu)
 have hx := placed_room (placed_keep ho hf.far.len (hf.far.word x (by have := (h.used_kind hu).1; omega)) hf.grew)
 by_cases e : x < a
 ·exact .inl e
 ·by_cases e2 : x = a
  ·subst e2; rw [hf.new] at hu; cases hu
  ·have := hr.apart hx (by omega)
   omega
theorem Found.room {n a : Nat} {r : AlR} (h : AlOk B m) (hf : Found B m n r a) (hn : n ≠ 0) : ∃ k, n ≤ k ∧ RoomAt r.al.bm.list a k := by
 have hw := hf.where_
 by_cases hs : small n
 ·rw [if_pos hs] at hw
  exact ⟨_, ofN_fits hs, .cell _ (ofN_lt hs) hw rfl⟩
 ·rw [if_neg hs] at hw
  obtain ⟨h1, h2, h3, h4⟩ := hw
  refine ⟨512 * objBlocks n, ?_, .run _ h1 h2 ?_ h4 rfl⟩
  ·unfold objBlocks; rw [if_neg hs]; omega
  ·unfold objBlocks; rw [if_neg hs]; omega
theorem made_done (h : AlOk B m) (hB : B ≤ 200) {a : Nat} {p d : Int} {r : AlR} (hs : objSize p d ≠ 0) (hf : Found B m (objSize p d) r a) :
  ∃ m', r.al.made r.a p d = ⟨m', (a : Int), 0⟩ ∧ Made B m m' a p d := by
 obtain ⟨rm, hrk, hra⟩ := hf.room h hs
 obtain ⟨q1, q2, q3⟩ := hra.pos
 have hlenL := hf.bm.lenL
 rw [hlenL] at q3
 have hlen : r.al.bm.dev.cache.length = 512 * B := by rw [hf.far.len, h.len]
 have hinv := hf.bm.clean.inv
 obtain ⟨k1, k2⟩ := init_kept hf.live hinv a p d hs (by omega)
 obtain ⟨r1, r2, r3⟩ := init_rest hf.live hinv a p d hs (by omega)
 have hha := hf.at_
 have hnew := hf.new
 have hadd : addI r.al.used (a : Int) = m.used.set a true := by rw [hf.used]; exact addI_new (by rw [h.lenU]; omega) hnew
 refine ⟨⟨⟨(r.al.bm.dev.init a p d).dev, r.al.bm.list, r.al.bm.free⟩, m.used.set a true, r.al.fl⟩, ?_, ?_⟩
 ·unfold Al.made
  rw [hha, if_neg (by rw [k1]; simp), hadd]
 have hbm := hf.bm.words hB k2.inv r1 (fun j hj => r2 j (by omega)) (fun l hl => r3 l (by omega))
 have hhd := k2.headN
 have hpl : placedN (r.al.bm.dev.init a p d).dev r.al.bm.list (a : Int) = some ⟨p, d, 0⟩ := by
  unfold placedN
  rw [hhd, hlenL, if_neg (by dsimp only; omega)]
  dsimp only
  have hw := hf.where_
  by_cases hsm : small (objSize p d)
  ·rw [if_pos hsm] at hw
   rw [if_pos hsm, if_pos (by rw [Int.toNat_natCast]; exact hw)]
  ·rw [if_neg hsm] at hw
   rw [if_neg hsm, if_pos (by rw [Int.toNat_natCast]; exact ⟨hw.1, hw.2.2.2⟩)]
 have hgd : ∀ x, (m.used.set a true).getD x false = if x = a then true else m.used.getD x false := fun x => getD_set_bool _ _ _ _ (by rw [h.lenU]; omega)
 refine ⟨⟨hbm, k2.live, by dsimp only; rw [r1, hlen], by simp [h.lenU], fun x hx => ?_, fun k x hk => ?_⟩, hnew, rfl, q2, hpl, hs, fun i i1 i2 => ?_, fun j j1 j2 => ?_, hf.grew⟩
 ·dsimp only at hx ⊢
  rw [hgd] at hx
  by_cases e : x = a
  ·subst e; rw [hpl]; rfl
  ·rw [if_neg e] at hx
   obtain ⟨o, ho⟩ := Option.isSome_iff_exists.1 (h.placed x hx)
   have hap := hf.apart h hB rfl hrk hra hx
   have hx5 := h.used_kind hx
   have := placed_keep (T := (r.al.bm.dev.init a p d).dev) ho (by rw [r1, hlen, h.len]) (by rw [r2 x (by omega), hf.far.word x (by omega)]) hf.grew
   rw [this]; rfl
 ·dsimp only
  rw [hf.cells k x hk, hgd]
  by_cases e : x = a
  ·subst e; simp
  ·simp [e]
 ·have := k2.words (i - 1) (by simp; omega)
  dsimp only
  rw [show a + 1 + (i - 1) = a + i by omega] at this
  rw [this]
  simp only [List.getD_eq_getElem?_getD, List.getElem?_replicate]
  split <;> rfl
 ·dsimp only
  rw [r2 j j2, hf.far.word j (by omega)]
theorem alloc_done (h : AlOk B m) (hB : B ≤ 200) {mu p d : Int} (h0 : 0 ≤ mu) (h4 : mu < 4) (hs : objSize p d ≠ 0) (hm : (objSize p d : Int) ≤ 512 * ((B : Int) - 1)) :
  (∃ m' a, m.alloc mu p d = ⟨m', ((a : Nat) : Int), 0⟩ ∧ Made B m m' a p d) ∨ (m.alloc mu p d = ⟨m, 0, 4⟩ ∧ NoRoom m (objSize p d)) := by
 unfold Al.alloc
 rw [if_neg (by omega), h.bm.lenL, if_neg (by omega)]
 have hr : (∃ a, Found B m (objSize p d) (m.room mu.toNat (objSize p d)) a) ∨ (m.room mu.toNat (objSize p d) = ⟨m, 0, 4⟩ ∧ NoRoom m (objSize p d)) := by
  by_cases hsm : small (objSize p d)
  ·exact roomS_found h (by omega) hsm
  ·exact roomL_found h hB hsm (by omega) (objSize_le _ _)
 rcases hr with ⟨a, hf⟩ | ⟨e, hn⟩
 ·left
  rw [if_neg (by rw [hf.err]; simp)]
  obtain ⟨m', e, hm'⟩ := made_done h hB hs hf
  exact ⟨m', a, e, hm'⟩
 ·right
  rw [e, if_pos (by simp)]
  exact ⟨rfl, hn⟩
theorem Made.others {m' : Al} {a : Nat} {p d : Int} (h : AlOk B m) (hm : Made B m m' a p d) {x : Nat} (hu : m.used.getD x false = true) : m'.used.getD x false = true ∧ placedN m'.bm.dev m'.bm.list (x : Int) = placedN m.bm.dev m.bm.list (x : Int) := by
 have hxa : x ≠ a := fun e => by subst e; rw [hm.new] at hu; cases hu
 have hal : a < m.used.length := by
  have h1 := placed_room hm.placed
  have := h1.pos.2.2
  rw [hm.ok.bm.lenL] at this
  have := h1.pos.1
  rw [h.lenU]; omega
 have hux : m'.used.getD x false = true := by rw [hm.used, getD_set_bool _ _ _ _ hal, if_neg hxa]; exact hu
 refine ⟨hux, ?_⟩
 obtain ⟨o, ho⟩ := Option.isSome_iff_exists.1 (h.placed x hu)
 obtain ⟨o', ho'⟩ := Option.isSome_iff_exists.1 (hm.ok.placed x hux)
 have r1 := placed_room ho'
 have r2 := placed_room hm.placed
 have hf := room_fits hm.size
 have hap : x < a ∨ a + objSize p d ≤ x := by
  by_cases e : x < a
  ·exact .inl e
  ·have := r2.apart r1 (by omega)
   dsimp only at this
   omega
 have := placed_keep (T := m'.bm.dev) (L' := m'.bm.list) ho (by rw [hm.ok.len, h.len]) (hm.old x (h.used_kind hu).1 (by omega)) hm.grew
 rw [ho, this]
end Go.Proofs.YtpopbfagliagnaaGreat
namespace Go.Proofs.YtpopbfagliagnaaGreat
open Go.RowKit
def blockOf (B a : Int) : Int := if a < 0 ∨ B * 512 ≤ a then -1 else a / 512
set_option maxHeartbeats 1000000 in
theorem gblockOf_any (B : Nat) (hB : B ≤ 1000) (a : Int) (w : World) : Calls Tryz.prog 169 #[vgeom (B : Int), .int .i64 a] w fun e w' => e = .returned (.int .i64 (blockOf (B : Int) a)) ∧ Below w.heap.size w w' := by
 have HB := LH (below_alloc w (Obj.cells #[.int .i64 (B : Int)] 44))
 have c0 : (w.alloc (Obj.cells #[.int .i64 (B : Int)] 44)).cell? ⟨w.heap.size, 0, none⟩ = some (.int .i64 (B : Int)) := cell_alloc_new _ _ _ 0 _ rfl
 by_cases h1 : a < 0
 ·have HE : Hid (blockOf (B : Int) a = -1) := LH (by unfold blockOf; rw [if_pos (.inl h1)])
  go_enter Tryz.func169, Tryz.ntmps169
  go_wp2_with fail
  go_ret
  exact ⟨ret_int HE.out.symm, HB.out⟩
 by_cases h2 : (B : Int) * 512 ≤ a
 ·have HE : Hid (blockOf (B : Int) a = -1) := LH (by unfold blockOf; rw [if_pos (.inr h2)])
  go_enter Tryz.func169, Tryz.ntmps169
  go_wp2_with fail
  refine (gwords_any _ _ (by omega) (by omega)).mono ?_
  rintro e w1 ⟨rfl, hb1⟩
  have HB1 := LH (HB.out.trans (hb1.mono HB.out.size))
  clear hb1
  go_wp2_with fail
  go_ret
  exact ⟨ret_int HE.out.symm, HB1.out⟩
 have HE : Hid (blockOf (B : Int) a = a / 512) := LH (by unfold blockOf; rw [if_neg (by omega)])
 have h3 : 0 ≤ a := by omega
 have h4 : a < (B : Int) * 512 := by omega
 go_enter Tryz.func169, Tryz.ntmps169
 go_wp2_with fail
 refine (gwords_any _ _ (by omega) (by omega)).mono ?_
 rintro e w1 ⟨rfl, hb1⟩
 have HB1 := LH (HB.out.trans (hb1.mono HB.out.size))
 clear hb1
 go_wp2_with fail
 go_ret
 exact ⟨ret_int HE.out.symm, HB1.out⟩
def firstOf (B b : Int) : Int := if b < 0 ∨ B ≤ b then -1 else b * 512
set_option maxHeartbeats 1000000 in
theorem gfirst_any (B : Nat) (hB : B ≤ 1000) (b : Int) (w : World) : Calls Tryz.prog 185 #[vgeom (B : Int), .int .i64 b] w fun e w' => e = .returned (.int .i64 (firstOf (B : Int) b)) ∧ Below w.heap.size w w' := by
 by_cases h1 : b < 0
 ·have HE : Hid (firstOf (B : Int) b = -1) := LH (by unfold firstOf; rw [if_pos (.inl h1)])
  go_enter Tryz.func185, Tryz.ntmps185
  go_wp2_with fail
  go_ret
  exact ⟨ret_int HE.out.symm, below_alloc _ _⟩
 by_cases h2 : (B : Int) ≤ b
 ·have HE : Hid (firstOf (B : Int) b = -1) := LH (by unfold firstOf; rw [if_pos (.inr h2)])
  go_enter Tryz.func185, Tryz.ntmps185
  go_wp2_with fail
  go_ret
  exact ⟨ret_int HE.out.symm, below_alloc _ _⟩
 have HE : Hid (firstOf (B : Int) b = b * 512) := LH (by unfold firstOf; rw [if_neg (by omega)])
 have h3 : 0 ≤ b := by omega
 have h4 : b < (B : Int) := by omega
 go_enter Tryz.func185, Tryz.ntmps185
 go_wp2_with fail
 go_ret
 exact ⟨ret_int HE.out.symm, below_alloc _ _⟩
set_option maxHeartbeats 1000000 in
theorem gdata_any (B : Nat) (hB : B ≤ 1000) (a : Int) (w : World) : Calls Tryz.prog 260 #[vgeom (B : Int), .int .i64 a] w fun e w' => e = .returned (.bool (decide (1 ≤ blockOf (B : Int) a))) ∧ Below w.heap.size w w' := by
 have HB := LH (below_alloc w (Obj.cells #[.int .i64 (B : Int)] 44))
 go_enter Tryz.func260, Tryz.ntmps260
 go_wp2_with fail
 refine (gblockOf_any B hB a _).mono ?_
 rintro e w1 ⟨rfl, hb1⟩
 have HB1 := LH (HB.out.trans (hb1.mono HB.out.size))
 clear hb1
 go_wp2_with fail
 go_ret
 exact ⟨rfl, HB1.out⟩
set_option maxHeartbeats 1000000 in
theorem gmost_any (B : Nat) (hB1 : 1 ≤ B) (hB : B ≤ 1000) (w : World) : Calls Tryz.prog 232 #[vgeom (B : Int)] w fun e w' => e = .returned (.int .i64 (((B : Int) - 1) * 512)) ∧ Below w.heap.size w w' := by
 by_cases hB2 : B = 1
 ·subst hB2
  go_enter Tryz.func232, Tryz.ntmps232
  go_wp2_with fail
  go_ret
  exact ⟨rfl, below_alloc _ _⟩
 ·have h3 : 2 ≤ B := by omega
  have h1 : max (0 : Int) ((B : Int) - 1) = (B : Int) - 1 := by omega
  have h2 : (if (0 : Int) < (B : Int) - 1 then (B : Int) - 1 else 0) = (B : Int) - 1 := by split <;> omega
  go_enter Tryz.func232, Tryz.ntmps232
  go_wp2_with fail
  go_ret
  exact ⟨rfl, below_alloc _ _⟩
def cellAt (B k b i : Int) : Int :=
 if ¬ (0 ≤ k ∧ k < 32) ∨ b < 1 ∨ B ≤ b ∨ i < 0 ∨ (clsCells k : Int) ≤ i then -1 else b * 512 + i * (clsWords k : Int)
set_option maxHeartbeats 4000000 in
set_option maxRecDepth 20000 in
theorem caddr_any (B : Nat) (hB : B ≤ 1000) (k b i : Int) (w : World) : Calls Tryz.prog 262 #[vgeom (B : Int), .int .i64 k, .agg #[.int .i64 b, .int .i64 i]] w fun e w' => e = .returned (.int .i64 (cellAt (B : Int) k b i)) ∧ Below w.heap.size w w' := by
 have HM := LH (Mem.two w #[.int .i64 (B : Int)] 44 #[.int .i64 b, .int .i64 i] 289)
 have HP : Hid (∀ (x : Int) (w' : World), x = cellAt (B : Int) k b i → Below w.heap.size w w' → (fun e w' => e = Ending.returned (.int .i64 (cellAt (B : Int) k b i)) ∧ Below w.heap.size w w') (.returned (.int .i64 x)) w') := LH (fun x w' h1 h2 => by subst h1; exact ⟨rfl, h2⟩)
 generalize (fun e w' => e = Ending.returned (.int .i64 (cellAt (B : Int) k b i)) ∧ Below w.heap.size w w') = Post at *
 have HC : Hid (cellAt (B : Int) k b i = if ¬ (0 ≤ k ∧ k < 32) ∨ b < 1 ∨ (B : Int) ≤ b ∨ i < 0 ∨ (clsCells k : Int) ≤ i then -1 else b * 512 + i * (clsWords k : Int)) := LH rfl
 have hcl : clsCells k ≤ 512 := Nat.div_le_self _ _
 have hwl := clsWords_le k
 generalize cellAt (B : Int) k b i = x at *
 go_enter Tryz.func262, Tryz.ntmps262
 go_upto_region 1 with fail
 generalize (w.alloc _).alloc _ = w0 at *
 obtain ⟨q, hq⟩ : ∃ q, q = w.heap.size := ⟨_, rfl⟩
 rw [← hq] at HM ⊢
 clear hq
 have c0 := HM.out.cell 0 0 rfl rfl
 have c1 := HM.out.cell 1 0 rfl rfl
 have c2 := HM.out.cell 1 1 rfl rfl
 have r0 := fun x => later_cell c0 x
 have r1 := fun x => later_cell c1 x
 have r2 := fun x => later_cell c2 x
 have hpos := fun h => clsWords_pos k h
 by_cases hk : 0 ≤ k ∧ k < 32
 case neg =>
  have HE : Hid (-1 = x) := LH (by rw [HC.out, if_pos (.inl hk)])
  have HK : Hid (decide (0 ≤ k ∧ k < 32) = false) := LH (by simpa using hk)
  have HR : Hid (∀ x : Later w0, Calls Tryz.prog 220 #[.int .i64 k] x.val fun e w' => e = .returned (.bool false) ∧ Below x.val.heap.size x.val w') := LH (fun x => (cright_any k x.val).mono (by rintro e w' ⟨rfl, rfl⟩; rw [HK.out]; exact ⟨rfl, Below.refl _ _⟩))
  clear hk hpos
  refine wp_region_later (by kernel_rfl) (by kernel_rfl) ?_
  repeat (quiet_step ((rename_i x; exact calls_later (HR.out x))))
  refine wpQuiet_nil ?_
  rintro w5 ⟨x5, hx5⟩
  have HM5 := LH (HM.out.later (W' := w5) (by rw [hx5]; exact x5.below))
  clear hx5 c0 c1 c2 r0 r1 r2 HM
  go_wp2_with fail
  exact HP.out _ _ HE.out HM5.out.below
 have HR : Hid (∀ x : Later w0, Calls Tryz.prog 220 #[.int .i64 k] x.val fun e w' => e = .returned (.bool true) ∧ Below x.val.heap.size x.val w') := LH (fun x => (cright_any k x.val).mono (by rintro e w' ⟨rfl, rfl⟩; rw [decide_eq_true hk]; exact ⟨rfl, Below.refl _ _⟩))
 have hp2 := hpos hk
 clear hpos
 by_cases hout : b < 1 ∨ (B : Int) ≤ b ∨ i < 0
 ·have HE : Hid (-1 = x) := LH (by rw [HC.out, if_pos (by rcases hout with h | h | h; exact .inr (.inl h); exact .inr (.inr (.inl h)); exact .inr (.inr (.inr (.inl h))))])
  have hc : b < 1 ∨ (1 ≤ b ∧ (B : Int) ≤ b) ∨ (1 ≤ b ∧ b < (B : Int) ∧ i < 0) := by omega
  clear hout hk
  rcases hc with h1 | ⟨h1, h2⟩ | ⟨h1, h2, h3⟩
  all_goals
   refine wp_region_later (by kernel_rfl) (by kernel_rfl) ?_
   repeat (quiet_step ((rename_i x; exact calls_later (HR.out x))))
   refine wpQuiet_nil ?_
   rintro w5 ⟨x5, hx5⟩
   have HM5 := LH (HM.out.later (W' := w5) (by rw [hx5]; exact x5.below))
   clear hx5 c0 c1 c2 r0 r1 r2 HM
   go_wp2_with fail
   exact HP.out _ _ HE.out HM5.out.below
 have h1 : 1 ≤ b := by omega
 have h2 : b < (B : Int) := by omega
 have h3 : 0 ≤ i := by omega
 clear hout
 obtain ⟨cn, hcn⟩ : ∃ cn, cn = clsCells k := ⟨_, rfl⟩
 have HCl : Hid (∀ x : Later w0, Calls Tryz.prog 279 #[.int .i64 k] x.val fun e w' => e = .returned (.int .i64 (cn : Int)) ∧ Below x.val.heap.size x.val w') := LH (fun x => by rw [hcn]; exact ccells_any k x.val)
 rw [← hcn] at HC hcl
 clear hcn
 by_cases h4 : (cn : Int) ≤ i
 ·have HE : Hid (-1 = x) := LH (by rw [HC.out, if_pos (.inr (.inr (.inr (.inr h4))))])
  clear hk
  refine wp_region_later (by kernel_rfl) (by kernel_rfl) ?_
  repeat (quiet_step ((rename_i x; first | (go_at_call 220; exact calls_later (HR.out x)) | (go_at_call 279; exact calls_later (HCl.out x)))))
  refine wpQuiet_nil ?_
  rintro w5 ⟨x5, hx5⟩
  have HM5 := LH (HM.out.later (W' := w5) (by rw [hx5]; exact x5.below))
  clear hx5 c0 c1 c2 r0 r1 r2 HM
  go_wp2_with fail
  exact HP.out _ _ HE.out HM5.out.below
 ·have h5 : i < (cn : Int) := by omega
  have HE : Hid (x = b * 512 + i * (clsWords k : Int)) := LH (by rw [HC.out, if_neg (by rintro (h | h | h | h | h); exact h hk; omega; omega; omega; exact h4 h)])
  clear h4
  refine wp_region_later (by kernel_rfl) (by kernel_rfl) ?_
  repeat (quiet_step ((rename_i x; first | (go_at_call 220; exact calls_later (HR.out x)) | (go_at_call 279; exact calls_later (HCl.out x)))))
  refine wpQuiet_nil ?_
  rintro w5 ⟨x5, hx5⟩
  have HM5 := LH (HM.out.later (W' := w5) (by rw [hx5]; exact x5.below))
  clear hx5 c0 c1 c2 r0 r1 r2 HM
  go_wp2_with fail
  have c0 := HM5.out.cell 0 0 rfl rfl
  have c1 := HM5.out.cell 1 0 rfl rfl
  have c2 := HM5.out.cell 1 1 rfl rfl
  have r0 := fun x => later_cell c0 x
  have r1 := fun x => later_cell c1 x
  have r2 := fun x => later_cell c2 x
  obtain ⟨wn, hwn⟩ : ∃ wn, wn = clsWords k := ⟨_, rfl⟩
  have HFi : Hid (∀ x : Later w5, Calls Tryz.prog 185 #[vgeom (B : Int), .int .i64 b] x.val fun e w' => e = .returned (.int .i64 (b * 512)) ∧ Below x.val.heap.size x.val w') := LH (fun x => by
   have := gfirst_any B hB b x.val
   rw [show firstOf (B : Int) b = b * 512 by unfold firstOf; rw [if_neg (by omega)]] at this
   exact this)
  have HWo : Hid (∀ x : Later w5, Calls Tryz.prog 261 #[.int .i64 k] x.val fun e w' => e = .returned (.int .i64 (wn : Int)) ∧ Below x.val.heap.size x.val w') := LH (fun x => by rw [hwn]; exact cwords_any k x.val)
  rw [← hwn] at HE hwl hp2
  have hm1 : 0 ≤ i * (wn : Int) := Int.mul_nonneg h3 (by omega)
  have hm2 : i * (wn : Int) ≤ 512 * 256 := Int.mul_le_mul (by omega) (by omega) (by omega) (by omega)
  clear hwn hk
  refine wp_region_later (by kernel_rfl) (by kernel_rfl) ?_
  repeat (quiet_step ((rename_i x; first | (go_at_call 185; exact calls_later (HFi.out x)) | (go_at_call 261; exact calls_later (HWo.out x)))))
  refine wpQuiet_nil ?_
  rintro w6 ⟨x6, hx6⟩
  have HM6 := LH (HM5.out.later (W' := w6) (by rw [hx6]; exact x6.below))
  clear hx6 c0 c1 c2 r0 r1 r2 HM5
  go_wp2_with fail
  have e1 : IntKind.i64.wrap (i * (wn : Int)) = i * (wn : Int) := IntWalk.i64_in _ (by omega)
  have e2 : IntKind.i64.wrap (b * 512 + i * (wn : Int)) = b * 512 + i * (wn : Int) := IntWalk.i64_in _ (by omega)
  refine HP.out _ _ ?_ HM6.out.below
  rw [e1, e2, HE.out]
end Go.Proofs.YtpopbfagliagnaaGreat
namespace Go.Proofs.YtpopbfagliagnaaGreat
open Go.RowKit Go.Maps
def AF.re (A : AF) (R : List Nat) : AF := { A with R := R }
def AlGo (w w' : World) (A : AF) (n B : Nat) (m : Al) : Prop := ∃ R', AlAt w' (A.re R') n B m ∧ Touch A.hot w w' ∧ ∀ b ∈ R', b ∈ A.R ∨ w.heap.size ≤ b
theorem AlGo.refl {w : World} {A : AF} {n B : Nat} {m : Al} (h : AlAt w A n B m) : AlGo w w A n B m := ⟨A.R, h, Touch.refl _ _, fun _ h => .inl h⟩
theorem AlGo.later {w w1 w2 : World} {A : AF} {n B : Nat} {m : Al} (h : AlGo w w1 A n B m) (hb : Below w1.heap.size w1 w2) : AlGo w w2 A n B m := by
 obtain ⟨R', h1, h2, h3⟩ := h
 exact ⟨R', h1.below hb, h2.later hb, h3⟩
theorem AlGo.ahead {w w0 w1 : World} {A : AF} {n B : Nat} {m : Al} (hb : Below w.heap.size w w0) (h : AlGo w0 w1 A n B m) : AlGo w w1 A n B m := by
 obtain ⟨R', h1, h2, h3⟩ := h
 exact ⟨R', h1, (Touch.ofBelow hb).trans h2, fun b hb' => (h3 b hb').imp id (fun c => Nat.le_trans hb.size c)⟩
theorem AlAt.mono {w : World} {A : AF} {n n' B : Nat} {m : Al} (h : AlAt w A n B m) (hn : n ≤ n') : AlAt w A n' B m := { h with man := h.man.mono hn, free := h.free.mono hn }
theorem AlGo.mono {w w1 : World} {A : AF} {n n' B : Nat} {m : Al} (h : AlGo w w1 A n B m) (hn : n ≤ n') : AlGo w w1 A n' B m := by
 obtain ⟨R', h1, h2, h3⟩ := h
 exact ⟨R', h1.mono hn, h2, h3⟩
theorem AF.re_hot {A : AF} {R : List Nat} {w : World} (hR : ∀ b ∈ R, b ∈ A.R ∨ w.heap.size ≤ b) : ∀ b ∈ (A.re R).hot, w.heap.size ≤ b ∨ b ∈ A.hot := by
 intro b hb
 simp only [AF.hot, AF.re, List.mem_append] at hb ⊢
 rcases hb with hb | hb | hb
 ·exact .inr (.inl hb)
 ·exact .inr (.inr (.inl hb))
 ·exact (hR b hb).symm.imp id (fun c => .inr (.inr c))
theorem AlGo.trans {w w1 w2 : World} {A : AF} {R1 : List Nat} {n B : Nat} {m : Al} (h1 : Touch A.hot w w1) (h2 : ∀ b ∈ R1, b ∈ A.R ∨ w.heap.size ≤ b) (h : AlGo w1 w2 (A.re R1) n B m) : AlGo w w2 A n B m := by
 obtain ⟨R', g1, g2, g3⟩ := h
 refine ⟨R', g1, h1.own g2 (fun b hb => AF.re_hot h2 b hb), fun b hb => ?_⟩
 rcases g3 b hb with c | c
 ·exact h2 b c
 ·exact .inr (Nat.le_trans h1.size c)
theorem AlAt.fixlt {w : World} {A : AF} {n B : Nat} {m : Al} (h : AlAt w A n B m) {k : Nat} (hk : k ∈ A.fix) : k < w.heap.size := h.mem k (by simp [AF.list, hk])
theorem AlAt.setFree {w w' : World} {A : AF} {n n' B : Nat} {m : Al} {S : FL} (h : AlAt w A n B m) (hn : n ≤ n') (hg : FreeGo w w' A.f A.mb n' A.R S) : AlGo w w' A n' B ⟨m.bm, m.used, S⟩ := by
 obtain ⟨R', g1, g2, g3⟩ := hg
 have hk : ∀ k ∈ A.fix, w'.heap[k]? = w.heap[k]? := fun k hk => g2.block k (h.fixlt hk) (fun hm => h.nR k hm hk)
 refine ⟨R', ⟨(hk A.a (by simp [AF.fix])).trans h.head, (h.man.keep (fun k hk' => hk k (by simp [AF.fix, hk']))).mono hn, h.set.keep (fun k hk' => hk k (by simp [AF.fix, hk'])), g1, h.nd, fun b hb hf => ?_, h.lenU⟩, g2.wide (fun b hb => by simp [AF.hot, hb]), g3⟩
 rcases g3 b hb with c | c
 ·exact h.nR b c hf
 ·have := h.fixlt hf; omega
theorem AlAt.setMan {w w' : World} {A : AF} {n n' B : Nat} {m : Al} {bm : Bm} (h : AlAt w A n B m) (hn : n ≤ n') (ha : ManAt w' A.X n' B bm) (ht : Touch A.X.hot w w') (hl : bm.dev.cache.length = m.bm.dev.cache.length) : AlGo w w' A n' B ⟨bm, m.used, m.fl⟩ := by
 have nd := h.nd
 unfold AF.fix at nd
 rw [List.nodup_cons, List.nodup_append] at nd
 have hX : ∀ k ∈ A.X.hot, k ∈ A.X.list := fun k hk => MF.hot_sub hk
 refine ⟨A.R, ⟨(ht.block A.a (h.fixlt (by simp [AF.fix])) (fun hm => nd.1 (List.mem_append_left _ (hX _ hm)))).trans h.head, ha, h.set.keep (fun k hk => ht.block k (h.fixlt (by simp [AF.fix, hk])) (fun hm => nd.2.2.2 k (hX k hm) k hk rfl)), (h.free.keep (fun k hk => ht.block k (h.mem k (by simp [AF.list, hk])) (fun hm => h.nR k hk (by simp [AF.fix, hX k hm])))).mono hn, h.nd, h.nR, by rw [hl]; exact h.lenU⟩, ht.wide (fun b hb => by simp [AF.hot, hb]), fun b hb => .inl hb⟩
theorem AlAt.setUsed {w w' : World} {A : AF} {n B : Nat} {m : Al} {l : List Bool} (h : AlAt w A n B m) (hs : SetAt w' A.U l) (ht : Touch A.U.list w w') (hl : l.length = m.used.length) : AlGo w w' A n B ⟨m.bm, l, m.fl⟩ := by
 have nd := h.nd
 unfold AF.fix at nd
 rw [List.nodup_cons, List.nodup_append] at nd
 refine ⟨A.R, ⟨(ht.block A.a (h.fixlt (by simp [AF.fix])) (fun hm => nd.1 (List.mem_append_right _ hm))).trans h.head, h.man.keep (fun k hk => ht.block k (h.fixlt (by simp [AF.fix, hk])) (fun hm => nd.2.2.2 k hk k hm rfl)), hs, h.free.keep (fun k hk => ht.block k (h.mem k (by simp [AF.list, hk])) (fun hm => h.nR k hk (by simp [AF.fix, hm]))), h.nd, h.nR, by rw [hl]; exact h.lenU⟩, ht.wide (fun b hb => by simp [AF.hot, hb]), fun b hb => .inl hb⟩
theorem cellAt_of {B k b i : Nat} (hk : k < 32) (hb : 1 ≤ b) (hbB : b < B) (hi : i < clsCells k) : cellAt (B : Int) (k : Int) (b : Int) (i : Int) = (cellOf b k i : Nat) := by
 unfold cellAt cellOf
 rw [if_neg (by omega), Int.natCast_add, Int.natCast_mul, Int.natCast_mul]
 omega
set_option maxHeartbeats 2000000 in
set_option maxRecDepth 20000 in
theorem acarve_any {w : World} {A : AF} {n B : Nat} {m : Al} (h : AlAt w A n B m) (hB : B ≤ 200) (hL : m.fl.upto 900000) (b k : Nat) (hk : k < 32) (hb : 1 ≤ b) (hbB : b < B) (hlen : m.used.length = 512 * B) :
  Calls Tryz.prog 214 #[valloc A, .int .i64 (b : Int), .int .i64 (k : Int)] w fun e w' => e = .returned (.tuple #[]) ∧ AlGo w w' A n B ⟨m.bm, m.used, m.carved b k⟩ := by
 have HA := LH h
 have HUp := LH hL
 have HCN : Hid (clsCells k ≤ 256) := LH (by
  have := clsWords_pos (k : Int) (by omega)
  unfold clsCells
  exact Nat.div_le_of_le_mul (by omega))
 obtain ⟨N, hN⟩ : ∃ N, N = clsCells k := ⟨_, rfl⟩
 have HAdr : Hid (∀ i : Nat, i < N → cellAt (B : Int) (k : Int) (b : Int) (i : Int) = (cellOf b k i : Nat)) := LH (fun i hi => cellAt_of hk hb hbB (by rw [← hN]; exact hi))
 have HCar : Hid (m.carved b k = m.fl.carve (fun a => m.used.getD a false) (cellOf b k) k N) := LH (by rw [hN]; rfl)
 have HCells := LH (fun w => ccells_any (k : Int) w)
 rw [← hN] at HCN HCells
 clear h hL hN
 go_enter Tryz.func214, Tryz.ntmps214
 go_wp2_with fail
 refine (HCells.out _).mono ?_
 rintro e w1 ⟨rfl, hb1⟩
 have HB1 := LH hb1
 have hN2 := HCN.out
 clear hb1
 go_wp2_with fail
 go_loopw [6] (fun iv wr => ∃ (j : Nat) (T : FL), j ≤ N ∧ iv = .int .i64 ((j : Int) - 1) ∧ Hid (m.carved b k = T.carve (fun a => m.used.getD a false) (cellOf b k) k j) ∧ Hid (T.upto (900000 + (N - j))) ∧ Hid (AlGo w wr A n B ⟨m.bm, m.used, T⟩)) (fun iv _ => (intOf iv + 1).toNat)
 case atStart => exact ⟨N, m.fl, Nat.le_refl _, vint (by omega), HCar, LH (HUp.out.mono (by omega)), LH ((AlGo.refl HA.out).later HB1.out)⟩
 case round =>
  clear HB1
  obtain ⟨j, T, hj, rfl, HT, HTu, HGo⟩ := hrel
  cases j with
  | zero =>
   have HFin : Hid (AlGo w wr A n B ⟨m.bm, m.used, m.carved b k⟩) := LH (by rw [HT.out]; exact HGo.out)
   go_wp2_with fail
   go_end0
   exact ⟨rfl, HFin.out⟩
  | succ i =>
   have hi0 : ((i + 1 : Nat) : Int) - 1 = (i : Int) := by omega
   rw [hi0]
   obtain ⟨R1, ha1, ht1, hr1⟩ := HGo.out
   have HA1 := LH ha1
   have HT1 := LH ht1
   have HR1 := LH hr1
   have c2 := ha1.c2
   clear ha1 ht1 hr1
   have HCs : Hid (T.carve (fun a => m.used.getD a false) (cellOf b k) k (i + 1) = (if m.used.getD (cellOf b k i) false then T else T.pushed k (cellOf b k i)).carve (fun a => m.used.getD a false) (cellOf b k) k i) := LH rfl
   have HAd := LH (caddr_any B (by omega) (k : Int) (b : Int) (i : Int))
   rw [HAdr.out i (by omega)] at HAd
   have HHas := LH (hasI_nat m.used (cellOf b k i))
   generalize cellOf b k i = x at *
   change wr.cell? ⟨A.a, 2, none⟩ = some (.int .i64 (B : Int)) at c2
   go_wp2_with fail
   refine (HAd.out _).mono ?_
   rintro e w2 ⟨rfl, hb2⟩
   have HA2 := LH (HA1.out.below hb2)
   have HB2 := LH hb2
   have c3 := HA2.out.c3
   have c4 := HA2.out.c4
   change w2.cell? ⟨A.a, 3, none⟩ = some (vset A.U) at c3
   change w2.cell? ⟨A.a, 4, none⟩ = some (.pointer (some ⟨A.f, 0, none⟩)) at c4
   clear hb2 c2
   go_wp2_with fail
   refine (shas_any HA2.out.set (x : Int)).mono ?_
   rintro e w3 ⟨rfl, rfl⟩
   dsimp only
   rw [HHas.out]
   cases hu : m.used.getD x false with
   | true =>
    have HNext : Hid (m.carved b k = T.carve (fun a => m.used.getD a false) (cellOf b k) k i) := LH (by rw [HT.out, HCs.out, hu]; rfl)
    clear hu
    go_wp2_with fail
    go_roundw
    case rel => exact ⟨i, T, by omega, vint (by omega), HNext, LH (HTu.out.mono (by omega)), LH (HGo.out.later HB2.out)⟩
    case measure => simp [intOf]
   | false =>
    have HNext : Hid (m.carved b k = (T.pushed k x).carve (fun a => m.used.getD a false) (cellOf b k) k i) := LH (by rw [HT.out, HCs.out, hu]; rfl)
    clear hu
    go_wp2_with fail
    refine (fpush_any HA2.out.free (HTu.out.mono (by omega)) k x hk).mono ?_
    rintro e w4 ⟨rfl, hg4⟩
    have HGo4 : Hid (AlGo w w4 A n B ⟨m.bm, m.used, T.pushed k x⟩) := LH (AlGo.trans (HT1.out.later HB2.out) HR1.out (HA2.out.setFree (Nat.le_refl _) hg4))
    have HTu4 := LH (FL.pushed_upto HTu.out k x)
    clear hg4
    generalize (if T.has k x = true then (41 : Int) else 0) = er at *
    go_wp2_with fail
    go_roundw
    case rel => exact ⟨i, _, by omega, vint (by omega), HNext, LH (HTu4.out.mono (by omega)), HGo4⟩
    case measure => simp [intOf]
def RoomPost (w : World) (A : AF) (n B : Nat) (r : AlR) : Ending → World → Prop := fun e w' => e = .returned (.tuple #[.int .i64 r.a, .int .i64 r.err]) ∧ AlGo w w' A n B r.al
theorem atake_any {w : World} {A : AF} {n B : Nat} {m : Al} (h : AlAt w A n B m) (hL : m.fl.upto 1000000) (hn : n < 1000000000000) (mu k : Nat) (hm4 : mu < 4) (hk : k < 32) :
  Calls Tryz.prog 291 #[.pointer (some ⟨A.f, 0, none⟩), .int .i64 (mu : Int), .int .i64 (k : Int)] w (RoomPost w A (n + 2) B (m.take m.bm m.fl mu k)) := by
 refine (ftake_any h.free hL hn mu k hm4 hk).mono ?_
 rintro e w' ⟨rfl, hg⟩
 unfold RoomPost Al.take
 cases hc : m.fl.cell mu k with
 | none =>
  refine ⟨rfl, ?_⟩
  have := h.setFree (by omega) hg
  rw [FL.taken_none hc] at this
  exact this
 | some x => exact ⟨rfl, h.setFree (by omega) hg⟩
theorem FL.drain_upto {S : FL} {N : Nat} (h : S.upto N) {m : Nat} (hm : m < 4) : (S.drain m).upto (2 * N) := by
 intro i hi
 have h1 := h i hi
 unfold FL.at at h1 ⊢
 by_cases e : i < 32
 ·rw [if_pos e] at h1 ⊢
  have h2 := h (slotI m i) (by unfold slotI; omega)
  rw [S.at_c m e] at h2
  unfold FL.drain
  dsimp only
  rw [if_pos e, List.length_append]
  omega
 ·rw [if_neg e] at h1 ⊢
  unfold FL.drain
  dsimp only
  split
  ·simp
  ·omega
def FL.ownerFrom (S : FL) (k : Nat) : Nat → Option Nat
 | 0 => none
 | j + 1 => if S.c (3 - j) k ≠ [] then some (3 - j) else S.ownerFrom k j
set_option maxHeartbeats 2000000 in
set_option maxRecDepth 20000 in
theorem asteal_any {w : World} {A : AF} {n B : Nat} {m : Al} (h : AlAt w A n B m) (hL : m.fl.upto 500000) (hn : n < 1000000000000) (mu k : Nat) (hm4 : mu < 4) (hk : k < 32) :
  Calls Tryz.prog 293 #[valloc A, .int .i64 (mu : Int), .int .i64 (k : Int)] w (RoomPost w A (n + 2) B (m.steal m.bm mu k)) := by
 have HA := LH h
 have HUp := LH hL
 have HS : Hid (m.steal m.bm mu k = match m.fl.ownerFrom k 4 with | some i => m.take m.bm (m.fl.drain i) mu k | none => ⟨⟨m.bm, m.used, m.fl⟩, 0, 4⟩) := LH rfl
 have HP : Hid (∀ r e w', r = m.steal m.bm mu k → RoomPost w A (n + 2) B r e w' → RoomPost w A (n + 2) B (m.steal m.bm mu k) e w') := LH (fun r e w' h1 h2 => by rw [← h1]; exact h2)
 generalize hst : m.steal m.bm mu k = st at *
 generalize hPo : RoomPost w A (n + 2) B st = Post at *
 have HPo := LH hPo
 have c4 := h.c4
 clear h hL hst hPo
 go_enter Tryz.func293, Tryz.ntmps293
 go_wp2_with fail
 go_loop [9] (fun iv => ∃ i : Nat, i ≤ 4 ∧ iv = .int .i64 (i : Int) ∧ Hid (m.fl.ownerFrom k 4 = m.fl.ownerFrom k (4 - i))) (fun iv => 4 - (intOf iv).toNat)
 case atStart => exact ⟨0, by omega, rfl, LH rfl⟩
 case round =>
  obtain ⟨i, hi4, rfl, HO⟩ := hrel
  by_cases hlt : i < 4
  case neg =>
   obtain rfl : i = 4 := by omega
   have HE : Hid (st = ⟨⟨m.bm, m.used, m.fl⟩, 0, 4⟩) := LH (by rw [HS.out, HO.out]; rfl)
   go_wp2_with fail
   refine HP.out _ _ _ HE.out.symm ?_
   exact ⟨rfl, (AlGo.refl HA.out).mono (by omega)⟩
  obtain ⟨j, hj⟩ : ∃ j, 4 - i = j + 1 := ⟨3 - i, by omega⟩
  have hji : 3 - j = i := by omega
  have HStep : Hid (m.fl.ownerFrom k (4 - i) = if m.fl.c i k ≠ [] then some i else m.fl.ownerFrom k (4 - (i + 1))) := LH (by
   rw [hj, show 4 - (i + 1) = j by omega]
   show (if m.fl.c (3 - j) k ≠ [] then some (3 - j) else m.fl.ownerFrom k j) = _
   rw [hji])
  clear hj hji
  have HOwn := LH (fown_any HA.out.free i k hlt hk)
  obtain ⟨l, hl⟩ : ∃ l, l = (m.fl.c i k).length := ⟨_, rfl⟩
  rw [← hl] at HOwn
  have HL := LH hl
  clear hl
  go_wp2_with fail
  refine HOwn.out.mono ?_
  rintro e w1 ⟨rfl, rfl⟩
  by_cases h0 : l = 0
  ·subst h0
   have hl0 : m.fl.c i k = [] := List.length_eq_zero_iff.1 HL.out.symm
   have HO2 : Hid (m.fl.ownerFrom k 4 = m.fl.ownerFrom k (4 - (i + 1))) := LH (by rw [HO.out, HStep.out, if_neg (by rw [hl0]; simp)])
   clear hl0
   go_wp2_with fail
   go_round
   case rel => exact ⟨i + 1, by omega, vint (by omega), HO2⟩
   case measure => simp [intOf]; omega
  ·have hl0 : m.fl.c i k ≠ [] := fun e => h0 (by rw [HL.out, e]; rfl)
   have HE : Hid (st = m.take m.bm (m.fl.drain i) mu k) := LH (by rw [HS.out, HO.out, HStep.out, if_pos hl0])
   have hl1 : 0 < l := by omega
   clear hl0 h0
   go_wp2_with fail
   refine (fdrain_any HA.out.free (HUp.out.mono (by omega)) hn i hlt).mono ?_
   rintro e w2 ⟨rfl, hg2⟩
   obtain ⟨R1, ha1, ht1, hr1⟩ := HA.out.setFree (Nat.le_refl _) hg2
   have HA1 := LH ha1
   have HT1 := LH ht1
   have HR1 := LH hr1
   have c41 := ha1.c4
   change w2.cell? ⟨A.a, 4, none⟩ = some (.pointer (some ⟨A.f, 0, none⟩)) at c41
   have HUd := LH (FL.drain_upto HUp.out hlt)
   clear hg2 ha1 ht1 hr1
   go_wp2_with fail
   refine (atake_any (A := A.re R1) HA1.out (HUd.out.mono (by omega)) hn mu k hm4 hk).mono ?_
   rintro e w3 ⟨rfl, hg3⟩
   have HFin := LH (AlGo.trans HT1.out HR1.out hg3)
   clear hg3
   have HE2 : Hid (st = (⟨m.bm, m.used, m.fl.drain i⟩ : Al).take m.bm (m.fl.drain i) mu k) := LH HE.out
   dsimp only at HFin ⊢
   generalize (⟨m.bm, m.used, m.fl.drain i⟩ : Al).take m.bm (m.fl.drain i) mu k = r at *
   obtain ⟨al, a, er⟩ := r
   dsimp only at HFin ⊢
   go_wp2_with fail
   refine HP.out _ _ _ HE2.out.symm ?_
   exact ⟨rfl, HFin.out⟩
theorem putAll_okB {S : Dev} {N : Nat} (hw : S.inv) (h : S.ok N) (L : List Hd) (b : Int) (l : List Hd) : (putAll S L b l).dev.ok (N + L.length + 200000) := by
 by_cases c : L.length < l.length
 ·have : putAll S L b l = ⟨S, L, 1⟩ := by
   unfold putAll
   rw [if_pos]
   by_cases c : b < 1
   ·exact .inl c
   ·exact .inr (.inr (.inl (by omega)))
  rw [this]; exact h.mono (by omega)
 ·exact (putAll_ok hw h L b l).mono (by omega)
theorem small_okN {b : Bm} {N : Nat} (hi : b.dev.inv) (h : b.dev.ok N) (hB : b.list.length ≤ 1000) (k : Int) : (b.small k).bm.dev.ok (N + 500000) := by
 unfold Bm.small
 split
 ·exact h.mono (by omega)
 ·split
  ·exact h.mono (by omega)
  ·exact (putAll_okB hi h _ _ _).mono (by omega)
theorem large_okN {b : Bm} {N : Nat} (hi : b.dev.inv) (h : b.dev.ok N) (hB : b.list.length ≤ 1000) (k : Int) : (b.large k).bm.dev.ok (N + 500000) := by
 unfold Bm.large
 split
 ·exact h.mono (by omega)
 ·split
  ·exact h.mono (by omega)
  ·split
   ·exact (putAll_okB hi h _ _ _).mono (by omega)
   ·exact (putAll_okB (putAll_inv hi _ _ _) (putAll_okB hi h _ _ _) _ _ _).mono (by rw [putAll_len]; omega)
theorem release_okN {b : Bm} {N : Nat} (hi : b.dev.inv) (h : b.dev.ok N) (hB : b.list.length ≤ 1000) (k : Int) : (b.release k).bm.dev.ok (N + 500000) := by
 unfold Bm.release
 split
 ·exact h.mono (by omega)
 ·dsimp only
  split
  ·exact (putAll_okB hi h _ _ _).mono (by omega)
  ·split
   ·exact (putAll_okB (putAll_inv hi _ _ _) (putAll_okB hi h _ _ _) _ _ _).mono (by rw [putAll_len]; omega)
   ·exact (putAll_okB (putAll_inv hi _ _ _) (putAll_okB hi h _ _ _) _ _ _).mono (by rw [putAll_len]; omega)
theorem nodup_len : ∀ (M : Nat) (l : List Nat), (∀ x ∈ l, x < M) → (∀ a, l.count a ≤ 1) → l.length ≤ M
 | 0, l, h, _ => by
  cases l with
  | nil => simp
  | cons x l => exact absurd (h x (by simp)) (by omega)
 | M + 1, l, h, h1 => by
  have e : l.length = (l.filter (fun x => x == M)).length + (l.filter (fun x => !(x == M))).length := by
   induction l with
   | nil => rfl
   | cons x l ih =>
    have := ih (fun y hy => h y (by simp [hy])) (fun a => Nat.le_trans (List.count_le_count_cons) (h1 a))
    by_cases c : x = M <;> simp [c] <;> omega
  have h2 : (l.filter (fun x => x == M)).length ≤ 1 := by
   rw [← List.countP_eq_length_filter]
   exact h1 M
  have h3 := nodup_len M (l.filter (fun x => !(x == M))) (fun x hx => by
   obtain ⟨g1, g2⟩ := List.mem_filter.1 hx
   have := h x g1
   simp at g2
   omega) (fun a => Nat.le_trans (List.Sublist.count_le a List.filter_sublist) (h1 a))
  omega
theorem AlOk.upto {B : Nat} {m : Al} (h : AlOk B m) : m.fl.upto (512 * B) := by
 have key : ∀ k, k < 32 → ∀ l : List Nat, (∀ a, l.count a ≤ m.fl.cnt k a) → l.length ≤ 512 * B := fun k hk l hl => by
  refine nodup_len _ l (fun x hx => ?_) (fun a => ?_)
  ·have h1 := hl x
   have h2 : 0 < l.count x := List.count_pos_iff.2 hx
   have h3 := h.cells k x hk
   by_cases c : isCell m.bm.list k x ∧ m.used.getD x false = false
   ·have := c.1.2.1
    rw [h.bm.lenL] at this
    exact this
   ·rw [if_neg c] at h3; omega
  ·have h1 := hl a
   have h3 := h.cells k a hk
   split at h3 <;> omega
 intro i hi
 unfold FL.at
 by_cases e : i < 32
 ·rw [if_pos e]
  refine key i e _ (fun a => ?_)
  unfold FL.cnt; omega
 ·rw [if_neg e]
  refine key ((i - 32) % 32) (Nat.mod_lt _ (by decide)) _ (fun a => ?_)
  unfold FL.cnt
  have : (i - 32) / 32 < 4 := by omega
  rcases four this with c | c | c | c <;> rw [c] <;> omega
theorem FL.carve_upto {used : Nat → Bool} {at_ : Nat → Nat} {k : Nat} : ∀ {S : FL} {N : Nat}, S.upto N → ∀ n, (S.carve used at_ k n).upto (N + n)
 | S, N, h, 0 => h
 | S, N, h, n + 1 => by
  unfold FL.carve
  have h2 : (if used (at_ n) then S else S.pushed k (at_ n)).upto (N + 1) := by
   split
   ·exact h.mono (by omega)
   ·exact FL.pushed_upto h _ _
  exact (FL.carve_upto h2 n).mono (by omega)
set_option maxHeartbeats 1000000 in
theorem gfirstN_any (B : Nat) (hB : B ≤ 1000) (b : Nat) (hb : b < B) (w : World) : Calls Tryz.prog 185 #[vgeom (B : Int), .int .i64 (b : Int)] w fun e w' => e = .returned (.int .i64 ((b : Int) * 512)) ∧ Below w.heap.size w w' := by
 have := gfirst_any B hB (b : Int) w
 rw [show firstOf (B : Int) (b : Int) = (b : Int) * 512 by unfold firstOf; rw [if_neg (by omega)]] at this
 exact this
set_option maxHeartbeats 4000000 in
set_option maxRecDepth 20000 in
theorem aroom_any {w : World} {A : AF} {n B : Nat} {m : Al} (h : AlAt w A n B m) (hok : AlOk B m) (hB : B ≤ 200) (hn : n < 900000000000) {N : Nat} (hN : N ≤ 900000000) (ho : m.bm.dev.ok N) (mu : Nat) (hm4 : mu < 4) (p d : Int) (hs : objSize p d ≠ 0) :
  Calls Tryz.prog 233 #[valloc A, .int .i64 (mu : Int), vob p d] w (RoomPost w A (n + 6) B (m.room mu (objSize p d))) := by
 have HA := LH h
 have HOk := LH hok
 have HUp := LH hok.upto
 have HSz := LH (objSize_le p d)
 have HMem := LH (Mem.one w #[.int .i64 p, .int .i64 d] 169)
 have HA0 := LH (h.below HMem.out.below)
 have HW0 := LH HMem.out.below
 have HSm := LH (fun w => osmall_any p d w)
 have HBl := LH (fun w => oblocks_any p d w)
 have HP : Hid (∀ (a er : Int) (al : Al) w', (⟨al, a, er⟩ : AlR) = m.room mu (objSize p d) → AlGo w w' A (n + 6) B al → RoomPost w A (n + 6) B (m.room mu (objSize p d)) (.returned (.tuple #[.int .i64 a, .int .i64 er])) w') := LH (fun a er al w' h1 h2 => by rw [← h1]; exact ⟨rfl, h2⟩)
 have HR : Hid (m.room mu (objSize p d) = if small (objSize p d) then m.roomS mu (ofN (objSize p d : Nat)) else m.roomL (objBlocks (objSize p d))) := LH rfl
 generalize m.room mu (objSize p d) = r at *
 generalize RoomPost w A (n + 6) B r = Post at *
 have HOkN := LH ho
 clear h hok ho
 go_enter Tryz.func233, Tryz.ntmps233
 go_upto_region 1 with fail
 obtain ⟨q, hq⟩ : ∃ q, q = w.heap.size := ⟨_, rfl⟩
 rw [← hq] at HMem ⊢
 generalize w.alloc _ = w0 at *
 have HQh : Hid (q ∉ A.X.hot) := LH (fun hm => by
  have := HA.out.mem q (by simp [AF.list, AF.fix, MF.hot_sub hm])
  rw [hq] at this
  exact Nat.lt_irrefl _ this)
 clear hq
 have d0 := HMem.out.cell 0 0 rfl rfl
 have d1 := HMem.out.cell 0 1 rfl rfl
 go_wp2_with fail
 refine (HSm.out _).mono ?_
 rintro e w1 ⟨rfl, hb1⟩
 have HA1 := LH (HA0.out.below hb1)
 have HM1 := LH (HMem.out.later hb1)
 have HW1 := LH (HW0.out.trans (hb1.mono HW0.out.size))
 clear hb1 d0 d1
 by_cases hsm : small (objSize p d)
 case neg =>
  have HE : Hid (r = m.roomL (objBlocks (objSize p d))) := LH (by rw [HR.out, if_neg hsm])
  have HNb : Hid (1 ≤ objBlocks (objSize p d) ∧ objBlocks (objSize p d) < 256) := LH (by
   have := HSz.out
   unfold objBlocks
   rw [if_neg hsm]
   omega)
  rw [ofV_large _ hsm]
  clear hsm
  generalize objBlocks (objSize p d) = nb at *
  go_upto_region 3 with fail
  have hAn : A.a ∉ A.X.hot := fun hm => by
   have nd := HA.out.nd
   unfold AF.fix at nd
   rw [List.nodup_cons] at nd
   exact nd.1 (List.mem_append_left _ (MF.hot_sub hm))
  have d0 := HM1.out.cell 0 0 rfl rfl
  have d1 := HM1.out.cell 0 1 rfl rfl
  have r0 := fun x => near_cell (L := A.X.hot) d0 HQh.out x
  have r1 := fun x => near_cell (L := A.X.hot) d1 HQh.out x
  have r2 := fun x => near_cell (L := A.X.hot) HA1.out.c0 hAn x
  have HT1 : Hid (Touch A.X.hot w1 w1.drew) := LH (Touch.ofBelow (later_below (later_drew w1)))
  have HD1 : Hid (Below w1.heap.size w1 w1.drew) := LH (later_below (later_drew w1))
  have hC1 := near_of HT1.out
  clear d0 d1 hAn
  refine wp_region_seg (C := fun w' => ∃ x : Near A.X.hot w1, w' = x.val) [.fl [0, 1, 2, 3, 4], .sq [5] true, .sq [6, 7] false, .fl [8, 9, 10], .sq [11] false] (by kernel_rfl) (by kernel_rfl) (by intro c a d v w h; cases d <;> exact h) ?_
  simp only [segs, picks, List.getElem?_cons_succ, List.getElem?_cons_zero]
  refine wpSeg_fl hC1 ?_
  repeat (first | go_big_quiet_step (fail) | quiet_step (fail))
  refine wpQuiet_nil ?_
  clear r0 r1 r2
  generalize w1.drew = wd at *
  refine wpSeg_sq (fun K hK => ?_)
  go_wp2_with fail
  refine (HBl.out _).mono ?_
  rintro e w2 ⟨rfl, hb2⟩
  have HD2 : Hid (Below w1.heap.size w1 w2) := LH (HD1.out.trans (hb2.mono HD1.out.size))
  have hC2 : ∃ x : Near A.X.hot w1, w2 = x.val := near_of (Touch.ofBelow HD2.out)
  clear hb2
  go_wp2_with fail
  refine hK _ _ (fun _ => hC2) ?_
  clear hK K
  have HA2 := LH (HA1.out.below HD2.out)
  refine wpSeg_sq (fun K hK => ?_)
  go_wp2_with fail
  refine (blarge_any HA2.out.man (by omega) (by omega) (N := N) (by omega) HOkN.out HOk.out.bm.clean.inv (nb : Int)).mono ?_
  rintro e w3 ⟨rfl, hm3, ht3⟩
  have HT3 : Hid (Touch A.X.hot w1 w3) := LH ((Touch.ofBelow HD2.out).trans ht3)
  have hC3 := near_of HT3.out
  have HLn : Hid ((m.bm.large (nb : Int)).bm.dev.cache.length = m.bm.dev.cache.length) := LH (by
   rcases large_live HOk.out.bm HOk.out.live nb HNb.out.1 HNb.out.2 with ⟨e, _⟩ | ⟨b, _, _, _, _, _, _, _, s8, _⟩
   ·rw [e]
   ·exact s8.len)
  have HGo3 : Hid (AlGo w w3 A (n + 1) B ⟨(m.bm.large (nb : Int)).bm, m.used, m.fl⟩) := LH (AlGo.ahead (HW1.out.trans (HD2.out.mono HW1.out.size)) (HA2.out.setMan (by omega) hm3 ht3 HLn.out))
  have HRL : Hid (r = if (m.bm.large (nb : Int)).err ≠ 0 then ⟨⟨(m.bm.large (nb : Int)).bm, m.used, m.fl⟩, 0, (m.bm.large (nb : Int)).err⟩ else ⟨⟨(m.bm.large (nb : Int)).bm, m.used, m.fl⟩, 512 * (m.bm.large (nb : Int)).b, 0⟩) := LH HE.out
  have HCase : Hid (((m.bm.large (nb : Int)).err = 4 ∧ (m.bm.large (nb : Int)).b = 0) ∨ ∃ b : Nat, (m.bm.large (nb : Int)).err = 0 ∧ (m.bm.large (nb : Int)).b = (b : Int) ∧ b < B) := LH (by
   rcases large_live HOk.out.bm HOk.out.live nb HNb.out.1 HNb.out.2 with ⟨e, _⟩ | ⟨b, s1, s2, _, s4, _⟩
   ·rw [e]; exact .inl ⟨rfl, rfl⟩
   ·exact .inr ⟨b, s2, s1, by have := HNb.out; omega⟩)
  clear ht3 hm3 HLn HE
  obtain ⟨lr, hlr⟩ : ∃ lr, lr = m.bm.large (nb : Int) := ⟨_, rfl⟩
  rw [← hlr] at HGo3 HRL HCase ⊢
  clear hlr
  obtain ⟨bm, bb, er⟩ := lr
  dsimp only at HGo3 HRL HCase ⊢
  go_wp2_with fail
  refine hK _ _ (fun _ => hC3) ?_
  clear hK K
  refine wpSeg_fl hC3 ?_
  repeat (first | go_big_quiet_step (fail) | quiet_step (fail))
  refine wpQuiet_nil ?_
  rcases HCase.out with ⟨rfl, rfl⟩ | ⟨b, rfl, rfl, hbB⟩
  ·have HE : Hid (⟨⟨bm, m.used, m.fl⟩, 0, 4⟩ = r) := LH (by rw [HRL.out]; rfl)
   refine wpSeg_last ?_
   go_wp2_with fail
   exact HP.out _ _ _ _ HE.out (HGo3.out.mono (by omega))
  ·have HE : Hid (⟨⟨bm, m.used, m.fl⟩, 512 * (b : Int), 0⟩ = r) := LH (by rw [HRL.out]; rfl)
   obtain ⟨R3, ha3, _⟩ := HGo3.out
   have c2 := ha3.c2
   change w3.cell? ⟨A.a, 2, none⟩ = some (.int .i64 (B : Int)) at c2
   clear ha3
   refine wpSeg_last ?_
   go_wp2_with fail
   refine (gfirstN_any B (by omega) b hbB _).mono ?_
   rintro e w4 ⟨rfl, hb4⟩
   have HGo4 := LH (HGo3.out.later hb4)
   clear hb4 c2
   go_wp2_with fail
   refine HP.out _ _ _ _ ?_ (HGo4.out.mono (by omega))
   rw [← HE.out, Int.mul_comm]
 have hk := ofN_lt hsm
 have HE : Hid (r = m.roomS mu (ofN (objSize p d : Nat))) := LH (by rw [HR.out, if_pos hsm])
 rw [ofV_small _ hsm]
 generalize ofN (objSize p d : Nat) = k at *
 have HRS : Hid (r = if (m.fl.cell mu k).isSome then m.take m.bm m.fl mu k
  else if (m.bm.small k).err = 0 then m.take (m.bm.small k).bm (m.carved (m.bm.small k).b.toNat k) mu k
  else if (m.bm.small k).err ≠ 4 then ⟨⟨(m.bm.small k).bm, m.used, m.fl⟩, 0, (m.bm.small k).err⟩
  else m.steal (m.bm.small k).bm mu k) := LH HE.out
 clear HE HR HBl HSm
 have c4 := HA1.out.c4
 go_wp2_with fail
 refine (atake_any HA1.out (HUp.out.mono (by omega)) (by omega) mu k hm4 hk).mono ?_
 rintro e w2 ⟨rfl, hg2⟩
 have HG2 := LH (AlGo.ahead HW1.out hg2)
 clear hg2 c4
 cases hc : m.fl.cell mu k with
 | some x =>
  have HT : Hid (m.take m.bm m.fl mu k = r) := LH (by rw [HRS.out, hc]; rfl)
  have HT2 : Hid (m.take m.bm m.fl mu k = ⟨⟨m.bm, m.used, m.fl.taken mu k⟩, (x : Int), 0⟩) := LH (by unfold Al.take; rw [hc]; rfl)
  rw [HT2.out] at HG2 ⊢
  have HT3 := LH (HT2.out.symm.trans HT.out)
  clear HRS hc
  go_wp2_with fail
  exact HP.out _ _ _ _ HT3.out (HG2.out.mono (by omega))
 | none =>
  have HT2 : Hid (m.take m.bm m.fl mu k = ⟨m, 0, 4⟩) := LH (by unfold Al.take; rw [hc]; rfl)
  rw [HT2.out] at HG2 ⊢
  have HRS2 : Hid (r = if (m.bm.small k).err = 0 then m.take (m.bm.small k).bm (m.carved (m.bm.small k).b.toNat k) mu k
   else if (m.bm.small k).err ≠ 4 then ⟨⟨(m.bm.small k).bm, m.used, m.fl⟩, 0, (m.bm.small k).err⟩
   else m.steal (m.bm.small k).bm mu k) := LH (by rw [HRS.out, hc]; rfl)
  clear HRS hc HT2
  obtain ⟨R2, ha2, ht2, hr2⟩ := HG2.out
  have HA2 := LH ha2
  have HT2 := LH ht2
  have HR2 := LH hr2
  have c0 := ha2.c0
  change w2.cell? ⟨A.a, 0, none⟩ = some (.pointer (some ⟨A.X.m, 0, none⟩)) at c0
  clear ha2 ht2 hr2
  go_wp2_with fail
  refine (bsmall_any (X := A.X) HA2.out.man (by omega) (by omega) (N := N) (by omega) HOkN.out (k : Int)).mono ?_
  rintro e w3 ⟨rfl, hm3, ht3⟩
  rcases small_live HOk.out.bm HOk.out.live k hk with ⟨e, hp⟩ | ⟨b, s1, s2, s3, s4, s5, s6, s7, s8, s9, s10, s11⟩
  ·rw [e] at HRS2 hm3 ⊢
   have HE : Hid (r = m.steal m.bm mu k) := LH (by rw [HRS2.out]; rfl)
   have HG3 : Hid (AlGo w w3 A (n + 3) B m) := LH (AlGo.trans HT2.out HR2.out (HA2.out.setMan (bm := m.bm) (by omega) hm3 ht3 rfl))
   obtain ⟨R3, ha3, ht3', hr3⟩ := HG3.out
   have HA3 := LH ha3
   have HT3 := LH ht3'
   have HR3 := LH hr3
   clear ha3 ht3' hr3 hm3 ht3 e hp HRS2 c0
   dsimp only
   go_wp2_with fail
   refine (asteal_any (A := A.re R3) HA3.out (HUp.out.mono (by omega)) (by omega) mu k hm4 hk).mono ?_
   rintro e w4 ⟨rfl, hg4⟩
   have HG4 := LH (AlGo.trans HT3.out HR3.out hg4)
   clear hg4
   have HE' : Hid (m.steal m.bm mu k = r) := LH HE.out.symm
   generalize m.steal m.bm mu k = st at *
   obtain ⟨al, a, er⟩ := st
   dsimp only at HG4 ⊢
   go_wp2_with fail
   exact HP.out _ _ _ _ HE'.out (HG4.out.mono (by omega))
  ·have HE : Hid (r = m.take (m.bm.small k).bm (m.carved b k) mu k) := LH (by rw [HRS2.out, if_pos s2, s1]; rfl)
   have HG3 : Hid (AlGo w w3 A (n + 3) B ⟨(m.bm.small k).bm, m.used, m.fl⟩) := LH (AlGo.trans HT2.out HR2.out (HA2.out.setMan (by omega) hm3 ht3 s8.len))
   rw [s1, s2]
   generalize (m.bm.small k).bm = bm' at *
   clear hm3 ht3 HRS2 s2 s1 s5 s6 s7 s8 s9 s10 s11 c0
   obtain ⟨R3, ha3, ht3', hr3⟩ := HG3.out
   have HA3 := LH ha3
   have HT3 := LH ht3'
   have HR3 := LH hr3
   clear ha3 ht3' hr3
   go_wp2_with fail
   refine (acarve_any (A := A.re R3) HA3.out hB (HUp.out.mono (by omega)) b k hk s3 s4 HOk.out.lenU).mono ?_
   rintro e w4 ⟨rfl, hg4⟩
   have HG4 : Hid (AlGo w w4 A (n + 3) B ⟨bm', m.used, m.carved b k⟩) := LH (AlGo.trans HT3.out HR3.out hg4)
   obtain ⟨R4, ha4, ht4', hr4⟩ := HG4.out
   have HA4 := LH ha4
   have HT4 := LH ht4'
   have HR4 := LH hr4
   have c4 := ha4.c4
   change w4.cell? ⟨A.a, 4, none⟩ = some (.pointer (some ⟨A.f, 0, none⟩)) at c4
   have HUc : Hid ((m.carved b k).upto 1000000) := LH ((FL.carve_upto (HUp.out) (clsCells k)).mono (by
    have := clsWords_pos (k : Int) (by omega)
    have : clsCells (k : Int) ≤ 256 := Nat.div_le_of_le_mul (by omega)
    omega))
   clear ha4 ht4' hr4 hg4
   go_wp2_with fail
   refine (atake_any (A := A.re R4) HA4.out HUc.out (by omega) mu k hm4 hk).mono ?_
   rintro e w5 ⟨rfl, hg5⟩
   have HG5 := LH (AlGo.trans HT4.out HR4.out hg5)
   clear hg5
   have HE' : Hid ((⟨bm', m.used, m.carved b k⟩ : Al).take bm' (m.carved b k) mu k = r) := LH HE.out.symm
   dsimp only at HG5 ⊢
   generalize (⟨bm', m.used, m.carved b k⟩ : Al).take bm' (m.carved b k) mu k = st at *
   obtain ⟨al, a, er⟩ := st
   dsimp only at HG5 ⊢
   go_wp2_with fail
   exact HP.out _ _ _ _ HE'.out (HG5.out.mono (by omega))
theorem zeroTo_clen (S : Dev) (a : Nat) : ∀ k, (zeroTo S a k).dev.cache.length = S.cache.length
 | 0 => rfl
 | k + 1 => by
  unfold zeroTo
  split
  ·exact zeroTo_clen S a k
  ·dsimp only; rw [store_clen]; exact zeroTo_clen S a k
theorem init_clen (S : Dev) (a p d : Int) : (S.init a p d).dev.cache.length = S.cache.length := by
 unfold Dev.init
 split
 ·rfl
 ·split
  ·rfl
  ·unfold Dev.initN
   split
   ·exact zeroTo_clen _ _ _
   ·dsimp only; rw [store_clen]; exact zeroTo_clen _ _ _
theorem ManAt.setDev {w w' : World} {X : MF} {n B : Nat} {m : Bm} (h : ManAt w X n B m) {d : Dev} (hd : DevAt w' X.F d) (ht : Touch X.F.list w w') : ManAt w' X n B ⟨d, m.list, m.free⟩ ∧ Touch X.hot w w' := by
 have ap := MF.apart h.nd
 have h2 := MF.notHot ap.t
 exact h.put hd (h.tab.touch ht h2.2.2.2 ap.g) (ht.wide (fun b hb => List.mem_cons_of_mem _ hb))
theorem take_bm (m : Al) (bm : Bm) (f : FL) (mu k : Nat) : (m.take bm f mu k).al.bm = bm := by unfold Al.take; split <;> rfl
theorem room_bm (m : Al) (mu n : Nat) : (m.room mu n).al.bm = m.bm ∨ (m.room mu n).al.bm = (m.bm.small (ofN (n : Int) : Nat)).bm ∨ (m.room mu n).al.bm = (m.bm.large (objBlocks n : Nat)).bm := by
 unfold Al.room
 split
 ·unfold Al.roomS
  split
  ·exact .inl (take_bm _ _ _ _ _)
  ·split
   ·exact .inr (.inl (take_bm _ _ _ _ _))
   ·split
    ·exact .inr (.inl rfl)
    ·unfold Al.steal
     split
     ·exact .inr (.inl (take_bm _ _ _ _ _))
     ·exact .inr (.inl rfl)
 ·unfold Al.roomL
  split
  ·exact .inr (.inr rfl)
  ·exact .inr (.inr rfl)
theorem room_okN {m : Al} {N : Nat} (hi : m.bm.dev.inv) (h : m.bm.dev.ok N) (hB : m.bm.list.length ≤ 1000) (mu n : Nat) : (m.room mu n).al.bm.dev.ok (N + 500000) := by
 rcases room_bm m mu n with e | e | e <;> rw [e]
 ·exact h.mono (by omega)
 ·exact small_okN hi h hB _
 ·exact large_okN hi h hB _
theorem alloc_okN {m : Al} {N : Nat} (hi : m.bm.dev.inv) (h : m.bm.dev.ok N) (hB : m.bm.list.length ≤ 1000) (mu p d : Int) : (m.alloc mu p d).al.bm.dev.ok (N + 600000) := by
 unfold Al.alloc
 split
 ·exact h.mono (by omega)
 ·split
  ·exact h.mono (by omega)
  ·have hr := room_okN hi h hB mu.toNat (objSize p d)
   split
   ·exact hr.mono (by omega)
   ·have := init_ok hr (m.room mu.toNat (objSize p d)).a p d
    unfold Al.made
    split
    ·exact this.mono (by omega)
    ·exact this.mono (by omega)
set_option maxHeartbeats 4000000 in
set_option maxRecDepth 20000 in
theorem aalloc_any {w : World} {A : AF} {n B : Nat} {m : Al} (h : AlAt w A n B m) (hok : AlOk B m) (hB1 : 1 ≤ B) (hB : B ≤ 200) (hn : n < 900000000000) {N : Nat} (hN : N ≤ 900000000) (ho : m.bm.dev.ok N) (mu p d : Int) :
  Calls Tryz.prog 152 #[valloc A, .int .i64 mu, .int .i64 p, .int .i64 d] w (RoomPost w A (n + 6) B (m.alloc mu p d)) := by
 have HMem := LH (Mem.one w #[.int .i64 p, .int .i64 d] 169)
 have HA0 := LH (h.below HMem.out.below)
 have HW0 := LH HMem.out.below
 have HOk := LH hok
 have HOkN := LH ho
 have HSz := LH (fun w => osize_any p d w)
 have HLn : Hid (m.bm.list.length = B) := LH hok.bm.lenL
 have HP : Hid (∀ (a er : Int) (al : Al) w', (⟨al, a, er⟩ : AlR) = m.alloc mu p d → AlGo w w' A (n + 6) B al → RoomPost w A (n + 6) B (m.alloc mu p d) (.returned (.tuple #[.int .i64 a, .int .i64 er])) w') := LH (fun a er al w' h1 h2 => by rw [← h1]; exact ⟨rfl, h2⟩)
 have HR : Hid (m.alloc mu p d = if mu < 0 ∨ 4 ≤ mu then ⟨m, 0, 1⟩
  else if objSize p d = 0 ∨ 512 * ((m.bm.list.length : Int) - 1) < (objSize p d : Nat) then ⟨m, 0, 5⟩
  else if (m.room mu.toNat (objSize p d)).err ≠ 0 then ⟨(m.room mu.toNat (objSize p d)).al, 0, (m.room mu.toNat (objSize p d)).err⟩
  else (m.room mu.toNat (objSize p d)).al.made (m.room mu.toNat (objSize p d)).a p d) := LH rfl
 rw [HLn.out] at HR
 generalize m.alloc mu p d = r at *
 generalize RoomPost w A (n + 6) B r = Post at *
 have HAh := LH h
 clear h hok ho
 go_enter Tryz.func152, Tryz.ntmps152
 go_upto_region 2 with fail
 obtain ⟨q, hq⟩ : ∃ q, q = w.heap.size := ⟨_, rfl⟩
 rw [← hq] at HMem ⊢
 have HQ := LH hq
 generalize w.alloc _ = w0 at *
 clear hq
 by_cases hmu : mu < 0 ∨ 4 ≤ mu
 ·have HE : Hid (⟨m, 0, 1⟩ = r) := LH (by rw [HR.out, if_pos hmu])
  have HG : Hid (AlGo w w0 A (n + 6) B m) := LH (AlGo.ahead HW0.out ((AlGo.refl HA0.out).mono (by omega)))
  rcases hmu with hmu | hmu
  ·go_wp2_with fail
   exact HP.out _ _ _ _ HE.out HG.out
  ·have hmu0 : 0 ≤ mu := by omega
   go_wp2_with fail
   exact HP.out _ _ _ _ HE.out HG.out
 have hmu0 : 0 ≤ mu := by omega
 have hmu4 : mu < 4 := by omega
 have HR2 : Hid (r = if objSize p d = 0 ∨ 512 * ((B : Int) - 1) < (objSize p d : Nat) then ⟨m, 0, 5⟩
  else if (m.room mu.toNat (objSize p d)).err ≠ 0 then ⟨(m.room mu.toNat (objSize p d)).al, 0, (m.room mu.toNat (objSize p d)).err⟩
  else (m.room mu.toNat (objSize p d)).al.made (m.room mu.toNat (objSize p d)).a p d) := LH (by rw [HR.out, if_neg hmu])
 clear HR hmu
 obtain ⟨s, hs⟩ : ∃ s, s = objSize p d := ⟨_, rfl⟩
 rw [← hs] at HR2
 have HSzs : Hid (∀ w, Calls Tryz.prog 182 #[.agg #[.int .i64 p, .int .i64 d]] w fun e w' => e = .returned (.int .i64 (s : Int)) ∧ Below w.heap.size w w') := LH (by rw [hs]; exact HSz.out)
 have HSs := LH hs
 have hsl : s ≤ 16448 := by rw [hs]; exact objSize_le _ _
 clear hs HSz
 have d0 := HMem.out.cell 0 0 rfl rfl
 have d1 := HMem.out.cell 0 1 rfl rfl
 have r0 := fun x => later_cell d0 x
 have r1 := fun x => later_cell d1 x
 have r2 := fun x => later_cell HA0.out.c2 x
 have HD1 : Hid (Below w0.heap.size w0 w0.drew) := LH (later_below (later_drew w0))
 have d0' := r0 ⟨w0.drew, HD1.out⟩
 have d1' := r1 ⟨w0.drew, HD1.out⟩
 dsimp only at d0' d1'
 go_upto_region 4 with fail
 by_cases hs0 : s = 0
 ·subst hs0
  have HE : Hid (⟨m, 0, 5⟩ = r) := LH (by rw [HR2.out, if_pos (.inl rfl)])
  refine wp_region_seg (C := fun w' => ∃ x : Later (w0), w' = x.val) [.sq [0, 1, 2, 3] false, .fl [4, 6, 7, 8, 9], .sq [5] true, .sq [10, 11, 12, 13] false] (by kernel_rfl) (by kernel_rfl) (by intro c a d v w h; cases d <;> exact h) ?_
  simp only [segs, picks, List.getElem?_cons_succ, List.getElem?_cons_zero]
  have hC1 := later_drew (w0)
  refine wpSeg_sq (fun K hK => ?_)
  go_wp2_with fail
  refine (HSzs.out _).mono ?_
  rintro e w1 ⟨rfl, hb1⟩
  have hC2 := later_step hC1 hb1
  have HG : Hid (AlGo w w1 A (n + 6) B m) := LH (AlGo.ahead (HW0.out.trans ((HD1.out.trans (hb1.mono HD1.out.size)).mono HW0.out.size)) ((AlGo.refl (HA0.out.below (HD1.out.trans (hb1.mono HD1.out.size)))).mono (by omega)))
  clear hb1
  go_wp2_with fail
  refine hK _ _ (fun _ => hC2) ?_
  clear hK K
  refine wpSeg_fl hC2 ?_
  repeat (first | go_big_quiet_step (fail) | quiet_step (fail))
  refine wpQuiet_nil ?_
  refine wpSeg_sq (fun K hK => ?_)
  go_wp2_with fail
  go_wp2_with fail
  refine hK _ _ (fun _ => hC2) ?_
  clear hK K
  refine wpSeg_last ?_
  go_wp2_with fail
  exact HP.out _ _ _ _ HE.out HG.out
 have hs0' : ((s : Int) == 0) = false := by simpa using hs0
 refine wp_region_seg (C := fun w' => ∃ x : Later (w0), w' = x.val) [.sq [0, 1, 2, 3] false, .fl [4, 6, 7, 8, 9], .sq [5] true, .sq [10, 11, 12, 13] false] (by kernel_rfl) (by kernel_rfl) (by intro c a d v w h; cases d <;> exact h) ?_
 simp only [segs, picks, List.getElem?_cons_succ, List.getElem?_cons_zero]
 have hC1 := later_drew (w0)
 refine wpSeg_sq (fun K hK => ?_)
 go_wp2_with fail
 refine (HSzs.out _).mono ?_
 rintro e w1 ⟨rfl, hb1⟩
 have hC2 := later_step hC1 hb1
 clear hb1 d0' d1'
 go_wp2_with fail
 refine hK _ _ (fun _ => hC2) ?_
 clear hK K
 refine wpSeg_fl hC2 ?_
 repeat (first | go_big_quiet_step (fail) | quiet_step (fail))
 refine wpQuiet_nil ?_
 refine wpSeg_sq (fun K hK => ?_)
 go_wp2_with fail
 refine (HSzs.out _).mono ?_
 rintro e w2 ⟨rfl, hb2⟩
 have hC3 := later_step hC2 hb2
 clear hb2
 go_wp2_with fail
 refine hK _ _ (fun _ => hC3) ?_
 clear hK K
 refine wpSeg_last ?_
 go_wp2_with fail
 refine (gmost_any B hB1 (by omega) _).mono ?_
 rintro e w3 ⟨rfl, hb3⟩
 have hC4 := later_step hC3 hb3
 have HD4 : Hid (Below w0.heap.size w0 w3) := LH (later_below hC4)
 clear hb3 hC1 hC2 hC3 hC4 d0 d1 r0 r1 r2
 have HA3 := LH (HA0.out.below HD4.out)
 have HM3 := LH (HMem.out.later HD4.out)
 have HW3 := LH (HW0.out.trans (HD4.out.mono HW0.out.size))
 by_cases hbig : 512 * ((B : Int) - 1) < (s : Nat)
 ·have HE : Hid (⟨m, 0, 5⟩ = r) := LH (by rw [HR2.out, if_pos (.inr hbig)])
  have HG : Hid (AlGo w w3 A (n + 6) B m) := LH (AlGo.ahead HW3.out ((AlGo.refl HA3.out).mono (by omega)))
  have hbig' : ((B : Int) - 1) * 512 < (s : Int) := by omega
  go_wp2_with fail
  exact HP.out _ _ _ _ HE.out HG.out
 have hbig' : (s : Int) ≤ ((B : Int) - 1) * 512 := by omega
 have HR3 : Hid (r = if (m.room mu.toNat s).err ≠ 0 then ⟨(m.room mu.toNat s).al, 0, (m.room mu.toNat s).err⟩
  else (m.room mu.toNat s).al.made (m.room mu.toNat s).a p d) := LH (by rw [HR2.out, if_neg (by omega)])
 clear HR2
 obtain ⟨mn, hmn⟩ : ∃ mn : Nat, mu = (mn : Int) := ⟨mu.toNat, by omega⟩
 subst hmn
 rw [Int.toNat_natCast] at HR3
 have HRoom := LH (aroom_any HA3.out HOk.out hB hn hN HOkN.out mn (by omega) p d (by rw [← HSs.out]; exact hs0))
 rw [← HSs.out] at HRoom
 have HOkR : Hid ((m.room mn s).al.bm.dev.ok (N + 500000)) := LH (room_okN HOk.out.bm.clean.inv HOkN.out (by rw [HLn.out]; omega) mn s)
 have d0 := HM3.out.cell 0 0 rfl rfl
 have d1 := HM3.out.cell 0 1 rfl rfl
 have HQn : Hid (q ∉ A.hot) := LH (fun hm => by
  have : q < w.heap.size := HAh.out.mem q (by
   simp only [AF.hot, AF.list, AF.fix, List.mem_append, List.mem_cons] at hm ⊢
   rcases hm with hm | hm | hm
   ·exact .inl (.inr (.inl (MF.hot_sub hm)))
   ·exact .inl (.inr (.inr hm))
   ·exact .inr hm)
  rw [HQ.out] at this
  exact Nat.lt_irrefl _ this)
 go_wp2_with fail
 refine HRoom.out.mono ?_
 rintro e w4 ⟨rfl, hg4⟩
 have HG4 := LH (AlGo.ahead HW3.out hg4)
 have HRow4 : Hid (RowAt w4 q 169 [.int .i64 p, .int .i64 d]) := LH (by
  obtain ⟨_, _, ht, _⟩ := hg4
  exact (HM3.out.at 0 rfl).keep (ht.block q (HM3.out.glt 0 rfl) HQn.out))
 clear hg4 d0 d1 HRoom
 generalize m.room mn s = rm at *
 obtain ⟨al, a, er⟩ := rm
 dsimp only at HR3 HOkR HG4 ⊢
 by_cases her : er = 0
 case neg =>
  have her' : (er != 0) = true := by simpa using her
  have HE : Hid (⟨al, 0, er⟩ = r) := LH (by rw [HR3.out, if_pos her])
  clear her
  go_wp2_with fail
  exact HP.out _ _ _ _ HE.out HG4.out
 subst her
 have HR4 : Hid (r = al.made a p d) := LH (by rw [HR3.out, if_neg (by simp)])
 clear HR3
 obtain ⟨R4, ha4, ht4, hr4⟩ := HG4.out
 have HA4 := LH ha4
 have HT4 := LH ht4
 have HR4' := LH hr4
 clear ha4 ht4 hr4
 go_upto_region 9 with fail
 have d0 := HRow4.out.cell (i := 0) rfl
 have d1 := HRow4.out.cell (i := 1) rfl
 have c1 := HA4.out.c1
 change w4.cell? ⟨A.a, 1, none⟩ = some (vdev A.X.F) at c1
 have r0 := fun x => later_cell d0 x
 have r1 := fun x => later_cell d1 x
 have r2 := fun x => later_cell c1 x
 clear d0 d1 c1
 refine wp_region_seg (C := fun w' => ∃ x : Later (w4), w' = x.val) [.fl [0, 1, 2, 3, 4, 5], .sq [6, 7] false] (by kernel_rfl) (by kernel_rfl) (by intro c a d v w h; cases d <;> exact h) ?_
 simp only [segs, picks, List.getElem?_cons_succ, List.getElem?_cons_zero]
 have hC5 := later_drew (w4)
 refine wpSeg_fl hC5 ?_
 repeat (first | go_big_quiet_step (fail) | quiet_step (fail))
 refine wpQuiet_nil ?_
 clear r0 r1 r2
 have HD5 : Hid (Below w4.heap.size w4 w4.drew) := LH (later_below hC5)
 generalize w4.drew = w5 at *
 have HA5 := LH (HA4.out.below HD5.out)
 refine wpSeg_last ?_
 go_wp2_with fail
 refine (oinit_any HA5.out.man.dev (N := N + 500000) (by omega) HOkR.out a p d).mono ?_
 rintro e w6 ⟨rfl, hd6, ht6⟩
 obtain ⟨hm6, ht6'⟩ := HA5.out.man.setDev hd6 ht6
 have HG6 : Hid (AlGo w w6 A (n + 6) B ⟨⟨(al.bm.dev.init a p d).dev, al.bm.list, al.bm.free⟩, al.used, al.fl⟩) := LH (AlGo.trans (HT4.out.later HD5.out) HR4'.out (HA5.out.setMan (Nat.le_refl _) hm6 ht6' (init_clen _ _ _ _)))
 have HR6 : Hid (r = if (al.bm.dev.init a p d).err ≠ 0 then ⟨⟨⟨(al.bm.dev.init a p d).dev, al.bm.list, al.bm.free⟩, al.used, al.fl⟩, 0, (al.bm.dev.init a p d).err⟩
  else ⟨⟨⟨(al.bm.dev.init a p d).dev, al.bm.list, al.bm.free⟩, addI al.used a, al.fl⟩, a, 0⟩) := LH HR4.out
 clear hd6 ht6 hm6 ht6' HR4 hC5
 generalize al.bm.dev.init a p d = di at *
 obtain ⟨dv, er⟩ := di
 dsimp only at HG6 HR6 ⊢
 by_cases her : er = 0
 case neg =>
  have her' : (er != 0) = true := by simpa using her
  have HE : Hid (⟨⟨⟨dv, al.bm.list, al.bm.free⟩, al.used, al.fl⟩, 0, er⟩ = r) := LH (by rw [HR6.out, if_pos her])
  clear her
  go_wp2_with fail
  exact HP.out _ _ _ _ HE.out HG6.out
 subst her
 have HE : Hid (⟨⟨⟨dv, al.bm.list, al.bm.free⟩, addI al.used a, al.fl⟩, a, 0⟩ = r) := LH (by rw [HR6.out, if_neg (by simp)])
 obtain ⟨R6, ha6, ht6, hr6⟩ := HG6.out
 have HA6 := LH ha6
 have HT6 := LH ht6
 have HR6' := LH hr6
 have c3 := ha6.c3
 change w6.cell? ⟨A.a, 3, none⟩ = some (vset A.U) at c3
 clear ha6 ht6 hr6 HR6
 go_wp2_with fail
 refine (sadd_any HA6.out.set a).mono ?_
 rintro e w7 ⟨rfl, hs7, ht7⟩
 have hal : (addI al.used a).length = al.used.length := by
  unfold addI
  split
  ·rw [List.length_set]
  ·rfl
 have HG7 := LH (AlGo.trans HT6.out HR6'.out (HA6.out.setUsed hs7 ht7 hal))
 clear hs7 ht7 hal c3
 generalize freshI al.used a = fr at *
 go_wp2_with fail
 exact HP.out _ _ _ _ HE.out HG7.out
end Go.Proofs.YtpopbfagliagnaaGreat
namespace Go.Proofs.YtpopbfagliagnaaGreat
open Go.RowKit
def begins (k a : Nat) : Bool := decide (a % 512 % clsWords k = 0 ∧ a % 512 / clsWords k < clsCells k)
theorem aggCell : Agg Tryz.prog 289 #[.int .i64 0, .int .i64 0] := ⟨⟨_, Tryz.underlying289, rfl⟩, by kernel_rfl⟩
theorem begins_at {B k a : Nat} (hk : k < 32) (h1 : 512 ≤ a) (h2 : a < 512 * B) : begins k a = decide (cellAt (B : Int) (k : Int) ((a / 512 : Nat) : Int) ((a % 512 / clsWords k : Nat) : Int) = (a : Int)) := by
 have hp := clsWords_pos (k : Int) (by omega)
 unfold begins
 have e := Nat.div_add_mod (a % 512) (clsWords k)
 have hlt := Nat.mod_lt (a % 512) (show 0 < clsWords (k : Int) by omega)
 by_cases hi : a % 512 / clsWords k < clsCells k
 ·have hc := cellAt_of (B := B) hk (b := a / 512) (by omega) (by omega) hi
  rw [hc]
  unfold cellOf
  rw [Nat.mul_comm (clsWords (k : Int))] at e
  generalize a % 512 / clsWords (k : Int) * clsWords (k : Int) = y at *
  generalize hz : a % 512 % clsWords (k : Int) = z at *
  rw [Bool.eq_iff_iff, decide_eq_true_eq, decide_eq_true_eq]
  omega
 ·have hc : cellAt (B : Int) (k : Int) ((a / 512 : Nat) : Int) ((a % 512 / clsWords k : Nat) : Int) = -1 := by
   unfold cellAt
   rw [if_pos]
   exact .inr (.inr (.inr (.inr (by omega))))
  rw [hc, decide_eq_false (fun h => hi h.2), decide_eq_false (by omega)]
def AtPost (k a : Nat) (w : World) : Ending → World → Prop := fun e w' => (∃ x y : Int, e = .returned (.tuple #[.agg #[.int .i64 x, .int .i64 y], .bool (begins k a)])) ∧ Below w.heap.size w w'
set_option maxHeartbeats 2000000 in
set_option maxRecDepth 20000 in
theorem cat_any (B : Nat) (hB : B ≤ 1000) (k a : Nat) (hk : k < 32) (h1 : 512 ≤ a) (h2 : a < 512 * B) (w : World) : Calls Tryz.prog 183 #[vgeom (B : Int), .int .i64 (k : Int), .int .i64 (a : Int)] w (AtPost k a w) := by
 have HM := LH (Mem.two w #[.int .i64 (B : Int)] 44 #[.int .i64 0, .int .i64 0] 289)
 have HP : Hid (∀ (x y : Int) b w', b = begins k a → Below w.heap.size w w' → AtPost k a w (.returned (.tuple #[.agg #[.int .i64 x, .int .i64 y], .bool b])) w') := LH (fun x y b w' h1 h2 => by subst h1; exact ⟨⟨x, y, rfl⟩, h2⟩)
 generalize AtPost k a w = Post at *
 have HBe := LH (begins_at (B := B) hk h1 h2)
 have hp := clsWords_pos (k : Int) (by omega)
 have hbo : blockOf (B : Int) (a : Int) = ((a / 512 : Nat) : Int) := by unfold blockOf; rw [if_neg (by omega)]; omega
 have HData := LH (fun w => gdata_any B hB (a : Int) w)
 have HBlk := LH (fun w => gblockOf_any B hB (a : Int) w)
 rw [hbo] at HData HBlk
 rw [decide_eq_true (show (1 : Int) ≤ ((a / 512 : Nat) : Int) by omega)] at HData
 have HWd := LH (fun w => cwords_any (k : Int) w)
 have HAd := LH (fun w => caddr_any B hB (k : Int) ((a / 512 : Nat) : Int) ((a % 512 / clsWords k : Nat) : Int) w)
 have HRg := LH (fun w => cright_any (k : Int) w)
 rw [decide_eq_true (show (0 : Int) ≤ (k : Int) ∧ (k : Int) < 32 by omega)] at HRg
 have hda : a < 512000 := by omega
 obtain ⟨b, hb⟩ : ∃ b, b = a / 512 := ⟨_, rfl⟩
 obtain ⟨o, ho⟩ : ∃ o, o = a % 512 := ⟨_, rfl⟩
 have ho2 : (a : Int) % 512 = (o : Int) := by omega
 have ho5 : o < 512 := by omega
 rw [← hb] at HBlk HAd HBe
 rw [← ho] at HAd HBe
 obtain ⟨W, hW⟩ : ∃ W, W = clsWords (k : Int) := ⟨_, rfl⟩
 rw [← hW] at HWd HAd HBe hp
 obtain ⟨i, hi⟩ : ∃ i, i = o / W := ⟨_, rfl⟩
 rw [← hi] at HAd HBe
 have hi2 : (o : Int) / (W : Int) = (i : Int) := by rw [hi]; rfl
 have hi3 : i ≤ 512 := by rw [hi]; exact Nat.le_trans (Nat.div_le_self _ _) (by omega)
 generalize cellAt (B : Int) (k : Int) (b : Int) (i : Int) = ca at *
 generalize begins k a = be at *
 clear hbo hb ho hW hi h1 h2
 go_enter Tryz.func183, Tryz.ntmps183
 go_upto_region 1 with fail
 obtain ⟨q, hq⟩ : ∃ q, q = w.heap.size := ⟨_, rfl⟩
 rw [← hq] at HM ⊢
 generalize (w.alloc _).alloc _ = w0 at *
 clear hq
 have c0 := HM.out.cell 0 0 rfl rfl
 go_wp2_with fail
 refine (HRg.out _).mono ?_
 rintro e w1 ⟨rfl, rfl⟩
 go_wp2_with fail
 refine (HData.out _).mono ?_
 rintro e w1 ⟨rfl, hb1⟩
 have HM1 := LH (HM.out.later hb1)
 clear hb1 c0
 have c0 := HM1.out.cell 0 0 rfl rfl
 go_wp2_with fail
 refine (HBlk.out _).mono ?_
 rintro e w2 ⟨rfl, hb2⟩
 have HM2 := LH (HM1.out.later hb2)
 clear hb2 c0
 go_wp2_with fail
 refine (HWd.out _).mono ?_
 rintro e w3 ⟨rfl, hb3⟩
 have HM3 := LH (HM2.out.later hb3)
 clear hb3
 go_upto_region 4 with fail
 have HM4 := LH (HM3.out.alloc #[.int .i64 (b : Int), .int .i64 (i : Int)] 289)
 obtain ⟨q4, hq4⟩ : ∃ q4, q4 = w3.heap.size := ⟨_, rfl⟩
 rw [← hq4] at HM4 ⊢
 generalize w3.alloc _ = w4 at *
 clear hq4
 have d0 := HM4.out.cell 2 0 rfl rfl
 have d1 := HM4.out.cell 2 1 rfl rfl
 have c1 := HM4.out.cell 0 0 rfl rfl
 have hnd := HM4.out.nd
 simp only [List.map_cons, List.map_nil, List.map_append, List.cons_append, List.nil_append, List.nodup_cons, List.mem_cons, List.not_mem_nil, or_false, not_or] at hnd
 have hq1 : q ∉ [q + 1] := by simp
 have hq2 : q4 ∉ [q + 1] := by simp; exact fun e => hnd.2.1 e.symm
 have r0 := fun x => near_cell (L := [q + 1]) d0 hq2 x
 have r1 := fun x => near_cell (L := [q + 1]) d1 hq2 x
 have r2 := fun x => near_cell (L := [q + 1]) c1 hq1 x
 have HT0 : Hid (Touch [q + 1] w4 w4.drew) := LH (Touch.ofBelow (later_below (later_drew w4)))
 have HD0 : Hid (Below w4.heap.size w4 w4.drew) := LH (later_below (later_drew w4))
 have hC1 := near_of HT0.out
 clear d0 d1 c1 hnd hq1 hq2
 refine wp_region_seg (C := fun w' => ∃ x : Near [q + 1] w4, w' = x.val) [.fl [0, 1, 2, 3, 5], .sq [4] true, .fl [6], .sq [7] true, .sq [8] false] (by kernel_rfl) (by kernel_rfl) (by intro c a d v w h; cases d <;> exact h) ?_
 simp only [segs, picks, List.getElem?_cons_succ, List.getElem?_cons_zero]
 refine wpSeg_fl hC1 ?_
 repeat (first | go_big_quiet_step (fail) | quiet_step (fail))
 refine wpQuiet_nil ?_
 clear r0 r1 r2
 generalize w4.drew = w5 at *
 refine wpSeg_sq (fun K hK => ?_)
 go_wp2_with fail
 refine (HAd.out _).mono ?_
 rintro e w6 ⟨rfl, hb6⟩
 have HM6 := LH (HM4.out.later (HD0.out.trans (hb6.mono HD0.out.size)))
 have HT6 : Hid (Touch [q + 1] w4 w6) := LH (HT0.out.later hb6)
 have hC2 := near_of HT6.out
 clear hb6
 go_wp2_with fail
 refine hK _ _ (fun _ => hC2) ?_
 clear hK K
 refine wpSeg_fl hC2 ?_
 repeat (first | go_big_quiet_step (fail) | quiet_step (fail))
 refine wpQuiet_nil ?_
 refine wpSeg_sq (fun K hK => ?_)
 go_wp2_with (refine wpList_store_mem aggCell HM6.out 1 rfl rfl rfl rfl rfl rfl rfl rfl ?_; intro w7 h7 ht7; have H7 := LH h7; have HT7 := LH (HT6.out.trans ht7); clear h7 ht7)
 have hC3 := near_of HT7.out
 go_wp2_with fail
 refine hK _ _ (fun _ => hC3) ?_
 clear hK K
 refine wpSeg_last ?_
 go_wp2_with fail
 refine bodyPost_ret (results_cell_row2 (p := 6) (u := 7) rfl _ _ _ _ _ _ _ rfl (H7.out.exact 1 rfl) Tryz.underlying289 rfl (by kernel_rfl)) rfl ?_
 refine HP.out _ _ _ _ ?_ H7.out.below
 rw [HBe.out]
 rfl
def AtFull (k a : Nat) (w : World) : Ending → World → Prop := fun e w' => (∃ y : Int, e = .returned (.tuple #[.agg #[.int .i64 ((a / 512 : Nat) : Int), .int .i64 y], .bool (begins k a)])) ∧ Below w.heap.size w w'
set_option maxHeartbeats 2000000 in
set_option maxRecDepth 20000 in
theorem cat_full (B : Nat) (hB : B ≤ 1000) (k a : Nat) (hk : k < 32) (h1 : 512 ≤ a) (h2 : a < 512 * B) (w : World) : Calls Tryz.prog 183 #[vgeom (B : Int), .int .i64 (k : Int), .int .i64 (a : Int)] w (AtFull k a w) := by
 have HM := LH (Mem.two w #[.int .i64 (B : Int)] 44 #[.int .i64 0, .int .i64 0] 289)
 have HP : Hid (∀ (x y : Int) b w', b = begins k a → x = ((a / 512 : Nat) : Int) → Below w.heap.size w w' → AtFull k a w (.returned (.tuple #[.agg #[.int .i64 x, .int .i64 y], .bool b])) w') := LH (fun x y b w' h1 h3 h2 => by subst h1; subst h3; exact ⟨⟨y, rfl⟩, h2⟩)
 generalize AtFull k a w = Post at *
 have HBe := LH (begins_at (B := B) hk h1 h2)
 have hp := clsWords_pos (k : Int) (by omega)
 have hbo : blockOf (B : Int) (a : Int) = ((a / 512 : Nat) : Int) := by unfold blockOf; rw [if_neg (by omega)]; omega
 have HData := LH (fun w => gdata_any B hB (a : Int) w)
 have HBlk := LH (fun w => gblockOf_any B hB (a : Int) w)
 rw [hbo] at HData HBlk
 rw [decide_eq_true (show (1 : Int) ≤ ((a / 512 : Nat) : Int) by omega)] at HData
 have HWd := LH (fun w => cwords_any (k : Int) w)
 have HAd := LH (fun w => caddr_any B hB (k : Int) ((a / 512 : Nat) : Int) ((a % 512 / clsWords k : Nat) : Int) w)
 have HRg := LH (fun w => cright_any (k : Int) w)
 rw [decide_eq_true (show (0 : Int) ≤ (k : Int) ∧ (k : Int) < 32 by omega)] at HRg
 have hda : a < 512000 := by omega
 obtain ⟨b, hb⟩ : ∃ b, b = a / 512 := ⟨_, rfl⟩
 have HBq := LH hb
 obtain ⟨o, ho⟩ : ∃ o, o = a % 512 := ⟨_, rfl⟩
 have ho2 : (a : Int) % 512 = (o : Int) := by omega
 have ho5 : o < 512 := by omega
 rw [← hb] at HBlk HAd HBe
 rw [← ho] at HAd HBe
 obtain ⟨W, hW⟩ : ∃ W, W = clsWords (k : Int) := ⟨_, rfl⟩
 rw [← hW] at HWd HAd HBe hp
 obtain ⟨i, hi⟩ : ∃ i, i = o / W := ⟨_, rfl⟩
 rw [← hi] at HAd HBe
 have hi2 : (o : Int) / (W : Int) = (i : Int) := by rw [hi]; rfl
 have hi3 : i ≤ 512 := by rw [hi]; exact Nat.le_trans (Nat.div_le_self _ _) (by omega)
 generalize cellAt (B : Int) (k : Int) (b : Int) (i : Int) = ca at *
 generalize begins k a = be at *
 clear hbo hb ho hW hi h1 h2
 go_enter Tryz.func183, Tryz.ntmps183
 go_upto_region 1 with fail
 obtain ⟨q, hq⟩ : ∃ q, q = w.heap.size := ⟨_, rfl⟩
 rw [← hq] at HM ⊢
 generalize (w.alloc _).alloc _ = w0 at *
 clear hq
 have c0 := HM.out.cell 0 0 rfl rfl
 go_wp2_with fail
 refine (HRg.out _).mono ?_
 rintro e w1 ⟨rfl, rfl⟩
 go_wp2_with fail
 refine (HData.out _).mono ?_
 rintro e w1 ⟨rfl, hb1⟩
 have HM1 := LH (HM.out.later hb1)
 clear hb1 c0
 have c0 := HM1.out.cell 0 0 rfl rfl
 go_wp2_with fail
 refine (HBlk.out _).mono ?_
 rintro e w2 ⟨rfl, hb2⟩
 have HM2 := LH (HM1.out.later hb2)
 clear hb2 c0
 go_wp2_with fail
 refine (HWd.out _).mono ?_
 rintro e w3 ⟨rfl, hb3⟩
 have HM3 := LH (HM2.out.later hb3)
 clear hb3
 go_upto_region 4 with fail
 have HM4 := LH (HM3.out.alloc #[.int .i64 (b : Int), .int .i64 (i : Int)] 289)
 obtain ⟨q4, hq4⟩ : ∃ q4, q4 = w3.heap.size := ⟨_, rfl⟩
 rw [← hq4] at HM4 ⊢
 generalize w3.alloc _ = w4 at *
 clear hq4
 have d0 := HM4.out.cell 2 0 rfl rfl
 have d1 := HM4.out.cell 2 1 rfl rfl
 have c1 := HM4.out.cell 0 0 rfl rfl
 have hnd := HM4.out.nd
 simp only [List.map_cons, List.map_nil, List.map_append, List.cons_append, List.nil_append, List.nodup_cons, List.mem_cons, List.not_mem_nil, or_false, not_or] at hnd
 have hq1 : q ∉ [q + 1] := by simp
 have hq2 : q4 ∉ [q + 1] := by simp; exact fun e => hnd.2.1 e.symm
 have r0 := fun x => near_cell (L := [q + 1]) d0 hq2 x
 have r1 := fun x => near_cell (L := [q + 1]) d1 hq2 x
 have r2 := fun x => near_cell (L := [q + 1]) c1 hq1 x
 have HT0 : Hid (Touch [q + 1] w4 w4.drew) := LH (Touch.ofBelow (later_below (later_drew w4)))
 have HD0 : Hid (Below w4.heap.size w4 w4.drew) := LH (later_below (later_drew w4))
 have hC1 := near_of HT0.out
 clear d0 d1 c1 hnd hq1 hq2
 refine wp_region_seg (C := fun w' => ∃ x : Near [q + 1] w4, w' = x.val) [.fl [0, 1, 2, 3, 5], .sq [4] true, .fl [6], .sq [7] true, .sq [8] false] (by kernel_rfl) (by kernel_rfl) (by intro c a d v w h; cases d <;> exact h) ?_
 simp only [segs, picks, List.getElem?_cons_succ, List.getElem?_cons_zero]
 refine wpSeg_fl hC1 ?_
 repeat (first | go_big_quiet_step (fail) | quiet_step (fail))
 refine wpQuiet_nil ?_
 clear r0 r1 r2
 generalize w4.drew = w5 at *
 refine wpSeg_sq (fun K hK => ?_)
 go_wp2_with fail
 refine (HAd.out _).mono ?_
 rintro e w6 ⟨rfl, hb6⟩
 have HM6 := LH (HM4.out.later (HD0.out.trans (hb6.mono HD0.out.size)))
 have HT6 : Hid (Touch [q + 1] w4 w6) := LH (HT0.out.later hb6)
 have hC2 := near_of HT6.out
 clear hb6
 go_wp2_with fail
 refine hK _ _ (fun _ => hC2) ?_
 clear hK K
 refine wpSeg_fl hC2 ?_
 repeat (first | go_big_quiet_step (fail) | quiet_step (fail))
 refine wpQuiet_nil ?_
 refine wpSeg_sq (fun K hK => ?_)
 go_wp2_with (refine wpList_store_mem aggCell HM6.out 1 rfl rfl rfl rfl rfl rfl rfl rfl ?_; intro w7 h7 ht7; have H7 := LH h7; have HT7 := LH (HT6.out.trans ht7); clear h7 ht7)
 have hC3 := near_of HT7.out
 go_wp2_with fail
 refine hK _ _ (fun _ => hC3) ?_
 clear hK K
 refine wpSeg_last ?_
 go_wp2_with fail
 refine bodyPost_ret (results_cell_row2 (p := 6) (u := 7) rfl _ _ _ _ _ _ _ rfl (H7.out.exact 1 rfl) Tryz.underlying289 rfl (by kernel_rfl)) rfl ?_
 refine HP.out _ _ _ _ ?_ (by rw [HBq.out]) H7.out.below
 rw [HBe.out]
 rfl
end Go.Proofs.YtpopbfagliagnaaGreat
namespace Go.Proofs.YtpopbfagliagnaaGreat
open Go.Maps Go.ChangeMaps Go.MapKept Go.WideElems
section
variable {P : Program} {k e t : TypeId} {w : World} {b n : Nat} {M : Lit → Option Value}
theorem ventry_store_at {es : Array MapEntry} {clock j : Nat} {e0 : MapEntry} (hb : w.heap[b]? = some (.map es clock)) (hn : (es.toList.map (·.born)).Nodup) (hj : es.toList[j]? = some e0) (val : Value) :
  (Instr.entryStore t (.map (some b)) (goInt e0.born) val).run P w = .ok () (setBlock w b (.map (es.modify j fun e => { e with val := val }) clock)) := by
 have hidx : es.findIdx? (fun e => ((e.born : Nat) : Int) == ((e0.born : Nat) : Int)) = some j := by
  rw [findIdx_arr]; exact findIdx_born hn hj
 simp [Instr.entryStore, MapKept.run_getObj_map hb, asInt, asIntOf, goInt, hidx, MapKept.run_setObj_map _ hb, Result.andThen, setBlock]
def VPend (P : Program) (k t : TypeId) (w : World) (b n : Nat) (M : Lit → Option Value) (kl : Lit) (st : Nat) : Prop :=
 ∃ (es1 : Array MapEntry) (clock1 : Nat), w.heap[b]? = some (.map es1 clock1) ∧
  ∀ (w2 : World) (c : Value), w2.heap[b]? = some (.map es1 clock1) → ∃ es' clock', (Instr.entryStore t (.map (some b)) (goInt st) c).run P w2 = .ok () (setBlock w2 b (.map es' clock')) ∧
   VMap P k (setBlock w2 b (.map es' clock')) b (n + 1) (putL M kl (some c))
theorem vmap_entry (h : VMap P k w b n M) (K : Keyed P k) (ht : P.underlying t = some (.map k e)) {z : Value} (hz : ∀ u : World, (zeroValue e).run P u = .ok z u) (hn : n < maxLen) {key : Value} {kl : Lit} (hkey : keyOf P k key = some kl) :
  ∃ (st : Nat) (w1 : World), (Instr.mapEntry t (.map (some b)) key).run P w = .ok (.tuple #[(M kl).getD z, goInt st]) w1 ∧ VPend P k t w1 b n M kl st ∧ w.grownBy w1 (some b) := by
 have hgs : ∀ (x : Obj), w.grownBy (setBlock w b x) (some b) := fun x =>
  ⟨rfl, rfl, rfl, by simp [setBlock], fun i hi hne => by
   have : i ≠ b := fun e => hne (by rw [e])
   simp [setBlock, Ne.symm this]⟩
 have hlk := h.look K ht (hz w) hkey
 have hlt := h.lt
 obtain ⟨D, ho, hT⟩ := h
 have hup : ∀ c : Value, ∃ w', (Instr.mapUpdate t (.map (some b)) key c).run P w = .ok () w' ∧ VMap P k w' b (n + 1) (putL M kl (some c)) := fun c => by
  obtain ⟨w', h1, h2, _⟩ := ho.update K ht hn hkey (val := c) (d := .held c) (ps := []) rfl
  exact ⟨w', h1, _, h2, hT.put (K.key hkey) c⟩
 have hmove : ∀ (w2 : World) (c : Value) (es' : Array MapEntry) (clock' : Nat) (e2 : Array MapEntry) (c2 : Nat), w2.heap[b]? = some (.map e2 c2) →
   (Instr.mapUpdate t (.map (some b)) key c).run P w = .ok () (setBlock w b (.map es' clock')) → VMap P k (setBlock w2 b (.map es' clock')) b (n + 1) (putL M kl (some c)) := by
  intro w2 c es' clock' e2 c2 h2 hrun
  obtain ⟨w', h3, h4⟩ := hup c
  rw [hrun] at h3
  injection h3 with _ h5
  rw [← h5] at h4
  obtain ⟨es, clock, hb, _⟩ := ho
  exact h4.block ((heap_setBlock_same h2 _).trans (heap_setBlock_same hb _).symm)
 obtain ⟨es, clock, hb, F, _, _⟩ := ho
 obtain ⟨s1, s2, _⟩ := F.stamped
 rcases K.find w hkey es.toList F.keys with ⟨h1, h2⟩ | ⟨j, e0, h1, h2, h3⟩
 ·have hlast : (es.push ⟨key, z, clock⟩).toList[es.size]? = some ⟨key, z, clock⟩ := by simp
  have hnd : ((es.push ⟨key, z, clock⟩).toList.map (·.born)).Nodup := by
   rw [Array.toList_push, List.map_append]
   refine List.nodup_append.2 ⟨s2, by simp, fun a ha c hc e => ?_⟩
   obtain ⟨x, hx, rfl⟩ := List.mem_map.1 ha
   have := s1 x hx
   simp at hc; omega
  have hv : (M kl).getD z = z := by
   simp [Instr.lookup, run_underlying ht, MapKept.run_getObj_map hb, K.check w es.isEmpty hkey, h1, hz, Result.andThen] at hlk
   exact hlk.symm
  refine ⟨clock, _, ?_, ⟨_, clock + 1, heap_setBlock_same hb _, fun w2 c hw2 => ⟨_, _, ventry_store_at hw2 hnd hlast _, hmove w2 c _ _ _ _ hw2 ?_⟩⟩, hgs _⟩
  ·rw [hv]
   simp [Instr.mapEntry, run_underlying ht, MapKept.run_getObj_map hb, K.check w false hkey, h1, hz, MapKept.run_setObj_map _ hb, Result.andThen, setBlock]
  ·have hmod : (es.push ⟨key, z, clock⟩).modify es.size (fun e => { e with val := c }) = es.push ⟨key, c, clock⟩ := by
    apply Array.ext'
    rw [Array.toList_modify, Array.toList_push, Array.toList_push, ← Array.length_toList, modify_last]
   rw [hmod]
   simp [Instr.mapUpdate, run_underlying ht, MapKept.run_getObj_map hb, K.check w false hkey, h1, MapKept.run_setObj_map _ hb, Result.andThen, setBlock]
 ·have hj : es[j]? = some e0 := by simpa using h2
  have hsame : es.modify j (fun e => { e with key := key }) = es := by
   apply Array.ext'
   rw [Array.toList_modify, modify_eq_set _ _ _ _ h2, show ({ e0 with key := key } : MapEntry) = e0 by rw [← h3]]
   exact set_self _ _ _ h2
  have hv : (M kl).getD z = e0.val := by
   simp [Instr.lookup, run_underlying ht, MapKept.run_getObj_map hb, K.check w es.isEmpty hkey, h1, hj, Result.andThen] at hlk
   exact hlk.symm
  refine ⟨e0.born, _, ?_, ⟨es, clock, heap_setBlock_same hb _, fun w2 c hw2 => ⟨_, _, ventry_store_at hw2 s2 h2 _, hmove w2 c _ _ _ _ hw2 ?_⟩⟩, hgs _⟩
  ·rw [hv]
   simp [Instr.mapEntry, run_underlying ht, MapKept.run_getObj_map hb, K.check w false hkey, h1, hj, h3, K.stays w hkey, hsame, MapKept.run_setObj_map _ hb, Result.andThen, setBlock]
  ·have hmod : es.modify j (fun e => { e with val := c }) = es.modify j (fun e' => { e' with key := key, val := c }) := by
    apply Array.ext'
    rw [Array.toList_modify, Array.toList_modify, modify_eq_set _ _ _ _ h2, modify_eq_set _ _ _ _ h2, ← h3]
   rw [hmod]
   simp [Instr.mapUpdate, run_underlying ht, MapKept.run_getObj_map hb, K.check w false hkey, h1, hj, h3, K.stays w hkey, MapKept.run_setObj_map _ hb, Result.andThen, setBlock]
theorem VPend.block {kl : Lit} {st : Nat} (h : VPend P k t w b n M kl st) {w' : World} (he : w'.heap[b]? = w.heap[b]?) : VPend P k t w' b n M kl st := by
 obtain ⟨es1, clock1, h1, h2⟩ := h
 exact ⟨es1, clock1, he.trans h1, h2⟩
variable {ops : Array Oper} {rest : List Oper} {o : Oper} {a : Act} {Q : Exit → Act → World → Prop}
theorem wpList_ventry (hg : o.guard = none) (m x : Operand) (t : TypeId) (hop : o.op = Op.mapEntry t m x)
  (k e : TypeId) (K : Keyed P k) (ht : P.underlying t = some (.map k e)) (z : Value) (hz : ∀ u : World, (zeroValue e).run P u = .ok z u) (b n : Nat) (M : Lit → Option Value)
  (hm : a.eval m = .map (some b)) (hown : VMap P k w b n M) (hn : n < maxLen) (key : Value) (kl : Lit) (hx : a.eval x = key) (hkey : keyOf P k key = some kl)
  (hK : ∀ w' st, VPend P k t w' b n M kl st → w.grownBy w' (some b) → wpList P ops Q rest (a.put o.dst (.tuple #[(M kl).getD z, goInt st])) w') :
  wpList P ops Q (o :: rest) a w := by
 refine wpList_plain hg fun K' hK' => ?_
 obtain ⟨st, w1, h1, h2, h3⟩ := vmap_entry hown K ht hz hn hkey
 unfold Oper.wp
 simp [execOp, hop, hm, hx, h1, Result.andThen]
 exact hK' _ _ (hK _ st h2 h3)
theorem wpList_ventryStore (hg : o.guard = none) (m s x : Operand) (t : TypeId) (hop : o.op = Op.entryStore t m s x)
  (k : TypeId) (b n : Nat) (M : Lit → Option Value) (kl : Lit) (st : Nat) (c : Value)
  (hm : a.eval m = .map (some b)) (hs : a.eval s = goInt st) (hx : a.eval x = c) (hp : VPend P k t w b n M kl st)
  (hK : ∀ w', VMap P k w' b (n + 1) (putL M kl (some c)) → w.grownBy w' (some b) → wpList P ops Q rest (a.put o.dst undef) w') :
  wpList P ops Q (o :: rest) a w := by
 refine wpList_plain hg fun K' hK' => ?_
 obtain ⟨es1, clock1, h1, h2⟩ := hp
 obtain ⟨es', clock', h3, h4⟩ := h2 w c h1
 have hgs : w.grownBy (setBlock w b (.map es' clock')) (some b) :=
  ⟨rfl, rfl, rfl, by simp [setBlock], fun i hi hne => by
   have : i ≠ b := fun e => hne (by rw [e])
   simp [setBlock, Ne.symm this]⟩
 unfold Oper.wp
 simp [execOp, hop, hm, hs, hx, h3, Result.andThen]
 exact hK' _ _ (hK _ h4 hgs)
end
end Go.Proofs.YtpopbfagliagnaaGreat
