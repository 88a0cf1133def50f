/- Parts of the proof, one behind the other: Lp, Yp, Yq, Yr, Eb, Oh, Ob, Oc, Od, Kp, Zg, Ec. -/
import Derived.Test.YtpopbfagliagnaaGreatCW7
set_option linter.unusedVariables false
namespace Go.Proofs.YtpopbfagliagnaaGreat
theorem Dev.store_ok0 {S : Dev} {i x : Nat} (h : S.storeE (i : Int) = 0) : i < S.cache.length ∧ (S.store (i : Int) x).cache = S.cache.set i x ∧ (S.store (i : Int) x).dirty = S.dirty.set (i / 8) true := by
 unfold Dev.storeE at h
 by_cases c1 : (i : Int) < 0 ∨ (S.cache.length : Int) ≤ (i : Int)
 ·rw [if_pos c1] at h; simp at h
 rw [if_neg c1] at h
 cases c2 : S.stop
 ·unfold Dev.store
  rw [if_neg c1, c2]
  simp only [Bool.false_eq_true, if_false]
  obtain ⟨e1, e2, e3, e4, e5⟩ := S.step_rest
  refine ⟨by omega, ?_, ?_⟩
  ·simp [Dev.put, e2]
  ·simp [Dev.put, e4]
 ·rw [c2] at h; simp at h
structure PutAt (S : Dev) (b : Nat) (l : List Hd) (i : Nat) (T : Dev) : Prop where
 inv : T.inv
 lenC : T.cache.length = S.cache.length
 lenD : T.dirty.length = S.dirty.length
 fits : i = 0 ∨ 256 + b + i ≤ S.cache.length
 cache : ∀ j, T.cache.getD j 0 = if 256 + b ≤ j ∧ j < 256 + b + i then encN ((j - 256 : Nat) : Int) (l.getD (j - 256 - b) default).k (l.getD (j - 256 - b) default).c (l.getD (j - 256 - b) default).l else S.cache.getD j 0
 dirty : ∀ q, (∀ k, k < i → (256 + b + k) / 8 ≠ q) → T.dirty.getD q false = S.dirty.getD q false
theorem putTo_at {S : Dev} (h : S.inv) (L : List Hd) (b : Nat) (l : List Hd) : ∀ i, (putTo S L b l i).err = 0 → PutAt S b l i (putTo S L b l i).dev
 | 0, _ => ⟨h, rfl, rfl, .inl rfl, fun j => by rw [if_neg (by omega)]; rfl, fun q _ => rfl⟩
 | i + 1, he => by
  have hst : putTo S L b l (i + 1) = putStep (putTo S L b l i) (b + i) (l.getD i default) := rfl
  rw [hst] at he ⊢
  unfold putStep at he ⊢
  by_cases h0 : (putTo S L b l i).err ≠ 0
  ·rw [if_pos h0] at he; exact absurd he h0
  rw [if_neg h0] at he ⊢
  have t := putTo_at h L b l i (by simpa using h0)
  generalize (putTo S L b l i).dev = T at *
  dsimp only at he ⊢
  rw [show (256 + ((b + i : Nat) : Int)) = ((256 + b + i : Nat) : Int) by omega] at he ⊢
  obtain ⟨g1, g2, g3⟩ := Dev.store_ok0 (x := encN ((b + i : Nat) : Int) (l.getD i default).k (l.getD i default).c (l.getD i default).l) he
  have hlc := t.lenC
  have hwD := t.inv.wf.lenD
  refine ⟨Dev.store_inv t.inv _ _ (encN_lt _ _ _ _), by rw [g2]; simp [t.lenC], by rw [g3]; simp [t.lenD], .inr (by omega), fun j => ?_, fun q hq => ?_⟩
  ·rw [g2, getD_setN _ _ _ _ g1, t.cache j]
   by_cases e : j = 256 + b + i
   ·subst e
    rw [if_pos rfl, if_pos (by omega), show 256 + b + i - 256 = b + i by omega, show b + i - b = i by omega]
   ·rw [if_neg e]
    by_cases c : 256 + b ≤ j ∧ j < 256 + b + i
    ·rw [if_pos c, if_pos (by omega)]
    ·rw [if_neg c, if_neg (by omega)]
  ·rw [g3, getD_setB _ _ _ _ (by omega), if_neg (fun e => hq i (by omega) e.symm)]
   exact t.dirty q (fun k hk => hq k (by omega))
structure Clean (S : Dev) (B : Nat) : Prop where
 inv : S.inv
 fits : 256 + B ≤ S.cache.length
 clean : ∀ b, 1 ≤ b → b < B → S.dirty.getD ((256 + b) / 8) false = false
theorem put_clean {S : Dev} {B : Nat} (h : Clean S B) {L : List Hd} (hL : L.length = B) {b : Int} {l : List Hd} (he : (putAll S L b l).err = 0) :
  Clean (putAll S L b l).dev B ∧ ∃ k : Nat, b = (k : Int) ∧ 1 ≤ k ∧ k + l.length ≤ B ∧ allRight l l.length ∧
   ∀ q, 1 ≤ q → q < B → (putAll S L b l).dev.cache.getD (256 + q) 0 = if k ≤ q ∧ q < k + l.length then encN (q : Int) (l.getD (q - k) default).k (l.getD (q - k) default).c (l.getD (q - k) default).l else S.cache.getD (256 + q) 0 := by
 unfold putAll at he ⊢
 by_cases c1 : b < 1 ∨ (L.length : Int) < b ∨ (L.length : Int) - b < (l.length : Int) ∨ ¬ allRight l l.length
 ·rw [if_pos c1] at he; simp at he
 rw [if_neg c1] at he ⊢
 obtain ⟨k, rfl⟩ := Int.eq_ofNat_of_zero_le (show 0 ≤ b by omega)
 have hr : allRight l l.length := Decidable.byContradiction fun h => c1 (.inr (.inr (.inr h)))
 by_cases c2 : l.length = 0
 ·rw [if_pos c2]
  exact ⟨h, k, rfl, by omega, by omega, hr, fun q _ _ => by rw [if_neg (by omega)]⟩
 rw [if_neg c2] at he ⊢
 rw [show ((k : Nat) : Int).toNat = k from rfl] at he ⊢
 unfold putIn at he ⊢
 by_cases c3 : (putTo S L k l l.length).err ≠ 0
 ·rw [if_pos c3] at he; exact absurd he c3
 rw [if_neg c3] at he ⊢
 have t := putTo_at h.inv L k l l.length (by simpa using c3)
 generalize (putTo S L k l l.length).dev = T at *
 dsimp only at he ⊢
 rw [show (256 + (k : Int)) = ((256 + k : Nat) : Int) by omega] at he ⊢
 obtain ⟨q1, q2, q3, q4, q5⟩ := Dev.persist_clean t.inv (256 + k) l.length (by omega) he
 have hfit := h.fits
 refine ⟨⟨Dev.persist_inv t.inv _ _, by rw [q1, t.lenC]; exact hfit, fun q h1 h2 => ?_⟩, k, rfl, by omega, by omega, hr, fun q h1 h2 => ?_⟩
 ·by_cases c : ∃ i, i < l.length ∧ (256 + k + i) / 8 = (256 + q) / 8
  ·obtain ⟨i, hi, e⟩ := c
   rw [← e]
   exact q4 (256 + k + i) (by omega) (by omega)
  ·refine q5 _ ?_
   rw [t.dirty _ (fun i hi e => c ⟨i, hi, e⟩)]
   exact h.clean q h1 h2
 ·rw [q1, t.cache]
  by_cases c : k ≤ q ∧ q < k + l.length
  ·rw [if_pos (by omega), if_pos c, show 256 + q - 256 = q by omega]
  ·rw [if_neg (by omega), if_neg c]
theorem fmtTo_inv {S : Dev} (h : S.inv) (k : Nat) : (S.fmtTo k).inv := by
 induction k with
 | zero => exact h
 | succ k ih =>
  unfold Dev.fmtTo
  split
  ·exact h
  ·exact Dev.store_inv ih _ _ (encN_lt _ _ _ _)
theorem fmt_clean {S : Dev} (h : S.inv) (hv : S.live) (ho : S.ok 100) {B : Nat} (hB2 : 2 ≤ B) (hlen : 256 + B ≤ S.cache.length) : Clean (S.fmt B) B := by
 obtain ⟨p1, p2, p3, p5, p4⟩ := fmtTo_props hv ho B hlen
 have he := (p1.persist 257 (B - 1) (by omega) (by rw [p3, p5]; exact h.wf.lenD) (by rw [p3]; omega)).1
 unfold Dev.fmt
 rw [show ((B : Int) - 1) = ((B - 1 : Nat) : Int) by omega]
 rw [show ((257 : Nat) : Int) = 257 from rfl] at he
 have hi := fmtTo_inv h B
 obtain ⟨q1, q2, q3, q4, q5⟩ := Dev.persist_clean hi 257 (B - 1) (by omega) he
 rw [show ((257 : Nat) : Int) = 257 from rfl] at q1 q4
 exact ⟨Dev.persist_inv hi _ _, by rw [q1, p3]; exact hlen, fun b h1 h2 => q4 (256 + b) (by omega) (by omega)⟩
structure Among (S : Dev) (i : Nat) (V : Nat → Prop) : Prop where
 cache : V (S.cache.getD i 0)
 lasting : V (S.lasting.getD i 0)
 flushed : S.pending.getD (i / 8) false = true → V (S.flushed.getD i 0)
section
variable {S : Dev} {i : Nat} {V : Nat → Prop}
theorem Among.step (h : Among S i V) : Among S.step i V := by
 obtain ⟨e1, e2, e3, e4, e5⟩ := S.step_rest
 exact ⟨by rw [e2]; exact h.cache, by rw [e1]; exact h.lasting, fun hp => by rw [e3]; rw [e5] at hp; exact h.flushed hp⟩
theorem Among.store (h : Among S i V) (j : Int) (x : Nat) (hx : j = (i : Int) → V x) : Among (S.store j x) i V := by
 unfold Dev.store
 by_cases c : j < 0 ∨ (S.cache.length : Int) ≤ j
 ·rw [if_pos c]; exact h
 ·rw [if_neg c]
  split
  ·exact h.step
  ·have k := h.step
   obtain ⟨e1, e2, e3, e4, e5⟩ := S.step_rest
   refine ⟨?_, k.lasting, k.flushed⟩
   show V ((S.step.cache.set j.toNat x).getD i 0)
   rw [getD_setN _ _ _ _ (by rw [e2]; omega)]
   by_cases e : i = j.toNat
   ·rw [if_pos e]; exact hx (by omega)
   ·rw [if_neg e]; exact k.cache
theorem Among.hold (h : Among S i V) (hS : S.wf) (j : Nat) (hj : j < S.dirty.length) : Among (S.hold j) i V := by
 unfold Dev.hold
 split
 ·have hD := hS.lenD
  refine ⟨h.cache, h.lasting, fun hp => ?_⟩
  dsimp only at hp ⊢
  rw [getD_setB _ _ _ _ (by rw [hS.lenP]; exact hj)] at hp
  rw [splice_seg_getD _ _ _ _ (by rw [hS.lenF]; omega) (by omega)]
  by_cases e : i / 8 = j
  ·rw [if_pos e]; exact h.cache
  ·rw [if_neg e] at hp ⊢
   exact h.flushed hp
 ·exact h
theorem Among.flush (h : Among S i V) (hS : S.inv) (j : Int) : Among (S.flush j) i V := by
 unfold Dev.flush
 by_cases c : j < 0 ∨ (S.dirty.length : Int) ≤ j
 ·rw [if_pos c]; exact h
 ·rw [if_neg c]
  split
  ·exact h.step
  ·exact h.step.hold (Dev.step_wf hS.wf) _ (by rw [S.step_rest.2.2.2.1]; omega)
theorem Among.fence (h : Among S i V) (hS : S.wf) : Among S.fence i V := by
 cases hs : S.stop
 ·have a := Dev.fence_at hS hs
  refine ⟨by rw [a.cache]; exact h.cache, ?_, fun hp => ?_⟩
  ·rw [a.lasting i]
   by_cases c : i / 8 < S.dirty.length ∧ S.pending.getD (i / 8) false = true
   ·rw [if_pos c]; exact h.flushed c.2
   ·rw [if_neg c]; exact h.lasting
  ·rw [a.flushed]
   rw [a.pending] at hp
   by_cases c : i / 8 < S.dirty.length
   ·rw [if_pos c] at hp; cases hp
   ·rw [if_neg c] at hp; exact h.flushed hp
 ·unfold Dev.fence
  rw [hs]
  exact h.step
theorem Among.flushRun (h : Among S i V) (hS : S.inv) (a : Nat) : ∀ m, Among (S.flushRun a m).dev i V
 | 0 => h
 | m + 1 => by
  have := Among.flushRun h hS a m
  rw [Dev.flushRun]
  split
  ·exact this
  ·exact this.flush (Dev.flushRun_inv hS a m) _
theorem Among.persist (h : Among S i V) (hS : S.inv) (p n : Int) : Among (S.persist p n).dev i V := by
 unfold Dev.persist
 split
 ·exact h
 ·split
  ·unfold Dev.persistN
   have := h.flushRun hS (p / 8).toNat ((p + n - 1) / 8 - p / 8 + 1).toNat
   split
   ·exact this
   ·exact this.fence (Dev.flushRun_inv hS _ _).wf
  ·exact h.fence hS.wf
theorem Among.putTo (h : Among S i V) (L : List Hd) (b : Nat) (l : List Hd) (hx : ∀ k, k < l.length → i = 256 + b + k → V (encN ((b + k : Nat) : Int) (l.getD k default).k (l.getD k default).c (l.getD k default).l)) : ∀ k, k ≤ l.length → Among (putTo S L b l k).dev i V
 | 0, _ => h
 | k + 1, hk => by
  have := Among.putTo h L b l hx k (by omega)
  unfold Go.Proofs.YtpopbfagliagnaaGreat.putTo putStep
  split
  ·exact this
  ·exact this.store _ _ (fun e => hx k (by omega) (by omega))
theorem Among.putAll (h : Among S i V) (hS : S.inv) (L : List Hd) (b : Int) (l : List Hd) (hx : ∀ k, k < l.length → (i : Int) = 256 + b + k → allRight l l.length → V (encN (b + k) (l.getD k default).k (l.getD k default).c (l.getD k default).l)) : Among (putAll S L b l).dev i V := by
 unfold Go.Proofs.YtpopbfagliagnaaGreat.putAll
 by_cases c : b < 1 ∨ (L.length : Int) < b ∨ (L.length : Int) - b < (l.length : Int) ∨ ¬ allRight l l.length
 ·rw [if_pos c]; exact h
 ·rw [if_neg c]
  split
  ·exact h
  ·have hr : allRight l l.length := Decidable.byContradiction fun h => c (.inr (.inr (.inr h)))
   have t := h.putTo L b.toNat l (fun k hk e => by
    have := hx k hk (by omega) hr
    rw [show ((b.toNat + k : Nat) : Int) = b + k by omega]
    exact this) l.length (Nat.le_refl _)
   unfold putIn
   split
   ·exact t
   ·exact t.persist (putTo_inv hS _ _ _ _) _ _
end
structure BmOk (B : Nat) (m : Bm) : Prop where
 lenL : m.list.length = B
 lenF : m.free.length = B
 clean : Clean m.dev B
 right : ∀ b, b < B → hdRight (m.list.getD b default).k (m.list.getD b default).c (m.list.getD b default).l = true
 word : ∀ b, 1 ≤ b → b < B → m.dev.cache.getD (256 + b) 0 = encN (b : Int) (m.list.getD b default).k (m.list.getD b default).c (m.list.getD b default).l
 free : ∀ b, fb m.free b = true ↔ 1 ≤ b ∧ b < B ∧ (m.list.getD b default).k = 0
 large : ∀ b, 1 ≤ b → b < B → (m.list.getD b default).k = 2 → (b : Int) + (m.list.getD b default).l ≤ B ∧ ∀ i : Nat, 1 ≤ i → (i : Int) < (m.list.getD b default).l → m.list.getD (b + i) default = ⟨3, 0, i⟩
def IsHd (q : Nat) (x : Nat) : Prop := (decN (q : Int) x).code = 0
theorem BmOk.among {B : Nat} {m : Bm} (h : BmOk B m) {q : Nat} (h1 : 1 ≤ q) (h2 : q < B) : Among m.dev (256 + q) (fun x => x = encN (q : Int) (m.list.getD q default).k (m.list.getD q default).c (m.list.getD q default).l) := by
 have hc := h.clean.clean q h1 h2
 refine ⟨h.word q h1 h2, ?_, fun hp => ?_⟩
 ·rw [h.clean.inv.sound _ hc]; exact h.word q h1 h2
 ·have := h.clean.inv.pend _ hp
  rw [hc] at this; cases this
theorem Among.mono {S : Dev} {i : Nat} {V V' : Nat → Prop} (h : Among S i V) (hv : ∀ x, V x → V' x) : Among S i V' := ⟨hv _ h.cache, hv _ h.lasting, fun hp => hv _ (h.flushed hp)⟩
def Stay (m m' : Bm) (B : Nat) (T : Nat → Prop) : Prop := m'.dev.inv ∧ m'.dev.cache.length = m.dev.cache.length ∧ ∀ q, 1 ≤ q → q < B → Among m'.dev (256 + q) (IsHd q) ∧ (¬ T q → Among m'.dev (256 + q) (fun x => x = encN (q : Int) (m.list.getD q default).k (m.list.getD q default).c (m.list.getD q default).l))
theorem isHd_enc {q : Nat} {k c l : Int} (h : hdRight k c l = true) : IsHd q (encN (q : Int) k c l) := by
 unfold IsHd; rw [dec_enc _ _ _ _ h]
theorem BmOk.stay {B : Nat} {m : Bm} (h : BmOk B m) (T : Nat → Prop) : Stay m m B T :=
 ⟨h.clean.inv, rfl, fun q h1 h2 => ⟨(h.among h1 h2).mono (fun x hx => by rw [hx]; exact isHd_enc (h.right q h2)), fun _ => h.among h1 h2⟩⟩
theorem store_clen (S : Dev) (i : Int) (x : Nat) : (S.store i x).cache.length = S.cache.length := by
 obtain ⟨_, e2, _⟩ := S.step_rest
 unfold Dev.store
 split
 ·rfl
 ·split
  ·rw [e2]
  ·show (S.step.cache.set i.toNat x).length = _
   rw [List.length_set, e2]
theorem flush_clen (S : Dev) (j : Int) : (S.flush j).cache.length = S.cache.length := by
 obtain ⟨_, e2, _⟩ := S.step_rest
 unfold Dev.flush
 split
 ·rfl
 ·split
  ·rw [e2]
  ·unfold Dev.hold
   split
   ·dsimp only; rw [e2]
   ·rw [e2]
theorem putTo_clen (S : Dev) (L : List Hd) (b : Nat) (l : List Hd) : ∀ i, (putTo S L b l i).dev.cache.length = S.cache.length
 | 0 => rfl
 | i + 1 => by
  have := putTo_clen S L b l i
  unfold putTo putStep
  split
  ·exact this
  ·dsimp only; rw [store_clen]; exact this
theorem flushRun_clen (S : Dev) (a : Nat) : ∀ m, (S.flushRun a m).dev.cache.length = S.cache.length
 | 0 => rfl
 | m + 1 => by
  have := flushRun_clen S a m
  rw [Dev.flushRun]
  split
  ·exact this
  ·dsimp only; rw [flush_clen]; exact this
theorem persist_clen {S : Dev} (h : S.inv) (p n : Int) : (S.persist p n).dev.cache.length = S.cache.length := by
 have hf : ∀ {U : Dev}, U.wf → U.fence.cache.length = U.cache.length := by
  intro U hU
  cases hs : U.stop
  ·rw [(Dev.fence_at hU hs).cache]
  ·unfold Dev.fence; rw [hs]; simp only [if_true]; rw [U.step_rest.2.1]
 unfold Dev.persist
 split
 ·rfl
 ·split
  ·unfold Dev.persistN
   split
   ·exact flushRun_clen _ _ _
   ·dsimp only; rw [hf (Dev.flushRun_inv h _ _).wf]; exact flushRun_clen _ _ _
  ·exact hf h.wf
theorem putAll_clen {S : Dev} (h : S.inv) (L : List Hd) (b : Int) (l : List Hd) : (putAll S L b l).dev.cache.length = S.cache.length := by
 unfold putAll
 split
 ·rfl
 ·split
  ·rfl
  ·unfold putIn
   split
   ·exact putTo_clen _ _ _ _ _
   ·dsimp only; rw [persist_clen (putTo_inv h _ _ _ _)]; exact putTo_clen _ _ _ _ _
theorem Stay.put {m m' : Bm} {B : Nat} {T : Nat → Prop} (h : Stay m m' B T) (L : List Hd) (b : Int) (l : List Hd) (f : List Bool) (l2 : List Hd) (hT : ∀ k : Nat, k < l.length → ∀ q : Nat, (q : Int) = b + k → T q) : Stay m ⟨(putAll m'.dev L b l).dev, l2, f⟩ B T := by
 obtain ⟨h1, h2, h3⟩ := h
 refine ⟨putAll_inv h1 _ _ _, by rw [← h2]; exact putAll_clen h1 _ _ _, fun q q1 q2 => ?_⟩
 obtain ⟨g1, g2⟩ := h3 q q1 q2
 refine ⟨g1.putAll h1 L b l (fun k hk e hr => ?_), fun hn => (g2 hn).putAll h1 L b l (fun k hk e _ => absurd (hT k hk q (by omega)) hn)⟩
 rw [show b + (k : Int) = (q : Int) by omega]
 exact isHd_enc (hr k hk)
structure BmW (B : Nat) (S : Dev) (L : List Hd) : Prop where
 lenL : L.length = B
 clean : Clean S B
 right : ∀ b, b < B → hdRight (L.getD b default).k (L.getD b default).c (L.getD b default).l = true
 word : ∀ b, 1 ≤ b → b < B → S.cache.getD (256 + b) 0 = encN (b : Int) (L.getD b default).k (L.getD b default).c (L.getD b default).l
theorem BmOk.w {B : Nat} {m : Bm} (h : BmOk B m) : BmW B m.dev m.list := ⟨h.lenL, h.clean, h.right, h.word⟩
theorem putTo_list (S : Dev) (L : List Hd) (b : Nat) (l : List Hd) : ∀ i, b + i ≤ L.length → (putTo S L b l i).err = 0 → ∀ q, (putTo S L b l i).list.getD q default = if b ≤ q ∧ q < b + i then l.getD (q - b) default else L.getD q default
 | 0, _, _, q => by rw [if_neg (by omega)]; rfl
 | i + 1, hi, he, q => by
  have hst : putTo S L b l (i + 1) = putStep (putTo S L b l i) (b + i) (l.getD i default) := rfl
  rw [hst] at he ⊢
  have hlen := putTo_len S L b l i
  unfold putStep at he ⊢
  by_cases h0 : (putTo S L b l i).err ≠ 0
  ·rw [if_pos h0] at he; exact absurd he h0
  rw [if_neg h0] at he ⊢
  have ih := putTo_list S L b l i (by omega) (by simpa using h0) q
  dsimp only at he ⊢
  rw [if_pos he]
  rw [List.getD_eq_getElem?_getD, List.getElem?_set]
  by_cases e : b + i = q
  ·rw [if_pos e, if_pos (by omega), if_pos (by omega), show q - b = i by omega]; rfl
  ·rw [if_neg e, ← List.getD_eq_getElem?_getD, ih]
   by_cases c : b ≤ q ∧ q < b + i
   ·rw [if_pos c, if_pos (by omega)]
   ·rw [if_neg c, if_neg (by omega)]
theorem BmW.put {B : Nat} {S : Dev} {L : List Hd} (h : BmW B S L) {k : Nat} {l : List Hd} (hk1 : 1 ≤ k) (hkB : k + l.length ≤ B) (hr : allRight l l.length) (he : (putAll S L (k : Int) l).err = 0) :
  BmW B (putAll S L (k : Int) l).dev (putAll S L (k : Int) l).list ∧ ∀ q, (putAll S L (k : Int) l).list.getD q default = if k ≤ q ∧ q < k + l.length then l.getD (q - k) default else L.getD q default := by
 obtain ⟨hc, k', e, _, _, _, hw⟩ := put_clean h.clean h.lenL he
 obtain rfl : k' = k := by omega
 have hlist : ∀ q, (putAll S L (k' : Int) l).list.getD q default = if k' ≤ q ∧ q < k' + l.length then l.getD (q - k') default else L.getD q default := by
  intro q
  rw [putAll_in S hk1 (by rw [h.lenL]; exact hkB) hr] at he ⊢
  by_cases hl : l.length = 0
  ·rw [if_pos hl, if_neg (by omega)]
  ·rw [if_neg hl] at he ⊢
   unfold putIn at he ⊢
   by_cases c : (putTo S L k' l l.length).err ≠ 0
   ·rw [if_pos c] at he; exact absurd he c
   ·rw [if_neg c]
    exact putTo_list S L k' l l.length (by rw [h.lenL]; exact hkB) (by simpa using c) q
 refine ⟨⟨by rw [putAll_len, h.lenL], hc, fun b hb => ?_, fun b h1 h2 => ?_⟩, hlist⟩
 ·rw [hlist b]
  by_cases c : k' ≤ b ∧ b < k' + l.length
  ·rw [if_pos c]; exact hr _ (by omega)
  ·rw [if_neg c]; exact h.right b hb
 ·rw [hw b h1 h2, hlist b]
  by_cases c : k' ≤ b ∧ b < k' + l.length
  ·rw [if_pos c, if_pos c]
  ·rw [if_neg c, if_neg c]; exact h.word b h1 h2
theorem step_dead {S : Dev} (h : S.stop = true) : S.step.dead = true := by unfold Dev.step; rw [if_pos h]
theorem flush_dead {S : Dev} {j : Int} (h0 : 0 ≤ j) (h1 : j < S.dirty.length) (he : S.flushE j ≠ 0) : (S.flush j).dead = true := by
 unfold Dev.flushE at he
 unfold Dev.flush
 rw [if_neg (by omega)] at he ⊢
 by_cases hs : S.stop = true
 ·rw [if_pos hs]; exact step_dead hs
 ·rw [if_neg hs] at he; exact absurd rfl he
theorem fence_dead {S : Dev} (he : S.fenceE ≠ 0) : S.fence.dead = true := by
 unfold Dev.fenceE at he
 unfold Dev.fence
 by_cases hs : S.stop = true
 ·rw [if_pos hs]; exact step_dead hs
 ·rw [if_neg hs] at he; exact absurd rfl he
theorem flushRun_dead {S : Dev} (a : Nat) : ∀ m, a + m ≤ S.dirty.length → (S.flushRun a m).err ≠ 0 → (S.flushRun a m).dev.dead = true
 | 0, _, h => absurd rfl h
 | m + 1, hm, h => by
  rw [Dev.flushRun] at h ⊢
  by_cases c : (S.flushRun a m).err ≠ 0
  ·rw [if_pos c] at h ⊢; exact flushRun_dead a m (by omega) h
  ·rw [if_neg c] at h ⊢
   exact flush_dead (by omega) (by rw [flushRun_dl]; omega) h
theorem persist_dead {S : Dev} (hS : S.inv) {p n : Nat} (hn : 0 < n) (hp : p + n ≤ S.cache.length) (he : (S.persist p n).err ≠ 0) : (S.persist p n).dev.dead = true := by
 have hD := hS.wf.lenD
 unfold Dev.persist at he ⊢
 rw [if_neg (by omega), if_pos (by omega)] at he ⊢
 unfold Dev.persistN at he ⊢
 by_cases c : (S.flushRun ((p : Int) / 8).toNat (((p : Int) + n - 1) / 8 - (p : Int) / 8 + 1).toNat).err ≠ 0
 ·rw [if_pos c] at he ⊢
  exact flushRun_dead _ _ (by omega) c
 ·rw [if_neg c] at he ⊢
  exact fence_dead he
theorem store_dead {S : Dev} {j : Int} {x : Nat} (h0 : 0 ≤ j) (h1 : j < S.cache.length) (he : S.storeE j ≠ 0) : (S.store j x).dead = true := by
 unfold Dev.storeE at he
 unfold Dev.store
 rw [if_neg (by omega)] at he ⊢
 by_cases hs : S.stop = true
 ·rw [if_pos hs]; exact step_dead hs
 ·rw [if_neg hs] at he; exact absurd rfl he
theorem putTo_dead {S : Dev} (L : List Hd) (b : Nat) (l : List Hd) : ∀ i, 256 + b + i ≤ S.cache.length → (putTo S L b l i).err ≠ 0 → (putTo S L b l i).dev.dead = true
 | 0, _, h => absurd rfl h
 | i + 1, hi, h => by
  have hst : putTo S L b l (i + 1) = putStep (putTo S L b l i) (b + i) (l.getD i default) := rfl
  rw [hst] at h ⊢
  unfold putStep at h ⊢
  by_cases c : (putTo S L b l i).err ≠ 0
  ·rw [if_pos c] at h ⊢; exact putTo_dead L b l i (by omega) h
  ·rw [if_neg c] at h ⊢
   exact store_dead (by omega) (by rw [putTo_clen]; omega) h
theorem putAll_dead {S : Dev} (hS : S.inv) {L : List Hd} {k : Nat} {l : List Hd} (hk1 : 1 ≤ k) (hkB : k + l.length ≤ L.length) (hr : allRight l l.length) (hf : 256 + L.length ≤ S.cache.length) : (putAll S L (k : Int) l).err = 0 ∨ (putAll S L (k : Int) l).dev.dead = true := by
 by_cases he : (putAll S L (k : Int) l).err = 0
 ·exact .inl he
 right
 rw [putAll_in S hk1 hkB hr] at he ⊢
 by_cases hl : l.length = 0
 ·rw [if_pos hl] at he; exact absurd rfl he
 ·rw [if_neg hl] at he ⊢
  unfold putIn at he ⊢
  by_cases c : (putTo S L k l l.length).err ≠ 0
  ·rw [if_pos c]
   exact putTo_dead L k l l.length (by omega) c
  ·rw [if_neg c] at he ⊢
   have : (256 : Int) + (k : Int) = ((256 + k : Nat) : Int) := by omega
   rw [this] at he ⊢
   exact persist_dead (putTo_inv hS L k l l.length) (by omega) (by rw [putTo_clen]; omega) he
theorem allRight_one {h : Hd} (hr : hdRight h.k h.c h.l = true) : allRight [h] [h].length := by
 intro i hi
 obtain rfl : i = 0 := by simp at hi; omega
 exact hr
variable {B : Nat} {m : Bm}
theorem run_free {f : List Bool} {a k n : Nat} (hr : IsRun (fb f) a k) (hn : n ≤ k) : ∀ q, a ≤ q → q < a + n → fb f q = true := fun q h1 h2 => hr.2.1 q h1 (by omega)
theorem BmOk.part {h : BmOk B m} {b i : Nat} (h1 : 1 ≤ b) (h2 : b < B) (hk : (m.list.getD b default).k = 2) (hi : 1 ≤ i) (hi2 : (i : Int) < (m.list.getD b default).l) : fb m.free (b + i) = false := by
 cases hq : fb m.free (b + i) with
 | false => rfl
 | true =>
  have := ((h.free (b + i)).1 hq).2.2
  rw [(h.large b h1 h2 hk).2 i hi hi2] at this
  cases this
theorem small_done (h : BmOk B m) (k : Int) : Stay m (m.small k).bm B (fun q => fb m.free q = true) ∧ ((m.small k).bm.dev.dead = true ∨ BmOk B (m.small k).bm) := by
 unfold Bm.small
 by_cases hr : hdRight 1 k 0 = false
 ·rw [if_pos hr]; exact ⟨h.stay _, .inr h⟩
 rw [if_neg hr]
 have hr' : hdRight 1 k 0 = true := by simpa using hr
 by_cases ht : (takeR m.free 1).2.2 ≠ 0
 ·rw [if_pos ht, takeR_err ht]; exact ⟨h.stay _, .inr h⟩
 rw [if_neg ht]
 obtain ⟨a, c, hta, hrun, hc, hfit⟩ := takeR_fit (l := m.free) (z := 1) (Nat.le_refl _) (by simpa using ht)
 have hta' : takeR m.free 1 = (setTo m.free a false 1, (a : Int), 0) := hta
 rw [hta']
 dsimp only
 have hfr := run_free hrun hc
 have hfa := hfr a (Nat.le_refl _) (by omega)
 obtain ⟨a1, a2, a3⟩ := (h.free a).1 hfa
 refine ⟨(h.stay _).put _ _ _ _ _ (fun j hj q e => ?_), ?_⟩
 ·have : q = a := by simp at hj; omega
  subst this; exact hfa
 ·have hone : allRight [(⟨1, k, 0⟩ : Hd)] [(⟨1, k, 0⟩ : Hd)].length := allRight_one hr'
  rcases putAll_dead h.clean.inv (L := m.list) a1 (by rw [h.lenL]; simp; omega) hone (by rw [h.lenL]; exact h.clean.fits) with he | hd
  ·right
   obtain ⟨hw, hl⟩ := h.w.put a1 (by simp; omega) hone he
   have hl' : ∀ q, (putAll m.dev m.list (a : Int) [⟨1, k, 0⟩]).list.getD q default = if q = a then ⟨1, k, 0⟩ else m.list.getD q default := by
    intro q
    rw [hl q]
    by_cases e : q = a
    ·subst e; rw [if_pos (by simp), if_pos rfl]; simp
    ·rw [if_neg (by simp; omega), if_neg e]
   refine ⟨hw.lenL, by rw [setTo_length, h.lenF], hw.clean, hw.right, hw.word, fun q => ?_, fun q q1 q2 hq => ?_⟩
   ·rw [setTo_ff hfit, hl' q]
    by_cases e : q = a
    ·subst e
     rw [if_pos rfl]
     constructor
     ·rintro ⟨h1, _⟩; exact absurd ⟨Nat.le_refl _, by omega⟩ h1
     ·rintro ⟨_, _, h3⟩; cases h3
    ·rw [if_neg e, ← h.free q]
     exact ⟨fun h => h.2, fun h => ⟨by omega, h⟩⟩
   ·dsimp only at hq ⊢
    rw [hl' q] at hq ⊢
    by_cases e : q = a
    ·rw [if_pos e] at hq; cases hq
    ·rw [if_neg e] at hq ⊢
     obtain ⟨g1, g2⟩ := h.large q q1 q2 hq
     refine ⟨g1, fun i i1 i2 => ?_⟩
     rw [hl' (q + i), if_neg (fun e2 => by
      have := BmOk.part (h := h) q1 q2 hq i1 i2
      rw [e2, hfa] at this; cases this)]
     exact g2 i i1 i2
  ·exact .inl hd
variable {B : Nat} {m : Bm}
theorem run_tail (n : Nat) : ((hdRun n n).drop 1).length = n - 1 ∧ ∀ i, i < n - 1 → ((hdRun n n).drop 1).getD i default = ⟨3, 0, ((i + 1 : Nat) : Int)⟩ := by
 refine ⟨by rw [List.length_drop, hdRun_len], fun i hi => ?_⟩
 rw [List.getD_eq_getElem?_getD, List.getElem?_drop, ← List.getD_eq_getElem?_getD, hdRun_getD n n (1 + i) (by omega), if_neg (by omega), show 1 + i = i + 1 by omega]
theorem large_done (h : BmOk B m) (z : Int) : Stay m (m.large z).bm B (fun q => fb m.free q = true) ∧ ((m.large z).bm.dev.dead = true ∨ BmOk B (m.large z).bm) := by
 unfold Bm.large
 by_cases hz : z < 1 ∨ 256 ≤ z
 ·rw [if_pos hz]; exact ⟨h.stay _, .inr h⟩
 rw [if_neg hz]
 obtain ⟨n, rfl⟩ := Int.eq_ofNat_of_zero_le (show 0 ≤ z by omega)
 have hn1 : 1 ≤ n := by omega
 have hn2 : n < 256 := by omega
 rw [show ((n : Int)).toNat = n from rfl]
 by_cases ht : (takeR m.free n).2.2 ≠ 0
 ·rw [if_pos ht, takeR_err ht]; exact ⟨h.stay _, .inr h⟩
 rw [if_neg ht]
 obtain ⟨a, c, hta, hrun, hc, hfit⟩ := takeR_fit (l := m.free) hn1 (by simpa using ht)
 rw [hta]
 dsimp only
 have hfr := run_free hrun hc
 have hfk : ∀ q, a ≤ q → q < a + n → 1 ≤ q ∧ q < B ∧ (m.list.getD q default).k = 0 := fun q h1 h2 => (h.free q).1 (hfr q h1 h2)
 have a1 := (hfk a (Nat.le_refl _) (by omega)).1
 have haB : a + n ≤ B := by rw [← h.lenF]; exact hfit
 obtain ⟨hlen, htl⟩ := run_tail n
 have hr1 : allRight ((hdRun n n).drop 1) ((hdRun n n).drop 1).length := by
  intro i hi
  rw [hlen] at hi
  rw [htl i hi]
  exact decide_eq_true (.inr (.inr ⟨.inr rfl, rfl, by dsimp only; omega⟩))
 have hs1 : Stay m ⟨(putAll m.dev m.list ((a : Int) + 1) ((hdRun n n).drop 1)).dev, (putAll m.dev m.list ((a : Int) + 1) ((hdRun n n).drop 1)).list, setTo m.free a false n⟩ B (fun q => fb m.free q = true) :=
  (h.stay _).put _ _ _ _ _ (fun j hj q e => hfr q (by omega) (by rw [hlen] at hj; omega))
 have e1 : (a : Int) + 1 = ((a + 1 : Nat) : Int) := by omega
 have hcase := putAll_dead h.clean.inv (L := m.list) (k := a + 1) (l := (hdRun n n).drop 1) (by omega) (by rw [h.lenL, hlen]; omega) hr1 (by rw [h.lenL]; exact h.clean.fits)
 rw [← e1] at hcase
 have hput := fun (he : (putAll m.dev m.list ((a : Int) + 1) ((hdRun n n).drop 1)).err = 0) => h.w.put (k := a + 1) (l := (hdRun n n).drop 1) (by omega) (by rw [hlen]; omega) hr1 (by rw [← e1]; exact he)
 rw [← e1] at hput
 generalize putAll m.dev m.list ((a : Int) + 1) ((hdRun n n).drop 1) = r1 at *
 by_cases he1 : r1.err ≠ 0
 ·rw [if_pos he1]
  refine ⟨hs1, ?_⟩
  rcases hcase with h0 | hd
  ·exact absurd h0 he1
  ·exact .inl hd
 rw [if_neg he1]
 obtain ⟨hw1, hl1⟩ := hput (by simpa using he1)
 refine ⟨hs1.put _ _ _ _ _ (fun j hj q e => ?_), ?_⟩
 ·have : q = a := by simp at hj; omega
  subst this; exact hfr q (Nat.le_refl _) (by omega)
 have hone : allRight [(⟨2, 0, (n : Int)⟩ : Hd)] [(⟨2, 0, (n : Int)⟩ : Hd)].length := allRight_one (decide_eq_true (.inr (.inr ⟨.inl rfl, rfl, by dsimp only; omega⟩)))
 rcases putAll_dead hw1.clean.inv (L := r1.list) a1 (by rw [hw1.lenL]; simp; omega) hone (by rw [hw1.lenL]; exact hw1.clean.fits) with he | hd
 ·right
  obtain ⟨hw, hl⟩ := hw1.put a1 (by simp; omega) hone he
  have hl' : ∀ q, (putAll r1.dev r1.list (a : Int) [⟨2, 0, (n : Int)⟩]).list.getD q default = if q = a then ⟨2, 0, (n : Int)⟩ else if a ≤ q ∧ q < a + n then ⟨3, 0, ((q - a : Nat) : Int)⟩ else m.list.getD q default := by
   intro q
   rw [hl q]
   by_cases e : q = a
   ·subst e; rw [if_pos (by simp), if_pos rfl]; simp
   ·rw [if_neg (by simp; omega), if_neg e, hl1 q, hlen]
    by_cases c2 : a ≤ q ∧ q < a + n
    ·rw [if_pos (by omega), if_pos c2, htl _ (by omega), show q - (a + 1) + 1 = q - a by omega]
    ·rw [if_neg (by omega), if_neg c2]
  refine ⟨hw.lenL, by rw [setTo_length, h.lenF], hw.clean, hw.right, hw.word, fun q => ?_, fun q q1 q2 hq => ?_⟩
  ·rw [setTo_ff hfit, hl' q]
   by_cases e : q = a
   ·subst e
    rw [if_pos rfl]
    constructor
    ·rintro ⟨h1, _⟩; exact absurd ⟨Nat.le_refl _, by omega⟩ h1
    ·rintro ⟨_, _, h3⟩; cases h3
   ·rw [if_neg e]
    by_cases c2 : a ≤ q ∧ q < a + n
    ·rw [if_pos c2]
     constructor
     ·rintro ⟨h1, _⟩; exact absurd c2 h1
     ·rintro ⟨_, _, h3⟩; cases h3
    ·rw [if_neg c2, ← h.free q]
     exact ⟨fun h => h.2, fun h => ⟨c2, h⟩⟩
  ·dsimp only at hq ⊢
   rw [hl' q] at hq ⊢
   by_cases e : q = a
   ·subst e
    rw [if_pos rfl] at hq ⊢
    dsimp only
    refine ⟨by omega, fun i i1 i2 => ?_⟩
    rw [hl' (q + i), if_neg (by omega), if_pos (by omega), show q + i - q = i by omega]
   ·rw [if_neg e] at hq ⊢
    by_cases c2 : a ≤ q ∧ q < a + n
    ·rw [if_pos c2] at hq; cases hq
    ·rw [if_neg c2] at hq ⊢
     obtain ⟨g1, g2⟩ := h.large q q1 q2 hq
     refine ⟨g1, fun i i1 i2 => ?_⟩
     have hnf := BmOk.part (h := h) q1 q2 hq i1 i2
     have hno : ¬ (a ≤ q + i ∧ q + i < a + n) := fun c => by rw [hfr _ c.1 c.2] at hnf; cases hnf
     rw [hl' (q + i), if_neg (by omega), if_neg hno]
     exact g2 i i1 i2
 ·exact .inl hd
def IsBack (m : Bm) (b : Int) (q : Nat) : Prop := (q : Int) = b ∨ ((m.list.getD q default).k = 3 ∧ (q : Int) - (m.list.getD q default).l = b)
theorem release_done (h : BmOk B m) (b : Int) : Stay m (m.release b).bm B (IsBack m b) ∧ ((m.release b).bm.dev.dead = true ∨ BmOk B (m.release b).bm) := by
 unfold Bm.release
 by_cases hk : (hdGet m.list b).k ≠ 1 ∧ (hdGet m.list b).k ≠ 2
 ·rw [if_pos hk]; exact ⟨h.stay _, .inr h⟩
 rw [if_neg hk]
 have hin := hdGet_in (l := m.list) (b := b) (by omega)
 rw [h.lenL] at hin
 obtain ⟨a, rfl⟩ := Int.eq_ofNat_of_zero_le (show 0 ≤ b by omega)
 have a1 : 1 ≤ a := by omega
 have a2 : a < B := by omega
 have hg : hdGet m.list (a : Int) = m.list.getD a default := by unfold hdGet; rw [if_neg (by rw [h.lenL]; omega)]; rfl
 rw [hg] at hk ⊢
 have hra := h.right a a2
 have hn : ∃ n : Nat, 1 ≤ n ∧ relN (m.list.getD a default) = (n : Int) ∧ a + n ≤ B ∧ (∀ i : Nat, 1 ≤ i → i < n → m.list.getD (a + i) default = ⟨3, 0, i⟩) := by
  have hri := of_decide_eq_true hra
  unfold HdRight at hri
  unfold relN
  by_cases h1 : (m.list.getD a default).k = 1
  ·exact ⟨1, Nat.le_refl _, by rw [if_pos h1]; rfl, by omega, fun i i1 i2 => by omega⟩
  ·have h2 : (m.list.getD a default).k = 2 := by omega
   obtain ⟨g1, g2⟩ := h.large a a1 a2 h2
   refine ⟨(m.list.getD a default).l.toNat, by omega, by rw [if_neg h1]; omega, by omega, fun i i1 i2 => g2 i i1 (by omega)⟩
 obtain ⟨n, n1, hn, haB, hcont⟩ := hn
 rw [hn, show ((n : Int) - 1).toNat = n - 1 by omega]
 dsimp only
 have hz : ∀ k, allRight (List.replicate k (⟨0, 0, 0⟩ : Hd)) (List.replicate k (⟨0, 0, 0⟩ : Hd)).length := by
  intro k i hi
  have : (List.replicate k (⟨0, 0, 0⟩ : Hd)).getD i default = ⟨0, 0, 0⟩ := by
   simp only [List.getD_eq_getElem?_getD, List.getElem?_replicate]
   split <;> rfl
  rw [this]; exact decide_eq_true (.inl ⟨rfl, rfl, rfl⟩)
 have hback : ∀ i : Nat, i < n → IsBack m (a : Int) (a + i) := by
  intro i hi
  by_cases i0 : i = 0
  ·subst i0; exact .inl (by omega)
  ·exact .inr ⟨by rw [hcont i (by omega) hi], by rw [hcont i (by omega) hi]; dsimp only; omega⟩
 have hs1 : Stay m ⟨(putAll m.dev m.list (a : Int) [⟨0, 0, 0⟩]).dev, (putAll m.dev m.list (a : Int) [⟨0, 0, 0⟩]).list, m.free⟩ B (IsBack m (a : Int)) :=
  (h.stay _).put _ _ _ _ _ (fun j hj q e => by
   have : q = a + 0 := by simp at hj; omega
   rw [this]; exact hback 0 (by omega))
 have hcase := putAll_dead h.clean.inv (L := m.list) (k := a) (l := [⟨0, 0, 0⟩]) a1 (by rw [h.lenL]; simp; omega) (hz 1) (by rw [h.lenL]; exact h.clean.fits)
 have hput := fun (he : (putAll m.dev m.list (a : Int) [⟨0, 0, 0⟩]).err = 0) => h.w.put (k := a) (l := [⟨0, 0, 0⟩]) a1 (by simp; omega) (hz 1) he
 generalize putAll m.dev m.list (a : Int) [⟨0, 0, 0⟩] = r1 at *
 by_cases he1 : r1.err ≠ 0
 ·rw [if_pos he1]
  refine ⟨hs1, ?_⟩
  rcases hcase with h0 | hd
  ·exact absurd h0 he1
  ·exact .inl hd
 rw [if_neg he1]
 obtain ⟨hw1, hl1⟩ := hput (by simpa using he1)
 have hs2 : Stay m ⟨(putAll r1.dev r1.list ((a : Int) + 1) (List.replicate (n - 1) ⟨0, 0, 0⟩)).dev, (putAll r1.dev r1.list ((a : Int) + 1) (List.replicate (n - 1) ⟨0, 0, 0⟩)).list, m.free⟩ B (IsBack m (a : Int)) :=
  hs1.put _ _ _ _ _ (fun j hj q e => by
   rw [List.length_replicate] at hj
   have : q = a + (j + 1) := by omega
   rw [this]; exact hback (j + 1) (by omega))
 have e1 : (a : Int) + 1 = ((a + 1 : Nat) : Int) := by omega
 have hcase2 := putAll_dead hw1.clean.inv (L := r1.list) (k := a + 1) (l := List.replicate (n - 1) ⟨0, 0, 0⟩) (by omega) (by rw [hw1.lenL, List.length_replicate]; omega) (hz _) (by rw [hw1.lenL]; exact hw1.clean.fits)
 have hput2 := fun (he : (putAll r1.dev r1.list ((a + 1 : Nat) : Int) (List.replicate (n - 1) ⟨0, 0, 0⟩)).err = 0) => hw1.put (k := a + 1) (l := List.replicate (n - 1) ⟨0, 0, 0⟩) (by omega) (by rw [List.length_replicate]; omega) (hz _) he
 rw [← e1] at hcase2 hput2
 generalize putAll r1.dev r1.list ((a : Int) + 1) (List.replicate (n - 1) ⟨0, 0, 0⟩) = r2 at *
 by_cases he2 : r2.err ≠ 0
 ·rw [if_pos he2]
  refine ⟨hs2, ?_⟩
  rcases hcase2 with h0 | hd
  ·exact absurd h0 he2
  ·exact .inl hd
 rw [if_neg he2]
 refine ⟨hs2, .inr ?_⟩
 obtain ⟨hw, hl2⟩ := hput2 (by simpa using he2)
 have hl : ∀ q, r2.list.getD q default = if a ≤ q ∧ q < a + n then ⟨0, 0, 0⟩ else m.list.getD q default := by
  intro q
  rw [hl2 q, List.length_replicate, hl1 q]
  by_cases c : a ≤ q ∧ q < a + n
  ·rw [if_pos c]
   by_cases c1 : a + 1 ≤ q ∧ q < a + 1 + (n - 1)
   ·rw [if_pos c1]
    simp only [List.getD_eq_getElem?_getD, List.getElem?_replicate]
    split <;> rfl
   ·rw [if_neg c1, if_pos (by simp; omega)]
    have : q - a = 0 := by omega
    rw [this]; rfl
  ·rw [if_neg c, if_neg (by omega), if_neg (by simp; omega)]
 have hnz : ∀ i : Nat, i < n → (m.list.getD (a + i) default).k ≠ 0 := by
  intro i hi
  by_cases i0 : i = 0
  ·subst i0; rw [Nat.add_zero]; omega
  ·rw [hcont i (by omega) hi]; show (3 : Int) ≠ 0; decide
 have hnf : anyFree m.free a n = false := anyFree_none (fun q q1 q2 => fb_no (fun hq => by
  have := ((h.free q).1 hq).2.2
  exact hnz (q - a) (by omega) (by rw [show a + (q - a) = q by omega]; exact this)))
 have hgo : giveR m.free (a : Int) (n : Int) = (setTo m.free a true n, 0) := giveR_ok ⟨a1, n1, by rw [h.lenF]; exact haB⟩ hnf
 rw [hgo]
 dsimp only
 refine ⟨hw.lenL, by rw [setTo_length, h.lenF], hw.clean, hw.right, hw.word, fun q => ?_, fun q q1 q2 hq => ?_⟩
 ·rw [setTo_tt (by rw [h.lenF]; exact haB), hl q]
  by_cases c : a ≤ q ∧ q < a + n
  ·rw [if_pos c]; exact ⟨fun _ => ⟨by omega, by omega, rfl⟩, fun _ => .inl c⟩
  ·rw [if_neg c, ← h.free q]
   exact ⟨fun h => h.resolve_left c, fun h => .inr h⟩
 ·dsimp only at hq ⊢
  rw [hl q] at hq ⊢
  by_cases c : a ≤ q ∧ q < a + n
  ·rw [if_pos c] at hq; cases hq
  ·rw [if_neg c] at hq ⊢
   obtain ⟨g1, g2⟩ := h.large q q1 q2 hq
   refine ⟨g1, fun i i1 i2 => ?_⟩
   have hgi := g2 i i1 i2
   have hno : ¬ (a ≤ q + i ∧ q + i < a + n) := fun c2 => by
    have hj := hcont (q + i - a)
    by_cases j0 : q + i = a
    ·rw [j0] at hgi
     have : (m.list.getD a default).k = 3 := by rw [hgi]
     omega
    ·have := hj (by omega) (by omega)
     rw [show a + (q + i - a) = q + i by omega, hgi] at this
     have h3 := congrArg Hd.l this
     dsimp only at h3
     omega
   rw [hl (q + i), if_neg hno]
   exact hgi
theorem putTo_live {S : Dev} (h : S.live) (L : List Hd) (b : Nat) (l : List Hd) : ∀ i, (putTo S L b l i).dev.live
 | 0 => h
 | i + 1 => by
  have hst : putTo S L b l (i + 1) = putStep (putTo S L b l i) (b + i) (l.getD i default) := rfl
  rw [hst]
  unfold putStep
  split
  ·exact putTo_live h L b l i
  ·exact (putTo_live h L b l i).store _ _
theorem putAll_live {S : Dev} (h : S.live) (hS : S.inv) {L : List Hd} {k : Nat} {l : List Hd} (hk1 : 1 ≤ k) (hkB : k + l.length ≤ L.length) (hr : allRight l l.length) (hf : 256 + L.length ≤ S.cache.length) :
  (putAll S L (k : Int) l).err = 0 ∧ (putAll S L (k : Int) l).dev.live := by
 have hl : (putAll S L (k : Int) l).dev.live := by
  rw [putAll_in S hk1 hkB hr]
  by_cases hl : l.length = 0
  ·rw [if_pos hl]; exact h
  ·rw [if_neg hl]
   unfold putIn
   by_cases c : (putTo S L k l l.length).err ≠ 0
   ·rw [if_pos c]; exact putTo_live h L k l _
   ·rw [if_neg c]
    have e : (256 : Int) + (k : Int) = ((256 + k : Nat) : Int) := by omega
    rw [e]
    exact (putTo_live h L k l _).persist_live _ _ (by omega) (putTo_inv hS L k l _).wf.lenD (by rw [putTo_clen]; omega)
 refine ⟨?_, hl⟩
 rcases putAll_dead hS hk1 hkB hr hf with h1 | h1
 ·exact h1
 ·rw [hl.1] at h1; cases h1
structure Far (B : Nat) (S T : Dev) : Prop where
 len : T.cache.length = S.cache.length
 word : ∀ j, ¬ (256 < j ∧ j < 256 + B) → T.cache.getD j 0 = S.cache.getD j 0
theorem Far.refl (B : Nat) (S : Dev) : Far B S S := ⟨rfl, fun _ _ => rfl⟩
theorem Far.trans {B : Nat} {S T U : Dev} (h : Far B S T) (k : Far B T U) : Far B S U := ⟨k.len.trans h.len, fun j hj => (k.word j hj).trans (h.word j hj)⟩
theorem put_far {S : Dev} {B : Nat} (h : Clean S B) {L : List Hd} (hL : L.length = B) {b : Int} {l : List Hd} (he : (putAll S L b l).err = 0) : Far B S (putAll S L b l).dev := by
 refine ⟨putAll_clen h.inv _ _ _, ?_⟩
 unfold putAll at he ⊢
 by_cases c1 : b < 1 ∨ (L.length : Int) < b ∨ (L.length : Int) - b < (l.length : Int) ∨ ¬ allRight l l.length
 ·rw [if_pos c1] at he; simp at he
 rw [if_neg c1] at he ⊢
 obtain ⟨k, rfl⟩ := Int.eq_ofNat_of_zero_le (show 0 ≤ b by omega)
 by_cases c2 : l.length = 0
 ·rw [if_pos c2]; exact fun _ _ => rfl
 rw [if_neg c2] at he ⊢
 rw [show ((k : Nat) : Int).toNat = k from rfl] at he ⊢
 unfold putIn at he ⊢
 by_cases c3 : (putTo S L k l l.length).err ≠ 0
 ·rw [if_pos c3] at he; exact absurd he c3
 rw [if_neg c3] at he ⊢
 have t := putTo_at h.inv L k l l.length (by simpa using c3)
 generalize (putTo S L k l l.length).dev = T at *
 dsimp only at he ⊢
 rw [show (256 + (k : Int)) = ((256 + k : Nat) : Int) by omega] at he ⊢
 obtain ⟨q1, _⟩ := Dev.persist_clean t.inv (256 + k) l.length (by omega) he
 intro j hj
 rw [q1, t.cache, if_neg (by omega)]
variable {B : Nat} {m : Bm}
theorem live_alive {S : Dev} (h : S.live) (hd : S.dead = true) : False := by rw [h.1] at hd; cases hd
theorem small_live (h : BmOk B m) (hv : m.dev.live) (k : Nat) (hk : k < 32) :
  (m.small (k : Int) = ⟨m, 0, 4⟩ ∧ pick 1 (runsOf m.free) = none) ∨
  ∃ b : Nat, (m.small (k : Int)).b = (b : Int) ∧ (m.small (k : Int)).err = 0 ∧ 1 ≤ b ∧ b < B ∧ fb m.free b = true ∧ BmOk B (m.small (k : Int)).bm ∧ (m.small (k : Int)).bm.dev.live ∧ Far B m.dev (m.small (k : Int)).bm.dev ∧
   (∀ q, (m.small (k : Int)).bm.list.getD q default = if q = b then ⟨1, k, 0⟩ else m.list.getD q default) ∧ (m.small (k : Int)).bm.free = setTo m.free b false 1 ∧ pick 1 (runsOf m.free) ≠ none := by
 have hr : hdRight 1 (k : Int) 0 = true := decide_eq_true (.inr (.inl ⟨rfl, ⟨by omega, by omega⟩, rfl⟩))
 have hd := (small_done h (k : Int)).2
 unfold Bm.small at hd ⊢
 rw [if_neg (by rw [hr]; simp)] at hd ⊢
 cases hp : pick 1 (runsOf m.free) with
 | none =>
  have ht := takeR_none (l := m.free) (m := 1) (Nat.le_refl _) hp
  rw [show ((1 : Nat) : Int) = 1 from rfl] at ht
  rw [ht] at hd ⊢
  exact .inl ⟨rfl, rfl⟩
 | some x =>
  right
  have ht := takeR_some (l := m.free) (m := 1) (Nat.le_refl _) hp
  rw [show ((1 : Nat) : Int) = 1 from rfl] at ht
  rw [ht] at hd ⊢
  rw [if_neg (by simp)] at hd ⊢
  dsimp only at hd ⊢
  obtain ⟨hrun, hc⟩ := pick_run hp
  obtain ⟨a, c⟩ := x
  dsimp only at *
  have hfa := run_free hrun hc a (Nat.le_refl _) (by omega)
  obtain ⟨a1, a2, a3⟩ := (h.free a).1 hfa
  have hone : allRight [(⟨1, k, 0⟩ : Hd)] [(⟨1, k, 0⟩ : Hd)].length := allRight_one hr
  obtain ⟨he, hl⟩ := putAll_live hv h.clean.inv (L := m.list) (k := a) (l := [⟨1, k, 0⟩]) a1 (by rw [h.lenL]; simp; omega) hone (by rw [h.lenL]; exact h.clean.fits)
  obtain ⟨_, hls⟩ := h.w.put (k := a) (l := [⟨1, k, 0⟩]) a1 (by simp; omega) hone he
  refine ⟨a, by rw [if_pos he], he, a1, a2, hfa, hd.resolve_left (fun hd => live_alive hl hd), hl, put_far h.clean h.lenL he, fun q => ?_, rfl, by simp⟩
  rw [hls q]
  by_cases e : q = a
  ·subst e; rw [if_pos (by simp), if_pos rfl]; simp
  ·rw [if_neg (by simp; omega), if_neg e]
theorem large_live (h : BmOk B m) (hv : m.dev.live) (n : Nat) (h1 : 1 ≤ n) (h2 : n < 256) :
  (m.large (n : Int) = ⟨m, 0, 4⟩ ∧ pick n (runsOf m.free) = none) ∨
  ∃ b : Nat, (m.large (n : Int)).b = (b : Int) ∧ (m.large (n : Int)).err = 0 ∧ 1 ≤ b ∧ b + n ≤ B ∧ (∀ q, b ≤ q → q < b + n → fb m.free q = true) ∧ BmOk B (m.large (n : Int)).bm ∧ (m.large (n : Int)).bm.dev.live ∧ Far B m.dev (m.large (n : Int)).bm.dev ∧
   (∀ q, (m.large (n : Int)).bm.list.getD q default = if q = b then ⟨2, 0, n⟩ else if b ≤ q ∧ q < b + n then ⟨3, 0, ((q - b : Nat) : Int)⟩ else m.list.getD q default) ∧ (m.large (n : Int)).bm.free = setTo m.free b false n ∧ pick n (runsOf m.free) ≠ none := by
 have hd := (large_done h (n : Int)).2
 unfold Bm.large at hd ⊢
 rw [if_neg (by omega)] at hd ⊢
 rw [show ((n : Int)).toNat = n from rfl] at hd ⊢
 cases hp : pick n (runsOf m.free) with
 | none =>
  have ht := takeR_none (l := m.free) (m := n) h1 hp
  rw [ht] at hd ⊢
  exact .inl ⟨rfl, rfl⟩
 | some x =>
  right
  have ht := takeR_some (l := m.free) (m := n) h1 hp
  rw [ht] at hd ⊢
  rw [if_neg (by simp)] at hd ⊢
  dsimp only at hd ⊢
  obtain ⟨hrun, hc⟩ := pick_run hp
  have hrl := runEnds hrun
  obtain ⟨a, c⟩ := x
  dsimp only at *
  have hfr := run_free hrun hc
  have a1 := ((h.free a).1 (hfr a (Nat.le_refl _) (by omega))).1
  have haB : a + n ≤ B := by rw [← h.lenF]; omega
  obtain ⟨hlen, htl⟩ := run_tail n
  have hr1 : allRight ((hdRun n n).drop 1) ((hdRun n n).drop 1).length := by
   intro i hi
   rw [hlen] at hi
   rw [htl i hi]
   exact decide_eq_true (.inr (.inr ⟨.inr rfl, rfl, by dsimp only; omega⟩))
  have e1 : (a : Int) + 1 = ((a + 1 : Nat) : Int) := by omega
  obtain ⟨he1, hl1⟩ := putAll_live hv h.clean.inv (L := m.list) (k := a + 1) (l := (hdRun n n).drop 1) (by omega) (by rw [h.lenL, hlen]; omega) hr1 (by rw [h.lenL]; exact h.clean.fits)
  obtain ⟨hw1, hls1⟩ := h.w.put (k := a + 1) (l := (hdRun n n).drop 1) (by omega) (by rw [hlen]; omega) hr1 he1
  have hf1 := put_far h.clean h.lenL he1
  rw [← e1] at he1 hl1 hw1 hls1 hf1
  generalize putAll m.dev m.list ((a : Int) + 1) ((hdRun n n).drop 1) = r1 at *
  rw [if_neg (by rw [he1]; simp)] at hd ⊢
  dsimp only at hd ⊢
  have hone : allRight [(⟨2, 0, (n : Int)⟩ : Hd)] [(⟨2, 0, (n : Int)⟩ : Hd)].length := allRight_one (decide_eq_true (.inr (.inr ⟨.inl rfl, rfl, by dsimp only; omega⟩)))
  obtain ⟨he, hl⟩ := putAll_live hl1 hw1.clean.inv (L := r1.list) (k := a) (l := [⟨2, 0, (n : Int)⟩]) a1 (by rw [hw1.lenL]; simp; omega) hone (by rw [hw1.lenL]; exact hw1.clean.fits)
  obtain ⟨_, hls⟩ := hw1.put (k := a) (l := [⟨2, 0, (n : Int)⟩]) a1 (by simp; omega) hone he
  refine ⟨a, by rw [if_pos he], he, a1, haB, hfr, hd.resolve_left (fun hd => live_alive hl hd), hl, hf1.trans (put_far hw1.clean hw1.lenL he), fun q => ?_, rfl, by simp⟩
  rw [hls q]
  by_cases e : q = a
  ·subst e; rw [if_pos (by simp), if_pos rfl]; simp
  ·rw [if_neg (by simp; omega), if_neg e, hls1 q, hlen]
   by_cases c2 : a ≤ q ∧ q < a + n
   ·rw [if_pos (by omega), if_pos c2, htl _ (by omega), show q - (a + 1) + 1 = q - a by omega]
   ·rw [if_neg (by omega), if_neg c2]
theorem rel_many (h : BmOk B m) {a : Nat} (a1 : 1 ≤ a) (a2 : a < B) (hk : (m.list.getD a default).k = 1 ∨ (m.list.getD a default).k = 2) :
  ∃ n : Nat, 1 ≤ n ∧ relN (m.list.getD a default) = (n : Int) ∧ a + n ≤ B ∧ ∀ i : Nat, 1 ≤ i → i < n → m.list.getD (a + i) default = ⟨3, 0, i⟩ := by
 have hri := of_decide_eq_true (h.right a a2)
 unfold HdRight at hri
 unfold relN
 by_cases h1 : (m.list.getD a default).k = 1
 ·exact ⟨1, Nat.le_refl _, by rw [if_pos h1]; rfl, by omega, fun i i1 i2 => by omega⟩
 ·have h2 : (m.list.getD a default).k = 2 := by omega
  obtain ⟨g1, g2⟩ := h.large a a1 a2 h2
  exact ⟨(m.list.getD a default).l.toNat, by omega, by rw [if_neg h1]; omega, by omega, fun i i1 i2 => g2 i i1 (by omega)⟩
theorem hdGet_at (h : BmOk B m) {a : Nat} (a1 : 1 ≤ a) (a2 : a < B) : hdGet m.list (a : Int) = m.list.getD a default := by unfold hdGet; rw [if_neg (by rw [h.lenL]; omega)]; rfl
theorem release_live (h : BmOk B m) (hv : m.dev.live) {a : Nat} (a1 : 1 ≤ a) (a2 : a < B) (hk : (m.list.getD a default).k = 1 ∨ (m.list.getD a default).k = 2) (n : Nat) (hn : relN (m.list.getD a default) = (n : Int)) :
  (m.release (a : Int)).err = 0 ∧ BmOk B (m.release (a : Int)).bm ∧ (m.release (a : Int)).bm.dev.live ∧ Far B m.dev (m.release (a : Int)).bm.dev ∧
   (∀ q, (m.release (a : Int)).bm.list.getD q default = if a ≤ q ∧ q < a + n then ⟨0, 0, 0⟩ else m.list.getD q default) ∧ (m.release (a : Int)).bm.free = setTo m.free a true n := by
 have hd := (release_done h (a : Int)).2
 obtain ⟨n', n1, hn', haB, hcont⟩ := rel_many h a1 a2 hk
 obtain rfl : n' = n := by omega
 have hg := hdGet_at h a1 a2
 unfold Bm.release at hd ⊢
 rw [hg] at hd ⊢
 rw [if_neg (by omega)] at hd ⊢
 rw [hn, show ((n' : Int) - 1).toNat = n' - 1 by omega] at hd ⊢
 dsimp only at hd ⊢
 have hz : ∀ k, allRight (List.replicate k (⟨0, 0, 0⟩ : Hd)) (List.replicate k (⟨0, 0, 0⟩ : Hd)).length := by
  intro k i hi
  have : (List.replicate k (⟨0, 0, 0⟩ : Hd)).getD i default = ⟨0, 0, 0⟩ := by
   simp only [List.getD_eq_getElem?_getD, List.getElem?_replicate]
   split <;> rfl
  rw [this]; exact decide_eq_true (.inl ⟨rfl, rfl, rfl⟩)
 obtain ⟨he1, hl1⟩ := putAll_live hv h.clean.inv (L := m.list) (k := a) (l := [⟨0, 0, 0⟩]) a1 (by rw [h.lenL]; simp; omega) (hz 1) (by rw [h.lenL]; exact h.clean.fits)
 obtain ⟨hw1, hls1⟩ := h.w.put (k := a) (l := [⟨0, 0, 0⟩]) a1 (by simp; omega) (hz 1) he1
 have hf1 := put_far h.clean h.lenL he1
 generalize putAll m.dev m.list (a : Int) [⟨0, 0, 0⟩] = r1 at *
 rw [if_neg (by rw [he1]; simp)] at hd ⊢
 have e1 : (a : Int) + 1 = ((a + 1 : Nat) : Int) := by omega
 obtain ⟨he2, hl2⟩ := putAll_live hl1 hw1.clean.inv (L := r1.list) (k := a + 1) (l := List.replicate (n' - 1) ⟨0, 0, 0⟩) (by omega) (by rw [hw1.lenL, List.length_replicate]; omega) (hz _) (by rw [hw1.lenL]; exact hw1.clean.fits)
 obtain ⟨hw2, hls2⟩ := hw1.put (k := a + 1) (l := List.replicate (n' - 1) ⟨0, 0, 0⟩) (by omega) (by rw [List.length_replicate]; omega) (hz _) he2
 have hf2 := put_far hw1.clean hw1.lenL he2
 rw [← e1] at he2 hl2 hls2 hf2
 generalize putAll r1.dev r1.list ((a : Int) + 1) (List.replicate (n' - 1) ⟨0, 0, 0⟩) = r2 at *
 rw [if_neg (by rw [he2]; simp)] at hd ⊢
 dsimp only at hd ⊢
 have hnz : ∀ i : Nat, i < n' → (m.list.getD (a + i) default).k ≠ 0 := by
  intro i hi
  by_cases i0 : i = 0
  ·subst i0; rw [Nat.add_zero]; omega
  ·rw [hcont i (by omega) hi]; show (3 : Int) ≠ 0; decide
 have hnf : anyFree m.free a n' = false := anyFree_none (fun q q1 q2 => fb_no (fun hq => by
  have := ((h.free q).1 hq).2.2
  exact hnz (q - a) (by omega) (by rw [show a + (q - a) = q by omega]; exact this)))
 have hgo : giveR m.free (a : Int) (n' : Int) = (setTo m.free a true n', 0) := giveR_ok ⟨a1, n1, by rw [h.lenF]; exact haB⟩ hnf
 rw [hgo] at hd ⊢
 refine ⟨rfl, hd.resolve_left (fun hd => live_alive hl2 hd), hl2, hf1.trans hf2, fun q => ?_, rfl⟩
 rw [hls2 q, List.length_replicate, hls1 q]
 by_cases c : a ≤ q ∧ q < a + n'
 ·rw [if_pos c]
  by_cases c1 : a + 1 ≤ q ∧ q < a + 1 + (n' - 1)
  ·rw [if_pos c1]
   simp only [List.getD_eq_getElem?_getD, List.getElem?_replicate]
   split <;> rfl
  ·rw [if_neg c1, if_pos (by simp; omega)]
   have : q - a = 0 := by omega
   rw [this]; rfl
 ·rw [if_neg c, if_neg (by omega), if_neg (by simp; omega)]
end Go.Proofs.YtpopbfagliagnaaGreat
namespace Go.Proofs.YtpopbfagliagnaaGreat
open Go.RowKit
abbrev vob (p d : Int) : Value := .agg #[.int .i64 p, .int .i64 d]
def obN (p d : Int) : Nat := (165 + 256 * p + 16384 * d).toNat
def oencN (a p d : Int) : Nat := if objSize p d = 0 then 0 else sealN (obN p d) (pl a)
theorem obj_small {p d : Int} (h : objSize p d ≠ 0) : (0 ≤ p ∧ p < 64) ∧ (0 ≤ d ∧ d ≤ 16384) := by
 unfold objSize at h
 split at h
 ·exact absurd rfl h
 ·omega
theorem obN_lt {p d : Int} (h : objSize p d ≠ 0) : obN p d < 4294967296 := by
 have := obj_small h
 unfold obN
 omega
theorem oencN_lt (a p d : Int) : oencN a p d < 18446744073709551616 := by
 unfold oencN
 split
 ·decide
 ·rename_i h; exact sealN_lt _ _ (obN_lt h)
set_option maxHeartbeats 1000000 in
theorem oencode_any (a p d : Int) (w : World) : Calls Tryz.prog 258 #[vob p d, .int .i64 a] w fun e w' => e = .returned (vu64 (oencN a p d)) ∧ Below w.heap.size w w' := by
 have hb := below_alloc w (Obj.cells #[Value.int .i64 p, Value.int .i64 d] 169)
 have hg := heap_alloc_new w (Obj.cells #[Value.int .i64 p, Value.int .i64 d] 169)
 go_enter Tryz.func258, Tryz.ntmps258
 go_wp2_with fail
 generalize w.alloc (Obj.cells #[Value.int .i64 p, Value.int .i64 d] 169) = w0 at *
 refine (osize_any p d w0).mono ?_
 rintro e w1 ⟨rfl, hb1⟩
 have hgl : w.heap.size < w0.heap.size := (Array.getElem?_eq_some_iff.1 hg).1
 have hbb := hb.trans (hb1.mono hb.size)
 have hg1 : w1.heap[w.heap.size]? = _ := (hb1.block _ hgl).trans hg
 have c0 : w1.cell? ⟨w.heap.size, 0, none⟩ = some (.int .i64 p) := cell_of_row _ _ 0 _ _ _ hg1
 have c1 : w1.cell? ⟨w.heap.size, 1, none⟩ = some (.int .i64 d) := cell_of_row _ _ 1 _ _ _ hg1
 clear hb hb1 hg hgl hg1
 by_cases hr : objSize p d = 0
 ·have HE : Hid (oencN a p d = 0) := LH (by unfold oencN; rw [if_pos hr])
  rw [hr]
  clear hr
  go_wp2_with fail
  go_ret
  exact ⟨ret_int (by rw [HE.out]; rfl), hbb⟩
 ·have HE : Hid (oencN a p d = sealN (obN p d) (pl a)) := LH (by unfold oencN; rw [if_neg hr])
  have hn := obN_lt hr
  obtain ⟨⟨p0, p1⟩, d0, d1⟩ := obj_small hr
  have HN : Hid (obN p d = (165 + p.toNat * 256 + d.toNat * 16384)) := LH (by unfold obN; omega)
  have hz : (((objSize p d : Nat) : Int) == 0) = false := by simp; omega
  generalize objSize p d = sz at *
  clear hr
  obtain ⟨p, rfl⟩ := Int.eq_ofNat_of_zero_le p0
  obtain ⟨d, rfl⟩ := Int.eq_ofNat_of_zero_le d0
  simp only [Int.toNat_natCast] at HN
  have P1 : Hid (Calls Tryz.prog 272 #[vu64 165, .int .i64 8, .int .i64 6, vu64 p] w1 fun e w' => e = .returned (vu64 (165 + p * 256)) ∧ w1 = w') := LH (put_any 165 8 6 p (by omega) (by omega) (by decide) (by decide) w1)
  have P2 : Hid (Calls Tryz.prog 272 #[vu64 (165 + p * 256), .int .i64 14, .int .i64 15, vu64 d] w1 fun e w' => e = .returned (vu64 (165 + p * 256 + d * 16384)) ∧ w1 = w') := LH (put_any (165 + p * 256) 14 15 d (by omega) (by omega) (by decide) (by decide) w1)
  go_wp2_with fail
  refine P1.out.mono ?_
  rintro e w2 ⟨rfl, rfl⟩
  go_wp2_with fail
  refine P2.out.mono ?_
  rintro e w2 ⟨rfl, rfl⟩
  rw [← HN.out]
  generalize obN (p : Int) (d : Int) = n at *
  clear P1 P2
  go_wp2_with fail
  refine (seal_any n _ hn _).mono ?_
  rintro e w2 ⟨rfl, hb2⟩
  rw [← HE.out]
  go_wp2_with fail
  go_ret
  exact ⟨rfl, hbb.trans (hb2.mono hbb.size)⟩
theorem aggOb : Agg Tryz.prog 169 #[.int .i64 0, .int .i64 0] := ⟨⟨_, Tryz.underlying169, rfl⟩, by kernel_rfl⟩
structure Odec where
 p : Int
 d : Int
 code : Int
def odecS (a : Int) (x n : Nat) : Odec := if oencN a (n / 256 % 64 : Nat) (n / 16384 % 32768 : Nat) = x then ⟨(n / 256 % 64 : Nat), (n / 16384 % 32768 : Nat), 0⟩ else ⟨0, 0, 26⟩
def odecN (a : Int) (x : Nat) : Odec := ((openN x (pl a)).map (odecS a x)).getD ⟨0, 0, 25⟩
def Odec.val (o : Odec) : Value := .tuple #[vob o.p o.d, .int .i64 o.code]
theorem odecN_none {a : Int} {x : Nat} (h : openN x (pl a) = none) : (odecN a x).val = .tuple #[vob 0 0, .int .i64 25] := by unfold odecN; rw [h]; rfl
theorem odecN_some {a : Int} {x n : Nat} (h : openN x (pl a) = some n) : odecN a x = odecS a x n := by unfold odecN; rw [h]; rfl
theorem odecN_ok {a : Int} {x n : Nat} (h : openN x (pl a) = some n) (he : oencN a (n / 256 % 64 : Nat) (n / 16384 % 32768 : Nat) = x) :
  (odecN a x).val = .tuple #[vob (n / 256 % 64 : Nat) (n / 16384 % 32768 : Nat), .int .i64 0] := by
 rw [odecN_some h, odecS, if_pos he]; rfl
theorem odecN_bad {a : Int} {x n : Nat} (h : openN x (pl a) = some n) (he : oencN a (n / 256 % 64 : Nat) (n / 16384 % 32768 : Nat) ≠ x) :
  (odecN a x).val = .tuple #[vob 0 0, .int .i64 26] := by
 rw [odecN_some h, odecS, if_neg he]; rfl
set_option maxHeartbeats 1000000 in
theorem odecode_any (a : Int) (x : Nat) (hx : x < 18446744073709551616) (w : World) :
  Calls Tryz.prog 181 #[.int .i64 a, vu64 x] w fun e w' => e = .returned (odecN a x).val ∧ Below w.heap.size w w' := by
 have hbA := below_alloc w (Obj.cells #[Value.int .i64 0, Value.int .i64 0] 169)
 have hg := heap_alloc_new w (Obj.cells #[Value.int .i64 0, Value.int .i64 0] 169)
 go_enter Tryz.func181, Tryz.ntmps181
 go_wp2_with fail
 generalize w.alloc (Obj.cells #[Value.int .i64 0, Value.int .i64 0] 169) = w0 at *
 refine (open_any x _ hx w0).mono ?_
 rintro e w1 ⟨rfl, hbo⟩
 have hgl : w.heap.size < w0.heap.size := (Array.getElem?_eq_some_iff.1 hg).1
 have hbb := hbA.trans (hbo.mono hbA.size)
 have hg1 : w1.heap[w.heap.size]? = _ := (hbo.block _ hgl).trans hg
 clear hbA hbo hg hgl
 cases ho : openN x (pl a) with
 | none =>
  have HV := LH (odecN_none ho)
  clear ho
  simp only [openV]
  go_wp2_with (refine wpList_store_row (cs := #[.int .i64 0, .int .i64 0]) aggOb hg1 rfl rfl (by simp [Value.oneCell']) rfl rfl rfl rfl ?_; intro w2 hg2 hgr2 hs2)
  refine bodyPost_ret (results_cell_row2 (p := 4) (u := 5) rfl _ _ _ _ _ _ _ rfl hg2 Tryz.underlying169 rfl (by kernel_rfl)) rfl ⟨by rw [HV.out]; rfl, ?_⟩
  exact hbb.grown hgr2 hbb.size (fun k e => by cases e; omega)
 | some n =>
  obtain ⟨hn, -⟩ := openN_some ho
  have HK := LH (odecN_ok ho)
  have HL := LH (odecN_bad ho)
  clear ho
  simp only [openV]
  have G1 : Hid (∀ w, Calls Tryz.prog 224 #[vu64 n, .int .i64 8, .int .i64 6] w fun e w' => e = .returned (vu64 (n / 256 % 64)) ∧ w = w') := LH (fun w => get_any n 8 6 (by omega) (by decide) (by decide) (by decide) w)
  have G2 : Hid (∀ w, Calls Tryz.prog 224 #[vu64 n, .int .i64 14, .int .i64 15] w fun e w' => e = .returned (vu64 (n / 16384 % 32768)) ∧ w = w') := LH (fun w => get_any n 14 15 (by omega) (by decide) (by decide) (by decide) w)
  have h64 : n / 256 % 64 < 64 := by omega
  have h6 : n / 16384 % 32768 < 32768 := by omega
  generalize n / 256 % 64 = k at *
  generalize n / 16384 % 32768 = l at *
  go_wp2_with fail
  refine (G1.out _).mono ?_
  rintro e w2 ⟨rfl, rfl⟩
  go_wp2_with fail
  refine (G2.out _).mono ?_
  rintro e w2 ⟨rfl, rfl⟩
  clear G1 G2
  go_wp2_with fail
  have hb1 := below_alloc w1 (Obj.cells #[Value.int .i64 (k : Int), Value.int .i64 (l : Int)] 169)
  have hg2 := heap_alloc_new w1 (Obj.cells #[Value.int .i64 (k : Int), Value.int .i64 (l : Int)] 169)
  generalize w1.alloc (Obj.cells #[Value.int .i64 (k : Int), Value.int .i64 (l : Int)] 169) = w2 at *
  refine (oencode_any a k l w2).mono ?_
  rintro e w3 ⟨rfl, hb3⟩
  have hgl : w.heap.size < w1.heap.size := (Array.getElem?_eq_some_iff.1 hg1).1
  have hgl2 : w1.heap.size < w2.heap.size := (Array.getElem?_eq_some_iff.1 hg2).1
  have hb3' := hbb.trans ((hb1.trans (hb3.mono hb1.size)).mono hbb.size)
  have hg3 : w3.heap[w.heap.size]? = _ := (hb3.block _ (by omega)).trans ((hb1.block _ hgl).trans hg1)
  have hg4 : w3.heap[w1.heap.size]? = _ := (hb3.block _ hgl2).trans hg2
  have he := oencN_lt a k l
  clear hb1 hb3 hg1 hg2 hbb
  generalize oencN a k l = y at *
  by_cases hyx : y = x
  ·have HV := LH (HK.out hyx)
   subst hyx
   have d0 : w3.cell? ⟨w1.heap.size, 0, none⟩ = some (.int .i64 k) := cell_of_row _ _ 0 _ _ _ hg4
   have d1 : w3.cell? ⟨w1.heap.size, 1, none⟩ = some (.int .i64 l) := cell_of_row _ _ 1 _ _ _ hg4
   go_wp2_with (refine wpList_store_row (cs := #[.int .i64 k, .int .i64 l]) aggOb hg3 rfl rfl (by simp [Value.oneCell']) rfl rfl rfl rfl ?_; intro w4 hg5 hgr4 hs4)
   refine bodyPost_ret (results_cell_row2 (p := 4) (u := 5) rfl _ _ _ _ _ _ _ rfl hg5 Tryz.underlying169 rfl (by kernel_rfl)) rfl ⟨by rw [HV.out]; rfl, ?_⟩
   exact hb3'.grown hgr4 hb3'.size (fun k e => by cases e; omega)
  ·have HV := LH (HL.out hyx)
   have hne : ¬ ((y : Int) = (x : Int)) := by omega
   clear hyx
   go_wp2_with (refine wpList_store_row (cs := #[.int .i64 0, .int .i64 0]) aggOb hg3 rfl rfl (by simp [Value.oneCell']) rfl rfl rfl rfl ?_; intro w4 hg5 hgr4 hs4)
   refine bodyPost_ret (results_cell_row2 (p := 4) (u := 5) rfl _ _ _ _ _ _ _ rfl hg5 Tryz.underlying169 rfl (by kernel_rfl)) rfl ⟨by rw [HV.out]; rfl, ?_⟩
   exact hb3'.grown hgr4 hb3'.size (fun k e => by cases e; omega)
theorem odec_size {a : Int} {x : Nat} (h : (odecN a x).code = 0) : objSize (odecN a x).p (odecN a x).d ≠ 0 ∧ oencN a (odecN a x).p (odecN a x).d = x := by
 unfold odecN at h ⊢
 cases ho : openN x (pl a) with
 | none => rw [ho] at h; simp at h
 | some n =>
  rw [ho] at h
  simp only [Option.map_some, Option.getD_some] at h ⊢
  obtain ⟨h1, h2⟩ := openN_some ho
  unfold odecS at h ⊢
  split
  ·rename_i he
   dsimp only
   refine ⟨fun hs => ?_, he⟩
   unfold oencN at he
   rw [if_pos hs] at he
   subst he
   simp at h2
   subst h2
   revert hs
   decide
  ·rename_i he
   rw [if_neg he] at h
   simp at h
def headN (S : Dev) (a : Int) : Odec :=
 if a < 0 ∨ (S.cache.length : Int) ≤ a then ⟨0, 0, 22⟩ else
  if (odecN a (peek S.cache a)).code ≠ 0 ∨ (S.cache.length : Int) - a < (objSize (odecN a (peek S.cache a)).p (odecN a (peek S.cache a)).d : Nat) then ⟨0, 0, 22⟩ else ⟨(odecN a (peek S.cache a)).p, (odecN a (peek S.cache a)).d, 0⟩
theorem headN_code (S : Dev) (a : Int) : ((headN S a).code = 0 ∧ 0 ≤ a ∧ a < S.cache.length ∧ objSize (headN S a).p (headN S a).d ≠ 0 ∧ a + (objSize (headN S a).p (headN S a).d : Nat) ≤ S.cache.length ∧ oencN a (headN S a).p (headN S a).d = peek S.cache a) ∨ headN S a = ⟨0, 0, 22⟩ := by
 have hz := odec_size (a := a) (x := peek S.cache a)
 unfold headN
 generalize odecN a (peek S.cache a) = x at *
 obtain ⟨p, d, c⟩ := x
 dsimp only at hz ⊢
 split
 ·exact .inr rfl
 ·split
  ·exact .inr rfl
  ·rename_i h1 h2
   have hc : c = 0 := Decidable.byContradiction fun h => h2 (.inl h)
   have := hz hc
   generalize oencN a p d = y at *
   generalize objSize p d = s at *
   exact .inl ⟨rfl, by omega, by omega, this.1, by omega, this.2⟩
set_option maxHeartbeats 2000000 in
set_option maxRecDepth 20000 in
theorem ohead_any {w : World} {F : Foot} {S : Dev} (h : DevAt w F S) (a : Int) :
  Calls Tryz.prog 84 #[vdev F, .int .i64 a] w fun e w' => e = .returned (headN S a).val ∧ Below w.heap.size w w' := by
 have hbA := below_alloc w (Obj.cells #[Value.int .i64 0, Value.int .i64 0] 169)
 have hg := heap_alloc_new w (Obj.cells #[Value.int .i64 0, Value.int .i64 0] 169)
 have hd := h.below hbA
 have hsm := h.small
 have HE : Hid (∀ x : Odec, x = ⟨0, 0, 22⟩ → x.val = .tuple #[vob 0 0, .int .i64 22]) := LH (by rintro x rfl; rfl)
 have HB := LH hbA
 have HD := LH hd
 clear hbA hd h
 by_cases h0 : a < 0
 ·have HV : Hid (headN S a = ⟨0, 0, 22⟩) := LH (by unfold headN; rw [if_pos (.inl h0)])
  go_enter Tryz.func84, Tryz.ntmps84
  go_wp2_with (refine wpList_store_row (cs := #[.int .i64 0, .int .i64 0]) aggOb hg rfl rfl (by simp [Value.oneCell']) rfl rfl rfl rfl ?_; intro w4 hg5 hgr4 hs4)
  refine bodyPost_ret (results_cell_row2 (p := 4) (u := 5) rfl _ _ _ _ _ _ _ rfl hg5 Tryz.underlying169 rfl (by kernel_rfl)) rfl ⟨by rw [HE.out _ HV.out]; rfl, ?_⟩
  exact HB.out.grown hgr4 HB.out.size (fun k e => by cases e; omega)
 by_cases h1 : (S.cache.length : Int) ≤ a
 ·have HV : Hid (headN S a = ⟨0, 0, 22⟩) := LH (by unfold headN; rw [if_pos (.inr h1)])
  go_enter Tryz.func84, Tryz.ntmps84
  go_wp2_with fail
  refine (dlen_any HD.out).mono ?_
  rintro e w1 ⟨rfl, rfl⟩
  go_wp2_with (refine wpList_store_row (cs := #[.int .i64 0, .int .i64 0]) aggOb hg rfl rfl (by simp [Value.oneCell']) rfl rfl rfl rfl ?_; intro w4 hg5 hgr4 hs4)
  refine bodyPost_ret (results_cell_row2 (p := 4) (u := 5) rfl _ _ _ _ _ _ _ rfl hg5 Tryz.underlying169 rfl (by kernel_rfl)) rfl ⟨by rw [HE.out _ HV.out]; rfl, ?_⟩
  exact HB.out.grown hgr4 HB.out.size (fun k e => by cases e; omega)
 have HV0 : Hid (headN S a = if (odecN a (peek S.cache a)).code ≠ 0 ∨ (S.cache.length : Int) - a < (objSize (odecN a (peek S.cache a)).p (odecN a (peek S.cache a)).d : Nat) then ⟨0, 0, 22⟩ else ⟨(odecN a (peek S.cache a)).p, (odecN a (peek S.cache a)).d, 0⟩) := LH (by unfold headN; rw [if_neg (by omega)])
 go_enter Tryz.func84, Tryz.ntmps84
 go_wp2_with fail
 refine (dlen_any HD.out).mono ?_
 rintro e w1 ⟨rfl, rfl⟩
 go_wp2_with fail
 refine (dget_any HD.out a).mono ?_
 rintro e w1 ⟨rfl, rfl⟩
 have hpk := peek_lt HD.out.u64C a
 generalize w.alloc (Obj.cells #[Value.int .i64 0, Value.int .i64 0] 169) = w0 at *
 go_wp2_with fail
 refine (odecode_any a _ hpk _).mono ?_
 rintro e w1 ⟨rfl, hb1⟩
 have hg0 : w.heap.size < w0.heap.size := (Array.getElem?_eq_some_iff.1 hg).1
 have hg1 : w1.heap[w.heap.size]? = _ := (hb1.block _ hg0).trans hg
 have HB1 := LH (HB.out.trans (hb1.mono HB.out.size))
 have HD1 := LH (HD.out.below hb1)
 clear hb1 hg HB HD hpk
 generalize odecN a (peek S.cache a) = x at *
 obtain ⟨p, d, c⟩ := x
 unfold Odec.val
 dsimp only at HV0 ⊢
 have hbx := below_alloc w1 (Obj.cells #[Value.int .i64 p, Value.int .i64 d] 169)
 have hg2 := (hbx.block w.heap.size (by have := HB1.out.size; exact (Array.getElem?_eq_some_iff.1 hg1).1)).trans hg1
 have HB2 := LH (HB1.out.trans (hbx.mono HB1.out.size))
 have HD2 := LH (HD1.out.below hbx)
 have e0 : (w1.alloc (Obj.cells #[Value.int .i64 p, Value.int .i64 d] 169)).cell? ⟨w1.heap.size, 0, none⟩ = some (.int .i64 p) := cell_alloc_new _ _ _ 0 _ rfl
 have e1 : (w1.alloc (Obj.cells #[Value.int .i64 p, Value.int .i64 d] 169)).cell? ⟨w1.heap.size, 1, none⟩ = some (.int .i64 d) := cell_alloc_new _ _ _ 1 _ rfl
 clear hbx hg1 HB1 HD1
 by_cases hc : c = 0
 ·subst hc
  go_wp2_with fail
  refine (osize_any p d _).mono ?_
  rintro e w2 ⟨rfl, hb2⟩
  generalize w1.alloc (Obj.cells #[Value.int .i64 p, Value.int .i64 d] 169) = w1' at *
  have hg3 : w2.heap[w.heap.size]? = _ := (hb2.block _ (Array.getElem?_eq_some_iff.1 hg2).1).trans hg2
  have HB3 := LH (HB2.out.trans (hb2.mono HB2.out.size))
  have HD3 := LH (HD2.out.below hb2)
  have f0 := below_cells hb2 e0 (Nat.le_refl _)
  have f1 := below_cells hb2 e1 (Nat.le_refl _)
  clear hb2 HB2 HD2 hg2 e0 e1
  go_wp2_with fail
  refine (dlen_any HD3.out).mono ?_
  rintro e w3 ⟨rfl, rfl⟩
  have hw1 : IntKind.i64.wrap ((S.cache.length : Int) - a) = (S.cache.length : Int) - a := IntWalk.i64_in _ (by omega)
  by_cases hs : (S.cache.length : Int) - a < (objSize p d : Nat)
  ·have HV : Hid (headN S a = ⟨0, 0, 22⟩) := LH (by rw [HV0.out, if_pos (.inr hs)])
   go_wp2_with (refine wpList_store_row (cs := #[.int .i64 0, .int .i64 0]) aggOb hg3 rfl rfl (by simp [Value.oneCell']) rfl rfl rfl rfl ?_; intro w4 hg5 hgr4 hs4)
   refine bodyPost_ret (results_cell_row2 (p := 4) (u := 5) rfl _ _ _ _ _ _ _ rfl hg5 Tryz.underlying169 rfl (by kernel_rfl)) rfl ⟨by rw [HE.out _ HV.out]; rfl, ?_⟩
   exact HB3.out.grown hgr4 HB3.out.size (fun k e => by cases e; omega)
  ·have HV : Hid (headN S a = ⟨p, d, 0⟩) := LH (by rw [HV0.out, if_neg (fun h => h.elim (fun h => h rfl) hs)])
   go_wp2_with (refine wpList_store_row (cs := #[.int .i64 p, .int .i64 d]) aggOb hg3 rfl rfl (by simp [Value.oneCell']) rfl rfl rfl rfl ?_; intro w4 hg5 hgr4 hs4)
   refine bodyPost_ret (results_cell_row2 (p := 4) (u := 5) rfl _ _ _ _ _ _ _ rfl hg5 Tryz.underlying169 rfl (by kernel_rfl)) rfl ⟨by rw [HV.out]; rfl, ?_⟩
   exact HB3.out.grown hgr4 HB3.out.size (fun k e => by cases e; omega)
 ·have HV : Hid (headN S a = ⟨0, 0, 22⟩) := LH (by rw [HV0.out, if_pos (.inl hc)])
  have hc1 : (c != 0) = true := by simpa using hc
  clear hc
  go_wp2_with (refine wpList_store_row (cs := #[.int .i64 0, .int .i64 0]) aggOb hg2 rfl rfl (by simp [Value.oneCell']) rfl rfl rfl rfl ?_; intro w4 hg5 hgr4 hs4)
  refine bodyPost_ret (results_cell_row2 (p := 4) (u := 5) rfl _ _ _ _ _ _ _ rfl hg5 Tryz.underlying169 rfl (by kernel_rfl)) rfl ⟨by rw [HE.out _ HV.out]; rfl, ?_⟩
  exact HB2.out.grown hgr4 HB2.out.size (fun k e => by cases e; omega)
def zeroTo (S : Dev) (a : Nat) : Nat → Done
 | 0 => ⟨S, 0⟩
 | k + 1 => if (zeroTo S a k).err ≠ 0 then zeroTo S a k else ⟨(zeroTo S a k).dev.store ((a + 1 + k : Nat) : Int) 0, (zeroTo S a k).dev.storeE ((a + 1 + k : Nat) : Int)⟩
def Dev.initN (S : Dev) (a : Nat) (n : Nat) (x : Nat) : Done :=
 if (zeroTo S a (n - 1)).err ≠ 0 then zeroTo S a (n - 1) else ⟨(zeroTo S a (n - 1)).dev.store (a : Int) x, (zeroTo S a (n - 1)).dev.storeE (a : Int)⟩
def Dev.init (S : Dev) (a p d : Int) : Done :=
 if objSize p d = 0 then ⟨S, 5⟩ else if a < 0 ∨ (S.cache.length : Int) ≤ a ∨ (S.cache.length : Int) - a < (objSize p d : Nat) then ⟨S, 2⟩ else S.initN a.toNat (objSize p d) (oencN a p d)
theorem zeroTo_stays (S : Dev) (a m : Nat) : ∀ k, m ≤ k → (zeroTo S a m).err ≠ 0 → zeroTo S a k = zeroTo S a m := by
  intro k
  induction k with
  | zero => intro h _; obtain rfl : m = 0 := by omega
            rfl
  | succ k ih =>
    intro hk hne
    by_cases e : m = k + 1
    · rw [e]
    · have := ih (by omega) hne
      rw [zeroTo, this, if_pos hne]
theorem zeroTo_ok {S : Dev} {N : Nat} (h : S.ok N) (a k : Nat) : (zeroTo S a k).dev.ok (N + k) := by
 induction k with
 | zero => exact h
 | succ k ih =>
  unfold zeroTo
  split
  ·exact ih.mono (by omega)
  ·exact Dev.store_okN ih _ _
set_option maxHeartbeats 2000000 in
set_option maxRecDepth 20000 in
theorem oinit_any {w : World} {F : Foot} {S : Dev} (h : DevAt w F S) {N : Nat} (hN : N ≤ 100000000000) (ho : S.ok N) (a p d : Int) :
  Calls Tryz.prog 234 #[vdev F, .int .i64 a, vob p d] w fun e w' => e = .returned (.int .i64 (S.init a p d).err) ∧ DevAt w' F (S.init a p d).dev ∧ Touch F.list w w' := by
 have hbx := below_alloc w (Obj.cells #[Value.int .i64 p, Value.int .i64 d] 169)
 have e0 : (w.alloc (Obj.cells #[Value.int .i64 p, Value.int .i64 d] 169)).cell? ⟨w.heap.size, 0, none⟩ = some (.int .i64 p) := cell_alloc_new _ _ _ 0 _ rfl
 have e1 : (w.alloc (Obj.cells #[Value.int .i64 p, Value.int .i64 d] 169)).cell? ⟨w.heap.size, 1, none⟩ = some (.int .i64 d) := cell_alloc_new _ _ _ 1 _ rfl
 have HI : Hid (S.init a p d = if objSize p d = 0 then ⟨S, 5⟩ else if a < 0 ∨ (S.cache.length : Int) ≤ a ∨ (S.cache.length : Int) - a < (objSize p d : Nat) then ⟨S, 2⟩ else S.initN a.toNat (objSize p d) (oencN a p d)) := LH rfl
 have HMem := LH h.mem
 have HD0 := LH (h.below hbx)
 have HT0 : Hid (Touch F.list w (w.alloc (Obj.cells #[Value.int .i64 p, Value.int .i64 d] 169))) := LH (Touch.ofBelow hbx)
 have hsm := h.small
 have hsz := objSize_le p d
 clear hbx h
 generalize S.init a p d = R at *
 go_enter Tryz.func234, Tryz.ntmps234
 go_wp2_with fail
 refine (osize_any p d _).mono ?_
 rintro e w1 ⟨rfl, hb1⟩
 generalize w.alloc (Obj.cells #[Value.int .i64 p, Value.int .i64 d] 169) = w0 at *
 have f0 := below_cells hb1 e0 (Nat.le_refl _)
 have f1 := below_cells hb1 e1 (Nat.le_refl _)
 have HD1 := LH (HD0.out.below hb1)
 have HT1 : Hid (Touch F.list w w1) := LH (HT0.out.trans (Touch.ofBelow hb1))
 obtain ⟨q, hq⟩ : ∃ q, q = w.heap.size := ⟨_, rfl⟩
 rw [← hq] at f0 f1 ⊢
 have hqF : q ∉ F.list := fun hm => by have := HMem.out q hm; omega
 clear hb1 HD0 HT0 e0 e1 hq
 have HEn : Hid (oencN a p d < 18446744073709551616) := LH (oencN_lt a p d)
 generalize hs : objSize p d = n at *
 have HS := LH hs
 clear hs
 by_cases hn0 : n = 0
 ·subst hn0
  have HV : Hid (R = ⟨S, 5⟩) := LH (by rw [HI.out, if_pos rfl])
  go_wp2_with fail
  go_ret
  rw [HV.out]
  exact ⟨rfl, HD1.out, HT1.out⟩
 have hn0' : ((n : Int) == 0) = false := by simp; omega
 by_cases h0 : a < 0
 ·have HV : Hid (R = ⟨S, 2⟩) := LH (by rw [HI.out, if_neg hn0, if_pos (.inl h0)])
  go_wp2_with fail
  go_ret
  rw [HV.out]
  exact ⟨rfl, HD1.out, HT1.out⟩
 by_cases h1 : (S.cache.length : Int) ≤ a
 ·have HV : Hid (R = ⟨S, 2⟩) := LH (by rw [HI.out, if_neg hn0, if_pos (.inr (.inl h1))])
  go_wp2_with fail
  refine (dlen_any HD1.out).mono ?_
  rintro e w2 ⟨rfl, rfl⟩
  go_wp2_with fail
  go_ret
  rw [HV.out]
  exact ⟨rfl, HD1.out, HT1.out⟩
 obtain ⟨j, rfl⟩ := Int.eq_ofNat_of_zero_le (show 0 ≤ a by omega)
 have h0d : decide ((j : Int) < 0) = false := by simp
 have h1d : decide ((S.cache.length : Int) ≤ (j : Int)) = false := by simpa using h1
 have hw1 : IntKind.i64.wrap ((S.cache.length : Int) - (j : Int)) = (S.cache.length : Int) - (j : Int) := IntWalk.i64_in _ (by omega)
 have hjl : (j : Int) < (S.cache.length : Int) := by omega
 have h1n : decide (S.cache.length ≤ j) = false := by simp; omega
 clear h0 h1
 go_wp2_with fail
 refine (dlen_any HD1.out).mono ?_
 rintro e w2 ⟨rfl, rfl⟩
 go_wp2_with fail
 refine (dlen_any HD1.out).mono ?_
 rintro e w2 ⟨rfl, rfl⟩
 by_cases h2 : (S.cache.length : Int) - (j : Int) < (n : Int)
 ·have HV : Hid (R = ⟨S, 2⟩) := LH (by rw [HI.out, if_neg hn0, if_pos (.inr (.inr h2))])
  go_wp2_with fail
  go_ret
  rw [HV.out]
  exact ⟨rfl, HD1.out, HT1.out⟩
 have HV : Hid (R = S.initN j n (oencN (j : Int) p d)) := LH (by rw [HI.out, if_neg hn0, if_neg (by omega)]; rfl)
 have h2d : decide ((S.cache.length : Int) - (j : Int) < (n : Int)) = false := by simpa using h2
 have hjn : (j : Int) + (n : Int) ≤ (S.cache.length : Int) := by omega
 clear HI h2
 go_wp2_with fail
 go_loopw [8] (fun i wr => ∃ k : Nat, k + 1 ≤ n ∧ i = .int .i64 ((k : Int) + 1) ∧ (zeroTo S j k).err = 0 ∧ DevAt wr F (zeroTo S j k).dev ∧ Touch F.list w wr ∧ wr.cell? ⟨q, 0, none⟩ = some (.int .i64 p) ∧ wr.cell? ⟨q, 1, none⟩ = some (.int .i64 d)) (fun i _ => n - (intOf i).toNat)
 case atStart => exact ⟨0, by omega, rfl, rfl, HD1.out, HT1.out, f0, f1⟩
 case round =>
  obtain ⟨k, hk, rfl, he, hd, ht, g0, g1⟩ := hrel
  have HOk := LH (zeroTo_ok ho j k)
  have HStay := LH (zeroTo_stays S j (k + 1) (n - 1))
  have HZ : Hid (zeroTo S j (k + 1) = if (zeroTo S j k).err ≠ 0 then zeroTo S j k else ⟨(zeroTo S j k).dev.store ((j + 1 + k : Nat) : Int) 0, (zeroTo S j k).dev.storeE ((j + 1 + k : Nat) : Int)⟩) := LH rfl
  have HIn : Hid (S.initN j n (oencN (j : Int) p d) = if (zeroTo S j (n - 1)).err ≠ 0 then zeroTo S j (n - 1) else ⟨(zeroTo S j (n - 1)).dev.store (j : Int) (oencN (j : Int) p d), (zeroTo S j (n - 1)).dev.storeE (j : Int)⟩) := LH rfl
  have HZK : Hid (k + 1 = n → zeroTo S j (n - 1) = zeroTo S j k) := LH (fun h => by rw [← h]; rfl)
  generalize zeroTo S j k = Z at *
  have HE := LH he
  have HD := LH hd
  have HT := LH ht
  clear he hd ht f0 f1
  by_cases hlt : (k : Int) + 1 < (n : Int)
  ·have hw2 : IntKind.i64.wrap ((j : Int) + ((k : Int) + 1)) = (j : Int) + ((k : Int) + 1) := IntWalk.i64_in _ (by omega)
   go_wp2_with fail
   refine (store_any HD.out (N := N + k) (by omega) HOk.out _ 0 (by decide)).mono ?_
   rintro e w2 ⟨rfl, hd2, ht2⟩
   have hc : ((j + 1 + k : Nat) : Int) = (j : Int) + ((k : Int) + 1) := by omega
   have HZ2 : Hid (zeroTo S j (k + 1) = ⟨Z.dev.store ((j : Int) + ((k : Int) + 1)) 0, Z.dev.storeE ((j : Int) + ((k : Int) + 1))⟩) := LH (by rw [HZ.out, if_neg (by rw [HE.out]; simp), hc])
   clear hc
   generalize Z.dev.store ((j : Int) + ((k : Int) + 1)) 0 = S2 at *
   generalize Z.dev.storeE ((j : Int) + ((k : Int) + 1)) = E2 at *
   have i0 := cell_of_touch ht2 (p := ⟨q, 0, none⟩) hqF g0
   have i1 := cell_of_touch ht2 (p := ⟨q, 1, none⟩) hqF g1
   have HD2 := LH hd2
   have HT2 : Hid (Touch F.list w w2) := LH (HT.out.trans ht2)
   clear hd2 ht2 g0 g1 HT HD
   by_cases hz : E2 = 0
   ·subst hz
    go_wp2_with fail
    exact ⟨⟨k + 1, by omega, vint (by omega), by rw [HZ2.out], by rw [HZ2.out]; exact HD2.out, HT2.out, i0, i1⟩, by simp [intOf]; omega⟩
   ·have hz1 : (E2 != 0) = true := by simpa using hz
    have HR : Hid (R = ⟨S2, E2⟩) := LH (by
     have h1 := HStay.out (by omega) (by rw [HZ2.out]; exact hz)
     rw [HV.out, HIn.out, h1, HZ2.out, if_pos hz])
    clear hz
    go_wp2_with fail
    go_ret
    rw [HR.out]
    exact ⟨rfl, HD2.out, HT2.out⟩
  ·have hkn : k + 1 = n := by omega
   have HR : Hid (R = ⟨Z.dev.store (j : Int) (oencN (j : Int) p d), Z.dev.storeE (j : Int)⟩) := LH (by rw [HV.out, HIn.out, HZK.out hkn, if_neg (by rw [HE.out]; simp)])
   clear hkn
   go_wp2_with fail
   refine (oencode_any _ p d _).mono ?_
   rintro e w2 ⟨rfl, hb2⟩
   have HD2 := LH (HD.out.below hb2)
   have HT2 : Hid (Touch F.list w w2) := LH (HT.out.trans (Touch.ofBelow hb2))
   clear hb2 HD HT
   go_wp2_with fail
   refine (store_any HD2.out (N := N + k) (by omega) HOk.out _ _ HEn.out).mono ?_
   rintro e w3 ⟨rfl, hd3, ht3⟩
   have HD3 := LH hd3
   have HT3 : Hid (Touch F.list w w3) := LH (HT2.out.trans ht3)
   clear hd3 ht3
   go_wp2_with fail
   go_ret
   rw [HR.out]
   exact ⟨rfl, HD3.out, HT3.out⟩
def Dev.lastsTo (S : Dev) (a : Int) (k : Nat) : Prop := ∀ i : Nat, i < k → peek S.lasting (a + (i : Int)) = peek S.cache (a + (i : Int))
instance (S : Dev) (a : Int) (k : Nat) : Decidable (S.lastsTo a k) := Nat.decidableBallLT k _
end Go.Proofs.YtpopbfagliagnaaGreat
namespace Go.Proofs.YtpopbfagliagnaaGreat
theorem odec_enc {a p d : Int} (h : objSize p d ≠ 0) : odecN a (oencN a p d) = ⟨p, d, 0⟩ := by
 obtain ⟨⟨p0, p1⟩, d0, d1⟩ := obj_small h
 have hlt := obN_lt h
 have hn2 : ((obN p d : Nat) : Int) = 165 + 256 * p + 16384 * d := by unfold obN; omega
 have he : oencN a p d = sealN (obN p d) (pl a) := by unfold oencN; rw [if_neg h]
 generalize obN p d = n at *
 have ho : openN (oencN a p d) (pl a) = some n := by
  unfold openN; rw [he, sealN_mod n _ hlt, if_pos rfl]
 have e2 : ((n / 256 % 64 : Nat) : Int) = p := by omega
 have e3 : ((n / 16384 % 32768 : Nat) : Int) = d := by omega
 rw [odecN_some ho]
 unfold odecS
 rw [e2, e3, if_pos rfl]
structure Kept (S : Dev) (a : Nat) (p d : Int) (ws : List Nat) : Prop where
 live : S.live
 inv : S.inv
 size : objSize p d = ws.length + 1
 fits : a + 1 + ws.length ≤ S.cache.length
 head : S.cache.getD a 0 = oencN (a : Int) p d
 words : ∀ j, j < ws.length → S.cache.getD (a + 1 + j) 0 = ws.getD j 0
theorem Kept.headN {S : Dev} {a : Nat} {p d : Int} {ws : List Nat} (h : Kept S a p d ws) : headN S a = ⟨p, d, 0⟩ := by
 have hs := h.size
 have hf := h.fits
 have hne : objSize p d ≠ 0 := by omega
 have hd := odec_enc (a := (a : Int)) hne
 unfold Go.Proofs.YtpopbfagliagnaaGreat.headN
 rw [if_neg (by omega)]
 have hp : peek S.cache (a : Int) = oencN (a : Int) p d := by rw [peek_in]; exact h.head
 rw [hp, hd]
 dsimp only
 rw [if_neg (by rw [hs]; intro h; rcases h with h | h; exact h rfl; omega)]
theorem zeroTo_live {S : Dev} (h : S.live) (hi : S.inv) (a : Nat) : ∀ k, a + 1 + k ≤ S.cache.length → (zeroTo S a k).err = 0 ∧ (zeroTo S a k).dev.live ∧ (zeroTo S a k).dev.inv ∧ (zeroTo S a k).dev.cache.length = S.cache.length ∧
  ∀ j, (zeroTo S a k).dev.cache.getD j 0 = if a + 1 ≤ j ∧ j < a + 1 + k then 0 else S.cache.getD j 0
 | 0, _ => ⟨rfl, h, hi, rfl, fun j => by rw [if_neg (by omega)]; rfl⟩
 | k + 1, hk => by
  obtain ⟨i1, i2, i3, i4, i5⟩ := zeroTo_live h hi a k (by omega)
  have hst : zeroTo S a (k + 1) = ⟨(zeroTo S a k).dev.store ((a + 1 + k : Nat) : Int) 0, (zeroTo S a k).dev.storeE ((a + 1 + k : Nat) : Int)⟩ := by
   rw [zeroTo, if_neg (by rw [i1]; simp)]
  rw [hst]
  generalize (zeroTo S a k).dev = T at *
  obtain ⟨s1, s2⟩ := i2.store_ok (a + 1 + k) 0 (by omega)
  refine ⟨s1, i2.store _ _, Dev.store_inv i3 _ _ (by decide), by rw [s2]; simp [i4], fun j => ?_⟩
  rw [s2, getD_setN _ _ _ _ (by omega), i5 j]
  by_cases e : j = a + 1 + k
  ·subst e; rw [if_pos rfl, if_pos (by omega)]
  ·rw [if_neg e]
   by_cases c : a + 1 ≤ j ∧ j < a + 1 + k
   ·rw [if_pos c, if_pos (by omega)]
   ·rw [if_neg c, if_neg (by omega)]
theorem init_kept {S : Dev} (h : S.live) (hi : S.inv) (a : Nat) (p d : Int) (hs : objSize p d ≠ 0) (hf : a + objSize p d ≤ S.cache.length) :
  (S.init a p d).err = 0 ∧ Kept (S.init a p d).dev a p d (List.replicate (objSize p d - 1) 0) := by
 have hE : S.init a p d = S.initN a (objSize p d) (oencN a p d) := by unfold Dev.init; rw [if_neg hs, if_neg (by omega)]; rfl
 rw [hE]
 obtain ⟨i1, i2, i3, i4, i5⟩ := zeroTo_live h hi a (objSize p d - 1) (by omega)
 have hlt := oencN_lt (a : Int) p d
 have hI : S.initN a (objSize p d) (oencN a p d) = ⟨(zeroTo S a (objSize p d - 1)).dev.store (a : Int) (oencN a p d), (zeroTo S a (objSize p d - 1)).dev.storeE (a : Int)⟩ := by unfold Dev.initN; rw [if_neg (by rw [i1]; simp)]
 rw [hI]
 generalize (zeroTo S a (objSize p d - 1)).dev = T at *
 generalize hx : oencN (a : Int) p d = x at *
 obtain ⟨s1, s2⟩ := i2.store_ok a x (by omega)
 refine ⟨s1, ⟨i2.store _ _, Dev.store_inv i3 _ _ hlt, by simp; omega, by rw [s2]; simp; omega, ?_, fun j hj => ?_⟩⟩
 ·rw [s2, getD_setN _ _ _ _ (by omega), if_pos rfl, hx]
 ·simp at hj
  rw [s2, getD_setN _ _ _ _ (by omega), if_neg (by omega), i5, if_pos (by omega)]
  simp [List.getD_eq_getElem?_getD, hj]
theorem init_ok {S : Dev} {N : Nat} (h : S.ok N) (a p d : Int) : (S.init a p d).dev.ok (N + 20000) := by
 unfold Dev.init
 split
 ·exact h.mono (by omega)
 ·split
  ·exact h.mono (by omega)
  ·have hs := objSize_le p d
   unfold Dev.initN
   split
   ·exact (zeroTo_ok h _ _).mono (by omega)
   ·exact (Dev.store_okN (zeroTo_ok h _ _) _ _).mono (by omega)
end Go.Proofs.YtpopbfagliagnaaGreat
namespace Go.Proofs.YtpopbfagliagnaaGreat
open Go.RowKit
structure AF where
 a : Nat
 X : MF
 U : SetF
 f : Nat
 mb : Nat
 R : List Nat
def AF.fix (A : AF) : List Nat := A.a :: (A.X.list ++ A.U.list)
def AF.list (A : AF) : List Nat := A.fix ++ A.R
def AF.hot (A : AF) : List Nat := A.X.hot ++ (A.U.list ++ A.R)
structure Al where
 bm : Bm
 used : List Bool
 fl : FL
def alV (A : AF) (B : Nat) : Array Value := #[.pointer (some ⟨A.X.m, 0, none⟩), vdev A.X.F, .int .i64 (B : Int), vset A.U, .pointer (some ⟨A.f, 0, none⟩)]
abbrev valloc (A : AF) : Value := .pointer (some ⟨A.a, 0, none⟩)
structure AlAt (w : World) (A : AF) (n B : Nat) (m : Al) : Prop where
 head : w.heap[A.a]? = some (.cells (alV A B) 77 (0, 0))
 man : ManAt w A.X n B m.bm
 set : SetAt w A.U m.used
 free : FreeAt w A.f A.mb n A.R m.fl
 nd : A.fix.Nodup
 nR : ∀ b ∈ A.R, b ∉ A.fix
 lenU : m.used.length = m.bm.dev.cache.length
theorem AlAt.mem {w : World} {A : AF} {n B : Nat} {m : Al} (h : AlAt w A n B m) : ∀ k ∈ A.list, k < w.heap.size := by
 intro k hk
 simp only [AF.list, AF.fix, List.mem_append, List.mem_cons] at hk
 rcases hk with (rfl | hk | hk) | hk
 ·exact (Array.getElem?_eq_some_iff.1 h.head).1
 ·exact h.man.mem k hk
 ·exact h.set.mem k hk
 ·exact h.free.mem k hk
theorem AlAt.keep {w w' : World} {A : AF} {n B : Nat} {m : Al} (h : AlAt w A n B m) (hk : ∀ k ∈ A.list, w'.heap[k]? = w.heap[k]?) : AlAt w' A n B m :=
 ⟨(hk A.a (by simp [AF.list, AF.fix])).trans h.head, h.man.keep (fun k h => hk k (by simp [AF.list, AF.fix, h])), h.set.keep (fun k h => hk k (by simp [AF.list, AF.fix, h])), h.free.keep (fun k h => hk k (by simp [AF.list, h])), h.nd, h.nR, h.lenU⟩
theorem AlAt.below {w w' : World} {A : AF} {n B : Nat} {m : Al} (h : AlAt w A n B m) (hb : Below w.heap.size w w') : AlAt w' A n B m := h.keep (fun k hk => hb.block k (h.mem k hk))
theorem AlAt.c0 {w : World} {A : AF} {n B : Nat} {m : Al} (h : AlAt w A n B m) : w.cell? ⟨A.a, 0, none⟩ = some (.pointer (some ⟨A.X.m, 0, none⟩)) := cell_of_row _ _ 0 _ _ _ h.head
theorem AlAt.c1 {w : World} {A : AF} {n B : Nat} {m : Al} (h : AlAt w A n B m) : w.cell? ⟨A.a, 1, none⟩ = some (vdev A.X.F) := cell_of_row _ _ 1 _ _ _ h.head
theorem AlAt.c2 {w : World} {A : AF} {n B : Nat} {m : Al} (h : AlAt w A n B m) : w.cell? ⟨A.a, 2, none⟩ = some (.int .i64 (B : Int)) := cell_of_row _ _ 2 _ _ _ h.head
theorem AlAt.c3 {w : World} {A : AF} {n B : Nat} {m : Al} (h : AlAt w A n B m) : w.cell? ⟨A.a, 3, none⟩ = some (vset A.U) := cell_of_row _ _ 3 _ _ _ h.head
theorem AlAt.c4 {w : World} {A : AF} {n B : Nat} {m : Al} (h : AlAt w A n B m) : w.cell? ⟨A.a, 4, none⟩ = some (.pointer (some ⟨A.f, 0, none⟩)) := cell_of_row _ _ 4 _ _ _ h.head
set_option maxHeartbeats 400000 in
theorem tlen_any {w : World} {p g c B : Nat} {F : Foot} {l : List Hd} (h : TabG w p g c F B l) :
  Calls Tryz.prog 67 #[.pointer (some ⟨p, 0, none⟩)] w fun e w' => e = .returned (.int .i64 (B : Int)) ∧ w = w' := by
 have c2 : w.cell? ⟨p, 2, none⟩ = some (.slice (some ⟨g, 0, none⟩) B c) := cell_of_row _ _ 2 _ _ _ h.head
 clear h
 go_enter Tryz.func67, Tryz.ntmps67
 go_wp2_with fail
 go_ret
 exact ⟨rfl, rfl⟩
def NewAl (w : World) (X : MF) (n B : Nat) (m : Bm) : Ending → World → Prop := fun e w' => ∃ A : AF, e = .returned (.tuple #[valloc A, .int .i64 0]) ∧ A.X = X ∧ AlAt w' A n B ⟨m, List.replicate m.dev.cache.length false, FL.empty⟩ ∧ Below w.heap.size w w' ∧ ∀ k ∈ A.list, k ∈ X.list ∨ w.heap.size ≤ k
set_option maxHeartbeats 4000000 in
set_option maxRecDepth 20000 in
theorem anew_free {w : World} {X : MF} {n B : Nat} {m : Bm} (h : ManAt w X n B m) (hB : B ≤ 1000) (hlen : 1 ≤ m.dev.cache.length) (hno : ∀ b : Nat, b < B → (hdGet m.list (b : Int)).k ≠ 1) :
  Calls Tryz.prog 118 #[vdev X.F, .pointer (some ⟨X.m, 0, none⟩), .slice none 0 0] w (NewAl w X n B m) := by
 have HM := LH h
 have HSm := LH h.dev.small
 have HNo := LH hno
 have HXm := LH h.mem
 have HPost : Hid (∀ A w', A.X = X → AlAt w' A n B ⟨m, List.replicate m.dev.cache.length false, FL.empty⟩ → Below w.heap.size w w' → (∀ k ∈ A.list, k ∈ X.list ∨ w.heap.size ≤ k) → NewAl w X n B m (.returned (.tuple #[valloc A, .int .i64 0])) w') := LH (fun A w' a b c d => ⟨A, rfl, a, b, c, d⟩)
 generalize NewAl w X n B m = Post at *
 clear h hno
 go_enter Tryz.func118, Tryz.ntmps118
 go_wp2_with fail
 refine (bgeom_any HM.out).mono ?_
 rintro e w1 ⟨rfl, hb1⟩
 have HM1 := LH (HM.out.below hb1)
 have HB1 := LH hb1
 clear hb1
 go_wp2_with fail
 refine (dlen_any HM1.out.dev).mono ?_
 rintro e w2 ⟨rfl, rfl⟩
 go_wp2_with fail
 refine (snew_any m.dev.cache.length hlen HSm.out _).mono ?_
 rintro e w2 ⟨U, rfl, hU2, hb2, hU3⟩
 have HM2 := LH (HM1.out.below hb2)
 have HB2 := LH (HB1.out.trans (hb2.mono HB1.out.size))
 have HU := LH hU2
 have HUn := LH (fun k hk => Nat.le_trans HB1.out.size (hU3 k hk))
 clear hU2 hb2 hU3 HM1
 go_wp2_with fail
 refine (fnew_any _).mono ?_
 rintro e w3 ⟨f, mb, rfl, hf3, hb3, hf4, hf5⟩
 have HM3 := LH (HM2.out.below hb3)
 have HB3 := LH (HB2.out.trans (hb3.mono HB2.out.size))
 have HU3 := LH (HU.out.below hb3)
 have HF := LH hf3
 have HFn : Hid (w2.heap.size ≤ f ∧ w2.heap.size ≤ mb) := LH ⟨hf4, hf5⟩
 have HW2 := LH HB2.out.size
 have HU2m := LH HU.out.mem
 clear hf3 hb3 hf4 hf5 HM2
 go_upto_region 2 with fail
 have hbx := below_alloc w3 (Obj.cells #[.pointer (some ⟨X.m, 0, none⟩), vdev X.F, .int .i64 (B : Int), vset U, .pointer (some ⟨f, 0, none⟩)] 77)
 have hhx := heap_alloc_new w3 (Obj.cells #[.pointer (some ⟨X.m, 0, none⟩), vdev X.F, .int .i64 (B : Int), vset U, .pointer (some ⟨f, 0, none⟩)] 77)
 obtain ⟨A, hA⟩ : ∃ A : AF, A = ⟨w3.heap.size, X, U, f, mb, [f, mb]⟩ := ⟨_, rfl⟩
 have HAA : Hid (A.X = X ∧ ∀ k ∈ A.list, k ∈ X.list ∨ w.heap.size ≤ k) := LH (by
  subst hA
  refine ⟨rfl, fun k hk => ?_⟩
  simp only [AF.list, AF.fix, List.mem_append, List.mem_cons, List.not_mem_nil, or_false] at hk
  have h1 := HW2.out
  have h2 := HB3.out.size
  have h3 := HFn.out
  rcases hk with (rfl | hk | hk) | rfl | rfl
  ·right; exact h2
  ·exact .inl hk
  ·exact .inr (HUn.out k hk)
  ·right; omega
  ·right; omega)
 have HAt : Hid (AlAt (w3.alloc (Obj.cells #[.pointer (some ⟨X.m, 0, none⟩), vdev X.F, .int .i64 (B : Int), vset U, .pointer (some ⟨f, 0, none⟩)] 77)) A n B ⟨m, List.replicate m.dev.cache.length false, FL.empty⟩) := LH (by
  subst hA
  have h1 := HW2.out
  have h2 := HB3.out.size
  have h3 := HFn.out
  have hfm := HF.out.mem
  have hf1 := hfm f (by simp)
  have hf2 := hfm mb (by simp)
  obtain ⟨_, _, _, _, hne⟩ := id HF.out
  have hmbf : f ≠ mb := by obtain ⟨V, hV, _⟩ := id HF.out; exact hV.ne
  obtain ⟨ws, hws⟩ := id HU3.out
  have hune := hws.ne
  have hu1 := HU2m.out U.u (by simp [SetF.list])
  have hu2 := HU2m.out U.b (by simp [SetF.list])
  have hu3 := HUn.out U.u (by simp [SetF.list])
  have hu4 := HUn.out U.b (by simp [SetF.list])
  have hXl : ∀ k, w.heap.size ≤ k → k ∉ X.list := fun k hk hm => by have := HXm.out k hm; omega
  refine ⟨hhx, HM3.out.below hbx, HU3.out.below hbx, (HF.out.below hbx).mono (Nat.zero_le _), ?_, ?_, by simp⟩
  ·show (w3.heap.size :: (X.list ++ [U.u, U.b])).Nodup
   rw [List.nodup_cons, List.nodup_append]
   refine ⟨?_, HM3.out.nd, by simpa using hune, ?_⟩
   ·simp only [List.mem_append, List.mem_cons, List.not_mem_nil, or_false, not_or]
    exact ⟨hXl _ h2, by omega, by omega⟩
   ·intro a ha b hb e
    subst e
    simp only [List.mem_cons, List.not_mem_nil, or_false] at hb
    rcases hb with rfl | rfl
    ·exact hXl _ hu3 ha
    ·exact hXl _ hu4 ha
  ·intro b hb
   show b ∉ w3.heap.size :: (X.list ++ [U.u, U.b])
   simp only [List.mem_cons, List.mem_append, List.not_mem_nil, or_false, not_or] at hb ⊢
   rcases hb with rfl | rfl
   ·exact ⟨by omega, hXl _ (by omega), by omega, by omega⟩
   ·exact ⟨by omega, hXl _ (by omega), by omega, by omega⟩)
 have HB4 := LH (HB3.out.trans (hbx.mono HB3.out.size))
 have HAv : Hid (w3.heap.size = A.a) := LH (by rw [hA])
 have HXe : Hid (A.X = X) := LH HAA.out.1
 generalize w3.alloc _ = w4 at *
 rw [HAv.out]
 clear hA hbx hhx HM3 HU3 HF HU2m HUn HFn HW2 HM HXm HB3 HB2 HB1 HU HAv
 go_wp2_with fail
 go_loop [27] (fun i => i = .int .i64 0) (fun _ => 0)
 case atStart => rfl
 case round =>
  subst hrel
  go_wp2_with fail
  go_loopw [13] (fun bv wr => ∃ j : Nat, 1 ≤ j ∧ bv = .int .i64 (j : Int) ∧ Hid (AlAt wr A n B ⟨m, List.replicate m.dev.cache.length false, FL.empty⟩) ∧ Hid (Below w.heap.size w wr)) (fun bv _ => B - (intOf bv).toNat)
  case atStart => exact ⟨1, Nat.le_refl _, rfl, HAt, HB4⟩
  case round =>
   clear HAt HB4
   obtain ⟨j, hj1, rfl, HAt, HBw⟩ := hrel
   have c0 := HAt.out.man.c0
   rw [HXe.out] at c0
   have HMan : Hid (ManAt wr X n B m) := LH (by have := HAt.out.man; rw [HXe.out] at this; exact this)
   go_wp2_with fail
   refine (tlen_any HMan.out.tab).mono ?_
   rintro e w5 ⟨rfl, rfl⟩
   by_cases hlt : j < B
   ·have HNk := LH (HNo.out j hlt)
    go_wp2_with fail
    refine (tget_any (HMan.out.tab.at (MF.notHot (MF.apart HMan.out.nd).t).1) (j : Int) (by rw [HMan.out.tab.len]; exact hB)).mono ?_
    rintro e w6 ⟨rfl, hb6⟩
    generalize hdGet m.list (j : Int) = hd at *
    obtain ⟨k, c, l⟩ := hd
    have hk1 : ((k : Int) == 1) = false := by simpa using HNk.out
    unfold Hd.val
    have hbx := below_alloc w6 (Obj.cells #[.int .i64 k, .int .i64 c, .int .i64 l] 103)
    have HA6 := LH ((HAt.out.below hb6).below hbx)
    have HB6 := LH ((HBw.out.trans (hb6.mono HBw.out.size)).trans (hbx.mono (Nat.le_trans HBw.out.size hb6.size)))
    clear hb6 hbx
    go_wp2_with fail
    go_roundw
    case rel => exact ⟨j + 1, by omega, vint (by omega), HA6, HB6⟩
    case measure => simp [intOf]; omega
   ·have hlt' : decide (j < B) = false := by simp; omega
    go_wp2_with fail
    exact HPost.out A _ HXe.out HAt.out HBw.out HAA.out.2
end Go.Proofs.YtpopbfagliagnaaGreat
namespace Go.Proofs.YtpopbfagliagnaaGreat
def isCell (L : List Hd) (k a : Nat) : Prop :=
 512 ≤ a ∧ a < 512 * L.length ∧ L.getD (a / 512) default = ⟨1, k, 0⟩ ∧ a % 512 % clsWords k = 0 ∧ a % 512 / clsWords k < clsCells k
instance (L : List Hd) (k a : Nat) : Decidable (isCell L k a) := by unfold isCell; infer_instance
def placedN (S : Dev) (L : List Hd) (a : Int) : Option Odec :=
 if a < 512 ∨ 512 * (L.length : Int) ≤ a ∨ (headN S a).code ≠ 0 then none
 else if small (objSize (headN S a).p (headN S a).d) then (if isCell L (ofN (objSize (headN S a).p (headN S a).d : Nat)) a.toNat then some (headN S a) else none)
 else if a.toNat % 512 = 0 ∧ wholeN L (a.toNat / 512) = objBlocks (objSize (headN S a).p (headN S a).d) then some (headN S a) else none
theorem placed_head {S : Dev} {L : List Hd} {a : Int} {o : Odec} (h : placedN S L a = some o) : headN S a = o ∧ o.code = 0 ∧ 512 ≤ a ∧ a < 512 * (L.length : Int) := by
 unfold placedN at h
 split at h
 ·cases h
 ·rename_i h0
  have hc : (headN S a).code = 0 := Decidable.byContradiction fun h => h0 (.inr (.inr h))
  split at h
  ·split at h
   ·cases h; exact ⟨rfl, hc, by omega, by omega⟩
   ·cases h
  ·split at h
   ·cases h; exact ⟨rfl, hc, by omega, by omega⟩
   ·cases h
def roomN (p d : Int) : Nat := if small (objSize p d) then clsWords (ofN (objSize p d : Nat) : Nat) else 512 * objBlocks (objSize p d)
theorem ofN_lt {n : Nat} (h : small n) : ofN (n : Int) < 32 := by
 unfold small at h
 obtain ⟨h1, h2⟩ := h
 unfold ofN
 have : (sizesL.findIdx fun s : Nat => decide ((n : Int) ≤ (s : Int))) < sizesL.length := by
  rw [List.findIdx_lt_length]
  refine ⟨256, by decide, ?_⟩
  simp; omega
 exact this
theorem ofN_fits {n : Nat} (h : small n) : n ≤ clsWords (ofN (n : Int) : Nat) := by
 have hl := ofN_lt h
 rw [clsWords_nat _ hl]
 have hl' : ofN (n : Int) < sizesL.length := hl
 have : decide ((n : Int) ≤ ((sizesL[ofN (n : Int)]'hl' : Nat) : Int)) = true := List.findIdx_getElem (w := hl')
 rw [List.getD_eq_getElem?_getD, List.getElem?_eq_getElem hl']
 simpa using this
theorem room_fits {p d : Int} (h : objSize p d ≠ 0) : objSize p d ≤ roomN p d := by
 unfold roomN
 by_cases hs : small (objSize p d)
 ·rw [if_pos hs]; exact ofN_fits hs
 ·rw [if_neg hs]
  unfold objBlocks
  rw [if_neg hs]; omega
theorem cell_in {k x : Nat} (hk : k < 32) (h1 : x % clsWords k = 0) (h2 : x / clsWords k < clsCells k) : x + clsWords k ≤ 512 := by
 have hp := clsWords_pos (k : Int) (by omega)
 unfold clsCells at h2
 generalize clsWords (k : Int) = W at *
 have e := Nat.div_add_mod x W
 have h3 := Nat.div_mul_le_self 512 W
 have h4 : (x / W + 1) * W ≤ 512 / W * W := Nat.mul_le_mul_right _ h2
 rw [Nat.add_mul, Nat.one_mul, Nat.mul_comm] at h4
 omega
theorem wholeN_fits {L : List Hd} {b : Nat} (h : wholeN L b ≠ 0) : b < L.length ∧ (L.getD b default).k = 2 ∧ ((wholeN L b : Nat) : Int) = (L.getD b default).l ∧ b + wholeN L b ≤ L.length ∧ ∀ i, 1 ≤ i → i < wholeN L b → L.getD (b + i) default = ⟨3, 0, i⟩ := by
 unfold wholeN at h ⊢
 by_cases c1 : L.length ≤ b ∨ (L.getD b default).k ≠ 2 ∨ (L.getD b default).l < 1 ∨ (L.length : Int) - b < (L.getD b default).l
 ·rw [if_pos c1] at h; exact absurd rfl h
 ·rw [if_neg c1] at h ⊢
  by_cases c2 : contTo L b (L.getD b default).l.toNat = true
  ·rw [if_pos c2] at h ⊢
   exact ⟨by omega, by omega, by omega, by omega, fun i h1 h2 => contTo_at c2 i h1 h2⟩
  ·rw [if_neg c2] at h; exact absurd rfl h
inductive RoomAt (L : List Hd) (a n : Nat) : Prop
 | cell (k : Nat) (hk : k < 32) (hc : isCell L k a) (hn : n = clsWords k)
 | run (m : Nat) (hb : a % 512 = 0) (h1 : 512 ≤ a) (hm : 1 ≤ m) (hw : wholeN L (a / 512) = m) (hn : n = 512 * m)
theorem placed_room {S : Dev} {L : List Hd} {a : Nat} {o : Odec} (h : placedN S L (a : Int) = some o) : RoomAt L a (roomN o.p o.d) := by
 obtain ⟨hh, _, h1, h2⟩ := placed_head h
 unfold placedN at h
 rw [hh] at h
 split at h
 ·cases h
 ·unfold roomN
  by_cases hs : small (objSize o.p o.d)
  ·rw [if_pos hs] at h ⊢
   split at h
   ·next hc => exact .cell _ (ofN_lt hs) hc rfl
   ·cases h
  ·rw [if_neg hs] at h ⊢
   split at h
   ·next hc =>
    refine .run _ hc.1 (by omega) ?_ hc.2 rfl
    have hw := hc.2
    unfold objBlocks
    rw [if_neg hs]
    have h0 : objSize o.p o.d ≠ 0 := by
     have := headN_code S (a : Int)
     rw [hh] at this
     rcases this with this | this
     ·exact this.2.2.2.1
     ·rename_i hb
      rw [this] at hb
      exact absurd (.inr (.inr (by simp))) hb
    omega
   ·cases h
theorem RoomAt.pos {L : List Hd} {a n : Nat} (h : RoomAt L a n) : 2 ≤ n ∧ 512 ≤ a ∧ a + n ≤ 512 * L.length := by
 rcases h with ⟨k, hk, hc, rfl⟩ | ⟨m, hb, h1, hm, hw, rfl⟩
 ·have hp := clsWords_pos (k : Int) (by omega)
  obtain ⟨c1, c2, c3, c4, c5⟩ := hc
  have := cell_in hk c4 c5
  exact ⟨hp, c1, by omega⟩
 ·have hf := wholeN_fits (L := L) (b := a / 512) (by omega)
  refine ⟨by omega, h1, ?_⟩
  have := hf.2.2.2.1
  rw [hw] at this
  omega
theorem RoomAt.apart {L : List Hd} {a n b m : Nat} (h : RoomAt L a n) (k : RoomAt L b m) (hab : a < b) : a + n ≤ b := by
 rcases h with ⟨i, hi, hc, rfl⟩ | ⟨x, hb, h1, hx, hw, rfl⟩
 ·obtain ⟨c1, c2, c3, c4, c5⟩ := hc
  have hf := cell_in hi c4 c5
  by_cases e : a / 512 = b / 512
  ·rcases k with ⟨j, hj, hd, rfl⟩ | ⟨y, hb', _, hy, hw', rfl⟩
   ·obtain ⟨d1, d2, d3, d4, d5⟩ := hd
    rw [← e, c3] at d3
    have hij : i = j := by
     have := congrArg Hd.c d3
     simp at this
     omega
    subst hij
    have hp := clsWords_pos (i : Int) (by omega)
    generalize clsWords (i : Int) = W at *
    have e1 := Nat.div_add_mod (a % 512) W
    have e2 := Nat.div_add_mod (b % 512) W
    have hlt : (a % 512) / W < (b % 512) / W := by
     apply Classical.byContradiction
     intro c
     have : W * ((b % 512) / W) ≤ W * ((a % 512) / W) := Nat.mul_le_mul_left _ (by omega)
     omega
    have : W * ((a % 512) / W + 1) ≤ W * ((b % 512) / W) := Nat.mul_le_mul_left _ hlt
    rw [Nat.mul_add, Nat.mul_one] at this
    omega
   ·have hf' := wholeN_fits (L := L) (b := b / 512) (by omega)
    rw [← e, c3] at hf'
    exact absurd hf'.2.1 (by simp)
  ·omega
 ·have hf := wholeN_fits (L := L) (b := a / 512) (by omega)
  rw [hw] at hf
  obtain ⟨g1, g2, g3, g4, g5⟩ := hf
  by_cases e : b / 512 < a / 512 + x
  ·exfalso
   by_cases e0 : b / 512 = a / 512
   ·rcases k with ⟨j, hj, hd, rfl⟩ | ⟨y, hb', _, hy, hw', rfl⟩
    ·obtain ⟨d1, d2, d3, d4, d5⟩ := hd
     rw [e0] at d3
     rw [d3] at g2
     exact absurd g2 (by simp)
    ·omega
   ·have := g5 (b / 512 - a / 512) (by omega) (by omega)
    rw [show a / 512 + (b / 512 - a / 512) = b / 512 by omega] at this
    rcases k with ⟨j, hj, hd, rfl⟩ | ⟨y, hb', _, hy, hw', rfl⟩
    ·obtain ⟨d1, d2, d3, d4, d5⟩ := hd
     rw [d3] at this
     have := congrArg Hd.k this
     exact absurd this (by simp)
    ·have hf' := wholeN_fits (L := L) (b := b / 512) (by omega)
     rw [this] at hf'
     exact absurd hf'.2.1 (by simp)
  ·omega
structure AlOk (B : Nat) (m : Al) : Prop where
 bm : BmOk B m.bm
 live : m.bm.dev.live
 len : m.bm.dev.cache.length = 512 * B
 lenU : m.used.length = 512 * B
 placed : ∀ a : Nat, m.used.getD a false = true → (placedN m.bm.dev m.bm.list (a : Int)).isSome = true
 cells : ∀ k a : Nat, k < 32 → m.fl.cnt k a = if isCell m.bm.list k a ∧ m.used.getD a false = false then 1 else 0
end Go.Proofs.YtpopbfagliagnaaGreat
