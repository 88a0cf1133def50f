/- Plain: what was put lasts through every crash. -/
import Derived.Test.YtjgdplengfnkaaaIv
import Derived.Test.YtjgdplengfnkaaaPu
import Derived.Test.YtjgdplengfnkaaaAw
namespace Go.Proofs.Ytjgdplengfnkaaa

theorem Dev.store_ok0 {S : Dev} {i x : Nat} (h : S.storeE (i : Int) = 0) : i < S.cache.length ∧ (S.store (i : Int) x).cache = S.cache.set i x ∧ (S.store (i : Int) x).dirty = S.dirty.set (i / 8) true := by
  unfold Dev.storeE at h
  by_cases c1 : (i : Int) < 0 ∨ (S.cache.length : Int) ≤ (i : Int)
  · rw [if_pos c1] at h; simp at h
  rw [if_neg c1] at h
  cases c2 : S.stop
  · unfold Dev.store
    rw [if_neg c1, c2]
    simp only [Bool.false_eq_true, if_false]
    obtain ⟨e1, e2, e3, e4, e5⟩ := S.step_rest
    refine ⟨by omega, ?_, ?_⟩
    · simp [Dev.put, e2]
    · simp [Dev.put, e4]
  · rw [c2] at h; simp at h

/-- The words of headers that were put. -/
structure PutAt (S : Dev) (b : Nat) (l : List Hd) (i : Nat) (T : Dev) : Prop where
  inv : T.inv
  lenC : T.cache.length = S.cache.length
  lenD : T.dirty.length = S.dirty.length
  fits : i = 0 ∨ 256 + b + i ≤ S.cache.length
  cache : ∀ j, T.cache.getD j 0 = if 256 + b ≤ j ∧ j < 256 + b + i then encN ((j - 256 : Nat) : Int) (l.getD (j - 256 - b) default).k (l.getD (j - 256 - b) default).c (l.getD (j - 256 - b) default).l else S.cache.getD j 0
  dirty : ∀ q, (∀ k, k < i → (256 + b + k) / 8 ≠ q) → T.dirty.getD q false = S.dirty.getD q false

theorem putTo_at {S : Dev} (h : S.inv) (L : List Hd) (b : Nat) (l : List Hd) : ∀ i, (putTo S L b l i).err = 0 → PutAt S b l i (putTo S L b l i).dev
  | 0, _ => ⟨h, rfl, rfl, .inl rfl, fun j => by rw [if_neg (by omega)]; rfl, fun q _ => rfl⟩
  | i + 1, he => by
    have hst : putTo S L b l (i + 1) = putStep (putTo S L b l i) (b + i) (l.getD i default) := rfl
    rw [hst] at he ⊢
    unfold putStep at he ⊢
    by_cases h0 : (putTo S L b l i).err ≠ 0
    · rw [if_pos h0] at he; exact absurd he h0
    rw [if_neg h0] at he ⊢
    have t := putTo_at h L b l i (by simpa using h0)
    generalize (putTo S L b l i).dev = T at *
    dsimp only at he ⊢
    rw [show (256 + ((b + i : Nat) : Int)) = ((256 + b + i : Nat) : Int) by omega] at he ⊢
    obtain ⟨g1, g2, g3⟩ := Dev.store_ok0 (x := encN ((b + i : Nat) : Int) (l.getD i default).k (l.getD i default).c (l.getD i default).l) he
    have hlc := t.lenC
    have hwD := t.inv.wf.lenD
    refine ⟨Dev.store_inv t.inv _ _ (encN_lt _ _ _ _), by rw [g2]; simp [t.lenC], by rw [g3]; simp [t.lenD], .inr (by omega), fun j => ?_, fun q hq => ?_⟩
    · rw [g2, getD_setN _ _ _ _ g1, t.cache j]
      by_cases e : j = 256 + b + i
      · subst e
        rw [if_pos rfl, if_pos (by omega), show 256 + b + i - 256 = b + i by omega, show b + i - b = i by omega]
      · rw [if_neg e]
        by_cases c : 256 + b ≤ j ∧ j < 256 + b + i
        · rw [if_pos c, if_pos (by omega)]
        · rw [if_neg c, if_neg (by omega)]
    · rw [g3, getD_setB _ _ _ _ (by omega), if_neg (fun e => hq i (by omega) e.symm)]
      exact t.dirty q (fun k hk => hq k (by omega))

/-- All headers' words last. -/
structure Clean (S : Dev) (B : Nat) : Prop where
  inv : S.inv
  fits : 256 + B ≤ S.cache.length
  clean : ∀ b, 1 ≤ b → b < B → S.dirty.getD ((256 + b) / 8) false = false

theorem put_clean {S : Dev} {B : Nat} (h : Clean S B) {L : List Hd} (hL : L.length = B) {b : Int} {l : List Hd} (he : (putAll S L b l).err = 0) :
    Clean (putAll S L b l).dev B ∧ ∃ k : Nat, b = (k : Int) ∧ 1 ≤ k ∧ k + l.length ≤ B ∧ allRight l l.length ∧
      ∀ q, 1 ≤ q → q < B → (putAll S L b l).dev.cache.getD (256 + q) 0 = if k ≤ q ∧ q < k + l.length then encN (q : Int) (l.getD (q - k) default).k (l.getD (q - k) default).c (l.getD (q - k) default).l else S.cache.getD (256 + q) 0 := by
  unfold putAll at he ⊢
  by_cases c1 : b < 1 ∨ (L.length : Int) < b ∨ (L.length : Int) - b < (l.length : Int) ∨ ¬ allRight l l.length
  · rw [if_pos c1] at he; simp at he
  rw [if_neg c1] at he ⊢
  obtain ⟨k, rfl⟩ := Int.eq_ofNat_of_zero_le (show 0 ≤ b by omega)
  have hr : allRight l l.length := Decidable.byContradiction fun h => c1 (.inr (.inr (.inr h)))
  by_cases c2 : l.length = 0
  · rw [if_pos c2]
    exact ⟨h, k, rfl, by omega, by omega, hr, fun q _ _ => by rw [if_neg (by omega)]⟩
  rw [if_neg c2] at he ⊢
  rw [show ((k : Nat) : Int).toNat = k from rfl] at he ⊢
  unfold putIn at he ⊢
  by_cases c3 : (putTo S L k l l.length).err ≠ 0
  · rw [if_pos c3] at he; exact absurd he c3
  rw [if_neg c3] at he ⊢
  have t := putTo_at h.inv L k l l.length (by simpa using c3)
  generalize (putTo S L k l l.length).dev = T at *
  dsimp only at he ⊢
  rw [show (256 + (k : Int)) = ((256 + k : Nat) : Int) by omega] at he ⊢
  obtain ⟨q1, q2, q3, q4, q5⟩ := Dev.persist_clean t.inv (256 + k) l.length (by omega) he
  have hfit := h.fits
  refine ⟨⟨Dev.persist_inv t.inv _ _, by rw [q1, t.lenC]; exact hfit, fun q h1 h2 => ?_⟩, k, rfl, by omega, by omega, hr, fun q h1 h2 => ?_⟩
  · by_cases c : ∃ i, i < l.length ∧ (256 + k + i) / 8 = (256 + q) / 8
    · obtain ⟨i, hi, e⟩ := c
      rw [← e]
      exact q4 (256 + k + i) (by omega) (by omega)
    · refine q5 _ ?_
      rw [t.dirty _ (fun i hi e => c ⟨i, hi, e⟩)]
      exact h.clean q h1 h2
  · rw [q1, t.cache]
    by_cases c : k ≤ q ∧ q < k + l.length
    · rw [if_pos (by omega), if_pos c, show 256 + q - 256 = q by omega]
    · rw [if_neg (by omega), if_neg c]

theorem fmtTo_inv {S : Dev} (h : S.inv) (k : Nat) : (S.fmtTo k).inv := by
  induction k with
  | zero => exact h
  | succ k ih =>
    unfold Dev.fmtTo
    split
    · exact h
    · exact Dev.store_inv ih _ _ (encN_lt _ _ _ _)
theorem fmt_clean {S : Dev} (h : S.inv) (hv : S.live) (ho : S.ok 100) {B : Nat} (hB2 : 2 ≤ B) (hlen : 256 + B ≤ S.cache.length) : Clean (S.fmt B) B := by
  obtain ⟨p1, p2, p3, p5, p4⟩ := fmtTo_props hv ho B hlen
  have he := (p1.persist 257 (B - 1) (by omega) (by rw [p3, p5]; exact h.wf.lenD) (by rw [p3]; omega)).1
  unfold Dev.fmt
  rw [show ((B : Int) - 1) = ((B - 1 : Nat) : Int) by omega]
  rw [show ((257 : Nat) : Int) = 257 from rfl] at he
  have hi := fmtTo_inv h B
  obtain ⟨q1, q2, q3, q4, q5⟩ := Dev.persist_clean hi 257 (B - 1) (by omega) he
  rw [show ((257 : Nat) : Int) = 257 from rfl] at q1 q4
  exact ⟨Dev.persist_inv hi _ _, by rw [q1, p3]; exact hlen, fun b h1 h2 => q4 (256 + b) (by omega) (by omega)⟩

/-- Behind a crash the headers are what they were. -/
theorem crash_words {S : Dev} {B : Nat} (h : Clean S B) (cs : List Nat) (b : Nat) (h1 : 1 ≤ b) (h2 : b < B) : devWord (S.crash cs) b = devWord S b := by
  unfold devWord Dev.crash freshDev
  dsimp only
  rw [show (256 + (b : Int)) = ((256 + b : Nat) : Int) by omega, peek_in, peek_in]
  exact Dev.crash_clean h.inv cs _ (h.clean b h1 h2)
theorem allOk_of {f f' : Nat → Nat} {B : Nat} (h : ∀ b, 1 ≤ b → b < B → f b = f' b) (hk : AllOk f' B) : AllOk f B := fun b h1 h2 => by rw [h b h1 h2]; exact hk b h1 h2
theorem hds_of {f f' : Nat → Nat} {B : Nat} (h : ∀ b, 1 ≤ b → b < B → f b = f' b) : hds f B = hds f' B := by
  apply List.map_congr_left
  intro b hb
  unfold hdF
  split
  · rfl
  · rw [h b (by omega) (by simpa using hb)]

theorem put_words {S : Dev} {B : Nat} (h : Clean S B) (hk : AllOk (devWord S) B) {L : List Hd} (hL : L.length = B) {b : Int} {l : List Hd} (he : (putAll S L b l).err = 0) :
    AllOk (devWord (putAll S L b l).dev) B ∧ ∀ i, i < l.length → hdGet (hds (devWord (putAll S L b l).dev) B) (b + (i : Int)) = l.getD i default := by
  obtain ⟨hc, k, rfl, k1, k2, hr, hw⟩ := put_clean h hL he
  have hword : ∀ q, 1 ≤ q → q < B → devWord (putAll S L k l).dev q = if k ≤ q ∧ q < k + l.length then encN (q : Int) (l.getD (q - k) default).k (l.getD (q - k) default).c (l.getD (q - k) default).l else devWord S q := by
    intro q h1 h2
    unfold devWord
    rw [show (256 + (q : Int)) = ((256 + q : Nat) : Int) by omega, peek_in, peek_in]
    exact hw q h1 h2
  constructor
  · intro q h1 h2
    rw [hword q h1 h2]
    split
    · rename_i c
      rw [dec_enc _ _ _ _ (hr (q - k) (by omega))]
    · exact hk q h1 h2
  · intro i hi
    have hq : (k : Int) + (i : Int) = ((k + i : Nat) : Int) := by omega
    rw [hq]
    unfold hdGet
    rw [hds_length, if_neg (by omega), show ((k + i : Nat) : Int).toNat = k + i by omega]
    have : (hds (devWord (putAll S L k l).dev) B).getD (k + i) default = hdF (devWord (putAll S L k l).dev) (k + i) := by
      rw [List.getD_eq_getElem?_getD]
      simp [hds, show k + i < B by omega]
    rw [this]
    unfold hdF
    rw [if_neg (by omega), hword (k + i) (by omega) (by omega), if_pos (by omega), show k + i - k = i by omega, dec_enc _ _ _ _ (hr i hi)]

theorem cnt_zero (B k : Nat) (hk : k ≤ B) : cntKind (List.replicate B ⟨0, 0, 0⟩) 0 k = k - 1 := by
  induction k with
  | zero => rfl
  | succ k ih =>
    unfold cntKind
    rw [ih (by omega)]
    have : (List.replicate B (⟨0, 0, 0⟩ : Hd)).getD k default = ⟨0, 0, 0⟩ := by simp [List.getD_eq_getElem?_getD, List.getElem?_replicate, show k < B by omega]
    rw [this]
    split <;> simp at * <;> omega

end Go.Proofs.Ytjgdplengfnkaaa
