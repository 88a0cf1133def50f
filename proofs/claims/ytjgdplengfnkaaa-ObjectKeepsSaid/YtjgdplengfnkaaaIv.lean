/- Plain: what holds of a device at all times; what a persist and a crash leave. -/
import Derived.Test.YtjgdplengfnkaaaCh
import Derived.Test.YtjgdplengfnkaaaFm
namespace Go.Proofs.Ytjgdplengfnkaaa
set_option linter.unusedVariables false

theorem splice_getD (l s : List Nat) (o i : Nat) (h : o + s.length ≤ l.length) : (splice l o s).getD i 0 = if o ≤ i ∧ i < o + s.length then s.getD (i - o) 0 else l.getD i 0 := by
  unfold splice
  simp only [List.getD_eq_getElem?_getD]
  by_cases h1 : i < o
  · rw [if_neg (by omega), List.getElem?_append_left (by simp; omega), List.getElem?_take_of_lt h1]
  · rw [List.getElem?_append_right (by simp; omega), show (l.take o).length = o by simp; omega]
    by_cases h2 : i < o + s.length
    · rw [if_pos (by omega), List.getElem?_append_left (by omega)]
    · rw [if_neg (by omega), List.getElem?_append_right (by omega), List.getElem?_drop, show o + s.length + (i - o - s.length) = i by omega]
theorem seg_getD (l : List Nat) (j i : Nat) (hi : 8 * j ≤ i) (h2 : i < 8 * j + 8) : (seg l j).getD (i - 8 * j) 0 = l.getD i 0 := by
  rw [List.getD_eq_getElem?_getD, seg_at l j (i - 8 * j) (by omega), show 8 * j + (i - 8 * j) = i by omega, ← List.getD_eq_getElem?_getD]
theorem seg_eq_iff (l m : List Nat) (j : Nat) (h1 : 8 * j + 8 ≤ l.length) (h2 : 8 * j + 8 ≤ m.length) : seg l j = seg m j ↔ ∀ i, 8 * j ≤ i → i < 8 * j + 8 → l.getD i 0 = m.getD i 0 := by
  constructor
  · intro h i hi hi2
    rw [← seg_getD l j i hi hi2, ← seg_getD m j i hi hi2, h]
  · intro h
    apply List.ext_getElem (by rw [seg_length l j h1, seg_length m j h2])
    intro i hi1 hi2
    rw [seg_length l j h1] at hi1
    have := h (8 * j + i) (by omega) (by omega)
    have e1 := seg_getD l j (8 * j + i) (by omega) (by omega)
    have e2 := seg_getD m j (8 * j + i) (by omega) (by omega)
    rw [show 8 * j + i - 8 * j = i by omega] at e1 e2
    rw [this, ← e2] at e1
    simpa [List.getD_eq_getElem?_getD, seg_length l j h1, seg_length m j h2, hi1] using e1
theorem splice_seg_getD (l s : List Nat) (j i : Nat) (h1 : 8 * j + 8 ≤ l.length) (h2 : 8 * j + 8 ≤ s.length) : (splice l (8 * j) (seg s j)).getD i 0 = if i / 8 = j then s.getD i 0 else l.getD i 0 := by
  have hl := seg_length s j h2
  rw [splice_getD _ _ _ _ (by rw [hl]; exact h1), hl]
  by_cases h : i / 8 = j
  · rw [if_pos (by omega), if_pos h, seg_getD s j i (by omega) (by omega)]
  · rw [if_neg (by omega), if_neg h]
theorem getD_setB (l : List Bool) (i j : Nat) (b : Bool) (hi : i < l.length) : (l.set i b).getD j false = if j = i then b else l.getD j false := by
  simp only [List.getD_eq_getElem?_getD]
  by_cases h : j = i
  · subst h; rw [if_pos rfl, List.getElem?_set_self hi]; rfl
  · rw [if_neg h, List.getElem?_set_ne (Ne.symm h)]
theorem getD_setN (l : List Nat) (i j x : Nat) (hi : i < l.length) : (l.set i x).getD j 0 = if j = i then x else l.getD j 0 := by
  simp only [List.getD_eq_getElem?_getD]
  by_cases h : j = i
  · subst h; rw [if_pos rfl, List.getElem?_set_self hi]; rfl
  · rw [if_neg h, List.getElem?_set_ne (Ne.symm h)]

/-- A line that is not dirty lasts as it is; a pending one is dirty. -/
structure Dev.inv (S : Dev) : Prop where
  wf : S.wf
  sound : ∀ j, S.dirty.getD (j / 8) false = false → S.lasting.getD j 0 = S.cache.getD j 0
  pend : ∀ l, S.pending.getD l false = true → S.dirty.getD l false = true

theorem Dev.step_wf {S : Dev} (h : S.wf) : S.step.wf := by
  unfold Dev.step
  split
  · exact ⟨h.lenL, h.lenF, h.lenP, h.lenD, h.small, h.u64L, h.u64C, h.u64F⟩
  · exact ⟨h.lenL, h.lenF, h.lenP, h.lenD, h.small, h.u64L, h.u64C, h.u64F⟩
theorem Dev.step_inv {S : Dev} (h : S.inv) : S.step.inv := by
  obtain ⟨e1, e2, e3, e4, e5⟩ := S.step_rest
  exact ⟨Dev.step_wf h.wf, by rw [e1, e2, e4]; exact h.sound, by rw [e5, e4]; exact h.pend⟩
theorem fresh_inv {ws : List Nat} {m : Nat} (h8 : ws.length = 8 * m) (hs : ws.length ≤ 1000000) (hu : ∀ z ∈ ws, z < 18446744073709551616) : (freshDev ws m).inv := by
  refine ⟨⟨rfl, by simp [freshDev], by simp [freshDev], by simpa [freshDev] using h8, hs, hu, hu, ?_⟩, fun j _ => rfl, fun l hl => ?_⟩
  · intro z hz
    simp [freshDev] at hz
    omega
  · exfalso
    simp [freshDev, List.getD_eq_getElem?_getD, List.getElem?_replicate] at hl
    split at hl <;> simp at hl
theorem Dev.put_inv {S : Dev} (h : S.inv) (i x : Nat) (hi : i < S.cache.length) (hx : x < 18446744073709551616) : (S.put i x).inv := by
  have hw := h.wf
  have hD := hw.lenD
  have hl : i / 8 < S.dirty.length := by omega
  refine ⟨⟨by simp [Dev.put, hw.lenL], by simp [Dev.put, hw.lenF], by simp [Dev.put, hw.lenP], by simp [Dev.put, hD], by simp [Dev.put, hw.small], hw.u64L, set_lt hw.u64C _ _ hx, hw.u64F⟩, fun j hj => ?_, fun l hl2 => ?_⟩
  · simp only [Dev.put] at hj ⊢
    rw [getD_setB _ _ _ _ hl] at hj
    rw [getD_setN _ _ _ _ hi]
    split at hj
    · cases hj
    · rw [if_neg (by rintro rfl; simp at *)]
      exact h.sound j hj
  · simp only [Dev.put] at hl2 ⊢
    rw [getD_setB _ _ _ _ hl]
    split
    · rfl
    · exact h.pend l hl2
theorem Dev.store_inv {S : Dev} (h : S.inv) (i : Int) (x : Nat) (hx : x < 18446744073709551616) : (S.store i x).inv := by
  unfold Dev.store
  split
  · exact h
  · split
    · exact Dev.step_inv h
    · exact Dev.put_inv (Dev.step_inv h) _ _ (by rw [(Dev.step_rest S).2.1]; omega) hx
theorem Dev.hold_inv {S : Dev} (h : S.inv) (j : Nat) (hj : j < S.dirty.length) : (S.hold j).inv := by
  have hw := h.wf
  have hD := hw.lenD
  unfold Dev.hold
  split
  · rename_i hd
    have hs := seg_length S.cache j (by omega)
    refine ⟨⟨hw.lenL, by rw [length_splice _ _ _ (by rw [hs, hw.lenF]; omega)]; exact hw.lenF, by simp [hw.lenP], hD, hw.small, hw.u64L, hw.u64C, splice_lt _ hw.u64F (seg_lt _ hw.u64C)⟩, h.sound, fun l hl => ?_⟩
    dsimp only at hl ⊢
    rw [getD_setB _ _ _ _ (by rw [hw.lenP]; exact hj)] at hl
    split at hl
    · rename_i e; rw [e]; exact hd
    · exact h.pend l hl
  · exact h
theorem Dev.flush_inv {S : Dev} (h : S.inv) (j : Int) : (S.flush j).inv := by
  unfold Dev.flush
  split
  · exact h
  · split
    · exact Dev.step_inv h
    · exact Dev.hold_inv (Dev.step_inv h) _ (by rw [(Dev.step_rest S).2.2.2.1]; omega)
theorem Dev.flushRun_inv {S : Dev} (h : S.inv) (a m : Nat) : (S.flushRun a m).dev.inv := by
  induction m with
  | zero => exact h
  | succ m ih =>
    unfold Dev.flushRun
    split
    · exact ih
    · exact Dev.flush_inv ih _

/-- What a fence has done up to line k. -/
structure FenceAt (S : Dev) (k : Nat) (T : Dev) : Prop where
  cache : T.cache = S.cache
  flushed : T.flushed = S.flushed
  lenD : T.dirty.length = S.dirty.length
  lenP : T.pending.length = S.pending.length
  lenL : T.lasting.length = S.lasting.length
  pending : ∀ l, T.pending.getD l false = if l < k then false else S.pending.getD l false
  dirty : ∀ l, T.dirty.getD l false = if l < k ∧ S.pending.getD l false = true then !decide (seg S.flushed l = seg S.cache l) else S.dirty.getD l false
  lasting : ∀ j, T.lasting.getD j 0 = if j / 8 < k ∧ S.pending.getD (j / 8) false = true then S.flushed.getD j 0 else S.lasting.getD j 0
  u64 : ∀ z ∈ T.lasting, z < 18446744073709551616

theorem fenceTo_at {S : Dev} (h : S.wf) : ∀ k, k ≤ S.dirty.length → FenceAt S k (S.fenceTo k)
  | 0, _ => ⟨rfl, rfl, rfl, rfl, rfl, by simp [Dev.fenceTo], by simp [Dev.fenceTo], by simp [Dev.fenceTo], h.u64L⟩
  | k + 1, hk => by
    have i := fenceTo_at h k (by omega)
    have hD := h.lenD
    have hP := h.lenP
    have hL := h.lenL
    have hF := h.lenF
    unfold Dev.fenceTo
    generalize S.fenceTo k = T at *
    have hp : T.pending.getD k false = S.pending.getD k false := by rw [i.pending k, if_neg (by omega)]
    unfold Dev.settle
    rw [hp]
    cases hq : S.pending.getD k false
    · simp only [Bool.false_eq_true, if_false]
      refine ⟨i.cache, i.flushed, i.lenD, i.lenP, i.lenL, fun l => ?_, fun l => ?_, fun j => ?_, i.u64⟩
      · rw [i.pending l]
        by_cases e : l = k
        · subst e; rw [if_neg (by omega), if_pos (by omega), hq]
        · by_cases h1 : l < k
          · rw [if_pos h1, if_pos (by omega)]
          · rw [if_neg h1, if_neg (by omega)]
      · rw [i.dirty l]
        by_cases e : l = k
        · subst e; rw [if_neg (by omega), if_neg (by rw [hq]; simp)]
        · by_cases h1 : l < k ∧ S.pending.getD l false = true
          · rw [if_pos h1, if_pos ⟨by omega, h1.2⟩]
          · rw [if_neg h1, if_neg (fun h2 => h1 ⟨by omega, h2.2⟩)]
      · rw [i.lasting j]
        by_cases e : j / 8 = k
        · rw [if_neg (by omega), if_neg (by rw [e, hq]; simp)]
        · by_cases h1 : j / 8 < k ∧ S.pending.getD (j / 8) false = true
          · rw [if_pos h1, if_pos ⟨by omega, h1.2⟩]
          · rw [if_neg h1, if_neg (fun h2 => h1 ⟨by omega, h2.2⟩)]
    · simp only [if_true]
      rw [i.flushed, i.cache]
      have hs := seg_length S.flushed k (by omega)
      have hlT : 8 * k + 8 ≤ T.lasting.length := by rw [i.lenL]; omega
      refine ⟨rfl, rfl, by simp [i.lenD], by simp [i.lenP], by rw [length_splice _ _ _ (by rw [hs]; exact hlT)]; exact i.lenL, fun l => ?_, fun l => ?_, fun j => ?_, splice_lt _ i.u64 (seg_lt _ h.u64F)⟩
      · dsimp only
        rw [getD_setB _ _ _ _ (by rw [i.lenP]; omega), i.pending l]
        by_cases e : l = k
        · subst e; rw [if_pos rfl, if_pos (by omega)]
        · rw [if_neg e]
          by_cases h1 : l < k
          · rw [if_pos h1, if_pos (by omega)]
          · rw [if_neg h1, if_neg (by omega)]
      · dsimp only
        rw [getD_setB _ _ _ _ (by rw [i.lenD]; omega), i.dirty l]
        by_cases e : l = k
        · subst e; rw [if_pos rfl, if_pos ⟨by omega, hq⟩]
        · rw [if_neg e]
          by_cases h1 : l < k ∧ S.pending.getD l false = true
          · rw [if_pos h1, if_pos ⟨by omega, h1.2⟩]
          · rw [if_neg h1, if_neg (fun h2 => h1 ⟨by omega, h2.2⟩)]
      · dsimp only
        rw [splice_seg_getD _ _ _ _ hlT (by omega), i.lasting j]
        by_cases e : j / 8 = k
        · rw [if_pos e, if_pos ⟨by omega, by rw [e]; exact hq⟩]
        · rw [if_neg e]
          by_cases h1 : j / 8 < k ∧ S.pending.getD (j / 8) false = true
          · rw [if_pos h1, if_pos ⟨by omega, h1.2⟩]
          · rw [if_neg h1, if_neg (fun h2 => h1 ⟨by omega, h2.2⟩)]

theorem getD_false_of {l : List Bool} {i : Nat} (h : l.length ≤ i) : l.getD i false = false := by simp [List.getD_eq_getElem?_getD, List.getElem?_eq_none h]
theorem getD_zero_of {l : List Nat} {i : Nat} (h : l.length ≤ i) : l.getD i 0 = 0 := by simp [List.getD_eq_getElem?_getD, List.getElem?_eq_none h]

theorem Dev.fence_at {S : Dev} (h : S.wf) (hs : S.stop = false) : FenceAt S S.dirty.length S.fence := by
  unfold Dev.fence
  rw [hs]
  simp only [Bool.false_eq_true, if_false]
  obtain ⟨e1, e2, e3, e4, e5⟩ := S.step_rest
  have i := fenceTo_at (Dev.step_wf h) S.dirty.length (by rw [e4]; exact Nat.le_refl _)
  exact ⟨by rw [← e2]; exact i.cache, by rw [← e3]; exact i.flushed, by rw [← e4]; exact e4 ▸ i.lenD, by rw [← e5]; exact i.lenP, by rw [← e1]; exact i.lenL, by have := i.pending; rwa [e5] at this, by have := i.dirty; rwa [e5, e3, e2, e4] at this, by have := i.lasting; rwa [e5, e3, e1] at this, i.u64⟩
theorem Dev.fence_inv {S : Dev} (h : S.inv) : S.fence.inv := by
  by_cases hs : S.stop = true
  · unfold Dev.fence; rw [hs]; exact Dev.step_inv h
  · have i := Dev.fence_at h.wf (by simpa using hs)
    have hw := h.wf
    have hD := hw.lenD
    generalize S.fence = T at *
    refine ⟨⟨by rw [i.lenL, i.cache]; exact hw.lenL, by rw [i.flushed, i.cache]; exact hw.lenF, by rw [i.lenP, i.lenD]; exact hw.lenP, by rw [i.cache, i.lenD]; exact hD, by rw [i.cache]; exact hw.small, i.u64, by rw [i.cache]; exact hw.u64C, by rw [i.flushed]; exact hw.u64F⟩, fun j hj => ?_, fun l hl => ?_⟩
    · rw [i.lasting j, i.cache]
      rw [i.dirty (j / 8)] at hj
      by_cases h1 : j / 8 < S.dirty.length ∧ S.pending.getD (j / 8) false = true
      · rw [if_pos h1]
        rw [if_pos h1] at hj
        have : seg S.flushed (j / 8) = seg S.cache (j / 8) := by simpa using hj
        exact (seg_eq_iff _ _ _ (by rw [hw.lenF]; omega) (by omega)).1 this j (by omega) (by omega)
      · rw [if_neg h1]
        rw [if_neg h1] at hj
        exact h.sound j hj
    · rw [i.pending l] at hl
      by_cases h1 : l < S.dirty.length
      · rw [if_pos h1] at hl; cases hl
      · rw [getD_false_of (by rw [hw.lenP]; omega)] at hl
        simp at hl
theorem Dev.persist_inv {S : Dev} (h : S.inv) (p n : Int) : (S.persist p n).dev.inv := by
  unfold Dev.persist
  split
  · exact h
  · split
    · unfold Dev.persistN
      split
      · exact Dev.flushRun_inv h _ _
      · exact Dev.fence_inv (Dev.flushRun_inv h _ _)
    · exact Dev.fence_inv h

theorem settle_steps (S : Dev) (j : Nat) : (S.settle j).steps = S.steps ∧ (S.settle j).fuse = S.fuse := by
  unfold Dev.settle; split <;> exact ⟨rfl, rfl⟩
theorem fenceTo_steps (S : Dev) (k : Nat) : (S.fenceTo k).steps = S.steps ∧ (S.fenceTo k).fuse = S.fuse := by
  induction k with
  | zero => exact ⟨rfl, rfl⟩
  | succ k ih => have h := settle_steps (S.fenceTo k) k; exact ⟨h.1.trans ih.1, h.2.trans ih.2⟩
theorem Dev.fence_ok {S : Dev} {N : Nat} (h : S.ok N) : S.fence.ok (N + 1) := by
  unfold Dev.fence
  split
  · exact Dev.step_ok h
  · have := Dev.step_ok h
    have e := fenceTo_steps S.step S.dirty.length
    unfold Dev.ok at *
    rw [e.1, e.2]
    exact this
theorem Dev.persist_ok {S : Dev} (hw : S.wf) {N : Nat} (h : S.ok N) (p n : Int) : (S.persist p n).dev.ok (N + 200000) := by
  have hD := hw.lenD
  have hs := hw.small
  unfold Dev.persist
  split
  · exact h.mono (by omega)
  · split
    · unfold Dev.persistN
      have hM : (((p : Int) + (n : Int) - 1) / 8 - (p : Int) / 8 + 1).toNat ≤ 150000 := by omega
      split
      · exact (Dev.flushRun_ok h _ _).mono (by omega)
      · exact (Dev.fence_ok (Dev.flushRun_ok h _ _)).mono (by omega)
    · exact (Dev.fence_ok h).mono (by omega)

theorem settle_live {S : Dev} (h : S.live) (j : Nat) : (S.settle j).live := by
  unfold Dev.settle; split <;> exact h
theorem fenceTo_live {S : Dev} (h : S.live) (k : Nat) : (S.fenceTo k).live := by
  induction k with
  | zero => exact h
  | succ k ih => exact settle_live ih k
theorem Dev.live.fence {S : Dev} (h : S.live) : S.fence.live := by
  unfold Dev.fence
  rw [h.stop]
  exact fenceTo_live h.step _
theorem Dev.live.persist_live {S : Dev} (h : S.live) (p n : Nat) (hn : 0 < n) (hd : S.cache.length = 8 * S.dirty.length) (hp : p + n ≤ S.cache.length) : (S.persist p n).dev.live := by
  unfold Dev.persist
  rw [if_neg (by omega), if_pos (by omega)]
  unfold Dev.persistN
  obtain ⟨i1, i2, i3, i4⟩ := h.flushRun ((p : Int) / 8).toNat (((p : Int) + (n : Int) - 1) / 8 - (p : Int) / 8 + 1).toNat (by omega)
  rw [if_neg (by rw [i1]; simp)]
  exact i2.fence

/-- A line that was flushed is held as it is. -/
theorem Dev.flushRun_held {S : Dev} (h : S.inv) (a : Nat) : ∀ m, (S.flushRun a m).err = 0 → (S.flushRun a m).dev.cache = S.cache ∧ (S.flushRun a m).dev.dirty = S.dirty ∧ (0 < m → a + m ≤ S.dirty.length) ∧
    ∀ l, a ≤ l → l < a + m → S.dirty.getD l false = true → (S.flushRun a m).dev.pending.getD l false = true ∧ seg (S.flushRun a m).dev.flushed l = seg S.cache l
  | 0, _ => ⟨rfl, rfl, fun h => absurd h (Nat.lt_irrefl _), fun l h1 h2 => by omega⟩
  | m + 1, he => by
    have hinv := Dev.flushRun_inv h a m
    unfold Dev.flushRun at he ⊢
    by_cases h0 : (S.flushRun a m).err ≠ 0
    · rw [if_pos h0] at he
      exact absurd he h0
    · rw [if_neg h0] at he ⊢
      obtain ⟨i1, i2, i3, i4⟩ := Dev.flushRun_held h a m (by simpa using h0)
      generalize (S.flushRun a m).dev = T at *
      dsimp only at he ⊢
      unfold Dev.flushE at he
      unfold Dev.flush
      by_cases c1 : ((a + m : Nat) : Int) < 0 ∨ (T.dirty.length : Int) ≤ ((a + m : Nat) : Int)
      · rw [if_pos c1] at he; simp at he
      rw [if_neg c1] at he ⊢
      cases c2 : T.stop
      · simp only [Bool.false_eq_true, if_false]
        obtain ⟨e1, e2, e3, e4, e5⟩ := T.step_rest
        rw [show ((a + m : Nat) : Int).toNat = a + m by omega]
        have hw := Dev.step_wf hinv.wf
        have hD := hw.lenD
        have hdl : T.dirty.length = S.dirty.length := by rw [i2]
        have hj : a + m < T.step.dirty.length := by rw [e4]; omega
        rw [← e4] at i2
        rw [← e2] at i1
        rw [← e5, ← e3] at i4
        generalize T.step = U at *
        refine ⟨by rw [(Dev.hold_len U _).1, i1], by rw [(Dev.hold_len U _).2, i2], fun _ => by rw [← i2]; omega, fun l h1 h2 hd => ?_⟩
        unfold Dev.hold
        by_cases hl : l = a + m
        · subst hl
          rw [if_pos (by rw [i2]; exact hd)]
          dsimp only
          refine ⟨by rw [getD_setB _ _ _ _ (by rw [hw.lenP]; exact hj), if_pos rfl], ?_⟩
          rw [seg_splice _ _ _ (seg_length _ _ (by omega)) (by rw [hw.lenF]; omega), i1]
        · have := i4 l h1 (by omega) hd
          have hll : l < U.dirty.length := by
            rcases Nat.lt_or_ge l U.dirty.length with h | h
            · exact h
            · rw [← i2, getD_false_of h] at hd; cases hd
          split
          · dsimp only
            refine ⟨by rw [getD_setB _ _ _ _ (by rw [hw.lenP]; exact hj), if_neg hl]; exact this.1, ?_⟩
            rw [← this.2]
            have hs := seg_length U.cache (a + m) (by omega)
            refine (seg_eq_iff _ _ _ (by rw [length_splice _ _ _ (by rw [hs, hw.lenF]; omega), hw.lenF]; omega) (by rw [hw.lenF]; omega)).2 (fun i h3 h4 => ?_)
            rw [splice_seg_getD _ _ _ _ (by rw [hw.lenF]; omega) (by omega), if_neg (by omega)]
          · exact this
      · rw [c2] at he
        simp at he

/-- What was persisted is clean; what was clean stays so. -/
theorem Dev.persist_clean {S : Dev} (h : S.inv) (p n : Nat) (hn : 0 < n) (he : (S.persist p n).err = 0) : (S.persist p n).dev.cache = S.cache ∧ p + n ≤ S.cache.length ∧ (S.persist p n).dev.dirty.length = S.dirty.length ∧
    (∀ j, p ≤ j → j < p + n → (S.persist p n).dev.dirty.getD (j / 8) false = false) ∧ ∀ l, S.dirty.getD l false = false → (S.persist p n).dev.dirty.getD l false = false := by
  unfold Dev.persist at he ⊢
  by_cases c1 : (p : Int) < 0 ∨ (n : Int) < 0 ∨ (S.cache.length : Int) < (p : Int) ∨ (S.cache.length : Int) - (p : Int) < (n : Int)
  · rw [if_pos c1] at he; simp at he
  rw [if_neg c1, if_pos (by omega)] at he ⊢
  unfold Dev.persistN at he ⊢
  generalize hA : ((p : Int) / 8).toNat = A at *
  generalize hM : (((p : Int) + (n : Int) - 1) / 8 - (p : Int) / 8 + 1).toNat = M at *
  by_cases c2 : (S.flushRun A M).err ≠ 0
  · rw [if_pos c2] at he; exact absurd he c2
  rw [if_neg c2] at he ⊢
  obtain ⟨i1, i2, i3, i4⟩ := Dev.flushRun_held h A M (by simpa using c2)
  have hinv := Dev.flushRun_inv h A M
  generalize (S.flushRun A M).dev = T at *
  dsimp only at he ⊢
  unfold Dev.fenceE at he
  cases c3 : T.stop
  · have f := Dev.fence_at hinv.wf c3
    refine ⟨f.cache.trans i1, by omega, by rw [f.lenD, i2], fun j h1 h2 => ?_, fun l hl => ?_⟩
    · rw [f.dirty, i2, i1]
      cases hd : S.dirty.getD (j / 8) false
      · rw [if_neg]
        rintro ⟨_, hp⟩
        have := hinv.pend _ hp
        rw [i2, hd] at this
        cases this
      · have := i4 (j / 8) (by omega) (by omega) hd
        have hl : j / 8 < S.dirty.length := by
          rcases Nat.lt_or_ge (j / 8) S.dirty.length with h | h
          · exact h
          · rw [getD_false_of h] at hd; cases hd
        rw [if_pos ⟨hl, this.1⟩, this.2]
        simp
    · rw [f.dirty, i2, if_neg]
      · exact hl
      · rintro ⟨_, hp⟩
        have := hinv.pend _ hp
        rw [i2, hl] at this
        cases this
  · rw [c3] at he
    simp at he

/-- A crash leaves what is clean. -/
theorem Dev.crash_clean {S : Dev} (h : S.inv) (cs : List Nat) (j : Nat) (hd : S.dirty.getD (j / 8) false = false) : (S.crashW cs).getD j 0 = S.cache.getD j 0 := by
  rw [← h.sound j hd]
  unfold Dev.crashW
  have hls : ∀ l ∈ dirtyL S.dirty S.dirty.length, l < S.dirty.length ∧ S.dirty.getD l false = true := fun l hl => (dirtyL_mem _ _ _).1 hl
  generalize dirtyL S.dirty S.dirty.length = ls at *
  have hw := h.wf
  have hD := hw.lenD
  have key : ∀ i, i ≤ ls.length → (crashTo S ls cs i).getD j 0 = S.lasting.getD j 0 := by
    intro i
    induction i with
    | zero => intro _; rfl
    | succ i ih =>
      intro hi
      rw [← ih (by omega)]
      have hlen := (crashTo_wf hw ls cs (fun l hl => (hls l hl).1) i (by omega)).1
      have hm : ls.getD i 0 ∈ ls := by
        rw [List.getD_eq_getElem?_getD, List.getElem?_eq_getElem (by omega)]
        exact List.getElem_mem _
      have hl := hls _ hm
      rw [show crashTo S ls cs (i + 1) = crashOne S (crashTo S ls cs i) (ls.getD i 0) (cs.getD i 0) from rfl]
      generalize crashTo S ls cs i = out at *
      generalize ls.getD i 0 = l at *
      unfold crashOne
      have hne : j / 8 ≠ l := by rintro rfl; rw [hl.2] at hd; cases hd
      split
      · split
        · rw [splice_seg_getD _ _ _ _ (by omega) (by rw [hw.lenF]; omega), if_neg hne]
        · rfl
      · split
        · rw [splice_seg_getD _ _ _ _ (by omega) (by omega), if_neg hne]
        · rfl
  exact key _ (Nat.min_le_left _ _)
theorem Dev.crash_wf {S : Dev} (h : S.wf) (cs : List Nat) : (S.crashW cs).length = S.cache.length ∧ ∀ z ∈ S.crashW cs, z < 18446744073709551616 :=
  crashTo_wf h _ cs (fun l hl => ((dirtyL_mem _ _ _).1 hl).1) _ (Nat.min_le_left _ _)

end Go.Proofs.Ytjgdplengfnkaaa
