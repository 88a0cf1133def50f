/- Parts of the proof, one behind the other: Iv, Rs, Rt, Ru, Rv, Rw. -/
import Derived.Test.YtebnelihlgdciaaGreatM4
import Derived.ChangeKeysEq
import Derived.Laws.StructEq
import Derived.Deep.QuietTactic
import Derived.BigQuiet

/- Plain: what holds of a device at all times; what a persist and a crash leave. -/
namespace Go.Proofs.YtebnelihlgdciaaGreat
set_option linter.unusedVariables false

theorem splice_getD (l s : List Nat) (o i : Nat) (h : o + s.length ≤ l.length) : (splice l o s).getD i 0 = if o ≤ i ∧ i < o + s.length then s.getD (i - o) 0 else l.getD i 0 := by
  unfold splice
  simp only [List.getD_eq_getElem?_getD]
  by_cases h1 : i < o
  · rw [if_neg (by omega), List.getElem?_append_left (by simp; omega), List.getElem?_take_of_lt h1]
  · rw [List.getElem?_append_right (by simp; omega), show (l.take o).length = o by simp; omega]
    by_cases h2 : i < o + s.length
    · rw [if_pos (by omega), List.getElem?_append_left (by omega)]
    · rw [if_neg (by omega), List.getElem?_append_right (by omega), List.getElem?_drop, show o + s.length + (i - o - s.length) = i by omega]
theorem seg_getD (l : List Nat) (j i : Nat) (hi : 8 * j ≤ i) (h2 : i < 8 * j + 8) : (seg l j).getD (i - 8 * j) 0 = l.getD i 0 := by
  rw [List.getD_eq_getElem?_getD, seg_at l j (i - 8 * j) (by omega), show 8 * j + (i - 8 * j) = i by omega, ← List.getD_eq_getElem?_getD]
theorem seg_eq_iff (l m : List Nat) (j : Nat) (h1 : 8 * j + 8 ≤ l.length) (h2 : 8 * j + 8 ≤ m.length) : seg l j = seg m j ↔ ∀ i, 8 * j ≤ i → i < 8 * j + 8 → l.getD i 0 = m.getD i 0 := by
  constructor
  · intro h i hi hi2
    rw [← seg_getD l j i hi hi2, ← seg_getD m j i hi hi2, h]
  · intro h
    apply List.ext_getElem (by rw [seg_length l j h1, seg_length m j h2])
    intro i hi1 hi2
    rw [seg_length l j h1] at hi1
    have := h (8 * j + i) (by omega) (by omega)
    have e1 := seg_getD l j (8 * j + i) (by omega) (by omega)
    have e2 := seg_getD m j (8 * j + i) (by omega) (by omega)
    rw [show 8 * j + i - 8 * j = i by omega] at e1 e2
    rw [this, ← e2] at e1
    simpa [List.getD_eq_getElem?_getD, seg_length l j h1, seg_length m j h2, hi1] using e1
theorem splice_seg_getD (l s : List Nat) (j i : Nat) (h1 : 8 * j + 8 ≤ l.length) (h2 : 8 * j + 8 ≤ s.length) : (splice l (8 * j) (seg s j)).getD i 0 = if i / 8 = j then s.getD i 0 else l.getD i 0 := by
  have hl := seg_length s j h2
  rw [splice_getD _ _ _ _ (by rw [hl]; exact h1), hl]
  by_cases h : i / 8 = j
  · rw [if_pos (by omega), if_pos h, seg_getD s j i (by omega) (by omega)]
  · rw [if_neg (by omega), if_neg h]
theorem getD_setB (l : List Bool) (i j : Nat) (b : Bool) (hi : i < l.length) : (l.set i b).getD j false = if j = i then b else l.getD j false := by
  simp only [List.getD_eq_getElem?_getD]
  by_cases h : j = i
  · subst h; rw [if_pos rfl, List.getElem?_set_self hi]; rfl
  · rw [if_neg h, List.getElem?_set_ne (Ne.symm h)]
theorem getD_setN (l : List Nat) (i j x : Nat) (hi : i < l.length) : (l.set i x).getD j 0 = if j = i then x else l.getD j 0 := by
  simp only [List.getD_eq_getElem?_getD]
  by_cases h : j = i
  · subst h; rw [if_pos rfl, List.getElem?_set_self hi]; rfl
  · rw [if_neg h, List.getElem?_set_ne (Ne.symm h)]

/-- A line that is not dirty lasts as it is; a pending one is dirty. -/
structure Dev.inv (S : Dev) : Prop where
  wf : S.wf
  sound : ∀ j, S.dirty.getD (j / 8) false = false → S.lasting.getD j 0 = S.cache.getD j 0
  pend : ∀ l, S.pending.getD l false = true → S.dirty.getD l false = true

theorem Dev.step_wf {S : Dev} (h : S.wf) : S.step.wf := by
  unfold Dev.step
  split
  · exact ⟨h.lenL, h.lenF, h.lenP, h.lenD, h.small, h.u64L, h.u64C, h.u64F⟩
  · exact ⟨h.lenL, h.lenF, h.lenP, h.lenD, h.small, h.u64L, h.u64C, h.u64F⟩
theorem Dev.step_inv {S : Dev} (h : S.inv) : S.step.inv := by
  obtain ⟨e1, e2, e3, e4, e5⟩ := S.step_rest
  exact ⟨Dev.step_wf h.wf, by rw [e1, e2, e4]; exact h.sound, by rw [e5, e4]; exact h.pend⟩
theorem fresh_inv {ws : List Nat} {m : Nat} (h8 : ws.length = 8 * m) (hs : ws.length ≤ 1000000) (hu : ∀ z ∈ ws, z < 18446744073709551616) : (freshDev ws m).inv := by
  refine ⟨⟨rfl, by simp [freshDev], by simp [freshDev], by simpa [freshDev] using h8, hs, hu, hu, ?_⟩, fun j _ => rfl, fun l hl => ?_⟩
  · intro z hz
    simp [freshDev] at hz
    omega
  · exfalso
    simp [freshDev, List.getD_eq_getElem?_getD, List.getElem?_replicate] at hl
    split at hl <;> simp at hl
theorem Dev.put_inv {S : Dev} (h : S.inv) (i x : Nat) (hi : i < S.cache.length) (hx : x < 18446744073709551616) : (S.put i x).inv := by
  have hw := h.wf
  have hD := hw.lenD
  have hl : i / 8 < S.dirty.length := by omega
  refine ⟨⟨by simp [Dev.put, hw.lenL], by simp [Dev.put, hw.lenF], by simp [Dev.put, hw.lenP], by simp [Dev.put, hD], by simp [Dev.put, hw.small], hw.u64L, set_lt hw.u64C _ _ hx, hw.u64F⟩, fun j hj => ?_, fun l hl2 => ?_⟩
  · simp only [Dev.put] at hj ⊢
    rw [getD_setB _ _ _ _ hl] at hj
    rw [getD_setN _ _ _ _ hi]
    split at hj
    · cases hj
    · rw [if_neg (by rintro rfl; simp at *)]
      exact h.sound j hj
  · simp only [Dev.put] at hl2 ⊢
    rw [getD_setB _ _ _ _ hl]
    split
    · rfl
    · exact h.pend l hl2
theorem Dev.store_inv {S : Dev} (h : S.inv) (i : Int) (x : Nat) (hx : x < 18446744073709551616) : (S.store i x).inv := by
  unfold Dev.store
  split
  · exact h
  · split
    · exact Dev.step_inv h
    · exact Dev.put_inv (Dev.step_inv h) _ _ (by rw [(Dev.step_rest S).2.1]; omega) hx
theorem Dev.hold_inv {S : Dev} (h : S.inv) (j : Nat) (hj : j < S.dirty.length) : (S.hold j).inv := by
  have hw := h.wf
  have hD := hw.lenD
  unfold Dev.hold
  split
  · rename_i hd
    have hs := seg_length S.cache j (by omega)
    refine ⟨⟨hw.lenL, by rw [length_splice _ _ _ (by rw [hs, hw.lenF]; omega)]; exact hw.lenF, by simp [hw.lenP], hD, hw.small, hw.u64L, hw.u64C, splice_lt _ hw.u64F (seg_lt _ hw.u64C)⟩, h.sound, fun l hl => ?_⟩
    dsimp only at hl ⊢
    rw [getD_setB _ _ _ _ (by rw [hw.lenP]; exact hj)] at hl
    split at hl
    · rename_i e; rw [e]; exact hd
    · exact h.pend l hl
  · exact h
theorem Dev.flush_inv {S : Dev} (h : S.inv) (j : Int) : (S.flush j).inv := by
  unfold Dev.flush
  split
  · exact h
  · split
    · exact Dev.step_inv h
    · exact Dev.hold_inv (Dev.step_inv h) _ (by rw [(Dev.step_rest S).2.2.2.1]; omega)
theorem Dev.flushRun_inv {S : Dev} (h : S.inv) (a m : Nat) : (S.flushRun a m).dev.inv := by
  induction m with
  | zero => exact h
  | succ m ih =>
    unfold Dev.flushRun
    split
    · exact ih
    · exact Dev.flush_inv ih _

/-- What a fence has done up to line k. -/
structure FenceAt (S : Dev) (k : Nat) (T : Dev) : Prop where
  cache : T.cache = S.cache
  flushed : T.flushed = S.flushed
  lenD : T.dirty.length = S.dirty.length
  lenP : T.pending.length = S.pending.length
  lenL : T.lasting.length = S.lasting.length
  pending : ∀ l, T.pending.getD l false = if l < k then false else S.pending.getD l false
  dirty : ∀ l, T.dirty.getD l false = if l < k ∧ S.pending.getD l false = true then !decide (seg S.flushed l = seg S.cache l) else S.dirty.getD l false
  lasting : ∀ j, T.lasting.getD j 0 = if j / 8 < k ∧ S.pending.getD (j / 8) false = true then S.flushed.getD j 0 else S.lasting.getD j 0
  u64 : ∀ z ∈ T.lasting, z < 18446744073709551616

theorem fenceTo_at {S : Dev} (h : S.wf) : ∀ k, k ≤ S.dirty.length → FenceAt S k (S.fenceTo k)
  | 0, _ => ⟨rfl, rfl, rfl, rfl, rfl, by simp [Dev.fenceTo], by simp [Dev.fenceTo], by simp [Dev.fenceTo], h.u64L⟩
  | k + 1, hk => by
    have i := fenceTo_at h k (by omega)
    have hD := h.lenD
    have hP := h.lenP
    have hL := h.lenL
    have hF := h.lenF
    unfold Dev.fenceTo
    generalize S.fenceTo k = T at *
    have hp : T.pending.getD k false = S.pending.getD k false := by rw [i.pending k, if_neg (by omega)]
    unfold Dev.settle
    rw [hp]
    cases hq : S.pending.getD k false
    · simp only [Bool.false_eq_true, if_false]
      refine ⟨i.cache, i.flushed, i.lenD, i.lenP, i.lenL, fun l => ?_, fun l => ?_, fun j => ?_, i.u64⟩
      · rw [i.pending l]
        by_cases e : l = k
        · subst e; rw [if_neg (by omega), if_pos (by omega), hq]
        · by_cases h1 : l < k
          · rw [if_pos h1, if_pos (by omega)]
          · rw [if_neg h1, if_neg (by omega)]
      · rw [i.dirty l]
        by_cases e : l = k
        · subst e; rw [if_neg (by omega), if_neg (by rw [hq]; simp)]
        · by_cases h1 : l < k ∧ S.pending.getD l false = true
          · rw [if_pos h1, if_pos ⟨by omega, h1.2⟩]
          · rw [if_neg h1, if_neg (fun h2 => h1 ⟨by omega, h2.2⟩)]
      · rw [i.lasting j]
        by_cases e : j / 8 = k
        · rw [if_neg (by omega), if_neg (by rw [e, hq]; simp)]
        · by_cases h1 : j / 8 < k ∧ S.pending.getD (j / 8) false = true
          · rw [if_pos h1, if_pos ⟨by omega, h1.2⟩]
          · rw [if_neg h1, if_neg (fun h2 => h1 ⟨by omega, h2.2⟩)]
    · simp only [if_true]
      rw [i.flushed, i.cache]
      have hs := seg_length S.flushed k (by omega)
      have hlT : 8 * k + 8 ≤ T.lasting.length := by rw [i.lenL]; omega
      refine ⟨rfl, rfl, by simp [i.lenD], by simp [i.lenP], by rw [length_splice _ _ _ (by rw [hs]; exact hlT)]; exact i.lenL, fun l => ?_, fun l => ?_, fun j => ?_, splice_lt _ i.u64 (seg_lt _ h.u64F)⟩
      · dsimp only
        rw [getD_setB _ _ _ _ (by rw [i.lenP]; omega), i.pending l]
        by_cases e : l = k
        · subst e; rw [if_pos rfl, if_pos (by omega)]
        · rw [if_neg e]
          by_cases h1 : l < k
          · rw [if_pos h1, if_pos (by omega)]
          · rw [if_neg h1, if_neg (by omega)]
      · dsimp only
        rw [getD_setB _ _ _ _ (by rw [i.lenD]; omega), i.dirty l]
        by_cases e : l = k
        · subst e; rw [if_pos rfl, if_pos ⟨by omega, hq⟩]
        · rw [if_neg e]
          by_cases h1 : l < k ∧ S.pending.getD l false = true
          · rw [if_pos h1, if_pos ⟨by omega, h1.2⟩]
          · rw [if_neg h1, if_neg (fun h2 => h1 ⟨by omega, h2.2⟩)]
      · dsimp only
        rw [splice_seg_getD _ _ _ _ hlT (by omega), i.lasting j]
        by_cases e : j / 8 = k
        · rw [if_pos e, if_pos ⟨by omega, by rw [e]; exact hq⟩]
        · rw [if_neg e]
          by_cases h1 : j / 8 < k ∧ S.pending.getD (j / 8) false = true
          · rw [if_pos h1, if_pos ⟨by omega, h1.2⟩]
          · rw [if_neg h1, if_neg (fun h2 => h1 ⟨by omega, h2.2⟩)]

theorem getD_false_of {l : List Bool} {i : Nat} (h : l.length ≤ i) : l.getD i false = false := by simp [List.getD_eq_getElem?_getD, List.getElem?_eq_none h]
theorem getD_zero_of {l : List Nat} {i : Nat} (h : l.length ≤ i) : l.getD i 0 = 0 := by simp [List.getD_eq_getElem?_getD, List.getElem?_eq_none h]

theorem Dev.fence_at {S : Dev} (h : S.wf) (hs : S.stop = false) : FenceAt S S.dirty.length S.fence := by
  unfold Dev.fence
  rw [hs]
  simp only [Bool.false_eq_true, if_false]
  obtain ⟨e1, e2, e3, e4, e5⟩ := S.step_rest
  have i := fenceTo_at (Dev.step_wf h) S.dirty.length (by rw [e4]; exact Nat.le_refl _)
  exact ⟨by rw [← e2]; exact i.cache, by rw [← e3]; exact i.flushed, by rw [← e4]; exact e4 ▸ i.lenD, by rw [← e5]; exact i.lenP, by rw [← e1]; exact i.lenL, by have := i.pending; rwa [e5] at this, by have := i.dirty; rwa [e5, e3, e2, e4] at this, by have := i.lasting; rwa [e5, e3, e1] at this, i.u64⟩
theorem Dev.fence_inv {S : Dev} (h : S.inv) : S.fence.inv := by
  by_cases hs : S.stop = true
  · unfold Dev.fence; rw [hs]; exact Dev.step_inv h
  · have i := Dev.fence_at h.wf (by simpa using hs)
    have hw := h.wf
    have hD := hw.lenD
    generalize S.fence = T at *
    refine ⟨⟨by rw [i.lenL, i.cache]; exact hw.lenL, by rw [i.flushed, i.cache]; exact hw.lenF, by rw [i.lenP, i.lenD]; exact hw.lenP, by rw [i.cache, i.lenD]; exact hD, by rw [i.cache]; exact hw.small, i.u64, by rw [i.cache]; exact hw.u64C, by rw [i.flushed]; exact hw.u64F⟩, fun j hj => ?_, fun l hl => ?_⟩
    · rw [i.lasting j, i.cache]
      rw [i.dirty (j / 8)] at hj
      by_cases h1 : j / 8 < S.dirty.length ∧ S.pending.getD (j / 8) false = true
      · rw [if_pos h1]
        rw [if_pos h1] at hj
        have : seg S.flushed (j / 8) = seg S.cache (j / 8) := by simpa using hj
        exact (seg_eq_iff _ _ _ (by rw [hw.lenF]; omega) (by omega)).1 this j (by omega) (by omega)
      · rw [if_neg h1]
        rw [if_neg h1] at hj
        exact h.sound j hj
    · rw [i.pending l] at hl
      by_cases h1 : l < S.dirty.length
      · rw [if_pos h1] at hl; cases hl
      · rw [getD_false_of (by rw [hw.lenP]; omega)] at hl
        simp at hl
theorem Dev.persist_inv {S : Dev} (h : S.inv) (p n : Int) : (S.persist p n).dev.inv := by
  unfold Dev.persist
  split
  · exact h
  · split
    · unfold Dev.persistN
      split
      · exact Dev.flushRun_inv h _ _
      · exact Dev.fence_inv (Dev.flushRun_inv h _ _)
    · exact Dev.fence_inv h

theorem settle_steps (S : Dev) (j : Nat) : (S.settle j).steps = S.steps ∧ (S.settle j).fuse = S.fuse := by
  unfold Dev.settle; split <;> exact ⟨rfl, rfl⟩
theorem fenceTo_steps (S : Dev) (k : Nat) : (S.fenceTo k).steps = S.steps ∧ (S.fenceTo k).fuse = S.fuse := by
  induction k with
  | zero => exact ⟨rfl, rfl⟩
  | succ k ih => have h := settle_steps (S.fenceTo k) k; exact ⟨h.1.trans ih.1, h.2.trans ih.2⟩
theorem Dev.fence_ok {S : Dev} {N : Nat} (h : S.ok N) : S.fence.ok (N + 1) := by
  unfold Dev.fence
  split
  · exact Dev.step_ok h
  · have := Dev.step_ok h
    have e := fenceTo_steps S.step S.dirty.length
    unfold Dev.ok at *
    rw [e.1, e.2]
    exact this
theorem Dev.persist_ok {S : Dev} (hw : S.wf) {N : Nat} (h : S.ok N) (p n : Int) : (S.persist p n).dev.ok (N + 200000) := by
  have hD := hw.lenD
  have hs := hw.small
  unfold Dev.persist
  split
  · exact h.mono (by omega)
  · split
    · unfold Dev.persistN
      have hM : (((p : Int) + (n : Int) - 1) / 8 - (p : Int) / 8 + 1).toNat ≤ 150000 := by omega
      split
      · exact (Dev.flushRun_ok h _ _).mono (by omega)
      · exact (Dev.fence_ok (Dev.flushRun_ok h _ _)).mono (by omega)
    · exact (Dev.fence_ok h).mono (by omega)

theorem settle_live {S : Dev} (h : S.live) (j : Nat) : (S.settle j).live := by
  unfold Dev.settle; split <;> exact h
theorem fenceTo_live {S : Dev} (h : S.live) (k : Nat) : (S.fenceTo k).live := by
  induction k with
  | zero => exact h
  | succ k ih => exact settle_live ih k
theorem Dev.live.fence {S : Dev} (h : S.live) : S.fence.live := by
  unfold Dev.fence
  rw [h.stop]
  exact fenceTo_live h.step _
theorem Dev.live.persist_live {S : Dev} (h : S.live) (p n : Nat) (hn : 0 < n) (hd : S.cache.length = 8 * S.dirty.length) (hp : p + n ≤ S.cache.length) : (S.persist p n).dev.live := by
  unfold Dev.persist
  rw [if_neg (by omega), if_pos (by omega)]
  unfold Dev.persistN
  obtain ⟨i1, i2, i3, i4⟩ := h.flushRun ((p : Int) / 8).toNat (((p : Int) + (n : Int) - 1) / 8 - (p : Int) / 8 + 1).toNat (by omega)
  rw [if_neg (by rw [i1]; simp)]
  exact i2.fence

/-- A line that was flushed is held as it is. -/
theorem Dev.flushRun_held {S : Dev} (h : S.inv) (a : Nat) : ∀ m, (S.flushRun a m).err = 0 → (S.flushRun a m).dev.cache = S.cache ∧ (S.flushRun a m).dev.dirty = S.dirty ∧ (0 < m → a + m ≤ S.dirty.length) ∧
    ∀ l, a ≤ l → l < a + m → S.dirty.getD l false = true → (S.flushRun a m).dev.pending.getD l false = true ∧ seg (S.flushRun a m).dev.flushed l = seg S.cache l
  | 0, _ => ⟨rfl, rfl, fun h => absurd h (Nat.lt_irrefl _), fun l h1 h2 => by omega⟩
  | m + 1, he => by
    have hinv := Dev.flushRun_inv h a m
    unfold Dev.flushRun at he ⊢
    by_cases h0 : (S.flushRun a m).err ≠ 0
    · rw [if_pos h0] at he
      exact absurd he h0
    · rw [if_neg h0] at he ⊢
      obtain ⟨i1, i2, i3, i4⟩ := Dev.flushRun_held h a m (by simpa using h0)
      generalize (S.flushRun a m).dev = T at *
      dsimp only at he ⊢
      unfold Dev.flushE at he
      unfold Dev.flush
      by_cases c1 : ((a + m : Nat) : Int) < 0 ∨ (T.dirty.length : Int) ≤ ((a + m : Nat) : Int)
      · rw [if_pos c1] at he; simp at he
      rw [if_neg c1] at he ⊢
      cases c2 : T.stop
      · simp only [Bool.false_eq_true, if_false]
        obtain ⟨e1, e2, e3, e4, e5⟩ := T.step_rest
        rw [show ((a + m : Nat) : Int).toNat = a + m by omega]
        have hw := Dev.step_wf hinv.wf
        have hD := hw.lenD
        have hdl : T.dirty.length = S.dirty.length := by rw [i2]
        have hj : a + m < T.step.dirty.length := by rw [e4]; omega
        rw [← e4] at i2
        rw [← e2] at i1
        rw [← e5, ← e3] at i4
        generalize T.step = U at *
        refine ⟨by rw [(Dev.hold_len U _).1, i1], by rw [(Dev.hold_len U _).2, i2], fun _ => by rw [← i2]; omega, fun l h1 h2 hd => ?_⟩
        unfold Dev.hold
        by_cases hl : l = a + m
        · subst hl
          rw [if_pos (by rw [i2]; exact hd)]
          dsimp only
          refine ⟨by rw [getD_setB _ _ _ _ (by rw [hw.lenP]; exact hj), if_pos rfl], ?_⟩
          rw [seg_splice _ _ _ (seg_length _ _ (by omega)) (by rw [hw.lenF]; omega), i1]
        · have := i4 l h1 (by omega) hd
          have hll : l < U.dirty.length := by
            rcases Nat.lt_or_ge l U.dirty.length with h | h
            · exact h
            · rw [← i2, getD_false_of h] at hd; cases hd
          split
          · dsimp only
            refine ⟨by rw [getD_setB _ _ _ _ (by rw [hw.lenP]; exact hj), if_neg hl]; exact this.1, ?_⟩
            rw [← this.2]
            have hs := seg_length U.cache (a + m) (by omega)
            refine (seg_eq_iff _ _ _ (by rw [length_splice _ _ _ (by rw [hs, hw.lenF]; omega), hw.lenF]; omega) (by rw [hw.lenF]; omega)).2 (fun i h3 h4 => ?_)
            rw [splice_seg_getD _ _ _ _ (by rw [hw.lenF]; omega) (by omega), if_neg (by omega)]
          · exact this
      · rw [c2] at he
        simp at he

/-- What was persisted is clean; what was clean stays so. -/
theorem Dev.persist_clean {S : Dev} (h : S.inv) (p n : Nat) (hn : 0 < n) (he : (S.persist p n).err = 0) : (S.persist p n).dev.cache = S.cache ∧ p + n ≤ S.cache.length ∧ (S.persist p n).dev.dirty.length = S.dirty.length ∧
    (∀ j, p ≤ j → j < p + n → (S.persist p n).dev.dirty.getD (j / 8) false = false) ∧ ∀ l, S.dirty.getD l false = false → (S.persist p n).dev.dirty.getD l false = false := by
  unfold Dev.persist at he ⊢
  by_cases c1 : (p : Int) < 0 ∨ (n : Int) < 0 ∨ (S.cache.length : Int) < (p : Int) ∨ (S.cache.length : Int) - (p : Int) < (n : Int)
  · rw [if_pos c1] at he; simp at he
  rw [if_neg c1, if_pos (by omega)] at he ⊢
  unfold Dev.persistN at he ⊢
  generalize hA : ((p : Int) / 8).toNat = A at *
  generalize hM : (((p : Int) + (n : Int) - 1) / 8 - (p : Int) / 8 + 1).toNat = M at *
  by_cases c2 : (S.flushRun A M).err ≠ 0
  · rw [if_pos c2] at he; exact absurd he c2
  rw [if_neg c2] at he ⊢
  obtain ⟨i1, i2, i3, i4⟩ := Dev.flushRun_held h A M (by simpa using c2)
  have hinv := Dev.flushRun_inv h A M
  generalize (S.flushRun A M).dev = T at *
  dsimp only at he ⊢
  unfold Dev.fenceE at he
  cases c3 : T.stop
  · have f := Dev.fence_at hinv.wf c3
    refine ⟨f.cache.trans i1, by omega, by rw [f.lenD, i2], fun j h1 h2 => ?_, fun l hl => ?_⟩
    · rw [f.dirty, i2, i1]
      cases hd : S.dirty.getD (j / 8) false
      · rw [if_neg]
        rintro ⟨_, hp⟩
        have := hinv.pend _ hp
        rw [i2, hd] at this
        cases this
      · have := i4 (j / 8) (by omega) (by omega) hd
        have hl : j / 8 < S.dirty.length := by
          rcases Nat.lt_or_ge (j / 8) S.dirty.length with h | h
          · exact h
          · rw [getD_false_of h] at hd; cases hd
        rw [if_pos ⟨hl, this.1⟩, this.2]
        simp
    · rw [f.dirty, i2, if_neg]
      · exact hl
      · rintro ⟨_, hp⟩
        have := hinv.pend _ hp
        rw [i2, hl] at this
        cases this
  · rw [c3] at he
    simp at he

/-- A crash leaves what is clean. -/
theorem Dev.crash_clean {S : Dev} (h : S.inv) (cs : List Nat) (j : Nat) (hd : S.dirty.getD (j / 8) false = false) : (S.crashW cs).getD j 0 = S.cache.getD j 0 := by
  rw [← h.sound j hd]
  unfold Dev.crashW
  have hls : ∀ l ∈ dirtyL S.dirty S.dirty.length, l < S.dirty.length ∧ S.dirty.getD l false = true := fun l hl => (dirtyL_mem _ _ _).1 hl
  generalize dirtyL S.dirty S.dirty.length = ls at *
  have hw := h.wf
  have hD := hw.lenD
  have key : ∀ i, i ≤ ls.length → (crashTo S ls cs i).getD j 0 = S.lasting.getD j 0 := by
    intro i
    induction i with
    | zero => intro _; rfl
    | succ i ih =>
      intro hi
      rw [← ih (by omega)]
      have hlen := (crashTo_wf hw ls cs (fun l hl => (hls l hl).1) i (by omega)).1
      have hm : ls.getD i 0 ∈ ls := by
        rw [List.getD_eq_getElem?_getD, List.getElem?_eq_getElem (by omega)]
        exact List.getElem_mem _
      have hl := hls _ hm
      rw [show crashTo S ls cs (i + 1) = crashOne S (crashTo S ls cs i) (ls.getD i 0) (cs.getD i 0) from rfl]
      generalize crashTo S ls cs i = out at *
      generalize ls.getD i 0 = l at *
      unfold crashOne
      have hne : j / 8 ≠ l := by rintro rfl; rw [hl.2] at hd; cases hd
      split
      · split
        · rw [splice_seg_getD _ _ _ _ (by omega) (by rw [hw.lenF]; omega), if_neg hne]
        · rfl
      · split
        · rw [splice_seg_getD _ _ _ _ (by omega) (by omega), if_neg hne]
        · rfl
  exact key _ (Nat.min_le_left _ _)
theorem Dev.crash_wf {S : Dev} (h : S.wf) (cs : List Nat) : (S.crashW cs).length = S.cache.length ∧ ∀ z ∈ S.crashW cs, z < 18446744073709551616 :=
  crashTo_wf h _ cs (fun l hl => ((dirtyL_mem _ _ _).1 hl).1) _ (Nat.min_le_left _ _)

end Go.Proofs.YtebnelihlgdciaaGreat

/- The reference's device: step, lines, flags. -/
namespace Go.Proofs.YtebnelihlgdciaaGreat
open Go.RowKit
set_option linter.unusedVariables false

/-- A step of the document's device. -/
structure RStep where
  steps : Int
  fuse : Int
  dead : Bool
  ok : Bool
def rstepF (steps fuse : Int) (dead : Bool) : RStep := if dead = true ∨ fuse = 0 then ⟨steps, fuse, true, false⟩ else ⟨steps + 1, if 0 < fuse then fuse - 1 else fuse, dead, true⟩

set_option maxHeartbeats 1000000 in
set_option maxRecDepth 20000 in
theorem rstep_any (an al aw ad ap : Option Addr) (m cn cl cw cd cp : Nat) (steps fuse : Int) (dead : Bool) (w : World) (hs : 0 ≤ steps ∧ steps < 4611686018427387904) (hf : -1 ≤ fuse ∧ fuse < 9223372036854775808) :
    Calls Tryz.prog 121 #[.agg #[.slice an m cn, .slice al m cl, .slice aw m cw, .slice ad m cd, .slice ap m cp, .int .i64 steps, .int .i64 fuse, .bool dead]] w fun e w' =>
      e = .returned (.tuple #[.agg #[.slice an m cn, .slice al m cl, .slice aw m cw, .slice ad m cd, .slice ap m cp, .int .i64 (rstepF steps fuse dead).steps, .int .i64 (rstepF steps fuse dead).fuse, .bool (rstepF steps fuse dead).dead], .bool (rstepF steps fuse dead).ok]) ∧ Below w.heap.size w w' := by
  have HM := Lib.hid (Mem.two w #[.slice an m cn, .slice al m cl, .slice aw m cw, .slice ad m cd, .slice ap m cp, .int .i64 steps, .int .i64 fuse, .bool dead] 32 zeroD 32)
  have HF : Hid (rstepF steps fuse dead = if dead = true ∨ fuse = 0 then ⟨steps, fuse, true, false⟩ else ⟨steps + 1, if 0 < fuse then fuse - 1 else fuse, dead, true⟩) := Lib.hid rfl
  generalize rstepF steps fuse dead = R at *
  go_enter Tryz.func121, Tryz.ntmps121
  go_upto_region 1 with fail
  unfold zeroD at HM
  generalize (w.alloc _).alloc _ = w0 at *
  obtain ⟨q, hq⟩ : ∃ q, q = w.heap.size := ⟨_, rfl⟩
  rw [← hq] at HM ⊢
  have HQ := Lib.hid hq
  clear hq
  have c5 := HM.out.cell 0 5 rfl rfl
  have c6 := HM.out.cell 0 6 rfl rfl
  have c7 := HM.out.cell 0 7 rfl rfl
  have f5 := HM.out.frozen 0 5 rfl
  have f6 := HM.out.frozen 0 6 rfl
  have f7 := HM.out.frozen 0 7 rfl
  by_cases hst : dead = true ∨ fuse = 0
  · have HV : Hid (R = ⟨steps, fuse, true, false⟩) := Lib.hid (by rw [HF.out, if_pos hst])
    have HM2 := Lib.hid (HM.out.set 0 7 (.bool true) rfl (by simp))
    cases dead
    · obtain rfl : fuse = 0 := by simpa using hst
      clear hst
      go_wp2_with (first | (refine wpList_load_mem aggRd HM2.out 0 rfl rfl rfl rfl rfl ?_) | (refine wpList_store_mem aggRd HM2.out 1 rfl rfl rfl rfl rfl rfl rfl rfl ?_; intro w9 h9 _; have H9 := Lib.hid h9; clear h9))
      refine bodyPost_ret (results_cell_row2 (p := 2) (u := 3) rfl _ _ _ _ _ _ _ rfl (H9.out.exact 1 rfl) Tryz.underlying32 rfl (by kernel_rfl)) rfl ⟨by rw [HV.out]; rfl, H9.out.below⟩
    · clear hst
      go_wp2_with (first | (refine wpList_load_mem aggRd HM2.out 0 rfl rfl rfl rfl rfl ?_) | (refine wpList_store_mem aggRd HM2.out 1 rfl rfl rfl rfl rfl rfl rfl rfl ?_; intro w9 h9 _; have H9 := Lib.hid h9; clear h9))
      refine bodyPost_ret (results_cell_row2 (p := 2) (u := 3) rfl _ _ _ _ _ _ _ rfl (H9.out.exact 1 rfl) Tryz.underlying32 rfl (by kernel_rfl)) rfl ⟨by rw [HV.out]; rfl, H9.out.below⟩
  · obtain rfl : dead = false := by cases dead <;> simp_all
    have hne : ¬ fuse = 0 := by simpa using hst
    have hne2 : (fuse == 0) = false := by simpa using hne
    by_cases h0 : 0 < fuse
    · have HV : Hid (R = ⟨steps + 1, fuse - 1, false, true⟩) := Lib.hid (by rw [HF.out, if_neg hst, if_pos h0])
      have HM2 := Lib.hid ((HM.out.set 0 6 (.int .i64 (fuse - 1)) rfl (by simp)).set 0 5 (.int .i64 (steps + 1)) rfl (by simp))
      clear hst hne
      go_wp2_with (first | (refine wpList_load_mem aggRd HM2.out 0 rfl rfl rfl rfl rfl ?_) | (refine wpList_store_mem aggRd HM2.out 1 rfl rfl rfl rfl rfl rfl rfl rfl ?_; intro w9 h9 _; have H9 := Lib.hid h9; clear h9))
      refine bodyPost_ret (results_cell_row2 (p := 2) (u := 3) rfl _ _ _ _ _ _ _ rfl (H9.out.exact 1 rfl) Tryz.underlying32 rfl (by kernel_rfl)) rfl ⟨by rw [HV.out]; rfl, H9.out.below⟩
    · have HV : Hid (R = ⟨steps + 1, fuse, false, true⟩) := Lib.hid (by rw [HF.out, if_neg hst, if_neg h0])
      have HM2 := Lib.hid (HM.out.set 0 5 (.int .i64 (steps + 1)) rfl (by simp))
      clear hst hne
      go_wp2_with (first | (refine wpList_load_mem aggRd HM2.out 0 rfl rfl rfl rfl rfl ?_) | (refine wpList_store_mem aggRd HM2.out 1 rfl rfl rfl rfl rfl rfl rfl rfl ?_; intro w9 h9 _; have H9 := Lib.hid h9; clear h9))
      refine bodyPost_ret (results_cell_row2 (p := 2) (u := 3) rfl _ _ _ _ _ _ _ rfl (H9.out.exact 1 rfl) Tryz.underlying32 rfl (by kernel_rfl)) rfl ⟨by rw [HV.out]; rfl, H9.out.below⟩

set_option maxHeartbeats 400000 in
theorem rlines_any (a : Option Addr) (n cap : Nat) (ls : List Nat) (w : World) (hc : Cells w a (ls.map vu64)) (hl : ls.length = 8 * n) (hn : n ≤ 1000000) :
    Calls Tryz.prog 122 #[.slice a n cap] w (Copied 133 n (ls.map vu64) w) := by
  have hb := below_alloc w (.cells #[] 133)
  have ho := World.ownsRow_lit (base := w.heap.size) (e := 133) (size := 8) w #[] 0 (Nat.le_refl _) (by unfold maxLen; omega) rfl
  have HC := Lib.hid (hc.below hb (Nat.le_refl _))
  have HL : Hid ((ls.map vu64).length = n * 8) := Lib.hid (by rw [List.length_map, hl, Nat.mul_comm])
  have HO := Lib.hid ho
  have HB := Lib.hid hb
  have hone : Hid (∀ u ∈ ls.map vu64, u.oneCell' = true) := Lib.hid (one_cells _)
  have hbase := Lib.hid hb.size
  have hn9 : 0 + n < 1000000000000 := by omega
  clear hb ho hc hl
  go_enter Tryz.func122, Tryz.ntmps122
  go_wp2_with (at_builtin; refine wpList_append_cells elLine HO.out HC.out HL.out hone.out hn9 (by decide) hbase.out rfl rfl rfl rfl ?_; intro v2 w2 ho2 hg2 hv2; have HO2 := Lib.hid ho2; have HG2 := Lib.hid hg2; have HV2 := Lib.hid hv2; clear ho2 hg2 hv2)
  go_ret
  have h2 := HO2.out
  rw [Nat.zero_add] at h2
  obtain ⟨g, c, rfl, h3, h4, h5, h6⟩ := owned_new h2 (fun e => by have := (HV2.out e).1; simp at this)
  exact ⟨g, c, rfl, h3, h4, h5, by simpa using h6, below_grownBy HB.out HO.out HG2.out (Nat.le_refl _) (Nat.le_refl _)⟩

theorem bone_cells (bs : List Bool) : ∀ u ∈ bs.map Value.bool, u.oneCell' = true := by
  intro u hu
  simp only [List.mem_map] at hu
  obtain ⟨b, _, rfl⟩ := hu
  rfl

set_option maxHeartbeats 400000 in
theorem rflags_any (a : Option Addr) (n cap : Nat) (bs : List Bool) (w : World) (hc : Cells w a (bs.map Value.bool)) (hl : bs.length = n) (hn : n ≤ 1000000) :
    Calls Tryz.prog 123 #[.slice a n cap] w (Copied 4 n (bs.map Value.bool) w) := by
  have hb := below_alloc w (.cells #[] 4)
  have ho := World.ownsRow_lit (base := w.heap.size) (e := 4) (size := 1) w #[] 0 (Nat.le_refl _) (by unfold maxLen; omega) rfl
  have HC := Lib.hid (hc.below hb (Nat.le_refl _))
  have HL : Hid ((bs.map Value.bool).length = n * 1) := Lib.hid (by rw [List.length_map, hl, Nat.mul_one])
  have HO := Lib.hid ho
  have HB := Lib.hid hb
  have hone : Hid (∀ u ∈ bs.map Value.bool, u.oneCell' = true) := Lib.hid (bone_cells _)
  have hbase := Lib.hid hb.size
  have hn9 : 0 + n < 1000000000000 := by omega
  clear hb ho hc hl
  go_enter Tryz.func123, Tryz.ntmps123
  go_wp2_with (at_builtin; refine wpList_append_cells elBool HO.out HC.out HL.out hone.out hn9 (by decide) hbase.out rfl rfl rfl rfl ?_; intro v2 w2 ho2 hg2 hv2; have HO2 := Lib.hid ho2; have HG2 := Lib.hid hg2; have HV2 := Lib.hid hv2; clear ho2 hg2 hv2)
  go_ret
  have h2 := HO2.out
  rw [Nat.zero_add] at h2
  obtain ⟨g, c, rfl, h3, h4, h5, h6⟩ := owned_new h2 (fun e => by have := (HV2.out e).1; simp at this)
  exact ⟨g, c, rfl, h3, h4, h5, by simpa using h6, below_grownBy HB.out HO.out HG2.out (Nat.le_refl _) (Nat.le_refl _)⟩

end Go.Proofs.YtebnelihlgdciaaGreat

/- The reference's device: Store, Flush. -/
namespace Go.Proofs.YtebnelihlgdciaaGreat
open Go.RowKit
set_option linter.unusedVariables false

/-- The document's device of the same state. -/
def Dev.ref (S : Dev) : RDev := ⟨S.cache, S.lasting, S.flushed, S.dirty, S.pending, S.steps, if S.armed = true then S.fuse else -1, S.dead⟩
/-- States that the document's device can follow. -/
structure Dev.fit (S : Dev) (N : Nat) : Prop where
  wf : S.wf
  ok : S.ok N
  arm : S.armed = true → 0 ≤ S.fuse

theorem Dev.fit.mono {S : Dev} {N M : Nat} (h : S.fit N) (hM : N ≤ M) : S.fit M := ⟨h.wf, h.ok.mono hM, h.arm⟩
theorem Dev.fit_fuse {S : Dev} {N : Nat} (h : S.fit N) : -1 ≤ S.ref.fuse ∧ S.ref.fuse < 9223372036854775808 := by
  unfold Dev.ref
  dsimp only
  have := h.ok
  unfold Dev.ok at this
  split
  · rename_i c; have := h.arm c; omega
  · omega
theorem rstep_ref {S : Dev} {N : Nat} (h : S.fit N) : (rstepF S.steps S.ref.fuse S.dead).steps = S.step.steps ∧ (rstepF S.steps S.ref.fuse S.dead).fuse = S.step.ref.fuse ∧ (rstepF S.steps S.ref.fuse S.dead).dead = S.step.dead ∧ (rstepF S.steps S.ref.fuse S.dead).ok = !S.stop := by
  unfold rstepF Dev.step Dev.stop Dev.ref
  dsimp only
  have ha := h.arm
  cases hd : S.dead
  · cases hr : S.armed
    · simp [hr]
    · by_cases h0 : S.fuse = 0
      · simp [h0, hr]
      · have := ha hr
        have h1 : 0 < S.fuse := by omega
        simp [h0, h1, hr]
  · simp
theorem Dev.step_fit {S : Dev} {N : Nat} (h : S.fit N) : S.step.fit (N + 1) := by
  refine ⟨Dev.step_wf h.wf, Dev.step_ok h.ok, ?_⟩
  unfold Dev.step
  have ha := h.arm
  have hst : S.stop = false → S.armed = true → ¬ S.fuse = 0 := fun h1 h2 => by unfold Dev.stop at h1; simp [h2] at h1; exact h1.2
  cases hs : S.stop
  · intro c
    have c1 := ha c
    have c2 := hst hs c
    simp at c1 c2 ⊢
    omega
  · exact ha
theorem Dev.store_dl (S : Dev) (i : Int) (x : Nat) : (S.store i x).dirty.length = S.dirty.length := by
  obtain ⟨e1, e2, e3, e4, e5⟩ := S.step_rest
  unfold Dev.store
  split
  · rfl
  · split
    · rw [e4]
    · simp [Dev.put, e4]
theorem Dev.step_arm (S : Dev) : S.step.armed = S.armed := by unfold Dev.step; split <;> rfl
theorem Dev.store_fit {S : Dev} {N : Nat} (h : S.fit N) (i : Int) (x : Nat) (hx : x < 18446744073709551616) : (S.store i x).fit (N + 1) := by
  have h1 := Dev.step_fit h
  unfold Dev.store
  split
  · exact h.mono (by omega)
  · split
    · exact h1
    · have hw := h1.wf
      refine ⟨⟨?_, ?_, ?_, ?_, ?_, hw.u64L, ?_, hw.u64F⟩, h1.ok, h1.arm⟩
      · simp [Dev.put, hw.lenL]
      · simp [Dev.put, hw.lenF]
      · simp [Dev.put, hw.lenP]
      · simp [Dev.put, hw.lenD]
      · simp [Dev.put, hw.small]
      · exact set_lt hw.u64C _ _ hx

/-- A device's slices lie in a block. -/
def RIn (v : Value) (b : Nat) : Prop := ∃ cs, v = .agg cs ∧ ∃ (i : Nat) (x : Addr) (n c : Nat), cs[i]? = some (.slice (some x) n c) ∧ x.block = b
theorem rin8 {an al aw ad ap : Option Addr} {n1 c1 n2 c2 n3 c3 n4 c4 n5 c5 : Nat} {k1 k2 : IntKind} {i1 i2 : Int} {b1 : Bool} {b : Nat} :
    RIn (.agg #[.slice an n1 c1, .slice al n2 c2, .slice aw n3 c3, .slice ad n4 c4, .slice ap n5 c5, .int k1 i1, .int k2 i2, .bool b1]) b ↔ ∃ a ∈ [an, al, aw, ad, ap], ∃ x, a = some x ∧ x.block = b := by
  constructor
  · rintro ⟨cs, hcs, i, x, n, c, hi, hb⟩
    simp only [Value.agg.injEq] at hcs
    subst hcs
    rcases i with _ | _ | _ | _ | _ | _ | _ | _ | i
    all_goals first
      | (simp only [List.getElem?_toArray, List.getElem?_cons_zero, List.getElem?_cons_succ, Option.some.injEq, Value.slice.injEq] at hi; exact ⟨_, by simp, x, hi.1, hb⟩)
      | simp at hi
  · rintro ⟨a, ha, x, rfl, hb⟩
    simp only [List.mem_cons, List.not_mem_nil, or_false] at ha
    rcases ha with rfl | rfl | rfl | rfl | rfl
    · exact ⟨_, rfl, 0, x, _, _, rfl, hb⟩
    · exact ⟨_, rfl, 1, x, _, _, rfl, hb⟩
    · exact ⟨_, rfl, 2, x, _, _, rfl, hb⟩
    · exact ⟨_, rfl, 3, x, _, _, rfl, hb⟩
    · exact ⟨_, rfl, 4, x, _, _, rfl, hb⟩
theorem rin_mk {an al aw ad ap an' al' aw' ad' ap' : Option Addr} {n1 c1 n2 c2 n3 c3 n4 c4 n5 c5 n1' c1' n2' c2' n3' c3' n4' c4' n5' c5' B : Nat} {i1 i2 i1' i2' : Int} {b1 b1' : Bool}
    (h : ∀ a ∈ [an', al', aw', ad', ap'], a ∈ [an, al, aw, ad, ap] ∨ ∃ g o, a = some ⟨g, o, none⟩ ∧ B ≤ g) :
    ∀ b, RIn (.agg #[.slice an' n1' c1', .slice al' n2' c2', .slice aw' n3' c3', .slice ad' n4' c4', .slice ap' n5' c5', .int .i64 i1', .int .i64 i2', .bool b1']) b →
      RIn (.agg #[.slice an n1 c1, .slice al n2 c2, .slice aw n3 c3, .slice ad n4 c4, .slice ap n5 c5, .int .i64 i1, .int .i64 i2, .bool b1]) b ∨ B ≤ b := by
  intro b hb
  rw [rin8] at hb ⊢
  obtain ⟨a, ha, x, rfl, hx⟩ := hb
  rcases h _ ha with h | ⟨g, o', h, hg⟩
  · exact .inl ⟨_, h, x, rfl, hx⟩
  · cases h
    exact .inr (by dsimp only at hx; omega)
/-- What a call of the document's device leaves: the device, a number. -/
def RDone (m : Nat) (S : Dev) (code : Int) (v : Value) (w : World) : Ending → World → Prop := fun e w' => ∃ v', e = .returned (.tuple #[v', .int .i64 code]) ∧ RAt w' v' m S.ref ∧ (∀ b, RIn v' b → RIn v b ∨ w.heap.size ≤ b) ∧ Below w.heap.size w w'
theorem RAt.touch {w w' : World} {v : Value} {m : Nat} {R : RDev} (h : RAt w v m R) {L : List Nat} (ht : Touch L w w') (hL : m = 0 ∨ ∀ b, RIn v b → b ∉ L) : RAt w' v m R := by
  obtain ⟨an, cn, al, cl, aw, cw, ad, cd, ap, cp, rfl, h1, h2, h3, h4, h5⟩ := h.ex
  have key : ∀ (a : Option Addr) (vs : List Value), a ∈ [an, al, aw, ad, ap] → (m = 0 → vs = []) → Cells w a vs → Cells w' a vs := by
    intro a vs ha h0 hc
    rcases hc with hc | ⟨b, off, rfl, hc⟩
    · exact .inl hc
    · rcases hL with hm | hL
      · exact .inl (h0 hm)
      · exact .inr ⟨b, off, rfl, fun i v hi => cell_of_touch ht (hL b (rin8.2 ⟨_, ha, _, rfl, rfl⟩)) (hc i v hi)⟩
  have z : ∀ l : List Nat, l.length = 8 * m → m = 0 → l.map vu64 = [] := fun l hl hm => by subst hm; simp at hl; simp [hl]
  have z2 : ∀ l : List Bool, l.length = m → m = 0 → l.map Value.bool = [] := fun l hl hm => by subst hm; simp at hl; simp [hl]
  exact { h with ex := ⟨an, cn, al, cl, aw, cw, ad, cd, ap, cp, rfl, key _ _ (by simp) (z _ h.lenN) h1, key _ _ (by simp) (z _ h.lenL) h2, key _ _ (by simp) (z _ h.lenW) h3, key _ _ (by simp) (z2 _ h.lenD) h4, key _ _ (by simp) (z2 _ h.lenP) h5⟩ }
theorem RAt.old {w : World} {v : Value} {m : Nat} {R : RDev} (h : RAt w v m R) : m = 0 ∨ ∀ b, RIn v b → b < w.heap.size := by
  by_cases hm : m = 0
  · exact .inl hm
  refine .inr fun b hb => ?_
  obtain ⟨an, cn, al, cl, aw, cw, ad, cd, ap, cp, rfl, h1, h2, h3, h4, h5⟩ := h.ex
  rw [rin8] at hb
  obtain ⟨a, ha, x, rfl, rfl⟩ := hb
  have key : ∀ vs : List Value, vs ≠ [] → Cells w (some x) vs → x.block < w.heap.size := by
    intro vs hne hc
    rcases hc with hc | ⟨b', off, he, hc⟩
    · exact absurd hc hne
    · cases he
      cases vs with
      | nil => exact absurd rfl hne
      | cons x xs => exact World.block_lt_of_cell? _ _ (hc 0 x rfl)
  have z : ∀ l : List Nat, l.length = 8 * m → l.map vu64 ≠ [] := fun l hl h => by simp at h; subst h; simp at hl; omega
  have z2 : ∀ l : List Bool, l.length = m → l.map Value.bool ≠ [] := fun l hl h => by simp at h; subst h; simp at hl; omega
  simp only [List.mem_cons, List.not_mem_nil, or_false] at ha
  rcases ha with rfl | rfl | rfl | rfl | rfl
  · exact key _ (z _ h.lenN) h1
  · exact key _ (z _ h.lenL) h2
  · exact key _ (z _ h.lenW) h3
  · exact key _ (z2 _ h.lenD) h4
  · exact key _ (z2 _ h.lenP) h5

theorem rat_mk {w W : World} (hb : Below w.heap.size w W) {S : Dev} (hw : S.wf) {m : Nat} (hm : m = S.dirty.length) {an al aw ad ap : Option Addr} {cn cl cw cd cp : Nat} {st fz : Int} {dd : Bool} (hs : st = S.steps) (hf : fz = S.ref.fuse) (hd : dd = S.dead)
    (k1 : Cells W an (S.cache.map vu64)) (k2 : Cells W al (S.lasting.map vu64)) (k3 : Cells W aw (S.flushed.map vu64)) (k4 : Cells W ad (S.dirty.map Value.bool)) (k5 : Cells W ap (S.pending.map Value.bool)) :
    RAt W (.agg #[.slice an m cn, .slice al m cl, .slice aw m cw, .slice ad m cd, .slice ap m cp, .int .i64 st, .int .i64 fz, .bool dd]) m S.ref := by
  subst hm hs hf hd
  exact ⟨⟨_, _, _, _, _, _, _, _, _, _, rfl, k1, k2, k3, k4, k5⟩, hw.lenD, by show S.lasting.length = _; rw [hw.lenL, hw.lenD], by show S.flushed.length = _; rw [hw.lenF, hw.lenD], rfl, hw.lenP, hw.u64C, hw.u64L, hw.u64F⟩

set_option maxHeartbeats 4000000 in
set_option maxRecDepth 100000 in
theorem rstore_any {w : World} {v : Value} {S : Dev} (h : RAt w v S.dirty.length S.ref) {N : Nat} (hN : N < 1000000000000) (hf : S.fit N) (i : Int) (x : Nat) (hx : x < 18446744073709551616) (hi : -9223372036854775808 ≤ i ∧ i ≤ 9223372036854775807) :
    Calls Tryz.prog 111 #[v, .int .i64 i, vu64 x] w (RDone S.dirty.length (S.store i x) (S.storeE i) v w) := by
  obtain ⟨an, cn, al, cl, aw, cw, ad, cd, ap, cp, hv, k1, k2, k3, k4, k5⟩ := h.ex
  obtain ⟨m, hm⟩ : ∃ m, m = S.dirty.length := ⟨_, rfl⟩
  have hsm := hf.wf.small
  have hld := hf.wf.lenD
  have hst0 := hf.ok
  unfold Dev.ok at hst0
  have hfz := Dev.fit_fuse hf
  have HRS := Lib.hid (rstep_ref hf)
  have HSF := Lib.hid (Dev.step_fit hf)
  have HDF := Lib.hid hf
  rw [← hm] at hv
  subst hv
  rw [← hm]
  have HSt : Hid (S.store i x = if i < 0 ∨ (S.cache.length : Int) ≤ i then S else if S.stop then S.step else S.step.put i.toNat x) := Lib.hid rfl
  have HSE : Hid (S.storeE i = if i < 0 ∨ (S.cache.length : Int) ≤ i then 2 else if S.stop then 3 else 0) := Lib.hid rfl
  generalize hPo : RDone m (S.store i x) (S.storeE i) _ w = Post
  have HPo := Lib.hid hPo
  rw [← hm] at hld
  have HMm := Lib.hid hm
  have hcl : S.cache.length = 8 * m := hld
  have HCL := Lib.hid hcl
  have hm8 : m ≤ 125000 := by omega
  have e1 : S.ref.steps = S.steps := rfl
  have e2 : S.ref.dead = S.dead := rfl
  have e3 : S.ref.now = S.cache := rfl
  have e4 : S.ref.last = S.lasting := rfl
  have e5 : S.ref.wait = S.flushed := rfl
  have e6 : S.ref.dirty = S.dirty := rfl
  have e7 : S.ref.pending = S.pending := rfl
  rw [e3] at k1
  rw [e4] at k2
  rw [e5] at k3
  rw [e6] at k4
  rw [e7] at k5
  rw [e1, e2]
  clear e1 e2 e3 e4 e5 e6 e7 hPo hm hcl hld hsm hf h
  generalize hsv : S.steps = sv at *
  generalize hfv : S.ref.fuse = fz at *
  generalize hdv : S.dead = dd at *
  have HV := Lib.hid (And.intro hsv (And.intro hfv hdv))
  have K1 := Lib.hid k1
  have K2 := Lib.hid k2
  have K3 := Lib.hid k3
  have K4 := Lib.hid k4
  have K5 := Lib.hid k5
  clear k1 k2 k3 k4 k5
  clear hsv hfv hdv
  have HM := Lib.hid (Mem.two w #[.slice an m cn, .slice al m cl, .slice aw m cw, .slice ad m cd, .slice ap m cp, .int .i64 sv, .int .i64 fz, .bool dd] 32 zeroD 32)
  unfold zeroD at HM
  go_enter Tryz.func111, Tryz.ntmps111
  go_upto_region 1 with fail
  generalize (w.alloc _).alloc _ = w0 at *
  obtain ⟨q, hq⟩ : ∃ q, q = w.heap.size := ⟨_, rfl⟩
  rw [← hq] at HM ⊢
  have HQ := Lib.hid hq
  clear hq
  have c0 := HM.out.cell 0 0 rfl rfl
  by_cases h0 : i < 0 ∨ (S.cache.length : Int) ≤ i
  · have hbad : Hid (S.store i x = S ∧ S.storeE i = 2) := Lib.hid (by rw [HSt.out, HSE.out, if_pos h0, if_pos h0]; exact ⟨rfl, rfl⟩)
    have h0' : i < 0 ∨ 8 * (m : Int) ≤ i := by have := HCL.out; omega
    clear h0
    by_cases h1 : i < 0
    · go_wp2_with (first | (refine wpList_load_mem aggRd HM.out 0 rfl rfl rfl rfl rfl ?_) | (refine wpList_store_mem aggRd HM.out 1 rfl rfl rfl rfl rfl rfl rfl rfl ?_; intro w9 h9 _; have H9 := Lib.hid h9; clear h9))
      refine bodyPost_ret (results_cell_row2 (p := 6) (u := 7) rfl _ _ _ _ _ _ _ rfl (H9.out.exact 1 rfl) Tryz.underlying32 rfl (by kernel_rfl)) rfl ?_
      rw [← HPo.out, hbad.out.1, hbad.out.2]
      exact ⟨_, rfl, rat_mk H9.out.below HDF.out.wf HMm.out HV.out.1.symm HV.out.2.1.symm HV.out.2.2.symm (K1.out.below H9.out.below (Nat.le_refl _)) (K2.out.below H9.out.below (Nat.le_refl _)) (K3.out.below H9.out.below (Nat.le_refl _)) (K4.out.below H9.out.below (Nat.le_refl _)) (K5.out.below H9.out.below (Nat.le_refl _)), rin_mk (fun a ha => .inl ha), H9.out.below⟩
    · have h2 : 8 * (m : Int) ≤ i := by omega
      clear h0'
      go_wp2_with (first | (refine wpList_load_mem aggRd HM.out 0 rfl rfl rfl rfl rfl ?_) | (refine wpList_store_mem aggRd HM.out 1 rfl rfl rfl rfl rfl rfl rfl rfl ?_; intro w9 h9 _; have H9 := Lib.hid h9; clear h9))
      refine bodyPost_ret (results_cell_row2 (p := 6) (u := 7) rfl _ _ _ _ _ _ _ rfl (H9.out.exact 1 rfl) Tryz.underlying32 rfl (by kernel_rfl)) rfl ?_
      rw [← HPo.out, hbad.out.1, hbad.out.2]
      exact ⟨_, rfl, rat_mk H9.out.below HDF.out.wf HMm.out HV.out.1.symm HV.out.2.1.symm HV.out.2.2.symm (K1.out.below H9.out.below (Nat.le_refl _)) (K2.out.below H9.out.below (Nat.le_refl _)) (K3.out.below H9.out.below (Nat.le_refl _)) (K4.out.below H9.out.below (Nat.le_refl _)) (K5.out.below H9.out.below (Nat.le_refl _)), rin_mk (fun a ha => .inl ha), H9.out.below⟩
  obtain ⟨j, rfl⟩ := Int.eq_ofNat_of_zero_le (show 0 ≤ i by omega)
  have hjm : (j : Int) < 8 * (m : Int) := by have := HCL.out; omega
  have hStop : Hid (S.store (j : Int) x = (if S.stop then S.step else S.step.put j x) ∧ S.storeE (j : Int) = if S.stop then 3 else 0) := Lib.hid (by rw [HSt.out, HSE.out, if_neg h0, if_neg h0]; exact ⟨rfl, rfl⟩)
  clear h0
  go_upto_region 3 with fail
  go_wp2_with (refine wpList_load_mem aggRd HM.out 0 rfl rfl rfl rfl rfl ?_)
  refine (rstep_any an al aw ad ap m cn cl cw cd cp sv fz dd _ (by omega) hfz).mono ?_
  rintro e w1 ⟨rfl, hb1⟩
  rw [HRS.out.1, HRS.out.2.1, HRS.out.2.2.1, HRS.out.2.2.2]
  have HM1 := Lib.hid (HM.out.later hb1)
  clear hb1 HM c0
  obtain ⟨r1, r2, r3, r4, r5⟩ := S.step_rest
  have HSr := Lib.hid (S.step_rest)
  clear r1 r2 r3 r4 r5
  generalize hsv : S.step.steps = sv1 at *
  generalize hfv : S.step.ref.fuse = fz1 at *
  generalize hdv : S.step.dead = dd1 at *
  have HV1 := Lib.hid (And.intro hsv (And.intro hfv hdv))
  clear hsv hfv hdv
  generalize hstop : S.stop = st at *
  have HStp := Lib.hid hstop
  clear hstop
  go_upto_region 4 with (refine wpList_store_mem aggRd HM1.out 0 rfl rfl rfl rfl rfl rfl rfl rfl ?_; intro w2 h2 _; have HM2 := Lib.hid h2; clear h2)
  clear HM1
  cases st
  case true =>
    go_wp2_with (first | (refine wpList_load_mem aggRd HM2.out 0 rfl rfl rfl rfl rfl ?_) | (refine wpList_store_mem aggRd HM2.out 1 rfl rfl rfl rfl rfl rfl rfl rfl ?_; intro w9 h9 _; have H9 := Lib.hid h9; clear h9))
    refine bodyPost_ret (results_cell_row2 (p := 6) (u := 7) rfl _ _ _ _ _ _ _ rfl (H9.out.exact 1 rfl) Tryz.underlying32 rfl (by kernel_rfl)) rfl ?_
    rw [← HPo.out, hStop.out.1, hStop.out.2, if_pos trivial, if_pos trivial]
    obtain ⟨r1, r2, r3, r4, r5⟩ := HSr.out
    refine ⟨_, rfl, rat_mk H9.out.below HSF.out.wf (by rw [r4]; exact HMm.out) HV1.out.1.symm HV1.out.2.1.symm HV1.out.2.2.symm ?_ ?_ ?_ ?_ ?_, rin_mk (fun a ha => .inl ha), H9.out.below⟩
    · rw [r2]; exact K1.out.below H9.out.below (Nat.le_refl _)
    · rw [r1]; exact K2.out.below H9.out.below (Nat.le_refl _)
    · rw [r3]; exact K3.out.below H9.out.below (Nat.le_refl _)
    · rw [r4]; exact K4.out.below H9.out.below (Nat.le_refl _)
    · rw [r5]; exact K5.out.below H9.out.below (Nat.le_refl _)
  case false =>
    have c0 := HM2.out.cell 0 0 rfl rfl
    have c3 := HM2.out.cell 0 3 rfl rfl
    go_upto_region 6 with fail
    have r0 := fun x => later_cell c0 x
    have r3 := fun x => later_cell c3 x
    refine wp_region_seg (C := fun w' => ∃ x : Later (w2), w' = x.val) [.fl [0, 1, 3, 4], .sq [2] true, .fl [6], .sq [5] true, .sq [7, 8, 9] false] (by kernel_rfl) (by kernel_rfl) (by intro c a d v w h; cases d <;> exact h) ?_
    simp only [segs, picks, List.getElem?_cons_succ, List.getElem?_cons_zero]
    have hC1 := later_drew (w2)
    refine wpSeg_fl hC1 ?_
    repeat (first | go_big_quiet_step (fail) | quiet_step (fail))
    refine wpQuiet_nil ?_
    refine wpSeg_sq (fun K hK => ?_)
    go_wp2_with fail
    have HM3 := Lib.hid (HM2.out.later (later_below hC1))
    refine (rlines_any an m cn S.cache _ (K1.out.below HM3.out.below (Nat.le_refl _)) HCL.out (by omega)).mono ?_
    rintro e w3 ⟨g1, cg1, rfl, hg1, hc1, hm1, hr1, hb3⟩
    have hC2 := later_step hC1 hb3
    have HM4 := Lib.hid (HM3.out.row hb3 hr1 hg1)
    clear hr1 hb3 HM3
    go_wp2_with fail
    refine hK _ _ (fun _ => hC2) ?_
    clear hK K
    refine wpSeg_fl hC2 ?_
    repeat (first | go_big_quiet_step (fail) | quiet_step (fail))
    refine wpQuiet_nil ?_
    refine wpSeg_sq (fun K hK => ?_)
    go_wp2_with fail
    refine (rflags_any ad m cd S.dirty _ (K4.out.below HM4.out.below (Nat.le_refl _)) HMm.out.symm (by omega)).mono ?_
    rintro e w4 ⟨g2, cg2, rfl, hg2, hc2, hm2, hr2, hb4⟩
    have hC3 := later_step hC2 hb4
    have HM5 := Lib.hid (HM4.out.row hb4 hr2 hg2)
    clear hr2 hb4 HM4
    go_wp2_with fail
    refine hK _ _ (fun _ => hC3) ?_
    clear hK K
    refine wpSeg_last ?_
    have f0 := HM5.out.frozen 0 0 rfl
    have f3 := HM5.out.frozen 0 3 rfl
    have c0' := HM5.out.cell 0 0 rfl rfl
    have c3' := HM5.out.cell 0 3 rfl rfl
    go_upto_region 7 with fail
    have HM6 := Lib.hid ((HM5.out.set 0 0 (.slice (some ⟨g1, 0, none⟩) m cg1) rfl (by simp)).set 0 3 (.slice (some ⟨g2, 0, none⟩) m cg2) rfl (by simp))
    clear HM5 HM2 hC1 hC2 hC3 r0 r3 c0 c3 f0 f3 c0' c3'
    generalize (w4.setCell _ _).setCell _ _ = w5 at *
    have c0 := HM6.out.cell 0 0 rfl rfl
    have c3 := HM6.out.cell 0 3 rfl rfl
    have hlt : j / 8 * 8 + j % 8 < (S.cache.map vu64).length := by rw [List.length_map, HCL.out]; omega
    have hlt2 : j / 8 < (S.dirty.map Value.bool).length := by rw [List.length_map, ← HMm.out]; omega
    have d1 := HM6.out.cell 2 (j / 8 * 8 + j % 8) rfl (List.getElem?_eq_getElem hlt)
    have f1 := HM6.out.frozen 2 (j / 8 * 8 + j % 8) rfl
    have HM7 := Lib.hid ((HM6.out.set 2 (j / 8 * 8 + j % 8) (vu64 x) rfl hlt).set 3 (j / 8) (.bool true) rfl hlt2)
    have HM7a := Lib.hid (HM6.out.set 2 (j / 8 * 8 + j % 8) (vu64 x) rfl hlt)
    generalize (S.cache.map vu64)[j / 8 * 8 + j % 8] = old at d1
    clear hlt
    have hq3 : 0 ≤ (j : Int) / 8 := by omega
    have hq4 : ((j : Int) / 8).toNat = j / 8 := by omega
    have hq5 : (j : Int) / 8 < (m : Int) := by omega
    have hq5n : j / 8 < m := by omega
    have hq6 : 0 ≤ (j : Int) % 8 := by omega
    have hq7 : ((j : Int) % 8).toNat = j % 8 := by omega
    have hq8 : (j : Int) % 8 < 8 := by omega
    have hq9 : j % 8 < 8 := by omega
    have hq2 : (j : Int).tmod 8 = (j : Int) % 8 := Int.tmod_eq_emod_of_nonneg (by omega)
    have hq1 : IntKind.i64.wrap ((j : Int) / 8) = (j : Int) / 8 := IntWalk.i64_in _ (by omega)
    go_upto_region 8 with fail
    clear d1 f1 c0 c3 HM6
    generalize w5.setCell _ _ = w6 at *
    have c3 := HM7a.out.cell 0 3 rfl rfl
    have d1 := HM7a.out.cell 3 (j / 8) rfl (List.getElem?_eq_getElem hlt2)
    have f1 := HM7a.out.frozen 3 (j / 8) rfl
    generalize (S.dirty.map Value.bool)[j / 8] = old2 at d1
    clear hlt2
    go_wp2_with (first | (refine wpList_load_mem aggRd HM7.out 0 rfl rfl rfl rfl rfl ?_) | (refine wpList_store_mem aggRd HM7.out 1 rfl rfl rfl rfl rfl rfl rfl rfl ?_; intro w9 h9 _; have H9 := Lib.hid h9; clear h9))
    refine bodyPost_ret (results_cell_row2 (p := 6) (u := 7) rfl _ _ _ _ _ _ _ rfl (H9.out.exact 1 rfl) Tryz.underlying32 rfl (by kernel_rfl)) rfl ?_
    rw [← HPo.out, hStop.out.1, hStop.out.2, if_neg (by simp), if_neg (by simp)]
    obtain ⟨r1, r2, r3, r4, r5⟩ := HSr.out
    have hwf : (S.step.put j x).wf := by
      have hw := HSF.out.wf
      refine ⟨?_, ?_, ?_, ?_, ?_, hw.u64L, ?_, hw.u64F⟩
      · simp [Dev.put, hw.lenL]
      · simp [Dev.put, hw.lenF]
      · simp [Dev.put, hw.lenP]
      · simp [Dev.put, hw.lenD]
      · simp [Dev.put, hw.small]
      · exact set_lt hw.u64C _ _ hx
    refine ⟨_, rfl, rat_mk H9.out.below hwf (by simp [Dev.put, r4]; exact HMm.out) HV1.out.1.symm HV1.out.2.1.symm HV1.out.2.2.symm ?_ ?_ ?_ ?_ ?_, rin_mk (by have q1 := H9.out.gbase 2 rfl; have q2 := H9.out.gbase 3 rfl; intro a ha; simp only [List.mem_cons, List.not_mem_nil, or_false] at ha ⊢; rcases ha with rfl | rfl | rfl | rfl | rfl <;> first | exact .inr ⟨_, _, rfl, q1⟩ | exact .inr ⟨_, _, rfl, q2⟩ | simp), H9.out.below⟩
    · have h := (H9.out.at 2 rfl).cells
      rw [show (S.step.put j x).cache = S.cache.set j x by simp [Dev.put, r2], map_set_u64]
      rwa [show j / 8 * 8 + j % 8 = j by omega] at h
    · rw [show (S.step.put j x).lasting = S.lasting by simp [Dev.put, r1]]; exact K2.out.below H9.out.below (Nat.le_refl _)
    · rw [show (S.step.put j x).flushed = S.flushed by simp [Dev.put, r3]]; exact K3.out.below H9.out.below (Nat.le_refl _)
    · have h := (H9.out.at 3 rfl).cells
      rw [show (S.step.put j x).dirty = S.dirty.set (j / 8) true by simp [Dev.put, r4], map_set_bool]
      exact h
    · rw [show (S.step.put j x).pending = S.pending by simp [Dev.put, r5]]; exact K5.out.below H9.out.below (Nat.le_refl _)

end Go.Proofs.YtebnelihlgdciaaGreat

/- The reference's device: Flush. -/
namespace Go.Proofs.YtebnelihlgdciaaGreat
open Go.RowKit
set_option linter.unusedVariables false

/-- The document's device, opened. -/
structure ROpen (w : World) (S : Dev) (an al aw ad ap : Option Addr) (m : Nat) (sv fz : Int) (dd : Bool) : Prop where
  k1 : Cells w an (S.cache.map vu64)
  k2 : Cells w al (S.lasting.map vu64)
  k3 : Cells w aw (S.flushed.map vu64)
  k4 : Cells w ad (S.dirty.map Value.bool)
  k5 : Cells w ap (S.pending.map Value.bool)
  hm : m = S.dirty.length
  hs : sv = S.steps
  hf : fz = S.ref.fuse
  hd : dd = S.dead
  cl : S.cache.length = 8 * m
theorem ropen {w : World} {v : Value} {S : Dev} (h : RAt w v S.dirty.length S.ref) {N : Nat} (hf : S.fit N) :
    ∃ an cn al cl aw cw ad cd ap cp m sv fz dd, v = .agg #[.slice an m cn, .slice al m cl, .slice aw m cw, .slice ad m cd, .slice ap m cp, .int .i64 sv, .int .i64 fz, .bool dd] ∧ ROpen w S an al aw ad ap m sv fz dd ∧ S.dirty.length = m ∧ m ≤ 125000 ∧ (0 ≤ sv ∧ sv ≤ N) ∧ (-1 ≤ fz ∧ fz < 9223372036854775808) := by
  obtain ⟨an, cn, al, cl, aw, cw, ad, cd, ap, cp, rfl, k1, k2, k3, k4, k5⟩ := h.ex
  have h1 := hf.ok
  unfold Dev.ok at h1
  have h2 := hf.wf.small
  have h3 := hf.wf.lenD
  exact ⟨an, cn, al, cl, aw, cw, ad, cd, ap, cp, _, _, _, _, rfl, ⟨k1, k2, k3, k4, k5, rfl, rfl, rfl, rfl, h3⟩, rfl, by omega, ⟨h1.1, h1.2.1⟩, Dev.fit_fuse hf⟩
theorem ROpen.below {w W : World} {S : Dev} {an al aw ad ap : Option Addr} {m : Nat} {sv fz : Int} {dd : Bool} (h : ROpen w S an al aw ad ap m sv fz dd) (hb : Below w.heap.size w W) : ROpen W S an al aw ad ap m sv fz dd :=
  ⟨h.k1.below hb (Nat.le_refl _), h.k2.below hb (Nat.le_refl _), h.k3.below hb (Nat.le_refl _), h.k4.below hb (Nat.le_refl _), h.k5.below hb (Nat.le_refl _), h.hm, h.hs, h.hf, h.hd, h.cl⟩
theorem ROpen.rat {W : World} {S : Dev} {an al aw ad ap : Option Addr} {m : Nat} {sv fz : Int} {dd : Bool} {cn cl cw cd cp : Nat} (h : ROpen W S an al aw ad ap m sv fz dd) (hw : S.wf) :
    RAt W (.agg #[.slice an m cn, .slice al m cl, .slice aw m cw, .slice ad m cd, .slice ap m cp, .int .i64 sv, .int .i64 fz, .bool dd]) m S.ref :=
  rat_mk (Below.refl _ _) hw h.hm h.hs h.hf h.hd h.k1 h.k2 h.k3 h.k4 h.k5
/-- A step goes by. -/
theorem ROpen.step {W : World} {S : Dev} {an al aw ad ap : Option Addr} {m : Nat} {sv fz : Int} {dd : Bool} (h : ROpen W S an al aw ad ap m sv fz dd) {N : Nat} (hf : S.fit N) :
    ROpen W S.step an al aw ad ap m (rstepF sv fz dd).steps (rstepF sv fz dd).fuse (rstepF sv fz dd).dead ∧ (rstepF sv fz dd).ok = !S.stop := by
  obtain ⟨r1, r2, r3, r4, r5⟩ := S.step_rest
  obtain ⟨k1, k2, k3, k4, k5, rfl, rfl, rfl, rfl, hc⟩ := h
  obtain ⟨q1, q2, q3, q4⟩ := rstep_ref hf
  exact ⟨⟨by rw [r2]; exact k1, by rw [r1]; exact k2, by rw [r3]; exact k3, by rw [r4]; exact k4, by rw [r5]; exact k5, by rw [r4], q1, q2, q3, by rw [r2]; exact hc⟩, q4⟩

theorem Dev.hold_wf {S : Dev} (h : S.wf) (j : Nat) (hj : j < S.dirty.length) : (S.hold j).wf := by
  have hs := seg_length S.cache j (by have := h.lenD; omega)
  unfold Dev.hold
  split
  · exact ⟨h.lenL, by show (splice _ _ _).length = _; rw [length_splice _ _ _ (by rw [hs, h.lenF, h.lenD]; omega)]; exact h.lenF, by simp [h.lenP], h.lenD, h.small, h.u64L, h.u64C, splice_lt _ h.u64F (seg_lt _ h.u64C)⟩
  · exact h
theorem Dev.flush_fit {S : Dev} {N : Nat} (h : S.fit N) (j : Int) : (S.flush j).fit (N + 1) := by
  have h1 := Dev.step_fit h
  unfold Dev.flush
  split
  · exact h.mono (by omega)
  · split
    · exact h1
    · rename_i c _
      have e4 := S.step_rest.2.2.2.1
      refine ⟨Dev.hold_wf h1.wf _ (by rw [e4]; omega), ?_, ?_⟩
      · have := Dev.hold_same S.step j.toNat
        unfold Dev.ok
        rw [this.1, this.2]
        exact h1.ok
      · unfold Dev.hold
        split <;> exact h1.arm
theorem Dev.flush_dl (S : Dev) (j : Int) : (S.flush j).dirty.length = S.dirty.length := by rw [(Dev.flush_len S j).2]

theorem eight {α : Type} {l : List α} (h : l.length = 8) : ∃ a0 a1 a2 a3 a4 a5 a6 a7, l = [a0, a1, a2, a3, a4, a5, a6, a7] := by
  match l, h with
  | [a0, a1, a2, a3, a4, a5, a6, a7], _ => exact ⟨a0, a1, a2, a3, a4, a5, a6, a7, rfl⟩
/-- A line's words and cells. -/
theorem line_cells {W : World} {an : Option Addr} {l : List Nat} {m j : Nat} (h : Cells W an (l.map vu64)) (hl : l.length = 8 * m) (hj : j < m) :
    ∃ b off a0 a1 a2 a3 a4 a5 a6 a7, an = some ⟨b, off, none⟩ ∧ seg l j = [a0, a1, a2, a3, a4, a5, a6, a7] ∧ W.cell? ⟨b, off + j * 8, none⟩ = some (vu64 a0) ∧ W.cell? ⟨b, off + j * 8 + 1, none⟩ = some (vu64 a1) ∧ W.cell? ⟨b, off + j * 8 + 2, none⟩ = some (vu64 a2) ∧
      W.cell? ⟨b, off + j * 8 + 3, none⟩ = some (vu64 a3) ∧ W.cell? ⟨b, off + j * 8 + 4, none⟩ = some (vu64 a4) ∧ W.cell? ⟨b, off + j * 8 + 5, none⟩ = some (vu64 a5) ∧ W.cell? ⟨b, off + j * 8 + 6, none⟩ = some (vu64 a6) ∧ W.cell? ⟨b, off + j * 8 + 7, none⟩ = some (vu64 a7) := by
  obtain ⟨a0, a1, a2, a3, a4, a5, a6, a7, e⟩ := eight (seg_length l j (by omega))
  rcases h with h | ⟨b, off, rfl, hc⟩
  · have := congrArg List.length h
    simp at this
    subst this
    simp at hl
    omega
  · have hk : ∀ k x, [a0, a1, a2, a3, a4, a5, a6, a7][k]? = some x → W.cell? ⟨b, off + j * 8 + k, none⟩ = some (vu64 x) := fun k x hx => by
      have hk8 : k < 8 := by have := (List.getElem?_eq_some_iff.1 hx).1; simpa using this
      have := seg_at l j k hk8
      rw [e, hx] at this
      rw [show off + j * 8 + k = off + (8 * j + k) by omega]
      exact hc _ _ (by rw [List.getElem?_map, ← this]; rfl)
    exact ⟨b, off, a0, a1, a2, a3, a4, a5, a6, a7, rfl, e, hk 0 a0 rfl, hk 1 a1 rfl, hk 2 a2 rfl, hk 3 a3 rfl, hk 4 a4 rfl, hk 5 a5 rfl, hk 6 a6 rfl, hk 7 a7 rfl⟩
theorem splice_line {l : List Nat} {j : Nat} {a0 a1 a2 a3 a4 a5 a6 a7 : Nat} {s : List Nat} (h : seg s j = [a0, a1, a2, a3, a4, a5, a6, a7]) : splice (l.map vu64) (j * 8) [vu64 a0, vu64 a1, vu64 a2, vu64 a3, vu64 a4, vu64 a5, vu64 a6, vu64 a7] = (splice l (8 * j) (seg s j)).map vu64 := by
  rw [h, ← splice_map, Nat.mul_comm]; rfl
theorem aggLine : Agg Tryz.prog 133 #[vu64 0, vu64 0, vu64 0, vu64 0, vu64 0, vu64 0, vu64 0, vu64 0] := ⟨⟨_, Tryz.underlying133, rfl⟩, by kernel_rfl⟩

set_option maxHeartbeats 4000000 in
set_option maxRecDepth 100000 in
theorem rflush_any {w : World} {v : Value} {S : Dev} (h : RAt w v S.dirty.length S.ref) {N : Nat} (hN : N < 1000000000000) (hf : S.fit N) (i : Int) :
    Calls Tryz.prog 124 #[v, .int .i64 i] w (RDone S.dirty.length (S.flush i) (S.flushE i) v w) := by
  obtain ⟨an, cn, al, cl, aw, cw, ad, cd, ap, cp, m, sv, fz, dd, rfl, ho, hdl, hm8, hsv, hfz⟩ := ropen h hf
  have HRS := fun W (h : ROpen W S an al aw ad ap m sv fz dd) => h.step hf
  have HSF := Lib.hid (Dev.step_fit hf)
  have HDF := Lib.hid hf
  rw [hdl]
  have HSt : Hid (S.flush i = if i < 0 ∨ (S.dirty.length : Int) ≤ i then S else if S.stop then S.step else S.step.hold i.toNat) := Lib.hid rfl
  have HSE : Hid (S.flushE i = if i < 0 ∨ (S.dirty.length : Int) ≤ i then 2 else if S.stop then 3 else 0) := Lib.hid rfl
  generalize hpo : RDone m (S.flush i) (S.flushE i) _ w = Post
  have HPO := Lib.hid hpo
  have HDL := Lib.hid hdl
  have HO := Lib.hid ho
  clear hpo hdl ho
  clear hf h
  have HM := Lib.hid (Mem.two w #[.slice an m cn, .slice al m cl, .slice aw m cw, .slice ad m cd, .slice ap m cp, .int .i64 sv, .int .i64 fz, .bool dd] 32 zeroD 32)
  unfold zeroD at HM
  go_enter Tryz.func124, Tryz.ntmps124
  go_upto_region 1 with fail
  generalize (w.alloc _).alloc _ = w0 at *
  obtain ⟨q, hq⟩ : ∃ q, q = w.heap.size := ⟨_, rfl⟩
  rw [← hq] at HM ⊢
  have HQ := Lib.hid hq
  clear hq
  have c0 := HM.out.cell 0 0 rfl rfl
  by_cases h0 : i < 0 ∨ (S.dirty.length : Int) ≤ i
  · have hbad : Hid (S.flush i = S ∧ S.flushE i = 2) := Lib.hid (by rw [HSt.out, HSE.out, if_pos h0, if_pos h0]; exact ⟨rfl, rfl⟩)
    rw [HDL.out] at h0
    by_cases h1 : i < 0
    · clear h0
      go_wp2_with (first | (refine wpList_load_mem aggRd HM.out 0 rfl rfl rfl rfl rfl ?_) | (refine wpList_store_mem aggRd HM.out 1 rfl rfl rfl rfl rfl rfl rfl rfl ?_; intro w9 h9 _; have H9 := Lib.hid h9; clear h9))
      refine bodyPost_ret (results_cell_row2 (p := 4) (u := 5) rfl _ _ _ _ _ _ _ rfl (H9.out.exact 1 rfl) Tryz.underlying32 rfl (by kernel_rfl)) rfl ?_
      rw [← HPO.out, hbad.out.1, hbad.out.2]
      exact ⟨_, rfl, (HO.out.below H9.out.below).rat HDF.out.wf, rin_mk (fun a ha => .inl ha), H9.out.below⟩
    · have h2 : (m : Int) ≤ i := by omega
      clear h0
      go_wp2_with (first | (refine wpList_load_mem aggRd HM.out 0 rfl rfl rfl rfl rfl ?_) | (refine wpList_store_mem aggRd HM.out 1 rfl rfl rfl rfl rfl rfl rfl rfl ?_; intro w9 h9 _; have H9 := Lib.hid h9; clear h9))
      refine bodyPost_ret (results_cell_row2 (p := 4) (u := 5) rfl _ _ _ _ _ _ _ rfl (H9.out.exact 1 rfl) Tryz.underlying32 rfl (by kernel_rfl)) rfl ?_
      rw [← HPO.out, hbad.out.1, hbad.out.2]
      exact ⟨_, rfl, (HO.out.below H9.out.below).rat HDF.out.wf, rin_mk (fun a ha => .inl ha), H9.out.below⟩
  obtain ⟨j, rfl⟩ := Int.eq_ofNat_of_zero_le (show 0 ≤ i by omega)
  have hjm : j < m := by rw [HDL.out] at h0; omega
  have hjm' : (j : Int) < (m : Int) := by omega
  have hStop : Hid (S.flush (j : Int) = (if S.stop then S.step else S.step.hold j) ∧ S.flushE (j : Int) = if S.stop then 3 else 0) := Lib.hid (by rw [HSt.out, HSE.out, if_neg h0, if_neg h0]; exact ⟨rfl, rfl⟩)
  clear h0
  go_upto_region 3 with fail
  go_wp2_with (refine wpList_load_mem aggRd HM.out 0 rfl rfl rfl rfl rfl ?_)
  refine (rstep_any an al aw ad ap m cn cl cw cd cp sv fz dd _ (by omega) hfz).mono ?_
  rintro e w1 ⟨rfl, hb1⟩
  have HM1 := Lib.hid (HM.out.later hb1)
  have HO1 := Lib.hid (HRS w1 (HO.out.below HM1.out.below)).1
  rw [(HRS w1 (HO.out.below HM1.out.below)).2]
  clear hb1 HM c0 HRS
  have HSr := Lib.hid (S.step_rest)
  generalize (rstepF sv fz dd).steps = sv1 at *
  generalize (rstepF sv fz dd).fuse = fz1 at *
  generalize (rstepF sv fz dd).dead = dd1 at *
  generalize hstop : S.stop = st at *
  have HStp := Lib.hid hstop
  clear hstop
  go_upto_region 4 with (refine wpList_store_mem aggRd HM1.out 0 rfl rfl rfl rfl rfl rfl rfl rfl ?_; intro w2 h2 ht2; have HM2 := Lib.hid h2; have HT2 := Lib.hid ht2; clear h2 ht2)
  have HO2 := Lib.hid (HO.out.below HM2.out.below)
  clear HM1
  cases st
  case true =>
    go_wp2_with (first | (refine wpList_load_mem aggRd HM2.out 0 rfl rfl rfl rfl rfl ?_) | (refine wpList_store_mem aggRd HM2.out 1 rfl rfl rfl rfl rfl rfl rfl rfl ?_; intro w9 h9 _; have H9 := Lib.hid h9; clear h9))
    refine bodyPost_ret (results_cell_row2 (p := 4) (u := 5) rfl _ _ _ _ _ _ _ rfl (H9.out.exact 1 rfl) Tryz.underlying32 rfl (by kernel_rfl)) rfl ?_
    rw [← HPO.out, hStop.out.1, hStop.out.2, if_pos trivial, if_pos trivial]
    have h1 := HO1.out
    refine ⟨_, rfl, ROpen.rat ⟨?_, ?_, ?_, ?_, ?_, h1.hm, h1.hs, h1.hf, h1.hd, h1.cl⟩ HSF.out.wf, rin_mk (fun a ha => .inl ha), H9.out.below⟩
    · rw [HSr.out.2.1]; exact HO.out.k1.below H9.out.below (Nat.le_refl _)
    · rw [HSr.out.1]; exact HO.out.k2.below H9.out.below (Nat.le_refl _)
    · rw [HSr.out.2.2.1]; exact HO.out.k3.below H9.out.below (Nat.le_refl _)
    · rw [HSr.out.2.2.2.1]; exact HO.out.k4.below H9.out.below (Nat.le_refl _)
    · rw [HSr.out.2.2.2.2]; exact HO.out.k5.below H9.out.below (Nat.le_refl _)
  case false =>
    have c3 := HM2.out.cell 0 3 rfl rfl
    have hjd : j < S.dirty.length := by have := HDL.out; omega
    have HHold : Hid (S.step.hold j = if S.step.dirty.getD j false then { S.step with pending := S.step.pending.set j true, flushed := splice S.step.flushed (8 * j) (seg S.step.cache j) } else S.step) := Lib.hid rfl
    obtain ⟨b3, o3, rfl, _, hcs⟩ := HO2.out.k4.atMap false hjd
    have d0 := hcs j hjd
    clear hcs
    have HDY : Hid (S.dirty.getD j false = S.step.dirty.getD j false) := Lib.hid (by rw [HSr.out.2.2.2.1])
    generalize hdy : S.dirty.getD j false = dy at *
    clear hjd
    have HDY2 := Lib.hid hdy
    clear hdy
    cases dy
    case false =>
      go_wp2_with (first | (refine wpList_load_mem aggRd HM2.out 0 rfl rfl rfl rfl rfl ?_) | (refine wpList_store_mem aggRd HM2.out 1 rfl rfl rfl rfl rfl rfl rfl rfl ?_; intro w9 h9 _; have H9 := Lib.hid h9; clear h9))
      refine bodyPost_ret (results_cell_row2 (p := 4) (u := 5) rfl _ _ _ _ _ _ _ rfl (H9.out.exact 1 rfl) Tryz.underlying32 rfl (by kernel_rfl)) rfl ?_
      rw [← HPO.out, hStop.out.1, hStop.out.2, if_neg (by simp), if_neg (by simp), HHold.out, ← HDY.out, if_neg (by simp)]
      have h1 := HO1.out
      refine ⟨_, rfl, ROpen.rat ⟨?_, ?_, ?_, ?_, ?_, h1.hm, h1.hs, h1.hf, h1.hd, h1.cl⟩ HSF.out.wf, rin_mk (fun a ha => .inl ha), H9.out.below⟩
      · rw [HSr.out.2.1]; exact HO.out.k1.below H9.out.below (Nat.le_refl _)
      · rw [HSr.out.1]; exact HO.out.k2.below H9.out.below (Nat.le_refl _)
      · rw [HSr.out.2.2.1]; exact HO.out.k3.below H9.out.below (Nat.le_refl _)
      · rw [HSr.out.2.2.2.1]; exact HO.out.k4.below H9.out.below (Nat.le_refl _)
      · rw [HSr.out.2.2.2.2]; exact HO.out.k5.below H9.out.below (Nat.le_refl _)
    case true =>
      have c2 := HM2.out.cell 0 2 rfl rfl
      have c4 := HM2.out.cell 0 4 rfl rfl
      go_upto_region 7 with fail
      have r2 := fun x => later_cell c2 x
      have r4 := fun x => later_cell c4 x
      refine wp_region_seg (C := fun w' => ∃ x : Later (w2), w' = x.val) [.fl [0, 1, 3, 4], .sq [2] true, .fl [6], .sq [5] true, .sq [7, 8, 9] false] (by kernel_rfl) (by kernel_rfl) (by intro c a d v w h; cases d <;> exact h) ?_
      simp only [segs, picks, List.getElem?_cons_succ, List.getElem?_cons_zero]
      have hC1 := later_drew (w2)
      refine wpSeg_fl hC1 ?_
      repeat (first | go_big_quiet_step (fail) | quiet_step (fail))
      refine wpQuiet_nil ?_
      refine wpSeg_sq (fun K hK => ?_)
      go_wp2_with fail
      have HM3 := Lib.hid (HM2.out.later (later_below hC1))
      have HCL : Hid (S.flushed.length = 8 * m ∧ S.pending.length = m) := Lib.hid (by
        have h1 := HDF.out.wf.lenF
        have h2 := HDF.out.wf.lenP
        have h3 := HO.out.cl
        have h4 := HDL.out
        omega)
      refine (rlines_any aw m cw S.flushed _ (HO.out.k3.below HM3.out.below (Nat.le_refl _)) HCL.out.1 (by omega)).mono ?_
      rintro e w3 ⟨g1, cg1, rfl, hg1, hc1, hm1, hr1, hb3⟩
      have hC2 := later_step hC1 hb3
      have HM4 := Lib.hid (HM3.out.row hb3 hr1 hg1)
      clear hr1 hb3 HM3
      go_wp2_with fail
      refine hK _ _ (fun _ => hC2) ?_
      clear hK K
      refine wpSeg_fl hC2 ?_
      repeat (first | go_big_quiet_step (fail) | quiet_step (fail))
      refine wpQuiet_nil ?_
      refine wpSeg_sq (fun K hK => ?_)
      go_wp2_with fail
      refine (rflags_any ap m cp S.pending _ (HO.out.k5.below HM4.out.below (Nat.le_refl _)) HCL.out.2 (by omega)).mono ?_
      rintro e w4 ⟨g2, cg2, rfl, hg2, hc2, hm2, hr2, hb4⟩
      have hC3 := later_step hC2 hb4
      have HM5 := Lib.hid (HM4.out.row hb4 hr2 hg2)
      clear hr2 hb4 HM4
      go_wp2_with fail
      refine hK _ _ (fun _ => hC3) ?_
      clear hK K
      refine wpSeg_last ?_
      have f2 := HM5.out.frozen 0 2 rfl
      have f4 := HM5.out.frozen 0 4 rfl
      have c2' := HM5.out.cell 0 2 rfl rfl
      have c4' := HM5.out.cell 0 4 rfl rfl
      go_upto_region 8 with fail
      have HM6 := Lib.hid ((HM5.out.set 0 2 (.slice (some ⟨g1, 0, none⟩) m cg1) rfl (by simp)).set 0 4 (.slice (some ⟨g2, 0, none⟩) m cg2) rfl (by simp))
      clear HM5 HM2 hC1 hC2 hC3 r2 r4 c2 c3 c4 f2 f4 c2' c4' d0 HO2 HT2
      generalize (w4.setCell _ _).setCell _ _ = w5 at *
      have HO6 := Lib.hid (HO.out.below HM6.out.below)
      obtain ⟨b0, o0, a0, a1, a2, a3, a4, a5, a6, a7, rfl, hseg, e0, e1, e2, e3, e4, e5, e6, e7⟩ := line_cells HO6.out.k1 HO6.out.cl hjm
      have HSg := Lib.hid hseg
      have c0 := HM6.out.cell 0 0 rfl rfl
      have c2 := HM6.out.cell 0 2 rfl rfl
      have r0 := fun x => later_cell c0 x
      have r2 := fun x => later_cell c2 x
      have s0 := fun x => later_cell e0 x
      have s1 := fun x => later_cell e1 x
      have s2 := fun x => later_cell e2 x
      have s3 := fun x => later_cell e3 x
      have s4 := fun x => later_cell e4 x
      have s5 := fun x => later_cell e5 x
      have s6 := fun x => later_cell e6 x
      have s7 := fun x => later_cell e7 x
      clear hseg e0 e1 e2 e3 e4 e5 e6 e7 c0 c2
      refine wp_region_seg (C := fun w' => ∃ x : Later (w5), w' = x.val) [.fl [0, 1, 2, 3, 4, 5, 6, 7], .sq [8, 9] false] (by kernel_rfl) (by kernel_rfl) (by intro c a d v w h; cases d <;> exact h) ?_
      simp only [segs, picks, List.getElem?_cons_succ, List.getElem?_cons_zero]
      have hC1 := later_drew (w5)
      refine wpSeg_fl hC1 ?_
      repeat (first | go_big_quiet_step (fail) | quiet_step (fail))
      refine wpQuiet_nil ?_
      clear r0 r2 s0 s1 s2 s3 s4 s5 s6 s7
      have HM7 := Lib.hid (HM6.out.later (later_below hC1))
      clear HM6 HO6 hC1
      have hfit : j * 8 + 8 ≤ (S.flushed.map vu64).length := by rw [List.length_map, HCL.out.1]; omega
      refine wpSeg_last ?_
      go_upto_region 9 with (refine wpList_store_mem_part aggLine HM7.out 2 (cs := #[vu64 a0, vu64 a1, vu64 a2, vu64 a3, vu64 a4, vu64 a5, vu64 a6, vu64 a7]) rfl rfl rfl rfl rfl rfl hfit rfl ?_; intro w8 h8 _; have HM8 := Lib.hid h8; clear h8)
      clear HM7
      have hlt2 : j < (S.pending.map Value.bool).length := by rw [List.length_map, HCL.out.2]; omega
      have c4 := HM8.out.cell 0 4 rfl rfl
      have d1 := HM8.out.cell 3 j rfl (List.getElem?_eq_getElem hlt2)
      have f1 := HM8.out.frozen 3 j rfl
      have HM9 := Lib.hid (HM8.out.set 3 j (.bool true) rfl hlt2)
      generalize (S.pending.map Value.bool)[j] = old2 at d1
      clear hlt2
      go_wp2_with (first | (refine wpList_load_mem aggRd HM9.out 0 rfl rfl rfl rfl rfl ?_) | (refine wpList_store_mem aggRd HM9.out 1 rfl rfl rfl rfl rfl rfl rfl rfl ?_; intro w9 h9 _; have H9 := Lib.hid h9; clear h9))
      refine bodyPost_ret (results_cell_row2 (p := 4) (u := 5) rfl _ _ _ _ _ _ _ rfl (H9.out.exact 1 rfl) Tryz.underlying32 rfl (by kernel_rfl)) rfl ?_
      rw [← HPO.out, hStop.out.1, hStop.out.2, if_neg (by simp), if_neg (by simp)]
      have hwf := Dev.hold_wf HSF.out.wf j (by rw [HSr.out.2.2.2.1, HDL.out]; exact hjm)
      rw [HHold.out, ← HDY.out, if_pos rfl] at hwf ⊢
      have h1 := HO1.out
      refine ⟨_, rfl, ROpen.rat ⟨?_, ?_, ?_, ?_, ?_, h1.hm, h1.hs, h1.hf, h1.hd, h1.cl⟩ hwf, rin_mk (by have q1 := H9.out.gbase 2 rfl; have q2 := H9.out.gbase 3 rfl; intro a ha; simp only [List.mem_cons, List.not_mem_nil, or_false] at ha ⊢; rcases ha with rfl | rfl | rfl | rfl | rfl <;> first | exact .inr ⟨_, _, rfl, q1⟩ | exact .inr ⟨_, _, rfl, q2⟩ | simp), H9.out.below⟩
      · rw [HSr.out.2.1]; exact HO.out.k1.below H9.out.below (Nat.le_refl _)
      · rw [HSr.out.1]; exact HO.out.k2.below H9.out.below (Nat.le_refl _)
      · have h := (H9.out.at 2 rfl).cells
        dsimp only at h ⊢
        rw [HSr.out.2.2.1, HSr.out.2.1, ← splice_line HSg.out]
        exact h
      · rw [HSr.out.2.2.2.1]; exact HO.out.k4.below H9.out.below (Nat.le_refl _)
      · have h := (H9.out.at 3 rfl).cells
        dsimp only at h ⊢
        rw [HSr.out.2.2.2.2, map_set_bool]
        exact h

end Go.Proofs.YtebnelihlgdciaaGreat

/- The reference's device: Fence. -/
namespace Go.Proofs.YtebnelihlgdciaaGreat
open Go.RowKit
set_option linter.unusedVariables false

/-- Arrays of numbers, compared. -/
theorem run_eqItems_ints {P : Program} {e : TypeId} {k : IntKind} (he : P.underlying e = some (.int k)) (d : Nat) (w : World) (xs ys : List Int) :
    ∀ is : List Nat, (∀ i ∈ is, i < xs.length ∧ i < ys.length) → ∃ b, (Op.eqItems (d + 1) e 1 (xs.map (Value.int k)).toArray (ys.map (Value.int k)).toArray is).run P w = .ok b w ∧ (b = true ↔ ∀ i ∈ is, xs[i]? = ys[i]?)
  | [], _ => ⟨true, by simp [Op.eqItems], by simp⟩
  | i :: is, h => by
    obtain ⟨h1, h2⟩ := h i (by simp)
    obtain ⟨b, hb, hiff⟩ := run_eqItems_ints he d w xs ys is (fun j hj => h j (by simp [hj]))
    have hagg : (isAgg e).run P w = .ok false w := by unfold isAgg; rw [Sem.run_bind, run_underlying he w]; simp
    have hp : ∀ (zs : List Int) (hz : i < zs.length), (part e (zs.map (Value.int k)).toArray (i * 1)).run P w = .ok (.int k zs[i]) w := fun zs hz => by
      simp [part, hagg, hz]
    simp only [Op.eqItems, Sem.run_bind, hp xs h1, hp ys h2, Result.andThen_ok]
    rw [run_equalIn_int w d e k k _ _ he]
    simp only [Result.andThen_ok]
    by_cases hab : xs[i] = ys[i]
    · have : (xs[i] == ys[i]) = true := by simpa using hab
      simp only [this, Bool.not_true, Bool.false_eq_true, if_false]
      refine ⟨b, hb, ?_⟩
      rw [hiff]
      simp [h1, h2, hab]
    · have : (xs[i] == ys[i]) = false := by simpa using hab
      simp only [this, Bool.not_false, if_true, Sem.run_pure]
      refine ⟨false, rfl, ?_⟩
      simp [h1, h2, hab]
theorem cellsU64 : Tryz.prog.cellsOf 77 = 1 := by kernel_rfl
theorem infoU64 : (Tryz.prog.info? 77).isSome = true := by kernel_rfl
theorem equalLine (w : World) (xs ys : List Nat) (hx : xs.length = 8) (hy : ys.length = 8) : (Op.equalIn 10000 133 (.agg (xs.map vu64).toArray) (.agg (ys.map vu64).toArray)).run Tryz.prog w = .ok (decide (xs = ys)) w := by
  obtain ⟨i, hi⟩ := Option.isSome_iff_exists.1 infoU64
  have hn : ∀ l : List Nat, l.map vu64 = (l.map (fun n : Nat => (n : Int))).map (Value.int .u64) := by intro l; simp
  rw [show (10000 : Nat) = 9999 + 1 from rfl, run_equalIn_array w 9999 _ _ Tryz.underlying133 hi, cellsU64, show (9999 : Nat) = 9998 + 1 from rfl, hn xs, hn ys]
  obtain ⟨b, hb, hiff⟩ := run_eqItems_ints Tryz.underlying77 9998 w (xs.map (fun n : Nat => (n : Int))) (ys.map (fun n : Nat => (n : Int))) (List.range 8) (fun i hi => by simp at hi; simp; omega)
  rw [hb]
  have : b = decide (xs = ys) := by
    rw [Bool.eq_iff_iff, hiff, decide_eq_true_iff]
    constructor
    · intro h
      apply List.ext_getElem (by rw [hx, hy])
      intro i h1 h2
      have := h i (by simp; omega)
      simp [h1, h2] at this
      omega
    · rintro rfl i _; rfl
  rw [this]
theorem gsLine : Tryz.prog.eqGuardType Tryz.prog.depth 133 = false := by kernel_rfl

theorem Dev.settle_wf {S : Dev} (h : S.wf) (j : Nat) (hj : j < S.dirty.length) : (S.settle j).wf := by
  have hs := seg_length S.flushed j (by have := h.lenD; have := h.lenF; omega)
  unfold Dev.settle
  split
  · exact ⟨by show (splice _ _ _).length = _; rw [length_splice _ _ _ (by rw [hs, h.lenL, h.lenD]; omega)]; exact h.lenL, h.lenF, by simp [h.lenP], by simp [h.lenD], h.small, splice_lt _ h.u64L (seg_lt _ h.u64F), h.u64C, h.u64F⟩
  · exact h
theorem fenceTo_wf {S : Dev} (h : S.wf) : ∀ k, k ≤ S.dirty.length → (S.fenceTo k).wf
  | 0, _ => h
  | k + 1, hk => Dev.settle_wf (fenceTo_wf h k (by omega)) k (by rw [(fenceTo_len S k).1]; omega)
theorem settle_flags (S : Dev) (j : Nat) : (S.settle j).armed = S.armed ∧ (S.settle j).dead = S.dead := by unfold Dev.settle; split <;> exact ⟨rfl, rfl⟩
theorem fenceTo_flags (S : Dev) (k : Nat) : (S.fenceTo k).armed = S.armed ∧ (S.fenceTo k).dead = S.dead := by
  induction k with
  | zero => exact ⟨rfl, rfl⟩
  | succ k ih => have h := settle_flags (S.fenceTo k) k; exact ⟨h.1.trans ih.1, h.2.trans ih.2⟩
theorem fenceTo_fit {S : Dev} {N : Nat} (h : S.fit N) (k : Nat) (hk : k ≤ S.dirty.length) : (S.fenceTo k).fit N := by
  obtain ⟨e1, e2⟩ := fenceTo_steps S k
  obtain ⟨f1, f2⟩ := fenceTo_flags S k
  refine ⟨fenceTo_wf h.wf k hk, ?_, ?_⟩
  · unfold Dev.ok; rw [e1, e2]; exact h.ok
  · rw [f1, e2]; exact h.arm
theorem Dev.fence_fit {S : Dev} {N : Nat} (h : S.fit N) : S.fence.fit (N + 1) := by
  unfold Dev.fence
  split
  · exact Dev.step_fit h
  · exact fenceTo_fit (Dev.step_fit h) _ (by rw [S.step_rest.2.2.2.1]; exact Nat.le_refl _)
theorem Dev.fence_dl (S : Dev) : S.fence.dirty.length = S.dirty.length := by
  unfold Dev.fence
  split
  · rw [S.step_rest.2.2.2.1]
  · rw [(fenceTo_len _ _).1, S.step_rest.2.2.2.1]

/-- The blocks of a fence under way. -/
def fenceL (q : Nat) (T : Dev) (an aw : Option Addr) (m cn cw g1 c1 g2 c2 g3 c3 : Nat) (sv fz : Int) (dd : Bool) : List Ent :=
  [⟨q, 32, [.slice an m cn, .slice (some ⟨g1, 0, none⟩) m c1, .slice aw m cw, .slice (some ⟨g2, 0, none⟩) m c2, .slice (some ⟨g3, 0, none⟩) m c3, .int .i64 sv, .int .i64 fz, .bool dd], true⟩,
   ⟨q + 1, 32, zeroD.toList, true⟩, ⟨g1, 133, T.lasting.map vu64, false⟩, ⟨g2, 4, T.dirty.map Value.bool, false⟩, ⟨g3, 4, T.pending.map Value.bool, false⟩]

set_option maxHeartbeats 4000000 in
set_option maxRecDepth 100000 in
theorem rfence_any {w : World} {v : Value} {S : Dev} (h : RAt w v S.dirty.length S.ref) {N : Nat} (hN : N < 1000000000000) (hf : S.fit N) :
    Calls Tryz.prog 125 #[v] w (RDone S.dirty.length S.fence S.fenceE v w) := by
  obtain ⟨an, cn, al, cl, aw, cw, ad, cd, ap, cp, m, sv, fz, dd, rfl, ho, hdl, hm8, hsv, hfz⟩ := ropen h hf
  have HRS := fun W (h : ROpen W S an al aw ad ap m sv fz dd) => h.step hf
  have HSF := Lib.hid (Dev.step_fit hf)
  have HFF := Lib.hid (Dev.fence_fit hf)
  have HDF := Lib.hid hf
  rw [hdl]
  have HSt : Hid (S.fence = if S.stop then S.step else S.step.fenceTo S.dirty.length) := Lib.hid rfl
  have HSE : Hid (S.fenceE = if S.stop then 3 else 0) := Lib.hid rfl
  generalize hpo : RDone m S.fence S.fenceE _ w = Post
  have HPO := Lib.hid hpo
  have HDL := Lib.hid hdl
  have HO := Lib.hid ho
  clear hpo hdl ho
  clear hf h
  have HM := Lib.hid (Mem.two w #[.slice an m cn, .slice al m cl, .slice aw m cw, .slice ad m cd, .slice ap m cp, .int .i64 sv, .int .i64 fz, .bool dd] 32 zeroD 32)
  go_enter Tryz.func125, Tryz.ntmps125
  go_upto_region 1 with fail
  rw [show (#[.slice none 0 0, .slice none 0 0, .slice none 0 0, .slice none 0 0, .slice none 0 0, .int .i64 0, .int .i64 0, .bool false] : Array Value) = zeroD from rfl]
  generalize (w.alloc _).alloc _ = w0 at *
  obtain ⟨q, hq⟩ : ∃ q, q = w.heap.size := ⟨_, rfl⟩
  rw [← hq] at HM ⊢
  have HQ := Lib.hid hq
  clear hq
  go_wp2_with (refine wpList_load_mem aggRd HM.out 0 rfl rfl rfl rfl rfl ?_)
  refine (rstep_any an al aw ad ap m cn cl cw cd cp sv fz dd _ (by omega) hfz).mono ?_
  rintro e w1 ⟨rfl, hb1⟩
  have HM1 := Lib.hid (HM.out.later hb1)
  have HO1 := Lib.hid (HRS w1 (HO.out.below HM1.out.below)).1
  rw [(HRS w1 (HO.out.below HM1.out.below)).2]
  clear hb1 HM HRS
  have HSr := Lib.hid (S.step_rest)
  generalize (rstepF sv fz dd).steps = sv1 at *
  generalize (rstepF sv fz dd).fuse = fz1 at *
  generalize (rstepF sv fz dd).dead = dd1 at *
  generalize hstop : S.stop = st at *
  have HStp := Lib.hid hstop
  clear hstop
  go_upto_region 2 with (refine wpList_store_mem aggRd HM1.out 0 rfl rfl rfl rfl rfl rfl rfl rfl ?_; intro w2 h2 ht2; have HM2 := Lib.hid h2; clear h2 ht2)
  clear HM1
  cases st
  case true =>
    go_wp2_with (first | (refine wpList_load_mem aggRd HM2.out 0 rfl rfl rfl rfl rfl ?_) | (refine wpList_store_mem aggRd HM2.out 1 rfl rfl rfl rfl rfl rfl rfl rfl ?_; intro w9 h9 _; have H9 := Lib.hid h9; clear h9))
    refine bodyPost_ret (results_cell_row2 (p := 2) (u := 3) rfl _ _ _ _ _ _ _ rfl (H9.out.exact 1 rfl) Tryz.underlying32 rfl (by kernel_rfl)) rfl ?_
    rw [← HPO.out, HSt.out, HSE.out, if_pos trivial, if_pos trivial]
    have h1 := HO1.out
    refine ⟨_, rfl, ROpen.rat ⟨?_, ?_, ?_, ?_, ?_, h1.hm, h1.hs, h1.hf, h1.hd, h1.cl⟩ HSF.out.wf, rin_mk (fun a ha => .inl ha), H9.out.below⟩
    · rw [HSr.out.2.1]; exact HO.out.k1.below H9.out.below (Nat.le_refl _)
    · rw [HSr.out.1]; exact HO.out.k2.below H9.out.below (Nat.le_refl _)
    · rw [HSr.out.2.2.1]; exact HO.out.k3.below H9.out.below (Nat.le_refl _)
    · rw [HSr.out.2.2.2.1]; exact HO.out.k4.below H9.out.below (Nat.le_refl _)
    · rw [HSr.out.2.2.2.2]; exact HO.out.k5.below H9.out.below (Nat.le_refl _)
  case false =>
    have HCL : Hid (S.lasting.length = 8 * m ∧ S.pending.length = m ∧ S.flushed.length = 8 * m) := Lib.hid (by
      have h1 := HDF.out.wf.lenL
      have h2 := HDF.out.wf.lenP
      have h3 := HO.out.cl
      have h4 := HDL.out
      have h5 := HDF.out.wf.lenF
      omega)
    have c1 := HM2.out.cell 0 1 rfl rfl
    have c3 := HM2.out.cell 0 3 rfl rfl
    have c4 := HM2.out.cell 0 4 rfl rfl
    go_upto_region 4 with fail
    have r1 := fun x => later_cell c1 x
    have r3 := fun x => later_cell c3 x
    have r4 := fun x => later_cell c4 x
    refine wp_region_seg (C := fun w' => ∃ x : Later (w2), w' = x.val) [.fl [0, 1, 3, 4, 6, 7], .sq [2] true, .fl [9], .sq [5] true, .sq [8] true, .sq [10, 11, 12, 13, 14] false] (by kernel_rfl) (by kernel_rfl) (by intro c a d v w h; cases d <;> exact h) ?_
    simp only [segs, picks, List.getElem?_cons_succ, List.getElem?_cons_zero]
    have hC1 := later_drew (w2)
    refine wpSeg_fl hC1 ?_
    repeat (first | go_big_quiet_step (fail) | quiet_step (fail))
    refine wpQuiet_nil ?_
    refine wpSeg_sq (fun K hK => ?_)
    go_wp2_with fail
    have HM3 := Lib.hid (HM2.out.later (later_below hC1))
    refine (rlines_any al m cl S.lasting _ (HO.out.k2.below HM3.out.below (Nat.le_refl _)) HCL.out.1 (by omega)).mono ?_
    rintro e w3 ⟨g1, cg1, rfl, hg1, hc1, hm1, hr1, hb3⟩
    have hC2 := later_step hC1 hb3
    have HM4 := Lib.hid (HM3.out.row hb3 hr1 hg1)
    clear hr1 hb3 HM3
    go_wp2_with fail
    refine hK _ _ (fun _ => hC2) ?_
    clear hK K
    refine wpSeg_fl hC2 ?_
    repeat (first | go_big_quiet_step (fail) | quiet_step (fail))
    refine wpQuiet_nil ?_
    refine wpSeg_sq (fun K hK => ?_)
    go_wp2_with fail
    refine (rflags_any ad m cd S.dirty _ (HO.out.k4.below HM4.out.below (Nat.le_refl _)) HDL.out (by omega)).mono ?_
    rintro e w4 ⟨g2, cg2, rfl, hg2, hc2, hm2, hr2, hb4⟩
    have hC3 := later_step hC2 hb4
    have HM5 := Lib.hid (HM4.out.row hb4 hr2 hg2)
    clear hr2 hb4 HM4
    go_wp2_with fail
    refine hK _ _ (fun _ => hC3) ?_
    clear hK K
    refine wpSeg_sq (fun K hK => ?_)
    go_wp2_with fail
    refine (rflags_any ap m cp S.pending _ (HO.out.k5.below HM5.out.below (Nat.le_refl _)) HCL.out.2.1 (by omega)).mono ?_
    rintro e w5 ⟨g3, cg3, rfl, hg3, hc3, hm3, hr3, hb5⟩
    have hC4 := later_step hC3 hb5
    have HM6 := Lib.hid (HM5.out.row hb5 hr3 hg3)
    clear hr3 hb5 HM5
    go_wp2_with fail
    refine hK _ _ (fun _ => hC4) ?_
    clear hK K
    refine wpSeg_last ?_
    have f1 := HM6.out.frozen 0 1 rfl
    have f3 := HM6.out.frozen 0 3 rfl
    have f4 := HM6.out.frozen 0 4 rfl
    have c1' := HM6.out.cell 0 1 rfl rfl
    have c3' := HM6.out.cell 0 3 rfl rfl
    have c4' := HM6.out.cell 0 4 rfl rfl
    go_upto_region 5 with fail
    have HM7 := Lib.hid (((HM6.out.set 0 1 (.slice (some ⟨g1, 0, none⟩) m cg1) rfl (by simp)).set 0 3 (.slice (some ⟨g2, 0, none⟩) m cg2) rfl (by simp)).set 0 4 (.slice (some ⟨g3, 0, none⟩) m cg3) rfl (by simp))
    clear HM6 HM2 hC1 hC2 hC3 hC4 r1 r3 r4 c1 c3 c4 f1 f3 f4 c1' c3' c4'
    generalize ((w5.setCell _ _).setCell _ _).setCell _ _ = w6 at *
    have HM8 : Hid (Mem w w6 (fenceL q (S.step.fenceTo 0) an aw m cn cw g1 cg1 g2 cg2 g3 cg3 sv1 fz1 dd1)) := Lib.hid (by
      have h := HM7.out
      obtain ⟨e1, e2, e3, e4, e5⟩ := HSr.out
      show Mem w w6 [_, _, ⟨g1, _, S.step.lasting.map vu64, false⟩, ⟨g2, _, S.step.dirty.map Value.bool, false⟩, ⟨g3, _, S.step.pending.map Value.bool, false⟩]
      rw [e1, e4, e5]
      exact h)
    clear HM7
    go_wp2_with fail
    go_loopw [5] (fun i wr => ∃ k : Nat, k ≤ m ∧ i = .int .i64 k ∧ Mem w wr (fenceL q (S.step.fenceTo k) an aw m cn cw g1 cg1 g2 cg2 g3 cg3 sv1 fz1 dd1)) (fun i _ => m - (intOf i).toNat)
    case atStart => exact ⟨0, Nat.zero_le _, rfl, HM8.out⟩
    case round =>
      obtain ⟨k, hk, rfl, hmem⟩ := hrel
      have HT := Lib.hid (fenceTo_len S.step k)
      have HTw := Lib.hid (fenceTo_wf HSF.out.wf k (by rw [HSr.out.2.2.2.1, HDL.out]; exact hk))
      have HTn : Hid (S.step.fenceTo (k + 1) = (S.step.fenceTo k).settle k) := Lib.hid rfl
      have HTm : Hid (k = m → S.step.fenceTo m = S.step.fenceTo k) := Lib.hid (fun h => by rw [h])
      have HTf := Lib.hid (fenceTo_steps S.step k)
      have HTg := Lib.hid (fenceTo_flags S.step k)
      generalize S.step.fenceTo k = T at *
      have c0 := hmem.cell 0 0 rfl rfl
      have c1 := hmem.cell 0 1 rfl rfl
      have c2 := hmem.cell 0 2 rfl rfl
      have c3 := hmem.cell 0 3 rfl rfl
      have c4 := hmem.cell 0 4 rfl rfl
      have HMEM := Lib.hid hmem
      clear hmem
      clear HM8
      by_cases hlt : k < m
      · have hlt' : (k : Int) < (m : Int) := by omega
        have hpl : k < (T.pending.map Value.bool).length := by rw [List.length_map, HTw.out.lenP, HT.out.1, HSr.out.2.2.2.1, HDL.out]; exact hlt
        have d0 := HMEM.out.cell 4 k rfl (List.getElem?_eq_getElem hpl)
        rw [List.getElem_map] at d0
        have HPg : Hid (T.pending.getD k false = T.pending[k]'(by simpa using hpl)) := Lib.hid (by simp [show k < T.pending.length by simpa using hpl])
        generalize T.pending[k]'(by simpa using hpl) = pk at *
        have HST : Hid (T.settle k = if T.pending.getD k false then { T with lasting := splice T.lasting (8 * k) (seg T.flushed k), pending := T.pending.set k false, dirty := T.dirty.set k (!decide (seg T.flushed k = seg T.cache k)) } else T) := Lib.hid rfl
        rw [HPg.out] at HST
        cases pk
        case false =>
          go_wp2_with fail
          exact ⟨⟨k + 1, by omega, vint (by omega), by rw [HTn.out, HST.out, if_neg (by simp)]; exact HMEM.out⟩, by simp [intOf]; omega⟩
        case true =>
          clear hpl
          have hw := HMEM.out.below
          have HOk := Lib.hid (HO.out.below hw)
          have hwl : T.flushed.length = 8 * m := by rw [HT.out.2.2, HSr.out.2.2.1]; exact HCL.out.2.2
          obtain ⟨b0, o0, a0, a1, a2, a3, a4, a5, a6, a7, rfl, hseg, e0, e1, e2, e3, e4, e5, e6, e7⟩ := line_cells (l := S.flushed) HOk.out.k3 HCL.out.2.2 hlt
          obtain ⟨b1, o1, n0, n1, n2, n3, n4, n5, n6, n7, rfl, hseg2, p0, p1, p2, p3, p4, p5, p6, p7⟩ := line_cells (l := S.cache) HOk.out.k1 HOk.out.cl hlt
          have HSg : Hid (seg T.flushed k = [a0, a1, a2, a3, a4, a5, a6, a7]) := Lib.hid (by rw [HT.out.2.2, HSr.out.2.2.1]; exact hseg)
          have HSh : Hid (seg T.cache k = [n0, n1, n2, n3, n4, n5, n6, n7]) := Lib.hid (by rw [HT.out.2.1, HSr.out.2.1]; exact hseg2)
          have hfit : k * 8 + 8 ≤ (T.lasting.map vu64).length := by rw [List.length_map, HTw.out.lenL, HT.out.2.1, HSr.out.2.1, HO.out.cl]; omega
          clear hw hwl hseg hseg2
          go_upto_region 9 with fail
          have r1 := fun x => later_cell c1 x
          have r2 := fun x => later_cell c2 x
          have s0 := fun x => later_cell e0 x
          have s1 := fun x => later_cell e1 x
          have s2 := fun x => later_cell e2 x
          have s3 := fun x => later_cell e3 x
          have s4 := fun x => later_cell e4 x
          have s5 := fun x => later_cell e5 x
          have s6 := fun x => later_cell e6 x
          have s7 := fun x => later_cell e7 x
          refine wp_region_seg (C := fun w' => ∃ x : Later (wr), w' = x.val) [.fl [0, 1, 2, 3, 4, 5, 6, 7], .sq [8, 9] false] (by kernel_rfl) (by kernel_rfl) (by intro c a d v w h; cases d <;> exact h) ?_
          simp only [segs, picks, List.getElem?_cons_succ, List.getElem?_cons_zero]
          have hC1 := later_drew (wr)
          refine wpSeg_fl hC1 ?_
          repeat (first | go_big_quiet_step (fail) | quiet_step (fail))
          refine wpQuiet_nil ?_
          clear r1 r2 s0 s1 s2 s3 s4 s5 s6 s7
          have HM9 := Lib.hid (HMEM.out.later (later_below hC1))
          clear HMEM c0 c1 c2 c3 c4 d0 e0 e1 e2 e3 e4 e5 e6 e7 p0 p1 p2 p3 p4 p5 p6 p7
          refine wpSeg_last ?_
          go_upto_region 10 with (refine wpList_store_mem_part aggLine HM9.out 2 (cs := #[vu64 a0, vu64 a1, vu64 a2, vu64 a3, vu64 a4, vu64 a5, vu64 a6, vu64 a7]) rfl rfl rfl rfl rfl rfl hfit rfl ?_; intro w8 h8 _; have HM8 := Lib.hid h8; clear h8)
          clear HM9 hC1 HOk
          have hpl : k < (T.pending.map Value.bool).length := by rw [List.length_map, HTw.out.lenP, HT.out.1, HSr.out.2.2.2.1, HDL.out]; exact hlt
          have hdl2 : k < (T.dirty.map Value.bool).length := by rw [List.length_map, HT.out.1, HSr.out.2.2.2.1, HDL.out]; exact hlt
          have c4 := HM8.out.cell 0 4 rfl rfl
          have d1 := HM8.out.cell 4 k rfl (List.getElem?_eq_getElem hpl)
          have f1 := HM8.out.frozen 4 k rfl
          have HM10 := Lib.hid (HM8.out.set 4 k (.bool false) rfl hpl)
          generalize (T.pending.map Value.bool)[k] = old2 at d1
          clear hpl
          go_upto_region 11 with fail
          clear c4 d1 f1 HM8
          generalize w8.setCell _ _ = w9 at *
          have HOk := Lib.hid (HO.out.below HM10.out.below)
          obtain ⟨b0', o0', a0', a1', a2', a3', a4', a5', a6', a7', he1, hseg, e0, e1, e2, e3, e4, e5, e6, e7⟩ := line_cells (l := S.flushed) HOk.out.k3 HCL.out.2.2 hlt
          obtain ⟨b1', o1', n0', n1', n2', n3', n4', n5', n6', n7', he2, hseg2, p0, p1, p2, p3, p4, p5, p6, p7⟩ := line_cells (l := S.cache) HOk.out.k1 HOk.out.cl hlt
          cases he1
          cases he2
          rw [← HSr.out.2.2.1, ← HT.out.2.2, HSg.out] at hseg
          rw [← HSr.out.2.1, ← HT.out.2.1, HSh.out] at hseg2
          cases hseg
          cases hseg2
          have c0 := HM10.out.cell 0 0 rfl rfl
          have c2 := HM10.out.cell 0 2 rfl rfl
          have c3 := HM10.out.cell 0 3 rfl rfl
          have r0 := fun x => later_cell c0 x
          have r2 := fun x => later_cell c2 x
          have r3 := fun x => later_cell c3 x
          have s0 := fun x => later_cell e0 x
          have s1 := fun x => later_cell e1 x
          have s2 := fun x => later_cell e2 x
          have s3 := fun x => later_cell e3 x
          have s4 := fun x => later_cell e4 x
          have s5 := fun x => later_cell e5 x
          have s6 := fun x => later_cell e6 x
          have s7 := fun x => later_cell e7 x
          have t0 := fun x => later_cell p0 x
          have t1 := fun x => later_cell p1 x
          have t2 := fun x => later_cell p2 x
          have t3 := fun x => later_cell p3 x
          have t4 := fun x => later_cell p4 x
          have t5 := fun x => later_cell p5 x
          have t6 := fun x => later_cell p6 x
          have t7 := fun x => later_cell p7 x
          have heq : ∀ w', (Op.equalIn 10000 133 (.agg #[vu64 n0, vu64 n1, vu64 n2, vu64 n3, vu64 n4, vu64 n5, vu64 n6, vu64 n7]) (.agg #[vu64 a0, vu64 a1, vu64 a2, vu64 a3, vu64 a4, vu64 a5, vu64 a6, vu64 a7])).run Tryz.prog w' = .ok (decide ([n0, n1, n2, n3, n4, n5, n6, n7] = [a0, a1, a2, a3, a4, a5, a6, a7])) w' := fun w' => equalLine w' [n0, n1, n2, n3, n4, n5, n6, n7] [a0, a1, a2, a3, a4, a5, a6, a7] rfl rfl
          have HDc : Hid (decide (seg T.flushed k = seg T.cache k) = decide ([n0, n1, n2, n3, n4, n5, n6, n7] = [a0, a1, a2, a3, a4, a5, a6, a7])) := Lib.hid (by rw [HSg.out, HSh.out, decide_eq_decide]; exact eq_comm)
          have hgd := gsLine
          generalize decide ([n0, n1, n2, n3, n4, n5, n6, n7] = [a0, a1, a2, a3, a4, a5, a6, a7]) = bb at *
          clear c0 c2 c3 e0 e1 e2 e3 e4 e5 e6 e7 p0 p1 p2 p3 p4 p5 p6 p7
          refine wp_region_seg (C := fun w' => ∃ x : Later (w9), w' = x.val) [.fl [0, 1, 2, 3, 4, 5, 6, 7, 8, 9, 10, 11, 12, 13], .sq [14, 15] false] (by kernel_rfl) (by kernel_rfl) (by intro c a d v w h; cases d <;> exact h) ?_
          simp only [segs, picks, List.getElem?_cons_succ, List.getElem?_cons_zero]
          have hC1 := later_drew (w9)
          refine wpSeg_fl hC1 ?_
          repeat (first | go_big_quiet_step (fail) | quiet_step (fail))
          refine wpQuiet_nil ?_
          clear r0 r2 r3 s0 s1 s2 s3 s4 s5 s6 s7 t0 t1 t2 t3 t4 t5 t6 t7 heq hgd
          have HM11 := Lib.hid (HM10.out.later (later_below hC1))
          clear HM10 hC1 HOk
          have d1 := HM11.out.cell 3 k rfl (List.getElem?_eq_getElem hdl2)
          have f1 := HM11.out.frozen 3 k rfl
          have HM12 := Lib.hid (HM11.out.set 3 k (.bool (!bb)) rfl hdl2)
          generalize (T.dirty.map Value.bool)[k] = old3 at d1
          clear hdl2
          refine wpSeg_last ?_
          go_wp2_with fail
          refine ⟨⟨k + 1, by omega, vint (by omega), ?_⟩, by simp [intOf]; omega⟩
          rw [HTn.out, HST.out, if_pos rfl, HDc.out]
          unfold fenceL
          dsimp only
          rw [map_set_bool, map_set_bool, ← splice_line HSg.out]
          exact HM12.out
      · obtain rfl : k = m := by omega
        have hlt' : decide ((k : Int) < (k : Int)) = false := by simp
        go_wp2_with (first | (refine wpList_load_mem aggRd HMEM.out 0 rfl rfl rfl rfl rfl ?_) | (refine wpList_store_mem aggRd HMEM.out 1 rfl rfl rfl rfl rfl rfl rfl rfl ?_; intro w9 h9 _; have H9 := Lib.hid h9; clear h9))
        refine bodyPost_ret (results_cell_row2 (p := 2) (u := 3) rfl _ _ _ _ _ _ _ rfl (H9.out.exact 1 rfl) Tryz.underlying32 rfl (by kernel_rfl)) rfl ?_
        rw [← HPO.out, HSt.out, HSE.out, if_neg (by simp), if_neg (by simp), HDL.out, HTm.out (by first | rfl | trivial)]
        have h1 := HO1.out
        have hb := H9.out.below
        refine ⟨_, rfl, ROpen.rat ⟨?_, (H9.out.at 2 rfl).cells, ?_, (H9.out.at 3 rfl).cells, (H9.out.at 4 rfl).cells, ?_, ?_, ?_, ?_, ?_⟩ HTw.out, rin_mk (by have q1 := H9.out.gbase 2 rfl; have q2 := H9.out.gbase 3 rfl; have q3 := H9.out.gbase 4 rfl; intro a ha; simp only [List.mem_cons, List.not_mem_nil, or_false] at ha ⊢; rcases ha with rfl | rfl | rfl | rfl | rfl <;> first | exact .inr ⟨_, _, rfl, q1⟩ | exact .inr ⟨_, _, rfl, q2⟩ | exact .inr ⟨_, _, rfl, q3⟩ | simp), hb⟩
        · rw [HT.out.2.1, HSr.out.2.1]; exact HO.out.k1.below hb (Nat.le_refl _)
        · rw [HT.out.2.2, HSr.out.2.2.1]; exact HO.out.k3.below hb (Nat.le_refl _)
        · rw [HT.out.1, HSr.out.2.2.2.1, HDL.out]
        · rw [HTf.out.1]; exact h1.hs
        · rw [h1.hf]
          unfold Dev.ref
          dsimp only
          rw [HTf.out.2, HTg.out.1]
        · rw [HTg.out.2]; exact h1.hd
        · rw [HT.out.2.1]; exact h1.cl

end Go.Proofs.YtebnelihlgdciaaGreat

/- The reference's device: Persist, New. -/
namespace Go.Proofs.YtebnelihlgdciaaGreat
open Go.RowKit
set_option linter.unusedVariables false

/-- The lines of words p to p + n, so many. -/
def linesOf (p n : Nat) : Nat := if 0 < n then (p + n - 1) / 8 - p / 8 + 1 else 0
def Dev.runAt (S : Dev) (p n k : Nat) : Done := S.flushRun (p / 8) (min (k - p / 8) (linesOf p n))

theorem runAt_zero (S : Dev) (p n : Nat) : S.runAt p n 0 = ⟨S, 0⟩ := by
  unfold Dev.runAt
  rw [Nat.zero_sub, Nat.zero_min]; rfl
theorem runAt_miss (S : Dev) (p n k : Nat) (h : ¬ (0 < n ∧ p ≤ 8 * k + 7 ∧ 8 * k < p + n)) : S.runAt p n (k + 1) = S.runAt p n k := by
  unfold Dev.runAt
  congr 1
  unfold linesOf
  split <;> omega
theorem runAt_hit (S : Dev) (p n k : Nat) (h : 0 < n ∧ p ≤ 8 * k + 7 ∧ 8 * k < p + n) (he : (S.runAt p n k).err = 0) : S.runAt p n (k + 1) = ⟨(S.runAt p n k).dev.flush (k : Int), (S.runAt p n k).dev.flushE (k : Int)⟩ := by
  have h1 : min (k - p / 8) (linesOf p n) = k - p / 8 := by unfold linesOf; rw [if_pos h.1]; omega
  have h2 : min (k + 1 - p / 8) (linesOf p n) = (k - p / 8) + 1 := by unfold linesOf; rw [if_pos h.1]; omega
  unfold Dev.runAt at he ⊢
  rw [h1] at he
  rw [h2, h1, Dev.flushRun, if_neg (by rw [he]; simp), show p / 8 + (k - p / 8) = k by omega]
theorem runAt_stays (S : Dev) (p n k m : Nat) (hm : p + n ≤ 8 * m) (hk : k ≤ m) (h : (S.runAt p n k).err ≠ 0) : S.runAt p n k = S.flushRun (p / 8) (linesOf p n) := by
  unfold Dev.runAt at h ⊢
  exact (Dev.flushRun_stays S _ _ _ (Nat.min_le_right _ _) h).symm
theorem runAt_end (S : Dev) (p n m : Nat) (hm : p + n ≤ 8 * m) : S.runAt p n m = S.flushRun (p / 8) (linesOf p n) := by
  unfold Dev.runAt
  congr 1
  unfold linesOf
  split <;> omega
theorem persist_run {S : Dev} (p n : Nat) (h : p + n ≤ S.cache.length) : S.persist (p : Int) (n : Int) = if (S.flushRun (p / 8) (linesOf p n)).err ≠ 0 then S.flushRun (p / 8) (linesOf p n) else ⟨(S.flushRun (p / 8) (linesOf p n)).dev.fence, (S.flushRun (p / 8) (linesOf p n)).dev.fenceE⟩ := by
  unfold Dev.persist
  rw [if_neg (by omega)]
  by_cases h0 : 0 < n
  · rw [if_pos (by omega)]
    unfold Dev.persistN linesOf
    rw [if_pos h0, show ((p : Int) / 8).toNat = p / 8 by omega, show (((p : Int) + (n : Int) - 1) / 8 - (p : Int) / 8 + 1).toNat = (p + n - 1) / 8 - p / 8 + 1 by omega]
  · rw [if_neg (by omega)]
    unfold linesOf
    rw [if_neg h0]
    rfl
theorem flushRun_fit {S : Dev} {N : Nat} (h : S.fit N) (a : Nat) : ∀ k, (S.flushRun a k).dev.fit (N + k)
  | 0 => h
  | k + 1 => by
    rw [Dev.flushRun]
    split
    · exact (flushRun_fit h a k).mono (by omega)
    · exact Dev.flush_fit (flushRun_fit h a k) _
theorem flushRun_dl (S : Dev) (a : Nat) : ∀ k, (S.flushRun a k).dev.dirty.length = S.dirty.length
  | 0 => rfl
  | k + 1 => by
    rw [Dev.flushRun]
    split
    · exact flushRun_dl S a k
    · dsimp only; rw [Dev.flush_dl]; exact flushRun_dl S a k
theorem Dev.persist_fit {S : Dev} {N : Nat} (h : S.fit N) (p n : Int) : (S.persist p n).dev.fit (N + 200000) := by
  have hs := h.wf.small
  have hd := h.wf.lenD
  unfold Dev.persist
  split
  · exact h.mono (by omega)
  · split
    · unfold Dev.persistN
      have hM : ((p + n - 1) / 8 - p / 8 + 1).toNat ≤ 150000 := by omega
      split
      · exact (flushRun_fit h _ _).mono (by omega)
      · exact (Dev.fence_fit (flushRun_fit h _ _)).mono (by omega)
    · exact (Dev.fence_fit h).mono (by omega)
theorem Dev.persist_dl (S : Dev) (p n : Int) : (S.persist p n).dev.dirty.length = S.dirty.length := by
  unfold Dev.persist
  split
  · rfl
  · split
    · unfold Dev.persistN
      split
      · exact flushRun_dl _ _ _
      · dsimp only; rw [Dev.fence_dl]; exact flushRun_dl _ _ _
    · exact Dev.fence_dl S

theorem rstore_m {w : World} {v : Value} {S : Dev} {m : Nat} (hm : S.dirty.length = m) (h : RAt w v m S.ref) {N : Nat} (hN : N < 1000000000000) (hf : S.fit N) (i : Int) (x : Nat) (hx : x < 18446744073709551616) (hi : -9223372036854775808 ≤ i ∧ i ≤ 9223372036854775807) :
    Calls Tryz.prog 111 #[v, .int .i64 i, vu64 x] w (RDone m (S.store i x) (S.storeE i) v w) := by
  subst hm; exact rstore_any h hN hf i x hx hi
theorem rflush_m {w : World} {v : Value} {S : Dev} {m : Nat} (hm : S.dirty.length = m) (h : RAt w v m S.ref) {N : Nat} (hN : N < 1000000000000) (hf : S.fit N) (i : Int) :
    Calls Tryz.prog 124 #[v, .int .i64 i] w (RDone m (S.flush i) (S.flushE i) v w) := by
  subst hm; exact rflush_any h hN hf i
theorem rfence_m {w : World} {v : Value} {S : Dev} {m : Nat} (hm : S.dirty.length = m) (h : RAt w v m S.ref) {N : Nat} (hN : N < 1000000000000) (hf : S.fit N) :
    Calls Tryz.prog 125 #[v] w (RDone m S.fence S.fenceE v w) := by
  subst hm; exact rfence_any h hN hf
/-- A boxed device, and the result's place. -/
def RBox (v0 : Value) (w W : World) (q m : Nat) (T : Dev) : Prop := ∃ an cn al cl aw cw ad cd ap cp sv fz dd, Mem w W [⟨q, 32, [.slice an m cn, .slice al m cl, .slice aw m cw, .slice ad m cd, .slice ap m cp, .int .i64 sv, .int .i64 fz, .bool dd], true⟩, ⟨q + 1, 32, zeroD.toList, true⟩] ∧
  RAt W (.agg #[.slice an m cn, .slice al m cl, .slice aw m cw, .slice ad m cd, .slice ap m cp, .int .i64 sv, .int .i64 fz, .bool dd]) m T.ref ∧ (m = 0 ∨ ∀ b, RIn (.agg #[.slice an m cn, .slice al m cl, .slice aw m cw, .slice ad m cd, .slice ap m cp, .int .i64 sv, .int .i64 fz, .bool dd]) b → b < q ∨ q + 2 ≤ b) ∧
  (∀ b, RIn (.agg #[.slice an m cn, .slice al m cl, .slice aw m cw, .slice ad m cd, .slice ap m cp, .int .i64 sv, .int .i64 fz, .bool dd]) b → RIn v0 b ∨ w.heap.size ≤ b)

set_option maxHeartbeats 4000000 in
set_option maxRecDepth 100000 in
theorem rpersist_any {w : World} {v : Value} {S : Dev} (h : RAt w v S.dirty.length S.ref) {N : Nat} (hN : N < 100000000000) (hf : S.fit N) (p n : Int) :
    Calls Tryz.prog 112 #[v, .int .i64 p, .int .i64 n] w (RDone S.dirty.length (S.persist p n).dev (S.persist p n).err v w) := by
  obtain ⟨an, cn, al, cl, aw, cw, ad, cd, ap, cp, m, sv, fz, dd, rfl, ho, hdl, hm8, hsv, hfz⟩ := ropen h hf
  have HRA := Lib.hid h
  have HOld := Lib.hid h.old
  rw [hdl] at HOld
  obtain ⟨v0, hv0⟩ : ∃ v0 : Value, v0 = .agg #[.slice an m cn, .slice al m cl, .slice aw m cw, .slice ad m cd, .slice ap m cp, .int .i64 sv, .int .i64 fz, .bool dd] := ⟨_, rfl⟩
  have HV0 := Lib.hid hv0
  clear hv0
  have HDF := Lib.hid hf
  rw [hdl] at HRA
  rw [hdl]
  have HPD : Hid (S.persist p n = if p < 0 ∨ n < 0 ∨ (S.cache.length : Int) < p ∨ (S.cache.length : Int) - p < n then ⟨S, 2⟩
    else if 0 < n then S.persistN (p / 8).toNat ((p + n - 1) / 8 - p / 8 + 1).toNat else ⟨S.fence, S.fenceE⟩) := Lib.hid rfl
  have HPR := Lib.hid (persist_run (S := S))
  have HCL : Hid (S.cache.length = 8 * m) := Lib.hid ho.cl
  generalize hpo : RDone m (S.persist p n).dev (S.persist p n).err _ w = Post
  have HPO := Lib.hid hpo
  have HDL := Lib.hid hdl
  have HO := Lib.hid ho
  clear hpo hdl ho
  clear hf h
  have HM := Lib.hid (Mem.two w #[.slice an m cn, .slice al m cl, .slice aw m cw, .slice ad m cd, .slice ap m cp, .int .i64 sv, .int .i64 fz, .bool dd] 32 zeroD 32)
  go_enter Tryz.func112, Tryz.ntmps112
  go_upto_region 1 with fail
  rw [show (#[.slice none 0 0, .slice none 0 0, .slice none 0 0, .slice none 0 0, .slice none 0 0, .int .i64 0, .int .i64 0, .bool false] : Array Value) = zeroD from rfl]
  generalize (w.alloc _).alloc _ = w0 at *
  obtain ⟨q, hq⟩ : ∃ q, q = w.heap.size := ⟨_, rfl⟩
  rw [← hq] at HM ⊢
  have HQ := Lib.hid hq
  clear hq
  have c0 := HM.out.cell 0 0 rfl rfl
  go_cut [33] from 10 (fun c wc => c = .bool (decide (p < 0 ∨ n < 0 ∨ 8 * (m : Int) < p ∨ 8 * (m : Int) - p < n)) ∧ wc = w0)
  case first =>
    by_cases h1 : p < 0
    · go_wp2_with fail
      go_meet
      exact ⟨by simp [h1], rfl⟩
    by_cases h2 : n < 0
    · go_wp2_with fail
      go_meet
      exact ⟨by simp [h2], rfl⟩
    by_cases h3 : 8 * (m : Int) < p
    · go_wp2_with fail
      go_meet
      exact ⟨by simp [h3], rfl⟩
    have hw : IntKind.i64.wrap (8 * (m : Int) - p) = 8 * (m : Int) - p := IntWalk.i64_in _ (by omega)
    by_cases h4 : 8 * (m : Int) - p < n
    · go_wp2_with fail
      go_meet
      exact ⟨by simp [h4], rfl⟩
    have h5 : ¬ (p < 0 ∨ n < 0 ∨ 8 * (m : Int) < p ∨ 8 * (m : Int) - p < n) := by omega
    have H5 := Lib.hid h5
    clear h5
    go_wp2_with fail
    go_meet
    exact ⟨by simp [H5.out], rfl⟩
  case rest =>
    obtain ⟨rfl, rfl⟩ := hcut
    by_cases h0 : p < 0 ∨ n < 0 ∨ 8 * (m : Int) < p ∨ 8 * (m : Int) - p < n
    · have HV : Hid (S.persist p n = ⟨S, 2⟩) := Lib.hid (by rw [HPD.out, if_pos (by rw [HCL.out]; omega)])
      rw [decide_eq_true h0]
      clear h0
      go_wp2_with (first | (refine wpList_load_mem aggRd HM.out 0 rfl rfl rfl rfl rfl ?_) | (refine wpList_store_mem aggRd HM.out 1 rfl rfl rfl rfl rfl rfl rfl rfl ?_; intro w9 h9 _; have H9 := Lib.hid h9; clear h9))
      refine bodyPost_ret (results_cell_row2 (p := 6) (u := 7) rfl _ _ _ _ _ _ _ rfl (H9.out.exact 1 rfl) Tryz.underlying32 rfl (by kernel_rfl)) rfl ?_
      rw [← HPO.out, HV.out]
      exact ⟨_, rfl, HRA.out.below H9.out.below (Nat.le_refl _), fun b hb => .inl hb, H9.out.below⟩
    rw [decide_eq_false h0]
    obtain ⟨p, rfl⟩ := Int.eq_ofNat_of_zero_le (show 0 ≤ p by omega)
    obtain ⟨n, rfl⟩ := Int.eq_ofNat_of_zero_le (show 0 ≤ n by omega)
    have hpn : p + n ≤ 8 * m := by omega
    have hpr := HPR.out p n (by rw [HCL.out]; exact hpn)
    have HV := Lib.hid hpr
    clear h0 hpr
    clear HPR HPD c0
    go_wp2_with fail
    go_loopw [8, 9] (fun e i wr => ∃ k : Nat, k ≤ m ∧ i = .int .i64 k ∧ e = .int .i64 0 ∧ (S.runAt p n k).err = 0 ∧ RBox v0 w wr q m (S.runAt p n k).dev) (fun _ i _ => m - (intOf i).toNat)
    case atStart => exact ⟨0, Nat.zero_le _, rfl, rfl, by rw [runAt_zero], by rw [runAt_zero]; exact ⟨_, _, _, _, _, _, _, _, _, _, _, _, _, HM.out, HRA.out.below HM.out.below (Nat.le_refl _), HOld.out.imp id (fun h b hb => .inl (by rw [HQ.out]; exact h b hb)), fun b hb => .inl (by rw [HV0.out]; exact hb)⟩⟩
    case round =>
      obtain ⟨k, hk, rfl, rfl, he0, an, cn, al, cl, aw, cw, ad, cd, ap, cp, sv, fz, dd, hmem, hra, hap, hri⟩ := hrel
      have HMs := Lib.hid (runAt_miss S p n k)
      have HHt := Lib.hid (runAt_hit S p n k)
      have HSy := Lib.hid (fun h => runAt_stays S p n (k + 1) m hpn h)
      have HEn := Lib.hid (runAt_end S p n m hpn)
      have HKm : Hid (k = m → S.runAt p n m = S.runAt p n k) := Lib.hid (fun h => by rw [h])
      have HTf := Lib.hid (flushRun_fit HDF.out (p / 8) (min (k - p / 8) (linesOf p n)))
      have HTd := Lib.hid (flushRun_dl S (p / 8) (min (k - p / 8) (linesOf p n)))
      have hln : linesOf p n ≤ 200000 := by unfold linesOf; split <;> omega
      have hmin : min (k - p / 8) (linesOf p n) ≤ 200000 := by omega
      rw [show S.flushRun (p / 8) (min (k - p / 8) (linesOf p n)) = S.runAt p n k from rfl] at HTf HTd
      generalize min (k - p / 8) (linesOf p n) = mm at *
      generalize S.runAt p n k = T at *
      have c0 := hmem.cell 0 0 rfl rfl
      have HTL : Hid (T.dev.dirty.length = m) := Lib.hid (by rw [HTd.out, HDL.out])
      have HMEM := Lib.hid hmem
      have HE0 := Lib.hid he0
      clear hmem he0
      have HRA2 := Lib.hid hra
      clear hra
      have HAP := Lib.hid hap
      have HRI := Lib.hid hri
      clear HM hap hri
      by_cases hlt : k < m
      · have hlt' : (k : Int) < (m : Int) := by omega
        by_cases hh : 0 < n ∧ p ≤ 8 * k + 7 ∧ 8 * k < p + n
        · have HHn := Lib.hid (HHt.out hh HE0.out)
          obtain ⟨h1, h2, h3⟩ := hh
          have h1' : (0 : Int) < (n : Int) := by omega
          have h2' : (p : Int) ≤ 8 * (k : Int) + 7 := by omega
          have h3' : 8 * (k : Int) < (p : Int) + (n : Int) := by omega
          go_wp2_with (refine wpList_load_mem aggRd HMEM.out 0 rfl rfl rfl rfl rfl ?_)
          refine (rflush_m HTL.out HRA2.out (N := N + mm) (by omega) HTf.out k).mono ?_
          rintro e w1 ⟨v', rfl, hra1, hri1, hb1⟩
          obtain ⟨an1, cn1, al1, cl1, aw1, cw1, ad1, cd1, ap1, cp1, rfl, y1, y2, y3, y4, y5⟩ := hra1.ex
          clear y1 y2 y3 y4 y5
          generalize T.dev.flush (k : Int) = T1 at *
          generalize T.dev.flushE (k : Int) = E1 at *
          generalize T1.ref.steps = sv1 at *
          generalize T1.ref.fuse = fz1 at *
          generalize T1.ref.dead = dd1 at *
          have HM1 := Lib.hid (HMEM.out.later hb1)
          have HR1 := Lib.hid hra1
          have hq2 : q + 2 ≤ wr.heap.size := HMEM.out.glt 1 rfl
          have HAP1 : Hid (m = 0 ∨ ∀ b, RIn (.agg #[.slice an1 m cn1, .slice al1 m cl1, .slice aw1 m cw1, .slice ad1 m cd1, .slice ap1 m cp1, .int .i64 sv1, .int .i64 fz1, .bool dd1]) b → b < q ∨ q + 2 ≤ b) := Lib.hid (HAP.out.imp id (fun h b hb => (hri1 b hb).elim (h b) (fun h => .inr (by omega))))
          have HRI1 : Hid (∀ b, RIn (.agg #[.slice an1 m cn1, .slice al1 m cl1, .slice aw1 m cw1, .slice ad1 m cd1, .slice ap1 m cp1, .int .i64 sv1, .int .i64 fz1, .bool dd1]) b → RIn v0 b ∨ w.heap.size ≤ b) := Lib.hid (fun b hb => (hri1 b hb).elim (HRI.out b) (fun h => .inr (by have := HMEM.out.below.size; omega)))
          clear hra1 hb1 hri1 HMEM c0 HAP HRI
          by_cases hE : E1 = 0
          · subst hE
            go_wp2_with (refine wpList_store_mem aggRd HM1.out 0 rfl rfl rfl rfl rfl rfl rfl rfl ?_; intro w2 h2 ht2; have HM2 := Lib.hid h2; have HT2 := Lib.hid ht2; clear h2 ht2)
            refine ⟨⟨k + 1, by omega, vint (by omega), rfl, by rw [HHn.out], ?_⟩, by simp [intOf]; omega⟩
            rw [HHn.out]
            exact ⟨_, _, _, _, _, _, _, _, _, _, _, _, _, HM2.out, HR1.out.touch HT2.out (HAP1.out.imp id (fun h b hb => by have := h b hb; simp; omega)), HAP1.out, HRI1.out⟩
          · have hE1 : (E1 != 0) = true := by simpa using hE
            have HR : Hid (S.persist (p : Int) (n : Int) = ⟨T1, E1⟩) := Lib.hid (by
              have h1 := HSy.out (by omega) (by rw [HHn.out]; exact hE)
              rw [HHn.out] at h1
              rw [HV.out, ← h1, if_pos hE])
            clear hE
            go_upto_region 9 with (refine wpList_store_mem aggRd HM1.out 0 rfl rfl rfl rfl rfl rfl rfl rfl ?_; intro w2 h2 ht2; have HM2 := Lib.hid h2; have HT2 := Lib.hid ht2; clear h2 ht2)
            go_wp2_with (first | (refine wpList_load_mem aggRd HM2.out 0 rfl rfl rfl rfl rfl ?_) | (refine wpList_store_mem aggRd HM2.out 1 rfl rfl rfl rfl rfl rfl rfl rfl ?_; intro w9 h9 ht9; have H9 := Lib.hid h9; have HT9 := Lib.hid ht9; clear h9 ht9))
            refine bodyPost_ret (results_cell_row2 (p := 6) (u := 7) rfl _ _ _ _ _ _ _ rfl (H9.out.exact 1 rfl) Tryz.underlying32 rfl (by kernel_rfl)) rfl ?_
            rw [← HPO.out, HR.out]
            exact ⟨_, rfl, (HR1.out.touch HT2.out (HAP1.out.imp id (fun h b hb => by have := h b hb; simp; omega))).touch HT9.out (HAP1.out.imp id (fun h b hb => by have := h b hb; simp; omega)), by rw [← HV0.out]; exact HRI1.out, H9.out.below⟩
        · have HHn := Lib.hid (HMs.out hh)
          have hh' : n = 0 ∨ (0 < n ∧ 8 * k + 7 < p) ∨ (0 < n ∧ p ≤ 8 * k + 7 ∧ p + n ≤ 8 * k) := by omega
          clear hh
          rcases hh' with rfl | ⟨h1, h2⟩ | ⟨h1, h2, h3⟩
          · go_wp2_with fail
            refine ⟨⟨k + 1, by omega, vint (by omega), rfl, by rw [HHn.out]; exact HE0.out, ?_⟩, by simp [intOf]; omega⟩
            rw [HHn.out]
            exact ⟨_, _, _, _, _, _, _, _, _, _, _, _, _, HMEM.out, HRA2.out, HAP.out, HRI.out⟩
          · have h1' : (0 : Int) < (n : Int) := by omega
            have h2' : decide ((p : Int) ≤ 8 * (k : Int) + 7) = false := by simp; omega
            go_wp2_with fail
            refine ⟨⟨k + 1, by omega, vint (by omega), rfl, by rw [HHn.out]; exact HE0.out, ?_⟩, by simp [intOf]; omega⟩
            rw [HHn.out]
            exact ⟨_, _, _, _, _, _, _, _, _, _, _, _, _, HMEM.out, HRA2.out, HAP.out, HRI.out⟩
          · have h1' : (0 : Int) < (n : Int) := by omega
            have h2' : (p : Int) ≤ 8 * (k : Int) + 7 := by omega
            have h3' : decide (8 * (k : Int) < (p : Int) + (n : Int)) = false := by simp; omega
            go_wp2_with fail
            refine ⟨⟨k + 1, by omega, vint (by omega), rfl, by rw [HHn.out]; exact HE0.out, ?_⟩, by simp [intOf]; omega⟩
            rw [HHn.out]
            exact ⟨_, _, _, _, _, _, _, _, _, _, _, _, _, HMEM.out, HRA2.out, HAP.out, HRI.out⟩
      · obtain rfl : k = m := by omega
        have hlt' : decide ((k : Int) < (k : Int)) = false := by simp
        have HR : Hid (S.persist (p : Int) (n : Int) = ⟨T.dev.fence, T.dev.fenceE⟩) := Lib.hid (by
          have h1 := HEn.out
          rw [HKm.out (by first | rfl | trivial)] at h1
          rw [HV.out, ← h1, if_neg (by rw [HE0.out]; simp)])
        go_wp2_with (refine wpList_load_mem aggRd HMEM.out 0 rfl rfl rfl rfl rfl ?_)
        refine (rfence_m HTL.out HRA2.out (N := N + mm) (by omega) HTf.out).mono ?_
        rintro e w1 ⟨v', rfl, hra1, hri1, hb1⟩
        obtain ⟨an1, cn1, al1, cl1, aw1, cw1, ad1, cd1, ap1, cp1, rfl, y1, y2, y3, y4, y5⟩ := hra1.ex
        clear y1 y2 y3 y4 y5
        generalize T.dev.fence = T1 at *
        generalize T.dev.fenceE = E1 at *
        generalize T1.ref.steps = sv1 at *
        generalize T1.ref.fuse = fz1 at *
        generalize T1.ref.dead = dd1 at *
        have HM1 := Lib.hid (HMEM.out.later hb1)
        have HR1 := Lib.hid hra1
        have hq2 : q + 2 ≤ wr.heap.size := HMEM.out.glt 1 rfl
        have HAP1 : Hid (k = 0 ∨ ∀ b, RIn (.agg #[.slice an1 k cn1, .slice al1 k cl1, .slice aw1 k cw1, .slice ad1 k cd1, .slice ap1 k cp1, .int .i64 sv1, .int .i64 fz1, .bool dd1]) b → b < q ∨ q + 2 ≤ b) := Lib.hid (HAP.out.imp id (fun h b hb => (hri1 b hb).elim (h b) (fun h => .inr (by omega))))
        have HRI1 : Hid (∀ b, RIn (.agg #[.slice an1 k cn1, .slice al1 k cl1, .slice aw1 k cw1, .slice ad1 k cd1, .slice ap1 k cp1, .int .i64 sv1, .int .i64 fz1, .bool dd1]) b → RIn v0 b ∨ w.heap.size ≤ b) := Lib.hid (fun b hb => (hri1 b hb).elim (HRI.out b) (fun h => .inr (by have := HMEM.out.below.size; omega)))
        clear hra1 hb1 hri1 HMEM c0 HAP HRI
        go_wp2_with (refine wpList_store_mem aggRd HM1.out 1 rfl rfl rfl rfl rfl rfl rfl rfl ?_; intro w9 h9 ht9; have H9 := Lib.hid h9; have HT9 := Lib.hid ht9; clear h9 ht9)
        refine bodyPost_ret (results_cell_row2 (p := 6) (u := 7) rfl _ _ _ _ _ _ _ rfl (H9.out.exact 1 rfl) Tryz.underlying32 rfl (by kernel_rfl)) rfl ?_
        rw [← HPO.out, HR.out]
        exact ⟨_, rfl, HR1.out.touch HT9.out (HAP1.out.imp id (fun h b hb => by have := h b hb; simp; omega)), by rw [← HV0.out]; exact HRI1.out, H9.out.below⟩

theorem rpersist_m {w : World} {v : Value} {S : Dev} {m : Nat} (hm : S.dirty.length = m) (h : RAt w v m S.ref) {N : Nat} (hN : N < 100000000000) (hf : S.fit N) (p n : Int) :
    Calls Tryz.prog 112 #[v, .int .i64 p, .int .i64 n] w (RDone m (S.persist p n).dev (S.persist p n).err v w) := by
  subst hm; exact rpersist_any h hN hf p n

end Go.Proofs.YtebnelihlgdciaaGreat
