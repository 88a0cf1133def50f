/- Parts of the proof, one behind the other: Iv, Yd, Ye, Zg, Zk, Rs, Rt, Ru, Rv, Rw, Ua, Dl, Ub, Yo, Lp, Yp, Yf, Zw, Qv, Zl, Zo, Zp. -/
import Derived.Test.YtfedgcdkagngnaaM4
import Derived.BigQuiet
import Derived.Deep.CutBlock
import Derived.ChangeKeysEq
import Derived.Laws.StructEq
import Derived.Deep.QuietTactic

/- Plain: what holds of a device at all times; what a persist and a crash leave. -/
namespace Go.Proofs.Ytfedgcdkagngnaa
set_option linter.unusedVariables false

theorem splice_getD (l s : List Nat) (o i : Nat) (h : o + s.length ≤ l.length) : (splice l o s).getD i 0 = if o ≤ i ∧ i < o + s.length then s.getD (i - o) 0 else l.getD i 0 := by
  unfold splice
  simp only [List.getD_eq_getElem?_getD]
  by_cases h1 : i < o
  · rw [if_neg (by omega), List.getElem?_append_left (by simp; omega), List.getElem?_take_of_lt h1]
  · rw [List.getElem?_append_right (by simp; omega), show (l.take o).length = o by simp; omega]
    by_cases h2 : i < o + s.length
    · rw [if_pos (by omega), List.getElem?_append_left (by omega)]
    · rw [if_neg (by omega), List.getElem?_append_right (by omega), List.getElem?_drop, show o + s.length + (i - o - s.length) = i by omega]
theorem seg_getD (l : List Nat) (j i : Nat) (hi : 8 * j ≤ i) (h2 : i < 8 * j + 8) : (seg l j).getD (i - 8 * j) 0 = l.getD i 0 := by
  rw [List.getD_eq_getElem?_getD, seg_at l j (i - 8 * j) (by omega), show 8 * j + (i - 8 * j) = i by omega, ← List.getD_eq_getElem?_getD]
theorem seg_eq_iff (l m : List Nat) (j : Nat) (h1 : 8 * j + 8 ≤ l.length) (h2 : 8 * j + 8 ≤ m.length) : seg l j = seg m j ↔ ∀ i, 8 * j ≤ i → i < 8 * j + 8 → l.getD i 0 = m.getD i 0 := by
  constructor
  · intro h i hi hi2
    rw [← seg_getD l j i hi hi2, ← seg_getD m j i hi hi2, h]
  · intro h
    apply List.ext_getElem (by rw [seg_length l j h1, seg_length m j h2])
    intro i hi1 hi2
    rw [seg_length l j h1] at hi1
    have := h (8 * j + i) (by omega) (by omega)
    have e1 := seg_getD l j (8 * j + i) (by omega) (by omega)
    have e2 := seg_getD m j (8 * j + i) (by omega) (by omega)
    rw [show 8 * j + i - 8 * j = i by omega] at e1 e2
    rw [this, ← e2] at e1
    simpa [List.getD_eq_getElem?_getD, seg_length l j h1, seg_length m j h2, hi1] using e1
theorem splice_seg_getD (l s : List Nat) (j i : Nat) (h1 : 8 * j + 8 ≤ l.length) (h2 : 8 * j + 8 ≤ s.length) : (splice l (8 * j) (seg s j)).getD i 0 = if i / 8 = j then s.getD i 0 else l.getD i 0 := by
  have hl := seg_length s j h2
  rw [splice_getD _ _ _ _ (by rw [hl]; exact h1), hl]
  by_cases h : i / 8 = j
  · rw [if_pos (by omega), if_pos h, seg_getD s j i (by omega) (by omega)]
  · rw [if_neg (by omega), if_neg h]
theorem getD_setB (l : List Bool) (i j : Nat) (b : Bool) (hi : i < l.length) : (l.set i b).getD j false = if j = i then b else l.getD j false := by
  simp only [List.getD_eq_getElem?_getD]
  by_cases h : j = i
  · subst h; rw [if_pos rfl, List.getElem?_set_self hi]; rfl
  · rw [if_neg h, List.getElem?_set_ne (Ne.symm h)]
theorem getD_setN (l : List Nat) (i j x : Nat) (hi : i < l.length) : (l.set i x).getD j 0 = if j = i then x else l.getD j 0 := by
  simp only [List.getD_eq_getElem?_getD]
  by_cases h : j = i
  · subst h; rw [if_pos rfl, List.getElem?_set_self hi]; rfl
  · rw [if_neg h, List.getElem?_set_ne (Ne.symm h)]

/-- A line that is not dirty lasts as it is; a pending one is dirty. -/
structure Dev.inv (S : Dev) : Prop where
  wf : S.wf
  sound : ∀ j, S.dirty.getD (j / 8) false = false → S.lasting.getD j 0 = S.cache.getD j 0
  pend : ∀ l, S.pending.getD l false = true → S.dirty.getD l false = true

theorem Dev.step_wf {S : Dev} (h : S.wf) : S.step.wf := by
  unfold Dev.step
  split
  · exact ⟨h.lenL, h.lenF, h.lenP, h.lenD, h.small, h.u64L, h.u64C, h.u64F⟩
  · exact ⟨h.lenL, h.lenF, h.lenP, h.lenD, h.small, h.u64L, h.u64C, h.u64F⟩
theorem Dev.step_inv {S : Dev} (h : S.inv) : S.step.inv := by
  obtain ⟨e1, e2, e3, e4, e5⟩ := S.step_rest
  exact ⟨Dev.step_wf h.wf, by rw [e1, e2, e4]; exact h.sound, by rw [e5, e4]; exact h.pend⟩
theorem fresh_inv {ws : List Nat} {m : Nat} (h8 : ws.length = 8 * m) (hs : ws.length ≤ 1000000) (hu : ∀ z ∈ ws, z < 18446744073709551616) : (freshDev ws m).inv := by
  refine ⟨⟨rfl, by simp [freshDev], by simp [freshDev], by simpa [freshDev] using h8, hs, hu, hu, ?_⟩, fun j _ => rfl, fun l hl => ?_⟩
  · intro z hz
    simp [freshDev] at hz
    omega
  · exfalso
    simp [freshDev, List.getD_eq_getElem?_getD, List.getElem?_replicate] at hl
    split at hl <;> simp at hl
theorem Dev.put_inv {S : Dev} (h : S.inv) (i x : Nat) (hi : i < S.cache.length) (hx : x < 18446744073709551616) : (S.put i x).inv := by
  have hw := h.wf
  have hD := hw.lenD
  have hl : i / 8 < S.dirty.length := by omega
  refine ⟨⟨by simp [Dev.put, hw.lenL], by simp [Dev.put, hw.lenF], by simp [Dev.put, hw.lenP], by simp [Dev.put, hD], by simp [Dev.put, hw.small], hw.u64L, set_lt hw.u64C _ _ hx, hw.u64F⟩, fun j hj => ?_, fun l hl2 => ?_⟩
  · simp only [Dev.put] at hj ⊢
    rw [getD_setB _ _ _ _ hl] at hj
    rw [getD_setN _ _ _ _ hi]
    split at hj
    · cases hj
    · rw [if_neg (by rintro rfl; simp at *)]
      exact h.sound j hj
  · simp only [Dev.put] at hl2 ⊢
    rw [getD_setB _ _ _ _ hl]
    split
    · rfl
    · exact h.pend l hl2
theorem Dev.store_inv {S : Dev} (h : S.inv) (i : Int) (x : Nat) (hx : x < 18446744073709551616) : (S.store i x).inv := by
  unfold Dev.store
  split
  · exact h
  · split
    · exact Dev.step_inv h
    · exact Dev.put_inv (Dev.step_inv h) _ _ (by rw [(Dev.step_rest S).2.1]; omega) hx
theorem Dev.hold_inv {S : Dev} (h : S.inv) (j : Nat) (hj : j < S.dirty.length) : (S.hold j).inv := by
  have hw := h.wf
  have hD := hw.lenD
  unfold Dev.hold
  split
  · rename_i hd
    have hs := seg_length S.cache j (by omega)
    refine ⟨⟨hw.lenL, by rw [length_splice _ _ _ (by rw [hs, hw.lenF]; omega)]; exact hw.lenF, by simp [hw.lenP], hD, hw.small, hw.u64L, hw.u64C, splice_lt _ hw.u64F (seg_lt _ hw.u64C)⟩, h.sound, fun l hl => ?_⟩
    dsimp only at hl ⊢
    rw [getD_setB _ _ _ _ (by rw [hw.lenP]; exact hj)] at hl
    split at hl
    · rename_i e; rw [e]; exact hd
    · exact h.pend l hl
  · exact h
theorem Dev.flush_inv {S : Dev} (h : S.inv) (j : Int) : (S.flush j).inv := by
  unfold Dev.flush
  split
  · exact h
  · split
    · exact Dev.step_inv h
    · exact Dev.hold_inv (Dev.step_inv h) _ (by rw [(Dev.step_rest S).2.2.2.1]; omega)
theorem Dev.flushRun_inv {S : Dev} (h : S.inv) (a m : Nat) : (S.flushRun a m).dev.inv := by
  induction m with
  | zero => exact h
  | succ m ih =>
    unfold Dev.flushRun
    split
    · exact ih
    · exact Dev.flush_inv ih _

/-- What a fence has done up to line k. -/
structure FenceAt (S : Dev) (k : Nat) (T : Dev) : Prop where
  cache : T.cache = S.cache
  flushed : T.flushed = S.flushed
  lenD : T.dirty.length = S.dirty.length
  lenP : T.pending.length = S.pending.length
  lenL : T.lasting.length = S.lasting.length
  pending : ∀ l, T.pending.getD l false = if l < k then false else S.pending.getD l false
  dirty : ∀ l, T.dirty.getD l false = if l < k ∧ S.pending.getD l false = true then !decide (seg S.flushed l = seg S.cache l) else S.dirty.getD l false
  lasting : ∀ j, T.lasting.getD j 0 = if j / 8 < k ∧ S.pending.getD (j / 8) false = true then S.flushed.getD j 0 else S.lasting.getD j 0
  u64 : ∀ z ∈ T.lasting, z < 18446744073709551616

theorem fenceTo_at {S : Dev} (h : S.wf) : ∀ k, k ≤ S.dirty.length → FenceAt S k (S.fenceTo k)
  | 0, _ => ⟨rfl, rfl, rfl, rfl, rfl, by simp [Dev.fenceTo], by simp [Dev.fenceTo], by simp [Dev.fenceTo], h.u64L⟩
  | k + 1, hk => by
    have i := fenceTo_at h k (by omega)
    have hD := h.lenD
    have hP := h.lenP
    have hL := h.lenL
    have hF := h.lenF
    unfold Dev.fenceTo
    generalize S.fenceTo k = T at *
    have hp : T.pending.getD k false = S.pending.getD k false := by rw [i.pending k, if_neg (by omega)]
    unfold Dev.settle
    rw [hp]
    cases hq : S.pending.getD k false
    · simp only [Bool.false_eq_true, if_false]
      refine ⟨i.cache, i.flushed, i.lenD, i.lenP, i.lenL, fun l => ?_, fun l => ?_, fun j => ?_, i.u64⟩
      · rw [i.pending l]
        by_cases e : l = k
        · subst e; rw [if_neg (by omega), if_pos (by omega), hq]
        · by_cases h1 : l < k
          · rw [if_pos h1, if_pos (by omega)]
          · rw [if_neg h1, if_neg (by omega)]
      · rw [i.dirty l]
        by_cases e : l = k
        · subst e; rw [if_neg (by omega), if_neg (by rw [hq]; simp)]
        · by_cases h1 : l < k ∧ S.pending.getD l false = true
          · rw [if_pos h1, if_pos ⟨by omega, h1.2⟩]
          · rw [if_neg h1, if_neg (fun h2 => h1 ⟨by omega, h2.2⟩)]
      · rw [i.lasting j]
        by_cases e : j / 8 = k
        · rw [if_neg (by omega), if_neg (by rw [e, hq]; simp)]
        · by_cases h1 : j / 8 < k ∧ S.pending.getD (j / 8) false = true
          · rw [if_pos h1, if_pos ⟨by omega, h1.2⟩]
          · rw [if_neg h1, if_neg (fun h2 => h1 ⟨by omega, h2.2⟩)]
    · simp only [if_true]
      rw [i.flushed, i.cache]
      have hs := seg_length S.flushed k (by omega)
      have hlT : 8 * k + 8 ≤ T.lasting.length := by rw [i.lenL]; omega
      refine ⟨rfl, rfl, by simp [i.lenD], by simp [i.lenP], by rw [length_splice _ _ _ (by rw [hs]; exact hlT)]; exact i.lenL, fun l => ?_, fun l => ?_, fun j => ?_, splice_lt _ i.u64 (seg_lt _ h.u64F)⟩
      · dsimp only
        rw [getD_setB _ _ _ _ (by rw [i.lenP]; omega), i.pending l]
        by_cases e : l = k
        · subst e; rw [if_pos rfl, if_pos (by omega)]
        · rw [if_neg e]
          by_cases h1 : l < k
          · rw [if_pos h1, if_pos (by omega)]
          · rw [if_neg h1, if_neg (by omega)]
      · dsimp only
        rw [getD_setB _ _ _ _ (by rw [i.lenD]; omega), i.dirty l]
        by_cases e : l = k
        · subst e; rw [if_pos rfl, if_pos ⟨by omega, hq⟩]
        · rw [if_neg e]
          by_cases h1 : l < k ∧ S.pending.getD l false = true
          · rw [if_pos h1, if_pos ⟨by omega, h1.2⟩]
          · rw [if_neg h1, if_neg (fun h2 => h1 ⟨by omega, h2.2⟩)]
      · dsimp only
        rw [splice_seg_getD _ _ _ _ hlT (by omega), i.lasting j]
        by_cases e : j / 8 = k
        · rw [if_pos e, if_pos ⟨by omega, by rw [e]; exact hq⟩]
        · rw [if_neg e]
          by_cases h1 : j / 8 < k ∧ S.pending.getD (j / 8) false = true
          · rw [if_pos h1, if_pos ⟨by omega, h1.2⟩]
          · rw [if_neg h1, if_neg (fun h2 => h1 ⟨by omega, h2.2⟩)]

theorem getD_false_of {l : List Bool} {i : Nat} (h : l.length ≤ i) : l.getD i false = false := by simp [List.getD_eq_getElem?_getD, List.getElem?_eq_none h]
theorem Dev.fence_at {S : Dev} (h : S.wf) (hs : S.stop = false) : FenceAt S S.dirty.length S.fence := by
  unfold Dev.fence
  rw [hs]
  simp only [Bool.false_eq_true, if_false]
  obtain ⟨e1, e2, e3, e4, e5⟩ := S.step_rest
  have i := fenceTo_at (Dev.step_wf h) S.dirty.length (by rw [e4]; exact Nat.le_refl _)
  exact ⟨by rw [← e2]; exact i.cache, by rw [← e3]; exact i.flushed, by rw [← e4]; exact e4 ▸ i.lenD, by rw [← e5]; exact i.lenP, by rw [← e1]; exact i.lenL, by have := i.pending; rwa [e5] at this, by have := i.dirty; rwa [e5, e3, e2, e4] at this, by have := i.lasting; rwa [e5, e3, e1] at this, i.u64⟩
theorem Dev.fence_inv {S : Dev} (h : S.inv) : S.fence.inv := by
  by_cases hs : S.stop = true
  · unfold Dev.fence; rw [hs]; exact Dev.step_inv h
  · have i := Dev.fence_at h.wf (by simpa using hs)
    have hw := h.wf
    have hD := hw.lenD
    generalize S.fence = T at *
    refine ⟨⟨by rw [i.lenL, i.cache]; exact hw.lenL, by rw [i.flushed, i.cache]; exact hw.lenF, by rw [i.lenP, i.lenD]; exact hw.lenP, by rw [i.cache, i.lenD]; exact hD, by rw [i.cache]; exact hw.small, i.u64, by rw [i.cache]; exact hw.u64C, by rw [i.flushed]; exact hw.u64F⟩, fun j hj => ?_, fun l hl => ?_⟩
    · rw [i.lasting j, i.cache]
      rw [i.dirty (j / 8)] at hj
      by_cases h1 : j / 8 < S.dirty.length ∧ S.pending.getD (j / 8) false = true
      · rw [if_pos h1]
        rw [if_pos h1] at hj
        have : seg S.flushed (j / 8) = seg S.cache (j / 8) := by simpa using hj
        exact (seg_eq_iff _ _ _ (by rw [hw.lenF]; omega) (by omega)).1 this j (by omega) (by omega)
      · rw [if_neg h1]
        rw [if_neg h1] at hj
        exact h.sound j hj
    · rw [i.pending l] at hl
      by_cases h1 : l < S.dirty.length
      · rw [if_pos h1] at hl; cases hl
      · rw [getD_false_of (by rw [hw.lenP]; omega)] at hl
        simp at hl
theorem Dev.persist_inv {S : Dev} (h : S.inv) (p n : Int) : (S.persist p n).dev.inv := by
  unfold Dev.persist
  split
  · exact h
  · split
    · unfold Dev.persistN
      split
      · exact Dev.flushRun_inv h _ _
      · exact Dev.fence_inv (Dev.flushRun_inv h _ _)
    · exact Dev.fence_inv h

theorem settle_steps (S : Dev) (j : Nat) : (S.settle j).steps = S.steps ∧ (S.settle j).fuse = S.fuse := by
  unfold Dev.settle; split <;> exact ⟨rfl, rfl⟩
theorem fenceTo_steps (S : Dev) (k : Nat) : (S.fenceTo k).steps = S.steps ∧ (S.fenceTo k).fuse = S.fuse := by
  induction k with
  | zero => exact ⟨rfl, rfl⟩
  | succ k ih => have h := settle_steps (S.fenceTo k) k; exact ⟨h.1.trans ih.1, h.2.trans ih.2⟩
theorem Dev.fence_ok {S : Dev} {N : Nat} (h : S.ok N) : S.fence.ok (N + 1) := by
  unfold Dev.fence
  split
  · exact Dev.step_ok h
  · have := Dev.step_ok h
    have e := fenceTo_steps S.step S.dirty.length
    unfold Dev.ok at *
    rw [e.1, e.2]
    exact this
theorem Dev.persist_ok {S : Dev} (hw : S.wf) {N : Nat} (h : S.ok N) (p n : Int) : (S.persist p n).dev.ok (N + 200000) := by
  have hD := hw.lenD
  have hs := hw.small
  unfold Dev.persist
  split
  · exact h.mono (by omega)
  · split
    · unfold Dev.persistN
      have hM : (((p : Int) + (n : Int) - 1) / 8 - (p : Int) / 8 + 1).toNat ≤ 150000 := by omega
      split
      · exact (Dev.flushRun_ok h _ _).mono (by omega)
      · exact (Dev.fence_ok (Dev.flushRun_ok h _ _)).mono (by omega)
    · exact (Dev.fence_ok h).mono (by omega)

theorem settle_live {S : Dev} (h : S.live) (j : Nat) : (S.settle j).live := by
  unfold Dev.settle; split <;> exact h
theorem fenceTo_live {S : Dev} (h : S.live) (k : Nat) : (S.fenceTo k).live := by
  induction k with
  | zero => exact h
  | succ k ih => exact settle_live ih k
theorem Dev.live.fence {S : Dev} (h : S.live) : S.fence.live := by
  unfold Dev.fence
  rw [h.stop]
  exact fenceTo_live h.step _
theorem Dev.live.persist_live {S : Dev} (h : S.live) (p n : Nat) (hn : 0 < n) (hd : S.cache.length = 8 * S.dirty.length) (hp : p + n ≤ S.cache.length) : (S.persist p n).dev.live := by
  unfold Dev.persist
  rw [if_neg (by omega), if_pos (by omega)]
  unfold Dev.persistN
  obtain ⟨i1, i2, i3, i4⟩ := h.flushRun ((p : Int) / 8).toNat (((p : Int) + (n : Int) - 1) / 8 - (p : Int) / 8 + 1).toNat (by omega)
  rw [if_neg (by rw [i1]; simp)]
  exact i2.fence

/-- A line that was flushed is held as it is. -/
theorem Dev.flushRun_held {S : Dev} (h : S.inv) (a : Nat) : ∀ m, (S.flushRun a m).err = 0 → (S.flushRun a m).dev.cache = S.cache ∧ (S.flushRun a m).dev.dirty = S.dirty ∧ (0 < m → a + m ≤ S.dirty.length) ∧
    ∀ l, a ≤ l → l < a + m → S.dirty.getD l false = true → (S.flushRun a m).dev.pending.getD l false = true ∧ seg (S.flushRun a m).dev.flushed l = seg S.cache l
  | 0, _ => ⟨rfl, rfl, fun h => absurd h (Nat.lt_irrefl _), fun l h1 h2 => by omega⟩
  | m + 1, he => by
    have hinv := Dev.flushRun_inv h a m
    unfold Dev.flushRun at he ⊢
    by_cases h0 : (S.flushRun a m).err ≠ 0
    · rw [if_pos h0] at he
      exact absurd he h0
    · rw [if_neg h0] at he ⊢
      obtain ⟨i1, i2, i3, i4⟩ := Dev.flushRun_held h a m (by simpa using h0)
      generalize (S.flushRun a m).dev = T at *
      dsimp only at he ⊢
      unfold Dev.flushE at he
      unfold Dev.flush
      by_cases c1 : ((a + m : Nat) : Int) < 0 ∨ (T.dirty.length : Int) ≤ ((a + m : Nat) : Int)
      · rw [if_pos c1] at he; simp at he
      rw [if_neg c1] at he ⊢
      cases c2 : T.stop
      · simp only [Bool.false_eq_true, if_false]
        obtain ⟨e1, e2, e3, e4, e5⟩ := T.step_rest
        rw [show ((a + m : Nat) : Int).toNat = a + m by omega]
        have hw := Dev.step_wf hinv.wf
        have hD := hw.lenD
        have hdl : T.dirty.length = S.dirty.length := by rw [i2]
        have hj : a + m < T.step.dirty.length := by rw [e4]; omega
        rw [← e4] at i2
        rw [← e2] at i1
        rw [← e5, ← e3] at i4
        generalize T.step = U at *
        refine ⟨by rw [(Dev.hold_len U _).1, i1], by rw [(Dev.hold_len U _).2, i2], fun _ => by rw [← i2]; omega, fun l h1 h2 hd => ?_⟩
        unfold Dev.hold
        by_cases hl : l = a + m
        · subst hl
          rw [if_pos (by rw [i2]; exact hd)]
          dsimp only
          refine ⟨by rw [getD_setB _ _ _ _ (by rw [hw.lenP]; exact hj), if_pos rfl], ?_⟩
          rw [seg_splice _ _ _ (seg_length _ _ (by omega)) (by rw [hw.lenF]; omega), i1]
        · have := i4 l h1 (by omega) hd
          have hll : l < U.dirty.length := by
            rcases Nat.lt_or_ge l U.dirty.length with h | h
            · exact h
            · rw [← i2, getD_false_of h] at hd; cases hd
          split
          · dsimp only
            refine ⟨by rw [getD_setB _ _ _ _ (by rw [hw.lenP]; exact hj), if_neg hl]; exact this.1, ?_⟩
            rw [← this.2]
            have hs := seg_length U.cache (a + m) (by omega)
            refine (seg_eq_iff _ _ _ (by rw [length_splice _ _ _ (by rw [hs, hw.lenF]; omega), hw.lenF]; omega) (by rw [hw.lenF]; omega)).2 (fun i h3 h4 => ?_)
            rw [splice_seg_getD _ _ _ _ (by rw [hw.lenF]; omega) (by omega), if_neg (by omega)]
          · exact this
      · rw [c2] at he
        simp at he

/-- What was persisted is clean; what was clean stays so. -/
theorem Dev.persist_clean {S : Dev} (h : S.inv) (p n : Nat) (hn : 0 < n) (he : (S.persist p n).err = 0) : (S.persist p n).dev.cache = S.cache ∧ p + n ≤ S.cache.length ∧ (S.persist p n).dev.dirty.length = S.dirty.length ∧
    (∀ j, p ≤ j → j < p + n → (S.persist p n).dev.dirty.getD (j / 8) false = false) ∧ ∀ l, S.dirty.getD l false = false → (S.persist p n).dev.dirty.getD l false = false := by
  unfold Dev.persist at he ⊢
  by_cases c1 : (p : Int) < 0 ∨ (n : Int) < 0 ∨ (S.cache.length : Int) < (p : Int) ∨ (S.cache.length : Int) - (p : Int) < (n : Int)
  · rw [if_pos c1] at he; simp at he
  rw [if_neg c1, if_pos (by omega)] at he ⊢
  unfold Dev.persistN at he ⊢
  generalize hA : ((p : Int) / 8).toNat = A at *
  generalize hM : (((p : Int) + (n : Int) - 1) / 8 - (p : Int) / 8 + 1).toNat = M at *
  by_cases c2 : (S.flushRun A M).err ≠ 0
  · rw [if_pos c2] at he; exact absurd he c2
  rw [if_neg c2] at he ⊢
  obtain ⟨i1, i2, i3, i4⟩ := Dev.flushRun_held h A M (by simpa using c2)
  have hinv := Dev.flushRun_inv h A M
  generalize (S.flushRun A M).dev = T at *
  dsimp only at he ⊢
  unfold Dev.fenceE at he
  cases c3 : T.stop
  · have f := Dev.fence_at hinv.wf c3
    refine ⟨f.cache.trans i1, by omega, by rw [f.lenD, i2], fun j h1 h2 => ?_, fun l hl => ?_⟩
    · rw [f.dirty, i2, i1]
      cases hd : S.dirty.getD (j / 8) false
      · rw [if_neg]
        rintro ⟨_, hp⟩
        have := hinv.pend _ hp
        rw [i2, hd] at this
        cases this
      · have := i4 (j / 8) (by omega) (by omega) hd
        have hl : j / 8 < S.dirty.length := by
          rcases Nat.lt_or_ge (j / 8) S.dirty.length with h | h
          · exact h
          · rw [getD_false_of h] at hd; cases hd
        rw [if_pos ⟨hl, this.1⟩, this.2]
        simp
    · rw [f.dirty, i2, if_neg]
      · exact hl
      · rintro ⟨_, hp⟩
        have := hinv.pend _ hp
        rw [i2, hl] at this
        cases this
  · rw [c3] at he
    simp at he

end Go.Proofs.Ytfedgcdkagngnaa

/- bman: Large, Release, Geometry, FreeBlocks, Longest. -/
namespace Go.Proofs.Ytfedgcdkagngnaa
open Go.RowKit
set_option linter.unusedVariables false

section
variable {P : Program} {C : World → Prop} {ops : Array Oper} {rest : List Oper} {o : Oper} {a : Act} {Q : Act → Prop}
end

end Go.Proofs.Ytfedgcdkagngnaa

/- bman: Release, Geometry, FreeBlocks, Longest. -/
namespace Go.Proofs.Ytfedgcdkagngnaa
open Go.RowKit
set_option linter.unusedVariables false

theorem aggGe : Agg Try.prog 39 #[.int .i64 0] := ⟨⟨_, Try.underlying39, rfl⟩, by kernel_rfl⟩
set_option maxHeartbeats 1000000 in
theorem bgeom_any {w : World} {X : MF} {n B : Nat} {m : Bm} (h : ManAt w X n B m) :
    Calls Try.prog 33 #[.pointer (some ⟨X.m, 0, none⟩)] w fun e w' => e = .returned (vgeom (B : Int)) ∧ Below w.heap.size w w' := by
  have HM := Lib.hid (Mem.one w #[.int .i64 0] 39)
  have c2 := (h.below HM.out.below).c2
  clear h
  unfold vgeom
  go_enter Try.func33, Try.ntmps33
  go_upto_region 1 with fail
  generalize w.alloc _ = w0 at *
  obtain ⟨q, hq⟩ : ∃ q, q = w.heap.size := ⟨_, rfl⟩
  rw [← hq] at HM ⊢
  have HQ := Lib.hid hq
  clear hq
  go_wp2_with (refine wpList_store_mem aggGe HM.out 0 rfl rfl rfl rfl rfl rfl rfl rfl ?_; intro w9 h9 _; have H9 := Lib.hid h9; clear h9)
  refine bodyPost_ret (results_cell_row rfl _ _ _ _ _ _ _ rfl (H9.out.exact 0 rfl) Try.underlying39 rfl (by kernel_rfl)) rfl ⟨rfl, H9.out.below⟩

end Go.Proofs.Ytfedgcdkagngnaa

/- alloc: an allocator in memory; New over blocks of which none is small. -/
namespace Go.Proofs.Ytfedgcdkagngnaa
open Go.RowKit
set_option linter.unusedVariables false

/-- Where an allocator lies. -/
structure AF where
  a : Nat
  X : MF
  U : SetF
  f : Nat
  mb : Nat
  R : List Nat
/-- What stays where it is. -/
def AF.fix (A : AF) : List Nat := A.a :: (A.X.list ++ A.U.list)
/-- All blocks. -/
def AF.list (A : AF) : List Nat := A.fix ++ A.R
/-- An allocator, as data. -/
structure Al where
  bm : Bm
  used : List Bool
  fl : FL

def alV (A : AF) (B : Nat) : Array Value := #[.pointer (some ⟨A.X.m, 0, none⟩), vdev A.X.F, .int .i64 (B : Int), vset A.U, .pointer (some ⟨A.f, 0, none⟩)]
abbrev valloc (A : AF) : Value := .pointer (some ⟨A.a, 0, none⟩)

structure AlAt (w : World) (A : AF) (n B : Nat) (m : Al) : Prop where
  head : w.heap[A.a]? = some (.cells (alV A B) 52 (0, 0))
  man : ManAt w A.X n B m.bm
  set : SetAt w A.U m.used
  free : FreeAt w A.f A.mb n A.R m.fl
  nd : A.fix.Nodup
  nR : ∀ b ∈ A.R, b ∉ A.fix
  lenU : m.used.length = m.bm.dev.cache.length

theorem AlAt.mem {w : World} {A : AF} {n B : Nat} {m : Al} (h : AlAt w A n B m) : ∀ k ∈ A.list, k < w.heap.size := by
  intro k hk
  simp only [AF.list, AF.fix, List.mem_append, List.mem_cons] at hk
  rcases hk with (rfl | hk | hk) | hk
  · exact (Array.getElem?_eq_some_iff.1 h.head).1
  · exact h.man.mem k hk
  · exact h.set.mem k hk
  · exact h.free.mem k hk
theorem AlAt.keep {w w' : World} {A : AF} {n B : Nat} {m : Al} (h : AlAt w A n B m) (hk : ∀ k ∈ A.list, w'.heap[k]? = w.heap[k]?) : AlAt w' A n B m :=
  ⟨(hk A.a (by simp [AF.list, AF.fix])).trans h.head, h.man.keep (fun k h => hk k (by simp [AF.list, AF.fix, h])), h.set.keep (fun k h => hk k (by simp [AF.list, AF.fix, h])), h.free.keep (fun k h => hk k (by simp [AF.list, h])), h.nd, h.nR, h.lenU⟩
theorem AlAt.below {w w' : World} {A : AF} {n B : Nat} {m : Al} (h : AlAt w A n B m) (hb : Below w.heap.size w w') : AlAt w' A n B m := h.keep (fun k hk => hb.block k (h.mem k hk))
theorem AlAt.c0 {w : World} {A : AF} {n B : Nat} {m : Al} (h : AlAt w A n B m) : w.cell? ⟨A.a, 0, none⟩ = some (.pointer (some ⟨A.X.m, 0, none⟩)) := cell_of_row _ _ 0 _ _ _ h.head
set_option maxHeartbeats 400000 in
theorem tlen_any {w : World} {p g c B : Nat} {F : Foot} {l : List Hd} (h : TabG w p g c F B l) :
    Calls Try.prog 18 #[.pointer (some ⟨p, 0, none⟩)] w fun e w' => e = .returned (.int .i64 (B : Int)) ∧ w = w' := by
  have c2 : w.cell? ⟨p, 2, none⟩ = some (.slice (some ⟨g, 0, none⟩) B c) := cell_of_row _ _ 2 _ _ _ h.head
  clear h
  go_enter Try.func18, Try.ntmps18
  go_wp2_with fail
  go_ret
  exact ⟨rfl, rfl⟩

/-- A new allocator. -/
def NewAl (w : World) (X : MF) (n B : Nat) (m : Bm) : Ending → World → Prop := fun e w' => ∃ A : AF, e = .returned (.tuple #[valloc A, .int .i64 0]) ∧ A.X = X ∧ AlAt w' A n B ⟨m, List.replicate m.dev.cache.length false, FL.empty⟩ ∧ Below w.heap.size w w' ∧ ∀ k ∈ A.list, k ∈ X.list ∨ w.heap.size ≤ k

set_option maxHeartbeats 4000000 in
set_option maxRecDepth 20000 in
theorem anew_free {w : World} {X : MF} {n B : Nat} {m : Bm} (h : ManAt w X n B m) (hB : B ≤ 1000) (hlen : 1 ≤ m.dev.cache.length) (hno : ∀ b : Nat, b < B → (hdGet m.list (b : Int)).k ≠ 1) :
    Calls Try.prog 17 #[vdev X.F, .pointer (some ⟨X.m, 0, none⟩), .slice none 0 0] w (NewAl w X n B m) := by
  have HM := Lib.hid h
  have HSm := Lib.hid h.dev.small
  have HNo := Lib.hid hno
  have HXm := Lib.hid h.mem
  have HPost : Hid (∀ A w', A.X = X → AlAt w' A n B ⟨m, List.replicate m.dev.cache.length false, FL.empty⟩ → Below w.heap.size w w' → (∀ k ∈ A.list, k ∈ X.list ∨ w.heap.size ≤ k) → NewAl w X n B m (.returned (.tuple #[valloc A, .int .i64 0])) w') := Lib.hid (fun A w' a b c d => ⟨A, rfl, a, b, c, d⟩)
  generalize NewAl w X n B m = Post at *
  clear h hno
  go_enter Try.func17, Try.ntmps17
  go_wp2_with fail
  refine (bgeom_any HM.out).mono ?_
  rintro e w1 ⟨rfl, hb1⟩
  have HM1 := Lib.hid (HM.out.below hb1)
  have HB1 := Lib.hid hb1
  clear hb1
  go_wp2_with fail
  refine (dlen_any HM1.out.dev).mono ?_
  rintro e w2 ⟨rfl, rfl⟩
  go_wp2_with fail
  refine (snew_any m.dev.cache.length hlen HSm.out _).mono ?_
  rintro e w2 ⟨U, rfl, hU2, hb2, hU3⟩
  have HM2 := Lib.hid (HM1.out.below hb2)
  have HB2 := Lib.hid (HB1.out.trans (hb2.mono HB1.out.size))
  have HU := Lib.hid hU2
  have HUn := Lib.hid (fun k hk => Nat.le_trans HB1.out.size (hU3 k hk))
  clear hU2 hb2 hU3 HM1
  go_wp2_with fail
  refine (fnew_any _).mono ?_
  rintro e w3 ⟨f, mb, rfl, hf3, hb3, hf4, hf5⟩
  have HM3 := Lib.hid (HM2.out.below hb3)
  have HB3 := Lib.hid (HB2.out.trans (hb3.mono HB2.out.size))
  have HU3 := Lib.hid (HU.out.below hb3)
  have HF := Lib.hid hf3
  have HFn : Hid (w2.heap.size ≤ f ∧ w2.heap.size ≤ mb) := Lib.hid ⟨hf4, hf5⟩
  have HW2 := Lib.hid HB2.out.size
  have HU2m := Lib.hid HU.out.mem
  clear hf3 hb3 hf4 hf5 HM2
  go_upto_region 2 with fail
  have hbx := below_alloc w3 (Obj.cells #[.pointer (some ⟨X.m, 0, none⟩), vdev X.F, .int .i64 (B : Int), vset U, .pointer (some ⟨f, 0, none⟩)] 52)
  have hhx := heap_alloc_new w3 (Obj.cells #[.pointer (some ⟨X.m, 0, none⟩), vdev X.F, .int .i64 (B : Int), vset U, .pointer (some ⟨f, 0, none⟩)] 52)
  obtain ⟨A, hA⟩ : ∃ A : AF, A = ⟨w3.heap.size, X, U, f, mb, [f, mb]⟩ := ⟨_, rfl⟩
  have HAA : Hid (A.X = X ∧ ∀ k ∈ A.list, k ∈ X.list ∨ w.heap.size ≤ k) := Lib.hid (by
    subst hA
    refine ⟨rfl, fun k hk => ?_⟩
    simp only [AF.list, AF.fix, List.mem_append, List.mem_cons, List.not_mem_nil, or_false] at hk
    have h1 := HW2.out
    have h2 := HB3.out.size
    have h3 := HFn.out
    rcases hk with (rfl | hk | hk) | rfl | rfl
    · right; exact h2
    · exact .inl hk
    · exact .inr (HUn.out k hk)
    · right; omega
    · right; omega)
  have HAt : Hid (AlAt (w3.alloc (Obj.cells #[.pointer (some ⟨X.m, 0, none⟩), vdev X.F, .int .i64 (B : Int), vset U, .pointer (some ⟨f, 0, none⟩)] 52)) A n B ⟨m, List.replicate m.dev.cache.length false, FL.empty⟩) := Lib.hid (by
    subst hA
    have h1 := HW2.out
    have h2 := HB3.out.size
    have h3 := HFn.out
    have hfm := HF.out.mem
    have hf1 := hfm f (by simp)
    have hf2 := hfm mb (by simp)
    obtain ⟨_, _, _, _, hne⟩ := id HF.out
    have hmbf : f ≠ mb := by obtain ⟨V, hV, _⟩ := id HF.out; exact hV.ne
    obtain ⟨ws, hws⟩ := id HU3.out
    have hune := hws.ne
    have hu1 := HU2m.out U.u (by simp [SetF.list])
    have hu2 := HU2m.out U.b (by simp [SetF.list])
    have hu3 := HUn.out U.u (by simp [SetF.list])
    have hu4 := HUn.out U.b (by simp [SetF.list])
    have hXl : ∀ k, w.heap.size ≤ k → k ∉ X.list := fun k hk hm => by have := HXm.out k hm; omega
    refine ⟨hhx, HM3.out.below hbx, HU3.out.below hbx, (HF.out.below hbx).mono (Nat.zero_le _), ?_, ?_, by simp⟩
    · show (w3.heap.size :: (X.list ++ [U.u, U.b])).Nodup
      rw [List.nodup_cons, List.nodup_append]
      refine ⟨?_, HM3.out.nd, by simpa using hune, ?_⟩
      · simp only [List.mem_append, List.mem_cons, List.not_mem_nil, or_false, not_or]
        exact ⟨hXl _ h2, by omega, by omega⟩
      · intro a ha b hb e
        subst e
        simp only [List.mem_cons, List.not_mem_nil, or_false] at hb
        rcases hb with rfl | rfl
        · exact hXl _ hu3 ha
        · exact hXl _ hu4 ha
    · intro b hb
      show b ∉ w3.heap.size :: (X.list ++ [U.u, U.b])
      simp only [List.mem_cons, List.mem_append, List.not_mem_nil, or_false, not_or] at hb ⊢
      rcases hb with rfl | rfl
      · exact ⟨by omega, hXl _ (by omega), by omega, by omega⟩
      · exact ⟨by omega, hXl _ (by omega), by omega, by omega⟩)
  have HB4 := Lib.hid (HB3.out.trans (hbx.mono HB3.out.size))
  have HAv : Hid (w3.heap.size = A.a) := Lib.hid (by rw [hA])
  have HXe : Hid (A.X = X) := Lib.hid HAA.out.1
  generalize w3.alloc _ = w4 at *
  rw [HAv.out]
  clear hA hbx hhx HM3 HU3 HF HU2m HUn HFn HW2 HM HXm HB3 HB2 HB1 HU HAv
  go_wp2_with fail
  go_loop [27] (fun i => i = .int .i64 0) (fun _ => 0)
  case atStart => rfl
  case round =>
    subst hrel
    go_wp2_with fail
    go_loopw [13] (fun bv wr => ∃ j : Nat, 1 ≤ j ∧ bv = .int .i64 (j : Int) ∧ Hid (AlAt wr A n B ⟨m, List.replicate m.dev.cache.length false, FL.empty⟩) ∧ Hid (Below w.heap.size w wr)) (fun bv _ => B - (intOf bv).toNat)
    case atStart => exact ⟨1, Nat.le_refl _, rfl, HAt, HB4⟩
    case round =>
      clear HAt HB4
      obtain ⟨j, hj1, rfl, HAt, HBw⟩ := hrel
      have c0 := HAt.out.man.c0
      rw [HXe.out] at c0
      have HMan : Hid (ManAt wr X n B m) := Lib.hid (by have := HAt.out.man; rw [HXe.out] at this; exact this)
      go_wp2_with fail
      refine (tlen_any HMan.out.tab).mono ?_
      rintro e w5 ⟨rfl, rfl⟩
      by_cases hlt : j < B
      · have HNk := Lib.hid (HNo.out j hlt)
        go_wp2_with fail
        refine (tget_any (HMan.out.tab.at (MF.notHot (MF.apart HMan.out.nd).t).1) (j : Int) (by rw [HMan.out.tab.len]; exact hB)).mono ?_
        rintro e w6 ⟨rfl, hb6⟩
        generalize hdGet m.list (j : Int) = hd at *
        obtain ⟨k, c, l⟩ := hd
        have hk1 : ((k : Int) == 1) = false := by simpa using HNk.out
        unfold Hd.val
        have hbx := below_alloc w6 (Obj.cells #[.int .i64 k, .int .i64 c, .int .i64 l] 73)
        have HA6 := Lib.hid ((HAt.out.below hb6).below hbx)
        have HB6 := Lib.hid ((HBw.out.trans (hb6.mono HBw.out.size)).trans (hbx.mono (Nat.le_trans HBw.out.size hb6.size)))
        clear hb6 hbx
        go_wp2_with fail
        go_roundw
        case rel => exact ⟨j + 1, by omega, vint (by omega), HA6, HB6⟩
        case measure => simp [intOf]; omega
      · have hlt' : decide (j < B) = false := by simp; omega
        go_wp2_with fail
        exact HPost.out A _ HXe.out HAt.out HBw.out HAA.out.2

end Go.Proofs.Ytfedgcdkagngnaa

/- dump: sign, Map; the document's. -/
namespace Go.Proofs.Ytfedgcdkagngnaa
open Go.RowKit
set_option linter.unusedVariables false

/-- A block's sign. -/
def signB (h : Hd) : UInt8 :=
  if h.k = 2 then 35 else if h.k = 3 then 43 else if h.k = 1 then (if h.c < 26 then UInt8.ofNat (97 + h.c.toNat) else UInt8.ofNat (65 + (h.c.toNat - 26))) else 46
/-- Small blocks have a class. -/
def Hd.fine (h : Hd) : Prop := h.k = 1 → 0 ≤ h.c ∧ h.c < 32
def ByteOut (v : UInt8) (w : World) : Ending → World → Prop := fun e w' => e = .returned (.int .u8 (v.toNat : Int)) ∧ Below w.heap.size w w'
theorem byteOut {v : UInt8} {w w' : World} {x : Int} (h : x = (v.toNat : Int)) (hb : Below w.heap.size w w') : ByteOut v w (.returned (.int .u8 x)) w' := by rw [h]; exact ⟨rfl, hb⟩

set_option maxHeartbeats 2000000 in
set_option maxRecDepth 20000 in
theorem dsign_any {w : World} {A : AF} {n B : Nat} {m : Al} (h : AlAt w A n B m) (hB : B ≤ 1000) (b : Int) (hf : (hdGet m.bm.list b).fine) :
    Calls Try.prog 20 #[valloc A, .int .i64 b] w (ByteOut (signB (hdGet m.bm.list b)) w) := by
  have HA := Lib.hid h
  have c0 := h.c0
  have d0 := h.man.c0
  have HT := Lib.hid (h.man.tab.at (MF.notHot (MF.apart h.man.nd).t).1)
  have HL : Hid (m.bm.list.length ≤ 1000) := Lib.hid (by rw [h.man.tab.len]; exact hB)
  clear h
  go_enter Try.func20, Try.ntmps20
  go_wp2_with fail
  refine (tget_any HT.out b HL.out).mono ?_
  rintro e w1 ⟨rfl, hb1⟩
  have HP : Hid (∀ (x : Int) (w' : World), x = ((signB (hdGet m.bm.list b)).toNat : Int) → Below w.heap.size w w' → ByteOut (signB (hdGet m.bm.list b)) w (.returned (.int .u8 x)) w') := Lib.hid (fun x w' h1 h2 => byteOut h1 h2)
  generalize ByteOut (signB (hdGet m.bm.list b)) w = Post at *
  generalize hdGet m.bm.list b = hd at *
  obtain ⟨k, c, l⟩ := hd
  unfold Hd.val
  have hbx := below_alloc w1 (Obj.cells #[.int .i64 k, .int .i64 c, .int .i64 l] 73)
  have HB := Lib.hid (hb1.trans (hbx.mono hb1.size))
  have HS : Hid (signB ⟨k, c, l⟩ = if k = 2 then 35 else if k = 3 then 43 else if k = 1 then (if c < 26 then UInt8.ofNat (97 + c.toNat) else UInt8.ofNat (65 + (c.toNat - 26))) else 46) := Lib.hid rfl
  unfold Hd.fine at hf
  dsimp only at hf ⊢
  generalize signB ⟨k, c, l⟩ = s at *
  clear hb1 hbx c0 d0
  by_cases k2 : k = 2
  · have HV : Hid (s = 35) := Lib.hid (by rw [HS.out, if_pos k2])
    clear hf HS
    subst k2
    go_wp2_with fail
    exact HP.out _ _ (by rw [HV.out]; rfl) HB.out
  have k2' : ((k : Int) == 2) = false := by simpa using k2
  by_cases k3 : k = 3
  · have HV : Hid (s = 43) := Lib.hid (by rw [HS.out, if_neg k2, if_pos k3])
    clear hf HS k2
    subst k3
    go_wp2_with fail
    exact HP.out _ _ (by rw [HV.out]; rfl) HB.out
  have k3' : ((k : Int) == 3) = false := by simpa using k3
  by_cases k1 : k = 1
  · obtain ⟨hc0, hc1⟩ := hf k1
    by_cases hc : c < 26
    · have HV : Hid (s = UInt8.ofNat (97 + c.toNat)) := Lib.hid (by rw [HS.out, if_neg k2, if_neg k3, if_pos k1, if_pos hc])
      clear hf HS k2 k3
      subst k1
      go_wp2_with fail
      refine HP.out _ _ ?_ HB.out
      rw [HV.out, UInt8.toNat_ofNat']
      omega
    · have hc' : 26 ≤ c := by omega
      have HV : Hid (s = UInt8.ofNat (65 + (c.toNat - 26))) := Lib.hid (by rw [HS.out, if_neg k2, if_neg k3, if_pos k1, if_neg hc])
      clear hf HS k2 k3
      subst k1
      go_wp2_with fail
      refine HP.out _ _ ?_ HB.out
      rw [HV.out, UInt8.toNat_ofNat']
      omega
  · have k1' : ((k : Int) == 1) = false := by simpa using k1
    have HV : Hid (s = 46) := Lib.hid (by rw [HS.out, if_neg k2, if_neg k3, if_neg k1])
    clear hf HS
    go_wp2_with fail
    exact HP.out _ _ (by rw [HV.out]; rfl) HB.out

/-- Is a line's end behind a block? -/
def nlB (wd : Int) (b B : Nat) : Prop := 0 < wd ∧ (b : Int) % wd = 0 ∧ (b : Int) < (B : Int) - 1
instance (wd : Int) (b B : Nat) : Decidable (nlB wd b B) := by unfold nlB; infer_instance
/-- The map of so many blocks. -/
def mapTo (l : List Hd) (B : Nat) (wd : Int) : Nat → List UInt8
  | 0 => []
  | i + 1 => mapTo l B wd i ++ (signB (hdGet l ((i + 1 : Nat) : Int)) :: (if nlB wd (i + 1) B then [10] else []))
theorem mapTo_len (l : List Hd) (B : Nat) (wd : Int) (i : Nat) : (mapTo l B wd i).length ≤ 2 * i := by
  induction i with
  | zero => simp [mapTo]
  | succ i ih => simp only [mapTo, List.length_append, List.length_cons]; split <;> simp <;> omega

set_option maxHeartbeats 4000000 in
set_option maxRecDepth 20000 in
theorem dmap_any {w : World} {A : AF} {n B : Nat} {m : Al} (h : AlAt w A n B m) (hB1 : 1 ≤ B) (hB : B ≤ 1000) (wd : Int) (hf : ∀ b : Nat, (hdGet m.bm.list (b : Int)).fine) :
    Calls Try.prog 10 #[valloc A, .int .i64 wd] w (Gives (strV (mapTo m.bm.list B wd (B - 1))) w) := by
  have HP : Hid (∀ w', Below w.heap.size w w' → Gives (strV (mapTo m.bm.list B wd (B - 1))) w (.returned (strV (mapTo m.bm.list B wd (B - 1)))) w') := Lib.hid (fun w' h => ⟨rfl, h⟩)
  generalize Gives (strV (mapTo m.bm.list B wd (B - 1))) w = Post at *
  have HA := Lib.hid h
  have HF := Lib.hid hf
  have HB0 := Lib.hid (below_alloc w (.cells #[.pointer none, .slice none 0 0] 55))
  have HD0 := Lib.hid (bld_fresh w)
  clear h hf
  go_enter Try.func10, Try.ntmps10
  go_upto_region 2 with fail
  generalize w.alloc _ = w0 at *
  obtain ⟨q, hq⟩ : ∃ q, q = w.heap.size := ⟨_, rfl⟩
  rw [← hq] at HB0 HD0 ⊢
  have HQ := Lib.hid hq
  clear hq
  go_wp2_with fail
  go_loopw [6] (fun iv wr => ∃ b : Nat, 1 ≤ b ∧ b ≤ B ∧ iv = .int .i64 (b : Int) ∧ Hid (Bld q q (mapTo m.bm.list B wd (b - 1)) wr) ∧ Hid (Below q w wr)) (fun iv _ => B - (intOf iv).toNat)
  case atStart => exact ⟨1, Nat.le_refl _, hB1, rfl, HD0, HB0⟩
  case round =>
    clear HB0 HD0
    obtain ⟨b, hb1, hbB, rfl, HD, HBw⟩ := hrel
    have HAr := Lib.hid (HA.out.below (by rw [← HQ.out]; exact HBw.out))
    have c0 := HAr.out.c0
    have d0 := HAr.out.man.c0
    have HLen := Lib.hid (mapTo_len m.bm.list B wd (b - 1))
    have HStep : Hid (mapTo m.bm.list B wd b = mapTo m.bm.list B wd (b - 1) ++ (signB (hdGet m.bm.list (b : Int)) :: (if nlB wd b B then [10] else []))) := Lib.hid (by obtain ⟨c, rfl⟩ : ∃ c, b = c + 1 := ⟨b - 1, by omega⟩; rfl)
    have HQs : Hid (q ≤ wr.heap.size) := Lib.hid (by rw [HQ.out]; exact HBw.out.size)
    by_cases hlt : b < B
    · go_wp2_with fail
      refine (tlen_any HAr.out.man.tab).mono ?_
      rintro e w1 ⟨rfl, rfl⟩
      go_wp2_with fail
      refine (dsign_any HAr.out hB (b : Int) (HF.out b)).mono ?_
      rintro e w1 ⟨rfl, hb1⟩
      have HB1 := Lib.hid (HBw.out.trans (hb1.mono HQs.out))
      have HD1 := Lib.hid (bld_keep HD.out hb1)
      have HA1 := Lib.hid (HAr.out.below hb1)
      have HQ1 : Hid (q ≤ w1.heap.size) := Lib.hid (Nat.le_trans HQs.out hb1.size)
      clear hb1
      obtain ⟨T2, hT2⟩ : ∃ T2, T2 = mapTo m.bm.list B wd b := ⟨_, rfl⟩
      rw [← hT2] at HStep
      have HTe := Lib.hid hT2
      clear hT2
      generalize mapTo m.bm.list B wd (b - 1) = T at *
      generalize signB (hdGet m.bm.list (b : Int)) = s at *
      go_wp2_with fail
      refine (bbyte_any q q T s _ HD1.out (by have := HLen.out; omega) HQ1.out).mono ?_
      rintro e w2 ⟨rfl, hd2, hb2⟩
      have HB2 := Lib.hid (HB1.out.trans hb2)
      have HD2 := Lib.hid hd2
      have HA2 := Lib.hid (HA.out.below (by rw [← HQ.out]; exact HB2.out))
      have HQ2 : Hid (q ≤ w2.heap.size) := Lib.hid (by rw [HQ.out]; exact HB2.out.size)
      have c2 := HA2.out.c0
      have d2 := HA2.out.man.c0
      clear hd2 hb2 c0 d0 HA1 HD1 HB1 HQ1
      by_cases hw : 0 < wd
      · cases hm : ((b : Int) % wd == 0) with
        | true =>
          by_cases hl : (b : Int) < (B : Int) - 1
          · have HT2 : Hid (T2 = (T ++ [s]) ++ [10]) := Lib.hid (by rw [HStep.out, if_pos ⟨hw, by simpa using hm, hl⟩]; simp)
            clear HStep
            go_wp2_with fail
            refine (tlen_any HA2.out.man.tab).mono ?_
            rintro e w3 ⟨rfl, rfl⟩
            go_wp2_with fail
            refine (bbyte_any q q (T ++ [s]) 10 _ HD2.out (by have := HLen.out; simp; omega) HQ2.out).mono ?_
            rintro e w4 ⟨rfl, hd4, hb4⟩
            have HB4 := Lib.hid (HB2.out.trans hb4)
            have HD4 : Hid (Bld q q T2 w4) := Lib.hid (by rw [HT2.out]; exact hd4)
            clear hd4 hb4
            go_wp2_with fail
            go_roundw
            case rel => exact ⟨b + 1, by omega, by omega, vint (by omega), by rw [Nat.add_sub_cancel, ← HTe.out]; exact HD4, HB4⟩
            case measure => simp [intOf]; omega
          · have HT2 : Hid (Bld q q T2 w2) := Lib.hid (by rw [HStep.out, if_neg (fun h => hl h.2.2)]; exact HD2.out)
            clear HStep
            have hl' : (B : Int) - 1 ≤ (b : Int) := by omega
            go_wp2_with fail
            refine (tlen_any HA2.out.man.tab).mono ?_
            rintro e w3 ⟨rfl, rfl⟩
            go_wp2_with fail
            go_roundw
            case rel => exact ⟨b + 1, by omega, by omega, vint (by omega), by rw [Nat.add_sub_cancel, ← HTe.out]; exact HT2, HB2⟩
            case measure => simp [intOf]; omega
        | false =>
          have HT2 : Hid (Bld q q T2 w2) := Lib.hid (by rw [HStep.out, if_neg (fun h => by have := h.2.1; rw [this] at hm; cases hm)]; exact HD2.out)
          clear HStep
          go_wp2_with fail
          go_roundw
          case rel => exact ⟨b + 1, by omega, by omega, vint (by omega), by rw [Nat.add_sub_cancel, ← HTe.out]; exact HT2, HB2⟩
          case measure => simp [intOf]; omega
      · have HT2 : Hid (Bld q q T2 w2) := Lib.hid (by rw [HStep.out, if_neg (fun h => hw h.1)]; exact HD2.out)
        clear HStep
        have hw' : wd ≤ 0 := by omega
        go_wp2_with fail
        go_roundw
        case rel => exact ⟨b + 1, by omega, by omega, vint (by omega), by rw [Nat.add_sub_cancel, ← HTe.out]; exact HT2, HB2⟩
        case measure => simp [intOf]; omega
    · obtain rfl : b = B := by omega
      have hlt' : decide (b < b) = false := by simp
      clear HStep HLen
      generalize mapTo m.bm.list b wd (b - 1) = T at *
      go_wp2_with fail
      refine (tlen_any HAr.out.man.tab).mono ?_
      rintro e w1 ⟨rfl, rfl⟩
      go_wp2_with fail
      refine (bstring_any q q T _ HD.out HQs.out).mono ?_
      rintro e w4 ⟨rfl, hb4⟩
      have HB4 := Lib.hid (HBw.out.trans hb4)
      clear hb4
      go_wp2_with fail
      exact HP.out _ (by rw [← HQ.out]; exact HB4.out)

end Go.Proofs.Ytfedgcdkagngnaa

/- The reference's device: step, lines, flags. -/
namespace Go.Proofs.Ytfedgcdkagngnaa
open Go.RowKit
set_option linter.unusedVariables false

end Go.Proofs.Ytfedgcdkagngnaa

/- The reference's device: Store, Flush. -/
namespace Go.Proofs.Ytfedgcdkagngnaa
open Go.RowKit
set_option linter.unusedVariables false

end Go.Proofs.Ytfedgcdkagngnaa

/- The reference's device: Flush. -/
namespace Go.Proofs.Ytfedgcdkagngnaa
open Go.RowKit
set_option linter.unusedVariables false

end Go.Proofs.Ytfedgcdkagngnaa

/- The reference's device: Fence. -/
namespace Go.Proofs.Ytfedgcdkagngnaa
open Go.RowKit
set_option linter.unusedVariables false

end Go.Proofs.Ytfedgcdkagngnaa

/- The reference's device: Persist, New. -/
namespace Go.Proofs.Ytfedgcdkagngnaa
open Go.RowKit
set_option linter.unusedVariables false

end Go.Proofs.Ytfedgcdkagngnaa

/- nvm: Lines, Steps, Dead, All, Arm; the reference's: Dirty, All, New; slices compared. -/
namespace Go.Proofs.Ytfedgcdkagngnaa
open Go.RowKit
set_option linter.unusedVariables false

end Go.Proofs.Ytfedgcdkagngnaa

/- nvm: Lasting. -/
namespace Go.Proofs.Ytfedgcdkagngnaa
open Go.RowKit
set_option linter.unusedVariables false

end Go.Proofs.Ytfedgcdkagngnaa

/- law03: Same. -/
namespace Go.Proofs.Ytfedgcdkagngnaa
open Go.RowKit
set_option linter.unusedVariables false

end Go.Proofs.Ytfedgcdkagngnaa

/- Plain: two devices that only differ in what no one sees; calls keep them alike. -/
namespace Go.Proofs.Ytfedgcdkagngnaa
set_option linter.unusedVariables false

theorem nat_ext {a b : List Nat} (hl : a.length = b.length) (h : ∀ i, a.getD i 0 = b.getD i 0) : a = b := by
  apply List.ext_getElem hl
  intro i h1 h2
  have := h i
  simpa [h1, h2] using this
theorem bool_ext {a b : List Bool} (hl : a.length = b.length) (h : ∀ i, a.getD i false = b.getD i false) : a = b := by
  apply List.ext_getElem hl
  intro i h1 h2
  have := h i
  simpa [h1, h2] using this

end Go.Proofs.Ytfedgcdkagngnaa

/- Plain: what was put lasts through every crash. -/
namespace Go.Proofs.Ytfedgcdkagngnaa
set_option linter.unusedVariables false

/-- All headers' words last. -/
structure Clean (S : Dev) (B : Nat) : Prop where
  inv : S.inv
  fits : 256 + B ≤ S.cache.length
  clean : ∀ b, 1 ≤ b → b < B → S.dirty.getD ((256 + b) / 8) false = false

theorem fmtTo_inv {S : Dev} (h : S.inv) (k : Nat) : (S.fmtTo k).inv := by
  induction k with
  | zero => exact h
  | succ k ih =>
    unfold Dev.fmtTo
    split
    · exact h
    · exact Dev.store_inv ih _ _ (encN_lt _ _ _ _)
theorem fmt_clean {S : Dev} (h : S.inv) (hv : S.live) (ho : S.ok 100) {B : Nat} (hB2 : 2 ≤ B) (hlen : 256 + B ≤ S.cache.length) : Clean (S.fmt B) B := by
  obtain ⟨p1, p2, p3, p5, p4⟩ := fmtTo_props hv ho B hlen
  have he := (p1.persist 257 (B - 1) (by omega) (by rw [p3, p5]; exact h.wf.lenD) (by rw [p3]; omega)).1
  unfold Dev.fmt
  rw [show ((B : Int) - 1) = ((B - 1 : Nat) : Int) by omega]
  rw [show ((257 : Nat) : Int) = 257 from rfl] at he
  have hi := fmtTo_inv h B
  obtain ⟨q1, q2, q3, q4, q5⟩ := Dev.persist_clean hi 257 (B - 1) (by omega) he
  rw [show ((257 : Nat) : Int) = 257 from rfl] at q1 q4
  exact ⟨Dev.persist_inv hi _ _, by rw [q1, p3]; exact hlen, fun b h1 h2 => q4 (256 + b) (by omega) (by omega)⟩

end Go.Proofs.Ytfedgcdkagngnaa

/- Plain: managers whose headers last; what calls do to them; what a crash leaves. -/
namespace Go.Proofs.Ytfedgcdkagngnaa
set_option linter.unusedVariables false

section
variable {S : Dev} {i : Nat} {V : Nat → Prop}
end

end Go.Proofs.Ytfedgcdkagngnaa

/- bman: Open. -/
namespace Go.Proofs.Ytfedgcdkagngnaa
open Go.RowKit
set_option linter.unusedVariables false

/-- A manager, as it is opened. -/
def bmOf (S : Dev) (B : Nat) : Bm := ⟨S, hds (devWord S) B, freeL (freeAt (hds (devWord S) B)) B B⟩

def OpenBm (w : World) (F : Foot) (S : Dev) (B : Nat) : Ending → World → Prop := fun e w' => Below w.heap.size w w' ∧
  ((AllOk (devWord S) B ∧ soundN (hds (devWord S) B) B 1 = 0 ∧ ∃ (X : MF) (n : Nat), e = .returned (.tuple #[.pointer (some ⟨X.m, 0, none⟩), .int .i64 0]) ∧ X.F = F ∧ ManAt w' X n B (bmOf S B) ∧ n ≤ 1000000 ∧
      (∀ k ∈ X.list, k ∈ F.list ∨ w.heap.size ≤ k)) ∨
   (AllOk (devWord S) B ∧ soundN (hds (devWord S) B) B 1 ≠ 0 ∧ e = .returned (.tuple #[.pointer none, .int .i64 40])) ∨
   (¬ AllOk (devWord S) B ∧ e = .returned (.tuple #[.pointer none, .int .i64 21])))

theorem bspans_fill (l : List Hd) (B : Nat) (h : l.length = B) : fillR (op2s (spansOf l)) (List.replicate B false) = (freeL (freeAt l) B B, 0) := by
  unfold spansOf
  rw [h]
  exact fill_spans (freeAt l) B B (Nat.le_refl _)

set_option maxHeartbeats 4000000 in
set_option maxRecDepth 20000 in
theorem bopen_any {w : World} {F : Foot} {S : Dev} (h : DevAt w F S) (B : Nat) (hB1 : 1 ≤ B) (hB : B ≤ 1000) :
    Calls Try.prog 16 #[vdev F, vgeom B] w (OpenBm w F S B) := by
  have HM := Lib.hid (Mem.one w #[.int .i64 (B : Int)] 39)
  have HD := Lib.hid (h.below HM.out.below)
  have HMF := Lib.hid h.mem
  have HNF := Lib.hid h.nodup
  have HL : Hid ((hds (devWord S) B).length = B) := Lib.hid (hds_length _ _)
  have HFill := Lib.hid (bspans_fill (hds (devWord S) B) B HL.out)
  have HBm : Hid (bmOf S B = ⟨S, hds (devWord S) B, freeL (freeAt (hds (devWord S) B)) B B⟩) := Lib.hid rfl
  have HFl : Hid ((freeL (freeAt (hds (devWord S) B)) B B).length = B) := Lib.hid (freeL_len _ _ _)
  have HPE : Hid (OpenBm w F S B = fun e w' => Below w.heap.size w w' ∧
  ((AllOk (devWord S) B ∧ soundN (hds (devWord S) B) B 1 = 0 ∧ ∃ (X : MF) (n : Nat), e = .returned (.tuple #[.pointer (some ⟨X.m, 0, none⟩), .int .i64 0]) ∧ X.F = F ∧ ManAt w' X n B (bmOf S B) ∧ n ≤ 1000000 ∧
      (∀ k ∈ X.list, k ∈ F.list ∨ w.heap.size ≤ k)) ∨
   (AllOk (devWord S) B ∧ soundN (hds (devWord S) B) B 1 ≠ 0 ∧ e = .returned (.tuple #[.pointer none, .int .i64 40])) ∨
   (¬ AllOk (devWord S) B ∧ e = .returned (.tuple #[.pointer none, .int .i64 21])))) := Lib.hid rfl
  generalize hP : OpenBm w F S B = Post at *
  clear h hP
  go_enter Try.func16, Try.ntmps16
  go_upto_region 1 with fail
  generalize hw0 : w.alloc _ = w0 at *
  clear hw0
  obtain ⟨q, hq⟩ : ∃ q, q = w.heap.size := ⟨_, rfl⟩
  rw [← hq] at HM ⊢
  have HQ := Lib.hid hq
  clear hq
  have c0 := HM.out.cell 0 0 rfl rfl
  unfold vdev at *
  go_wp2_with fail
  refine (open_tabG HD.out B hB1 hB).mono ?_
  rintro e w1 ⟨hb1, ⟨hok, p, g, cc, rfl, hp, hg, hpg, htab⟩ | ⟨b, hb0, hbB, hok, hbad, rfl⟩⟩
  case inr =>
    have HE : Hid (¬ AllOk (devWord S) B) := Lib.hid (fun h => hbad (h b hb0 hbB))
    have HB1 := Lib.hid (HM.out.later hb1)
    clear hok hbad hb1
    go_wp2_with fail
    rw [HPE.out]
    exact ⟨HB1.out.below, .inr (.inr ⟨HE.out, rfl⟩)⟩
  have HM1 := Lib.hid (HM.out.later hb1)
  have HD1 := Lib.hid (HD.out.below hb1)
  have HT1 := Lib.hid htab
  have HOK := Lib.hid hok
  have HG : Hid (w0.heap.size ≤ p ∧ w0.heap.size ≤ g ∧ p ≠ g) := Lib.hid ⟨hp, hg, hpg⟩
  have HW0 : Hid (w.heap.size + 1 ≤ w0.heap.size) := Lib.hid (by have := HM.out.glt 0 rfl; have := HQ.out; omega)
  clear hb1 htab hok hp hg hpg c0 HM HD
  generalize hds (devWord S) B = L at *
  go_wp2_with fail
  refine (tall_any HT1.out hB).mono ?_
  rintro e w2 ⟨a2, k2, rfl, hq2, hk2, hr2, hb2⟩
  have HM2 := Lib.hid (HM1.out.later hb2)
  have HD2 := Lib.hid (HD1.out.below hb2)
  have HT2 := Lib.hid (HT1.out.keep (hb2.block p HT1.out.lt.1) (hb2.block g HT1.out.lt.2))
  have HR2 := Lib.hid hr2
  clear hq2 hk2 hr2 hb2 HM1 HD1 HT1
  go_wp2_with fail
  refine (bsound_any _ B k2 L HL.out w2 HR2.out.cells hB).mono ?_
  rintro e w3 ⟨rfl, hb3⟩
  rw [HL.out]
  have HM3 := Lib.hid (HM2.out.later hb3)
  have HD3 := Lib.hid (HD2.out.below hb3)
  have HT3 := Lib.hid (HT2.out.keep (hb3.block p HT2.out.lt.1) (hb3.block g HT2.out.lt.2))
  clear hb3 HM2 HD2 HT2 HR2
  obtain ⟨sn, hsn⟩ : ∃ sn, sn = soundN L B 1 := ⟨_, rfl⟩
  rw [← hsn] at HPE ⊢
  clear hsn
  by_cases hs : sn = 0
  case neg =>
    have hs' : decide (sn = 0) = false := by simpa using hs
    rw [hs']
    have HS := Lib.hid hs
    clear hs hs'
    go_wp2_with fail
    rw [HPE.out]
    exact ⟨HM3.out.below, .inr (.inl ⟨HOK.out, HS.out, rfl⟩)⟩
  have hs' : decide (sn = 0) = true := by simpa using hs
  rw [hs']
  have HS := Lib.hid hs
  clear hs hs'
  have c0 := HM3.out.cell 0 0 rfl rfl
  go_upto_region 7 with fail
  have r0 := fun x => later_cell c0 x
  clear c0
  refine wp_region_seg (C := fun w' => ∃ x : Later (w3), w' = x.val) [.fl [0, 1, 2], .sq [3] true, .sq [4, 5] false, .fl [6, 7, 8], .sq [9] false] (by kernel_rfl) (by kernel_rfl) (by intro c a d v w h; cases d <;> exact h) ?_
  simp only [segs, picks, List.getElem?_cons_succ, List.getElem?_cons_zero]
  have hC1 := later_drew (w3)
  refine wpSeg_fl hC1 ?_
  repeat (first | go_big_quiet_step (fail) | quiet_step (fail))
  refine wpQuiet_nil ?_
  refine wpSeg_sq (fun K hK => ?_)
  go_wp2_with fail
  refine (tspans_any ((HT3.out.keep ((later_below hC1).block p HT3.out.lt.1) ((later_below hC1).block g HT3.out.lt.2)).at HG.out.2.2) (by rw [HL.out]; exact hB)).mono ?_
  rintro e w4 ⟨v, rfl, ho4, hb4⟩
  have hC2 := later_step hC1 hb4
  obtain ⟨a4, c4, rfl, _, hm4⟩ := owned_form ho4
  have HC4 : Hid (Cells w4 a4 (recs Op2.cs (op2s (spansOf L)))) := Lib.hid (by rw [op2s_cs]; exact Cells.owned2 ho4)
  have HSl : Hid ((op2s (spansOf L)).length = (spansOf L).length) := Lib.hid (by simp [op2s])
  have HSl2 : Hid ((spansOf L).length ≤ 1000000) := Lib.hid (by
    have := spanL_len (freeAt L) L.length
    unfold spansOf
    rw [HL.out] at this ⊢
    omega)
  generalize (spansOf L).length = nl at *
  clear ho4 hb4 hm4
  go_wp2_with fail
  refine hK _ _ (fun _ => hC2) ?_
  clear hK K
  refine wpSeg_sq (fun K hK => ?_)
  go_wp2_with fail
  refine (ifill_any (B : Int) (by omega) a4 nl c4 (op2s (spansOf L)) HSl.out _ HC4.out HSl2.out).mono ?_
  rw [show (B : Int).toNat = B from rfl, HFill.out]
  rintro e w5 ⟨hb5, ⟨_, T, kk, rfl, hix, hkk, hT⟩ | ⟨hne, _⟩⟩
  case inr => exact absurd rfl hne
  have hC3 := later_step hC2 hb5
  have HIx := Lib.hid hix
  have HTt := Lib.hid hT
  have HW4 : Hid (w3.heap.size ≤ w4.heap.size) := Lib.hid ((later_below hC2).size)
  clear hix hT hb5 HC4 HSl HSl2
  go_wp2_with fail
  refine hK _ _ (fun _ => hC3) ?_
  clear hK K
  refine wpSeg_fl hC3 ?_
  repeat (first | go_big_quiet_step (fail) | quiet_step (fail))
  refine wpQuiet_nil ?_
  have HM5 := Lib.hid (HM3.out.later (later_below hC3))
  have HD5 := Lib.hid (HD3.out.below (later_below hC3))
  have HT5 := Lib.hid (HT3.out.keep ((later_below hC3).block p HT3.out.lt.1) ((later_below hC3).block g HT3.out.lt.2))
  have HFl3 : Hid (∀ k ∈ F.list, k < w.heap.size) := HMF
  have HT3l : Hid (p < w3.heap.size ∧ g < w3.heap.size) := Lib.hid HT3.out.lt
  have c0 := HM5.out.cell 0 0 rfl rfl
  clear hC1 hC2 hC3 r0 HM3 HD3 HT3
  refine wpSeg_last ?_
  go_wp2_with fail
  rw [HPE.out]
  have hbx := below_alloc w5 (.cells #[.pointer (some ⟨p, 0, none⟩), .pointer (some ⟨T.p, 0, none⟩), .int .i64 (B : Int)] 59)
  have hTl := HIx.out.mem
  have hsz := HW4.out
  obtain ⟨hG1, hG2, hG3⟩ := HG.out
  have hW0 := HW0.out
  have h3 := HT3l.out
  have hw05 : w0.heap.size ≤ w5.heap.size := by have := HT5.out.lt; omega
  refine ⟨HM5.out.below.trans (hbx.mono HM5.out.below.size), .inl ⟨HOK.out, HS.out, ⟨w5.heap.size, p, g, cc, F, T⟩, kk, rfl, rfl, ?_, hkk, ?_⟩⟩
  · rw [HBm.out]
    refine ⟨heap_alloc_new _ _, HT5.out.keep (hbx.block p HT5.out.lt.1) (hbx.block g HT5.out.lt.2), HD5.out.below hbx, HIx.out.below hbx, HFl.out, ?_⟩
    obtain ⟨M, E, hmp, _⟩ := HIx.out
    have e1 := hmp.ne1
    have e2 := hmp.ne2
    have e3 := hmp.ne3
    have t1 := HTt.out T.p (by simp [Tri.list])
    have t2 := HTt.out T.s (by simp [Tri.list])
    have t3 := HTt.out T.e (by simp [Tri.list])
    have l1 := hTl T.p (by simp [Tri.list])
    have l2 := hTl T.s (by simp [Tri.list])
    have l3 := hTl T.e (by simp [Tri.list])
    have lp := HT5.out.lt
    have hF : ∀ k, w.heap.size ≤ k → k ∉ F.list := fun k hk hm => by have := HFl3.out k hm; omega
    simp only [MF.list, List.nodup_cons, List.mem_cons, not_or]
    refine ⟨⟨by omega, by omega, by omega, by omega, by omega, hF _ (by omega)⟩, ⟨by omega, by omega, by omega, by omega, hF _ (by omega)⟩, ⟨by omega, e1, e2, hF _ (by omega)⟩, ⟨by omega, by omega, hF _ (by omega)⟩, ⟨e3, hF _ (by omega)⟩, hF _ (by omega), HNF.out⟩
  · intro k hk
    have t1 := HTt.out T.p (by simp [Tri.list])
    have t2 := HTt.out T.s (by simp [Tri.list])
    have t3 := HTt.out T.e (by simp [Tri.list])
    simp only [MF.list, List.mem_cons] at hk
    rcases hk with rfl | rfl | rfl | rfl | rfl | rfl | hk
    · right; omega
    · right; omega
    · right; omega
    · right; omega
    · right; omega
    · right; omega
    · exact .inl hk

end Go.Proofs.Ytfedgcdkagngnaa

/- Plain: a device that was made and formatted, its blocks. -/
namespace Go.Proofs.Ytfedgcdkagngnaa
open Go.RowKit
set_option linter.unusedVariables false

theorem fmtTo_dirty {S : Dev} (hS : ∀ l, S.dirty.getD l false = false) (hD : S.cache.length = 8 * S.dirty.length) : ∀ k l, (∀ b, 1 ≤ b → b < k → (256 + b) / 8 ≠ l) → (S.fmtTo k).dirty.getD l false = false
  | 0, l, _ => hS l
  | k + 1, l, h => by
    have ih := fmtTo_dirty hS hD k l (fun b h1 h2 => h b h1 (by omega))
    unfold Dev.fmtTo
    split
    · exact hS l
    · rename_i hk
      unfold Dev.store
      by_cases c : (((256 + k : Nat) : Int)) < 0 ∨ (((S.fmtTo k).cache.length : Nat) : Int) ≤ ((256 + k : Nat) : Int)
      · rw [if_pos c]; exact ih
      · rw [if_neg c]
        split
        · rw [(S.fmtTo k).step_rest.2.2.2.1]; exact ih
        · show ((S.fmtTo k).step.dirty.set (((256 + k : Nat) : Int).toNat / 8) true).getD l false = false
          rw [(S.fmtTo k).step_rest.2.2.2.1, List.getD_eq_getElem?_getD, List.getElem?_set_ne (by have := h k (by omega) (by omega); omega), ← List.getD_eq_getElem?_getD]
          exact ih

structure Formed (S : Dev) (B : Nat) : Prop where
  inv : S.inv
  live : S.live
  ok : S.ok 201000
  len : S.cache.length = 512 * B
  dlen : S.dirty.length = 64 * B
  last : S.lasting = S.cache
  dirty : S.dirty = List.replicate (64 * B) false
  pending : S.pending = List.replicate (64 * B) false
  clean : Clean S B
  allOk : AllOk (devWord S) B
  hds : hds (devWord S) B = List.replicate B ⟨0, 0, 0⟩
  word : ∀ b, 1 ≤ b → b < B → devWord S b = encN b 0 0 0

theorem fmt_formed {B : Nat} (hB2 : 2 ≤ B) (hB : B ≤ 100) : Formed ((freshDev (List.replicate (512 * B) 0) (64 * B)).fmt B) B := by
  obtain ⟨S, hS⟩ : ∃ S, S = freshDev (List.replicate (512 * B) 0) (64 * B) := ⟨_, rfl⟩
  rw [← hS]
  have hl : S.cache.length = 512 * B := by rw [hS]; simp [freshDev]
  have hd : S.dirty.length = 64 * B := by rw [hS]; simp [freshDev]
  have hi : S.inv := by rw [hS]; exact fresh_inv (by simp; omega) (by simp; omega) (fun z hz => by simp at hz; omega)
  have hv : S.live := by rw [hS]; exact fresh_live _ _
  have ho : S.ok 100 := by rw [hS]; exact fresh_ok _ _ _
  have hf : ∀ l, S.dirty.getD l false = false := fun l => by
    rw [hS]; unfold freshDev; simp only [List.getD_eq_getElem?_getD, List.getElem?_replicate]; split <;> rfl
  obtain ⟨p1, p2, p3, p5, p4⟩ := fmtTo_props hv ho B (by rw [hl]; omega)
  have hti := fmtTo_inv hi B
  have he := (p1.persist 257 (B - 1) (by omega) (by rw [p3, p5]; exact hi.wf.lenD) (by rw [p3, hl]; omega)).1
  obtain ⟨q1, q2, q3, q4, q5⟩ := Dev.persist_clean hti 257 (B - 1) (by omega) he
  have hfm : S.fmt B = ((S.fmtTo B).persist ((257 : Nat) : Int) ((B - 1 : Nat) : Int)).dev := by unfold Dev.fmt; rw [show ((B : Int) - 1) = ((B - 1 : Nat) : Int) by omega]; rfl
  rw [← hfm] at q1 q3 q4 q5
  have hinv : (S.fmt B).inv := by rw [hfm]; exact Dev.persist_inv hti _ _
  have hdl : (S.fmt B).dirty.length = 64 * B := by rw [q3, p5, hd]
  have hdirty : ∀ l, (S.fmt B).dirty.getD l false = false := by
    intro l
    by_cases c : ∃ b, 1 ≤ b ∧ b < B ∧ (256 + b) / 8 = l
    · obtain ⟨b, b1, b2, rfl⟩ := c
      exact q4 (256 + b) (by omega) (by omega)
    · exact q5 l (fmtTo_dirty hf hi.wf.lenD B l (fun b b1 b2 e => c ⟨b, b1, b2, e⟩))
  have hrep : ∀ n l, (List.replicate n false).getD l false = false := fun n l => by simp only [List.getD_eq_getElem?_getD, List.getElem?_replicate]; split <;> rfl
  refine ⟨hinv, ?_, ?_, by rw [q1, p3, hl], hdl, ?_, ?_, ?_, fmt_clean hi hv ho hB2 (by rw [hl]; omega), fmt_ok hv ho B hB2 hi.wf.lenD (by rw [hl]; omega), fmt_hds hv ho B hB2 hi.wf.lenD (by rw [hl]; omega), fmt_words hv ho B hB2 hi.wf.lenD (by rw [hl]; omega)⟩
  · rw [hfm]; exact p1.persist_live 257 (B - 1) (by omega) (by rw [p3, p5]; exact hi.wf.lenD) (by rw [p3, hl]; omega)
  · exact (Dev.persist_ok hti.wf p2 _ _).mono (by omega)
  · exact nat_ext (hinv.wf.lenL) (fun i => hinv.sound i (hdirty _))
  · exact bool_ext (by rw [hdl]; simp) (fun l => by rw [hdirty, hrep])
  · refine bool_ext (by rw [hinv.wf.lenP, hdl]; simp) (fun l => ?_)
    rw [hrep]
    cases hp : (S.fmt B).pending.getD l false with
    | false => rfl
    | true => have := hinv.pend l hp; rw [hdirty] at this; cases this

theorem sound_zero (B : Nat) : ∀ f b, soundN (List.replicate B ⟨0, 0, 0⟩) f b = 0
  | 0, _ => rfl
  | f + 1, b => by
    have hz : (List.replicate B (⟨0, 0, 0⟩ : Hd)).getD b default = ⟨0, 0, 0⟩ := by
      simp only [List.getD_eq_getElem?_getD, List.getElem?_replicate]; split <;> rfl
    rw [soundN, hz, sound_zero B f (b + 1)]
    split
    · rfl
    · rw [if_neg (by decide), if_neg (by decide)]
end Go.Proofs.Ytfedgcdkagngnaa

/- Structs by value whose cells are one variable. -/
namespace Go.Proofs.Ytfedgcdkagngnaa
open Go.RowKit
set_option linter.unusedVariables false

section
variable {P : Program} {C : World → Prop} {ops : Array Oper} {rest : List Oper} {o : Oper} {a : Act}

variable {Q : Exit → Act → World → Prop} {w W : World} {L : List Ent}
end

end Go.Proofs.Ytfedgcdkagngnaa

/- law20: Begun: an empty heap. -/
namespace Go.Proofs.Ytfedgcdkagngnaa
open Go.RowKit
set_option linter.unusedVariables false

/-- A world of law20. -/
abbrev vworld (A : AF) (L : Value) : Value := .agg #[valloc A, vdev A.X.F, L]
def zeroW : Array Value := #[.pointer none, .pointer none, .slice none 0 0]
theorem aggW : Agg Try.prog 31 zeroW := ⟨⟨_, Try.underlying31, rfl⟩, by kernel_rfl⟩

/-- The device of a new heap. -/
def dev0 (B : Nat) : Dev := (freshDev (List.replicate (512 * B) 0) (64 * B)).fmt B
def al0 (B : Nat) : Al := ⟨bmOf (dev0 B) B, List.replicate (512 * B) false, FL.empty⟩

def BegunPost (B : Nat) (w : World) : Ending → World → Prop := fun e w' => ∃ (A : AF) (n : Nat), e = .returned (.tuple #[vworld A (.slice none 0 0), .bool true]) ∧ AlAt w' A n B (al0 B) ∧ n ≤ 1000000 ∧ (∀ k ∈ A.list, w.heap.size ≤ k) ∧ Below w.heap.size w w'

theorem free_small {B : Nat} (b : Nat) : (hdGet (List.replicate B (⟨0, 0, 0⟩ : Hd)) (b : Int)) = ⟨0, 0, 0⟩ := by
  unfold hdGet
  split
  · rfl
  · simp only [List.getD_eq_getElem?_getD, List.getElem?_replicate]; split <;> rfl

set_option maxHeartbeats 8000000 in
set_option maxRecDepth 100000 in
theorem begun20_any (B : Nat) (hB2 : 2 ≤ B) (hB : B ≤ 100) (w : World) : Calls Try.prog 9 #[.int .i64 (B : Int)] w (BegunPost B w) := by
  generalize hP : BegunPost B w = Post
  have HP := Lib.hid hP
  clear hP
  have HM := Lib.hid (Mem.two w zeroW 31 #[.int .i64 (B : Int)] 39)
  have HFo : Hid (Formed (dev0 B) B) := Lib.hid (fmt_formed hB2 hB)
  go_enter Try.func9, Try.ntmps9
  go_upto_region 2 with fail
  rw [show (#[.pointer none, .pointer none, .slice none 0 0] : Array Value) = zeroW from rfl]
  generalize (w.alloc _).alloc _ = w0 at *
  obtain ⟨q, hq⟩ : ∃ q, q = w.heap.size := ⟨_, rfl⟩
  rw [← hq] at HM ⊢
  have HQ := Lib.hid hq
  clear hq
  have c0 := HM.out.cell 1 0 rfl rfl
  go_wp2_with fail
  refine (gwords_any _ _ (by omega) (by omega)).mono ?_
  rintro e w1 ⟨rfl, hb1⟩
  have HM1 := Lib.hid (HM.out.later hb1)
  clear hb1 HM c0
  go_wp2_with fail
  refine (new_any ((B : Int) * 512) _ (by omega)).mono ?_
  rintro e w2 ⟨F, rfl, hF, hd2, hb2⟩
  have hfd : freshDev (List.replicate (8 * ((((B : Int) * 512).toNat + 7) / 8)) 0) ((((B : Int) * 512).toNat + 7) / 8) = freshDev (List.replicate (512 * B) 0) (64 * B) := by
    have h1 : (((B : Int) * 512).toNat + 7) / 8 = 64 * B := by omega
    rw [h1, show 8 * (64 * B) = 512 * B by omega]
  rw [hfd] at hd2
  clear hfd
  obtain ⟨S, hS⟩ : ∃ S, S = freshDev (List.replicate (512 * B) 0) (64 * B) := ⟨_, rfl⟩
  have hlv : S.live := by rw [hS]; exact fresh_live _ _
  have hok : S.ok 100 := by rw [hS]; exact fresh_ok _ _ _
  have hSl : S.cache.length = 512 * B := by rw [hS]; simp [freshDev]
  rw [← hS] at hd2
  have HS0 : Hid (S.fmt B = dev0 B) := Lib.hid (by rw [hS]; rfl)
  have HD2 := Lib.hid hd2
  have HM2 := Lib.hid (HM1.out.later hb2)
  have HF := Lib.hid (fun k hk => Nat.le_trans HM1.out.below.size (hF k hk))
  have HF1 := Lib.hid (fun k (hk : k ∈ F.list) => Nat.lt_of_lt_of_le (HM1.out.glt 0 rfl) (hF k hk))
  have HF2 := Lib.hid (fun k (hk : k ∈ F.list) => Nat.lt_of_lt_of_le (HM1.out.glt 1 rfl) (hF k hk))
  have HLv : Hid (S.live ∧ S.ok 100 ∧ 256 + B ≤ S.cache.length) := Lib.hid ⟨hlv, hok, by omega⟩
  clear hd2 hb2 hF hS hlv hok hSl HM1
  unfold vdev
  have c0 := HM2.out.cell 1 0 rfl rfl
  go_wp2_with fail
  refine (format_any HD2.out HLv.out.1 HLv.out.2.1 B hB2 (by omega) HLv.out.2.2).mono ?_
  rintro e w3 ⟨rfl, hd3, ht3⟩
  rw [HS0.out] at hd3
  have HD3 := Lib.hid hd3
  have HM3 : Hid (Mem w w3 [⟨q, 31, zeroW.toList, true⟩, ⟨q + 1, 39, [.int .i64 (B : Int)], true⟩]) := Lib.hid (by
    have hr := HM2.out.rows
    refine ⟨below_touched HM2.out.below ht3 (fun k hk => HF.out k hk) (Nat.le_refl _), fun x hx => (hr x hx).keep (ht3.block _ (HM2.out.lt x hx) (fun hk => ?_)), HM2.out.base, HM2.out.nd⟩
    simp only [List.mem_cons, List.not_mem_nil, or_false] at hx
    rcases hx with rfl | rfl
    · exact Nat.lt_irrefl _ (HF1.out _ hk)
    · exact Nat.lt_irrefl _ (HF2.out _ hk))
  clear hd3 ht3 HM2 HD2 c0 HLv HS0
  have c0 := HM3.out.cell 1 0 rfl rfl
  go_wp2_with fail
  refine (bopen_any HD3.out B (by omega) (by omega)).mono ?_
  rintro e w4 ⟨hb4, ⟨_, _, X, n, rfl, hXF, hm4, hn4, hX4⟩ | ⟨_, hbad, _⟩ | ⟨hbad, _⟩⟩
  case inr.inr => exact absurd HFo.out.allOk hbad
  case inr.inl => exact absurd (by rw [HFo.out.hds]; exact sound_zero B B 1) hbad
  subst hXF
  have HM4 := Lib.hid (HM3.out.later hb4)
  have HA4 := Lib.hid hm4
  have HXn : Hid (∀ k ∈ X.list, w.heap.size ≤ k ∧ k ≠ q ∧ k ≠ q + 1) := Lib.hid (fun k hk => by
    have h1 := HM3.out.glt 0 rfl
    have h2 := HM3.out.glt 1 rfl
    have h3 := HM3.out.below.size
    rcases hX4 k hk with h | h
    · refine ⟨HF.out k h, fun e => ?_, fun e => ?_⟩
      · have := HF1.out k h; omega
      · have := HF2.out k h; omega
    · exact ⟨Nat.le_trans h3 h, by omega, by omega⟩)
  clear hb4 hm4 hX4 HM3 HD3 c0 HF HF1 HF2
  have HNo : Hid (∀ b : Nat, b < B → (hdGet (bmOf (dev0 B) B).list (b : Int)).k ≠ 1) := Lib.hid (fun b _ => by
    have e : (bmOf (dev0 B) B).list = List.replicate B ⟨0, 0, 0⟩ := HFo.out.hds
    rw [e, free_small]; decide)
  have HDl : Hid ((bmOf (dev0 B) B).dev.cache.length = 512 * B) := Lib.hid HFo.out.len
  go_wp2_with fail
  refine (anew_free HA4.out (by omega) (by rw [HDl.out]; omega) HNo.out).mono ?_
  rintro e w5 ⟨A, rfl, hAX, ha5, hb5, hA5⟩
  rw [HDl.out] at ha5
  have HA5 : Hid (AlAt w5 A n B (al0 B)) := Lib.hid ha5
  have HM5 := Lib.hid (HM4.out.later hb5)
  have HAn : Hid (∀ k ∈ A.list, w.heap.size ≤ k ∧ k ≠ q ∧ k ≠ q + 1) := Lib.hid (fun k hk => by
    have h1 := HM4.out.glt 0 rfl
    have h2 := HM4.out.glt 1 rfl
    have h3 := HM4.out.below.size
    rcases hA5 k hk with h | h
    · exact HXn.out k h
    · exact ⟨Nat.le_trans h3 h, by omega, by omega⟩)
  have HAX := Lib.hid hAX
  clear ha5 hb5 hA5 hAX HM4 HA4 HNo HDl
  go_upto_region 9 with fail
  have hAq : A.a ∉ [q] := by have := (HAn.out A.a (by simp [AF.list, AF.fix])).2.1; simpa using this
  have hAm : A.X.m ∉ [q] := by have := (HAn.out A.X.m (by simp [AF.list, AF.fix, MF.list])).2.1; simpa using this
  have HC0 : ∃ x : Near [q] w5, w5.drew = x.val := near_of (Touch.ofBelow (later_below (later_drew w5)))
  have r0 := fun x => near_cell (L := [q]) HA5.out.c0 hAq x
  refine wp_region_seg (C := fun w' => ∃ x : Near [q] w5, w' = x.val) [.fl [0, 1, 2, 3, 4, 5, 6, 7, 8, 9, 10, 11, 12, 13, 14, 15], .sq [16] true, .sq [17] false] (by kernel_rfl) (by kernel_rfl) (by intro c a d v w h; cases d <;> exact h) ?_
  simp only [segs, picks, List.getElem?_cons_succ, List.getElem?_cons_zero]
  refine wpSeg_fl HC0 ?_
  repeat (first | go_big_quiet_step (fail) | quiet_step (fail))
  refine wpQuiet_nil ?_
  have HM6 := Lib.hid (HM5.out.later (later_below (later_drew w5)))
  refine wpSeg_sq (fun K hK => ?_)
  go_wp2_with (refine wpList_store_mem aggW HM6.out 0 rfl rfl rfl rfl rfl rfl rfl rfl ?_; intro w6 h6 ht6; have H6 := Lib.hid h6; have HT6 := Lib.hid ht6; clear h6 ht6)
  have HC1 : ∃ x : Near [q] w5, w6 = x.val := near_of ((Touch.ofBelow (later_below (later_drew w5))).trans HT6.out)
  go_wp2_with fail
  refine hK _ _ (fun _ => HC1) ?_
  clear hK K
  refine wpSeg_last ?_
  go_wp2_with fail
  refine bodyPost_ret (results_cell_row2 (p := 2) (u := 3) rfl _ _ _ _ _ _ _ rfl (H6.out.exact 0 rfl) Try.underlying31 rfl (by kernel_rfl)) rfl ?_
  rw [← HP.out]
  have hAe := HAX.out
  subst hAe
  refine ⟨A, n, rfl, ?_, hn4, fun k hk => (HAn.out k hk).1, H6.out.below⟩
  exact (HA5.out.below (later_below (later_drew w5))).keep (fun k hk => HT6.out.block k (Nat.lt_of_lt_of_le (HA5.out.mem k hk) (later_below (later_drew w5)).size) (by have := (HAn.out k hk).2.1; simpa using this))

end Go.Proofs.Ytfedgcdkagngnaa

/- law33: awake. -/
namespace Go.Proofs.Ytfedgcdkagngnaa
open Go.RowKit
set_option linter.unusedVariables false

theorem map_free (B : Nat) : ∀ i, mapTo (List.replicate B (⟨0, 0, 0⟩ : Hd)) B 0 i = List.replicate i 46
  | 0 => rfl
  | i + 1 => by
    unfold mapTo
    rw [map_free B i, free_small, if_neg (by unfold nlB; omega)]
    show _ ++ [(46 : UInt8)] = _
    rw [List.replicate_succ']
theorem al0_list {B : Nat} (hB2 : 2 ≤ B) (hB : B ≤ 100) : (al0 B).bm.list = List.replicate B ⟨0, 0, 0⟩ := (fmt_formed hB2 hB).hds
theorem map_three : mapTo (al0 3).bm.list 3 0 (3 - 1) = [46, 46] := by rw [al0_list (by omega) (by omega), map_free]; rfl

set_option maxHeartbeats 2000000 in
theorem awake33_any (w : World) : Calls Try.prog 4 #[] w (Gives (.bool true) w) := by
  have HP : Hid (∀ w', Below w.heap.size w w' → Gives (.bool true) w (.returned (.bool true)) w') := Lib.hid (fun w' h => ⟨rfl, h⟩)
  generalize Gives (.bool true) w = Post at *
  go_enter Try.func4, Try.ntmps4
  go_wp2_with fail
  refine (begun20_any 3 (by omega) (by omega) _).mono ?_
  rintro e w1 ⟨A, n, rfl, ha, hn, hA, hb⟩
  have hbx := below_alloc w1 (Obj.cells #[valloc A, vdev A.X.F, .slice none 0 0] 31)
  have HA := Lib.hid (ha.below hbx)
  have HB := Lib.hid (hb.trans (hbx.mono hb.size))
  have HF : Hid (∀ b : Nat, (hdGet (al0 3).bm.list (b : Int)).fine) := Lib.hid (fun b => by rw [al0_list (by omega) (by omega), free_small]; intro h; cases h)
  have c0 : (w1.alloc (Obj.cells #[valloc A, vdev A.X.F, .slice none 0 0] 31)).cell? ⟨w1.heap.size, 0, none⟩ = some (valloc A) := cell_alloc_new _ _ _ 0 _ rfl
  clear ha hA hb hbx
  go_upto_region 2 with fail
  generalize w1.alloc _ = w2 at *
  have HMp := Lib.hid (dmap_any HA.out (by omega) (by omega) 0 HF.out)
  rw [map_three] at HMp
  go_wp2_with fail
  refine HMp.out.mono ?_
  rintro e w3 ⟨rfl, hb3⟩
  have HB3 := Lib.hid (HB.out.trans (hb3.mono HB.out.size))
  have hcmp : ((bstr [46, 46]).toList == [46, 46]) = true := by rw [bstr_toList]; rfl
  clear hb3 c0
  go_wp2_with fail
  exact HP.out _ HB3.out

end Go.Proofs.Ytfedgcdkagngnaa

/- law33: DumpNumbers. -/
namespace Go.Proofs.Ytfedgcdkagngnaa
open Go.RowKit
set_option linter.unusedVariables false
open Go.Lib (decDigits itoa nDigits)

set_option maxHeartbeats 2000000 in
theorem dumpNumbers_any (n : Int) (hn : In64 n) (x : Nat) (hx : x < 18446744073709551616) (w : World) : Calls Try.prog 3 #[.int .i64 n, vu64 x] w fun e w' => e = .returned (.bool true) ∧ Below w.heap.size w w' := by
  have HN1 := Lib.hid (fun w => dnumber_any n hn w)
  have HN2 := Lib.hid (fun w => rnumber_any n hn w)
  have HH1 := Lib.hid (fun w => dhex_any x hx w)
  have HH2 := Lib.hid (fun w => rhex_any x hx w)
  generalize hq : (fun e w' => e = Ending.returned (.bool true) ∧ Below w.heap.size w w') = Post
  have HP : Hid (∀ w', Below w.heap.size w w' → Post (.returned (.bool true)) w') := Lib.hid (fun w' h => by rw [← hq]; exact ⟨rfl, h⟩)
  clear hq
  go_enter Try.func3, Try.ntmps3
  go_wp2_with fail
  refine (awake33_any _).mono ?_
  rintro e w1 ⟨rfl, hb1⟩
  have HB1 := Lib.hid hb1
  clear hb1
  go_wp2_with fail
  refine (HN1.out _).mono ?_
  rintro e w2 ⟨rfl, hb2⟩
  have HB2 := Lib.hid (HB1.out.trans (hb2.mono HB1.out.size))
  clear hb2
  go_wp2_with fail
  refine (HN2.out _).mono ?_
  rintro e w3 ⟨rfl, hb3⟩
  have HB3 := Lib.hid (HB2.out.trans (hb3.mono HB2.out.size))
  have hc1 : ((bstr (itoa n)).toList == (bstr (itoa n)).toList) = true := by simp
  clear hb3
  generalize bstr (itoa n) = s1 at *
  go_wp2_with fail
  refine (HH1.out _).mono ?_
  rintro e w4 ⟨rfl, hb4⟩
  have HB4 := Lib.hid (HB3.out.trans (hb4.mono HB3.out.size))
  clear hb4
  go_wp2_with fail
  refine (HH2.out _).mono ?_
  rintro e w5 ⟨rfl, hb5⟩
  have HB5 := Lib.hid (HB4.out.trans (hb5.mono HB4.out.size))
  have hc2 : ((bstr (digW 16 x 16)).toList == (bstr (digW 16 x 16)).toList) = true := by simp
  clear hb5
  generalize bstr (digW 16 x 16) = s2 at *
  go_wp2_with fail
  exact HP.out _ HB5.out

end Go.Proofs.Ytfedgcdkagngnaa
