/- Parts of the proof, one behind the other: Yo, Lp, Yp, Yq, Yr, Yf, Ys, Yt, Yx, Yy. -/
import Derived.Test.YtebnelihlgdciaaGreatM9

/- Plain: two devices that only differ in what no one sees; calls keep them alike. -/
namespace Go.Proofs.YtebnelihlgdciaaGreat
set_option linter.unusedVariables false

structure Like (S T : Dev) : Prop where
  lasting : T.lasting = S.lasting
  cache : T.cache = S.cache
  dirty : T.dirty = S.dirty
  pending : T.pending = S.pending
  steps : T.steps = S.steps
  dead : T.dead = S.dead
  armed : T.armed = S.armed
  fuse : S.armed = true → T.fuse = S.fuse
  flushed : ∀ j, S.pending.getD (j / 8) false = true → T.flushed.getD j 0 = S.flushed.getD j 0

theorem Like.refl (S : Dev) : Like S S := ⟨rfl, rfl, rfl, rfl, rfl, rfl, rfl, fun _ => rfl, fun _ _ => rfl⟩
theorem nat_ext {a b : List Nat} (hl : a.length = b.length) (h : ∀ i, a.getD i 0 = b.getD i 0) : a = b := by
  apply List.ext_getElem hl
  intro i h1 h2
  have := h i
  simpa [h1, h2] using this
theorem bool_ext {a b : List Bool} (hl : a.length = b.length) (h : ∀ i, a.getD i false = b.getD i false) : a = b := by
  apply List.ext_getElem hl
  intro i h1 h2
  have := h i
  simpa [h1, h2] using this

theorem Like.stop {S T : Dev} (h : Like S T) : T.stop = S.stop := by
  unfold Dev.stop
  rw [h.dead, h.armed]
  cases ha : S.armed
  · rfl
  · rw [h.fuse ha]
theorem Like.step {S T : Dev} (h : Like S T) : Like S.step T.step := by
  unfold Dev.step
  rw [h.stop]
  split
  · exact ⟨h.lasting, h.cache, h.dirty, h.pending, h.steps, rfl, h.armed, h.fuse, h.flushed⟩
  · exact ⟨h.lasting, h.cache, h.dirty, h.pending, by dsimp only; rw [h.steps], h.dead, h.armed, fun ha => by dsimp only; rw [h.fuse ha], h.flushed⟩
theorem Like.store {S T : Dev} (h : Like S T) (i : Int) (x : Nat) : Like (S.store i x) (T.store i x) ∧ T.storeE i = S.storeE i := by
  constructor
  · unfold Dev.store
    rw [h.cache, h.stop]
    split
    · exact h
    · split
      · exact h.step
      · have k := h.step
        unfold Dev.put
        exact ⟨k.lasting, by dsimp only; rw [k.cache], by dsimp only; rw [k.dirty], k.pending, k.steps, k.dead, k.armed, k.fuse, k.flushed⟩
  · unfold Dev.storeE
    rw [h.cache, h.stop]
theorem Like.hold {S T : Dev} (h : Like S T) (hS : S.wf) (hT : T.wf) (j : Nat) (hj : j < S.dirty.length) : Like (S.hold j) (T.hold j) := by
  unfold Dev.hold
  rw [h.dirty]
  split
  · have hD := hS.lenD
    have hl1 : 8 * j + 8 ≤ S.flushed.length := by rw [hS.lenF]; omega
    have hl2 : 8 * j + 8 ≤ T.flushed.length := by rw [hT.lenF, h.cache]; omega
    refine ⟨h.lasting, h.cache, rfl, by dsimp only; rw [h.pending], h.steps, h.dead, h.armed, h.fuse, fun i hi => ?_⟩
    dsimp only at hi ⊢
    rw [splice_seg_getD _ _ _ _ hl1 (by omega), splice_seg_getD _ _ _ _ hl2 (by rw [h.cache]; omega), h.cache]
    rw [getD_setB _ _ _ _ (by rw [hS.lenP]; exact hj)] at hi
    by_cases e : i / 8 = j
    · rw [if_pos e, if_pos e]
    · rw [if_neg e, if_neg e]
      rw [if_neg e] at hi
      exact h.flushed i hi
  · exact h
theorem Like.flush {S T : Dev} (h : Like S T) (hS : S.inv) (hT : T.inv) (j : Int) : Like (S.flush j) (T.flush j) ∧ T.flushE j = S.flushE j := by
  constructor
  · unfold Dev.flush
    rw [h.dirty, h.stop]
    by_cases c : j < 0 ∨ (S.dirty.length : Int) ≤ j
    · rw [if_pos c, if_pos c]; exact h
    · rw [if_neg c, if_neg c]
      split
      · exact h.step
      · exact h.step.hold (Dev.step_wf hS.wf) (Dev.step_wf hT.wf) _ (by rw [S.step_rest.2.2.2.1]; omega)
  · unfold Dev.flushE
    rw [h.dirty, h.stop]
theorem Like.fence {S T : Dev} (h : Like S T) (hS : S.wf) (hT : T.wf) : Like S.fence T.fence ∧ T.fenceE = S.fenceE := by
  constructor
  · cases hs : S.stop
    · have a := Dev.fence_at hS hs
      have b := Dev.fence_at hT (by rw [h.stop]; exact hs)
      rw [h.dirty] at b
      have hsteps : T.fence.steps = S.fence.steps ∧ T.fence.dead = S.fence.dead ∧ T.fence.armed = S.fence.armed ∧ (S.fence.armed = true → T.fence.fuse = S.fence.fuse) := by
        have k := h.step
        have m : ∀ (U : Dev) (n : Nat), (U.fenceTo n).steps = U.steps ∧ (U.fenceTo n).dead = U.dead ∧ (U.fenceTo n).armed = U.armed ∧ (U.fenceTo n).fuse = U.fuse := by
          intro U n
          induction n with
          | zero => exact ⟨rfl, rfl, rfl, rfl⟩
          | succ n ih =>
            rw [Dev.fenceTo]
            unfold Dev.settle
            split
            · exact ih
            · exact ih
        unfold Dev.fence
        rw [h.stop, hs]
        simp only [Bool.false_eq_true, if_false]
        obtain ⟨x1, x2, x3, x4⟩ := m S.step S.dirty.length
        obtain ⟨y1, y2, y3, y4⟩ := m T.step T.dirty.length
        rw [x1, x2, x3, x4, y1, y2, y3, y4]
        exact ⟨k.steps, k.dead, k.armed, k.fuse⟩
      obtain ⟨p1, p2, p3, p4⟩ := hsteps
      have hD := hS.lenD
      refine ⟨nat_ext ?_ fun j => ?_, ?_, bool_ext ?_ fun l => ?_, bool_ext ?_ fun l => ?_, p1, p2, p3, p4, fun j hj => ?_⟩
      · rw [a.lenL, b.lenL, h.lasting]
      · rw [a.lasting j, b.lasting j, h.pending, h.lasting]
        by_cases c : j / 8 < S.dirty.length ∧ S.pending.getD (j / 8) false = true
        · rw [if_pos c, if_pos c]; exact h.flushed j c.2
        · rw [if_neg c, if_neg c]
      · rw [a.cache, b.cache, h.cache]
      · rw [a.lenD, b.lenD, h.dirty]
      · rw [a.dirty l, b.dirty l, h.pending, h.dirty, h.cache]
        by_cases c : l < S.dirty.length ∧ S.pending.getD l false = true
        · rw [if_pos c, if_pos c]
          have e : seg T.flushed l = seg S.flushed l := (seg_eq_iff _ _ _ (by rw [hT.lenF, h.cache]; omega) (by rw [hS.lenF]; omega)).2 (fun i h1 h2 => h.flushed i (by rw [show i / 8 = l by omega]; exact c.2))
          rw [e]
        · rw [if_neg c, if_neg c]
      · rw [a.lenP, b.lenP, h.pending]
      · rw [a.pending l, b.pending l, h.pending]
      · rw [a.flushed, b.flushed]
        rw [a.pending (j / 8)] at hj
        by_cases c : j / 8 < S.dirty.length
        · rw [if_pos c] at hj; cases hj
        · rw [if_neg c] at hj; exact h.flushed j hj
    · unfold Dev.fence
      rw [h.stop, hs]
      exact h.step
  · unfold Dev.fenceE
    rw [h.stop]

theorem Like.flushRun {S T : Dev} (h : Like S T) (hS : S.inv) (hT : T.inv) (a : Nat) : ∀ m, Like (S.flushRun a m).dev (T.flushRun a m).dev ∧ (T.flushRun a m).err = (S.flushRun a m).err
  | 0 => ⟨h, rfl⟩
  | m + 1 => by
    obtain ⟨h1, h2⟩ := Like.flushRun h hS hT a m
    rw [Dev.flushRun, Dev.flushRun, h2]
    split
    · exact ⟨h1, h2⟩
    · exact h1.flush (Dev.flushRun_inv hS a m) (Dev.flushRun_inv hT a m) _
theorem Like.persist {S T : Dev} (h : Like S T) (hS : S.inv) (hT : T.inv) (p n : Int) : Like (S.persist p n).dev (T.persist p n).dev ∧ (T.persist p n).err = (S.persist p n).err := by
  unfold Dev.persist
  rw [h.cache]
  split
  · exact ⟨h, rfl⟩
  · split
    · unfold Dev.persistN
      obtain ⟨h1, h2⟩ := h.flushRun hS hT (p / 8).toNat ((p + n - 1) / 8 - p / 8 + 1).toNat
      rw [h2]
      split
      · exact ⟨h1, h2⟩
      · exact h1.fence (Dev.flushRun_inv hS _ _).wf (Dev.flushRun_inv hT _ _).wf
    · exact h.fence hS.wf hT.wf
theorem Like.arm {S T : Dev} (h : Like S T) (n : Int) : Like (S.arm n) (T.arm n) := by
  unfold Dev.arm
  exact ⟨h.lasting, h.cache, h.dirty, h.pending, h.steps, h.dead, rfl, fun _ => rfl, h.flushed⟩

theorem Like.putTo {S T : Dev} (h : Like S T) (L : List Hd) (b : Nat) (l : List Hd) : ∀ i, Like (putTo S L b l i).dev (putTo T L b l i).dev ∧ (putTo T L b l i).list = (putTo S L b l i).list ∧ (putTo T L b l i).err = (putTo S L b l i).err
  | 0 => ⟨h, rfl, rfl⟩
  | i + 1 => by
    obtain ⟨h1, h2, h3⟩ := Like.putTo h L b l i
    unfold Go.Proofs.YtebnelihlgdciaaGreat.putTo putStep
    rw [h2, h3]
    split
    · exact ⟨h1, h2, h3⟩
    · obtain ⟨k1, k2⟩ := h1.store (256 + ((b + i : Nat) : Int)) (encN ((b + i : Nat) : Int) (l.getD i default).k (l.getD i default).c (l.getD i default).l)
      refine ⟨k1, ?_, k2⟩
      dsimp only
      rw [k2]
theorem Like.putAll {S T : Dev} (h : Like S T) (hS : S.inv) (hT : T.inv) (L : List Hd) (b : Int) (l : List Hd) : Like (putAll S L b l).dev (putAll T L b l).dev ∧ (putAll T L b l).list = (putAll S L b l).list ∧ (putAll T L b l).err = (putAll S L b l).err := by
  unfold Go.Proofs.YtebnelihlgdciaaGreat.putAll
  split
  · exact ⟨h, rfl, rfl⟩
  · split
    · exact ⟨h, rfl, rfl⟩
    · unfold putIn
      obtain ⟨h1, h2, h3⟩ := h.putTo L b.toNat l l.length
      rw [h3]
      split
      · exact ⟨h1, h2, h3⟩
      · obtain ⟨k1, k2⟩ := h1.persist (putTo_inv hS L b.toNat l l.length) (putTo_inv hT L b.toNat l l.length) (256 + ((b.toNat : Nat) : Int)) l.length
        exact ⟨k1, h2, k2⟩

/-- Managers alike. -/
structure Alike (m n : Bm) : Prop where
  dev : Like m.dev n.dev
  list : n.list = m.list
  free : n.free = m.free
  invM : m.dev.inv
  invN : n.dev.inv

theorem Alike.small {m n : Bm} (h : Alike m n) (k : Int) : Alike (m.small k).bm (n.small k).bm ∧ (n.small k).b = (m.small k).b ∧ (n.small k).err = (m.small k).err := by
  obtain ⟨d, l, f⟩ := m
  obtain ⟨d2, l2, f2⟩ := n
  obtain ⟨h1, rfl, rfl, i1, i2⟩ := h
  unfold Bm.small
  dsimp only at *
  split
  · exact ⟨⟨h1, rfl, rfl, i1, i2⟩, rfl, rfl⟩
  · split
    · exact ⟨⟨h1, rfl, rfl, i1, i2⟩, rfl, rfl⟩
    · obtain ⟨k1, k2, k3⟩ := h1.putAll i1 i2 l2 (takeR f2 1).2.1 [⟨1, k, 0⟩]
      exact ⟨⟨k1, k2, rfl, putAll_inv i1 _ _ _, putAll_inv i2 _ _ _⟩, by dsimp only; rw [k3], k3⟩
theorem Alike.large {m n : Bm} (h : Alike m n) (k : Int) : Alike (m.large k).bm (n.large k).bm ∧ (n.large k).b = (m.large k).b ∧ (n.large k).err = (m.large k).err := by
  obtain ⟨d, l, f⟩ := m
  obtain ⟨d2, l2, f2⟩ := n
  obtain ⟨h1, rfl, rfl, i1, i2⟩ := h
  unfold Bm.large
  dsimp only at *
  split
  · exact ⟨⟨h1, rfl, rfl, i1, i2⟩, rfl, rfl⟩
  · split
    · exact ⟨⟨h1, rfl, rfl, i1, i2⟩, rfl, rfl⟩
    · obtain ⟨k1, k2, k3⟩ := h1.putAll i1 i2 l2 ((takeR f2 k).2.1 + 1) ((hdRun k.toNat k.toNat).drop 1)
      have j1 := putAll_inv i1 l2 ((takeR f2 k).2.1 + 1) ((hdRun k.toNat k.toNat).drop 1)
      have j2 := putAll_inv i2 l2 ((takeR f2 k).2.1 + 1) ((hdRun k.toNat k.toNat).drop 1)
      generalize Go.Proofs.YtebnelihlgdciaaGreat.putAll d l2 ((takeR f2 k).2.1 + 1) ((hdRun k.toNat k.toNat).drop 1) = r at *
      generalize Go.Proofs.YtebnelihlgdciaaGreat.putAll d2 l2 ((takeR f2 k).2.1 + 1) ((hdRun k.toNat k.toNat).drop 1) = r' at *
      rw [k3]
      split
      · exact ⟨⟨k1, k2, rfl, j1, j2⟩, rfl, rfl⟩
      · rw [k2]
        obtain ⟨e1, e2, e3⟩ := k1.putAll j1 j2 r.list (takeR f2 k).2.1 [⟨2, 0, k⟩]
        exact ⟨⟨e1, e2, rfl, putAll_inv j1 _ _ _, putAll_inv j2 _ _ _⟩, by dsimp only; rw [e3], e3⟩
theorem Alike.release {m n : Bm} (h : Alike m n) (b : Int) : Alike (m.release b).bm (n.release b).bm ∧ (n.release b).err = (m.release b).err := by
  obtain ⟨d, l, f⟩ := m
  obtain ⟨d2, l2, f2⟩ := n
  obtain ⟨h1, rfl, rfl, i1, i2⟩ := h
  unfold Bm.release
  dsimp only at *
  split
  · exact ⟨⟨h1, rfl, rfl, i1, i2⟩, rfl⟩
  · obtain ⟨k1, k2, k3⟩ := h1.putAll i1 i2 l2 b [⟨0, 0, 0⟩]
    have j1 := putAll_inv i1 l2 b [⟨0, 0, 0⟩]
    have j2 := putAll_inv i2 l2 b [⟨0, 0, 0⟩]
    generalize Go.Proofs.YtebnelihlgdciaaGreat.putAll d l2 b [⟨0, 0, 0⟩] = r at *
    generalize Go.Proofs.YtebnelihlgdciaaGreat.putAll d2 l2 b [⟨0, 0, 0⟩] = r' at *
    rw [k3, k2]
    split
    · exact ⟨⟨k1, rfl, rfl, j1, j2⟩, rfl⟩
    · obtain ⟨e1, e2, e3⟩ := k1.putAll j1 j2 r.list (b + 1) (List.replicate (relN (hdGet l2 b) - 1).toNat ⟨0, 0, 0⟩)
      have g1 := putAll_inv j1 r.list (b + 1) (List.replicate (relN (hdGet l2 b) - 1).toNat ⟨0, 0, 0⟩)
      have g2 := putAll_inv j2 r.list (b + 1) (List.replicate (relN (hdGet l2 b) - 1).toNat ⟨0, 0, 0⟩)
      generalize Go.Proofs.YtebnelihlgdciaaGreat.putAll r.dev r.list (b + 1) (List.replicate (relN (hdGet l2 b) - 1).toNat ⟨0, 0, 0⟩) = s at *
      generalize Go.Proofs.YtebnelihlgdciaaGreat.putAll r'.dev r.list (b + 1) (List.replicate (relN (hdGet l2 b) - 1).toNat ⟨0, 0, 0⟩) = s' at *
      rw [e3]
      split
      · exact ⟨⟨e1, e2, rfl, g1, g2⟩, rfl⟩
      · exact ⟨⟨e1, e2, rfl, g1, g2⟩, rfl⟩

end Go.Proofs.YtebnelihlgdciaaGreat

/- Plain: what was put lasts through every crash. -/
namespace Go.Proofs.YtebnelihlgdciaaGreat
set_option linter.unusedVariables false

theorem Dev.store_ok0 {S : Dev} {i x : Nat} (h : S.storeE (i : Int) = 0) : i < S.cache.length ∧ (S.store (i : Int) x).cache = S.cache.set i x ∧ (S.store (i : Int) x).dirty = S.dirty.set (i / 8) true := by
  unfold Dev.storeE at h
  by_cases c1 : (i : Int) < 0 ∨ (S.cache.length : Int) ≤ (i : Int)
  · rw [if_pos c1] at h; simp at h
  rw [if_neg c1] at h
  cases c2 : S.stop
  · unfold Dev.store
    rw [if_neg c1, c2]
    simp only [Bool.false_eq_true, if_false]
    obtain ⟨e1, e2, e3, e4, e5⟩ := S.step_rest
    refine ⟨by omega, ?_, ?_⟩
    · simp [Dev.put, e2]
    · simp [Dev.put, e4]
  · rw [c2] at h; simp at h

/-- The words of headers that were put. -/
structure PutAt (S : Dev) (b : Nat) (l : List Hd) (i : Nat) (T : Dev) : Prop where
  inv : T.inv
  lenC : T.cache.length = S.cache.length
  lenD : T.dirty.length = S.dirty.length
  fits : i = 0 ∨ 256 + b + i ≤ S.cache.length
  cache : ∀ j, T.cache.getD j 0 = if 256 + b ≤ j ∧ j < 256 + b + i then encN ((j - 256 : Nat) : Int) (l.getD (j - 256 - b) default).k (l.getD (j - 256 - b) default).c (l.getD (j - 256 - b) default).l else S.cache.getD j 0
  dirty : ∀ q, (∀ k, k < i → (256 + b + k) / 8 ≠ q) → T.dirty.getD q false = S.dirty.getD q false

theorem putTo_at {S : Dev} (h : S.inv) (L : List Hd) (b : Nat) (l : List Hd) : ∀ i, (putTo S L b l i).err = 0 → PutAt S b l i (putTo S L b l i).dev
  | 0, _ => ⟨h, rfl, rfl, .inl rfl, fun j => by rw [if_neg (by omega)]; rfl, fun q _ => rfl⟩
  | i + 1, he => by
    have hst : putTo S L b l (i + 1) = putStep (putTo S L b l i) (b + i) (l.getD i default) := rfl
    rw [hst] at he ⊢
    unfold putStep at he ⊢
    by_cases h0 : (putTo S L b l i).err ≠ 0
    · rw [if_pos h0] at he; exact absurd he h0
    rw [if_neg h0] at he ⊢
    have t := putTo_at h L b l i (by simpa using h0)
    generalize (putTo S L b l i).dev = T at *
    dsimp only at he ⊢
    rw [show (256 + ((b + i : Nat) : Int)) = ((256 + b + i : Nat) : Int) by omega] at he ⊢
    obtain ⟨g1, g2, g3⟩ := Dev.store_ok0 (x := encN ((b + i : Nat) : Int) (l.getD i default).k (l.getD i default).c (l.getD i default).l) he
    have hlc := t.lenC
    have hwD := t.inv.wf.lenD
    refine ⟨Dev.store_inv t.inv _ _ (encN_lt _ _ _ _), by rw [g2]; simp [t.lenC], by rw [g3]; simp [t.lenD], .inr (by omega), fun j => ?_, fun q hq => ?_⟩
    · rw [g2, getD_setN _ _ _ _ g1, t.cache j]
      by_cases e : j = 256 + b + i
      · subst e
        rw [if_pos rfl, if_pos (by omega), show 256 + b + i - 256 = b + i by omega, show b + i - b = i by omega]
      · rw [if_neg e]
        by_cases c : 256 + b ≤ j ∧ j < 256 + b + i
        · rw [if_pos c, if_pos (by omega)]
        · rw [if_neg c, if_neg (by omega)]
    · rw [g3, getD_setB _ _ _ _ (by omega), if_neg (fun e => hq i (by omega) e.symm)]
      exact t.dirty q (fun k hk => hq k (by omega))

/-- All headers' words last. -/
structure Clean (S : Dev) (B : Nat) : Prop where
  inv : S.inv
  fits : 256 + B ≤ S.cache.length
  clean : ∀ b, 1 ≤ b → b < B → S.dirty.getD ((256 + b) / 8) false = false

theorem put_clean {S : Dev} {B : Nat} (h : Clean S B) {L : List Hd} (hL : L.length = B) {b : Int} {l : List Hd} (he : (putAll S L b l).err = 0) :
    Clean (putAll S L b l).dev B ∧ ∃ k : Nat, b = (k : Int) ∧ 1 ≤ k ∧ k + l.length ≤ B ∧ allRight l l.length ∧
      ∀ q, 1 ≤ q → q < B → (putAll S L b l).dev.cache.getD (256 + q) 0 = if k ≤ q ∧ q < k + l.length then encN (q : Int) (l.getD (q - k) default).k (l.getD (q - k) default).c (l.getD (q - k) default).l else S.cache.getD (256 + q) 0 := by
  unfold putAll at he ⊢
  by_cases c1 : b < 1 ∨ (L.length : Int) < b ∨ (L.length : Int) - b < (l.length : Int) ∨ ¬ allRight l l.length
  · rw [if_pos c1] at he; simp at he
  rw [if_neg c1] at he ⊢
  obtain ⟨k, rfl⟩ := Int.eq_ofNat_of_zero_le (show 0 ≤ b by omega)
  have hr : allRight l l.length := Decidable.byContradiction fun h => c1 (.inr (.inr (.inr h)))
  by_cases c2 : l.length = 0
  · rw [if_pos c2]
    exact ⟨h, k, rfl, by omega, by omega, hr, fun q _ _ => by rw [if_neg (by omega)]⟩
  rw [if_neg c2] at he ⊢
  rw [show ((k : Nat) : Int).toNat = k from rfl] at he ⊢
  unfold putIn at he ⊢
  by_cases c3 : (putTo S L k l l.length).err ≠ 0
  · rw [if_pos c3] at he; exact absurd he c3
  rw [if_neg c3] at he ⊢
  have t := putTo_at h.inv L k l l.length (by simpa using c3)
  generalize (putTo S L k l l.length).dev = T at *
  dsimp only at he ⊢
  rw [show (256 + (k : Int)) = ((256 + k : Nat) : Int) by omega] at he ⊢
  obtain ⟨q1, q2, q3, q4, q5⟩ := Dev.persist_clean t.inv (256 + k) l.length (by omega) he
  have hfit := h.fits
  refine ⟨⟨Dev.persist_inv t.inv _ _, by rw [q1, t.lenC]; exact hfit, fun q h1 h2 => ?_⟩, k, rfl, by omega, by omega, hr, fun q h1 h2 => ?_⟩
  · by_cases c : ∃ i, i < l.length ∧ (256 + k + i) / 8 = (256 + q) / 8
    · obtain ⟨i, hi, e⟩ := c
      rw [← e]
      exact q4 (256 + k + i) (by omega) (by omega)
    · refine q5 _ ?_
      rw [t.dirty _ (fun i hi e => c ⟨i, hi, e⟩)]
      exact h.clean q h1 h2
  · rw [q1, t.cache]
    by_cases c : k ≤ q ∧ q < k + l.length
    · rw [if_pos (by omega), if_pos c, show 256 + q - 256 = q by omega]
    · rw [if_neg (by omega), if_neg c]

theorem fmtTo_inv {S : Dev} (h : S.inv) (k : Nat) : (S.fmtTo k).inv := by
  induction k with
  | zero => exact h
  | succ k ih =>
    unfold Dev.fmtTo
    split
    · exact h
    · exact Dev.store_inv ih _ _ (encN_lt _ _ _ _)
theorem fmt_clean {S : Dev} (h : S.inv) (hv : S.live) (ho : S.ok 100) {B : Nat} (hB2 : 2 ≤ B) (hlen : 256 + B ≤ S.cache.length) : Clean (S.fmt B) B := by
  obtain ⟨p1, p2, p3, p5, p4⟩ := fmtTo_props hv ho B hlen
  have he := (p1.persist 257 (B - 1) (by omega) (by rw [p3, p5]; exact h.wf.lenD) (by rw [p3]; omega)).1
  unfold Dev.fmt
  rw [show ((B : Int) - 1) = ((B - 1 : Nat) : Int) by omega]
  rw [show ((257 : Nat) : Int) = 257 from rfl] at he
  have hi := fmtTo_inv h B
  obtain ⟨q1, q2, q3, q4, q5⟩ := Dev.persist_clean hi 257 (B - 1) (by omega) he
  rw [show ((257 : Nat) : Int) = 257 from rfl] at q1 q4
  exact ⟨Dev.persist_inv hi _ _, by rw [q1, p3]; exact hlen, fun b h1 h2 => q4 (256 + b) (by omega) (by omega)⟩

/-- Behind a crash the headers are what they were. -/
theorem crash_words {S : Dev} {B : Nat} (h : Clean S B) (cs : List Nat) (b : Nat) (h1 : 1 ≤ b) (h2 : b < B) : devWord (S.crash cs) b = devWord S b := by
  unfold devWord Dev.crash freshDev
  dsimp only
  rw [show (256 + (b : Int)) = ((256 + b : Nat) : Int) by omega, peek_in, peek_in]
  exact Dev.crash_clean h.inv cs _ (h.clean b h1 h2)
theorem allOk_of {f f' : Nat → Nat} {B : Nat} (h : ∀ b, 1 ≤ b → b < B → f b = f' b) (hk : AllOk f' B) : AllOk f B := fun b h1 h2 => by rw [h b h1 h2]; exact hk b h1 h2
theorem hds_of {f f' : Nat → Nat} {B : Nat} (h : ∀ b, 1 ≤ b → b < B → f b = f' b) : hds f B = hds f' B := by
  apply List.map_congr_left
  intro b hb
  unfold hdF
  split
  · rfl
  · rw [h b (by omega) (by simpa using hb)]

theorem put_words {S : Dev} {B : Nat} (h : Clean S B) (hk : AllOk (devWord S) B) {L : List Hd} (hL : L.length = B) {b : Int} {l : List Hd} (he : (putAll S L b l).err = 0) :
    AllOk (devWord (putAll S L b l).dev) B ∧ ∀ i, i < l.length → hdGet (hds (devWord (putAll S L b l).dev) B) (b + (i : Int)) = l.getD i default := by
  obtain ⟨hc, k, rfl, k1, k2, hr, hw⟩ := put_clean h hL he
  have hword : ∀ q, 1 ≤ q → q < B → devWord (putAll S L k l).dev q = if k ≤ q ∧ q < k + l.length then encN (q : Int) (l.getD (q - k) default).k (l.getD (q - k) default).c (l.getD (q - k) default).l else devWord S q := by
    intro q h1 h2
    unfold devWord
    rw [show (256 + (q : Int)) = ((256 + q : Nat) : Int) by omega, peek_in, peek_in]
    exact hw q h1 h2
  constructor
  · intro q h1 h2
    rw [hword q h1 h2]
    split
    · rename_i c
      rw [dec_enc _ _ _ _ (hr (q - k) (by omega))]
    · exact hk q h1 h2
  · intro i hi
    have hq : (k : Int) + (i : Int) = ((k + i : Nat) : Int) := by omega
    rw [hq]
    unfold hdGet
    rw [hds_length, if_neg (by omega), show ((k + i : Nat) : Int).toNat = k + i by omega]
    have : (hds (devWord (putAll S L k l).dev) B).getD (k + i) default = hdF (devWord (putAll S L k l).dev) (k + i) := by
      rw [List.getD_eq_getElem?_getD]
      simp [hds, show k + i < B by omega]
    rw [this]
    unfold hdF
    rw [if_neg (by omega), hword (k + i) (by omega) (by omega), if_pos (by omega), show k + i - k = i by omega, dec_enc _ _ _ _ (hr i hi)]

theorem cnt_zero (B k : Nat) (hk : k ≤ B) : cntKind (List.replicate B ⟨0, 0, 0⟩) 0 k = k - 1 := by
  induction k with
  | zero => rfl
  | succ k ih =>
    unfold cntKind
    rw [ih (by omega)]
    have : (List.replicate B (⟨0, 0, 0⟩ : Hd)).getD k default = ⟨0, 0, 0⟩ := by simp [List.getD_eq_getElem?_getD, List.getElem?_replicate, show k < B by omega]
    rw [this]
    split <;> simp at * <;> omega

end Go.Proofs.YtebnelihlgdciaaGreat

/- Plain: managers whose headers last; what calls do to them; what a crash leaves. -/
namespace Go.Proofs.YtebnelihlgdciaaGreat
set_option linter.unusedVariables false

/-- Whatever becomes of a word is among these. -/
structure Among (S : Dev) (i : Nat) (V : Nat → Prop) : Prop where
  cache : V (S.cache.getD i 0)
  lasting : V (S.lasting.getD i 0)
  flushed : S.pending.getD (i / 8) false = true → V (S.flushed.getD i 0)

section
variable {S : Dev} {i : Nat} {V : Nat → Prop}
theorem Among.step (h : Among S i V) : Among S.step i V := by
  obtain ⟨e1, e2, e3, e4, e5⟩ := S.step_rest
  exact ⟨by rw [e2]; exact h.cache, by rw [e1]; exact h.lasting, fun hp => by rw [e3]; rw [e5] at hp; exact h.flushed hp⟩
theorem Among.store (h : Among S i V) (j : Int) (x : Nat) (hx : j = (i : Int) → V x) : Among (S.store j x) i V := by
  unfold Dev.store
  by_cases c : j < 0 ∨ (S.cache.length : Int) ≤ j
  · rw [if_pos c]; exact h
  · rw [if_neg c]
    split
    · exact h.step
    · have k := h.step
      obtain ⟨e1, e2, e3, e4, e5⟩ := S.step_rest
      refine ⟨?_, k.lasting, k.flushed⟩
      show V ((S.step.cache.set j.toNat x).getD i 0)
      rw [getD_setN _ _ _ _ (by rw [e2]; omega)]
      by_cases e : i = j.toNat
      · rw [if_pos e]; exact hx (by omega)
      · rw [if_neg e]; exact k.cache
theorem Among.hold (h : Among S i V) (hS : S.wf) (j : Nat) (hj : j < S.dirty.length) : Among (S.hold j) i V := by
  unfold Dev.hold
  split
  · have hD := hS.lenD
    refine ⟨h.cache, h.lasting, fun hp => ?_⟩
    dsimp only at hp ⊢
    rw [getD_setB _ _ _ _ (by rw [hS.lenP]; exact hj)] at hp
    rw [splice_seg_getD _ _ _ _ (by rw [hS.lenF]; omega) (by omega)]
    by_cases e : i / 8 = j
    · rw [if_pos e]; exact h.cache
    · rw [if_neg e] at hp ⊢
      exact h.flushed hp
  · exact h
theorem Among.flush (h : Among S i V) (hS : S.inv) (j : Int) : Among (S.flush j) i V := by
  unfold Dev.flush
  by_cases c : j < 0 ∨ (S.dirty.length : Int) ≤ j
  · rw [if_pos c]; exact h
  · rw [if_neg c]
    split
    · exact h.step
    · exact h.step.hold (Dev.step_wf hS.wf) _ (by rw [S.step_rest.2.2.2.1]; omega)
theorem Among.fence (h : Among S i V) (hS : S.wf) : Among S.fence i V := by
  cases hs : S.stop
  · have a := Dev.fence_at hS hs
    refine ⟨by rw [a.cache]; exact h.cache, ?_, fun hp => ?_⟩
    · rw [a.lasting i]
      by_cases c : i / 8 < S.dirty.length ∧ S.pending.getD (i / 8) false = true
      · rw [if_pos c]; exact h.flushed c.2
      · rw [if_neg c]; exact h.lasting
    · rw [a.flushed]
      rw [a.pending] at hp
      by_cases c : i / 8 < S.dirty.length
      · rw [if_pos c] at hp; cases hp
      · rw [if_neg c] at hp; exact h.flushed hp
  · unfold Dev.fence
    rw [hs]
    exact h.step
theorem Among.flushRun (h : Among S i V) (hS : S.inv) (a : Nat) : ∀ m, Among (S.flushRun a m).dev i V
  | 0 => h
  | m + 1 => by
    have := Among.flushRun h hS a m
    rw [Dev.flushRun]
    split
    · exact this
    · exact this.flush (Dev.flushRun_inv hS a m) _
theorem Among.persist (h : Among S i V) (hS : S.inv) (p n : Int) : Among (S.persist p n).dev i V := by
  unfold Dev.persist
  split
  · exact h
  · split
    · unfold Dev.persistN
      have := h.flushRun hS (p / 8).toNat ((p + n - 1) / 8 - p / 8 + 1).toNat
      split
      · exact this
      · exact this.fence (Dev.flushRun_inv hS _ _).wf
    · exact h.fence hS.wf
theorem Among.putTo (h : Among S i V) (L : List Hd) (b : Nat) (l : List Hd) (hx : ∀ k, k < l.length → i = 256 + b + k → V (encN ((b + k : Nat) : Int) (l.getD k default).k (l.getD k default).c (l.getD k default).l)) : ∀ k, k ≤ l.length → Among (putTo S L b l k).dev i V
  | 0, _ => h
  | k + 1, hk => by
    have := Among.putTo h L b l hx k (by omega)
    unfold Go.Proofs.YtebnelihlgdciaaGreat.putTo putStep
    split
    · exact this
    · exact this.store _ _ (fun e => hx k (by omega) (by omega))
theorem Among.putAll (h : Among S i V) (hS : S.inv) (L : List Hd) (b : Int) (l : List Hd) (hx : ∀ k, k < l.length → (i : Int) = 256 + b + k → allRight l l.length → V (encN (b + k) (l.getD k default).k (l.getD k default).c (l.getD k default).l)) : Among (putAll S L b l).dev i V := by
  unfold Go.Proofs.YtebnelihlgdciaaGreat.putAll
  by_cases c : b < 1 ∨ (L.length : Int) < b ∨ (L.length : Int) - b < (l.length : Int) ∨ ¬ allRight l l.length
  · rw [if_pos c]; exact h
  · rw [if_neg c]
    split
    · exact h
    · have hr : allRight l l.length := Decidable.byContradiction fun h => c (.inr (.inr (.inr h)))
      have t := h.putTo L b.toNat l (fun k hk e => by
        have := hx k hk (by omega) hr
        rw [show ((b.toNat + k : Nat) : Int) = b + k by omega]
        exact this) l.length (Nat.le_refl _)
      unfold putIn
      split
      · exact t
      · exact t.persist (putTo_inv hS _ _ _ _) _ _
theorem Among.crash (h : Among S i V) (hS : S.inv) (cs : List Nat) : V ((S.crashW cs).getD i 0) := by
  unfold Dev.crashW
  have hls : ∀ l ∈ dirtyL S.dirty S.dirty.length, l < S.dirty.length := fun l hl => ((dirtyL_mem _ _ _).1 hl).1
  generalize dirtyL S.dirty S.dirty.length = ls at *
  have hw := hS.wf
  have hD := hw.lenD
  have key : ∀ k, k ≤ ls.length → V ((crashTo S ls cs k).getD i 0) := by
    intro k
    induction k with
    | zero => intro _; exact h.lasting
    | succ k ih =>
      intro hk
      have ih := ih (by omega)
      have hlen := (crashTo_wf hw ls cs hls k (by omega)).1
      have hm : ls.getD k 0 ∈ ls := by
        rw [List.getD_eq_getElem?_getD, List.getElem?_eq_getElem (by omega)]
        exact List.getElem_mem _
      have hl := hls _ hm
      rw [show crashTo S ls cs (k + 1) = crashOne S (crashTo S ls cs k) (ls.getD k 0) (cs.getD k 0) from rfl]
      generalize crashTo S ls cs k = out at *
      generalize ls.getD k 0 = l at *
      unfold crashOne
      split
      · split
        · rename_i hp
          rw [splice_seg_getD _ _ _ _ (by omega) (by rw [hw.lenF]; omega)]
          by_cases e : i / 8 = l
          · rw [if_pos e]; exact h.flushed (by rw [e]; exact hp)
          · rw [if_neg e]; exact ih
        · exact ih
      · split
        · rw [splice_seg_getD _ _ _ _ (by omega) (by omega)]
          by_cases e : i / 8 = l
          · rw [if_pos e]; exact h.cache
          · rw [if_neg e]; exact ih
        · exact ih
  exact key _ (Nat.min_le_left _ _)
theorem Among.arm (h : Among S i V) (n : Int) : Among (S.arm n) i V := ⟨h.cache, h.lasting, h.flushed⟩
end

/-- A manager all of whose headers last. -/
structure BmOk (B : Nat) (m : Bm) : Prop where
  lenL : m.list.length = B
  lenF : m.free.length = B
  clean : Clean m.dev B
  right : ∀ b, b < B → hdRight (m.list.getD b default).k (m.list.getD b default).c (m.list.getD b default).l = true
  word : ∀ b, 1 ≤ b → b < B → m.dev.cache.getD (256 + b) 0 = encN (b : Int) (m.list.getD b default).k (m.list.getD b default).c (m.list.getD b default).l
  free : ∀ b, fb m.free b = true ↔ 1 ≤ b ∧ b < B ∧ (m.list.getD b default).k = 0
  large : ∀ b, 1 ≤ b → b < B → (m.list.getD b default).k = 2 → (b : Int) + (m.list.getD b default).l ≤ B ∧ ∀ i : Nat, 1 ≤ i → (i : Int) < (m.list.getD b default).l → m.list.getD (b + i) default = ⟨3, 0, i⟩

/-- Words that are headers. -/
def IsHd (q : Nat) (x : Nat) : Prop := (decN (q : Int) x).code = 0

theorem BmOk.among {B : Nat} {m : Bm} (h : BmOk B m) {q : Nat} (h1 : 1 ≤ q) (h2 : q < B) : Among m.dev (256 + q) (fun x => x = encN (q : Int) (m.list.getD q default).k (m.list.getD q default).c (m.list.getD q default).l) := by
  have hc := h.clean.clean q h1 h2
  refine ⟨h.word q h1 h2, ?_, fun hp => ?_⟩
  · rw [h.clean.inv.sound _ hc]; exact h.word q h1 h2
  · have := h.clean.inv.pend _ hp
    rw [hc] at this; cases this
theorem Among.mono {S : Dev} {i : Nat} {V V' : Nat → Prop} (h : Among S i V) (hv : ∀ x, V x → V' x) : Among S i V' := ⟨hv _ h.cache, hv _ h.lasting, fun hp => hv _ (h.flushed hp)⟩

/-- What a call may do to headers: V: all versions are headers; those of blocks outside T are as they were. -/
def Stay (m m' : Bm) (B : Nat) (T : Nat → Prop) : Prop := m'.dev.inv ∧ m'.dev.cache.length = m.dev.cache.length ∧ ∀ q, 1 ≤ q → q < B → Among m'.dev (256 + q) (IsHd q) ∧ (¬ T q → Among m'.dev (256 + q) (fun x => x = encN (q : Int) (m.list.getD q default).k (m.list.getD q default).c (m.list.getD q default).l))

theorem isHd_enc {q : Nat} {k c l : Int} (h : hdRight k c l = true) : IsHd q (encN (q : Int) k c l) := by
  unfold IsHd; rw [dec_enc _ _ _ _ h]
theorem BmOk.stay {B : Nat} {m : Bm} (h : BmOk B m) (T : Nat → Prop) : Stay m m B T :=
  ⟨h.clean.inv, rfl, fun q h1 h2 => ⟨(h.among h1 h2).mono (fun x hx => by rw [hx]; exact isHd_enc (h.right q h2)), fun _ => h.among h1 h2⟩⟩

theorem store_clen (S : Dev) (i : Int) (x : Nat) : (S.store i x).cache.length = S.cache.length := by
  obtain ⟨_, e2, _⟩ := S.step_rest
  unfold Dev.store
  split
  · rfl
  · split
    · rw [e2]
    · show (S.step.cache.set i.toNat x).length = _
      rw [List.length_set, e2]
theorem flush_clen (S : Dev) (j : Int) : (S.flush j).cache.length = S.cache.length := by
  obtain ⟨_, e2, _⟩ := S.step_rest
  unfold Dev.flush
  split
  · rfl
  · split
    · rw [e2]
    · unfold Dev.hold
      split
      · dsimp only; rw [e2]
      · rw [e2]
theorem putTo_clen (S : Dev) (L : List Hd) (b : Nat) (l : List Hd) : ∀ i, (putTo S L b l i).dev.cache.length = S.cache.length
  | 0 => rfl
  | i + 1 => by
    have := putTo_clen S L b l i
    unfold putTo putStep
    split
    · exact this
    · dsimp only; rw [store_clen]; exact this
theorem flushRun_clen (S : Dev) (a : Nat) : ∀ m, (S.flushRun a m).dev.cache.length = S.cache.length
  | 0 => rfl
  | m + 1 => by
    have := flushRun_clen S a m
    rw [Dev.flushRun]
    split
    · exact this
    · dsimp only; rw [flush_clen]; exact this
theorem persist_clen {S : Dev} (h : S.inv) (p n : Int) : (S.persist p n).dev.cache.length = S.cache.length := by
  have hf : ∀ {U : Dev}, U.wf → U.fence.cache.length = U.cache.length := by
    intro U hU
    cases hs : U.stop
    · rw [(Dev.fence_at hU hs).cache]
    · unfold Dev.fence; rw [hs]; simp only [if_true]; rw [U.step_rest.2.1]
  unfold Dev.persist
  split
  · rfl
  · split
    · unfold Dev.persistN
      split
      · exact flushRun_clen _ _ _
      · dsimp only; rw [hf (Dev.flushRun_inv h _ _).wf]; exact flushRun_clen _ _ _
    · exact hf h.wf
theorem putAll_clen {S : Dev} (h : S.inv) (L : List Hd) (b : Int) (l : List Hd) : (putAll S L b l).dev.cache.length = S.cache.length := by
  unfold putAll
  split
  · rfl
  · split
    · rfl
    · unfold putIn
      split
      · exact putTo_clen _ _ _ _ _
      · dsimp only; rw [persist_clen (putTo_inv h _ _ _ _)]; exact putTo_clen _ _ _ _ _

theorem Stay.put {m m' : Bm} {B : Nat} {T : Nat → Prop} (h : Stay m m' B T) (L : List Hd) (b : Int) (l : List Hd) (f : List Bool) (l2 : List Hd) (hT : ∀ k : Nat, k < l.length → ∀ q : Nat, (q : Int) = b + k → T q) : Stay m ⟨(putAll m'.dev L b l).dev, l2, f⟩ B T := by
  obtain ⟨h1, h2, h3⟩ := h
  refine ⟨putAll_inv h1 _ _ _, by rw [← h2]; exact putAll_clen h1 _ _ _, fun q q1 q2 => ?_⟩
  obtain ⟨g1, g2⟩ := h3 q q1 q2
  refine ⟨g1.putAll h1 L b l (fun k hk e hr => ?_), fun hn => (g2 hn).putAll h1 L b l (fun k hk e _ => absurd (hT k hk q (by omega)) hn)⟩
  rw [show b + (k : Int) = (q : Int) by omega]
  exact isHd_enc (hr k hk)

end Go.Proofs.YtebnelihlgdciaaGreat

/- Plain: what Small, Large, Release do to a manager all of whose headers last. -/
namespace Go.Proofs.YtebnelihlgdciaaGreat
set_option linter.unusedVariables false

/-- Headers and their words. -/
structure BmW (B : Nat) (S : Dev) (L : List Hd) : Prop where
  lenL : L.length = B
  clean : Clean S B
  right : ∀ b, b < B → hdRight (L.getD b default).k (L.getD b default).c (L.getD b default).l = true
  word : ∀ b, 1 ≤ b → b < B → S.cache.getD (256 + b) 0 = encN (b : Int) (L.getD b default).k (L.getD b default).c (L.getD b default).l
theorem BmOk.w {B : Nat} {m : Bm} (h : BmOk B m) : BmW B m.dev m.list := ⟨h.lenL, h.clean, h.right, h.word⟩

theorem putTo_list (S : Dev) (L : List Hd) (b : Nat) (l : List Hd) : ∀ i, b + i ≤ L.length → (putTo S L b l i).err = 0 → ∀ q, (putTo S L b l i).list.getD q default = if b ≤ q ∧ q < b + i then l.getD (q - b) default else L.getD q default
  | 0, _, _, q => by rw [if_neg (by omega)]; rfl
  | i + 1, hi, he, q => by
    have hst : putTo S L b l (i + 1) = putStep (putTo S L b l i) (b + i) (l.getD i default) := rfl
    rw [hst] at he ⊢
    have hlen := putTo_len S L b l i
    unfold putStep at he ⊢
    by_cases h0 : (putTo S L b l i).err ≠ 0
    · rw [if_pos h0] at he; exact absurd he h0
    rw [if_neg h0] at he ⊢
    have ih := putTo_list S L b l i (by omega) (by simpa using h0) q
    dsimp only at he ⊢
    rw [if_pos he]
    rw [List.getD_eq_getElem?_getD, List.getElem?_set]
    by_cases e : b + i = q
    · rw [if_pos e, if_pos (by omega), if_pos (by omega), show q - b = i by omega]; rfl
    · rw [if_neg e, ← List.getD_eq_getElem?_getD, ih]
      by_cases c : b ≤ q ∧ q < b + i
      · rw [if_pos c, if_pos (by omega)]
      · rw [if_neg c, if_neg (by omega)]

theorem BmW.put {B : Nat} {S : Dev} {L : List Hd} (h : BmW B S L) {k : Nat} {l : List Hd} (hk1 : 1 ≤ k) (hkB : k + l.length ≤ B) (hr : allRight l l.length) (he : (putAll S L (k : Int) l).err = 0) :
    BmW B (putAll S L (k : Int) l).dev (putAll S L (k : Int) l).list ∧ ∀ q, (putAll S L (k : Int) l).list.getD q default = if k ≤ q ∧ q < k + l.length then l.getD (q - k) default else L.getD q default := by
  obtain ⟨hc, k', e, _, _, _, hw⟩ := put_clean h.clean h.lenL he
  obtain rfl : k' = k := by omega
  have hlist : ∀ q, (putAll S L (k' : Int) l).list.getD q default = if k' ≤ q ∧ q < k' + l.length then l.getD (q - k') default else L.getD q default := by
    intro q
    rw [putAll_in S hk1 (by rw [h.lenL]; exact hkB) hr] at he ⊢
    by_cases hl : l.length = 0
    · rw [if_pos hl, if_neg (by omega)]
    · rw [if_neg hl] at he ⊢
      unfold putIn at he ⊢
      by_cases c : (putTo S L k' l l.length).err ≠ 0
      · rw [if_pos c] at he; exact absurd he c
      · rw [if_neg c]
        exact putTo_list S L k' l l.length (by rw [h.lenL]; exact hkB) (by simpa using c) q
  refine ⟨⟨by rw [putAll_len, h.lenL], hc, fun b hb => ?_, fun b h1 h2 => ?_⟩, hlist⟩
  · rw [hlist b]
    by_cases c : k' ≤ b ∧ b < k' + l.length
    · rw [if_pos c]; exact hr _ (by omega)
    · rw [if_neg c]; exact h.right b hb
  · rw [hw b h1 h2, hlist b]
    by_cases c : k' ≤ b ∧ b < k' + l.length
    · rw [if_pos c, if_pos c]
    · rw [if_neg c, if_neg c]; exact h.word b h1 h2

theorem step_dead {S : Dev} (h : S.stop = true) : S.step.dead = true := by unfold Dev.step; rw [if_pos h]
theorem flush_dead {S : Dev} {j : Int} (h0 : 0 ≤ j) (h1 : j < S.dirty.length) (he : S.flushE j ≠ 0) : (S.flush j).dead = true := by
  unfold Dev.flushE at he
  unfold Dev.flush
  rw [if_neg (by omega)] at he ⊢
  by_cases hs : S.stop = true
  · rw [if_pos hs]; exact step_dead hs
  · rw [if_neg hs] at he; exact absurd rfl he
theorem fence_dead {S : Dev} (he : S.fenceE ≠ 0) : S.fence.dead = true := by
  unfold Dev.fenceE at he
  unfold Dev.fence
  by_cases hs : S.stop = true
  · rw [if_pos hs]; exact step_dead hs
  · rw [if_neg hs] at he; exact absurd rfl he
theorem flushRun_dead {S : Dev} (a : Nat) : ∀ m, a + m ≤ S.dirty.length → (S.flushRun a m).err ≠ 0 → (S.flushRun a m).dev.dead = true
  | 0, _, h => absurd rfl h
  | m + 1, hm, h => by
    rw [Dev.flushRun] at h ⊢
    by_cases c : (S.flushRun a m).err ≠ 0
    · rw [if_pos c] at h ⊢; exact flushRun_dead a m (by omega) h
    · rw [if_neg c] at h ⊢
      exact flush_dead (by omega) (by rw [flushRun_dl]; omega) h
theorem persist_dead {S : Dev} (hS : S.inv) {p n : Nat} (hn : 0 < n) (hp : p + n ≤ S.cache.length) (he : (S.persist p n).err ≠ 0) : (S.persist p n).dev.dead = true := by
  have hD := hS.wf.lenD
  unfold Dev.persist at he ⊢
  rw [if_neg (by omega), if_pos (by omega)] at he ⊢
  unfold Dev.persistN at he ⊢
  by_cases c : (S.flushRun ((p : Int) / 8).toNat (((p : Int) + n - 1) / 8 - (p : Int) / 8 + 1).toNat).err ≠ 0
  · rw [if_pos c] at he ⊢
    exact flushRun_dead _ _ (by omega) c
  · rw [if_neg c] at he ⊢
    exact fence_dead he
theorem store_dead {S : Dev} {j : Int} {x : Nat} (h0 : 0 ≤ j) (h1 : j < S.cache.length) (he : S.storeE j ≠ 0) : (S.store j x).dead = true := by
  unfold Dev.storeE at he
  unfold Dev.store
  rw [if_neg (by omega)] at he ⊢
  by_cases hs : S.stop = true
  · rw [if_pos hs]; exact step_dead hs
  · rw [if_neg hs] at he; exact absurd rfl he
theorem putTo_dead {S : Dev} (L : List Hd) (b : Nat) (l : List Hd) : ∀ i, 256 + b + i ≤ S.cache.length → (putTo S L b l i).err ≠ 0 → (putTo S L b l i).dev.dead = true
  | 0, _, h => absurd rfl h
  | i + 1, hi, h => by
    have hst : putTo S L b l (i + 1) = putStep (putTo S L b l i) (b + i) (l.getD i default) := rfl
    rw [hst] at h ⊢
    unfold putStep at h ⊢
    by_cases c : (putTo S L b l i).err ≠ 0
    · rw [if_pos c] at h ⊢; exact putTo_dead L b l i (by omega) h
    · rw [if_neg c] at h ⊢
      exact store_dead (by omega) (by rw [putTo_clen]; omega) h
theorem putAll_dead {S : Dev} (hS : S.inv) {L : List Hd} {k : Nat} {l : List Hd} (hk1 : 1 ≤ k) (hkB : k + l.length ≤ L.length) (hr : allRight l l.length) (hf : 256 + L.length ≤ S.cache.length) : (putAll S L (k : Int) l).err = 0 ∨ (putAll S L (k : Int) l).dev.dead = true := by
  by_cases he : (putAll S L (k : Int) l).err = 0
  · exact .inl he
  right
  rw [putAll_in S hk1 hkB hr] at he ⊢
  by_cases hl : l.length = 0
  · rw [if_pos hl] at he; exact absurd rfl he
  · rw [if_neg hl] at he ⊢
    unfold putIn at he ⊢
    by_cases c : (putTo S L k l l.length).err ≠ 0
    · rw [if_pos c]
      exact putTo_dead L k l l.length (by omega) c
    · rw [if_neg c] at he ⊢
      have : (256 : Int) + (k : Int) = ((256 + k : Nat) : Int) := by omega
      rw [this] at he ⊢
      exact persist_dead (putTo_inv hS L k l l.length) (by omega) (by rw [putTo_clen]; omega) he

theorem allRight_one {h : Hd} (hr : hdRight h.k h.c h.l = true) : allRight [h] [h].length := by
  intro i hi
  obtain rfl : i = 0 := by simp at hi; omega
  exact hr

variable {B : Nat} {m : Bm}
theorem run_free {f : List Bool} {a k n : Nat} (hr : IsRun (fb f) a k) (hn : n ≤ k) : ∀ q, a ≤ q → q < a + n → fb f q = true := fun q h1 h2 => hr.2.1 q h1 (by omega)

/-- Free blocks are no parts of a large object. -/
theorem BmOk.part {h : BmOk B m} {b i : Nat} (h1 : 1 ≤ b) (h2 : b < B) (hk : (m.list.getD b default).k = 2) (hi : 1 ≤ i) (hi2 : (i : Int) < (m.list.getD b default).l) : fb m.free (b + i) = false := by
  cases hq : fb m.free (b + i) with
  | false => rfl
  | true =>
    have := ((h.free (b + i)).1 hq).2.2
    rw [(h.large b h1 h2 hk).2 i hi hi2] at this
    cases this

theorem small_done (h : BmOk B m) (k : Int) : Stay m (m.small k).bm B (fun q => fb m.free q = true) ∧ ((m.small k).bm.dev.dead = true ∨ BmOk B (m.small k).bm) := by
  unfold Bm.small
  by_cases hr : hdRight 1 k 0 = false
  · rw [if_pos hr]; exact ⟨h.stay _, .inr h⟩
  rw [if_neg hr]
  have hr' : hdRight 1 k 0 = true := by simpa using hr
  by_cases ht : (takeR m.free 1).2.2 ≠ 0
  · rw [if_pos ht, takeR_err ht]; exact ⟨h.stay _, .inr h⟩
  rw [if_neg ht]
  obtain ⟨a, c, hta, hrun, hc, hfit⟩ := takeR_fit (l := m.free) (z := 1) (Nat.le_refl _) (by simpa using ht)
  have hta' : takeR m.free 1 = (setTo m.free a false 1, (a : Int), 0) := hta
  rw [hta']
  dsimp only
  have hfr := run_free hrun hc
  have hfa := hfr a (Nat.le_refl _) (by omega)
  obtain ⟨a1, a2, a3⟩ := (h.free a).1 hfa
  refine ⟨(h.stay _).put _ _ _ _ _ (fun j hj q e => ?_), ?_⟩
  · have : q = a := by simp at hj; omega
    subst this; exact hfa
  · have hone : allRight [(⟨1, k, 0⟩ : Hd)] [(⟨1, k, 0⟩ : Hd)].length := allRight_one hr'
    rcases putAll_dead h.clean.inv (L := m.list) a1 (by rw [h.lenL]; simp; omega) hone (by rw [h.lenL]; exact h.clean.fits) with he | hd
    · right
      obtain ⟨hw, hl⟩ := h.w.put a1 (by simp; omega) hone he
      have hl' : ∀ q, (putAll m.dev m.list (a : Int) [⟨1, k, 0⟩]).list.getD q default = if q = a then ⟨1, k, 0⟩ else m.list.getD q default := by
        intro q
        rw [hl q]
        by_cases e : q = a
        · subst e; rw [if_pos (by simp), if_pos rfl]; simp
        · rw [if_neg (by simp; omega), if_neg e]
      refine ⟨hw.lenL, by rw [setTo_length, h.lenF], hw.clean, hw.right, hw.word, fun q => ?_, fun q q1 q2 hq => ?_⟩
      · rw [setTo_ff hfit, hl' q]
        by_cases e : q = a
        · subst e
          rw [if_pos rfl]
          constructor
          · rintro ⟨h1, _⟩; exact absurd ⟨Nat.le_refl _, by omega⟩ h1
          · rintro ⟨_, _, h3⟩; cases h3
        · rw [if_neg e, ← h.free q]
          exact ⟨fun h => h.2, fun h => ⟨by omega, h⟩⟩
      · dsimp only at hq ⊢
        rw [hl' q] at hq ⊢
        by_cases e : q = a
        · rw [if_pos e] at hq; cases hq
        · rw [if_neg e] at hq ⊢
          obtain ⟨g1, g2⟩ := h.large q q1 q2 hq
          refine ⟨g1, fun i i1 i2 => ?_⟩
          rw [hl' (q + i), if_neg (fun e2 => by
            have := BmOk.part (h := h) q1 q2 hq i1 i2
            rw [e2, hfa] at this; cases this)]
          exact g2 i i1 i2
    · exact .inl hd

theorem arm_done (h : BmOk B m) (n : Int) (T : Nat → Prop) : Stay m ⟨m.dev.arm n, m.list, m.free⟩ B T ∧ BmOk B ⟨m.dev.arm n, m.list, m.free⟩ := by
  have hi : (m.dev.arm n).inv := ⟨⟨h.clean.inv.wf.lenL, h.clean.inv.wf.lenF, h.clean.inv.wf.lenP, h.clean.inv.wf.lenD, h.clean.inv.wf.small, h.clean.inv.wf.u64L, h.clean.inv.wf.u64C, h.clean.inv.wf.u64F⟩, h.clean.inv.sound, h.clean.inv.pend⟩
  have hok : BmOk B ⟨m.dev.arm n, m.list, m.free⟩ := ⟨h.lenL, h.lenF, ⟨hi, h.clean.fits, h.clean.clean⟩, h.right, h.word, h.free, h.large⟩
  exact ⟨⟨hi, rfl, fun q q1 q2 => ⟨((h.stay T).2.2 q q1 q2).1.arm n, fun hn => (((h.stay T).2.2 q q1 q2).2 hn).arm n⟩⟩, hok⟩

end Go.Proofs.YtebnelihlgdciaaGreat

/- Plain: what Large and Release do to a manager all of whose headers last. -/
namespace Go.Proofs.YtebnelihlgdciaaGreat
set_option linter.unusedVariables false

variable {B : Nat} {m : Bm}

theorem run_tail (n : Nat) : ((hdRun n n).drop 1).length = n - 1 ∧ ∀ i, i < n - 1 → ((hdRun n n).drop 1).getD i default = ⟨3, 0, ((i + 1 : Nat) : Int)⟩ := by
  refine ⟨by rw [List.length_drop, hdRun_len], fun i hi => ?_⟩
  rw [List.getD_eq_getElem?_getD, List.getElem?_drop, ← List.getD_eq_getElem?_getD, hdRun_getD n n (1 + i) (by omega), if_neg (by omega), show 1 + i = i + 1 by omega]

theorem large_done (h : BmOk B m) (z : Int) : Stay m (m.large z).bm B (fun q => fb m.free q = true) ∧ ((m.large z).bm.dev.dead = true ∨ BmOk B (m.large z).bm) := by
  unfold Bm.large
  by_cases hz : z < 1 ∨ 256 ≤ z
  · rw [if_pos hz]; exact ⟨h.stay _, .inr h⟩
  rw [if_neg hz]
  obtain ⟨n, rfl⟩ := Int.eq_ofNat_of_zero_le (show 0 ≤ z by omega)
  have hn1 : 1 ≤ n := by omega
  have hn2 : n < 256 := by omega
  rw [show ((n : Int)).toNat = n from rfl]
  by_cases ht : (takeR m.free n).2.2 ≠ 0
  · rw [if_pos ht, takeR_err ht]; exact ⟨h.stay _, .inr h⟩
  rw [if_neg ht]
  obtain ⟨a, c, hta, hrun, hc, hfit⟩ := takeR_fit (l := m.free) hn1 (by simpa using ht)
  rw [hta]
  dsimp only
  have hfr := run_free hrun hc
  have hfk : ∀ q, a ≤ q → q < a + n → 1 ≤ q ∧ q < B ∧ (m.list.getD q default).k = 0 := fun q h1 h2 => (h.free q).1 (hfr q h1 h2)
  have a1 := (hfk a (Nat.le_refl _) (by omega)).1
  have haB : a + n ≤ B := by rw [← h.lenF]; exact hfit
  obtain ⟨hlen, htl⟩ := run_tail n
  have hr1 : allRight ((hdRun n n).drop 1) ((hdRun n n).drop 1).length := by
    intro i hi
    rw [hlen] at hi
    rw [htl i hi]
    exact decide_eq_true (.inr (.inr ⟨.inr rfl, rfl, by dsimp only; omega⟩))
  have hs1 : Stay m ⟨(putAll m.dev m.list ((a : Int) + 1) ((hdRun n n).drop 1)).dev, (putAll m.dev m.list ((a : Int) + 1) ((hdRun n n).drop 1)).list, setTo m.free a false n⟩ B (fun q => fb m.free q = true) :=
    (h.stay _).put _ _ _ _ _ (fun j hj q e => hfr q (by omega) (by rw [hlen] at hj; omega))
  have e1 : (a : Int) + 1 = ((a + 1 : Nat) : Int) := by omega
  have hcase := putAll_dead h.clean.inv (L := m.list) (k := a + 1) (l := (hdRun n n).drop 1) (by omega) (by rw [h.lenL, hlen]; omega) hr1 (by rw [h.lenL]; exact h.clean.fits)
  rw [← e1] at hcase
  have hput := fun (he : (putAll m.dev m.list ((a : Int) + 1) ((hdRun n n).drop 1)).err = 0) => h.w.put (k := a + 1) (l := (hdRun n n).drop 1) (by omega) (by rw [hlen]; omega) hr1 (by rw [← e1]; exact he)
  rw [← e1] at hput
  generalize putAll m.dev m.list ((a : Int) + 1) ((hdRun n n).drop 1) = r1 at *
  by_cases he1 : r1.err ≠ 0
  · rw [if_pos he1]
    refine ⟨hs1, ?_⟩
    rcases hcase with h0 | hd
    · exact absurd h0 he1
    · exact .inl hd
  rw [if_neg he1]
  obtain ⟨hw1, hl1⟩ := hput (by simpa using he1)
  refine ⟨hs1.put _ _ _ _ _ (fun j hj q e => ?_), ?_⟩
  · have : q = a := by simp at hj; omega
    subst this; exact hfr q (Nat.le_refl _) (by omega)
  have hone : allRight [(⟨2, 0, (n : Int)⟩ : Hd)] [(⟨2, 0, (n : Int)⟩ : Hd)].length := allRight_one (decide_eq_true (.inr (.inr ⟨.inl rfl, rfl, by dsimp only; omega⟩)))
  rcases putAll_dead hw1.clean.inv (L := r1.list) a1 (by rw [hw1.lenL]; simp; omega) hone (by rw [hw1.lenL]; exact hw1.clean.fits) with he | hd
  · right
    obtain ⟨hw, hl⟩ := hw1.put a1 (by simp; omega) hone he
    have hl' : ∀ q, (putAll r1.dev r1.list (a : Int) [⟨2, 0, (n : Int)⟩]).list.getD q default = if q = a then ⟨2, 0, (n : Int)⟩ else if a ≤ q ∧ q < a + n then ⟨3, 0, ((q - a : Nat) : Int)⟩ else m.list.getD q default := by
      intro q
      rw [hl q]
      by_cases e : q = a
      · subst e; rw [if_pos (by simp), if_pos rfl]; simp
      · rw [if_neg (by simp; omega), if_neg e, hl1 q, hlen]
        by_cases c2 : a ≤ q ∧ q < a + n
        · rw [if_pos (by omega), if_pos c2, htl _ (by omega), show q - (a + 1) + 1 = q - a by omega]
        · rw [if_neg (by omega), if_neg c2]
    refine ⟨hw.lenL, by rw [setTo_length, h.lenF], hw.clean, hw.right, hw.word, fun q => ?_, fun q q1 q2 hq => ?_⟩
    · rw [setTo_ff hfit, hl' q]
      by_cases e : q = a
      · subst e
        rw [if_pos rfl]
        constructor
        · rintro ⟨h1, _⟩; exact absurd ⟨Nat.le_refl _, by omega⟩ h1
        · rintro ⟨_, _, h3⟩; cases h3
      · rw [if_neg e]
        by_cases c2 : a ≤ q ∧ q < a + n
        · rw [if_pos c2]
          constructor
          · rintro ⟨h1, _⟩; exact absurd c2 h1
          · rintro ⟨_, _, h3⟩; cases h3
        · rw [if_neg c2, ← h.free q]
          exact ⟨fun h => h.2, fun h => ⟨c2, h⟩⟩
    · dsimp only at hq ⊢
      rw [hl' q] at hq ⊢
      by_cases e : q = a
      · subst e
        rw [if_pos rfl] at hq ⊢
        dsimp only
        refine ⟨by omega, fun i i1 i2 => ?_⟩
        rw [hl' (q + i), if_neg (by omega), if_pos (by omega), show q + i - q = i by omega]
      · rw [if_neg e] at hq ⊢
        by_cases c2 : a ≤ q ∧ q < a + n
        · rw [if_pos c2] at hq; cases hq
        · rw [if_neg c2] at hq ⊢
          obtain ⟨g1, g2⟩ := h.large q q1 q2 hq
          refine ⟨g1, fun i i1 i2 => ?_⟩
          have hnf := BmOk.part (h := h) q1 q2 hq i1 i2
          have hno : ¬ (a ≤ q + i ∧ q + i < a + n) := fun c => by rw [hfr _ c.1 c.2] at hnf; cases hnf
          rw [hl' (q + i), if_neg (by omega), if_neg hno]
          exact g2 i i1 i2
  · exact .inl hd

/-- A block, or a large object's further one. -/
def IsBack (m : Bm) (b : Int) (q : Nat) : Prop := (q : Int) = b ∨ ((m.list.getD q default).k = 3 ∧ (q : Int) - (m.list.getD q default).l = b)

theorem release_done (h : BmOk B m) (b : Int) : Stay m (m.release b).bm B (IsBack m b) ∧ ((m.release b).bm.dev.dead = true ∨ BmOk B (m.release b).bm) := by
  unfold Bm.release
  by_cases hk : (hdGet m.list b).k ≠ 1 ∧ (hdGet m.list b).k ≠ 2
  · rw [if_pos hk]; exact ⟨h.stay _, .inr h⟩
  rw [if_neg hk]
  have hin := hdGet_in (l := m.list) (b := b) (by omega)
  rw [h.lenL] at hin
  obtain ⟨a, rfl⟩ := Int.eq_ofNat_of_zero_le (show 0 ≤ b by omega)
  have a1 : 1 ≤ a := by omega
  have a2 : a < B := by omega
  have hg : hdGet m.list (a : Int) = m.list.getD a default := by unfold hdGet; rw [if_neg (by rw [h.lenL]; omega)]; rfl
  rw [hg] at hk ⊢
  have hra := h.right a a2
  have hn : ∃ n : Nat, 1 ≤ n ∧ relN (m.list.getD a default) = (n : Int) ∧ a + n ≤ B ∧ (∀ i : Nat, 1 ≤ i → i < n → m.list.getD (a + i) default = ⟨3, 0, i⟩) := by
    have hri := of_decide_eq_true hra
    unfold HdRight at hri
    unfold relN
    by_cases h1 : (m.list.getD a default).k = 1
    · exact ⟨1, Nat.le_refl _, by rw [if_pos h1]; rfl, by omega, fun i i1 i2 => by omega⟩
    · have h2 : (m.list.getD a default).k = 2 := by omega
      obtain ⟨g1, g2⟩ := h.large a a1 a2 h2
      refine ⟨(m.list.getD a default).l.toNat, by omega, by rw [if_neg h1]; omega, by omega, fun i i1 i2 => g2 i i1 (by omega)⟩
  obtain ⟨n, n1, hn, haB, hcont⟩ := hn
  rw [hn, show ((n : Int) - 1).toNat = n - 1 by omega]
  dsimp only
  have hz : ∀ k, allRight (List.replicate k (⟨0, 0, 0⟩ : Hd)) (List.replicate k (⟨0, 0, 0⟩ : Hd)).length := by
    intro k i hi
    have : (List.replicate k (⟨0, 0, 0⟩ : Hd)).getD i default = ⟨0, 0, 0⟩ := by
      simp only [List.getD_eq_getElem?_getD, List.getElem?_replicate]
      split <;> rfl
    rw [this]; exact decide_eq_true (.inl ⟨rfl, rfl, rfl⟩)
  have hback : ∀ i : Nat, i < n → IsBack m (a : Int) (a + i) := by
    intro i hi
    by_cases i0 : i = 0
    · subst i0; exact .inl (by omega)
    · exact .inr ⟨by rw [hcont i (by omega) hi], by rw [hcont i (by omega) hi]; dsimp only; omega⟩
  have hs1 : Stay m ⟨(putAll m.dev m.list (a : Int) [⟨0, 0, 0⟩]).dev, (putAll m.dev m.list (a : Int) [⟨0, 0, 0⟩]).list, m.free⟩ B (IsBack m (a : Int)) :=
    (h.stay _).put _ _ _ _ _ (fun j hj q e => by
      have : q = a + 0 := by simp at hj; omega
      rw [this]; exact hback 0 (by omega))
  have hcase := putAll_dead h.clean.inv (L := m.list) (k := a) (l := [⟨0, 0, 0⟩]) a1 (by rw [h.lenL]; simp; omega) (hz 1) (by rw [h.lenL]; exact h.clean.fits)
  have hput := fun (he : (putAll m.dev m.list (a : Int) [⟨0, 0, 0⟩]).err = 0) => h.w.put (k := a) (l := [⟨0, 0, 0⟩]) a1 (by simp; omega) (hz 1) he
  generalize putAll m.dev m.list (a : Int) [⟨0, 0, 0⟩] = r1 at *
  by_cases he1 : r1.err ≠ 0
  · rw [if_pos he1]
    refine ⟨hs1, ?_⟩
    rcases hcase with h0 | hd
    · exact absurd h0 he1
    · exact .inl hd
  rw [if_neg he1]
  obtain ⟨hw1, hl1⟩ := hput (by simpa using he1)
  have hs2 : Stay m ⟨(putAll r1.dev r1.list ((a : Int) + 1) (List.replicate (n - 1) ⟨0, 0, 0⟩)).dev, (putAll r1.dev r1.list ((a : Int) + 1) (List.replicate (n - 1) ⟨0, 0, 0⟩)).list, m.free⟩ B (IsBack m (a : Int)) :=
    hs1.put _ _ _ _ _ (fun j hj q e => by
      rw [List.length_replicate] at hj
      have : q = a + (j + 1) := by omega
      rw [this]; exact hback (j + 1) (by omega))
  have e1 : (a : Int) + 1 = ((a + 1 : Nat) : Int) := by omega
  have hcase2 := putAll_dead hw1.clean.inv (L := r1.list) (k := a + 1) (l := List.replicate (n - 1) ⟨0, 0, 0⟩) (by omega) (by rw [hw1.lenL, List.length_replicate]; omega) (hz _) (by rw [hw1.lenL]; exact hw1.clean.fits)
  have hput2 := fun (he : (putAll r1.dev r1.list ((a + 1 : Nat) : Int) (List.replicate (n - 1) ⟨0, 0, 0⟩)).err = 0) => hw1.put (k := a + 1) (l := List.replicate (n - 1) ⟨0, 0, 0⟩) (by omega) (by rw [List.length_replicate]; omega) (hz _) he
  rw [← e1] at hcase2 hput2
  generalize putAll r1.dev r1.list ((a : Int) + 1) (List.replicate (n - 1) ⟨0, 0, 0⟩) = r2 at *
  by_cases he2 : r2.err ≠ 0
  · rw [if_pos he2]
    refine ⟨hs2, ?_⟩
    rcases hcase2 with h0 | hd
    · exact absurd h0 he2
    · exact .inl hd
  rw [if_neg he2]
  refine ⟨hs2, .inr ?_⟩
  obtain ⟨hw, hl2⟩ := hput2 (by simpa using he2)
  have hl : ∀ q, r2.list.getD q default = if a ≤ q ∧ q < a + n then ⟨0, 0, 0⟩ else m.list.getD q default := by
    intro q
    rw [hl2 q, List.length_replicate, hl1 q]
    by_cases c : a ≤ q ∧ q < a + n
    · rw [if_pos c]
      by_cases c1 : a + 1 ≤ q ∧ q < a + 1 + (n - 1)
      · rw [if_pos c1]
        simp only [List.getD_eq_getElem?_getD, List.getElem?_replicate]
        split <;> rfl
      · rw [if_neg c1, if_pos (by simp; omega)]
        have : q - a = 0 := by omega
        rw [this]; rfl
    · rw [if_neg c, if_neg (by omega), if_neg (by simp; omega)]
  have hnz : ∀ i : Nat, i < n → (m.list.getD (a + i) default).k ≠ 0 := by
    intro i hi
    by_cases i0 : i = 0
    · subst i0; rw [Nat.add_zero]; omega
    · rw [hcont i (by omega) hi]; show (3 : Int) ≠ 0; decide
  have hnf : anyFree m.free a n = false := anyFree_none (fun q q1 q2 => fb_no (fun hq => by
    have := ((h.free q).1 hq).2.2
    exact hnz (q - a) (by omega) (by rw [show a + (q - a) = q by omega]; exact this)))
  have hgo : giveR m.free (a : Int) (n : Int) = (setTo m.free a true n, 0) := giveR_ok ⟨a1, n1, by rw [h.lenF]; exact haB⟩ hnf
  rw [hgo]
  dsimp only
  refine ⟨hw.lenL, by rw [setTo_length, h.lenF], hw.clean, hw.right, hw.word, fun q => ?_, fun q q1 q2 hq => ?_⟩
  · rw [setTo_tt (by rw [h.lenF]; exact haB), hl q]
    by_cases c : a ≤ q ∧ q < a + n
    · rw [if_pos c]; exact ⟨fun _ => ⟨by omega, by omega, rfl⟩, fun _ => .inl c⟩
    · rw [if_neg c, ← h.free q]
      exact ⟨fun h => h.resolve_left c, fun h => .inr h⟩
  · dsimp only at hq ⊢
    rw [hl q] at hq ⊢
    by_cases c : a ≤ q ∧ q < a + n
    · rw [if_pos c] at hq; cases hq
    · rw [if_neg c] at hq ⊢
      obtain ⟨g1, g2⟩ := h.large q q1 q2 hq
      refine ⟨g1, fun i i1 i2 => ?_⟩
      have hgi := g2 i i1 i2
      have hno : ¬ (a ≤ q + i ∧ q + i < a + n) := fun c2 => by
        have hj := hcont (q + i - a)
        by_cases j0 : q + i = a
        · rw [j0] at hgi
          have : (m.list.getD a default).k = 3 := by rw [hgi]
          omega
        · have := hj (by omega) (by omega)
          rw [show a + (q + i - a) = q + i by omega, hgi] at this
          have h3 := congrArg Hd.l this
          dsimp only at h3
          omega
      rw [hl (q + i), if_neg hno]
      exact hgi

end Go.Proofs.YtebnelihlgdciaaGreat

/- bman: Open. -/
namespace Go.Proofs.YtebnelihlgdciaaGreat
open Go.RowKit
set_option linter.unusedVariables false

/-- A manager, as it is opened. -/
def bmOf (S : Dev) (B : Nat) : Bm := ⟨S, hds (devWord S) B, freeL (freeAt (hds (devWord S) B)) B B⟩

def OpenBm (w : World) (F : Foot) (S : Dev) (B : Nat) : Ending → World → Prop := fun e w' => Below w.heap.size w w' ∧
  ((AllOk (devWord S) B ∧ soundN (hds (devWord S) B) B 1 = 0 ∧ ∃ (X : MF) (n : Nat), e = .returned (.tuple #[.pointer (some ⟨X.m, 0, none⟩), .int .i64 0]) ∧ X.F = F ∧ ManAt w' X n B (bmOf S B) ∧ n ≤ 1000000 ∧
      (∀ k ∈ X.list, k ∈ F.list ∨ w.heap.size ≤ k)) ∨
   (AllOk (devWord S) B ∧ soundN (hds (devWord S) B) B 1 ≠ 0 ∧ e = .returned (.tuple #[.pointer none, .int .i64 40])) ∨
   (¬ AllOk (devWord S) B ∧ e = .returned (.tuple #[.pointer none, .int .i64 21])))

theorem bspans_fill (l : List Hd) (B : Nat) (h : l.length = B) : fillR (op2s (spansOf l)) (List.replicate B false) = (freeL (freeAt l) B B, 0) := by
  unfold spansOf
  rw [h]
  exact fill_spans (freeAt l) B B (Nat.le_refl _)

set_option maxHeartbeats 4000000 in
set_option maxRecDepth 20000 in
theorem bopen_any {w : World} {F : Foot} {S : Dev} (h : DevAt w F S) (B : Nat) (hB1 : 1 ≤ B) (hB : B ≤ 1000) :
    Calls Tryz.prog 33 #[vdev F, vgeom B] w (OpenBm w F S B) := by
  have HM := Lib.hid (Mem.one w #[.int .i64 (B : Int)] 43)
  have HD := Lib.hid (h.below HM.out.below)
  have HMF := Lib.hid h.mem
  have HNF := Lib.hid h.nodup
  have HL : Hid ((hds (devWord S) B).length = B) := Lib.hid (hds_length _ _)
  have HFill := Lib.hid (bspans_fill (hds (devWord S) B) B HL.out)
  have HBm : Hid (bmOf S B = ⟨S, hds (devWord S) B, freeL (freeAt (hds (devWord S) B)) B B⟩) := Lib.hid rfl
  have HFl : Hid ((freeL (freeAt (hds (devWord S) B)) B B).length = B) := Lib.hid (freeL_len _ _ _)
  have HPE : Hid (OpenBm w F S B = fun e w' => Below w.heap.size w w' ∧
  ((AllOk (devWord S) B ∧ soundN (hds (devWord S) B) B 1 = 0 ∧ ∃ (X : MF) (n : Nat), e = .returned (.tuple #[.pointer (some ⟨X.m, 0, none⟩), .int .i64 0]) ∧ X.F = F ∧ ManAt w' X n B (bmOf S B) ∧ n ≤ 1000000 ∧
      (∀ k ∈ X.list, k ∈ F.list ∨ w.heap.size ≤ k)) ∨
   (AllOk (devWord S) B ∧ soundN (hds (devWord S) B) B 1 ≠ 0 ∧ e = .returned (.tuple #[.pointer none, .int .i64 40])) ∨
   (¬ AllOk (devWord S) B ∧ e = .returned (.tuple #[.pointer none, .int .i64 21])))) := Lib.hid rfl
  generalize hP : OpenBm w F S B = Post at *
  clear h hP
  go_enter Tryz.func33, Tryz.ntmps33
  go_upto_region 1 with fail
  generalize hw0 : w.alloc _ = w0 at *
  clear hw0
  obtain ⟨q, hq⟩ : ∃ q, q = w.heap.size := ⟨_, rfl⟩
  rw [← hq] at HM ⊢
  have HQ := Lib.hid hq
  clear hq
  have c0 := HM.out.cell 0 0 rfl rfl
  unfold vdev at *
  go_wp2_with fail
  refine (open_tabG HD.out B hB1 hB).mono ?_
  rintro e w1 ⟨hb1, ⟨hok, p, g, cc, rfl, hp, hg, hpg, htab⟩ | ⟨b, hb0, hbB, hok, hbad, rfl⟩⟩
  case inr =>
    have HE : Hid (¬ AllOk (devWord S) B) := Lib.hid (fun h => hbad (h b hb0 hbB))
    have HB1 := Lib.hid (HM.out.later hb1)
    clear hok hbad hb1
    go_wp2_with fail
    rw [HPE.out]
    exact ⟨HB1.out.below, .inr (.inr ⟨HE.out, rfl⟩)⟩
  have HM1 := Lib.hid (HM.out.later hb1)
  have HD1 := Lib.hid (HD.out.below hb1)
  have HT1 := Lib.hid htab
  have HOK := Lib.hid hok
  have HG : Hid (w0.heap.size ≤ p ∧ w0.heap.size ≤ g ∧ p ≠ g) := Lib.hid ⟨hp, hg, hpg⟩
  have HW0 : Hid (w.heap.size + 1 ≤ w0.heap.size) := Lib.hid (by have := HM.out.glt 0 rfl; have := HQ.out; omega)
  clear hb1 htab hok hp hg hpg c0 HM HD
  generalize hds (devWord S) B = L at *
  go_wp2_with fail
  refine (tall_any HT1.out hB).mono ?_
  rintro e w2 ⟨a2, k2, rfl, hq2, hk2, hr2, hb2⟩
  have HM2 := Lib.hid (HM1.out.later hb2)
  have HD2 := Lib.hid (HD1.out.below hb2)
  have HT2 := Lib.hid (HT1.out.keep (hb2.block p HT1.out.lt.1) (hb2.block g HT1.out.lt.2))
  have HR2 := Lib.hid hr2
  clear hq2 hk2 hr2 hb2 HM1 HD1 HT1
  go_wp2_with fail
  refine (bsound_any _ B k2 L HL.out w2 HR2.out.cells hB).mono ?_
  rintro e w3 ⟨rfl, hb3⟩
  rw [HL.out]
  have HM3 := Lib.hid (HM2.out.later hb3)
  have HD3 := Lib.hid (HD2.out.below hb3)
  have HT3 := Lib.hid (HT2.out.keep (hb3.block p HT2.out.lt.1) (hb3.block g HT2.out.lt.2))
  clear hb3 HM2 HD2 HT2 HR2
  obtain ⟨sn, hsn⟩ : ∃ sn, sn = soundN L B 1 := ⟨_, rfl⟩
  rw [← hsn] at HPE ⊢
  clear hsn
  by_cases hs : sn = 0
  case neg =>
    have hs' : decide (sn = 0) = false := by simpa using hs
    rw [hs']
    have HS := Lib.hid hs
    clear hs hs'
    go_wp2_with fail
    rw [HPE.out]
    exact ⟨HM3.out.below, .inr (.inl ⟨HOK.out, HS.out, rfl⟩)⟩
  have hs' : decide (sn = 0) = true := by simpa using hs
  rw [hs']
  have HS := Lib.hid hs
  clear hs hs'
  have c0 := HM3.out.cell 0 0 rfl rfl
  go_upto_region 7 with fail
  have r0 := fun x => later_cell c0 x
  clear c0
  refine wp_region_seg (C := fun w' => ∃ x : Later (w3), w' = x.val) [.fl [0, 1, 2], .sq [3] true, .sq [4, 5] false, .fl [6, 7, 8], .sq [9] false] (by kernel_rfl) (by kernel_rfl) (by intro c a d v w h; cases d <;> exact h) ?_
  simp only [segs, picks, List.getElem?_cons_succ, List.getElem?_cons_zero]
  have hC1 := later_drew (w3)
  refine wpSeg_fl hC1 ?_
  repeat (first | go_big_quiet_step (fail) | quiet_step (fail))
  refine wpQuiet_nil ?_
  refine wpSeg_sq (fun K hK => ?_)
  go_wp2_with fail
  refine (tspans_any ((HT3.out.keep ((later_below hC1).block p HT3.out.lt.1) ((later_below hC1).block g HT3.out.lt.2)).at HG.out.2.2) (by rw [HL.out]; exact hB)).mono ?_
  rintro e w4 ⟨v, rfl, ho4, hb4⟩
  have hC2 := later_step hC1 hb4
  obtain ⟨a4, c4, rfl, _, hm4⟩ := owned_form ho4
  have HC4 : Hid (Cells w4 a4 (recs Op2.cs (op2s (spansOf L)))) := Lib.hid (by rw [op2s_cs]; exact Cells.owned2 ho4)
  have HSl : Hid ((op2s (spansOf L)).length = (spansOf L).length) := Lib.hid (by simp [op2s])
  have HSl2 : Hid ((spansOf L).length ≤ 1000000) := Lib.hid (by
    have := spanL_len (freeAt L) L.length
    unfold spansOf
    rw [HL.out] at this ⊢
    omega)
  generalize (spansOf L).length = nl at *
  clear ho4 hb4 hm4
  go_wp2_with fail
  refine hK _ _ (fun _ => hC2) ?_
  clear hK K
  refine wpSeg_sq (fun K hK => ?_)
  go_wp2_with fail
  refine (ifill_any (B : Int) (by omega) a4 nl c4 (op2s (spansOf L)) HSl.out _ HC4.out HSl2.out).mono ?_
  rw [show (B : Int).toNat = B from rfl, HFill.out]
  rintro e w5 ⟨hb5, ⟨_, T, kk, rfl, hix, hkk, hT⟩ | ⟨hne, _⟩⟩
  case inr => exact absurd rfl hne
  have hC3 := later_step hC2 hb5
  have HIx := Lib.hid hix
  have HTt := Lib.hid hT
  have HW4 : Hid (w3.heap.size ≤ w4.heap.size) := Lib.hid ((later_below hC2).size)
  clear hix hT hb5 HC4 HSl HSl2
  go_wp2_with fail
  refine hK _ _ (fun _ => hC3) ?_
  clear hK K
  refine wpSeg_fl hC3 ?_
  repeat (first | go_big_quiet_step (fail) | quiet_step (fail))
  refine wpQuiet_nil ?_
  have HM5 := Lib.hid (HM3.out.later (later_below hC3))
  have HD5 := Lib.hid (HD3.out.below (later_below hC3))
  have HT5 := Lib.hid (HT3.out.keep ((later_below hC3).block p HT3.out.lt.1) ((later_below hC3).block g HT3.out.lt.2))
  have HFl3 : Hid (∀ k ∈ F.list, k < w.heap.size) := HMF
  have HT3l : Hid (p < w3.heap.size ∧ g < w3.heap.size) := Lib.hid HT3.out.lt
  have c0 := HM5.out.cell 0 0 rfl rfl
  clear hC1 hC2 hC3 r0 HM3 HD3 HT3
  refine wpSeg_last ?_
  go_wp2_with fail
  rw [HPE.out]
  have hbx := below_alloc w5 (.cells #[.pointer (some ⟨p, 0, none⟩), .pointer (some ⟨T.p, 0, none⟩), .int .i64 (B : Int)] 45)
  have hTl := HIx.out.mem
  have hsz := HW4.out
  obtain ⟨hG1, hG2, hG3⟩ := HG.out
  have hW0 := HW0.out
  have h3 := HT3l.out
  have hw05 : w0.heap.size ≤ w5.heap.size := by have := HT5.out.lt; omega
  refine ⟨HM5.out.below.trans (hbx.mono HM5.out.below.size), .inl ⟨HOK.out, HS.out, ⟨w5.heap.size, p, g, cc, F, T⟩, kk, rfl, rfl, ?_, hkk, ?_⟩⟩
  · rw [HBm.out]
    refine ⟨heap_alloc_new _ _, HT5.out.keep (hbx.block p HT5.out.lt.1) (hbx.block g HT5.out.lt.2), HD5.out.below hbx, HIx.out.below hbx, HFl.out, ?_⟩
    obtain ⟨M, E, hmp, _⟩ := HIx.out
    have e1 := hmp.ne1
    have e2 := hmp.ne2
    have e3 := hmp.ne3
    have t1 := HTt.out T.p (by simp [Tri.list])
    have t2 := HTt.out T.s (by simp [Tri.list])
    have t3 := HTt.out T.e (by simp [Tri.list])
    have l1 := hTl T.p (by simp [Tri.list])
    have l2 := hTl T.s (by simp [Tri.list])
    have l3 := hTl T.e (by simp [Tri.list])
    have lp := HT5.out.lt
    have hF : ∀ k, w.heap.size ≤ k → k ∉ F.list := fun k hk hm => by have := HFl3.out k hm; omega
    simp only [MF.list, List.nodup_cons, List.mem_cons, not_or]
    refine ⟨⟨by omega, by omega, by omega, by omega, by omega, hF _ (by omega)⟩, ⟨by omega, by omega, by omega, by omega, hF _ (by omega)⟩, ⟨by omega, e1, e2, hF _ (by omega)⟩, ⟨by omega, by omega, hF _ (by omega)⟩, ⟨e3, hF _ (by omega)⟩, hF _ (by omega), HNF.out⟩
  · intro k hk
    have t1 := HTt.out T.p (by simp [Tri.list])
    have t2 := HTt.out T.s (by simp [Tri.list])
    have t3 := HTt.out T.e (by simp [Tri.list])
    simp only [MF.list, List.mem_cons] at hk
    rcases hk with rfl | rfl | rfl | rfl | rfl | rfl | hk
    · right; omega
    · right; omega
    · right; omega
    · right; omega
    · right; omega
    · right; omega
    · exact .inl hk

end Go.Proofs.YtebnelihlgdciaaGreat

/- law12: begun. -/
namespace Go.Proofs.YtebnelihlgdciaaGreat
open Go.RowKit
set_option linter.unusedVariables false

theorem Mem.touched {w W W' : World} {L : List Ent} (h : Mem w W L) {X : List Nat} (ht : Touch X W W') (hX : ∀ k ∈ X, w.heap.size ≤ k) (hL : ∀ x ∈ L, x.g ∉ X) : Mem w W' L :=
  ⟨below_touched h.below ht hX (Nat.le_refl _), fun x hx => (h.rows x hx).keep (ht.block _ (h.lt x hx) (hL x hx)), h.base, h.nd⟩

theorem fmtTo_dirty {S : Dev} (hS : ∀ l, S.dirty.getD l false = false) (hD : S.cache.length = 8 * S.dirty.length) : ∀ k l, (∀ b, 1 ≤ b → b < k → (256 + b) / 8 ≠ l) → (S.fmtTo k).dirty.getD l false = false
  | 0, l, _ => hS l
  | k + 1, l, h => by
    have ih := fmtTo_dirty hS hD k l (fun b h1 h2 => h b h1 (by omega))
    unfold Dev.fmtTo
    split
    · exact hS l
    · rename_i hk
      unfold Dev.store
      by_cases c : (((256 + k : Nat) : Int)) < 0 ∨ (((S.fmtTo k).cache.length : Nat) : Int) ≤ ((256 + k : Nat) : Int)
      · rw [if_pos c]; exact ih
      · rw [if_neg c]
        split
        · rw [(S.fmtTo k).step_rest.2.2.2.1]; exact ih
        · show ((S.fmtTo k).step.dirty.set (((256 + k : Nat) : Int).toNat / 8) true).getD l false = false
          rw [(S.fmtTo k).step_rest.2.2.2.1, List.getD_eq_getElem?_getD, List.getElem?_set_ne (by have := h k (by omega) (by omega); omega), ← List.getD_eq_getElem?_getD]
          exact ih

/-- The document's device beside a device that lasts. -/
def refOf (S : Dev) (m : Nat) : Dev := ⟨S.cache, S.cache, List.replicate (8 * m) 0, List.replicate m false, List.replicate m false, S.steps, 0, false, false⟩

structure Formed (S : Dev) (B : Nat) : Prop where
  inv : S.inv
  live : S.live
  ok : S.ok 201000
  len : S.cache.length = 512 * B
  dlen : S.dirty.length = 64 * B
  last : S.lasting = S.cache
  dirty : S.dirty = List.replicate (64 * B) false
  pending : S.pending = List.replicate (64 * B) false
  clean : Clean S B
  allOk : AllOk (devWord S) B
  hds : hds (devWord S) B = List.replicate B ⟨0, 0, 0⟩
  word : ∀ b, 1 ≤ b → b < B → devWord S b = encN b 0 0 0

theorem fmt_formed {B : Nat} (hB2 : 2 ≤ B) (hB : B ≤ 100) : Formed ((freshDev (List.replicate (512 * B) 0) (64 * B)).fmt B) B := by
  obtain ⟨S, hS⟩ : ∃ S, S = freshDev (List.replicate (512 * B) 0) (64 * B) := ⟨_, rfl⟩
  rw [← hS]
  have hl : S.cache.length = 512 * B := by rw [hS]; simp [freshDev]
  have hd : S.dirty.length = 64 * B := by rw [hS]; simp [freshDev]
  have hi : S.inv := by rw [hS]; exact fresh_inv (by simp; omega) (by simp; omega) (fun z hz => by simp at hz; omega)
  have hv : S.live := by rw [hS]; exact fresh_live _ _
  have ho : S.ok 100 := by rw [hS]; exact fresh_ok _ _ _
  have hf : ∀ l, S.dirty.getD l false = false := fun l => by
    rw [hS]; unfold freshDev; simp only [List.getD_eq_getElem?_getD, List.getElem?_replicate]; split <;> rfl
  obtain ⟨p1, p2, p3, p5, p4⟩ := fmtTo_props hv ho B (by rw [hl]; omega)
  have hti := fmtTo_inv hi B
  have he := (p1.persist 257 (B - 1) (by omega) (by rw [p3, p5]; exact hi.wf.lenD) (by rw [p3, hl]; omega)).1
  obtain ⟨q1, q2, q3, q4, q5⟩ := Dev.persist_clean hti 257 (B - 1) (by omega) he
  have hfm : S.fmt B = ((S.fmtTo B).persist ((257 : Nat) : Int) ((B - 1 : Nat) : Int)).dev := by unfold Dev.fmt; rw [show ((B : Int) - 1) = ((B - 1 : Nat) : Int) by omega]; rfl
  rw [← hfm] at q1 q3 q4 q5
  have hinv : (S.fmt B).inv := by rw [hfm]; exact Dev.persist_inv hti _ _
  have hdl : (S.fmt B).dirty.length = 64 * B := by rw [q3, p5, hd]
  have hdirty : ∀ l, (S.fmt B).dirty.getD l false = false := by
    intro l
    by_cases c : ∃ b, 1 ≤ b ∧ b < B ∧ (256 + b) / 8 = l
    · obtain ⟨b, b1, b2, rfl⟩ := c
      exact q4 (256 + b) (by omega) (by omega)
    · exact q5 l (fmtTo_dirty hf hi.wf.lenD B l (fun b b1 b2 e => c ⟨b, b1, b2, e⟩))
  have hrep : ∀ n l, (List.replicate n false).getD l false = false := fun n l => by simp only [List.getD_eq_getElem?_getD, List.getElem?_replicate]; split <;> rfl
  refine ⟨hinv, ?_, ?_, by rw [q1, p3, hl], hdl, ?_, ?_, ?_, fmt_clean hi hv ho hB2 (by rw [hl]; omega), fmt_ok hv ho B hB2 hi.wf.lenD (by rw [hl]; omega), fmt_hds hv ho B hB2 hi.wf.lenD (by rw [hl]; omega), fmt_words hv ho B hB2 hi.wf.lenD (by rw [hl]; omega)⟩
  · rw [hfm]; exact p1.persist_live 257 (B - 1) (by omega) (by rw [p3, p5]; exact hi.wf.lenD) (by rw [p3, hl]; omega)
  · exact (Dev.persist_ok hti.wf p2 _ _).mono (by omega)
  · exact nat_ext (hinv.wf.lenL) (fun i => hinv.sound i (hdirty _))
  · exact bool_ext (by rw [hdl]; simp) (fun l => by rw [hdirty, hrep])
  · refine bool_ext (by rw [hinv.wf.lenP, hdl]; simp) (fun l => ?_)
    rw [hrep]
    cases hp : (S.fmt B).pending.getD l false with
    | false => rfl
    | true => have := hinv.pend l hp; rw [hdirty] at this; cases this

theorem sound_zero (B : Nat) : ∀ f b, soundN (List.replicate B ⟨0, 0, 0⟩) f b = 0
  | 0, _ => rfl
  | f + 1, b => by
    have hz : (List.replicate B (⟨0, 0, 0⟩ : Hd)).getD b default = ⟨0, 0, 0⟩ := by
      simp only [List.getD_eq_getElem?_getD, List.getElem?_replicate]; split <;> rfl
    rw [soundN, hz, sound_zero B f (b + 1)]
    split
    · rfl
    · rw [if_neg (by decide), if_neg (by decide)]
theorem Formed.bm {S : Dev} {B : Nat} (h : Formed S B) (hB : 2 ≤ B) : BmOk B (bmOf S B) := by
  have hz : ∀ b, (List.replicate B (⟨0, 0, 0⟩ : Hd)).getD b default = ⟨0, 0, 0⟩ := fun b => by
    simp only [List.getD_eq_getElem?_getD, List.getElem?_replicate]; split <;> rfl
  unfold bmOf
  rw [h.hds]
  refine ⟨by simp, freeL_len _ _ _, h.clean, fun b _ => by dsimp only; rw [hz]; decide, fun b h1 h2 => ?_, fun b => ?_, fun b h1 h2 hk => ?_⟩
  · dsimp only
    rw [hz]
    have := h.word b h1 h2
    unfold devWord at this
    rw [show (256 + (b : Int)) = ((256 + b : Nat) : Int) by omega, peek_in] at this
    exact this
  · dsimp only
    rw [freeL_fb, hz]
    unfold freeAt
    rw [hz]
    constructor
    · rintro ⟨_, h2, h3, _⟩; exact ⟨h2, h3, rfl⟩
    · rintro ⟨h2, h3, _⟩; exact ⟨h3, h2, h3, rfl⟩
  · dsimp only at hk; rw [hz] at hk; cases hk
theorem Formed.alike {S : Dev} {B : Nat} (h : Formed S B) (hB : B ≤ 100) : Alike (bmOf S B) ⟨refOf S (64 * B), (bmOf S B).list, (bmOf S B).free⟩ ∧ (refOf S (64 * B)).fit 201000 := by
  have hrep : ∀ n l, (List.replicate n false).getD l false = false := fun n l => by simp only [List.getD_eq_getElem?_getD, List.getElem?_replicate]; split <;> rfl
  have hlen := h.len
  have hwf : (refOf S (64 * B)).wf := ⟨rfl, by unfold refOf; simp [hlen]; omega, by unfold refOf; simp, by unfold refOf; simp [hlen]; omega, h.inv.wf.small, h.inv.wf.u64C, h.inv.wf.u64C, fun z hz => by unfold refOf at hz; simp at hz; omega⟩
  refine ⟨⟨⟨h.last.symm, rfl, h.dirty.symm, h.pending.symm, rfl, h.live.1.symm, h.live.2.symm, fun ha => ?_, fun j hj => ?_⟩, rfl, rfl, h.inv, ⟨hwf, fun _ _ => rfl, fun l hl => ?_⟩⟩, ⟨hwf, ?_, fun ha => by cases ha⟩⟩
  · have : S.armed = true := ha
    rw [h.live.2] at this; cases this
  · have : S.pending.getD (j / 8) false = true := hj
    rw [h.pending, hrep] at this; cases this
  · have : (List.replicate (64 * B) false).getD l false = true := hl
    rw [hrep] at this; cases this
  · have := h.ok
    unfold Dev.ok at this ⊢
    unfold refOf
    dsimp only
    omega

end Go.Proofs.YtebnelihlgdciaaGreat

/- law12: begun. -/
namespace Go.Proofs.YtebnelihlgdciaaGreat
open Go.RowKit
set_option linter.unusedVariables false

theorem rat_steps {W : World} {an al aw ad ap : Option Addr} {m cn cl cw cd cp : Nat} {ws : List Nat} {v1 v2 v3 : Value} {S : Dev} (h : RAt W (.agg #[.slice an m cn, .slice al m cl, .slice aw m cw, .slice ad m cd, .slice ap m cp, v1, v2, v3]) m (freshR ws m)) (hw : S.cache = ws) :
    v1 = .int .i64 0 ∧ v2 = .int .i64 (-1) ∧ v3 = .bool false ∧ RAt W (.agg #[.slice an m cn, .slice al m cl, .slice aw m cw, .slice ad m cd, .slice ap m cp, .int .i64 S.steps, .int .i64 (-1), .bool false]) m (refOf S m).ref := by
  obtain ⟨_, _, _, _, _, _, _, _, _, _, he, k1, k2, k3, k4, k5⟩ := h.ex
  cases he
  subst hw
  exact ⟨rfl, rfl, rfl, ⟨_, _, _, _, _, _, _, _, _, _, rfl, k1, k2, k3, k4, k5⟩, h.lenN, h.lenL, h.lenW, h.lenD, h.lenP, h.u64N, h.u64L, h.u64W⟩

theorem odd_devL {an al aw ad ap : Option Addr} {n1 c1 n2 c2 n3 c3 n4 c4 n5 c5 : Nat} {s f : Int} {d : Bool} : Odd [.slice an n1 c1, .slice al n2 c2, .slice aw n3 c3, .slice ad n4 c4, .slice ap n5 c5, .int .i64 s, .int .i64 f, .bool d] := by
  refine ⟨fun i p q h1 h2 => ?_, fun i k1 x k2 y k3 z h1 h2 h3 => ?_⟩
  · rcases i with _ | _ | _ | _ | _ | _ | _ | i <;> simp at h1 h2
  · rcases i with _ | _ | _ | _ | _ | _ | _ | i <;> simp at h1 h2 h3

/-- Four results: two slots, a struct in a block, a slot. -/
theorem results_cell4 {P : Program} {fn : Func} {s t1 p u : Tmp} {ty : TypeId} (h : fn.results = #[.tmp s, .tmp t1, .cell p ty, .tmp u]) (tmps : Array Value) (w : World) (g : Nat) (t : TypeId) (cs : Array Value) (fr : Nat × Nat) (d : TypeDesc)
    (hp : tmps.getD p undef = .pointer (some ⟨g, 0, none⟩)) (hg : w.heap[g]? = some (.cells cs t fr))
    (hu : P.underlying ty = some d) (hd : (match d with | .struct _ | .array _ _ => true | _ => false) = true) (hi : (P.info? ty).map (·.size) = some cs.size) :
    (results fn tmps).run P w = .ok (.tuple #[tmps.getD s undef, tmps.getD t1 undef, .agg cs, tmps.getD u undef]) w := by
  have hp' : tmps[p]?.getD undef = .pointer (some ⟨g, 0, none⟩) := by simpa using hp
  simp [results, h, hp', asAddr, run_loadVar_row w g t ty cs fr d hg hu hd hi]

/-- What begun leaves. -/
def Begun12 (w : World) (B : Nat) : Ending → World → Prop := fun e w' => ∃ (X : MF) (n : Nat) (D : Array Value) (aL : Option Addr) (cL : Nat) (aF : Option Addr) (cF : Nat) (b b' : Bm), e = .returned (.tuple #[.pointer (some ⟨X.m, 0, none⟩), vdev X.F, mgV D aL cL aF cF B, .bool true]) ∧
  ManAt w' X n B b ∧ n ≤ 1000000 ∧ MgAt w' D aL aF (64 * B) B b' ∧ Alike b b' ∧ BmOk B b ∧ b.dev.ok 201000 ∧ b'.dev.fit 201000 ∧ b'.dev.dirty.length = 64 * B ∧ (b.dev.live ∧ ∀ q, 1 ≤ q → q < B → fb b.free q = true) ∧ (∀ k ∈ X.list, w.heap.size ≤ k) ∧ (∀ k, MgIn D aL aF k → k ∉ X.list ∧ w.heap.size ≤ k) ∧ Below w.heap.size w w'

set_option maxHeartbeats 8000000 in
set_option maxRecDepth 100000 in
theorem begun12_any (B : Nat) (hB2 : 2 ≤ B) (hB : B ≤ 10) (w : World) : Calls Tryz.prog 13 #[.int .i64 (B : Int)] w (Begun12 w B) := by
  generalize hP : Begun12 w B = Post
  have HP := Lib.hid hP
  clear hP
  have HM := Lib.hid (Mem.two w zeroM 35 #[.int .i64 (B : Int)] 43)
  have HFo := Lib.hid (fmt_formed hB2 (show B ≤ 100 by omega))
  go_enter Tryz.func13, Tryz.ntmps13
  go_upto_region 2 with fail
  rw [show (#[.slice none 0 0, .slice none 0 0, .slice none 0 0, .slice none 0 0, .slice none 0 0, .int .i64 0, .int .i64 0, .bool false, .slice none 0 0, .slice none 0 0] : Array Value) = zeroM from rfl]
  generalize (w.alloc _).alloc _ = w0 at *
  obtain ⟨q, hq⟩ : ∃ q, q = w.heap.size := ⟨_, rfl⟩
  rw [← hq] at HM ⊢
  have HQ := Lib.hid hq
  clear hq
  have c0 := HM.out.cell 1 0 rfl rfl
  go_wp2_with fail
  refine (gwords_any _ _ (by omega) (by omega)).mono ?_
  rintro e w1 ⟨rfl, hb1⟩
  have HM1 := Lib.hid (HM.out.later hb1)
  clear hb1 HM c0
  go_wp2_with fail
  refine (new_any ((B : Int) * 512) _ (by omega)).mono ?_
  rintro e w2 ⟨F, rfl, hF, hd2, hb2⟩
  have hfd : freshDev (List.replicate (8 * ((((B : Int) * 512).toNat + 7) / 8)) 0) ((((B : Int) * 512).toNat + 7) / 8) = freshDev (List.replicate (512 * B) 0) (64 * B) := by
    have h1 : (((B : Int) * 512).toNat + 7) / 8 = 64 * B := by omega
    rw [h1, show 8 * (64 * B) = 512 * B by omega]
  rw [hfd] at hd2
  clear hfd
  obtain ⟨S, hS⟩ : ∃ S, S = freshDev (List.replicate (512 * B) 0) (64 * B) := ⟨_, rfl⟩
  have HS0 : Hid (S.live ∧ S.ok 100 ∧ S.cache.length = 512 * B) := Lib.hid (by rw [hS]; exact ⟨fresh_live _ _, fresh_ok _ _ _, by simp [freshDev]⟩)
  rw [← hS] at hd2 HFo
  have HD2 := Lib.hid hd2
  have HM2 := Lib.hid (HM1.out.later hb2)
  have HFb : Hid (∀ k ∈ F.list, q + 2 ≤ k) := Lib.hid (fun k hk => Nat.le_trans (by have := HM1.out.glt 1 rfl; omega) (hF k hk))
  clear hS hd2 hb2 hF HM1
  have c0 := HM2.out.cell 1 0 rfl rfl
  unfold vdev
  go_wp2_with fail
  refine (format_any HD2.out HS0.out.1 HS0.out.2.1 B hB2 (by omega) (by rw [HS0.out.2.2]; omega)).mono ?_
  rintro e w3 ⟨rfl, hd3, ht3⟩
  have HD3 := Lib.hid hd3
  have HM3 := Lib.hid (HM2.out.touched ht3 (fun k hk => by have := HFb.out k hk; have := HQ.out; omega) (fun x hx hm => by
    have := HFb.out _ hm
    simp only [List.mem_cons, List.not_mem_nil, or_false] at hx
    rcases hx with rfl | rfl <;> (dsimp only at this; omega)))
  clear hd3 ht3 HM2 HD2 c0 HS0
  generalize S.fmt B = S1 at *
  have c0 := HM3.out.cell 1 0 rfl rfl
  go_wp2_with fail
  refine (bopen_any HD3.out B (by omega) (by omega)).mono ?_
  rintro e w4 ⟨hb4, ⟨_, _, X, n, rfl, hXF, ha4, hn4, hX4⟩ | ⟨_, hs, _⟩ | ⟨hno, _⟩⟩
  case inr.inl => exact absurd (by rw [HFo.out.hds]; exact sound_zero B B 1) hs
  case inr.inr => exact absurd HFo.out.allOk hno
  subst hXF
  have HA4 := Lib.hid ha4
  have HM4 := Lib.hid (HM3.out.later hb4)
  have HX : Hid (∀ k ∈ X.list, q + 2 ≤ k) := Lib.hid (fun k hk => by
    rcases hX4 k hk with h | h
    · exact HFb.out k h
    · have := HM3.out.glt 1 rfl; omega)
  clear hb4 hX4 ha4 HM3 HD3 c0
  go_wp2_with fail
  refine (dall_any HA4.out.dev).mono ?_
  rintro e w5 ⟨v5, rfl, ho5, hb5⟩
  obtain ⟨a5, c5, rfl, _, _⟩ := owned_form ho5
  have HC5 := Lib.hid (Cells.owned ho5)
  have HA5 := Lib.hid (HA4.out.below hb5)
  have HM5 := Lib.hid (HM4.out.later hb5)
  have HXl : Hid (∀ k ∈ X.list, k < w5.heap.size) := Lib.hid HA5.out.mem
  have hlen : (bmOf S1 B).dev.cache.length = 512 * B := HFo.out.len
  have hdev : (bmOf S1 B).dev = S1 := rfl
  rw [hlen]
  rw [hdev, HFo.out.last] at HC5
  clear ho5 hb5 HA4 HM4
  go_wp2_with fail
  refine (rload_at a5 (512 * B) c5 S1.cache (by rw [← hdev]; exact hlen) w5 HC5.out (by omega) HFo.out.inv.wf.u64C).mono ?_
  rintro e w6 ⟨v6, rfl, hra6, hloc6, hb6⟩
  rw [show (512 * B + 7) / 8 = 64 * B by omega, show padTo S1.cache (8 * (64 * B)) = S1.cache by unfold padTo; rw [show 8 * (64 * B) - S1.cache.length = 0 by rw [← hdev, hlen]; omega]; simp] at hra6
  obtain ⟨an, cn, al, cl, aw, cw, ad, cd, ap, cp, rfl, _⟩ := hra6.ex
  obtain ⟨_, _, _, hrs⟩ := rat_steps hra6 rfl
  have HRS := Lib.hid hrs
  have HRw := Lib.hid hra6
  have HA6 := Lib.hid (HA5.out.below hb6)
  have HM6 := Lib.hid (HM5.out.later hb6)
  have HNp : Hid (∀ k ∈ X.list, k < w6.heap.size) := Lib.hid HA6.out.mem
  have HLoc : Hid (∀ k, (∃ a ∈ [an, al, aw, ad, ap], ∃ x : Addr, a = some x ∧ x.block = k) → k ∉ X.list ∧ w.heap.size ≤ k) := Lib.hid (by
    rintro k ⟨a, ha, x, hx, rfl⟩
    have key : w5.heap.size ≤ x.block := by
      simp only [List.mem_cons, List.not_mem_nil, or_false] at ha
      rcases ha with rfl | rfl | rfl | rfl | rfl
      · exact hloc6 _ rfl 0 x _ _ (by rw [hx]; rfl)
      · exact hloc6 _ rfl 1 x _ _ (by rw [hx]; rfl)
      · exact hloc6 _ rfl 2 x _ _ (by rw [hx]; rfl)
      · exact hloc6 _ rfl 3 x _ _ (by rw [hx]; rfl)
      · exact hloc6 _ rfl 4 x _ _ (by rw [hx]; rfl)
    exact ⟨fun hm => by have := HXl.out _ hm; omega, Nat.le_trans HM5.out.below.size key⟩)
  clear hra6 hb6 hrs HA5 HM5 HC5 hloc6
  have HM7 := Lib.hid (HM6.out.alloc zeroD 32)
  have HA7 := Lib.hid (HA6.out.below (below_alloc w6 (.cells zeroD 32)))
  have HRS7 := Lib.hid (HRS.out.below (below_alloc w6 (.cells zeroD 32)) (Nat.le_refl _))
  clear HRS HRw HA6 HM6
  go_upto_region 7 with (rw [show (#[.slice none 0 0, .slice none 0 0, .slice none 0 0, .slice none 0 0, .slice none 0 0, .int .i64 0, .int .i64 0, .bool false] : Array Value) = zeroD from rfl]; refine wpList_store_mem aggRd HM7.out 2 rfl rfl rfl rfl rfl rfl rfl rfl ?_; intro w8 h8 ht8; have HM8 := Lib.hid h8; have HT8 := Lib.hid ht8; clear h8 ht8)
  obtain ⟨p, hp⟩ : ∃ p, p = w6.heap.size := ⟨_, rfl⟩
  have HA8 : Hid (ManAt w8 X n B (bmOf S1 B)) := Lib.hid (HA7.out.keep (fun k hk => HT8.out.block k (HA7.out.mem k hk) (by have := HNp.out k hk; simp; omega)))
  have HRS8 := Lib.hid (HRS7.out.touchBox (by omega) (HM7.out.rows _ (List.mem_of_getElem? (i := 2) rfl)) odd_zeroD HT8.out)
  rw [← hp] at HM8 ⊢
  have HPp := Lib.hid hp
  have HMa : Hid (Mem w w8 [⟨q, 35, zeroM.toList, true⟩, ⟨q + 1, 43, [.int .i64 (B : Int)], true⟩, ⟨p, 32, [.slice an (64 * B) cn, .slice al (64 * B) cl, .slice aw (64 * B) cw, .slice ad (64 * B) cd, .slice ap (64 * B) cp, .int .i64 0, .int .i64 (-1), .bool false], true⟩]) := HM8
  clear hp HM8 HM7 HA7 HRS7 HT8
  have f5 := HMa.out.frozen 2 5 rfl
  have c5' := HMa.out.cell 2 5 rfl rfl
  have hs9 := HMa.out.set 2 5 (.int .i64 S1.steps) rfl (by simp)
  have HM9 : Hid (Mem w (w8.setCell ⟨p, 5, none⟩ (.int .i64 S1.steps)) [⟨q, 35, zeroM.toList, true⟩, ⟨q + 1, 43, [.int .i64 (B : Int)], true⟩, ⟨p, 32, [.slice an (64 * B) cn, .slice al (64 * B) cl, .slice aw (64 * B) cw, .slice ad (64 * B) cd, .slice ap (64 * B) cp, .int .i64 S1.steps, .int .i64 (-1), .bool false], true⟩]) := Lib.hid hs9
  have HA9 : Hid (ManAt (w8.setCell ⟨p, 5, none⟩ (.int .i64 S1.steps)) X n B (bmOf S1 B)) := Lib.hid (HA8.out.keep (fun k hk => (Touch.setCell (L := [p]) ⟨p, 5, none⟩ (by simp) _).block k (HA8.out.mem k hk) (by have := HNp.out k hk; have := HPp.out; simp; omega)))
  have HRS9 := Lib.hid (HRS8.out.touchBox (by omega) (HMa.out.rows _ (List.mem_of_getElem? (i := 2) rfl)) odd_devL (Touch.setCell (L := [p]) ⟨p, 5, none⟩ (by simp) (.int .i64 S1.steps)))
  have HSt : Hid ((bmOf S1 B).dev.steps = S1.steps) := Lib.hid rfl
  go_wp2_with fail
  refine (dsteps_any HA8.out.dev).mono ?_
  rintro e w9 ⟨rfl, rfl⟩
  rw [HSt.out]
  clear hs9 hdev hlen
  go_upto_region 8 with fail
  generalize w8.setCell _ _ = w9 at *
  clear f5 c5' HMa HA8 HRS8
  obtain ⟨_, _, _, _, _, _, _, _, _, _, he, hk1, _⟩ := HRS9.out.ex
  cases he
  have HK1 : Hid (Cells w9 an (S1.cache.map vu64)) := Lib.hid hk1
  have HLn : Hid (S1.cache.length = 8 * (64 * B)) := Lib.hid (by rw [HFo.out.len]; omega)
  clear hk1
  go_wp2_with (refine wpList_load_mem aggRd HM9.out 2 rfl rfl rfl rfl rfl ?_)
  refine (rread_any an (64 * B) cn S1.cache _ _ _ _ _ _ _ _ HK1.out HLn.out (by omega) HFo.out.inv.wf.u64C B (by omega) (by omega)).mono ?_
  rw [show (fun b : Nat => peek S1.cache (256 + (b : Int))) = devWord S1 from rfl]
  rintro e w10 ⟨hb10, ⟨_, g, c, rfl, hg, hgc, hr⟩ | ⟨b, hb0, hbB, _, hbad, _⟩⟩
  case inr => exact absurd (HFo.out.allOk b hb0 hbB) hbad
  rw [HFo.out.hds] at hr
  have HGg : Hid ((∀ k ∈ X.list, k < g) ∧ w.heap.size ≤ g) := Lib.hid ⟨fun k hk => Nat.lt_of_lt_of_le (HA9.out.mem k hk) hg, Nat.le_trans HM9.out.below.size hg⟩
  have HR10 := Lib.hid hr
  have HM10 := Lib.hid (HM9.out.later hb10)
  have HA10 := Lib.hid (HA9.out.below hb10)
  have HRS10 := Lib.hid (HRS9.out.below hb10 (Nat.le_refl _))
  clear hb10 hg hr HM9 HA9 HRS9 HK1
  obtain ⟨D, hD⟩ : ∃ D : Array Value, D = #[.slice an (64 * B) cn, .slice al (64 * B) cl, .slice aw (64 * B) cw, .slice ad (64 * B) cd, .slice ap (64 * B) cp, .int .i64 S1.steps, .int .i64 (-1), .bool false] := ⟨_, rfl⟩
  have HMD : Hid (Mem w w10 [⟨q, 35, zeroM.toList, true⟩, ⟨q + 1, 43, [.int .i64 (B : Int)], true⟩, ⟨p, 32, D.toList, true⟩]) := Lib.hid (by rw [hD]; exact HM10.out)
  have HRD : Hid (RAt w10 (.agg D) (64 * B) (refOf S1 (64 * B)).ref) := Lib.hid (by rw [hD]; exact HRS10.out)
  have HDs := Lib.hid HRD.out.arr
  have HDl : Hid (∀ k, RIn (.agg D) k → k ∉ X.list ∧ w.heap.size ≤ k) := Lib.hid (fun k hk => by rw [hD, rin8] at hk; exact HLoc.out k hk)
  clear hD HM10 HRS10
  go_upto_region 9 with fail
  have hXm : X.m ∉ [q] := by have := HX.out X.m (by simp [MF.list]); simp; omega
  have hpq : p ≠ q := by have := HMD.out.nd; simp at this; omega
  have HC0 : ∃ x : Near [q] w10, w10.drew = x.val := near_of (Touch.ofBelow (later_below (later_drew w10)))
  have hld : ∀ w', (∃ x : Near [q] w10, w' = x.val) → ∀ i v, D.toList[i]? = some v → w'.cell? ⟨p, 0 + i, none⟩ = some v := by
    rintro _ ⟨x, rfl⟩ i v hi
    rw [Nat.zero_add]
    exact near_cell (L := [q]) (HMD.out.cell 2 i rfl hi) (by simpa using hpq) x
  have r0 := fun x => near_cell (L := [q]) HA10.out.c0 hXm x
  refine wp_region_seg (C := fun w' => ∃ x : Near [q] w10, w' = x.val) [.fl [0, 1, 2, 3, 5, 6], .sq [4] true, .fl [7, 8, 9, 10, 11, 12, 13, 14, 15, 16, 17, 18, 19], .sq [20] true, .sq [21] false] (by kernel_rfl) (by kernel_rfl) (by intro c a d v w h; cases d <;> exact h) ?_
  simp only [segs, picks, List.getElem?_cons_succ, List.getElem?_cons_zero]
  refine wpSeg_fl HC0 ?_
  repeat (first | (refine wpQuiet_load_arr aggRd D hld HDs.out.1 rfl rfl rfl ?_) | go_big_quiet_step (fail) | quiet_step (fail))
  refine wpQuiet_nil ?_
  refine wpSeg_sq (fun K hK => ?_)
  go_wp2_with fail
  have HB10 := Lib.hid (later_below (later_drew w10))
  refine (ropen12_any (by omega) (HRD.out.below HB10.out (Nat.le_refl _)) (some ⟨g, 0, none⟩) B c (List.replicate B ⟨0, 0, 0⟩) (by simp) hB2 (by omega) ((HR10.out.keep (HB10.out.block g HR10.out.lt)).cells)).mono ?_
  rintro e w11 ⟨D1, aL1, cL1, aF1, cF1, rfl, ha11, hn11, hb11⟩
  have HIn : Hid (∀ k, MgIn D1 aL1 aF1 k → k ∉ X.list ∧ w.heap.size ≤ k) := Lib.hid (fun k hk => by
    rcases hn11 k hk with (h | ⟨o, s, h⟩ | ⟨o, s, h⟩) | h
    · exact HDl.out k h
    · cases h; exact ⟨fun hm => Nat.lt_irrefl _ (HGg.out.1 _ hm), HGg.out.2⟩
    · cases h
    · exact ⟨fun hm => by have := HA10.out.mem k hm; have := HB10.out.size; omega, Nat.le_trans (Nat.le_trans HMD.out.below.size HB10.out.size) h⟩)
  clear hn11
  have HMg := Lib.hid ha11
  have HD1 := Lib.hid ha11.dev.arr
  have HT11 := Lib.hid ((Touch.ofBelow (L := [q]) HB10.out).later hb11)
  have HM11 := Lib.hid ((HMD.out.later HB10.out).later hb11)
  have HA11 := Lib.hid ((HA10.out.below HB10.out).below hb11)
  have HC1 := near_of HT11.out
  clear ha11 hb11 HMD HA10 HRD hld
  unfold mgV
  go_wp2_with fail
  refine hK _ _ (fun _ => HC1) ?_
  clear hK K
  refine wpSeg_fl HC1 ?_
  repeat (first | go_big_quiet_step (fail) | quiet_step (fail))
  refine wpQuiet_nil ?_
  refine wpSeg_sq (fun K hK => ?_)
  go_wp2_with (refine wpList_store_mem aggMg HM11.out 0 rfl rfl rfl rfl rfl (mgA_size HD1.out.1 _ _) (mgA_size HD1.out.1 _ _).symm (mgA_one HD1.out.2 rfl rfl) ?_; intro w12 h12 ht12; have H12 := Lib.hid h12; have HT12 := Lib.hid ht12; clear h12 ht12)
  have HC2 := near_of (HT11.out.trans HT12.out)
  go_wp2_with fail
  refine hK _ _ (fun _ => HC2) ?_
  clear hK K
  clear HC0 HC1 HC2 r0
  refine wpSeg_last ?_
  go_wp2_with fail
  refine bodyPost_ret (results_cell4 rfl _ _ _ _ _ _ _ rfl (H12.out.exact 0 rfl) Tryz.underlying35 rfl (infoM _ (mgA_size HD1.out.1 _ _))) rfl ?_
  rw [← HP.out]
  have hbe : (⟨refOf S1 (64 * B), (bmOf S1 B).list, (bmOf S1 B).free⟩ : Bm) = ⟨refOf S1 (64 * B), List.replicate B ⟨0, 0, 0⟩, freeL (freeAt (List.replicate B ⟨0, 0, 0⟩)) B B⟩ := by
    unfold bmOf; rw [HFo.out.hds]
  obtain ⟨hal, hfit⟩ := HFo.out.alike (by omega)
  have hzk : ∀ q, ((bmOf S1 B).list.getD q default).k = 0 := fun q => by
    unfold bmOf; dsimp only; rw [HFo.out.hds]; simp only [List.getD_eq_getElem?_getD, List.getElem?_replicate]; split <;> rfl
  rw [hbe] at hal
  refine ⟨X, n, D1, aL1, cL1, aF1, cF1, bmOf S1 B, _, rfl, ?_, hn4, ?_, hal, HFo.out.bm hB2, HFo.out.ok, hfit, by unfold refOf; simp, ⟨HFo.out.live, fun q q1 q2 => ((HFo.out.bm hB2).free q).2 ⟨q1, q2, hzk q⟩⟩, ?_, HIn.out, ?_⟩
  · exact HA11.out.keep (fun k hk => HT12.out.block k (HA11.out.mem k hk) (by have := HX.out k hk; simp; omega))
  · exact HMg.out.touch (by omega) hB2 (HM11.out.rows _ (List.mem_of_getElem? (i := 0) rfl)) odd_zeroM HT12.out
  · intro k hk
    have := HX.out k hk
    have := HQ.out
    omega
  · exact H12.out.below

end Go.Proofs.YtebnelihlgdciaaGreat

/- law12: do. -/
namespace Go.Proofs.YtebnelihlgdciaaGreat
open Go.RowKit
set_option linter.unusedVariables false

def do12 (m : Bm) (k z : Int) : Bm := if k = 0 then (m.small z).bm else if k = 1 then (m.large z).bm else if k = 2 then (m.release z).bm else if k = 3 then ⟨m.dev.arm (max z 0), m.list, m.free⟩ else m

def Did12 (w : World) (X : MF) (n m B : Nat) (D0 : Array Value) (aL0 aF0 : Option Addr) (b b' : Bm) : Ending → World → Prop := fun e w' => ∃ D aL cL aF cF, e = .returned (.tuple #[mgV D aL cL aF cF B, .bool true]) ∧
  ManAt w' X n B b ∧ MgAt w' D aL aF m B b' ∧ MgNew w.heap.size D0 aL0 aF0 D aL aF ∧ Touch X.hot w w'

theorem MgAt.touchOld {W W' : World} {D : Array Value} {aL aF : Option Addr} {m B : Nat} {b : Bm} (h : MgAt W D aL aF m B b) {L : List Nat} (ht : Touch L W W') (hL : ∀ k, MgIn D aL aF k → k ∉ L) : MgAt W' D aL aF m B b := by
  have key : ∀ (a : Option Addr) (vs : List Value), (∀ k o s, a = some ⟨k, o, s⟩ → k ∉ L) → Cells W a vs → Cells W' a vs := by
    intro a vs ha hc
    rcases hc with hc | ⟨b', off, rfl, hc⟩
    · exact .inl hc
    · exact .inr ⟨b', off, rfl, fun i v hi => cell_of_touch ht (ha b' off none rfl) (hc i v hi)⟩
  exact ⟨h.dev.touch ht (.inr (fun k hk => hL k (.inl hk))), key _ _ (fun k o s e => hL k (.inr (.inl ⟨o, s, e⟩))) h.list, key _ _ (fun k o s e => hL k (.inr (.inr ⟨o, s, e⟩))) h.free, h.lenL, h.lenF⟩

theorem mgL_set6 {D : Array Value} (hD : D.size = 8) (x y v : Value) : (mgL D x y).set 6 v = mgL (D.setIfInBounds 6 v) x y := by
  unfold mgL
  rw [List.set_append_left _ _ (by simp [hD]), Array.toList_setIfInBounds]
theorem bm_small {B : Nat} {b : Bm} (h : BmOk B b) : ∀ i, (b.list.getD i default).l ≤ 100000 := fun i => by
  by_cases hi : i < B
  · have := of_decide_eq_true (h.right i hi)
    unfold HdRight at this
    omega
  · rw [List.getD_eq_getElem?_getD, List.getElem?_eq_none (by rw [h.lenL]; omega)]
    show (0 : Int) ≤ 100000
    decide

theorem rat_armed {W : World} {D : Array Value} {m : Nat} {S : Dev} {n : Int} (h : RAt W (.agg D) m S.ref) (hn : 0 ≤ n) : RAt W (.agg (D.setIfInBounds 6 (.int .i64 n))) m (S.arm n).ref ∧ ∀ k, RIn (.agg (D.setIfInBounds 6 (.int .i64 n))) k → RIn (.agg D) k := by
  obtain ⟨an, cn, al, cl, aw, cw, ad, cd, ap, cp, he, k1, k2, k3, k4, k5⟩ := h.ex
  cases he
  have e : (S.arm n).ref.fuse = n := by
    unfold Dev.ref Dev.arm
    dsimp only
    rw [if_pos (by simpa using hn)]
  have e2 : (#[.slice an m cn, .slice al m cl, .slice aw m cw, .slice ad m cd, .slice ap m cp, .int .i64 S.ref.steps, .int .i64 S.ref.fuse, .bool S.ref.dead] : Array Value).setIfInBounds 6 (.int .i64 n) = #[.slice an m cn, .slice al m cl, .slice aw m cw, .slice ad m cd, .slice ap m cp, .int .i64 S.ref.steps, .int .i64 n, .bool S.ref.dead] := rfl
  rw [e2]
  refine ⟨⟨⟨_, _, _, _, _, _, _, _, _, _, by rw [e]; rfl, k1, k2, k3, k4, k5⟩, h.lenN, h.lenL, h.lenW, h.lenD, h.lenP, h.u64N, h.u64L, h.u64W⟩, fun k hk => ?_⟩
  rw [rin8] at hk ⊢
  exact hk

set_option maxHeartbeats 8000000 in
set_option maxRecDepth 100000 in
theorem do12_any {w : World} {X : MF} {n B : Nat} {b b' : Bm} {D : Array Value} {aL aF : Option Addr} {m : Nat} (ha : ManAt w X n B b) (hg : MgAt w D aL aF m B b') (hap : ∀ k, MgIn D aL aF k → k ∉ X.list) (hal : Alike b b') (hok : BmOk B b) (hm : b'.dev.dirty.length = m) (hm2 : 2 ≤ m) (hB2 : 2 ≤ B) (hB : B ≤ 1000)
    (hn : n < 1000000000000) {N : Nat} (hN : N ≤ 90000000) (ho : b.dev.ok N) (hf : b'.dev.fit N) (cL cF : Nat) (k z : Int) (hz9 : -9223372036854775808 ≤ z ∧ z ≤ 9223372036854775807) :
    Calls Tryz.prog 9 #[.pointer (some ⟨X.m, 0, none⟩), vdev X.F, mgV D aL cL aF cF B, .agg #[.int .i64 k, .int .i64 z]] w (Did12 w X (n + 1) m B D aL aF (do12 b k z) (do12 b' k z)) := by
  have HDs := Lib.hid hg.dev.arr
  have HOd := Lib.hid hg.dev.odd
  have HM0 := Lib.hid (((Mem.one w (mgA D (.slice aL B cL) (.slice aF B cF)) 35).alloc #[.int .i64 k, .int .i64 z] 26).alloc zeroM 35)
  have hsz : ((w.alloc (.cells (mgA D (.slice aL B cL) (.slice aF B cF)) 35)).heap.size = w.heap.size + 1) ∧ (((w.alloc (.cells (mgA D (.slice aL B cL) (.slice aF B cF)) 35)).alloc (.cells #[.int .i64 k, .int .i64 z] 26)).heap.size = w.heap.size + 1 + 1) := by simp
  rw [hsz.1, hsz.2, mgA_list] at HM0
  have HA := Lib.hid (ha.below HM0.out.below)
  have HG := Lib.hid (hg.below HM0.out.below)
  have HT := Lib.hid (Touch.ofBelow (L := X.hot) HM0.out.below)
  have HM := Lib.hid HM0.out.r
  have HXw := Lib.hid ha.mem
  have HXh : Hid (∀ k ∈ X.hot, k < w.heap.size) := Lib.hid (fun k hk => ha.mem k (MF.hot_sub hk))
  have HAp : Hid (∀ k, MgIn D aL aF k → k ∉ X.hot) := Lib.hid (fun k hk hm => hap k hk (MF.hot_sub hm))
  have HAl := Lib.hid hal
  have HOk := Lib.hid hok
  have HF := Lib.hid hf
  have HMl := Lib.hid hm
  generalize hP : Did12 w X (n + 1) m B D aL aF (do12 b k z) (do12 b' k z) = Post
  have HP := Lib.hid hP
  unfold mgV vdev
  clear ha hg hap hal hok hf hm hP hsz HM0
  go_enter Tryz.func9, Tryz.ntmps9
  go_upto_region 1 with fail
  rw [show (#[.slice none 0 0, .slice none 0 0, .slice none 0 0, .slice none 0 0, .slice none 0 0, .int .i64 0, .int .i64 0, .bool false, .slice none 0 0, .slice none 0 0] : Array Value) = zeroM from rfl]
  generalize ((w.alloc _).alloc _).alloc _ = w0 at *
  obtain ⟨q, hq⟩ : ∃ q, q = w.heap.size := ⟨_, rfl⟩
  rw [← hq] at HM ⊢
  have HQ := Lib.hid hq
  have HXq : Hid (∀ k ∈ X.hot, k < q) := Lib.hid (fun k hk => by rw [hq]; exact HXh.out k hk)
  clear hq
  have o0 := HM.out.cell 1 0 rfl rfl
  have o1 := HM.out.cell 1 1 rfl rfl
  by_cases hk : k = 0
  · subst hk
    have e0 : do12 b 0 z = (b.small z).bm := rfl
    have e0' : do12 b' 0 z = (b'.small z).bm := rfl
    rw [e0, e0'] at HP
    clear e0 e0'
    obtain ⟨hal1, heb, hee⟩ := HAl.out.small z
    go_wp2_with fail
    refine (bsmall_any HA.out hB hn (by omega) ho z).mono ?_
    rintro e w1 ⟨rfl, ha1, ht1⟩
    have HA1 := Lib.hid ha1
    have HM1 := Lib.hid (HM.out.touch ht1 HXq.out)
    have HG1 := Lib.hid (HG.out.touchOld ht1 HAp.out)
    have HT1 := Lib.hid (HT.out.trans ht1)
    clear ha1 ht1 HA HM HG HT
    have c1 := HM1.out.cell 1 1 rfl rfl
    obtain ⟨er, her⟩ : ∃ er, er = (b.small z).err := ⟨_, rfl⟩
    have h1 : (er == er) = true := by simp
    obtain ⟨br, hbr⟩ : ∃ br, br = (b.small z).b := ⟨_, rfl⟩
    have h2 : (br == br) = true := by simp
    rw [← hbr] at heb ⊢
    rw [← her] at hee ⊢
    have HEs := Lib.hid hee
    have HEb := Lib.hid heb
    clear heb hbr
    clear hee her hal1
    have HRef := Lib.hid (rsmall_any HG1.out HMl.out hm2 hB2 hB (by omega) HF.out cL cF z hz9)
    unfold mgV at HRef
    go_wp2_with (refine wpList_load_boxr (D := mgA D (.slice aL B cL) (.slice aF B cF)) aggMg HM1.out 0 rfl (mgA_size HDs.out.1 _ _) rfl rfl rfl ?_)
    refine HRef.out.mono ?_
    rintro e w2 ⟨D2, aL2, cL2, aF2, cF2, rfl, hg2, hn2, hb2⟩
    rw [HEs.out]
    rw [HEb.out]
    have HM2 := Lib.hid (HM1.out.later hb2)
    have HA2 := Lib.hid (HA1.out.below hb2)
    have HG2 := Lib.hid hg2
    have HD2 := Lib.hid hg2.dev.arr
    have HT2 := Lib.hid (HT1.out.later hb2)
    have HN2 := Lib.hid (hn2.mono HT1.out.size)
    clear hg2 hn2 hb2 HM1 HA1 HG1 HT1 HRef
    unfold mgV
    go_upto_region 16 with (refine wpList_store_r aggMg HM2.out 0 rfl rfl rfl rfl rfl (mgA_size HD2.out.1 _ _) (by rw [mgL_len HDs.out.1, mgA_size HD2.out.1]) (mgA_one HD2.out.2 rfl rfl) ?_; intro w3 h3 ht3; have HM3 := Lib.hid h3; have HT3 := Lib.hid ht3; clear h3 ht3)
    have HA3 := Lib.hid (HA2.out.keep (fun j hj => HT3.out.block j (HA2.out.mem j hj) (by have := HXw.out j hj; have := HQ.out; simp; omega)))
    have HG3 := Lib.hid (HG2.out.touch hm2 hB2 (HM2.out.rows _ (List.mem_of_getElem? (i := 0) rfl)) (HOd.out.2 _ _ _ _ _ _) HT3.out)
    have HT3w := Lib.hid (HT2.out.own HT3.out (fun j hj => .inl (by simp at hj; have := HQ.out; omega)))
    rw [mgA_list] at HM3
    clear HM2 HA2 HG2 HT2 HT3
    go_wp2_with (first
      | (refine wpList_load_boxr (D := mgA D2 (.slice aL2 B cL2) (.slice aF2 B cF2)) aggMg HM3.out 0 rfl (mgA_size HD2.out.1 _ _) rfl rfl rfl ?_)
      | (refine wpList_store_r aggMg HM3.out 2 rfl rfl rfl rfl rfl (mgA_size HD2.out.1 _ _) (mgA_size HD2.out.1 _ _).symm (mgA_one HD2.out.2 rfl rfl) ?_; intro w9 h9 ht9; have H9 := Lib.hid h9; have HT9 := Lib.hid ht9; clear h9 ht9))
    refine bodyPost_ret (results_cell_row2 rfl _ _ _ _ _ _ _ rfl (H9.out.exact 2 rfl) Tryz.underlying35 rfl (infoM _ (mgA_size HD2.out.1 _ _))) rfl ?_
    rw [← HP.out]
    exact ⟨D2, aL2, cL2, aF2, cF2, rfl, HA3.out.keep (fun j hj => HT9.out.block j (HA3.out.mem j hj) (by have := HXw.out j hj; have := HQ.out; simp; omega)), HG3.out.touch hm2 hB2 (HM3.out.rows _ (List.mem_of_getElem? (i := 2) rfl)) odd_zeroM HT9.out, HN2.out, HT3w.out.own HT9.out (fun j hj => .inl (by simp at hj; have := HQ.out; omega))⟩
  have k0 : (k == 0) = false := by simpa using hk
  by_cases hk1 : k = 1
  · subst hk1
    have e0 : do12 b 1 z = (b.large z).bm := rfl
    have e0' : do12 b' 1 z = (b'.large z).bm := rfl
    rw [e0, e0'] at HP
    clear e0 e0'
    obtain ⟨hal1, heb, hee⟩ := HAl.out.large z
    go_wp2_with fail
    refine (blarge_any HA.out hB hn (by omega) ho HOk.out.clean.inv z).mono ?_
    rintro e w1 ⟨rfl, ha1, ht1⟩
    have HA1 := Lib.hid ha1
    have HM1 := Lib.hid (HM.out.touch ht1 HXq.out)
    have HG1 := Lib.hid (HG.out.touchOld ht1 HAp.out)
    have HT1 := Lib.hid (HT.out.trans ht1)
    clear ha1 ht1 HA HM HG HT
    have c1 := HM1.out.cell 1 1 rfl rfl
    obtain ⟨er, her⟩ : ∃ er, er = (b.large z).err := ⟨_, rfl⟩
    have h1 : (er == er) = true := by simp
    obtain ⟨br, hbr⟩ : ∃ br, br = (b.large z).b := ⟨_, rfl⟩
    have h2 : (br == br) = true := by simp
    rw [← hbr] at heb ⊢
    rw [← her] at hee ⊢
    have HEs := Lib.hid hee
    have HEb := Lib.hid heb
    clear heb hbr
    clear hee her hal1
    have HRef := Lib.hid (rlarge_any HG1.out HMl.out hm2 hB2 hB hN HF.out cL cF z hz9)
    unfold mgV at HRef
    go_wp2_with (refine wpList_load_boxr (D := mgA D (.slice aL B cL) (.slice aF B cF)) aggMg HM1.out 0 rfl (mgA_size HDs.out.1 _ _) rfl rfl rfl ?_)
    refine HRef.out.mono ?_
    rintro e w2 ⟨D2, aL2, cL2, aF2, cF2, rfl, hg2, hn2, hb2⟩
    rw [HEs.out]
    rw [HEb.out]
    have HM2 := Lib.hid (HM1.out.later hb2)
    have HA2 := Lib.hid (HA1.out.below hb2)
    have HG2 := Lib.hid hg2
    have HD2 := Lib.hid hg2.dev.arr
    have HT2 := Lib.hid (HT1.out.later hb2)
    have HN2 := Lib.hid (hn2.mono HT1.out.size)
    clear hg2 hn2 hb2 HM1 HA1 HG1 HT1 HRef
    unfold mgV
    go_upto_region 16 with (refine wpList_store_r aggMg HM2.out 0 rfl rfl rfl rfl rfl (mgA_size HD2.out.1 _ _) (by rw [mgL_len HDs.out.1, mgA_size HD2.out.1]) (mgA_one HD2.out.2 rfl rfl) ?_; intro w3 h3 ht3; have HM3 := Lib.hid h3; have HT3 := Lib.hid ht3; clear h3 ht3)
    have HA3 := Lib.hid (HA2.out.keep (fun j hj => HT3.out.block j (HA2.out.mem j hj) (by have := HXw.out j hj; have := HQ.out; simp; omega)))
    have HG3 := Lib.hid (HG2.out.touch hm2 hB2 (HM2.out.rows _ (List.mem_of_getElem? (i := 0) rfl)) (HOd.out.2 _ _ _ _ _ _) HT3.out)
    have HT3w := Lib.hid (HT2.out.own HT3.out (fun j hj => .inl (by simp at hj; have := HQ.out; omega)))
    rw [mgA_list] at HM3
    clear HM2 HA2 HG2 HT2 HT3
    go_wp2_with (first
      | (refine wpList_load_boxr (D := mgA D2 (.slice aL2 B cL2) (.slice aF2 B cF2)) aggMg HM3.out 0 rfl (mgA_size HD2.out.1 _ _) rfl rfl rfl ?_)
      | (refine wpList_store_r aggMg HM3.out 2 rfl rfl rfl rfl rfl (mgA_size HD2.out.1 _ _) (mgA_size HD2.out.1 _ _).symm (mgA_one HD2.out.2 rfl rfl) ?_; intro w9 h9 ht9; have H9 := Lib.hid h9; have HT9 := Lib.hid ht9; clear h9 ht9))
    refine bodyPost_ret (results_cell_row2 rfl _ _ _ _ _ _ _ rfl (H9.out.exact 2 rfl) Tryz.underlying35 rfl (infoM _ (mgA_size HD2.out.1 _ _))) rfl ?_
    rw [← HP.out]
    exact ⟨D2, aL2, cL2, aF2, cF2, rfl, HA3.out.keep (fun j hj => HT9.out.block j (HA3.out.mem j hj) (by have := HXw.out j hj; have := HQ.out; simp; omega)), HG3.out.touch hm2 hB2 (HM3.out.rows _ (List.mem_of_getElem? (i := 2) rfl)) odd_zeroM HT9.out, HN2.out, HT3w.out.own HT9.out (fun j hj => .inl (by simp at hj; have := HQ.out; omega))⟩
  have k1 : (k == 1) = false := by simpa using hk1
  by_cases hk2 : k = 2
  · subst hk2
    have e0 : do12 b 2 z = (b.release z).bm := rfl
    have e0' : do12 b' 2 z = (b'.release z).bm := rfl
    rw [e0, e0'] at HP
    clear e0 e0'
    obtain ⟨hal1, hee⟩ := HAl.out.release z
    go_wp2_with fail
    refine (brelease_any HA.out hB hn (by omega) ho HOk.out.clean.inv (bm_small HOk.out) z).mono ?_
    rintro e w1 ⟨rfl, ha1, ht1⟩
    have HA1 := Lib.hid ha1
    have HM1 := Lib.hid (HM.out.touch ht1 HXq.out)
    have HG1 := Lib.hid (HG.out.touchOld ht1 HAp.out)
    have HT1 := Lib.hid (HT.out.trans ht1)
    clear ha1 ht1 HA HM HG HT
    have c1 := HM1.out.cell 1 1 rfl rfl
    obtain ⟨er, her⟩ : ∃ er, er = (b.release z).err := ⟨_, rfl⟩
    have h1 : (er == er) = true := by simp
    rw [← her] at hee ⊢
    have HEs := Lib.hid hee
    clear hee her hal1
    have HRef := Lib.hid (rrelease_any HG1.out HMl.out hm2 hB2 hB hN HF.out cL cF (fun i hi => by rw [HAl.out.list] at hi ⊢; exact HOk.out.right i (by rw [HOk.out.lenL] at hi; exact hi)) z hz9)
    unfold mgV at HRef
    go_wp2_with (refine wpList_load_boxr (D := mgA D (.slice aL B cL) (.slice aF B cF)) aggMg HM1.out 0 rfl (mgA_size HDs.out.1 _ _) rfl rfl rfl ?_)
    refine HRef.out.mono ?_
    rintro e w2 ⟨D2, aL2, cL2, aF2, cF2, rfl, hg2, hn2, hb2⟩
    rw [HEs.out]
    have HM2 := Lib.hid (HM1.out.later hb2)
    have HA2 := Lib.hid (HA1.out.below hb2)
    have HG2 := Lib.hid hg2
    have HD2 := Lib.hid hg2.dev.arr
    have HT2 := Lib.hid (HT1.out.later hb2)
    have HN2 := Lib.hid (hn2.mono HT1.out.size)
    clear hg2 hn2 hb2 HM1 HA1 HG1 HT1 HRef
    unfold mgV
    go_upto_region 16 with (refine wpList_store_r aggMg HM2.out 0 rfl rfl rfl rfl rfl (mgA_size HD2.out.1 _ _) (by rw [mgL_len HDs.out.1, mgA_size HD2.out.1]) (mgA_one HD2.out.2 rfl rfl) ?_; intro w3 h3 ht3; have HM3 := Lib.hid h3; have HT3 := Lib.hid ht3; clear h3 ht3)
    have HA3 := Lib.hid (HA2.out.keep (fun j hj => HT3.out.block j (HA2.out.mem j hj) (by have := HXw.out j hj; have := HQ.out; simp; omega)))
    have HG3 := Lib.hid (HG2.out.touch hm2 hB2 (HM2.out.rows _ (List.mem_of_getElem? (i := 0) rfl)) (HOd.out.2 _ _ _ _ _ _) HT3.out)
    have HT3w := Lib.hid (HT2.out.own HT3.out (fun j hj => .inl (by simp at hj; have := HQ.out; omega)))
    rw [mgA_list] at HM3
    clear HM2 HA2 HG2 HT2 HT3
    go_wp2_with (first
      | (refine wpList_load_boxr (D := mgA D2 (.slice aL2 B cL2) (.slice aF2 B cF2)) aggMg HM3.out 0 rfl (mgA_size HD2.out.1 _ _) rfl rfl rfl ?_)
      | (refine wpList_store_r aggMg HM3.out 2 rfl rfl rfl rfl rfl (mgA_size HD2.out.1 _ _) (mgA_size HD2.out.1 _ _).symm (mgA_one HD2.out.2 rfl rfl) ?_; intro w9 h9 ht9; have H9 := Lib.hid h9; have HT9 := Lib.hid ht9; clear h9 ht9))
    refine bodyPost_ret (results_cell_row2 rfl _ _ _ _ _ _ _ rfl (H9.out.exact 2 rfl) Tryz.underlying35 rfl (infoM _ (mgA_size HD2.out.1 _ _))) rfl ?_
    rw [← HP.out]
    exact ⟨D2, aL2, cL2, aF2, cF2, rfl, HA3.out.keep (fun j hj => HT9.out.block j (HA3.out.mem j hj) (by have := HXw.out j hj; have := HQ.out; simp; omega)), HG3.out.touch hm2 hB2 (HM3.out.rows _ (List.mem_of_getElem? (i := 2) rfl)) odd_zeroM HT9.out, HN2.out, HT3w.out.own HT9.out (fun j hj => .inl (by simp at hj; have := HQ.out; omega))⟩
  have k2 : (k == 2) = false := by simpa using hk2
  by_cases hk3 : k = 3
  · subst hk3
    have e0 : do12 b 3 z = ⟨b.dev.arm (max z 0), b.list, b.free⟩ := rfl
    have e0' : do12 b' 3 z = ⟨b'.dev.arm (max z 0), b'.list, b'.free⟩ := rfl
    rw [e0, e0'] at HP
    obtain ⟨n0, hn0⟩ : ∃ n0, n0 = max z 0 := ⟨_, rfl⟩
    rw [← hn0] at HP
    have hn00 : 0 ≤ n0 := by omega
    have hmx : max 0 z = n0 := by rw [hn0]; exact Int.max_comm _ _
    clear e0 e0'
    have HArm := Lib.hid (darm_any HA.out.dev n0)
    rw [hn0] at HArm
    unfold vdev at HArm
    go_wp2_with fail
    refine HArm.out.mono ?_
    rintro e w1 ⟨rfl, hd1, ht1⟩
    rw [← hn0] at hd1
    have hap := MF.apart HA.out.nd
    have hFd : X.F.d ∈ X.F.list := by simp [Foot.list]
    have htw : Touch (X.g :: X.F.list) w0 w1 := ht1.wide (fun j hj => by simp at hj; subst hj; exact List.mem_cons_of_mem _ hFd)
    have hput := HA.out.put hd1 (HA.out.tab.touch ht1 (by simp; intro e; exact (MF.notHot hap.t).2.2.2 (e ▸ hFd)) (by simp; intro e; exact hap.g (e ▸ hFd))) htw
    have HA1 := Lib.hid hput.1
    have HM1 := Lib.hid (HM.out.touch hput.2 HXq.out)
    have HG1 := Lib.hid (HG.out.touchOld hput.2 HAp.out)
    have HT1 := Lib.hid (HT.out.trans hput.2)
    clear hd1 ht1 hap hFd htw hput HA HM HG HT HArm
    have o1 := HM1.out.cell 1 1 rfl rfl
    obtain ⟨v6, hv6⟩ : ∃ v6, (mgL D (.slice aL B cL) (.slice aF B cF))[6]? = some v6 := ⟨_, List.getElem?_eq_getElem (by rw [mgL_len HDs.out.1]; decide)⟩
    have c6 := HM1.out.cell 0 6 rfl hv6
    have f6 := HM1.out.frozen 0 6 rfl
    have hs2 := HM1.out.set 0 6 (.int .i64 n0) rfl (by rw [mgL_len HDs.out.1]; decide)
    rw [mgL_set6 HDs.out.1] at hs2
    obtain ⟨hra, hrin⟩ := rat_armed HG1.out.dev hn00
    have HM2 := Lib.hid hs2
    have HD2 := Lib.hid hra.arr
    have HTs : Hid (Touch [q] w1 (w1.setCell ⟨q, 6, none⟩ (.int .i64 n0))) := Lib.hid (Touch.setCell ⟨q, 6, none⟩ (by simp) _)
    have HG2 : Hid (MgAt (w1.setCell ⟨q, 6, none⟩ (.int .i64 n0)) (D.setIfInBounds 6 (.int .i64 n0)) aL aF m B ⟨b'.dev.arm n0, b'.list, b'.free⟩) := Lib.hid (MgAt.touch ⟨hra, HG1.out.list, HG1.out.free, HG1.out.lenL, HG1.out.lenF⟩ hm2 hB2 (HM1.out.rows _ (List.mem_of_getElem? (i := 0) rfl)) (HOd.out.2 _ _ _ _ _ _) HTs.out)
    have HA2 := Lib.hid ((HA1.out.keep (fun j hj => HTs.out.block j (HA1.out.mem j hj) (by have := HXw.out j hj; have := HQ.out; simp; omega))).mono (Nat.le_succ n))
    have HT2 := Lib.hid (HT1.out.own HTs.out (fun j hj => .inl (by simp at hj; have := HQ.out; omega)))
    have HN2 : Hid (MgNew w.heap.size D aL aF (D.setIfInBounds 6 (.int .i64 n0)) aL aF) := Lib.hid (fun j hj => .inl (hj.imp (hrin j) id))
    have hmx2 : max z 0 = n0 := hn0.symm
    clear hs2 hra hrin HTs HM1 HA1 HG1 HT1 hv6 hn0
    go_upto_region 16 with fail
    generalize w1.setCell _ _ = w2 at *
    clear c6 f6
    go_wp2_with (first
      | (refine wpList_load_boxr (D := mgA (D.setIfInBounds 6 (.int .i64 n0)) (.slice aL B cL) (.slice aF B cF)) aggMg HM2.out 0 rfl (mgA_size HD2.out.1 _ _) rfl rfl rfl ?_)
      | (refine wpList_store_r aggMg HM2.out 2 rfl rfl rfl rfl rfl (mgA_size HD2.out.1 _ _) (mgA_size HD2.out.1 _ _).symm (mgA_one HD2.out.2 rfl rfl) ?_; intro w9 h9 ht9; have H9 := Lib.hid h9; have HT9 := Lib.hid ht9; clear h9 ht9))
    refine bodyPost_ret (results_cell_row2 rfl _ _ _ _ _ _ _ rfl (H9.out.exact 2 rfl) Tryz.underlying35 rfl (infoM _ (mgA_size HD2.out.1 _ _))) rfl ?_
    rw [← HP.out]
    exact ⟨(D.setIfInBounds 6 (.int .i64 n0)), aL, cL, aF, cF, rfl, HA2.out.keep (fun j hj => HT9.out.block j (HA2.out.mem j hj) (by have := HXw.out j hj; have := HQ.out; simp; omega)), HG2.out.touch hm2 hB2 (HM2.out.rows _ (List.mem_of_getElem? (i := 2) rfl)) odd_zeroM HT9.out, HN2.out, HT2.out.own HT9.out (fun j hj => .inl (by simp at hj; have := HQ.out; omega))⟩
  have k3 : (k == 3) = false := by simpa using hk3
  have e0 : do12 b k z = b := by unfold do12; rw [if_neg hk, if_neg hk1, if_neg hk2, if_neg hk3]
  have e0' : do12 b' k z = b' := by unfold do12; rw [if_neg hk, if_neg hk1, if_neg hk2, if_neg hk3]
  rw [e0, e0'] at HP
  have HAm := Lib.hid (HA.out.mono (Nat.le_succ n))
  clear hk hk1 hk2 hk3 e0 e0' HA
  go_wp2_with (first
    | (refine wpList_load_boxr (D := mgA D (.slice aL B cL) (.slice aF B cF)) aggMg HM.out 0 rfl (mgA_size HDs.out.1 _ _) rfl rfl rfl ?_)
    | (refine wpList_store_r aggMg HM.out 2 rfl rfl rfl rfl rfl (mgA_size HDs.out.1 _ _) (mgA_size HDs.out.1 _ _).symm (mgA_one HDs.out.2 rfl rfl) ?_; intro w9 h9 ht9; have H9 := Lib.hid h9; have HT9 := Lib.hid ht9; clear h9 ht9))
  refine bodyPost_ret (results_cell_row2 rfl _ _ _ _ _ _ _ rfl (H9.out.exact 2 rfl) Tryz.underlying35 rfl (infoM _ (mgA_size HDs.out.1 _ _))) rfl ?_
  rw [← HP.out]
  exact ⟨D, aL, cL, aF, cF, rfl, HAm.out.keep (fun j hj => HT9.out.block j (HAm.out.mem j hj) (by have := HXw.out j hj; have := HQ.out; simp; omega)), HG.out.touch hm2 hB2 (HM.out.rows _ (List.mem_of_getElem? (i := 2) rfl)) odd_zeroM HT9.out, MgNew.refl _ _ _ _, HT.out.own HT9.out (fun j hj => .inl (by simp at hj; have := HQ.out; omega))⟩

theorem do12_alike {b b' : Bm} (h : Alike b b') (k z : Int) : Alike (do12 b k z) (do12 b' k z) := by
  unfold do12
  by_cases hk : k = 0
  · rw [if_pos hk, if_pos hk]; exact (h.small z).1
  rw [if_neg hk, if_neg hk]
  by_cases hk : k = 1
  · rw [if_pos hk, if_pos hk]; exact (h.large z).1
  rw [if_neg hk, if_neg hk]
  by_cases hk : k = 2
  · rw [if_pos hk, if_pos hk]; exact (h.release z).1
  rw [if_neg hk, if_neg hk]
  by_cases hk : k = 3
  · rw [if_pos hk, if_pos hk]
    have ai : ∀ {S : Dev}, S.inv → (S.arm (max z 0)).inv := fun h => ⟨⟨h.wf.lenL, h.wf.lenF, h.wf.lenP, h.wf.lenD, h.wf.small, h.wf.u64L, h.wf.u64C, h.wf.u64F⟩, h.sound, h.pend⟩
    exact ⟨h.dev.arm _, h.list, h.free, ai h.invM, ai h.invN⟩
  rw [if_neg hk, if_neg hk]; exact h
theorem do12_done {B : Nat} {b : Bm} (h : BmOk B b) (k z : Int) : Stay b (do12 b k z) B (fun q => fb b.free q = true ∨ (k = 2 ∧ IsBack b z q)) ∧ ((do12 b k z).dev.dead = true ∨ BmOk B (do12 b k z)) := by
  have mono : ∀ {m' : Bm} {T T' : Nat → Prop}, Stay b m' B T → (∀ q, T q → T' q) → Stay b m' B T' := fun h1 ht => ⟨h1.1, h1.2.1, fun q q1 q2 => ⟨(h1.2.2 q q1 q2).1, fun hn => (h1.2.2 q q1 q2).2 (fun ht' => hn (ht q ht'))⟩⟩
  unfold do12
  by_cases hk : k = 0
  · rw [if_pos hk]; exact ⟨mono (small_done h z).1 (fun q hq => .inl hq), (small_done h z).2⟩
  rw [if_neg hk]
  by_cases hk : k = 1
  · rw [if_pos hk]; exact ⟨mono (large_done h z).1 (fun q hq => .inl hq), (large_done h z).2⟩
  rw [if_neg hk]
  by_cases hk : k = 2
  · rw [if_pos hk]; exact ⟨mono (release_done h z).1 (fun q hq => .inr ⟨hk, hq⟩), (release_done h z).2⟩
  rw [if_neg hk]
  by_cases hk : k = 3
  · rw [if_pos hk]; exact ⟨(arm_done h _ _).1, .inr (arm_done h (max z 0) (fun _ => True)).2⟩
  rw [if_neg hk]; exact ⟨h.stay _, .inr h⟩

end Go.Proofs.YtebnelihlgdciaaGreat

/- law12: played, plain. -/
namespace Go.Proofs.YtebnelihlgdciaaGreat
set_option linter.unusedVariables false

theorem putAll_big {S : Dev} {L : List Hd} {b : Int} {l : List Hd} (h : L.length < l.length) : putAll S L b l = ⟨S, L, 1⟩ := by
  unfold putAll
  rw [if_pos]
  by_cases c : b < 1
  · exact .inl c
  · exact .inr (.inr (.inl (by omega)))
theorem putAll_okL {S : Dev} {N : Nat} (hw : S.inv) (h : S.ok N) (L : List Hd) (b : Int) (l : List Hd) : (putAll S L b l).dev.ok (N + L.length + 200000) := by
  by_cases c : L.length < l.length
  · rw [putAll_big c]; exact h.mono (by omega)
  · exact (putAll_ok hw h L b l).mono (by omega)
theorem putAll_fitL {S : Dev} {N : Nat} (h : S.fit N) (L : List Hd) (b : Int) (l : List Hd) : (putAll S L b l).dev.fit (N + L.length + 200000) := by
  by_cases c : L.length < l.length
  · rw [putAll_big c]; exact h.mono (by omega)
  · exact (putAll_fit h L b l).mono (by omega)

/-- What stays as it is, or grows a little. -/
structure Grows (P : Dev → Nat → Prop) : Prop where
  mono : ∀ {S N M}, P S N → N ≤ M → P S M
  put : ∀ {S N}, P S N → S.inv → ∀ L b l, P (putAll S L b l).dev (N + L.length + 200000)
  arm : ∀ {S N}, P S N → ∀ n : Int, 0 ≤ n → n < 9223372036854775808 → P (S.arm n) N

theorem do12_grows {P : Dev → Nat → Prop} (hP : Grows P) {b : Bm} (hi : b.dev.inv) {N : Nat} (h : P b.dev N) (hB : b.list.length ≤ 1000) (k z : Int) (hz : z < 9223372036854775808) : P (do12 b k z).dev (N + 500000) := by
  have two : ∀ (L1 : List Hd) (b1 : Int) (l1 : List Hd), L1.length ≤ 1000 → ∀ (b2 : Int) (l2 : List Hd), P (putAll (putAll b.dev L1 b1 l1).dev (putAll b.dev L1 b1 l1).list b2 l2).dev (N + 500000) := fun L1 b1 l1 hl b2 l2 =>
    hP.mono (hP.put (hP.put h hi L1 b1 l1) (putAll_inv hi _ _ _) _ b2 l2) (by rw [putAll_len]; omega)
  have one : ∀ (L1 : List Hd) (b1 : Int) (l1 : List Hd), L1.length ≤ 1000 → P (putAll b.dev L1 b1 l1).dev (N + 500000) := fun L1 b1 l1 hl => hP.mono (hP.put h hi L1 b1 l1) (by omega)
  have zero : P b.dev (N + 500000) := hP.mono h (by omega)
  unfold do12
  split
  · unfold Bm.small
    split
    · exact zero
    · split
      · exact zero
      · exact one _ _ _ hB
  split
  · unfold Bm.large
    split
    · exact zero
    · split
      · exact zero
      · split
        · exact one _ _ _ hB
        · exact two _ _ _ hB _ _
  split
  · unfold Bm.release
    split
    · exact zero
    · dsimp only
      split
      · exact one _ _ _ hB
      · split
        · exact two _ _ _ hB _ _
        · exact two _ _ _ hB _ _
  split
  · exact hP.mono (hP.arm h _ (by omega) (by omega)) (by omega)
  · exact zero

theorem grows_ok : Grows (fun S N => S.ok N) where
  mono h hN := h.mono hN
  put h hi L b l := putAll_okL hi h L b l
  arm {S N} h n h0 h1 := by
    unfold Dev.ok at *
    unfold Dev.arm
    dsimp only
    omega
theorem grows_fit : Grows (fun S N => S.fit N) where
  mono h hN := h.mono hN
  put h _ L b l := putAll_fitL h L b l
  arm {S N} h n h0 h1 := by
    refine ⟨⟨h.wf.lenL, h.wf.lenF, h.wf.lenP, h.wf.lenD, h.wf.small, h.wf.u64L, h.wf.u64C, h.wf.u64F⟩, ?_, fun _ => h0⟩
    have := h.ok
    unfold Dev.ok at *
    unfold Dev.arm
    dsimp only
    omega
theorem grows_dl (n : Nat) : Grows (fun S _ => S.dirty.length = n) where
  mono h _ := h
  put h _ L b l := by rw [putAll_dl]; exact h
  arm h _ _ _ := h

end Go.Proofs.YtebnelihlgdciaaGreat
