/- A device in memory: its state, its blocks. -/
import Derived.Test.YtjgdplengfnkaaaRow
namespace Go.Proofs.Ytjgdplengfnkaaa
open Go.RowKit
set_option linter.unusedVariables false

/-- In block g lie, from its beginning on, these cells (more may follow). -/
def RowAt (w : World) (g e : Nat) (vs : List Value) : Prop := ∃ xs : Array Value, w.heap[g]? = some (.cells xs e (0, 0)) ∧ ∃ more, xs.toList = vs ++ more

theorem RowAt.cell {w : World} {g e : Nat} {vs : List Value} (h : RowAt w g e vs) {i : Nat} {v : Value} (hi : vs[i]? = some v) : w.cell? ⟨g, i, none⟩ = some v := by
  obtain ⟨xs, hg, more, hx⟩ := h
  rw [cell_of_row _ _ i xs e (0, 0) hg, ← Array.getElem?_toList, hx, List.getElem?_append_left (List.getElem?_eq_some_iff.1 hi).1]
  exact hi
theorem RowAt.frozen {w : World} {g e : Nat} {vs : List Value} (h : RowAt w g e vs) (i : Nat) : w.frozen? ⟨g, i, none⟩ = false := by
  obtain ⟨xs, hg, _⟩ := h
  exact frozen_of_row _ _ _ _ _ hg
theorem RowAt.lt {w : World} {g e : Nat} {vs : List Value} (h : RowAt w g e vs) : g < w.heap.size := by
  obtain ⟨xs, hg, _⟩ := h
  exact (Array.getElem?_eq_some_iff.1 hg).1
theorem RowAt.keep {w w' : World} {g e : Nat} {vs : List Value} (h : RowAt w g e vs) (hk : w'.heap[g]? = w.heap[g]?) : RowAt w' g e vs := by
  obtain ⟨xs, hg, r⟩ := h
  exact ⟨xs, hk.trans hg, r⟩
theorem RowAt.set {w : World} {g e : Nat} {vs : List Value} (h : RowAt w g e vs) (i : Nat) (hi : i < vs.length) (v : Value) : RowAt (w.setCell ⟨g, i, none⟩ v) g e (vs.set i v) := by
  obtain ⟨xs, hg, more, hx⟩ := h
  refine ⟨_, heap_setCell_same w g i xs e v hg, more, ?_⟩
  rw [Array.toList_setIfInBounds, hx, List.set_append_left _ _ hi]
theorem RowAt.cells {w : World} {g e : Nat} {vs : List Value} (h : RowAt w g e vs) : Cells w (some ⟨g, 0, none⟩) vs :=
  .inr ⟨g, 0, rfl, fun i v hi => by rw [Nat.zero_add]; exact h.cell hi⟩

/-- The state of a device. -/
structure Dev where
  lasting : List Nat
  cache : List Nat
  flushed : List Nat
  dirty : List Bool
  pending : List Bool
  steps : Int
  fuse : Int
  armed : Bool
  dead : Bool

/-- Where its parts lie; what room the rows have. -/
structure Foot where
  d : Nat
  l : Nat
  c : Nat
  f : Nat
  t : Nat
  p : Nat
  cl : Nat
  cc : Nat
  cf : Nat
  ct : Nat
  cp : Nat
def Foot.list (F : Foot) : List Nat := [F.d, F.l, F.c, F.f, F.t, F.p]

def devV (F : Foot) (S : Dev) : Array Value := #[.slice (some ⟨F.l, 0, none⟩) S.cache.length F.cl, .slice (some ⟨F.c, 0, none⟩) S.cache.length F.cc, .slice (some ⟨F.f, 0, none⟩) S.cache.length F.cf,
  .slice (some ⟨F.t, 0, none⟩) S.dirty.length F.ct, .slice (some ⟨F.p, 0, none⟩) S.dirty.length F.cp, .int .i64 S.steps, .int .i64 S.fuse, .bool S.armed, .bool S.dead]

structure DevAt (w : World) (F : Foot) (S : Dev) : Prop where
  head : w.heap[F.d]? = some (.cells (devV F S) 134 (0, 0))
  lasting : RowAt w F.l 76 (S.lasting.map vu64)
  cache : RowAt w F.c 76 (S.cache.map vu64)
  flushed : RowAt w F.f 76 (S.flushed.map vu64)
  dirty : RowAt w F.t 4 (S.dirty.map Value.bool)
  pending : RowAt w F.p 4 (S.pending.map Value.bool)
  nodup : F.list.Nodup
  lenL : S.lasting.length = S.cache.length
  lenF : S.flushed.length = S.cache.length
  lenP : S.pending.length = S.dirty.length
  lenD : S.cache.length = 8 * S.dirty.length
  small : S.cache.length ≤ 1000000
  capL : S.cache.length ≤ F.cl
  capC : S.cache.length ≤ F.cc
  capF : S.cache.length ≤ F.cf
  u64L : ∀ z ∈ S.lasting, z < 18446744073709551616
  u64C : ∀ z ∈ S.cache, z < 18446744073709551616
  u64F : ∀ z ∈ S.flushed, z < 18446744073709551616

/-- Nothing but some blocks has changed. -/
structure Touch (L : List Nat) (w w' : World) : Prop where
  os : w'.os = w.os
  tape : w'.tape = w.tape
  output : w'.output = w.output
  size : w.heap.size ≤ w'.heap.size
  block : ∀ k, k < w.heap.size → k ∉ L → w'.heap[k]? = w.heap[k]?

theorem Touch.refl (L : List Nat) (w : World) : Touch L w w := ⟨rfl, rfl, rfl, Nat.le_refl _, fun _ _ _ => rfl⟩
theorem Touch.trans {L : List Nat} {a b c : World} (h : Touch L a b) (k : Touch L b c) : Touch L a c :=
  ⟨k.os.trans h.os, k.tape.trans h.tape, k.output.trans h.output, Nat.le_trans h.size k.size, fun i hi hn => (k.block i (Nat.lt_of_lt_of_le hi h.size) hn).trans (h.block i hi hn)⟩
theorem Touch.setCell {L : List Nat} {w : World} (p : Addr) (hp : p.block ∈ L) (u : Value) : Touch L w (w.setCell p u) :=
  ⟨rfl, rfl, rfl, by simp [World.setCell], fun k _ hn => Below.heap_setCell _ _ _ _ (fun e => hn (e ▸ hp))⟩
theorem Touch.below {L : List Nat} {B : Nat} {w w' : World} (h : Touch L w w') (hB : B ≤ w.heap.size) (hL : ∀ k ∈ L, B ≤ k) : Below B w w' :=
  ⟨h.os, h.tape, h.output, h.size, fun k hk => h.block k (by omega) (fun hm => by have := hL k hm; omega)⟩
theorem Touch.ofBelow {L : List Nat} {w w' : World} (h : Below w.heap.size w w') : Touch L w w' := ⟨h.os, h.tape, h.output, h.size, fun k hk _ => h.block k hk⟩

/-- A device stays as it is while other blocks change. -/
theorem DevAt.keep {w w' : World} {F : Foot} {S : Dev} (h : DevAt w F S) (hk : ∀ k ∈ F.list, w'.heap[k]? = w.heap[k]?) : DevAt w' F S := by
  have hm : ∀ k ∈ F.list, w'.heap[k]? = w.heap[k]? := hk
  simp only [Foot.list, List.mem_cons, List.not_mem_nil, or_false, forall_eq_or_imp, forall_eq] at hm
  obtain ⟨m1, m2, m3, m4, m5, m6⟩ := hm
  exact { h with head := m1.trans h.head, lasting := h.lasting.keep m2, cache := h.cache.keep m3, flushed := h.flushed.keep m4, dirty := h.dirty.keep m5, pending := h.pending.keep m6 }
theorem DevAt.mem {w : World} {F : Foot} {S : Dev} (h : DevAt w F S) : ∀ k ∈ F.list, k < w.heap.size := by
  have := (Array.getElem?_eq_some_iff.1 h.head).1
  have h2 := h.lasting.lt
  have h3 := h.cache.lt
  have h4 := h.flushed.lt
  have h5 := h.dirty.lt
  have h6 := h.pending.lt
  simp only [Foot.list, List.mem_cons, List.not_mem_nil, or_false, forall_eq_or_imp, forall_eq]
  exact ⟨this, h2, h3, h4, h5, h6⟩
theorem DevAt.below {w w' : World} {F : Foot} {S : Dev} (h : DevAt w F S) (hb : Below w.heap.size w w') : DevAt w' F S := h.keep (fun k hk => hb.block k (h.mem k hk))

/-- It has done at most N steps. -/
def Dev.ok (S : Dev) (N : Nat) : Prop := 0 ≤ S.steps ∧ S.steps ≤ N ∧ -(N : Int) ≤ S.fuse ∧ S.fuse < 9223372036854775808
theorem Dev.ok.mono {S : Dev} {N M : Nat} (h : S.ok N) (hN : N ≤ M) : S.ok M := by unfold Dev.ok at *; omega

/-- One step: the state then; false: it has stopped. -/
def Dev.stop (S : Dev) : Bool := S.dead || (S.armed && S.fuse == 0)
def Dev.step (S : Dev) : Dev := if S.stop then { S with dead := true } else { S with fuse := S.fuse - 1, steps := S.steps + 1 }

theorem Dev.step_ok {S : Dev} {N : Nat} (h : S.ok N) : S.step.ok (N + 1) := by
  unfold Dev.ok at *
  unfold Dev.step
  split <;> dsimp only <;> omega
theorem Dev.step_rest (S : Dev) : S.step.lasting = S.lasting ∧ S.step.cache = S.cache ∧ S.step.flushed = S.flushed ∧ S.step.dirty = S.dirty ∧ S.step.pending = S.pending := by
  unfold Dev.step
  split <;> exact ⟨rfl, rfl, rfl, rfl, rfl⟩

theorem DevAt.head' {w w' : World} {F : Foot} {S S' : Dev} (h : DevAt w F S) (hh : w'.heap[F.d]? = some (.cells (devV F S') 134 (0, 0))) (ht : Touch [F.d] w w')
    (e : S'.lasting = S.lasting ∧ S'.cache = S.cache ∧ S'.flushed = S.flushed ∧ S'.dirty = S.dirty ∧ S'.pending = S.pending) : DevAt w' F S' := by
  obtain ⟨e1, e2, e3, e4, e5⟩ := e
  have hn := h.nodup
  have hm := h.mem
  simp only [Foot.list, List.nodup_cons, List.mem_cons, List.not_mem_nil, or_false, not_or, forall_eq_or_imp, forall_eq] at hn hm
  obtain ⟨⟨n1, n2, n3, n4, n5⟩, _⟩ := hn
  obtain ⟨_, m2, m3, m4, m5, m6⟩ := hm
  have k : ∀ g, g < w.heap.size → F.d ≠ g → w'.heap[g]? = w.heap[g]? := fun g hg hne => ht.block g hg (by simpa using fun c => hne c.symm)
  exact ⟨hh, by rw [e1]; exact h.lasting.keep (k _ m2 n1), by rw [e2]; exact h.cache.keep (k _ m3 n2), by rw [e3]; exact h.flushed.keep (k _ m4 n3), by rw [e4]; exact h.dirty.keep (k _ m5 n4), by rw [e5]; exact h.pending.keep (k _ m6 n5), h.nodup,
    by rw [e1, e2]; exact h.lenL, by rw [e3, e2]; exact h.lenF, by rw [e5, e4]; exact h.lenP, by rw [e2, e4]; exact h.lenD, by rw [e2]; exact h.small, by rw [e2]; exact h.capL, by rw [e2]; exact h.capC, by rw [e2]; exact h.capF, by rw [e1]; exact h.u64L, by rw [e2]; exact h.u64C, by rw [e3]; exact h.u64F⟩

end Go.Proofs.Ytjgdplengfnkaaa
