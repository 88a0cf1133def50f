/- nvm.Device: step, Get, Store. -/
import Derived.Test.YtjgdplengfnkaaaDv
namespace Go.Proofs.Ytjgdplengfnkaaa
open Go.RowKit
set_option linter.unusedVariables false

abbrev vdev (F : Foot) : Value := .pointer (some ⟨F.d, 0, none⟩)

theorem head_step {w : World} {F : Foot} {S : Dev} (hh : w.heap[F.d]? = some (.cells (devV F S) 134 (0, 0))) (a b : Int) :
    ((w.setCell ⟨F.d, 6, none⟩ (.int .i64 a)).setCell ⟨F.d, 5, none⟩ (.int .i64 b)).heap[F.d]? = some (.cells (devV F { S with fuse := a, steps := b }) 134 (0, 0)) := by
  rw [heap_setCell_same _ F.d 5 _ _ _ (heap_setCell_same w F.d 6 _ _ _ hh)]; rfl
theorem head_dead {w : World} {F : Foot} {S : Dev} (hh : w.heap[F.d]? = some (.cells (devV F S) 134 (0, 0))) (a : Bool) :
    (w.setCell ⟨F.d, 8, none⟩ (.bool a)).heap[F.d]? = some (.cells (devV F { S with dead := a }) 134 (0, 0)) := by
  rw [heap_setCell_same w F.d 8 _ _ _ hh]; rfl

set_option maxHeartbeats 1000000 in
theorem step_any {w : World} {F : Foot} {S : Dev} (h : DevAt w F S) {N : Nat} (hN : N < 1000000000000) (ho : S.ok N) :
    Calls Try.prog 90 #[vdev F] w fun e w' => e = .returned (.bool (!S.stop)) ∧ DevAt w' F S.step ∧ Touch [F.d] w w' := by
  have hh := h.head
  have c5 : w.cell? ⟨F.d, 5, none⟩ = some (.int .i64 S.steps) := cell_of_row _ _ 5 _ _ _ hh
  have c6 : w.cell? ⟨F.d, 6, none⟩ = some (.int .i64 S.fuse) := cell_of_row _ _ 6 _ _ _ hh
  have c7 : w.cell? ⟨F.d, 7, none⟩ = some (.bool S.armed) := cell_of_row _ _ 7 _ _ _ hh
  have c8 : w.cell? ⟨F.d, 8, none⟩ = some (.bool S.dead) := cell_of_row _ _ 8 _ _ _ hh
  have z : ∀ i, w.frozen? ⟨F.d, i, none⟩ = false := fun i => frozen_of_row _ _ i _ _ hh
  have z5 := z 5
  have z6 := z 6
  have z8 := z 8
  have HS := Lib.hid (S.step_rest)
  unfold Dev.ok at ho
  have HD : Hid (∀ w', w'.heap[F.d]? = some (.cells (devV F S.step) 134 (0, 0)) → Touch [F.d] w w' → DevAt w' F S.step) := Lib.hid (fun w' a b => h.head' a b HS.out)
  cases hst : S.stop
  · have HE : Hid (S.step = { S with fuse := S.fuse - 1, steps := S.steps + 1 }) := Lib.hid (by unfold Dev.step; rw [hst]; rfl)
    have hd : S.dead = false := by unfold Dev.stop at hst; simp at hst; exact hst.1
    have ha : (S.armed && S.fuse == 0) = false := by unfold Dev.stop at hst; rw [hd] at hst; simpa using hst
    rw [hd] at c8
    clear hst z h
    have HH := Lib.hid hh
    clear hh
    have HF : Hid (DevAt ((w.setCell ⟨F.d, 6, none⟩ (.int .i64 (S.fuse - 1))).setCell ⟨F.d, 5, none⟩ (.int .i64 (S.steps + 1))) F S.step ∧ Touch [F.d] w ((w.setCell ⟨F.d, 6, none⟩ (.int .i64 (S.fuse - 1))).setCell ⟨F.d, 5, none⟩ (.int .i64 (S.steps + 1)))) := by
      have t : Touch [F.d] w ((w.setCell ⟨F.d, 6, none⟩ (.int .i64 (S.fuse - 1))).setCell ⟨F.d, 5, none⟩ (.int .i64 (S.steps + 1))) := (Touch.setCell _ (by simp) _).trans (Touch.setCell _ (by simp) _)
      exact Lib.hid ⟨HD.out _ (by rw [HE.out]; exact head_step HH.out _ _) t, t⟩
    cases hr : S.armed
    · rw [hr] at c7
      clear ha HD HE HS HH
      go_enter Try.func90, Try.ntmps90
      go_wp2_with fail
      go_ret
      exact ⟨rfl, HF.out⟩
    · rw [hr] at c7 ha
      have hf : ¬ S.fuse = 0 := by simpa using ha
      clear ha HD HE HS HH
      go_enter Try.func90, Try.ntmps90
      go_wp2_with fail
      go_ret
      exact ⟨rfl, HF.out⟩
  · have HE : Hid (S.step = { S with dead := true }) := Lib.hid (by unfold Dev.step; rw [hst]; rfl)
    have HF : Hid (DevAt (w.setCell ⟨F.d, 8, none⟩ (.bool true)) F S.step ∧ Touch [F.d] w (w.setCell ⟨F.d, 8, none⟩ (.bool true))) := by
      have t : Touch [F.d] w (w.setCell ⟨F.d, 8, none⟩ (.bool true)) := Touch.setCell _ (by simp) _
      exact Lib.hid ⟨HD.out _ (by rw [HE.out]; exact head_dead hh _) t, t⟩
    have hst' : S.dead = true ∨ S.dead = false ∧ S.armed = true ∧ S.fuse = 0 := by
      unfold Dev.stop at hst
      cases hd : S.dead
      · rw [hd] at hst; simp at hst; exact .inr ⟨rfl, hst⟩
      · exact .inl rfl
    clear hst z h hh HD HE HS
    rcases hst' with hd | ⟨hd, hr, hf⟩
    · rw [hd] at c8
      go_enter Try.func90, Try.ntmps90
      go_wp2_with fail
      go_ret
      exact ⟨rfl, HF.out⟩
    · rw [hd] at c8
      rw [hr] at c7
      rw [hf] at c6
      go_enter Try.func90, Try.ntmps90
      go_wp2_with fail
      go_ret
      exact ⟨rfl, HF.out⟩

/-- A word, where there is one. -/
def peek (l : List Nat) (i : Int) : Nat := if 0 ≤ i then l.getD i.toNat 0 else 0

set_option maxHeartbeats 1000000 in
theorem dget_any {w : World} {F : Foot} {S : Dev} (h : DevAt w F S) (i : Int) :
    Calls Try.prog 54 #[vdev F, .int .i64 i] w fun e w' => e = .returned (vu64 (peek S.cache i)) ∧ w = w' := by
  have hh := h.head
  have c1 : w.cell? ⟨F.d, 1, none⟩ = some (.slice (some ⟨F.c, 0, none⟩) S.cache.length F.cc) := cell_of_row _ _ 1 _ _ _ hh
  have hsm := h.small
  by_cases h0 : i < 0
  · have HV : Hid (peek S.cache i = 0) := Lib.hid (by unfold peek; rw [if_neg (by omega)])
    clear hh h
    go_enter Try.func54, Try.ntmps54
    go_wp2_with fail
    go_ret
    exact ⟨ret_int (by rw [HV.out]; rfl), rfl⟩
  obtain ⟨j, rfl⟩ := Int.eq_ofNat_of_zero_le (show 0 ≤ i by omega)
  have HV : Hid (peek S.cache (j : Int) = S.cache.getD j 0) := Lib.hid (by unfold peek; rw [if_pos (by omega)]; rfl)
  by_cases h1 : j < S.cache.length
  · have c2 : w.cell? ⟨F.c, j, none⟩ = some (vu64 (S.cache.getD j 0)) := h.cache.cell (by simp [h1])
    clear hh h
    generalize S.cache.getD j 0 = x at *
    go_enter Try.func54, Try.ntmps54
    go_wp2_with fail
    go_ret
    exact ⟨ret_int (by rw [HV.out]), rfl⟩
  · have HZ : Hid (S.cache.getD j 0 = 0) := Lib.hid (by simp; rw [List.getElem?_eq_none (by omega)]; rfl)
    clear hh h
    go_enter Try.func54, Try.ntmps54
    go_wp2_with fail
    go_ret
    exact ⟨ret_int (by rw [HV.out, HZ.out]; rfl), rfl⟩

/-- A store: the state then, the error's number. -/
def Dev.put (S : Dev) (i x : Nat) : Dev := { S with cache := S.cache.set i x, dirty := S.dirty.set (i / 8) true }
def Dev.store (S : Dev) (i : Int) (x : Nat) : Dev := if i < 0 ∨ (S.cache.length : Int) ≤ i then S else if S.stop then S.step else S.step.put i.toNat x
def Dev.storeE (S : Dev) (i : Int) : Int := if i < 0 ∨ (S.cache.length : Int) ≤ i then 2 else if S.stop then 3 else 0

theorem map_set_u64 (l : List Nat) (i x : Nat) : (l.set i x).map vu64 = (l.map vu64).set i (vu64 x) := by rw [List.map_set]
theorem map_set_bool (l : List Bool) (i : Nat) (x : Bool) : (l.set i x).map Value.bool = (l.map Value.bool).set i (.bool x) := by rw [List.map_set]
theorem set_lt {l : List Nat} {B : Nat} (h : ∀ z ∈ l, z < B) (i x : Nat) (hx : x < B) : ∀ z ∈ l.set i x, z < B := by
  intro z hz
  rcases List.mem_or_eq_of_mem_set hz with hm | rfl
  · exact h z hm
  · exact hx

theorem DevAt.put {w : World} {F : Foot} {S : Dev} (h : DevAt w F S) (i x : Nat) (hi : i < S.cache.length) (hx : x < 18446744073709551616) :
    DevAt ((w.setCell ⟨F.c, i, none⟩ (vu64 x)).setCell ⟨F.t, i / 8, none⟩ (.bool true)) F (S.put i x) := by
  have hn := h.nodup
  simp only [Foot.list, List.nodup_cons, List.mem_cons, List.not_mem_nil, or_false, not_or, List.nodup_nil, and_true, not_false_eq_true] at hn
  obtain ⟨⟨a1, a2, a3, a4, a5⟩, ⟨b1, b2, b3, b4⟩, ⟨d1, d2, d3⟩, ⟨e1, e2⟩, f1⟩ := hn
  have k : ∀ g, g ≠ F.c → g ≠ F.t → ((w.setCell ⟨F.c, i, none⟩ (vu64 x)).setCell ⟨F.t, i / 8, none⟩ (.bool true)).heap[g]? = w.heap[g]? := fun g h1 h2 => by
    rw [Below.heap_setCell _ _ _ _ h2, Below.heap_setCell _ _ _ _ h1]
  have hd := h.lenD
  refine ⟨?_, h.lasting.keep (k _ b1 b3), ?_, h.flushed.keep (k _ (Ne.symm d1) e1), ?_, h.pending.keep (k _ (Ne.symm d3) (Ne.symm f1)), h.nodup, ?_, ?_, ?_, ?_, ?_, ?_, ?_, ?_, h.u64L, set_lt h.u64C i x hx, h.u64F⟩
  · rw [k _ a2 a4, h.head]
    simp [devV, Dev.put]
  · have := h.cache.set i (by simpa using hi) (vu64 x)
    show RowAt _ _ _ ((S.cache.set i x).map vu64)
    rw [map_set_u64]
    exact this.keep (Below.heap_setCell _ _ _ _ d2)
  · show RowAt _ _ _ ((S.dirty.set (i / 8) true).map Value.bool)
    rw [map_set_bool]
    exact (h.dirty.keep (Below.heap_setCell _ _ _ _ (Ne.symm d2))).set (i / 8) (by simp; omega) _
  all_goals simp only [Dev.put, List.length_set]
  · exact h.lenL
  · exact h.lenF
  · exact h.lenP
  · exact h.lenD
  · exact h.small
  · exact h.capL
  · exact h.capC
  · exact h.capF

set_option maxHeartbeats 1000000 in
theorem store_any {w : World} {F : Foot} {S : Dev} (h : DevAt w F S) {N : Nat} (hN : N < 1000000000000) (ho : S.ok N) (i : Int) (x : Nat) (hx : x < 18446744073709551616) :
    Calls Try.prog 60 #[vdev F, .int .i64 i, vu64 x] w fun e w' => e = .returned (.int .i64 (S.storeE i)) ∧ DevAt w' F (S.store i x) ∧ Touch F.list w w' := by
  have hh := h.head
  have c1 : w.cell? ⟨F.d, 1, none⟩ = some (.slice (some ⟨F.c, 0, none⟩) S.cache.length F.cc) := cell_of_row _ _ 1 _ _ _ hh
  have hsm := h.small
  by_cases h0 : i < 0
  · have HV : Hid (S.storeE i = 2 ∧ S.store i x = S) := Lib.hid (by unfold Dev.storeE Dev.store; rw [if_pos (.inl h0), if_pos (.inl h0)]; exact ⟨rfl, rfl⟩)
    clear hh
    go_enter Try.func60, Try.ntmps60
    go_wp2_with fail
    go_ret
    exact ⟨ret_int HV.out.1.symm, by rw [HV.out.2]; assumption, Touch.refl _ _⟩
  obtain ⟨j, rfl⟩ := Int.eq_ofNat_of_zero_le (show 0 ≤ i by omega)
  by_cases h1 : j < S.cache.length
  · have hcond : ¬ ((j : Int) < 0 ∨ (S.cache.length : Int) ≤ (j : Int)) := by omega
    have HE : Hid (S.storeE (j : Int) = if S.stop then 3 else 0) := Lib.hid (by unfold Dev.storeE; rw [if_neg hcond])
    have HSt : Hid (S.store (j : Int) x = if S.stop then S.step else S.step.put j x) := Lib.hid (by unfold Dev.store; rw [if_neg hcond]; rfl)
    have HR := Lib.hid S.step_rest
    have HD := Lib.hid h
    clear hcond hh h
    go_enter Try.func60, Try.ntmps60
    go_wp2_with fail
    refine (step_any HD.out hN ho).mono ?_
    rintro e w1 ⟨rfl, hd1, ht1⟩
    have ht1' : Touch F.list w w1 := ⟨ht1.os, ht1.tape, ht1.output, ht1.size, fun k hk hn => ht1.block k hk (fun hm => hn (by simp at hm; rw [hm]; simp [Foot.list]))⟩
    clear HD ht1 c1
    cases hst : S.stop
    · rw [hst] at HE HSt
      have e1 : S.step.cache.length = S.cache.length := by rw [HR.out.2.1]
      have e2 : S.step.dirty.length = S.dirty.length := by rw [HR.out.2.2.2.1]
      have c1 : w1.cell? ⟨F.d, 1, none⟩ = some (.slice (some ⟨F.c, 0, none⟩) S.cache.length F.cc) := by rw [← e1]; exact cell_of_row _ _ 1 _ _ _ hd1.head
      have c3 : w1.cell? ⟨F.d, 3, none⟩ = some (.slice (some ⟨F.t, 0, none⟩) S.dirty.length F.ct) := by rw [← e2]; exact cell_of_row _ _ 3 _ _ _ hd1.head
      have hl := hd1.lenD
      rw [e1, e2] at hl
      have k0 : j / 8 < S.dirty.length := by omega
      obtain ⟨y, hy⟩ : ∃ y, (S.step.cache.map vu64)[j]? = some y := ⟨_, List.getElem?_eq_getElem (by simp; omega)⟩
      obtain ⟨u, hu⟩ : ∃ u, (S.step.dirty.map Value.bool)[j / 8]? = some u := ⟨_, List.getElem?_eq_getElem (by simp; omega)⟩
      have d1 : w1.cell? ⟨F.c, j, none⟩ = some y := hd1.cache.cell hy
      have d2 := hd1.cache.frozen j
      have d3 : w1.cell? ⟨F.t, j / 8, none⟩ = some u := hd1.dirty.cell hu
      have d4 := hd1.dirty.frozen (j / 8)
      have hn := hd1.nodup
      simp only [Foot.list, List.nodup_cons, List.mem_cons, List.not_mem_nil, or_false, not_or, List.nodup_nil, and_true, not_false_eq_true] at hn
      have n1 : F.t ≠ F.c := fun e => hn.2.2.1.2.1 e.symm
      have n2 : F.d ≠ F.c := hn.1.2.1
      have d3' : (w1.setCell ⟨F.c, j, none⟩ (vu64 x)).cell? ⟨F.t, j / 8, none⟩ = some u := by rw [World.cell?_of_block (Below.heap_setCell _ _ _ _ n1)]; exact d3
      have d4' : (w1.setCell ⟨F.c, j, none⟩ (vu64 x)).frozen? ⟨F.t, j / 8, none⟩ = false := by rw [World.frozen?_of_block (Below.heap_setCell _ _ _ _ n1)]; exact d4
      have c3' : (w1.setCell ⟨F.c, j, none⟩ (vu64 x)).cell? ⟨F.d, 3, none⟩ = some (.slice (some ⟨F.t, 0, none⟩) S.dirty.length F.ct) := by rw [World.cell?_of_block (Below.heap_setCell _ _ _ _ n2)]; exact c3
      have HP := Lib.hid (hd1.put j x (by omega) hx)
      have HT : Hid (Touch F.list w ((w1.setCell ⟨F.c, j, none⟩ (vu64 x)).setCell ⟨F.t, j / 8, none⟩ (.bool true))) :=
        Lib.hid (ht1'.trans ((Touch.setCell _ (by simp [Foot.list]) _).trans (Touch.setCell _ (by simp [Foot.list]) _)))
      clear hd1 ht1' hy hu hn hst e1 e2 HR
      go_wp2_with fail
      go_ret
      exact ⟨ret_int HE.out.symm, by rw [HSt.out]; exact HP.out, HT.out⟩
    · rw [hst] at HE HSt
      clear hst HR
      go_wp2_with fail
      go_ret
      exact ⟨ret_int HE.out.symm, by rw [HSt.out]; assumption, ht1'⟩
  · have HV : Hid (S.storeE (j : Int) = 2 ∧ S.store (j : Int) x = S) := Lib.hid (by unfold Dev.storeE Dev.store; rw [if_pos (.inr (by omega)), if_pos (.inr (by omega))]; exact ⟨rfl, rfl⟩)
    have HD := Lib.hid h
    clear hh h
    go_enter Try.func60, Try.ntmps60
    go_wp2_with fail
    go_ret
    exact ⟨ret_int HV.out.1.symm, by rw [HV.out.2]; exact HD.out, Touch.refl _ _⟩

end Go.Proofs.Ytjgdplengfnkaaa
