/- Parts of the proof, one behind the other: Zf, Ea, Lc, Ef, K, Cz, L, Eg, Tr, Eh, Ei, Ej, HdD, Rk, Bo, Sa, Sc, Sp, Sq. -/
import Derived.Test.YtfedgcdkagngnaaGreatDT3
import Derived.DeepKeys4
import Derived.Shelf.Slices.Turned
import Derived.Test.YtfedgcdkagngnaaGreatProg
import Derived.Deep.Cut
import Derived.Deep.QuietTactic
import Derived.BigQuiet
import Derived.WalkKit

/- free: the free cells in memory; New. -/
namespace Go.Proofs.YtfedgcdkagngnaaGreat
open Go.RowKit Go.Maps
set_option linter.unusedVariables false

/-- A slice value holds these numbers, in a row of its own, or nothing. -/
def OwnI (w : World) (v : Value) (xs : List Nat) : Prop := w.ownsRow 0 3 1 v xs.length (xs.map vi) ∨ (∃ a, v = .slice (some a) 0 0 ∧ xs = [])
/-- The row that it may write to. -/
def rowOf : Value → Option Nat
  | .slice (some a) _ c => if c = 0 then none else some a.block
  | _ => none
theorem OwnI.nil (w : World) : OwnI w (.slice none 0 0) [] := .inl ⟨rfl, .inl ⟨rfl, rfl⟩⟩
theorem OwnI.cells {w : World} {v : Value} {xs : List Nat} (h : OwnI w v xs) : ∃ a c, v = .slice a xs.length c ∧ Cells w a (xs.map vi) ∧ xs.length ≤ c ∧ c ≤ maxLen := by
  rcases h with h | ⟨a, rfl, rfl⟩
  · rcases h.2 with ⟨rfl, h0⟩ | ⟨g, cap, cur, rfl, hb, hg, h1, h2, h3, h4⟩
    · have : xs = [] := List.length_eq_zero_iff.1 h0
      subst this
      exact ⟨none, 0, rfl, .inl rfl, Nat.le_refl _, by unfold maxLen; omega⟩
    · refine ⟨_, _, rfl, .inr ⟨g, 0, rfl, fun i u hi => ?_⟩, h1, h2⟩
      have hc : RowAt w g 3 (xs.map vi) := ⟨cur, hg, cur.toList.drop (xs.length * 1), by rw [← h4, List.take_append_drop]⟩
      rw [Nat.zero_add]; exact hc.cell hi
  · exact ⟨some a, 0, rfl, .inl rfl, Nat.le_refl _, by unfold maxLen; omega⟩
theorem OwnI.keep {w w' : World} {v : Value} {xs : List Nat} (h : OwnI w v xs) (hk : ∀ b, rowOf v = some b → w'.heap[b]? = w.heap[b]?) : OwnI w' v xs := by
  rcases h with h | h
  · rcases h.2 with ⟨rfl, h0⟩ | ⟨g, cap, cur, rfl, hb, hg, h1, h2, h3, h4⟩
    · exact .inl ⟨h.1, .inl ⟨rfl, h0⟩⟩
    · by_cases hc : cap = 0
      · subst hc
        have : xs = [] := List.length_eq_zero_iff.1 (by omega)
        subst this
        exact .inr ⟨_, rfl, rfl⟩
      · exact .inl ⟨h.1, .inr ⟨g, cap, cur, rfl, hb, (hk g (by show (if cap = 0 then none else some g) = some g; rw [if_neg hc])).trans hg, h1, h2, h3, h4⟩⟩
  · exact .inr h
theorem OwnI.lt {w : World} {v : Value} {xs : List Nat} (h : OwnI w v xs) : ∀ b, rowOf v = some b → b < w.heap.size := by
  intro b hb
  rcases h with h | ⟨a, rfl, rfl⟩
  · rcases h.2 with ⟨rfl, h0⟩ | ⟨g, cap, cur, rfl, hb', hg, h1, h2, h3, h4⟩
    · cases hb
    · have hb2 : (if cap = 0 then none else some g) = some b := hb
      by_cases hc : cap = 0
      · rw [if_pos hc] at hb2; cases hb2
      · rw [if_neg hc] at hb2; cases hb2; exact (Array.getElem?_eq_some_iff.1 hg).1
  · have hb2 : (if 0 = 0 then none else some a.block) = some b := hb
    rw [if_pos rfl] at hb2; cases hb2

/-- The place of a list: of all, by classes; of a mutator, by classes. -/
def slotI (m k : Nat) : Nat := 32 + 32 * m + k
def FL.at (S : FL) (i : Nat) : List Nat := if i < 32 then S.g i else S.c ((i - 32) / 32) ((i - 32) % 32)
theorem FL.at_g (S : FL) {k : Nat} (h : k < 32) : S.at k = S.g k := by unfold FL.at; rw [if_pos h]
theorem FL.at_c (S : FL) (m : Nat) {k : Nat} (h : k < 32) : S.at (slotI m k) = S.c m k := by
  unfold FL.at slotI
  rw [if_neg (by omega), show (32 + 32 * m + k - 32) / 32 = m by omega, show (32 + 32 * m + k - 32) % 32 = k by omega]

theorem keyed_slot : Keyed Tryz.prog 270 := Keyed.of_law (deep_law_laid (by kernel_rfl) (m := 2) (by omega) (of_decide_eq_true (by kernel_rfl)) (by kernel_rfl) (by rw [Tryz.underlying270]))
abbrev slotV (m k : Int) : Value := .agg #[.int .i64 m, .int .i64 k]
theorem fsSlot : Tryz.prog.fieldsOf 270 = #[{ name := "Mutator", type := 3, offset := 0, embedded := false, tag := "", pkgPath := "", byteOffset := 0 }, { name := "Class", type := 3, offset := 1, embedded := false, tag := "", pkgPath := "", byteOffset := 8 }] := by kernel_rfl
theorem usSlot : Tryz.prog.underlying 270 = some (.struct (Tryz.prog.fieldsOf 270)) := by kernel_rfl
theorem ctSlot : Tryz.prog.cellsOf 270 = 2 := by kernel_rfl
theorem ciSlot : Tryz.prog.cellsOf 3 = 1 := by kernel_rfl
theorem ktSlot : Tryz.prog.keyType 270 = true := by kernel_rfl
theorem tsSlot : ∃ z, Tryz.prog.types.size = z + 1 := ⟨Tryz.prog.types.size - 1, by kernel_rfl⟩
theorem key_slot (m k : Int) (hm : (Lit.int .i64 m).wf = true) (hk : (Lit.int .i64 k).wf = true) : keyOf Tryz.prog 270 (slotV m k) = some (pairKey m k) := by
  have h3 : (slotV m k).formed Tryz.prog 270 = true := by simp [Value.formed, usSlot, ctSlot]
  obtain ⟨z, hz⟩ := tsSlot
  unfold keyOf pairKey
  rw [usSlot]
  simp only
  rw [ktSlot, h3, if_pos (by rfl), hz]
  unfold Program.keyLits
  simp only [usSlot, fsSlot, ctSlot, Value.cells]
  rw [if_pos ⟨rfl, by decide +kernel⟩]
  simp [Program.keyLits, Tryz.underlying3, ciSlot, hm, hk]
theorem key_inj {m k m' k' : Int} (hm : (Lit.int .i64 m).wf = true) (hk : (Lit.int .i64 k).wf = true) (hm' : (Lit.int .i64 m').wf = true) (hk' : (Lit.int .i64 k').wf = true) (h : pairKey m k = pairKey m' k') : m = m' ∧ k = k' := by
  have h1 := key_slot m k hm hk
  rw [h] at h1
  have := keyed_slot.inj h1 (key_slot m' k' hm' hk')
  simp only [slotV, Value.agg.injEq] at this
  have e := congrArg Array.toList this
  simp at e
  exact e

/-- The lists' values: of all, by classes; and what is the map's. -/
structure FreeIn (w : World) (f mb n : Nat) (V : Nat → Value) (S : FL) : Prop where
  head : w.heap[f]? = some (.cells ((List.range 32).map V ++ [Value.map (some mb)]).toArray 247 (0, 0))
  map : ∃ M, VMap Tryz.prog 270 w mb n M ∧ ∀ m k : Nat, m < 4 → k < 32 → (M (pairKey m k)).getD (.slice none 0 0) = V (slotI m k)
  rows : ∀ i, i < 160 → OwnI w (V i) (S.at i)
  apart : ∀ i j, i < 160 → j < 160 → i ≠ j → ∀ b, rowOf (V i) = some b → rowOf (V j) ≠ some b
  neF : ∀ i, i < 160 → rowOf (V i) ≠ some f ∧ rowOf (V i) ≠ some mb
  ne : f ≠ mb

/-- The free cells lie in these blocks. -/
def FreeAt (w : World) (f mb n : Nat) (R : List Nat) (S : FL) : Prop := ∃ V, FreeIn w f mb n V S ∧ f ∈ R ∧ mb ∈ R ∧ (∀ b ∈ R, b < w.heap.size) ∧ ∀ i, i < 160 → ∀ b, rowOf (V i) = some b → b ∈ R

theorem FreeAt.keep {w w' : World} {f mb n : Nat} {R : List Nat} {S : FL} (h : FreeAt w f mb n R S) (hk : ∀ k ∈ R, w'.heap[k]? = w.heap[k]?) : FreeAt w' f mb n R S := by
  obtain ⟨V, hi, h1, h2, h3, h4⟩ := h
  obtain ⟨M, hm, hv⟩ := hi.map
  refine ⟨V, ⟨(hk f h1).trans hi.head, ⟨M, hm.block (hk mb h2), hv⟩, fun i hi' => (hi.rows i hi').keep fun b hb => hk b (h4 i hi' b hb), hi.apart, hi.neF, hi.ne⟩, h1, h2, fun b hb => ?_, h4⟩
  have hb3 := h3 b hb
  have : w'.heap[b]? ≠ none := by rw [hk b hb, Array.getElem?_eq_getElem hb3]; simp
  apply Classical.byContradiction
  intro c
  exact this (Array.getElem?_eq_none (by omega))
theorem FreeAt.below {w w' : World} {f mb n : Nat} {R : List Nat} {S : FL} (h : FreeAt w f mb n R S) (hb : Below w.heap.size w w') : FreeAt w' f mb n R S := by
  obtain ⟨V, _, _, _, h3, _⟩ := id h
  exact h.keep (fun k hk => hb.block k (h3 k hk))
theorem FreeAt.mem {w : World} {f mb n : Nat} {R : List Nat} {S : FL} (h : FreeAt w f mb n R S) : ∀ b ∈ R, b < w.heap.size := by
  obtain ⟨V, _, _, _, h3, _⟩ := h; exact h3
theorem FreeAt.mono {w : World} {f mb n n' : Nat} {R : List Nat} {S : FL} (h : FreeAt w f mb n R S) (hn : n ≤ n') : FreeAt w f mb n' R S := by
  obtain ⟨V, hi, r⟩ := h
  obtain ⟨M, hm, hv⟩ := hi.map
  exact ⟨V, { hi with map := ⟨M, hm.mono hn, hv⟩ }, r⟩

/-- New free lists. -/
def NewFree (w : World) : Ending → World → Prop := fun e w' => ∃ f mb, e = .returned (.pointer (some ⟨f, 0, none⟩)) ∧ FreeAt w' f mb 0 [f, mb] FL.empty ∧ Below w.heap.size w w' ∧ w.heap.size ≤ f ∧ w.heap.size ≤ mb

theorem FL.at_empty (i : Nat) : FL.empty.at i = [] := by unfold FL.at FL.empty; split <;> rfl

set_option maxHeartbeats 1000000 in
theorem fnew_any (w : World) : Calls Tryz.prog 146 #[] w (NewFree w) := by
  have HV := Lib.hid (VMap.made w Tryz.prog 270)
  have HB := Lib.hid (below_alloc w (.map #[] 0))
  have HP : Hid (∀ f mb w', FreeAt w' f mb 0 [f, mb] FL.empty → Below w.heap.size w w' → w.heap.size ≤ f → w.heap.size ≤ mb → NewFree w (.returned (.pointer (some ⟨f, 0, none⟩))) w') := Lib.hid (fun f mb w' a b c d => ⟨f, mb, rfl, a, b, c, d⟩)
  generalize NewFree w = Post at *
  have hmm := @run_makeMap Tryz.prog
  go_enter Tryz.func146, Tryz.ntmps146
  go_wp2_with fail
  have hs : (w.alloc (.map #[] 0)).heap.size = w.heap.size + 1 := by simp
  generalize w.alloc _ = w1 at *
  have hb2 := below_alloc w1 (Obj.cells ((List.range 32).map (fun _ => Value.slice none 0 0) ++ [Value.map (some w.heap.size)]).toArray 247)
  have hh := heap_alloc_new w1 (Obj.cells ((List.range 32).map (fun _ => Value.slice none 0 0) ++ [Value.map (some w.heap.size)]).toArray 247)
  rw [hs] at hh
  refine HP.out (w.heap.size + 1) w.heap.size _ ⟨fun _ => .slice none 0 0, ⟨hh, ⟨_, HV.out.block (hb2.block _ (by omega)), fun _ _ _ _ => rfl⟩, fun i _ => (by rw [FL.at_empty]; exact OwnI.nil _), fun i j _ _ _ b hb => (by cases hb), fun i _ => ⟨(by intro h; cases h), (by intro h; cases h)⟩, by omega⟩, by simp, by simp, ?_, fun i _ b hb => (by cases hb)⟩ ?_ (by omega) (Nat.le_refl _)
  · intro b hb
    simp only [List.mem_cons, List.not_mem_nil, or_false] at hb
    rcases hb with rfl | rfl <;> simp <;> omega
  · exact HB.out.trans (hb2.mono (by omega))

end Go.Proofs.YtfedgcdkagngnaaGreat

/- Plain: how often a cell is free; what calls do to that. -/
namespace Go.Proofs.YtfedgcdkagngnaaGreat
set_option linter.unusedVariables false

/-- How often a number is among the free cells of a class. -/
def FL.cnt (S : FL) (k a : Nat) : Nat := (S.g k).count a + (S.c 0 k).count a + (S.c 1 k).count a + (S.c 2 k).count a + (S.c 3 k).count a
theorem FL.has_iff (S : FL) (k a : Nat) : S.has k a = true ↔ 0 < S.cnt k a := by
  unfold FL.has FL.cnt
  simp only [Bool.or_eq_true, List.contains_iff_mem]
  have h : ∀ l : List Nat, a ∈ l ↔ 0 < l.count a := fun l => List.count_pos_iff.symm
  rw [h, h, h, h, h]
  omega
theorem FL.has_not (S : FL) (k a : Nat) : S.has k a = false ↔ S.cnt k a = 0 := by
  rw [← Bool.not_eq_true, FL.has_iff]; omega

/-- A mutator's cells are for all. -/
def FL.drain (S : FL) (m : Nat) : FL := ⟨fun k => if k < 32 then S.g k ++ S.c m k else S.g k, fun i k => if i = m ∧ k < 32 then [] else S.c i k⟩
theorem four {m : Nat} (h : m < 4) : m = 0 ∨ m = 1 ∨ m = 2 ∨ m = 3 := by omega
theorem take_drop_count (l : List Nat) (n a : Nat) : (l.take n).count a + (l.drop n).count a = l.count a := by
  rw [← List.count_append, List.take_append_drop]

theorem FL.setGC_cnt (S : FL) {m k : Nat} (hm : m < 4) (x y : List Nat) (j a : Nat) (h : x.count a + y.count a = (S.g k).count a + (S.c m k).count a) : ((S.setG k x).setC m k y).cnt j a = S.cnt j a := by
  unfold FL.cnt
  simp only [FL.setC_g, FL.setG_g, FL.setC_c, FL.setG_c]
  by_cases e : j = k
  · subst e
    rcases four hm with rfl | rfl | rfl | rfl <;> simp <;> omega
  · simp [e]
theorem FL.fill_cnt (S : FL) {m k : Nat} (hm : m < 4) (j a : Nat) : (S.fill m k).cnt j a = S.cnt j a := by
  unfold FL.fill
  split
  · next h =>
    refine S.setGC_cnt hm _ _ j a ?_
    rw [take_drop_count, h]; simp
  · rfl
theorem count_dropLast {l : List Nat} {x : Nat} (h : l.getLast? = some x) (a : Nat) : l.count a = l.dropLast.count a + if a = x then 1 else 0 := by
  obtain ⟨t, rfl⟩ : ∃ t, l = t ++ [x] := by
    cases hl : l.reverse with
    | nil => simp at hl; subst hl; cases h
    | cons y t =>
      have e : l = t.reverse ++ [y] := by have := congrArg List.reverse hl; simpa using this
      rw [e] at h
      simp at h
      subst h
      exact ⟨_, e⟩
  rw [List.dropLast_concat, List.count_append, List.count_singleton]
  congr 1
  by_cases e : a = x
  · subst e; simp
  · have : ¬ x = a := fun c => e c.symm
    simp [e, this]
/-- A taken cell is free once less. -/
theorem FL.taken_cnt {S : FL} {m k x : Nat} (hm : m < 4) (h : S.cell m k = some x) (j a : Nat) : S.cnt j a = (S.taken m k).cnt j a + if j = k ∧ a = x then 1 else 0 := by
  rw [← S.fill_cnt (k := k) hm j a]
  unfold FL.cell at h
  unfold FL.taken
  generalize S.fill m k = T at *
  have hc := count_dropLast h a
  unfold FL.cnt
  simp only [FL.setC_g, FL.setC_c]
  by_cases e : j = k
  · subst e
    by_cases e2 : a = x
    · subst e2
      simp only [if_true, and_self] at hc ⊢
      rcases four hm with rfl | rfl | rfl | rfl <;> simp <;> omega
    · simp only [e2, if_false, and_false] at hc ⊢
      rcases four hm with rfl | rfl | rfl | rfl <;> simp <;> omega
  · simp [e]
theorem FL.cell_none {S : FL} {m k : Nat} (h : S.cell m k = none) : S.g k = [] ∧ S.c m k = [] := by
  unfold FL.cell FL.fill at h
  split at h
  · next hc =>
    rw [FL.setC_c] at h
    simp only [and_self, if_true, List.getLast?_eq_none_iff] at h
    refine ⟨?_, hc⟩
    have : ((S.g k).drop ((S.g k).length - min (S.g k).length 4)).length = 0 := by rw [h]; rfl
    rw [List.length_drop] at this
    exact List.length_eq_zero_iff.1 (by omega)
  · next hc =>
    rw [List.getLast?_eq_none_iff] at h
    exact absurd h hc
theorem FL.ext' {S T : FL} (h1 : ∀ k, S.g k = T.g k) (h2 : ∀ i k, S.c i k = T.c i k) : S = T := by
  obtain ⟨g, c⟩ := S
  obtain ⟨g', c'⟩ := T
  have e1 : g = g' := funext h1
  have e2 : c = c' := funext fun i => funext (h2 i)
  rw [e1, e2]
theorem FL.fill_none {S : FL} {m k : Nat} (h : S.cell m k = none) : S.fill m k = S := by
  obtain ⟨h1, h2⟩ := FL.cell_none h
  unfold FL.fill
  rw [if_pos h2, h1]
  refine FL.ext' (fun j => ?_) (fun i j => ?_)
  · rw [FL.setC_g, FL.setG_g]
    split
    · next e => rw [e, h1]; rfl
    · rfl
  · rw [FL.setC_c]
    split
    · next e => obtain ⟨rfl, rfl⟩ := e; rw [h2]; rfl
    · rfl
theorem FL.drain_cnt (S : FL) {m k : Nat} (hm : m < 4) (hk : k < 32) (a : Nat) : (S.drain m).cnt k a = S.cnt k a := by
  unfold FL.cnt FL.drain
  simp only [hk, if_true, List.count_append]
  rcases four hm with rfl | rfl | rfl | rfl <;> simp <;> omega
theorem FL.pushed_cnt (S : FL) (k x j a : Nat) : (S.pushed k x).cnt j a = S.cnt j a + if j = k ∧ a = x ∧ S.cnt k x = 0 then 1 else 0 := by
  unfold FL.pushed
  cases hh : S.has k x with
  | true =>
    have := (S.has_iff k x).1 hh
    rw [if_pos rfl, if_neg (by omega)]; rfl
  | false =>
    have h0 := (S.has_not k x).1 hh
    rw [if_neg (by simp)]
    simp only [h0, and_true]
    unfold FL.cnt
    simp only [FL.setG_g, FL.setG_c]
    by_cases e : j = k
    · subst e
      rw [if_pos rfl, List.count_append, List.count_singleton]
      by_cases e2 : a = x
      · subst e2; simp; omega
      · have : ¬ x = a := fun c => e2 c.symm
        simp [e2, this]
    · simp [e]
/-- A block's cells. -/
theorem FL.carve_cnt {used : Nat → Bool} {at_ : Nat → Nat} {k : Nat} (hinj : ∀ i j, at_ i = at_ j → i = j) : ∀ {n : Nat} {S : FL}, (∀ i, i < n → S.cnt k (at_ i) = 0) → ∀ j a, (S.carve used at_ k n).cnt j a = S.cnt j a + if j = k ∧ used a = false ∧ ∃ i, i < n ∧ a = at_ i then 1 else 0
  | 0, S, _, j, a => by
    unfold FL.carve
    rw [if_neg (by rintro ⟨_, _, i, hi, _⟩; omega)]; rfl
  | n + 1, S, h0, j, a => by
    unfold FL.carve
    have hz := h0 n (by omega)
    cases hu : used (at_ n) with
    | true =>
      rw [if_pos rfl, FL.carve_cnt hinj (fun i hi => h0 i (by omega)) j a]
      congr 1
      by_cases c : j = k ∧ used a = false ∧ ∃ i, i < n ∧ a = at_ i
      · obtain ⟨c1, c2, i, c3, c4⟩ := c
        rw [if_pos ⟨c1, c2, i, c3, c4⟩, if_pos ⟨c1, c2, i, by omega, c4⟩]
      · rw [if_neg c, if_neg]
        rintro ⟨c1, c2, i, c3, c4⟩
        by_cases e : i = n
        · subst e; rw [c4, hu] at c2; cases c2
        · exact c ⟨c1, c2, i, by omega, c4⟩
    | false =>
      rw [if_neg (by simp)]
      have hp := S.pushed_cnt k (at_ n)
      rw [FL.carve_cnt hinj (fun i hi => by
        rw [hp, h0 i (by omega), if_neg]
        rintro ⟨_, e, _⟩
        have := hinj _ _ e
        omega) j a, hp]
      by_cases c : j = k ∧ used a = false ∧ ∃ i, i < n + 1 ∧ a = at_ i
      · rw [if_pos c]
        obtain ⟨c1, c2, i, c3, c4⟩ := c
        by_cases e : i = n
        · subst e
          rw [if_pos ⟨c1, c4, hz⟩, if_neg]
          rintro ⟨_, _, i', h1, h2⟩
          have := hinj i i' (by rw [← c4, h2])
          omega
        · rw [if_neg, if_pos ⟨c1, c2, i, by omega, c4⟩]
          rintro ⟨_, h2, _⟩
          have := hinj i n (by rw [← c4, h2])
          omega
      · rw [if_neg c, if_neg, if_neg]
        · rintro ⟨c1, c2, i, c3, c4⟩
          exact c ⟨c1, c2, i, by omega, c4⟩
        · rintro ⟨c1, c2, _⟩
          exact c ⟨c1, by rw [c2]; exact hu, n, by omega, c2⟩

end Go.Proofs.YtfedgcdkagngnaaGreat

/-
  DERIVED: THE SHELF's CONTRACTS AT THIS DUMP, IN PLAIN WORDS (tools/lay-plain.mjs out of 'TmpShelf.lean', which tools/lay-shelf.mjs wrote): THE SAME DECLARATIONS UNDER THE SAME NAMES: 'import', 'namespace', 'open', 'def', 'theorem' AND NOTHING ELSE: no command of the shelf's: FOR A HAND-IN. Each laying: the table of numbers ('.._ren') and one theorem, a field a fact of the dump's own or the kernel's comparison; each contract: ONE APPLICATION.
-/
namespace Go.Proofs
open Go.Shelf
def Tryz.lays107_ren : Go.Shelf.Ren := ⟨fun | 107 => 243 | 108 => 250 | n => n, fun | 28 => 26 | 3 => 3 | 4 => 4 | 0 => 0 | n => n, fun | n => n⟩
theorem Tryz.lays107 : Go.Proofs.Lays.n107 Tryz.prog Tryz.lays107_ren := {
  mixed := by kernel_rfl
  f107 := Tryz.func243.trans (congrArg some (by kernel_rfl))
  f108 := Tryz.func250.trans (congrArg some (by kernel_rfl))
  t0 := Tryz.underlying0
  a0 := Tryz.isAgg0
  z0 := Tryz.sizeOf0
  v0 := Tryz.zeroValue0
  t3 := Tryz.underlying3
  a3 := Tryz.isAgg3
  z3 := Tryz.sizeOf3
  v3 := Tryz.zeroValue3
  t4 := Tryz.underlying4
  a4 := Tryz.isAgg4
  z4 := Tryz.sizeOf4
  v4 := Tryz.zeroValue4
  t28 := Tryz.underlying26
  a28 := Tryz.isAgg26
  z28 := Tryz.sizeOf26
  v28 := Tryz.zeroValue26 }
end Go.Proofs

/- free: Has, Push, Own. -/
namespace Go.Proofs.YtfedgcdkagngnaaGreat
open Go.RowKit Go.Maps
set_option linter.unusedVariables false

theorem nat_contains (xs : List Nat) (a : Nat) : (xs.map fun x : Nat => (x : Int)).contains (a : Int) = xs.contains a := by
  rw [Bool.eq_iff_iff, List.contains_iff_mem, List.contains_iff_mem, List.mem_map]
  constructor
  · rintro ⟨x, hx, e⟩
    have : x = a := by omega
    rw [← this]; exact hx
  · intro h; exact ⟨a, h, rfl⟩
/-- slices.Contains. -/
theorem contains_any {w : World} (a : Option Addr) (n c : Nat) (xs : List Nat) (hn : xs.length = n) (hc : Cells w a (xs.map vi)) (h9 : xs.length ≤ 1000000000000) (x : Nat) :
    Calls Tryz.prog 243 #[.slice a n c, .int .i64 (x : Int)] w (Same1 (.bool (xs.contains x)) w) := by
  subst hn
  cases xs with
  | nil =>
    refine (Any.slices_Contains_int_empty Tryz.lays107 a c (x : Int) w).mono ?_
    rintro e w' ⟨rfl, rfl⟩
    exact ⟨rfl, rfl⟩
  | cons y ys =>
    rcases hc with h | ⟨b, off, rfl, hc⟩
    · cases h
    · refine (Any.slices_Contains_int Tryz.lays107 b off (y :: ys).length c ((y :: ys).map fun x : Nat => (x : Int)) (x : Int) w (by simp) (by omega) (fun j hj => ?_)).mono ?_
      · refine hc j _ ?_
        rw [List.length_map] at hj
        simp only [List.getElem?_map, List.getElem?_eq_getElem hj, Option.map_some, List.getD_eq_getElem?_getD, Option.getD_some]
      · rintro e w' ⟨rfl, rfl⟩
        refine ⟨?_, rfl⟩
        rw [List.take_of_length_le (by simp), nat_contains]

theorem FreeIn.lt {w : World} {f mb n : Nat} {V : Nat → Value} {S : FL} (h : FreeIn w f mb n V S) {k : Nat} (hk : k < 32) : ((List.range 32).map V ++ [Value.map (some mb)]).toArray[k]? = some (V k) := by
  rw [List.getElem?_toArray, List.getElem?_append_left (by simpa using hk)]
  simp [hk]
theorem FreeIn.g {w : World} {f mb n : Nat} {V : Nat → Value} {S : FL} (h : FreeIn w f mb n V S) {k : Nat} (hk : k < 32) : w.cell? ⟨f, k, none⟩ = some (V k) :=
  (cell_of_row _ _ k _ _ _ h.head).trans (h.lt hk)
theorem FreeIn.m {w : World} {f mb n : Nat} {V : Nat → Value} {S : FL} (h : FreeIn w f mb n V S) : w.cell? ⟨f, 32, none⟩ = some (.map (some mb)) :=
  (cell_of_row _ _ 32 _ _ _ h.head).trans (by rw [List.getElem?_toArray, List.getElem?_append_right (by simp)]; simp)
abbrev vfree (f : Nat) : Value := .pointer (some ⟨f, 0, none⟩)
theorem zero_ints (w : World) : (zeroValue 26).run Tryz.prog w = .ok (.slice none 0 0) w := Tryz.zeroValue26 w

/-- Who keeps a cell, of the first mutators. -/
def FL.hasTo (S : FL) (k a : Nat) : Nat → Bool
  | 0 => (S.g k).contains a
  | i + 1 => S.hasTo k a i || (S.c i k).contains a
theorem FL.hasTo_all (S : FL) (k a : Nat) : S.hasTo k a 4 = S.has k a := rfl
theorem FL.hasTo_false {S : FL} {k a : Nat} : ∀ {i j : Nat}, S.hasTo k a i = true → i ≤ j → S.hasTo k a j = true
  | i, 0, h, hj => by obtain rfl : i = 0 := by omega
                      exact h
  | i, j + 1, h, hj => by
    by_cases e : i = j + 1
    · subst e; exact h
    · unfold FL.hasTo
      rw [FL.hasTo_false h (by omega)]; rfl
theorem wf_small (k : Nat) (h : k < 1000) : (Lit.int .i64 (k : Int)).wf = true := by
  exact WalkArith.wf_i64 (by omega)

set_option maxHeartbeats 2000000 in
set_option maxRecDepth 20000 in
theorem fhas_any {w : World} {f mb n : Nat} {R : List Nat} {S : FL} (h : FreeAt w f mb n R S) (hL : ∀ i, i < 160 → (S.at i).length ≤ 1000000) (k a : Nat) (hk : k < 32) :
    Calls Tryz.prog 219 #[vfree f, .int .i64 (k : Int), .int .i64 (a : Int)] w (Same1 (.bool (S.has k a)) w) := by
  obtain ⟨V, hi, _⟩ := h
  obtain ⟨M, hm, hv⟩ := hi.map
  have HI := Lib.hid hi
  have HM := Lib.hid hm
  have HV := Lib.hid hv
  have HL := Lib.hid hL
  have c32 := hi.m
  have ck := hi.g hk
  obtain ⟨ag, cg, eg, hcg, _, _⟩ := (hi.rows k (by omega)).cells
  rw [S.at_g hk] at eg hcg
  rw [eg] at ck
  have HCg := Lib.hid hcg
  have HLg : Hid ((S.g k).length ≤ 1000000) := Lib.hid (by have := hL k (by omega); rwa [S.at_g hk] at this)
  have HP : Hid (∀ b, b = S.has k a → Same1 (.bool (S.has k a)) w (.returned (.bool b)) w) := Lib.hid (by rintro b rfl; exact ⟨rfl, rfl⟩)
  generalize Same1 (.bool (S.has k a)) w = Post at *
  have hlen : (S.g k).length = (S.g k).length := rfl
  obtain ⟨lg, hlg⟩ : ∃ lg, lg = (S.g k).length := ⟨_, rfl⟩
  rw [← hlg] at ck
  have HLe := Lib.hid hlg
  clear hi hm hv hL eg hcg hlen hlg
  go_enter Tryz.func219, Tryz.ntmps219
  go_wp2_with fail
  refine (cright_any _ _).mono ?_
  rintro e w1 ⟨rfl, rfl⟩
  rw [decide_eq_true (show (0 : Int) ≤ (k : Int) ∧ (k : Int) < 32 by omega)]
  go_wp2_with fail
  refine (contains_any ag lg cg (S.g k) HLe.out.symm HCg.out (by have := HLg.out; omega) a).mono ?_
  rintro e w1 ⟨rfl, rfl⟩
  cases hg0 : (S.g k).contains a with
  | true =>
    have HB : Hid (true = S.has k a) := Lib.hid (by rw [← FL.hasTo_all]; exact (FL.hasTo_false (i := 0) hg0 (by omega)).symm)
    clear hg0
    go_wp2_with fail
    exact HP.out _ HB.out
  | false =>
    have H0 : Hid (S.hasTo k a 0 = false) := Lib.hid hg0
    clear hg0
    go_wp2_with fail
    go_loop [19] (fun iv => ∃ i : Nat, i ≤ 4 ∧ iv = .int .i64 (i : Int) ∧ Hid (S.hasTo k a i = false)) (fun iv => 4 - (intOf iv).toNat)
    case atStart => exact ⟨0, by omega, rfl, H0⟩
    case round =>
      clear H0
      obtain ⟨i, hi4, rfl, HT⟩ := hrel
      by_cases hlt : i < 4
      · obtain ⟨ac, cc, ec, hcc, _, _⟩ := (HI.out.rows (slotI i k) (by unfold slotI; omega)).cells
        rw [S.at_c i hk] at ec hcc
        have hlc := HL.out (slotI i k) (by unfold slotI; omega)
        rw [S.at_c i hk] at hlc
        have HVi := HV.out i k hlt hk
        have HCc := Lib.hid hcc
        have HLc := Lib.hid hlc
        have HStep : Hid (S.hasTo k a (i + 1) = (S.hasTo k a i || (S.c i k).contains a)) := Lib.hid rfl
        rw [ec] at HVi
        have HVi := Lib.hid HVi
        obtain ⟨lc, hlcx⟩ : ∃ lc, lc = (S.c i k).length := ⟨_, rfl⟩
        rw [← hlcx] at HVi
        have HLx := Lib.hid hlcx
        clear ec hcc hlc hlcx
        have hkey := key_slot (i : Int) (k : Int) (wf_small i (by omega)) (wf_small k (by omega))
        go_wp2_with (refine wpList_vlook rfl _ _ 244 rfl 270 26 keyed_slot Tryz.underlying244 _ (zero_ints _) mb n M rfl HM.out _ _ rfl hkey ?_; rw [HVi.out])
        refine (contains_any ac lc cc (S.c i k) HLx.out.symm HCc.out (by have := HLc.out; omega) a).mono ?_
        rintro e w1 ⟨rfl, rfl⟩
        cases hc0 : (S.c i k).contains a with
        | true =>
          have HB : Hid (true = S.has k a) := Lib.hid (by rw [← FL.hasTo_all]; exact (FL.hasTo_false (i := i + 1) (by rw [HStep.out, hc0]; simp) (by omega)).symm)
          clear hc0
          go_wp2_with fail
          exact HP.out _ HB.out
        | false =>
          have HT2 : Hid (S.hasTo k a (i + 1) = false) := Lib.hid (by rw [HStep.out, hc0, HT.out]; rfl)
          clear hc0
          go_wp2_with fail
          go_round
          case rel => exact ⟨i + 1, by omega, vint (by omega), HT2⟩
          case measure => simp [intOf]; omega
      · obtain rfl : i = 4 := by omega
        have HB : Hid (false = S.has k a) := Lib.hid (by rw [← FL.hasTo_all]; exact HT.out.symm)
        go_wp2_with fail
        exact HP.out _ HB.out
end Go.Proofs.YtfedgcdkagngnaaGreat

/- The classes: their sizes, and which class so many words need. -/
namespace Go.Proofs.YtfedgcdkagngnaaGreat
open Go.RowKit
set_option linter.unusedVariables false

def sizesL : List Nat := [2, 3, 4, 5, 6, 7, 8, 10, 12, 14, 16, 18, 20, 24, 28, 32, 36, 40, 46, 51, 56, 64, 73, 85, 92, 102, 113, 128, 146, 170, 204, 256]

/-- Words of a class's cell; 0: there is no such class. -/
def clsWords (k : Int) : Nat := if 0 ≤ k ∧ k < 32 then sizesL.getD k.toNat 0 else 0

def zeros32 : Array Value := (List.replicate 32 (Value.int .i64 0)).toArray
theorem agg32 : Agg Tryz.prog 233 zeros32 := ⟨⟨_, Tryz.underlying233, rfl⟩, by kernel_rfl⟩

def sizesV : Array Value := (sizesL.map (fun n : Nat => Value.int .i64 (n : Int))).toArray

theorem sizesV_one : sizesV.all (·.oneCell') = true := by simp [sizesV, sizesL, Value.oneCell']

set_option maxHeartbeats 400000 in
theorem sizes_any (w : World) : Calls Tryz.prog 181 #[] w fun e w' => e = .returned (.agg sizesV) ∧ Below w.heap.size w w' := by
  go_enter Tryz.func181, Tryz.ntmps181
  go_wp2_with (first
    | (refine wpList_alloc_agg agg32 rfl rfl ?_; intro w1 hg1 hgr1 hs1)
    | (refine wpList_store_row (cs := sizesV) agg32 hg1 rfl rfl sizesV_one rfl rfl rfl rfl ?_; intro w2 hg2 hgr2 hs2))
  refine bodyPost_ret (v := .agg sizesV) ?_ rfl ⟨rfl, ?_⟩
  · exact results_cell_row rfl _ _ _ _ _ _ _ rfl hg2 Tryz.underlying233 rfl (by kernel_rfl)
  · exact (below_grown hgr1 (Nat.le_refl _)).grown hgr2 (by omega) (fun k e => by cases e; omega)

set_option maxHeartbeats 400000 in
theorem cwords_any (k : Int) (w : World) : Calls Tryz.prog 130 #[.int .i64 k] w fun e w' => e = .returned (.int .i64 (clsWords k : Nat)) ∧ Below w.heap.size w w' := by
  by_cases h : 0 ≤ k ∧ k < 32
  · have HW : Hid (clsWords k = sizesL.getD k.toNat 0) := Lib.hid (by unfold clsWords; rw [if_pos h])
    have H := Lib.hid h
    obtain ⟨h1, h2⟩ := h
    go_enter Tryz.func130, Tryz.ntmps130
    go_wp2_with fail
    refine (cright_any _ _).mono ?_
    rintro e w1 ⟨rfl, rfl⟩
    rw [decide_eq_true H.out]
    go_wp2_with fail
    refine (sizes_any _).mono ?_
    rintro e w1 ⟨rfl, hb⟩
    have hv : sizesV[k.toNat]? = some (Value.int .i64 (sizesL.getD k.toNat 0 : Nat)) := by
      obtain ⟨j, rfl⟩ := Int.eq_ofNat_of_zero_le h1
      have hj : j < sizesL.length := by show j < 32; omega
      simp only [Int.toNat_natCast, sizesV, List.getElem?_toArray, List.getElem?_map, List.getElem?_eq_getElem hj, Option.map_some, List.getD_eq_getElem?_getD, Option.getD_some]
    have HV := Lib.hid hv
    clear hv
    go_wp2_with (refine wpList_index_arr k.toNat Tryz.underlying233 Tryz.underlying3 rfl (by kernel_rfl) (by omega) (by omega) HV.out rfl rfl rfl rfl ?_)
    go_ret
    exact ⟨ret_int (by rw [HW.out, List.getD_eq_getElem?_getD]), hb⟩
  · have HW : Hid (clsWords k = 0) := Lib.hid (by unfold clsWords; rw [if_neg h])
    have H := Lib.hid h
    clear h
    go_enter Tryz.func130, Tryz.ntmps130
    go_wp2_with fail
    refine (cright_any _ _).mono ?_
    rintro e w1 ⟨rfl, rfl⟩
    rw [decide_eq_false H.out]
    go_wp2_with fail
    go_ret
    exact ⟨ret_int (by rw [HW.out]; rfl), Below.refl _ _⟩

/-- The least class whose cells have so many words. -/
def ofN (n : Int) : Nat := sizesL.findIdx (fun s : Nat => decide (n ≤ (s : Int)))

theorem ofN_eq (n : Int) (k : Nat) (hk : k < 32) (h1 : n ≤ (sizesL.getD k 0 : Nat)) (h2 : ∀ j, j < k → ((sizesL.getD j 0 : Nat) : Int) < n) : ofN n = k := by
  have hl : k < sizesL.length := hk
  unfold ofN
  rw [List.findIdx_eq hl]
  have g : ∀ j (hj : j < sizesL.length), sizesL.getD j 0 = sizesL[j] := fun j hj => by simp [hj]
  refine ⟨by rw [← g k hl]; simpa using h1, fun j hj => ?_⟩
  rw [← g j (by omega)]
  have := h2 j hj
  simp only [decide_eq_false_iff_not]
  omega

theorem sizes_mono : ∀ i j : Nat, i ≤ j → j < 32 → sizesL.getD i 0 ≤ sizesL.getD j 0 := by
  have h : ∀ j : Fin 32, ∀ i : Fin 32, i ≤ j → sizesL.getD i.val 0 ≤ sizesL.getD j.val 0 := by decide
  intro i j hij hj
  exact h ⟨j, hj⟩ ⟨i, by omega⟩ hij

theorem clsWords_nat (k : Nat) (h : k < 32) : clsWords (k : Int) = sizesL.getD k 0 := by
  unfold clsWords; rw [if_pos (by omega)]; rfl

theorem clsWords_le (k : Int) : clsWords k ≤ 256 := by
  unfold clsWords
  split
  · have h := sizes_mono k.toNat 31 (by omega) (by omega)
    have e : sizesL.getD 31 0 = 256 := rfl
    rw [e] at h
    exact h
  · omega

theorem clsWords_pos (k : Int) (h : 0 ≤ k ∧ k < 32) : 2 ≤ clsWords k := by
  unfold clsWords
  rw [if_pos h]
  have h := sizes_mono 0 k.toNat (by omega) (by omega)
  have e : sizesL.getD 0 0 = 2 := rfl
  rw [e] at h
  exact h

set_option maxHeartbeats 400000 in
theorem cmost_any (w : World) : Calls Tryz.prog 242 #[] w fun e w' => e = .returned (.int .i64 256) ∧ Below w.heap.size w w' := by
  go_enter Tryz.func242, Tryz.ntmps242
  go_wp2_with fail
  refine (cwords_any _ _).mono ?_
  rintro e w1 ⟨rfl, hb⟩
  have e : ((clsWords 31 : Nat) : Int) = 256 := by decide
  rw [e]
  go_wp2_with fail
  go_ret
  exact ⟨rfl, hb⟩

/-- What class.Of answers. -/
def ofV (n : Int) : Value := if 1 ≤ n ∧ n ≤ 256 then .tuple #[.int .i64 (ofN n : Nat), .bool true] else .tuple #[.int .i64 0, .bool false]

set_option maxHeartbeats 400000 in
theorem cof_any (n : Int) (w : World) : Calls Tryz.prog 217 #[.int .i64 n] w fun e w' => e = .returned (ofV n) ∧ Below w.heap.size w w' := by
  by_cases h1 : n < 1
  · have HV : Hid (ofV n = .tuple #[.int .i64 0, .bool false]) := Lib.hid (by unfold ofV; rw [if_neg (by omega)])
    go_enter Tryz.func217, Tryz.ntmps217
    go_wp2_with fail
    go_ret2
    exact ⟨by rw [HV.out]; rfl, Below.refl _ _⟩
  by_cases h2 : 256 < n
  · have HV : Hid (ofV n = .tuple #[.int .i64 0, .bool false]) := Lib.hid (by unfold ofV; rw [if_neg (by omega)])
    go_enter Tryz.func217, Tryz.ntmps217
    go_wp2_with fail
    refine (cmost_any _).mono ?_
    rintro e w1 ⟨rfl, hb⟩
    go_wp2_with fail
    go_ret2
    exact ⟨by rw [HV.out]; rfl, hb⟩
  have HV : Hid (ofV n = .tuple #[.int .i64 (ofN n : Nat), .bool true]) := Lib.hid (by unfold ofV; rw [if_pos (by omega)])
  go_enter Tryz.func217, Tryz.ntmps217
  go_wp2_with fail
  refine (cmost_any _).mono ?_
  rintro e w1 ⟨rfl, hb⟩
  go_wp2_with fail
  go_loopw [4, 5] (fun lo hi wr => ∃ i j : Nat, i ≤ j ∧ j ≤ 31 ∧ lo = .int .i64 i ∧ hi = .int .i64 j ∧ Hid (∀ t, t < i → ((sizesL.getD t 0 : Nat) : Int) < n) ∧ Hid (n ≤ (sizesL.getD j 0 : Nat)) ∧ Below w.heap.size w wr)
    (fun lo hi _ => (intOf hi).toNat - (intOf lo).toNat)
  case atStart => exact ⟨0, 31, by omega, by omega, rfl, rfl, Lib.hid (fun t ht => by omega), Lib.hid (by show n ≤ 256; omega), hb⟩
  case round =>
    obtain ⟨i, j, hij, hj, rfl, rfl, hlo, hhi, hb⟩ := hrel
    by_cases hlt : i < j
    · have hm : (i + j) / 2 < 32 := by omega
      have HC := Lib.hid (clsWords_nat ((i + j) / 2) hm)
      go_wp2_with fail
      refine (cwords_any _ _).mono ?_
      rintro e w2 ⟨rfl, hb2⟩
      have hb3 := hb.trans (hb2.mono hb.size)
      rw [show ((i : Int) + (j : Int)) / 2 = (((i + j) / 2 : Nat) : Int) by omega] at *
      rw [HC.out]
      obtain ⟨x, hx⟩ : ∃ x, x = sizesL.getD ((i + j) / 2) 0 := ⟨_, rfl⟩
      rw [← hx]
      have HX := Lib.hid hx
      clear hx
      by_cases hc : n ≤ (x : Int)
      · go_wp2_with fail
        refine ⟨⟨i, (i + j) / 2, by omega, by omega, rfl, rfl, hlo, Lib.hid (by rw [← HX.out]; exact hc), hb3⟩, by simp [intOf]; omega⟩
      · go_wp2_with fail
        refine ⟨⟨(i + j) / 2 + 1, j, by omega, by omega, vint (by omega), rfl, Lib.hid (fun t ht => ?_), hhi, hb3⟩, by simp [intOf]; omega⟩
        have h1 := sizes_mono t ((i + j) / 2) (by omega) hm
        rw [← HX.out] at h1
        omega
    · obtain rfl : i = j := by omega
      have HO := Lib.hid (ofN_eq n i (by omega) hhi.out hlo.out)
      go_wp2_with fail
      go_ret2
      exact ⟨by rw [HV.out, HO.out]; rfl, hb⟩

end Go.Proofs.YtfedgcdkagngnaaGreat

/- Objects: their sizes. -/
namespace Go.Proofs.YtfedgcdkagngnaaGreat
open Go.RowKit
set_option linter.unusedVariables false

/-- An object's words; 0: it may not be. -/
def objSize (p d : Int) : Nat := if p < 0 ∨ 63 < p ∨ d < 0 ∨ 16384 < d then 0 else (1 + p + d).toNat

theorem objSize_le (p d : Int) : objSize p d ≤ 16448 := by unfold objSize; split <;> omega

/-- What class.Size answers. -/
def csizeV (p d : Int) : Value := if objSize p d = 0 then .tuple #[.int .i64 0, .int .i64 5] else .tuple #[.int .i64 (objSize p d : Nat), .int .i64 0]

set_option maxHeartbeats 400000 in
theorem csize_any (p d : Int) (w : World) : Calls Tryz.prog 197 #[.int .i64 p, .int .i64 d] w fun e w' => e = .returned (csizeV p d) ∧ w = w' := by
  by_cases h : p < 0 ∨ 63 < p ∨ d < 0 ∨ 16384 < d
  · have HS : Hid (csizeV p d = .tuple #[.int .i64 0, .int .i64 5]) := Lib.hid (by unfold csizeV; rw [if_pos (by unfold objSize; rw [if_pos h])])
    rcases h with h | h | h | h
    · go_enter Tryz.func197, Tryz.ntmps197
      go_wp2_with fail
      go_ret2
      exact ⟨by rw [HS.out]; rfl, rfl⟩
    · have h' : ¬ p < 0 := by omega
      go_enter Tryz.func197, Tryz.ntmps197
      go_wp2_with fail
      go_ret2
      exact ⟨by rw [HS.out]; rfl, rfl⟩
    · by_cases h1 : p < 0
      · go_enter Tryz.func197, Tryz.ntmps197
        go_wp2_with fail
        go_ret2
        exact ⟨by rw [HS.out]; rfl, rfl⟩
      by_cases h2 : 63 < p
      · go_enter Tryz.func197, Tryz.ntmps197
        go_wp2_with fail
        go_ret2
        exact ⟨by rw [HS.out]; rfl, rfl⟩
      go_enter Tryz.func197, Tryz.ntmps197
      go_wp2_with fail
      go_ret2
      exact ⟨by rw [HS.out]; rfl, rfl⟩
    · have h3 : ¬ d < 0 := by omega
      by_cases h1 : p < 0
      · go_enter Tryz.func197, Tryz.ntmps197
        go_wp2_with fail
        go_ret2
        exact ⟨by rw [HS.out]; rfl, rfl⟩
      by_cases h2 : 63 < p
      · go_enter Tryz.func197, Tryz.ntmps197
        go_wp2_with fail
        go_ret2
        exact ⟨by rw [HS.out]; rfl, rfl⟩
      go_enter Tryz.func197, Tryz.ntmps197
      go_wp2_with fail
      go_ret2
      exact ⟨by rw [HS.out]; rfl, rfl⟩
  · have HS : Hid (csizeV p d = .tuple #[.int .i64 (1 + p + d), .int .i64 0]) := by
      have h1 : ((objSize p d : Nat) : Int) = 1 + p + d := by unfold objSize; rw [if_neg h]; omega
      apply Lib.hid
      unfold csizeV
      rw [if_neg (by omega), h1]
    have h1 : ¬ p < 0 := by omega
    have h2 : ¬ 63 < p := by omega
    have h3 : ¬ d < 0 := by omega
    have h4 : ¬ 16384 < d := by omega
    clear h
    go_enter Tryz.func197, Tryz.ntmps197
    go_wp2_with fail
    go_ret2
    exact ⟨by rw [HS.out]; rfl, rfl⟩

set_option maxHeartbeats 400000 in
theorem osize_any (p d : Int) (w : World) : Calls Tryz.prog 148 #[.agg #[.int .i64 p, .int .i64 d]] w fun e w' => e = .returned (.int .i64 (objSize p d : Nat)) ∧ Below w.heap.size w w' := by
  have hb : ∀ o, Below w.heap.size w (w.alloc o) := fun o => (Below.refl _ _).alloc (Nat.le_refl _) o
  have HB := Lib.hid hb
  clear hb
  go_enter Tryz.func148, Tryz.ntmps148
  go_wp2_with fail
  refine (csize_any _ _ _).mono ?_
  rintro e w1 ⟨rfl, rfl⟩
  by_cases h : objSize p d = 0
  · have HV : Hid (csizeV p d = .tuple #[.int .i64 0, .int .i64 5]) := Lib.hid (by unfold csizeV; rw [if_pos h])
    rw [HV.out]
    have H := Lib.hid h
    clear h
    go_wp2_with fail
    go_ret
    exact ⟨ret_int (by rw [H.out]; rfl), HB.out _⟩
  · have HV : Hid (csizeV p d = .tuple #[.int .i64 (objSize p d : Nat), .int .i64 0]) := Lib.hid (by unfold csizeV; rw [if_neg h])
    rw [HV.out]
    clear h
    go_wp2_with fail
    go_ret
    exact ⟨rfl, HB.out _⟩

end Go.Proofs.YtfedgcdkagngnaaGreat

/- Objects: their sizes, classes, blocks; the references'. -/
namespace Go.Proofs.YtfedgcdkagngnaaGreat
open Go.RowKit
set_option linter.unusedVariables false

set_option maxHeartbeats 400000 in
theorem osmall_any (p d : Int) (w : World) : Calls Tryz.prog 174 #[.agg #[.int .i64 p, .int .i64 d]] w fun e w' => e = .returned (ofV (objSize p d : Nat)) ∧ Below w.heap.size w w' := by
  have hb : ∀ o, Below w.heap.size w (w.alloc o) := fun o => (Below.refl _ _).alloc (Nat.le_refl _) o
  have HB := Lib.hid hb
  clear hb
  go_enter Tryz.func174, Tryz.ntmps174
  go_wp2_with fail
  refine (osize_any _ _ _).mono ?_
  rintro e w1 ⟨rfl, hb1⟩
  have hb1' := (HB.out _).trans (hb1.mono (HB.out _).size)
  go_wp2_with fail
  refine (cof_any _ _).mono ?_
  rintro e w2 ⟨rfl, hb2⟩
  have hb2' := hb1'.trans (hb2.mono hb1'.size)
  by_cases h : 1 ≤ ((objSize p d : Nat) : Int) ∧ ((objSize p d : Nat) : Int) ≤ 256
  · have HV : Hid (ofV (objSize p d : Nat) = .tuple #[.int .i64 (ofN (objSize p d : Nat) : Nat), .bool true]) := Lib.hid (by unfold ofV; rw [if_pos h])
    rw [HV.out]
    clear h hb1 hb2 hb1'
    go_wp2_with fail
    go_ret2
    exact ⟨by rw [HV.out]; rfl, hb2'⟩
  · have HV : Hid (ofV (objSize p d : Nat) = .tuple #[.int .i64 0, .bool false]) := Lib.hid (by unfold ofV; rw [if_neg h])
    rw [HV.out]
    clear h hb1 hb2 hb1'
    go_wp2_with fail
    go_ret2
    exact ⟨by rw [HV.out]; rfl, hb2'⟩

/-- Is it small? -/
def small (n : Nat) : Prop := 1 ≤ n ∧ n ≤ 256
instance (n : Nat) : Decidable (small n) := by unfold small; infer_instance

theorem ofV_small (n : Nat) (h : small n) : ofV (n : Int) = .tuple #[.int .i64 (ofN (n : Int) : Nat), .bool true] := by
  unfold ofV; rw [if_pos (by unfold small at h; omega)]
theorem ofV_large (n : Nat) (h : ¬ small n) : ofV (n : Int) = .tuple #[.int .i64 0, .bool false] := by
  unfold ofV; rw [if_neg (by unfold small at h; omega)]

/-- Blocks of an object of so many words. -/
def objBlocks (n : Nat) : Nat := if small n then 0 else (n + 511) / 512

set_option maxHeartbeats 400000 in
theorem oblocks_any (p d : Int) (w : World) : Calls Tryz.prog 199 #[.agg #[.int .i64 p, .int .i64 d]] w fun e w' => e = .returned (.int .i64 (objBlocks (objSize p d) : Nat)) ∧ Below w.heap.size w w' := by
  have hb : ∀ o, Below w.heap.size w (w.alloc o) := fun o => (Below.refl _ _).alloc (Nat.le_refl _) o
  have HB := Lib.hid hb
  clear hb
  have hle := objSize_le p d
  go_enter Tryz.func199, Tryz.ntmps199
  go_wp2_with fail
  refine (osmall_any _ _ _).mono ?_
  rintro e w1 ⟨rfl, hb1⟩
  have hb1' := (HB.out _).trans (hb1.mono (HB.out _).size)
  have hc0 : w1.cell? ⟨w.heap.size, 0, none⟩ = some (.int .i64 p) := by rw [hb1.cell (p := ⟨w.heap.size, 0, none⟩) (by simp)]; exact cell_alloc_new _ _ _ _ _ rfl
  have hc1 : w1.cell? ⟨w.heap.size, 1, none⟩ = some (.int .i64 d) := by rw [hb1.cell (p := ⟨w.heap.size, 1, none⟩) (by simp)]; exact cell_alloc_new _ _ _ _ _ rfl
  by_cases h : small (objSize p d)
  · rw [ofV_small _ h]
    have HO : Hid (objBlocks (objSize p d) = 0) := Lib.hid (by unfold objBlocks; rw [if_pos h])
    clear h hb1
    go_wp2_with fail
    go_ret
    exact ⟨ret_int (by rw [HO.out]; rfl), hb1'⟩
  · rw [ofV_large _ h]
    have HO : Hid (((objBlocks (objSize p d) : Nat) : Int) = upN (objSize p d : Nat) 512) := Lib.hid (by unfold objBlocks upN; rw [if_neg h]; split <;> omega)
    clear h hb1
    go_wp2_with fail
    refine (osize_any _ _ _).mono ?_
    rintro e w2 ⟨rfl, hb2⟩
    have hb2' := hb1'.trans (hb2.mono hb1'.size)
    go_wp2_with fail
    refine (up_any _ _ _ (by omega) (by omega)).mono ?_
    rintro e w3 ⟨rfl, rfl⟩
    rw [← HO.out]
    go_wp2_with fail
    go_ret
    exact ⟨rfl, hb2'⟩

/-- Cells of a block of a class. -/
def clsCells (k : Int) : Nat := 512 / clsWords k

set_option maxHeartbeats 400000 in
theorem ccells_any (k : Int) (w : World) : Calls Tryz.prog 195 #[.int .i64 k] w fun e w' => e = .returned (.int .i64 (clsCells k : Nat)) ∧ Below w.heap.size w w' := by
  by_cases h : 0 ≤ k ∧ k < 32
  · have hp := clsWords_pos k h
    have HC : Hid (((clsCells k : Nat) : Int) = 512 / ((clsWords k : Nat) : Int)) := Lib.hid (by simp [clsCells])
    have H := Lib.hid h
    clear h
    go_enter Tryz.func195, Tryz.ntmps195
    go_wp2_with fail
    refine (cright_any _ _).mono ?_
    rintro e w1 ⟨rfl, rfl⟩
    rw [decide_eq_true H.out]
    go_wp2_with fail
    refine (cwords_any _ _).mono ?_
    rintro e w1 ⟨rfl, hb⟩
    have hle := clsWords_le k
    generalize clsWords k = x at *
    have hx0 : ((x : Int) == 0) = false := by rw [beq_eq_false_iff_ne]; omega
    go_wp2_with fail
    go_ret
    exact ⟨ret_int (by rw [HC.out]), hb⟩
  · have HC : Hid (clsCells k = 0) := Lib.hid (by unfold clsCells clsWords; rw [if_neg h])
    have H := Lib.hid h
    clear h
    go_enter Tryz.func195, Tryz.ntmps195
    go_wp2_with fail
    refine (cright_any _ _).mono ?_
    rintro e w1 ⟨rfl, rfl⟩
    rw [decide_eq_false H.out]
    go_wp2_with fail
    go_ret
    exact ⟨ret_int (by rw [HC.out]; rfl), Below.refl _ _⟩

theorem el_int : Elem Tryz.prog 26 3 (.int .i64 0) 1 8 := Elem.mk' Tryz.underlying26 (by kernel_rfl) rfl (by decide)

set_option maxHeartbeats 400000 in
theorem rsizes_any (w : World) : Calls Tryz.prog 155 #[] w fun e w' => e = .returned (.slice (some ⟨w.heap.size, 0, none⟩) 32 32) ∧ w'.heap[w.heap.size]? = some (.cells sizesV 3 (0, 0)) ∧ Below w.heap.size w w' := by
  go_enter Tryz.func155, Tryz.ntmps155
  go_wp2_with fail
  go_ret
  exact ⟨rfl, heap_alloc_new w _, below_alloc w _⟩

theorem sizesV_at (k : Nat) (h : k < 32) : sizesV[k]? = some (Value.int .i64 (sizesL.getD k 0 : Nat)) := by
  have hj : k < sizesL.length := h
  simp only [sizesV, List.getElem?_toArray, List.getElem?_map, List.getElem?_eq_getElem hj, Option.map_some, List.getD_eq_getElem?_getD, Option.getD_some]

set_option maxHeartbeats 400000 in
theorem rcwords_any (k : Int) (w : World) : Calls Tryz.prog 87 #[.int .i64 k] w fun e w' => e = .returned (.int .i64 (clsWords k : Nat)) ∧ Below w.heap.size w w' := by
  by_cases h1 : k < 0
  · have HW : Hid (clsWords k = 0) := Lib.hid (by unfold clsWords; rw [if_neg (by omega)])
    go_enter Tryz.func87, Tryz.ntmps87
    go_wp2_with fail
    go_ret
    exact ⟨ret_int (by rw [HW.out]; rfl), Below.refl _ _⟩
  by_cases h2 : 32 ≤ k
  · have HW : Hid (clsWords k = 0) := Lib.hid (by unfold clsWords; rw [if_neg (by omega)])
    go_enter Tryz.func87, Tryz.ntmps87
    go_wp2_with fail
    go_ret
    exact ⟨ret_int (by rw [HW.out]; rfl), Below.refl _ _⟩
  obtain ⟨j, rfl⟩ := Int.eq_ofNat_of_zero_le (show 0 ≤ k by omega)
  have HW := Lib.hid (clsWords_nat j (by omega))
  have HV := Lib.hid (sizesV_at j (by omega))
  generalize sizesL.getD j 0 = x at *
  go_enter Tryz.func87, Tryz.ntmps87
  go_wp2_with fail
  refine (rsizes_any _).mono ?_
  rintro e w1 ⟨rfl, hg, hb⟩
  have hc : w1.cell? ⟨w.heap.size, j, none⟩ = some (.int .i64 (x : Nat)) := (cell_of_row _ _ _ _ _ _ hg).trans HV.out
  clear hg
  go_wp2_with fail
  go_ret
  exact ⟨ret_int (by rw [HW.out]), hb⟩

end Go.Proofs.YtfedgcdkagngnaaGreat

/- Lists of numbers in rows of their own: append; what is cut off. -/
namespace Go.Proofs.YtfedgcdkagngnaaGreat
open Go.RowKit Go.Maps
set_option linter.unusedVariables false

theorem grown_drew_alloc (w : World) (o : Obj) (row : Option Nat) : w.grownBy (w.drew.alloc o) row := ⟨rfl, rfl, rfl, by simp, fun k hk _ => (below_alloc w.drew o).block k hk⟩
theorem grown_self (w : World) (row : Option Nat) : w.grownBy w row := ⟨rfl, rfl, rfl, Nat.le_refl _, fun _ _ _ => rfl⟩
theorem vi_one (xs : List Nat) : ∀ u ∈ xs.map vi, u.oneCell' = true := by
  intro u hu
  obtain ⟨x, _, rfl⟩ := List.mem_map.1 hu
  rfl
theorem rowOf_new (g n c : Nat) : ∀ b, rowOf (.slice (some ⟨g, 0, none⟩) n c) = some b → b = g := by
  intro b hb
  have hb2 : (if c = 0 then none else some g) = some b := hb
  by_cases h : c = 0
  · rw [if_pos h] at hb2; cases hb2
  · rw [if_neg h] at hb2; cases hb2; rfl

theorem run_append_ownI {w : World} {v : Value} {xs ys : List Nat} {a : Option Addr} {m c : Nat} (ty : TypeId) (h : OwnI w v xs) (hy : Cells w a (ys.map vi)) (hm : ys.length = m) (hn : xs.length + m ≤ 1000000000000) :
    ∃ v' w', (Builtin.append_ #[26, 26] ty #[v, .slice a m c]).run Tryz.prog w = .ok v' w' ∧ OwnI w' v' (xs ++ ys) ∧ w.grownBy w' (rowOf v) ∧ ∀ b, rowOf v' = some b → rowOf v = some b ∨ b = w.heap.size := by
  obtain ⟨i, i1, i2, i3, i4⟩ := el_int.info
  have hby : (xs.length + m) * i.bytes ≤ 140737488355328 := by rw [i4]; omega
  have h63 : xs.length + m ≤ maxLen := by unfold maxLen; omega
  by_cases hm0 : m = 0
  · have hys : ys = [] := List.length_eq_zero_iff.1 (by omega)
    subst hm0 hys
    refine ⟨v, w, ?_, by simpa using h, grown_self _ _, fun b hb => .inl hb⟩
    rcases h with h | ⟨p, rfl, rfl⟩
    · cases a with
      | none => exact run_append_owned_none' el_int.under i1 h
      | some d =>
        rcases h.2 with ⟨rfl, h0⟩ | ⟨g, cap, cur, rfl, hb, hg, h1, h2, h3, h4⟩
        · simp [Builtin.append_, run_underlying el_int.under, sizeOf, typeInfo, i1, Builtin.lenOf, Builtin.firstCells, loadCells, loadCellsFrom]
        · simp [Builtin.append_, run_underlying el_int.under, sizeOf, typeInfo, i1, Builtin.lenOf, Builtin.firstCells, loadCells, loadCellsFrom, storeCells, h1]
    · cases a with
      | none => simp [Builtin.append_, run_underlying el_int.under, sizeOf, typeInfo, i1, Builtin.lenOf, Builtin.firstCells, storeCells]
      | some d => simp [Builtin.append_, run_underlying el_int.under, sizeOf, typeInfo, i1, Builtin.lenOf, Builtin.firstCells, loadCells, loadCellsFrom, storeCells]
  · rcases hy with h0 | ⟨b, off, rfl, hyc⟩
    · exfalso
      have := congrArg List.length h0
      simp at this
      rw [this] at hm; simp at hm; omega
    have hyc' : ∀ j u, (ys.map vi)[j]? = some u → w.cell? ((⟨b, off, none⟩ : Addr).add j) = some u := fun j u hj => by
      rw [add_none]; exact hyc j u hj
    have hl : (ys.map vi).length = m * 1 := by simp [hm]
    have hl' : (ys.map vi).length = m * i.size := by rw [i3]; exact hl
    have nilcase := run_append_own (P := Tryz.prog) (w := w) 0 26 ty 3 i _ 1 i.bytes el_int.under i1 i2 i3 rfl el_int.cells (by decide) (.slice none 0 0) 0 [] (World.ownsRow_nil w 0 3 1) ⟨b, off, none⟩ m c (ys.map vi) hl hyc' (vi_one ys) (by unfold maxLen at h63 ⊢; omega) (by rw [i4]; omega) (Nat.zero_le _)
    have hnr := run_append_nil (P := Tryz.prog) w 26 ty 3 i _ el_int.under i1 i2 ⟨b, off, none⟩ m c (ys.map vi) hl' hyc' (by omega) (by omega) (by rw [i4]; omega)
    obtain ⟨v1, w1, r1, o1, g1, n1⟩ := nilcase
    have hv1 : v1 = .slice (some ⟨w.heap.size, 0, none⟩) m (grownCap w m 0 3) ∧ w1 = w.drew.alloc (.cells ((ys.map vi).toArray ++ Builtin.zeroCells (Value.int .i64 0).cells (grownCap w m 0 3 - m)) 3) := by
      rw [hnr] at r1
      have e := r1
      injection e with e1 e2
      exact ⟨e1.symm, e2.symm⟩
    rcases h with h | ⟨p, rfl, rfl⟩
    · rcases h.2 with ⟨rfl, h0⟩ | ⟨g, cap, cur, rfl, hb, hg, h1, h2, h3, h4⟩
      · have hx : xs = [] := List.length_eq_zero_iff.1 h0
        subst hx
        refine ⟨v1, w1, r1, .inl ?_, ?_, fun b' hb' => .inr ?_⟩
        · simpa [hm] using o1
        · rw [hv1.2]; exact grown_drew_alloc _ _ _
        · rw [hv1.1] at hb'; exact rowOf_new _ _ _ _ hb'
      · obtain ⟨v2, w2, r2, o2, g2, n2⟩ := run_append_own (P := Tryz.prog) (w := w) 0 26 ty 3 i _ 1 i.bytes el_int.under i1 i2 i3 rfl el_int.cells (by decide) (.slice (some ⟨g, 0, none⟩) xs.length cap) xs.length (xs.map vi) h ⟨b, off, none⟩ m c (ys.map vi) hl hyc' (vi_one ys) h63 hby (Nat.zero_le _)
        have ho2 : OwnI w2 v2 (xs ++ ys) := .inl (by rw [List.length_append, List.map_append, hm]; exact o2)
        by_cases hroom : xs.length + m ≤ cap
        · have hr := run_append_room (P := Tryz.prog) w 26 ty 3 i el_int.under i1 g xs.length cap cur hg ⟨b, off, none⟩ m c (ys.map vi) hl' hyc' (vi_one ys) hroom (by rw [i3, List.length_map, h3, hm]; omega)
          rw [hr] at r2
          have e := r2
          injection e with e1 e2
          have hcap : cap ≠ 0 := by omega
          refine ⟨v2, w2, by rw [hr, e1, e2], ho2, ?_, fun b' hb' => .inl ?_⟩
          · have : rowOf (.slice (some ⟨g, 0, none⟩) xs.length cap) = some g := by show (if cap = 0 then none else some g) = some g; rw [if_neg hcap]
            rw [this]; exact g2
          · rw [← e1] at hb'
            exact hb'
        · have hr := run_append_grow (P := Tryz.prog) w 26 ty 3 i _ el_int.under i1 i2 ⟨g, 0, none⟩ xs.length cap (xs.map vi) (by simp [i3]) (fun j u hj => by
            have hc : RowAt w g 3 (xs.map vi) := ⟨cur, hg, cur.toList.drop (xs.length * 1), by rw [← h4, List.take_append_drop]⟩
            rw [add_none, Nat.zero_add]; exact hc.cell hj) ⟨b, off, none⟩ m c (ys.map vi) hl' hyc' (by omega) (by omega) (growslice_fits (by omega) hby)
          rw [hr] at r2
          have e := r2
          injection e with e1 e2
          refine ⟨v2, w2, by rw [hr, e1, e2], ho2, ?_, fun b' hb' => .inr ?_⟩
          · rw [← e2]; exact grown_drew_alloc _ _ _
          · rw [← e1] at hb'; exact rowOf_new _ _ _ _ hb'
    · have hr := run_append_grow (P := Tryz.prog) w 26 ty 3 i _ el_int.under i1 i2 p 0 0 [] (by simp) (fun j u hj => by simp at hj) ⟨b, off, none⟩ m c (ys.map vi) hl' hyc' (by omega) (by omega) (growslice_fits (by omega) (by simpa using hby))
      refine ⟨v1, w1, ?_, .inl (by simpa [hm] using o1), ?_, fun b' hb' => .inr ?_⟩
      · rw [hr, hv1.1, hv1.2]
        simp
      · rw [hv1.2]; exact grown_drew_alloc _ _ _
      · rw [hv1.1] at hb'; exact rowOf_new _ _ _ _ hb'

section
variable {w : World} {ops : Array Oper} {rest : List Oper} {o : Oper} {act : Act} {Q : Exit → Act → World → Prop}
/-- 'append(xs, ys...)': xs in a row of its own. -/
theorem wpList_append_ownI {s x : Operand} {v : Value} {xs ys : List Nat} {a : Option Addr} {m c : Nat} (h : OwnI w v xs) (hy : Cells w a (ys.map vi)) (hm : ys.length = m) (hn : xs.length + m ≤ 1000000000000)
    (hgd : o.guard = none) (ho : o.op = .call { callee := .builtin .append, args := #[s, x], argTypes := #[26, 26] })
    (hs : act.eval s = v) (hx : act.eval x = .slice a m c)
    (hK : ∀ v' w', OwnI w' v' (xs ++ ys) → w.grownBy w' (rowOf v) → (∀ b, rowOf v' = some b → rowOf v = some b ∨ b = w.heap.size) → wpList Tryz.prog ops Q rest (act.put o.dst v') w') :
    wpList Tryz.prog ops Q (o :: rest) act w := by
  obtain ⟨v', w', hr, h1, h2, h3⟩ := run_append_ownI (c := c) o.type h hy hm hn
  refine wpList_plain hgd fun K hK' => ?_
  unfold Oper.wp
  simp [execOp, ho, resolve, invoke, builtin, hs, hx, hr, Result.andThen]
  exact hK' _ _ (hK v' w' h1 h2 h3)
/-- .. a row that is newer than B, or nil. -/
theorem wpList_append_newI {s x : Operand} {wa : World} {v : Value} {xs ys : List Nat} {a : Option Addr} {m c B : Nat} (h : OwnI wa v xs) (hb : Below wa.heap.size wa w) (hrow : ∀ b, rowOf v = some b → B ≤ b) (hB : B ≤ w.heap.size) (hy : Cells w a (ys.map vi)) (hm : ys.length = m) (hn : xs.length + m ≤ 1000000000000)
    (hgd : o.guard = none) (ho : o.op = .call { callee := .builtin .append, args := #[s, x], argTypes := #[26, 26] })
    (hs : act.eval s = v) (hx : act.eval x = .slice a m c)
    (hK : ∀ v' w', OwnI w' v' (xs ++ ys) → Below B w w' → (∀ b, rowOf v' = some b → B ≤ b) → wpList Tryz.prog ops Q rest (act.put o.dst v') w') :
    wpList Tryz.prog ops Q (o :: rest) act w := by
  refine wpList_append_ownI (h.keep (fun b hb' => hb.block b (h.lt b hb'))) hy hm hn hgd ho hs hx fun v' w' h1 h2 h3 => hK v' w' h1 ?_ ?_
  · exact ⟨h2.os, h2.tape, h2.output, h2.size, fun k hk => h2.block k (by omega) (fun e => by have := hrow k e.symm; omega)⟩
  · intro b hb'
    rcases h3 b hb' with c | c
    · exact hrow b c
    · omega
end

/-- What is left of a list, its end cut off. -/
theorem OwnI.cut {w : World} {xs : List Nat} {a : Option Addr} {c : Nat} (h : OwnI w (.slice a xs.length c) xs) {n : Nat} (hn : n ≤ xs.length) : OwnI w (.slice a n c) (xs.take n) := by
  have hl : (xs.take n).length = n := by rw [List.length_take]; omega
  rcases h with h | ⟨p, h, rfl⟩
  · rcases h.2 with ⟨e, h0⟩ | ⟨g, cap, cur, e, hb, hg, h1, h2, h3, h4⟩
    · have hx : xs = [] := List.length_eq_zero_iff.1 h0
      subst hx
      cases e
      obtain rfl : n = 0 := by simpa using hn
      exact .inl ⟨rfl, .inl ⟨rfl, rfl⟩⟩
    · cases e
      refine .inl ⟨by simp, .inr ⟨g, c, cur, by rw [hl], hb, hg, by rw [hl]; omega, h2, h3, ?_⟩⟩
      rw [hl, List.map_take, ← h4, List.take_take]
      congr 1; omega
  · cases h
    obtain rfl : n = 0 := by simpa using hn
    exact .inr ⟨p, rfl, rfl⟩
theorem OwnI.cutN {w : World} {xs : List Nat} {a : Option Addr} {c l : Nat} (h : OwnI w (.slice a l c) xs) (hl : l = xs.length) {n : Nat} (hn : n ≤ l) : OwnI w (.slice a n c) (xs.take n) := by
  subst hl; exact h.cut hn
theorem rowOf_cut (a : Option Addr) (n m c : Nat) : rowOf (.slice a n c) = rowOf (.slice a m c) := by cases a <;> rfl

end Go.Proofs.YtfedgcdkagngnaaGreat

/- Regions that draw their order, as a tree: operations that load float, those that look at no memory float without a condition; of two others that may come next either may. -/
namespace Go.Proofs.YtfedgcdkagngnaaGreat
open Go.RowKit
set_option linter.unusedVariables false

def isLoad : Op → Bool
  | .load .. => true
  | _ => false

section
variable {P : Program} {ops : Array Oper} {md : Region.Mode} {C : World → Prop} {Q : Exit → Act → World → Prop}

/-- An operation that looks at no memory may be taken first, whatever else may come ahead of it. -/
theorem wpAnyF_pure {loose : Nat → Bool} {i : Nat} {oi : Oper} {v : Value} (hi : ops[i]? = some oi) (hsel : ∀ (j : Nat) (o : Oper) cs b, ops[j]? = some o → o.op ≠ .select cs b)
    (hQ : ∀ c a d v w, Q (.panic c) (a.put d v) w → Q (.panic c) a w) (hlo : loose i = false) :
    ∀ (fuel : Nat) (listed : Array Bool) (a : Act) (w : World),
      (∀ j oj, ops[j]? = some oj → j ≠ i → listed.getD j true = false → (∀ e ∈ oj.after, Region.binds md e = true → e.on ≠ i) → oi.apart ops oj = true) →
      i ∈ Region.ready md ops listed → Stays P ops (fun _ => True) oi v a →
      wpAnyF P md ops Q C loose fuel (listed.setIfInBounds i true) (a.put oi.dst v) w → wpAnyF P md ops Q C loose (fuel + 1) listed a w := by
  intro fuel
  induction fuel with
  | zero =>
    intro listed a w _ hr hy H
    refine ⟨fun h => (by rw [h] at hr; cases hr), fun j hj => ?_⟩
    by_cases hji : j = i
    · subst hji; exact hy.wpOp hi trivial ⟨fun h => (by rw [hlo] at h; cases h), H⟩
    · have := ready_mono hj hji
      rw [H.1] at this
      cases this
  | succ fuel ih =>
    intro listed a w hfree hr hy H
    refine ⟨fun h => (by rw [h] at hr; cases hr), fun j hj => ?_⟩
    by_cases hji : j = i
    · subst hji; exact hy.wpOp hi trivial ⟨fun h => (by rw [hlo] at h; cases h), H⟩
    · have h1 := H.2 j (ready_mono hj hji)
      obtain ⟨hjun, oj, hoj, hall⟩ := mem_ready.1 hj
      have hiun : listed.getD i false = false := by
        have h0 := (mem_ready.1 hr).1
        rcases Nat.lt_or_ge i listed.size with h' | h'
        · simp [h'] at h0 ⊢; exact h0
        · simp [Array.getElem?_eq_none h']
      have hnot : ∀ e ∈ oj.after, Region.binds md e = true → e.on ≠ i := fun e he hb heq => by
        have h1 := hall e he hb
        rw [heq, hiun] at h1
        cases h1
      have h2 := wpOp_putF (C := fun _ => True) hoj (hfree j oj hoj hji hjun hnot) (fun cs b => hsel i oi cs b hi) (fun cs b => hsel j oj cs b hoj) hQ hy h1
      have hun' : ∀ k, (listed.setIfInBounds j true).getD k true = false → listed.getD k true = false := fun k hun => by
        by_cases hjk : j = k
        · subst hjk; exact hjun
        · rw [getD_set_ne true hjk] at hun; exact hun
      refine wpOp_mono (fun a' w' h3 => ⟨h3.2.1, ih (listed.setIfInBounds j true) a' w' (fun k ok hk hki hun hno => hfree k ok hk hki (hun' k hun) hno) (ready_mono hr (Ne.symm hji)) h3.1 ?_⟩) h2
      rw [Array.setIfInBounds_comm _ _ hji]
      exact h3.2.2

/-- Is there an operation that loads and that may come ahead of j as well as behind it? -/
def looseL (md : Region.Mode) (ops : Array Oper) (j : Nat) : Bool :=
  (List.range ops.size).any fun i => i != j && (match ops[i]? with | some o => isLoad o.op | none => false) && !waitsFor md ops ops.size j i && !waitsFor md ops ops.size i j

def flL (md : Region.Mode) (ops : Array Oper) : List Nat → Array Bool → Bool × Array Bool
  | [], listed => (true, listed)
  | k :: ks, listed => match ops[k]? with
    | none => (false, listed)
    | some o => let r := flL md ops ks (listed.setIfInBounds k true)
      (calm o.op && (Region.ready md ops listed).contains k && Region.free md ops listed k && ((List.range ops.size).all fun j => j == k || listed.getD j true || waitsFor md ops ops.size j k || looseL md ops j) && r.1, r.2)
def puL (md : Region.Mode) (ops : Array Oper) : List Nat → Array Bool → Bool × Array Bool
  | [], listed => (true, listed)
  | k :: ks, listed => match ops[k]? with
    | none => (false, listed)
    | some o => let r := puL md ops ks (listed.setIfInBounds k true)
      (calm o.op && (Region.ready md ops listed).contains k && Region.free md ops listed k && !looseL md ops k && r.1, r.2)
def sqL (md : Region.Mode) (ops : Array Oper) (lo : Bool) : List Nat → Array Bool → Bool × Array Bool
  | [], listed => (true, listed)
  | k :: ks, listed => match ops[k]? with
    | none => (false, listed)
    | some _ => let r := sqL md ops lo ks (listed.setIfInBounds k true)
      (Region.ready md ops listed == [k] && (!looseL md ops k || (lo && ks.isEmpty)) && r.1, r.2)
theorem stays_of {C : World → Prop} {o : Oper} {a : Act} {K : Act → Prop} {ks : List Oper} (hcalm : calm o.op = true) (h : wpQuiet P ops C K (o :: ks) a) : ∃ v, Stays P ops C o v a ∧ wpQuiet P ops C K ks (a.put o.dst v) := by
  simp only [wpQuiet] at h
  by_cases hw : Region.wanted o (yielded ops a.tmps) = true
  · rw [if_pos hw] at h
    obtain ⟨v, h1, h2⟩ := h
    refine ⟨v, .inl ⟨hw, fun x hx => ?_⟩, h2⟩
    have h3 := h1 x hx
    unfold Oper.quietAt at h3
    cases hq : (execOp a.eval o).run P x with
    | ok nx w2 =>
      obtain ⟨u, rfl⟩ := calm_value hcalm hq
      rw [hq] at h3
      simp only [Oper.quietUpon] at h3
      rw [h3.1, h3.2]
    | halt x' w2 => rw [hq] at h3; simp only [Oper.quietUpon] at h3
  · rw [if_neg hw] at h
    exact ⟨undef, .inr ⟨by simpa using hw, rfl⟩, h⟩

theorem flL_ok (hs : Region.noSelect ops = true) (hQ : ∀ c a d v w, Q (.panic c) (a.put d v) w → Q (.panic c) a w) {m : Nat} {R : Act → Prop} {w : World} (hC : C w) : ∀ (ks : List Nat) (listed : Array Bool) (a : Act), Shut md ops listed → (flL md ops ks listed).1 = true →
    (∀ a', Shut md ops (flL md ops ks listed).2 → R a' → wpAnyF P md ops Q C (looseL md ops) m (flL md ops ks listed).2 a' w) →
    wpQuiet P ops C R (picks ops.toList ks) a → wpAnyF P md ops Q C (looseL md ops) (m + ks.length) listed a w := by
  intro ks
  induction ks with
  | nil =>
    intro listed a hsh _ hR h
    exact hR a hsh (by simpa [picks, wpQuiet] using h)
  | cons k ks ih =>
    intro listed a hsh hB hR h
    cases hk : ops[k]? with
    | none => simp [flL, hk] at hB
    | some o =>
      have e : picks ops.toList (k :: ks) = o :: picks ops.toList ks := by simp [picks, hk]
      rw [e] at h
      simp only [flL, hk, Bool.and_eq_true] at hB hR
      obtain ⟨⟨⟨⟨hc, hr⟩, hf⟩, hlo⟩, hB'⟩ := hB
      have hrk : k ∈ Region.ready md ops listed := by simpa using hr
      obtain ⟨v, hy, hK⟩ := stays_of hc h
      refine wpAnyF_early (f := ops.size) hk (Region.noSelect_spec hs) hQ (m + ks.length) listed a w ?_ (Region.free_spec hk hf) hrk hsh hy hC (ih _ _ (hsh.set hrk) hB' hR hK)
      intro j oj hj hjk hun
      simp only [List.all_eq_true, List.mem_range, Bool.or_eq_true, beq_iff_eq] at hlo
      rcases hlo j (Array.getElem?_eq_some_iff.1 hj).1 with ((h | h) | h) | h
      · exact absurd h hjk
      · rw [hun] at h; cases h
      · exact .inl h
      · exact .inr h
theorem puL_ok (hs : Region.noSelect ops = true) (hQ : ∀ c a d v w, Q (.panic c) (a.put d v) w → Q (.panic c) a w) {m : Nat} {R : Act → Prop} {w : World} : ∀ (ks : List Nat) (listed : Array Bool) (a : Act), Shut md ops listed → (puL md ops ks listed).1 = true →
    (∀ a', Shut md ops (puL md ops ks listed).2 → R a' → wpAnyF P md ops Q C (looseL md ops) m (puL md ops ks listed).2 a' w) →
    wpQuiet P ops (fun _ => True) R (picks ops.toList ks) a → wpAnyF P md ops Q C (looseL md ops) (m + ks.length) listed a w := by
  intro ks
  induction ks with
  | nil =>
    intro listed a hsh _ hR h
    exact hR a hsh (by simpa [picks, wpQuiet] using h)
  | cons k ks ih =>
    intro listed a hsh hB hR h
    cases hk : ops[k]? with
    | none => simp [puL, hk] at hB
    | some o =>
      have e : picks ops.toList (k :: ks) = o :: picks ops.toList ks := by simp [picks, hk]
      rw [e] at h
      simp only [puL, hk, Bool.and_eq_true, Bool.not_eq_true'] at hB hR
      obtain ⟨⟨⟨⟨hc, hr⟩, hf⟩, hlo⟩, hB'⟩ := hB
      have hrk : k ∈ Region.ready md ops listed := by simpa using hr
      obtain ⟨v, hy, hK⟩ := stays_of hc h
      exact wpAnyF_pure hk (Region.noSelect_spec hs) hQ hlo (m + ks.length) listed a w (Region.free_spec hk hf) hrk hy (ih _ _ (hsh.set hrk) hB' hR hK)

/-- One operation that comes next. -/
theorem oneL_ok {m : Nat} {lo : Bool} {R : Act → World → Prop} {k : Nat} {o : Oper} (hk : ops[k]? = some o) {L : Array Bool} {a : Act} {w : World} (hlo : looseL md ops k = true → lo = true)
    (hR : ∀ a' w', (lo = true → C w') → R a' w' → wpAnyF P md ops Q C (looseL md ops) m L a' w')
    (h : wpList P ops (Exit.then (fun a' w' => (lo = true → C w') ∧ R a' w') Q) [o] a w) : wpOp P ops Q k (fun a' w' => (looseL md ops k = true → C w') ∧ wpAnyF P md ops Q C (looseL md ops) m L a' w') a w := by
  unfold wpOp
  simp only [hk]
  unfold wpList at h
  have hmono : ∀ a' w', wpList P ops (Exit.then (fun a' w' => (lo = true → C w') ∧ R a' w') Q) [] a' w' → (looseL md ops k = true → C w') ∧ wpAnyF P md ops Q C (looseL md ops) m L a' w' := by
    intro a' w' h'
    have h' : (lo = true → C w') ∧ R a' w' := by simpa [wpList, Exit.then] using h'
    exact ⟨fun hl => h'.1 (hlo hl), hR a' w' h'.1 h'.2⟩
  by_cases hw : Region.wanted o (yielded ops a.tmps) = true
  · rw [if_pos hw] at h ⊢
    rcases h with h | h
    · refine .inl ?_
      have h := Oper.wp_mono hmono h
      unfold Oper.wp at *
      generalize (execOp a.eval o).run P w = r at *
      cases r with
      | ok n w' => cases n <;> simp only [Oper.upon] at h ⊢ <;> exact h
      | halt x w' => cases x <;> simp only [Oper.upon] at h ⊢ <;> exact h
    · exact .inr h
  · rw [if_neg hw] at h ⊢
    exact hmono _ _ h

theorem sqL_ok {m : Nat} {lo : Bool} {R : Act → World → Prop} : ∀ (ks : List Nat) (listed : Array Bool) (a : Act) (w : World), Shut md ops listed → (sqL md ops lo ks listed).1 = true →
    (∀ a' w', Shut md ops (sqL md ops lo ks listed).2 → (lo = true → C w') → R a' w' → wpAnyF P md ops Q C (looseL md ops) m (sqL md ops lo ks listed).2 a' w') →
    wpList P ops (Exit.then (fun a' w' => (lo = true → C w') ∧ R a' w') Q) (picks ops.toList ks) a w → wpAnyF P md ops Q C (looseL md ops) (m + ks.length) listed a w := by
  intro ks
  induction ks with
  | nil =>
    intro listed a w hsh _ hR h
    have h : (lo = true → C w) ∧ R a w := by simpa [picks, wpList, Exit.then] using h
    exact hR a w hsh h.1 h.2
  | cons k ks ih =>
    intro listed a w hsh hB hR h
    cases hk : ops[k]? with
    | none => simp [sqL, hk] at hB
    | some o =>
      have e : picks ops.toList (k :: ks) = o :: picks ops.toList ks := by simp [picks, hk]
      rw [e] at h
      simp only [sqL, hk, Bool.and_eq_true, beq_iff_eq] at hB hR
      obtain ⟨⟨hr, hlo⟩, hB'⟩ := hB
      have hrk : k ∈ Region.ready md ops listed := by rw [hr]; simp
      refine ⟨fun h' => (by rw [hr] at h'; cases h'), fun i hi => ?_⟩
      rw [hr] at hi
      obtain rfl : i = k := by simpa using hi
      unfold wpOp
      simp only [hk]
      unfold wpList at h
      have hmono : ∀ a' w', wpList P ops (Exit.then (fun a' w' => (lo = true → C w') ∧ R a' w') Q) (picks ops.toList ks) a' w' →
          (looseL md ops i = true → C w') ∧ wpAnyF P md ops Q C (looseL md ops) (m + ks.length) (listed.setIfInBounds i true) a' w' := by
        intro a' w' h'
        refine ⟨fun hl => ?_, ih _ _ _ (hsh.set hrk) hB' hR h'⟩
        simp only [hl, Bool.not_true, Bool.false_or, Bool.and_eq_true, List.isEmpty_iff] at hlo
        obtain ⟨hlo1, rfl⟩ := hlo
        have h' : (lo = true → C w') ∧ R a' w' := by simpa [picks, wpList, Exit.then] using h'
        exact h'.1 hlo1
      by_cases hw : Region.wanted o (yielded ops a.tmps) = true
      · rw [if_pos hw] at h ⊢
        rcases h with h | h
        · refine .inl ?_
          have h := Oper.wp_mono hmono h
          unfold Oper.wp at *
          generalize (execOp a.eval o).run P w = r at *
          cases r with
          | ok n w' => cases n <;> simp only [Oper.upon] at h ⊢ <;> exact h
          | halt x w' => cases x <;> simp only [Oper.upon] at h ⊢ <;> exact h
        · exact .inr h
      · rw [if_neg hw] at h ⊢
        exact hmono _ _ h

end

end Go.Proofs.YtfedgcdkagngnaaGreat

/- free: one list is another one; Own, Push. -/
namespace Go.Proofs.YtfedgcdkagngnaaGreat
open Go.RowKit Go.Maps
set_option linter.unusedVariables false

/-- One of the lists is another one. -/
structure Step1 (w w' : World) (f mb n : Nat) (V : Nat → Value) (S S' : FL) (i : Nat) (v : Value) (xs : List Nat) : Prop where
  head : w'.heap[f]? = some (.cells ((List.range 32).map (fun j => if j = i then v else V j) ++ [Value.map (some mb)]).toArray 247 (0, 0))
  map : ∃ M, VMap Tryz.prog 270 w' mb n M ∧ ∀ m k : Nat, m < 4 → k < 32 → (M (pairKey m k)).getD (.slice none 0 0) = if slotI m k = i then v else V (slotI m k)
  own : OwnI w' v xs
  row : ∀ b, rowOf v = some b → rowOf (V i) = some b ∨ w.heap.size ≤ b
  rest : ∀ b, b < w.heap.size → b ≠ f → b ≠ mb → rowOf (V i) ≠ some b → w'.heap[b]? = w.heap[b]?
  size : w.heap.size ≤ w'.heap.size
  lists : ∀ j, j < 160 → S'.at j = if j = i then xs else S.at j

theorem FreeIn.step {w w' : World} {f mb n n' : Nat} {R : List Nat} {V : Nat → Value} {S S' : FL} {i : Nat} {v : Value} {xs : List Nat} (h : FreeIn w f mb n V S) (hi : i < 160)
    (h1 : f ∈ R) (h2 : mb ∈ R) (h3 : ∀ b ∈ R, b < w.heap.size) (h4 : ∀ j, j < 160 → ∀ b, rowOf (V j) = some b → b ∈ R) (t : Step1 w w' f mb n' V S S' i v xs) :
    FreeIn w' f mb n' (fun j => if j = i then v else V j) S' ∧ FreeAt w' f mb n' (R ++ (rowOf v).toList) S' := by
  obtain ⟨M, hm, hv⟩ := t.map
  have hfl := h3 f h1
  have hml := h3 mb h2
  have hnew : ∀ b, rowOf v = some b → b < w'.heap.size := t.own.lt
  have key : FreeIn w' f mb n' (fun j => if j = i then v else V j) S' := by
    refine ⟨t.head, ⟨M, hm, hv⟩, fun j hj => ?_, fun j k hj hk hne b hb => ?_, fun j hj => ?_, h.ne⟩
    · rw [t.lists j hj]
      by_cases e : j = i
      · rw [if_pos e, if_pos e]; exact t.own
      · rw [if_neg e, if_neg e]
        refine (h.rows j hj).keep fun b hb => t.rest b (h3 b (h4 j hj b hb)) (fun e2 => (h.neF j hj).1 (e2 ▸ hb)) (fun e2 => (h.neF j hj).2 (e2 ▸ hb)) (h.apart j i hj hi e b hb)
    · by_cases e1 : j = i
      · rw [if_pos e1] at hb
        rw [if_neg (fun c => hne (e1.trans c.symm))]
        rcases t.row b hb with hb | hb
        · exact fun c => h.apart i k hi hk (fun c => hne (e1.trans c)) b hb c
        · exact fun c => by have := h3 b (h4 k hk b c); omega
      · rw [if_neg e1] at hb
        by_cases e2 : k = i
        · rw [if_pos e2]
          intro c
          rcases t.row b c with c | c
          · exact h.apart j i hj hi e1 b hb c
          · have := h3 b (h4 j hj b hb); omega
        · rw [if_neg e2]
          exact h.apart j k hj hk hne b hb
    · by_cases e : j = i
      · rw [if_pos e]
        refine ⟨fun c => ?_, fun c => ?_⟩
        · rcases t.row f c with c | c
          · exact (h.neF i hi).1 c
          · omega
        · rcases t.row mb c with c | c
          · exact (h.neF i hi).2 c
          · omega
      · rw [if_neg e]; exact h.neF j hj
  refine ⟨key, _, key, List.mem_append_left _ h1, List.mem_append_left _ h2, fun b hb => ?_, fun j hj b hb => ?_⟩
  · rcases List.mem_append.1 hb with hb | hb
    · exact Nat.lt_of_lt_of_le (h3 b hb) t.size
    · exact hnew b (by simpa using hb)
  · by_cases e : j = i
    · rw [if_pos e] at hb
      exact List.mem_append_right _ (by simp [hb])
    · rw [if_neg e] at hb
      exact List.mem_append_left _ (h4 j hj b hb)

/-- The free cells: their values, all blocks. -/
structure FreeV (w : World) (f mb n : Nat) (V : Nat → Value) (R : List Nat) (S : FL) : Prop where
  inn : FreeIn w f mb n V S
  f : f ∈ R
  mb : mb ∈ R
  lt : ∀ b ∈ R, b < w.heap.size
  rows : ∀ j, j < 160 → ∀ b, rowOf (V j) = some b → b ∈ R
theorem FreeV.at {w : World} {f mb n : Nat} {V : Nat → Value} {R : List Nat} {S : FL} (h : FreeV w f mb n V R S) : FreeAt w f mb n R S := ⟨V, h.inn, h.f, h.mb, h.lt, h.rows⟩
theorem FreeAt.v {w : World} {f mb n : Nat} {R : List Nat} {S : FL} (h : FreeAt w f mb n R S) : ∃ V, FreeV w f mb n V R S := by
  obtain ⟨V, h1, h2, h3, h4, h5⟩ := h
  exact ⟨V, h1, h2, h3, h4, h5⟩
theorem FreeV.below {w w' : World} {f mb n : Nat} {V : Nat → Value} {R : List Nat} {S : FL} (h : FreeV w f mb n V R S) (hb : Below w.heap.size w w') : FreeV w' f mb n V R S := by
  have hk : ∀ k ∈ R, w'.heap[k]? = w.heap[k]? := fun k hk => hb.block k (h.lt k hk)
  obtain ⟨M, hm, hv⟩ := h.inn.map
  exact ⟨⟨(hk f h.f).trans h.inn.head, ⟨M, hm.block (hk mb h.mb), hv⟩, fun i hi' => (h.inn.rows i hi').keep fun b hb => hk b (h.rows i hi' b hb), h.inn.apart, h.inn.neF, h.inn.ne⟩, h.f, h.mb, fun b hb' => Nat.lt_of_lt_of_le (h.lt b hb') hb.size, h.rows⟩
theorem FreeV.step {w w' : World} {f mb n n' : Nat} {R : List Nat} {V : Nat → Value} {S S' : FL} {i : Nat} {v : Value} {xs : List Nat} (h : FreeV w f mb n V R S) (hi : i < 160) (t : Step1 w w' f mb n' V S S' i v xs) :
    FreeV w' f mb n' (fun j => if j = i then v else V j) (R ++ (rowOf v).toList) S' := by
  obtain ⟨k1, k2⟩ := h.inn.step hi h.f h.mb h.lt h.rows t
  refine ⟨k1, List.mem_append_left _ h.f, List.mem_append_left _ h.mb, k2.mem, fun j hj b hb => ?_⟩
  by_cases e : j = i
  · rw [if_pos e] at hb
    exact List.mem_append_right _ (by simp [hb])
  · rw [if_neg e] at hb
    exact List.mem_append_left _ (h.rows j hj b hb)

/-- What calls leave of the free cells. -/
def FreeGo (w w' : World) (f mb n : Nat) (R : List Nat) (S : FL) : Prop := ∃ R', FreeAt w' f mb n R' S ∧ Touch R w w' ∧ ∀ b ∈ R', b ∈ R ∨ w.heap.size ≤ b
theorem FreeGo.refl {w : World} {f mb n : Nat} {R : List Nat} {S : FL} (h : FreeAt w f mb n R S) : FreeGo w w f mb n R S := ⟨R, h, Touch.refl _ _, fun _ h => .inl h⟩
theorem FreeGo.later {w w1 w2 : World} {f mb n : Nat} {R : List Nat} {S : FL} (h : FreeGo w w1 f mb n R S) (hb : Below w1.heap.size w1 w2) : FreeGo w w2 f mb n R S := by
  obtain ⟨R', h1, h2, h3⟩ := h
  exact ⟨R', h1.below hb, h2.later hb, h3⟩
theorem FreeGo.mono {w w1 : World} {f mb n n' : Nat} {R : List Nat} {S : FL} (h : FreeGo w w1 f mb n R S) (hn : n ≤ n') : FreeGo w w1 f mb n' R S := by
  obtain ⟨R', h1, h2, h3⟩ := h
  exact ⟨R', h1.mono hn, h2, h3⟩
/-- Blocks that are old or lie in R. -/
theorem Touch.join {R R' : List Nat} {w w1 w2 : World} (h : Touch R w w1) (k : Touch R' w1 w2) (hR : ∀ b ∈ R', b ∈ R ∨ w.heap.size ≤ b) : Touch R w w2 :=
  h.own k (fun b hb => (hR b hb).symm)
theorem FreeGo.trans {w w1 w2 : World} {f mb n : Nat} {R R1 : List Nat} {S : FL} (h1 : Touch R w w1) (h2 : ∀ b ∈ R1, b ∈ R ∨ w.heap.size ≤ b) (h : FreeGo w1 w2 f mb n R1 S) : FreeGo w w2 f mb n R S := by
  obtain ⟨R', g1, g2, g3⟩ := h
  refine ⟨R', g1, h1.join g2 h2, fun b hb => ?_⟩
  rcases g3 b hb with c | c
  · exact h2 b c
  · exact .inr (Nat.le_trans h1.size c)

theorem Step1.go {w w' : World} {f mb n n' : Nat} {R : List Nat} {V : Nat → Value} {S S' : FL} {i : Nat} {v : Value} {xs : List Nat} (h : FreeIn w f mb n V S) (hi : i < 160)
    (h1 : f ∈ R) (h2 : mb ∈ R) (h3 : ∀ b ∈ R, b < w.heap.size) (h4 : ∀ j, j < 160 → ∀ b, rowOf (V j) = some b → b ∈ R) (t : Step1 w w' f mb n' V S S' i v xs) (ht : w'.os = w.os ∧ w'.tape = w.tape ∧ w'.output = w.output) :
    FreeGo w w' f mb n' R S' := by
  refine ⟨_, (h.step hi h1 h2 h3 h4 t).2, ⟨ht.1, ht.2.1, ht.2.2, t.size, fun b hb hn => t.rest b hb (fun e => hn (e ▸ h1)) (fun e => hn (e ▸ h2)) (fun e => hn (h4 i hi b e))⟩, fun b hb => ?_⟩
  rcases List.mem_append.1 hb with hb | hb
  · exact .inl hb
  · rcases t.row b (by simpa using hb) with c | c
    · exact .inl (h4 i hi b c)
    · exact .inr c

theorem Step1.touch {w w' : World} {f mb n n' : Nat} {R : List Nat} {V : Nat → Value} {S S' : FL} {i : Nat} {v : Value} {xs : List Nat} (h : FreeV w f mb n V R S) (hi : i < 160) (t : Step1 w w' f mb n' V S S' i v xs) (ht : w'.os = w.os ∧ w'.tape = w.tape ∧ w'.output = w.output) :
    Touch R w w' ∧ ∀ b ∈ R ++ (rowOf v).toList, b ∈ R ∨ w.heap.size ≤ b := by
  refine ⟨⟨ht.1, ht.2.1, ht.2.2, t.size, fun b hb hn => t.rest b hb (fun e => hn (e ▸ h.f)) (fun e => hn (e ▸ h.mb)) (fun e => hn (h.rows i hi b e))⟩, fun b hb => ?_⟩
  rcases List.mem_append.1 hb with hb | hb
  · exact .inl hb
  · rcases t.row b (by simpa using hb) with c | c
    · exact .inl (h.rows i hi b c)
    · exact .inr c
/-- One more list is another one. -/
theorem FreeGo.more {w w1 w' : World} {f mb n n' : Nat} {R R1 : List Nat} {V : Nat → Value} {S S' : FL} {i : Nat} {v : Value} {xs : List Nat} (h0 : Touch R w w1) (h2 : ∀ b ∈ R1, b ∈ R ∨ w.heap.size ≤ b) (h : FreeV w1 f mb n V R1 S) (hi : i < 160) (t : Step1 w1 w' f mb n' V S S' i v xs) (ht : w'.os = w1.os ∧ w'.tape = w1.tape ∧ w'.output = w1.output) :
    FreeGo w w' f mb n' R S' := by
  obtain ⟨g1, g2⟩ := t.touch h hi ht
  refine ⟨_, (h.step hi t).at, h0.join g1 h2, fun b hb => ?_⟩
  rcases g2 b hb with c | c
  · exact h2 b c
  · exact .inr (Nat.le_trans h0.size c)

/-- A global list is another one: its row grew, then its cell was stored. -/
theorem step_g {w wd w1 : World} {f mb n : Nat} {R : List Nat} {V : Nat → Value} {S : FL} {k : Nat} {v : Value} {xs : List Nat} (hi : FreeIn w f mb n V S) (hk : k < 32)
    (h1 : f ∈ R) (h2 : mb ∈ R) (h3 : ∀ b ∈ R, b < w.heap.size) (hd : Below w.heap.size w wd) (hg : wd.grownBy w1 (rowOf (V k))) (hv : OwnI w1 v xs) (hrow : ∀ b, rowOf v = some b → rowOf (V k) = some b ∨ w.heap.size ≤ b) :
    Step1 w (w1.setCell ⟨f, k, none⟩ v) f mb n V S (S.setG k xs) k v xs := by
  have hfl := h3 f h1
  have hml := h3 mb h2
  obtain ⟨M, hm, hvv⟩ := hi.map
  have hb : ∀ b, b < w.heap.size → rowOf (V k) ≠ some b → w1.heap[b]? = w.heap[b]? := fun b hb hn => (hg.block b (Nat.lt_of_lt_of_le hb hd.size) (fun e => hn e.symm)).trans (hd.block b hb)
  have hf1 := (hb f hfl (hi.neF k (by omega)).1).trans hi.head
  have hne : ∀ b, rowOf v = some b → b ≠ f := fun b hb e => by
    subst e
    rcases hrow b hb with c | c
    · exact (hi.neF k (by omega)).1 c
    · omega
  refine ⟨?_, ⟨M, (hm.block ?_), fun m j hm4 hj => ?_⟩, hv.keep (fun b hb => Below.heap_setCell _ _ _ _ (hne b hb)), hrow, fun b hbl h5 h6 h7 => ?_, ?_, fun j hj => ?_⟩
  · rw [heap_setCell_same w1 f k _ _ _ hf1]
    congr 2
    apply Array.ext'
    rw [Array.toList_setIfInBounds]
    simp only
    apply List.ext_getElem?
    intro t
    rw [List.getElem?_set]
    by_cases e : k = t
    · subst e
      rw [if_pos rfl, if_pos (by simp; omega), List.getElem?_append_left (by simpa using hk)]
      simp [hk]
    · rw [if_neg e]
      by_cases ht : t < 32
      · rw [List.getElem?_append_left (by simpa using ht), List.getElem?_append_left (by simpa using ht)]
        have : ¬ t = k := fun c => e c.symm
        simp [ht, this]
      · rw [List.getElem?_append_right (by simpa using ht), List.getElem?_append_right (by simpa using ht)]
        simp
  · rw [Below.heap_setCell _ _ _ _ (fun e => hi.ne e.symm)]
    exact hb mb hml (hi.neF k (by omega)).2
  · rw [hvv m j hm4 hj, if_neg (by unfold slotI; omega)]
  · rw [Below.heap_setCell _ _ _ _ h5]
    exact hb b hbl h7
  · have := hg.size; have := hd.size; simp; omega
  · unfold FL.at
    simp only [FL.setG_g, FL.setG_c]
    by_cases e : j < 32
    · rw [if_pos e, if_pos e]
    · rw [if_neg e, if_neg e, if_neg (by omega)]

set_option maxHeartbeats 1000000 in
set_option maxRecDepth 20000 in
theorem fown_any {w : World} {f mb n : Nat} {R : List Nat} {S : FL} (h : FreeAt w f mb n R S) (m k : Nat) (hm4 : m < 4) (hk : k < 32) :
    Calls Tryz.prog 233 #[vfree f, .int .i64 (m : Int), .int .i64 (k : Int)] w (Same1 (.int .i64 ((S.c m k).length : Int)) w) := by
  obtain ⟨V, hi, _⟩ := h
  obtain ⟨M, hm, hv⟩ := hi.map
  have HM := Lib.hid hm
  have c32 := hi.m
  obtain ⟨ac, cc, ec, hcc, _, _⟩ := (hi.rows (slotI m k) (by unfold slotI; omega)).cells
  rw [S.at_c m hk] at ec
  have HVi := hv m k hm4 hk
  rw [ec] at HVi
  have HVi := Lib.hid HVi
  have hkey := key_slot (m : Int) (k : Int) (wf_small m (by omega)) (wf_small k (by omega))
  clear hi hm hv ec hcc
  generalize (S.c m k).length = l at *
  go_enter Tryz.func233, Tryz.ntmps233
  go_wp2_with (refine wpList_vlook rfl _ _ 244 rfl 270 26 keyed_slot Tryz.underlying244 _ (zero_ints _) mb n M rfl HM.out _ _ rfl hkey ?_; rw [HVi.out])
  go_ret
  exact ⟨rfl, rfl⟩

end Go.Proofs.YtfedgcdkagngnaaGreat

/- free: Push. -/
namespace Go.Proofs.YtfedgcdkagngnaaGreat
open Go.RowKit Go.Maps
set_option linter.unusedVariables false

/-- Lists of at most so many. -/
def FL.upto (S : FL) (N : Nat) : Prop := ∀ i, i < 160 → (S.at i).length ≤ N
theorem FL.upto.mono {S : FL} {N M : Nat} (h : S.upto N) (hN : N ≤ M) : S.upto M := fun i hi => Nat.le_trans (h i hi) hN
theorem FL.pushed_upto {S : FL} {N : Nat} (h : S.upto N) (k a : Nat) : (S.pushed k a).upto (N + 1) := by
  intro i hi
  have := h i hi
  unfold FL.pushed
  split
  · omega
  · unfold FL.at at this ⊢
    simp only [FL.setG_g, FL.setG_c]
    by_cases e : i < 32
    · rw [if_pos e] at this ⊢
      split
      · rename_i e2; subst e2; simp; omega
      · omega
    · rw [if_neg e] at this ⊢; omega

theorem grown_touchO {w w' : World} {row : Option Nat} (h : w.grownBy w' row) : Touch row.toList w w' :=
  ⟨h.os, h.tape, h.output, h.size, fun k hk hn => h.block k hk (fun e => hn (by rw [← e]; simp))⟩

/-- What Push leaves. -/
def Pushed (w : World) (f mb n : Nat) (R : List Nat) (S : FL) (k a : Nat) : Ending → World → Prop := fun e w' => e = .returned (.int .i64 (if S.has k a then 41 else 0)) ∧ FreeGo w w' f mb n R (S.pushed k a)

set_option maxHeartbeats 2000000 in
set_option maxRecDepth 20000 in
theorem fpush_any {w : World} {f mb n : Nat} {R : List Nat} {S : FL} (h : FreeAt w f mb n R S) (hL : S.upto 1000000) (k a : Nat) (hk : k < 32) :
    Calls Tryz.prog 177 #[vfree f, .int .i64 (k : Int), .int .i64 (a : Int)] w (Pushed w f mb n R S k a) := by
  have HF := Lib.hid h
  have HHas := Lib.hid (fhas_any h hL k a hk)
  have HP : Hid (∀ x w', x = (if S.has k a then 41 else 0) → FreeGo w w' f mb n R (S.pushed k a) → Pushed w f mb n R S k a (.returned (.int .i64 x)) w') := Lib.hid (fun x w' h1 h2 => by subst h1; exact ⟨rfl, h2⟩)
  generalize Pushed w f mb n R S k a = Post at *
  obtain ⟨V, hi, h1, h2, h3, h4⟩ := h
  have HI := Lib.hid hi
  have HR1 := Lib.hid h1
  have HR2 := Lib.hid h2
  have HR3 := Lib.hid h3
  have HR4 := Lib.hid h4
  have ck := hi.g hk
  have HOwn := Lib.hid (hi.rows k (by omega))
  have HLk : Hid ((S.g k).length ≤ 1000000) := Lib.hid (by have := hL k (by omega); rwa [S.at_g hk] at this)
  clear hi h1 h2 h3 h4 hL
  go_enter Tryz.func177, Tryz.ntmps177
  go_wp2_with fail
  refine (cright_any _ _).mono ?_
  rintro e w1 ⟨rfl, rfl⟩
  rw [decide_eq_true (show (0 : Int) ≤ (k : Int) ∧ (k : Int) < 32 by omega)]
  go_wp2_with fail
  refine HHas.out.mono ?_
  rintro e w1 ⟨rfl, rfl⟩
  cases hh : S.has k a with
  | true =>
    have HE : Hid (41 = (if S.has k a then (41 : Int) else 0) ∧ FreeGo w w f mb n R (S.pushed k a)) := Lib.hid ⟨by rw [hh]; rfl, by unfold FL.pushed; rw [hh]; exact FreeGo.refl HF.out⟩
    clear hh
    go_wp2_with fail
    exact HP.out _ _ HE.out.1 HE.out.2
  | false =>
    have HE : Hid (0 = (if S.has k a then (41 : Int) else 0) ∧ S.pushed k a = S.setG k (S.g k ++ [a])) := Lib.hid ⟨by rw [hh]; rfl, by unfold FL.pushed; rw [hh]; rfl⟩
    clear hh
    go_upto_region 5 with fail
    have hfn : f ∉ (rowOf (V k)).toList := fun hm => (HI.out.neF k (by omega)).1 (by simpa using hm)
    have r0 := fun x => near_cell (L := (rowOf (V k)).toList) ck hfn x
    clear ck hfn
    have hC1 : ∃ x : Near (rowOf (V k)).toList w, w.drew = x.val := near_of (Touch.ofBelow (later_below (later_drew w)))
    have HD0 : Hid (Below w.heap.size w w.drew) := Lib.hid (later_below (later_drew w))
    refine wp_region_seg (C := fun w' => ∃ x : Near (rowOf (V k)).toList w, w' = x.val) [.fl [0, 1, 2, 3, 4, 5, 6, 7, 8, 11, 12], .sq [9] true, .sq [10] true, .sq [13, 14] false] (by kernel_rfl) (by kernel_rfl) (by intro c a d v w h; cases d <;> exact h) ?_
    simp only [segs, picks, List.getElem?_cons_succ, List.getElem?_cons_zero]
    refine wpSeg_fl hC1 ?_
    repeat (first | go_big_quiet_step (fail) | quiet_step (fail))
    refine wpQuiet_nil ?_
    clear r0
    generalize w.drew = wd at *
    refine wpSeg_sq (fun K hK => ?_)
    go_wp2_with fail
    have hbn := below_alloc wd (.cells #[.int .i64 (a : Int)] 3)
    have HB2 : Hid (Below w.heap.size w (wd.alloc (.cells #[.int .i64 (a : Int)] 3))) := Lib.hid (HD0.out.trans (hbn.mono HD0.out.size))
    have hC2 : ∃ x : Near (rowOf (V k)).toList w, wd.alloc (.cells #[.int .i64 (a : Int)] 3) = x.val := near_of (Touch.ofBelow HB2.out)
    have HC2 : Hid (Cells (wd.alloc (.cells #[.int .i64 (a : Int)] 3)) (some ⟨wd.heap.size, 0, none⟩) ([a].map vi)) := Lib.hid (RowAt.cells ⟨_, heap_alloc_new _ _, [], rfl⟩)
    clear hbn
    go_wp2_with fail
    refine hK _ _ (fun _ => hC2) ?_
    clear hK K
    obtain ⟨q, hq⟩ : ∃ q, q = wd.heap.size := ⟨_, rfl⟩
    rw [← hq] at HC2 ⊢
    clear hq
    generalize wd.alloc _ = we at *
    have HOe : Hid (OwnI we (V k) (S.g k)) := Lib.hid (by rw [← S.at_g hk]; exact HOwn.out.keep (fun b hb => HB2.out.block b (HR3.out b (HR4.out k (by omega) b hb))))
    have HN1 : Hid ((S.g k).length + 1 ≤ 1000000000000) := Lib.hid (by have := HLk.out; omega)
    refine wpSeg_sq (fun K hK => ?_)
    go_wp2_with (refine wpList_append_ownI (m := 1) HOe.out HC2.out rfl HN1.out rfl rfl rfl rfl ?_; intro v' w1 ho hg hr; have HO1 := Lib.hid ho; have HG1 := Lib.hid hg; have HR := Lib.hid hr; clear ho hg hr)
    have HT1 : Hid (Touch (rowOf (V k)).toList w w1) := Lib.hid ((Touch.ofBelow HB2.out).trans (grown_touchO HG1.out))
    have hC3 := near_of HT1.out
    go_wp2_with fail
    refine hK _ _ (fun _ => hC3) ?_
    clear hK K
    have hst := step_g HI.out hk HR1.out HR2.out HR3.out HB2.out HG1.out HO1.out (fun b hb => by
      rcases HR.out b hb with c | c
      · exact .inl c
      · exact .inr (by rw [c]; exact HB2.out.size))
    have HGo : Hid (FreeGo w (w1.setCell ⟨f, k, none⟩ v') f mb n R (S.pushed k a)) := Lib.hid (by
      rw [HE.out.2]
      exact hst.go HI.out (by omega) HR1.out HR2.out HR3.out HR4.out ⟨HG1.out.os.trans HB2.out.os, HG1.out.tape.trans HB2.out.tape, HG1.out.output.trans HB2.out.output⟩)
    have HE0 := Lib.hid HE.out.1
    have HF1 : Hid (w1.heap[f]? = some (.cells ((List.range 32).map V ++ [Value.map (some mb)]).toArray 247 (0, 0))) := Lib.hid (by
      have := (HG1.out.block f (Nat.lt_of_lt_of_le (HR3.out f HR1.out) HB2.out.size) (fun e => (HI.out.neF k (by omega)).1 e.symm)).trans (HB2.out.block f (HR3.out f HR1.out))
      exact this.trans HI.out.head)
    have fr : w1.frozen? ⟨f, k, none⟩ = false := frozen_of_row _ _ _ _ _ HF1.out
    have ck1 : w1.cell? ⟨f, k, none⟩ = some (V k) := (cell_of_row _ _ k _ _ _ HF1.out).trans (HI.out.lt hk)
    obtain ⟨a', c', e', _⟩ := HO1.out.cells
    obtain ⟨l', hl'⟩ : ∃ l', l' = (S.g k ++ [a]).length := ⟨_, rfl⟩
    rw [← hl'] at e'
    subst e'
    clear hst hl'
    refine wpSeg_last ?_
    go_wp2_with fail
    generalize w1.setCell _ _ = w2 at *
    go_wp2_with fail
    exact HP.out _ _ HE0.out HGo.out

end Go.Proofs.YtfedgcdkagngnaaGreat

/- slices.Clone at []int; free: right; what a map of lists holds, turned. -/
namespace Go.Proofs.YtfedgcdkagngnaaGreat
open Go.RowKit Go.Maps
set_option linter.unusedVariables false

/-- A new list. -/
def NewI (w : World) (xs : List Nat) : Ending → World → Prop := fun e w' => ∃ v, e = .returned v ∧ OwnI w' v xs ∧ (∀ b, rowOf v = some b → w.heap.size ≤ b) ∧ Below w.heap.size w w'

set_option maxHeartbeats 1000000 in
set_option maxRecDepth 20000 in
theorem cloneI_any {w : World} (a : Option Addr) (n c : Nat) (xs : List Nat) (hn : xs.length = n) (hc : Cells w a (xs.map vi)) (h9 : xs.length ≤ 1000000) (hnil : a = none → c = 0) :
    Calls Tryz.prog 221 #[.slice a n c] w (NewI w xs) := by
  subst hn
  cases a with
  | none =>
    have hx : xs = [] := by
      rcases hc with h | ⟨_, _, h, _⟩
      · simpa using h
      · cases h
    subst hx
    obtain rfl := hnil rfl
    have hnl := fun w' => Lib.run_eql_slice_nil_nil (P := Tryz.prog) w' (t := 26) 0 0 Tryz.underlying26
    go_enter Tryz.func221, Tryz.ntmps221
    go_wp2_with fail
    go_ret
    exact ⟨.slice none 0 0, rfl, OwnI.nil _, fun b hb => (by cases hb), Below.refl _ _⟩
  | some d =>
    have HC0 := Lib.hid hc
    have HO : Hid (OwnI (w.alloc (.cells #[] 3)) (.slice (some ⟨w.heap.size, 0, none⟩) 0 0) []) :=
      Lib.hid (.inl ⟨rfl, .inr ⟨w.heap.size, 0, #[], rfl, Nat.zero_le _, heap_alloc_new w _, Nat.le_refl _, Nat.zero_le _, rfl, rfl⟩⟩)
    have HB := Lib.hid (below_alloc w (.cells #[] 3))
    have HC : Hid (Cells (w.alloc (.cells #[] 3)) (some d) (xs.map vi)) := Lib.hid (by
      rcases hc with h | ⟨b, off, e, h⟩
      · exact .inl h
      · exact .inr ⟨b, off, e, fun i v hi => by
          have := h i v hi
          rw [HB.out.cell (World.block_lt_of_cell? _ _ this)]; exact this⟩)
    have HN : Hid (([] : List Nat).length + xs.length ≤ 1000000000000) := Lib.hid (by simp; omega)
    have hnl := fun w' => Lib.run_eql_slice_some_nil (P := Tryz.prog) w' (t := 26) d xs.length c Tryz.underlying26
    obtain ⟨l, hl⟩ : ∃ l, l = xs.length := ⟨_, rfl⟩
    rw [← hl] at HN hnl ⊢
    have HL := Lib.hid hl.symm
    clear hc hl h9 hnil
    go_enter Tryz.func221, Tryz.ntmps221
    go_wp2_with (at_builtin; refine wpList_append_ownI (m := l) HO.out HC.out HL.out HN.out rfl rfl rfl rfl ?_; intro v' w2 ho hg hr; have HO2 := Lib.hid ho; have HG2 := Lib.hid hg; have HR2 := Lib.hid hr; clear ho hg hr)
    go_ret
    refine ⟨_, rfl, by simpa using HO2.out, fun b hb => ?_, ?_⟩
    · rcases HR2.out b hb with h | h
      · have : rowOf (.slice (some ⟨w.heap.size, 0, none⟩) 0 0) = none := rfl
        rw [this] at h; cases h
      · rw [h]; exact HB.out.size
    · have hg : World.grownBy _ w2 none := HG2.out
      exact HB.out.trans ((below_grown hg (Nat.le_refl _)).mono HB.out.size)

end Go.Proofs.YtfedgcdkagngnaaGreat

/- The reference's headers of blocks. -/
namespace Go.Proofs.YtfedgcdkagngnaaGreat
open Go.RowKit
set_option linter.unusedVariables false

end Go.Proofs.YtfedgcdkagngnaaGreat

/- The reference's device, read: Get; all headers. -/
namespace Go.Proofs.YtfedgcdkagngnaaGreat
open Go.RowKit
set_option linter.unusedVariables false

theorem peek_neg (l : List Nat) (i : Int) (h : i < 0) : peek l i = 0 := by unfold peek; rw [if_neg (by omega)]
theorem peek_out (l : List Nat) (j : Nat) (h : l.length ≤ j) : peek l (j : Int) = 0 := by
  unfold peek; rw [if_pos (by omega)]; simp [List.getElem?_eq_none h]
theorem peek_in (l : List Nat) (j : Nat) : peek l (j : Int) = l.getD j 0 := by unfold peek; rw [if_pos (by omega)]; rfl

set_option maxHeartbeats 400000 in
theorem rget_any (a : Option Addr) (n cap : Nat) (ls : List Nat) (w : World) (hc : Cells w a (ls.map vu64)) (hl : ls.length = 8 * n) (hn : n ≤ 1000000) (i : Int) :
    Calls Tryz.prog 112 #[.slice a n cap, .int .i64 i] w fun e w' => e = .returned (vu64 (peek ls i)) ∧ w = w' := by
  by_cases h0 : i < 0
  · have HV := Lib.hid (peek_neg ls i h0)
    clear hl hc
    go_enter Tryz.func112, Tryz.ntmps112
    go_wp2_with fail
    go_ret
    exact ⟨ret_int (by rw [HV.out]; rfl), rfl⟩
  obtain ⟨j, rfl⟩ := Int.eq_ofNat_of_zero_le (show 0 ≤ i by omega)
  by_cases h1 : j < 8 * n
  · obtain ⟨b, off, rfl, hb, hcs⟩ := hc.atMap 0 (show j < ls.length by omega)
    have hcell : w.cell? ⟨b, off + j / 8 * 8 + j % 8, none⟩ = some (vu64 (ls.getD j 0)) := by
      rw [show off + j / 8 * 8 + j % 8 = off + j by omega]; exact hcs j (by omega)
    have HV := Lib.hid (peek_in ls j)
    generalize ls.getD j 0 = x at *
    have hj8 : j / 8 < n := by omega
    have hj1 : (j : Int) < 8 * (n : Int) := by omega
    clear hl hc hcs h1
    go_enter Tryz.func112, Tryz.ntmps112
    go_wp2_with fail
    go_ret
    exact ⟨ret_int (by rw [HV.out]), rfl⟩
  · have HV := Lib.hid (peek_out ls j (by omega))
    have h2 : 8 * (n : Int) ≤ (j : Int) := by omega
    clear hl hc
    go_enter Tryz.func112, Tryz.ntmps112
    go_wp2_with fail
    go_ret
    exact ⟨ret_int (by rw [HV.out]; rfl), rfl⟩
theorem elRh : Elem Tryz.prog 36 109 (.agg #[.int .i64 0, .int .i64 0, .int .i64 0]) 3 24 := Elem.mk' Tryz.underlying36 (by kernel_rfl) rfl (by decide)
end Go.Proofs.YtfedgcdkagngnaaGreat

/- blocks: Open, Get, Count; law07: Ref, Refs. -/
namespace Go.Proofs.YtfedgcdkagngnaaGreat
open Go.RowKit
set_option linter.unusedVariables false

/-- A table of headers in memory. -/
structure TabAt (w : World) (p : Nat) (F : Foot) (B : Nat) (l : List Hd) : Prop where
  ex : ∃ g c, w.heap[p]? = some (.cells #[vdev F, .int .i64 (B : Int), .slice (some ⟨g, 0, none⟩) l.length c] 141 (0, 0)) ∧ l.length ≤ c ∧ RowAt w g 139 (hdCs l) ∧ p ≠ g

def Hd.val (h : Hd) : Value := .agg #[.int .i64 h.k, .int .i64 h.c, .int .i64 h.l]
/-- A header, where there is one. -/
def hdGet (l : List Hd) (b : Int) : Hd := if b < 1 ∨ (l.length : Int) ≤ b then ⟨0, 0, 0⟩ else l.getD b.toNat default

set_option maxHeartbeats 1000000 in
theorem tget_any {w : World} {p B : Nat} {F : Foot} {l : List Hd} (h : TabAt w p F B l) (b : Int) (hl : l.length ≤ 1000) :
    Calls Tryz.prog 129 #[.pointer (some ⟨p, 0, none⟩), .int .i64 b] w fun e w' => e = .returned (hdGet l b).val ∧ Below w.heap.size w w' := by
  obtain ⟨g, c, hp, hc, hr, hne⟩ := h.ex
  have c2 : w.cell? ⟨p, 2, none⟩ = some (.slice (some ⟨g, 0, none⟩) l.length c) := cell_of_row _ _ 2 _ _ _ hp
  have hpl : p < w.heap.size := (Array.getElem?_eq_some_iff.1 hp).1
  have hgl := hr.lt
  by_cases h1 : b < 1
  · have HE : Hid (hdGet l b = ⟨0, 0, 0⟩) := Lib.hid (by unfold hdGet; rw [if_pos (.inl h1)])
    clear hp hr h
    go_enter Tryz.func129, Tryz.ntmps129
    go_wp2_with fail
    exact bodyPost_ret (v := .agg #[.int .i64 0, .int .i64 0, .int .i64 0]) (by simp [results, Tryz.results129, go_sem]) rfl ⟨by rw [HE.out]; rfl, below_alloc _ _⟩
  by_cases h2 : (l.length : Int) ≤ b
  · have HE : Hid (hdGet l b = ⟨0, 0, 0⟩) := Lib.hid (by unfold hdGet; rw [if_pos (.inr h2)])
    clear hp hr h
    go_enter Tryz.func129, Tryz.ntmps129
    go_wp2_with fail
    exact bodyPost_ret (v := .agg #[.int .i64 0, .int .i64 0, .int .i64 0]) (by simp [results, Tryz.results129, go_sem]) rfl ⟨by rw [HE.out]; rfl, below_alloc _ _⟩
  obtain ⟨j, rfl⟩ := Int.eq_ofNat_of_zero_le (show 0 ≤ b by omega)
  have hj : j < l.length := by omega
  have HE : Hid (hdGet l (j : Int) = l.getD j default) := Lib.hid (by unfold hdGet; rw [if_neg (by omega)]; rfl)
  have HA := hdCs_at l j hj
  generalize l.getD j default = hd at *
  obtain ⟨hk, hcl, hln⟩ := hd
  have d0 : w.cell? ⟨g, j * 3, none⟩ = some (.int .i64 hk) := hr.cell (HA 0 _ rfl)
  have d1 : w.cell? ⟨g, j * 3 + 1, none⟩ = some (.int .i64 hcl) := hr.cell (HA 1 _ rfl)
  have d2 : w.cell? ⟨g, j * 3 + 2, none⟩ = some (.int .i64 hln) := hr.cell (HA 2 _ rfl)
  clear hp hr h HA
  go_enter Tryz.func129, Tryz.ntmps129
  go_wp2_with fail
  exact bodyPost_ret (v := .agg #[.int .i64 hk, .int .i64 hcl, .int .i64 hln]) (by simp [results, Tryz.results129, go_sem]) rfl ⟨by rw [HE.out]; rfl, below_alloc _ _⟩

end Go.Proofs.YtfedgcdkagngnaaGreat

/- law07: Ref, Refs; ref10: Same. -/
namespace Go.Proofs.YtfedgcdkagngnaaGreat
open Go.RowKit
set_option linter.unusedVariables false

set_option maxHeartbeats 400000 in
theorem ref_any (h : Hd) (w : World) : Calls Tryz.prog 80 #[h.val] w fun e w' => e = .returned h.val ∧ Below w.heap.size w w' := by
  obtain ⟨k, c, l⟩ := h
  unfold Hd.val
  dsimp only
  have hb : Below w.heap.size w ((w.alloc (.cells #[.int .i64 k, .int .i64 c, .int .i64 l] 139)).alloc (.cells #[.int .i64 k, .int .i64 c, .int .i64 l] 109)) := (below_alloc _ _).alloc (by simp) _
  have HB := Lib.hid hb
  clear hb
  go_enter Tryz.func80, Tryz.ntmps80
  go_wp2_with fail
  exact bodyPost_ret (v := .agg #[.int .i64 k, .int .i64 c, .int .i64 l]) (by simp [results, Tryz.results80, go_sem]) rfl ⟨rfl, HB.out⟩
theorem hdGetD (l : List Hd) (j : Nat) : ∃ k c n, l.getD j default = ⟨k, c, n⟩ := ⟨_, _, _, rfl⟩

set_option maxHeartbeats 1000000 in
set_option maxRecDepth 20000 in
theorem refs_any (a : Option Addr) (n cap : Nat) (l : List Hd) (hn : l.length = n) (w : World) (hc : Cells w a (hdCs l)) (hl : n ≤ 1000) :
    Calls Tryz.prog 17 #[.slice a n cap] w fun e w' => ∃ v, e = .returned v ∧ w'.ownsRow w.heap.size 109 3 v n (hdCs l) ∧ Below w.heap.size w w' := by
  have HN := Lib.hid hn
  have HC := Lib.hid hc
  clear hn hc
  go_enter Tryz.func17, Tryz.ntmps17
  go_wp2_with fail
  go_loopw [3, 4] (fun v i wr => ∃ k : Nat, k ≤ n ∧ i = .int .i64 k ∧ wr.ownsRow w.heap.size 109 3 v k (hdCs (l.take k)) ∧ Below w.heap.size w wr) (fun _ i _ => n - (intOf i).toNat)
  case atStart => exact ⟨0, Nat.zero_le _, rfl, ⟨rfl, .inl ⟨rfl, rfl⟩⟩, Below.refl _ _⟩
  case round =>
    obtain ⟨k, hk, rfl, ho, hb⟩ := hrel
    obtain ⟨a1, c1, rfl, hc1, hm1⟩ := owned_form ho
    have HO := Lib.hid ho
    have HB := Lib.hid hb
    clear ho hb
    by_cases hlt : k < n
    · have hlt' : (k : Int) < (n : Int) := by omega
      have hkl : k < l.length := by rw [HN.out]; exact hlt
      have HA := hdCs_at l k hkl
      have HS : Hid (hdCs (l.take (k + 1)) = hdCs (l.take k) ++ (l.getD k default).cs) := Lib.hid (by
        rw [List.take_succ_eq_append_getElem hkl, hdCs_append]; simp [hdCs, hkl])
      generalize l.getD k default = hd at *
      obtain ⟨hk', hcl, hln⟩ := hd
      obtain ⟨b, off, rfl, hcs⟩ : ∃ b off, a = some ⟨b, off, none⟩ ∧ ∀ i v, (hdCs l)[i]? = some v → wr.cell? ⟨b, off + i, none⟩ = some v := by
        rcases HC.out.below HB.out (Nat.le_refl _) with h | ⟨b, off, rfl, h⟩
        · have := congrArg List.length h
          rw [hdCs_length] at this
          simp only [List.length_nil] at this
          omega
        · exact ⟨b, off, rfl, h⟩
      have d0 : wr.cell? ⟨b, off + k * 3, none⟩ = some (.int .i64 hk') := hcs _ _ (HA 0 _ rfl)
      have d1 : wr.cell? ⟨b, off + k * 3 + 1, none⟩ = some (.int .i64 hcl) := hcs _ _ (HA 1 _ rfl)
      have d2 : wr.cell? ⟨b, off + k * 3 + 2, none⟩ = some (.int .i64 hln) := hcs _ _ (HA 2 _ rfl)
      clear HA hcs
      go_wp2_with fail
      refine (ref_any ⟨hk', hcl, hln⟩ _).mono ?_
      rintro e w1 ⟨rfl, hb1⟩
      unfold Hd.val
      dsimp only
      have HB1 := Lib.hid (HB.out.trans (hb1.mono HB.out.size))
      have HO1 := Lib.hid (owned_below HO.out hb1 (Nat.le_refl _))
      have hone : Hid (∀ u ∈ (#[Value.int .i64 hk', Value.int .i64 hcl, Value.int .i64 hln] : Array Value).toList, u.oneCell' = true) := Lib.hid (by intro u hu; simp at hu; rcases hu with rfl | rfl | rfl <;> rfl)
      have hbase : Hid (w.heap.size ≤ w1.heap.size) := Lib.hid HB1.out.size
      have hk9 : k < 1000000000000 := by omega
      clear hb1 d0 d1 d2
      go_wp2_with (at_builtin; refine wpList_append_new (us := #[.int .i64 hk', .int .i64 hcl, .int .i64 hln]) elRh HO1.out rfl hone.out hk9 (by decide) hbase.out rfl rfl rfl (by simp [Act.eval]) ?_; intro g6 c6 w6 ho6 hg6 hc6 hm6 hb6 hl6; have HO6 := Lib.hid ho6; have HG6 := Lib.hid hg6; clear ho6 hg6)
      refine ⟨⟨k + 1, by omega, vint (by omega), ?_, below_grownBy HB1.out HO1.out HG6.out (Nat.le_refl _) (Nat.le_refl _)⟩, by simp [intOf]; omega⟩
      rw [HS.out]
      exact HO6.out
    · obtain rfl : k = n := by omega
      have hlt' : decide ((k : Int) < (k : Int)) = false := by simp
      go_wp2_with fail
      go_ret
      refine ⟨_, rfl, ?_, HB.out⟩
      have := HO.out
      rwa [List.take_of_length_le (by rw [HN.out]; exact Nat.le_refl _)] at this
theorem fsBh : (Tryz.prog.fieldsOf 139) = #[{ name := "Kind", type := 3, offset := 0, embedded := false, tag := "", pkgPath := "", byteOffset := 0 },
        { name := "Class", type := 3, offset := 1, embedded := false, tag := "", pkgPath := "", byteOffset := 8 },
        { name := "Len", type := 3, offset := 2, embedded := false, tag := "", pkgPath := "", byteOffset := 16 }] := by kernel_rfl
theorem usBh : Tryz.prog.underlying 139 = some (.struct (Tryz.prog.fieldsOf 139)) := by kernel_rfl
theorem ssBh : Tryz.prog.stoodInHeld 139 = false := by kernel_rfl
theorem gsBh : Tryz.prog.eqGuardType Tryz.prog.depth 139 = false := by kernel_rfl
theorem equalBh (w : World) (a b c a' b' c' : Int) (r : Bool) (hr : r = ((a == a') && (b == b') && (c == c'))) : (Op.equalIn 10000 139 (.agg #[.int .i64 a, .int .i64 b, .int .i64 c]) (.agg #[.int .i64 a', .int .i64 b', .int .i64 c'])).run Tryz.prog w = .ok r w := by
  rw [hr, show (10000 : Nat) = 9999 + 1 from rfl, run_equalIn_agg w 9999 139 _ _ usBh ssBh, fsBh]
  by_cases h1 : a = a' <;> by_cases h2 : b = b' <;> by_cases h3 : c = c' <;> simp [Op.eqFields, go_sem, h1, h2, h3, Tryz.underlying3, part]
theorem hd_beq (k c n k' c' n' : Int) : decide ((⟨k, c, n⟩ : Hd) = ⟨k', c', n'⟩) = ((k == k') && (c == c') && (n == n')) := by
  rw [Bool.eq_iff_iff]; simp [Hd.mk.injEq, and_assoc]

theorem hd_cells {w : World} {a : Option Addr} {l : List Hd} (h : Cells w a (hdCs l)) {j : Nat} (hj : j < l.length) {k c n : Int} (he : l.getD j default = ⟨k, c, n⟩) :
    ∃ b off, a = some ⟨b, off, none⟩ ∧ w.cell? ⟨b, off + j * 3, none⟩ = some (.int .i64 k) ∧ w.cell? ⟨b, off + j * 3 + 1, none⟩ = some (.int .i64 c) ∧ w.cell? ⟨b, off + j * 3 + 2, none⟩ = some (.int .i64 n) := by
  have HA := hdCs_at l j hj
  rw [he] at HA
  rcases h with h | ⟨b, off, rfl, h⟩
  · have := congrArg List.length h
    rw [hdCs_length] at this
    simp only [List.length_nil] at this
    omega
  · exact ⟨b, off, rfl, h _ _ (HA 0 _ rfl), h _ _ (HA 1 _ rfl), h _ _ (HA 2 _ rfl)⟩

end Go.Proofs.YtfedgcdkagngnaaGreat

/- Spans: their cells; law10.Spans at alike spans. -/
namespace Go.Proofs.YtfedgcdkagngnaaGreat
open Go.RowKit
set_option linter.unusedVariables false

/-- A span: its first block, how many. -/
abbrev Sp := Nat × Nat
def spCs (l : List Sp) : List Value := l.flatMap fun s => [.int .i64 s.1, .int .i64 s.2]
theorem spCs_length (l : List Sp) : (spCs l).length = 2 * l.length := by
  induction l with
  | nil => rfl
  | cons h l ih => simp only [spCs, List.flatMap_cons, List.length_append, List.length_cons] at *; rw [ih]; simp; omega
theorem spCs_append (l m : List Sp) : spCs (l ++ m) = spCs l ++ spCs m := by simp [spCs]
theorem spCs_last (l : List Sp) (s n : Nat) : (spCs (l ++ [(s, n)]))[l.length * 2]? = some (.int .i64 (s : Int)) ∧ (spCs (l ++ [(s, n)]))[l.length * 2 + 1]? = some (.int .i64 (n : Int)) := by
  have hl := spCs_length l
  rw [spCs_append]
  constructor
  · rw [List.getElem?_append_right (by omega), show l.length * 2 - (spCs l).length = 0 by omega]; rfl
  · rw [List.getElem?_append_right (by omega), show l.length * 2 + 1 - (spCs l).length = 1 by omega]; rfl
theorem spCs_bump (l : List Sp) (s n m : Nat) : (spCs (l ++ [(s, n)])).set (l.length * 2 + 1) (.int .i64 (m : Int)) = spCs (l ++ [(s, m)]) := by
  have hl := spCs_length l
  rw [spCs_append, spCs_append, List.set_append_right _ _ (by omega), show l.length * 2 + 1 - (spCs l).length = 1 by omega]
  rfl

def bump (l : List Sp) : List Sp := match l.getLast? with
  | none => l
  | some s => l.dropLast ++ [(s.1, s.2 + 1)]
theorem bump_last (l : List Sp) (s n : Nat) : bump (l ++ [(s, n)]) = l ++ [(s, n + 1)] := by simp [bump]
end Go.Proofs.YtfedgcdkagngnaaGreat

/- Spans of free blocks: the plain law. -/
namespace Go.Proofs.YtfedgcdkagngnaaGreat
open Go.RowKit
set_option linter.unusedVariables false

/-- Spans of free blocks below b. -/
def spanL (ks : Nat → Bool) : Nat → List Sp
  | 0 => []
  | b + 1 => if b = 0 ∨ ks b = false then spanL ks b else if 1 < b ∧ ks (b - 1) = true then bump (spanL ks b) else spanL ks b ++ [(b, 1)]
/-- The last span ends at b, or ahead of it. -/
theorem spanL_last (ks : Nat → Bool) (b : Nat) (hb : 1 ≤ b) : if 1 < b ∧ ks (b - 1) = true then ∃ l s n, spanL ks b = l ++ [(s, n)] ∧ s + n = b ∧ l.length < b else (spanL ks b = [] ∨ ∃ l s n, spanL ks b = l ++ [(s, n)] ∧ s + n < b ∧ l.length < b) := by
  induction b with
  | zero => omega
  | succ b ih =>
    by_cases h0 : b = 0
    · subst h0; rw [if_neg (by omega)]; left; rfl
    have ih := ih (by omega)
    rw [Nat.add_sub_cancel]
    by_cases hk : ks b = true
    · rw [if_pos ⟨by omega, hk⟩]
      by_cases hp : 1 < b ∧ ks (b - 1) = true
      · rw [if_pos hp] at ih
        obtain ⟨l, s, n, h1, h2, h3⟩ := ih
        refine ⟨l, s, n + 1, ?_, by omega, by omega⟩
        rw [spanL, if_neg (by simp [h0, hk]), if_pos hp, h1, bump_last]
      · rw [if_neg hp] at ih
        refine ⟨spanL ks b, b, 1, ?_, rfl, ?_⟩
        · rw [spanL, if_neg (by simp [h0, hk]), if_neg hp]
        · rcases ih with h | ⟨l, s, n, h1, h2, h3⟩
          · rw [h]; simp
          · rw [h1]; simp; omega
    · have hk' : ks b = false := by simpa using hk
      rw [if_neg (by simp [hk'])]
      have he : spanL ks (b + 1) = spanL ks b := by rw [spanL, if_pos (.inr hk')]
      rw [he]
      split at ih
      · obtain ⟨l, s, n, h1, h2, h3⟩ := ih
        exact .inr ⟨l, s, n, h1, by omega, by omega⟩
      · rcases ih with h | ⟨l, s, n, h1, h2, h3⟩
        · exact .inl h
        · exact .inr ⟨l, s, n, h1, by omega, by omega⟩
theorem spanL_len (ks : Nat → Bool) (b : Nat) : (spanL ks b).length ≤ b := by
  induction b with
  | zero => simp [spanL]
  | succ b ih =>
    unfold spanL
    split
    · omega
    · split
      · unfold bump
        split
        · omega
        · simp; omega
      · simp; omega

def freeAt (l : List Hd) (b : Nat) : Bool := (l.getD b default).k == 0
def spansOf (l : List Hd) : List Sp := spanL (freeAt l) l.length

end Go.Proofs.YtfedgcdkagngnaaGreat

/- Spans of free blocks: the walks. -/
namespace Go.Proofs.YtfedgcdkagngnaaGreat
open Go.RowKit
set_option linter.unusedVariables false

theorem elBs : Elem Tryz.prog 203 242 (.agg #[.int .i64 0, .int .i64 0]) 2 16 := Elem.mk' Tryz.underlying203 (by kernel_rfl) rfl (by decide)

def SpansPost (t : Nat) (l : List Sp) (w : World) : Ending → World → Prop := fun e w' => ∃ v, e = .returned v ∧ w'.ownsRow w.heap.size t 2 v l.length (spCs l) ∧ Below w.heap.size w w'

/-- What a round meets. -/
theorem span_round (ks : Nat → Bool) (b : Nat) (hb : 1 ≤ b) :
    (ks b = false ∧ spanL ks (b + 1) = spanL ks b) ∨
    (ks b = true ∧ 1 < b ∧ ks (b - 1) = true ∧ ∃ l s n, spanL ks b = l ++ [(s, n)] ∧ s + n = b ∧ spanL ks (b + 1) = l ++ [(s, n + 1)]) ∨
    (ks b = true ∧ ¬ (1 < b ∧ ks (b - 1) = true) ∧ spanL ks b = [] ∧ spanL ks (b + 1) = [(b, 1)]) ∨
    (ks b = true ∧ ¬ (1 < b ∧ ks (b - 1) = true) ∧ ∃ l s n, spanL ks b = l ++ [(s, n)] ∧ s + n < b ∧ spanL ks (b + 1) = l ++ [(s, n)] ++ [(b, 1)]) := by
  have h := spanL_last ks b hb
  by_cases hk : ks b = true
  · by_cases hp : 1 < b ∧ ks (b - 1) = true
    · rw [if_pos hp] at h
      obtain ⟨l, s, n, h1, h2, h3⟩ := h
      exact .inr (.inl ⟨hk, hp.1, hp.2, l, s, n, h1, h2, by rw [spanL, if_neg (by simp [hk]; omega), if_pos hp, h1, bump_last]⟩)
    · rw [if_neg hp] at h
      have e : spanL ks (b + 1) = spanL ks b ++ [(b, 1)] := by rw [spanL, if_neg (by simp [hk]; omega), if_neg hp]
      rcases h with h | ⟨l, s, n, h1, h2, h3⟩
      · exact .inr (.inr (.inl ⟨hk, hp, h, by rw [e, h]; rfl⟩))
      · exact .inr (.inr (.inr ⟨hk, hp, l, s, n, h1, h2, by rw [e, h1]⟩))
  · have hk' : ks b = false := by simpa using hk
    exact .inl ⟨hk', by rw [spanL, if_pos (.inr hk')]⟩

theorem hd_kind {w : World} {a : Option Addr} {l : List Hd} (h : Cells w a (hdCs l)) {j : Nat} (hj : j < l.length) :
    ∃ b off, a = some ⟨b, off, none⟩ ∧ ∃ k, freeAt l j = (k == 0) ∧ w.cell? ⟨b, off + j * 3, none⟩ = some (.int .i64 k) := by
  obtain ⟨k, c, n, he⟩ := hdGetD l j
  obtain ⟨b, off, rfl, h0, _, _⟩ := hd_cells h hj he
  exact ⟨b, off, rfl, k, by unfold freeAt; rw [he], h0⟩

set_option maxHeartbeats 2000000 in
set_option maxRecDepth 20000 in
theorem bspans_any (a : Option Addr) (n cap : Nat) (l : List Hd) (hn : l.length = n) (w : World) (hc : Cells w a (hdCs l)) (hl : n ≤ 1000) :
    Calls Tryz.prog 194 #[.slice a n cap] w (SpansPost 242 (spansOf l) w) := by
  have HN := Lib.hid hn
  have HC := Lib.hid hc
  generalize hP : SpansPost 242 (spansOf l) w = Post
  have HP := Lib.hid hP
  clear hn hc hP
  go_enter Tryz.func194, Tryz.ntmps194
  go_wp2_with fail
  go_loopw [3, 4] (fun v i wr => ∃ b : Nat, 1 ≤ b ∧ (b ≤ n ∨ b = 1) ∧ i = .int .i64 b ∧ wr.ownsRow w.heap.size 242 2 v (spanL (freeAt l) b).length (spCs (spanL (freeAt l) b)) ∧ Below w.heap.size w wr) (fun _ i _ => n - (intOf i).toNat)
  case atStart => exact ⟨1, Nat.le_refl _, .inr rfl, rfl, ⟨rfl, .inl ⟨rfl, rfl⟩⟩, Below.refl _ _⟩
  case round =>
    obtain ⟨b, hb1, hbn, rfl, ho, hb⟩ := hrel
    by_cases hlt : b < n
    · have hlt' : (b : Int) < (n : Int) := by omega
      have HB := Lib.hid hb
      obtain ⟨bl, off, rfl, kd, hfk, d0⟩ := hd_kind (HC.out.below hb (Nat.le_refl _)) (j := b) (by rw [HN.out]; exact hlt)
      have hr := span_round (freeAt l) b hb1
      rw [hfk] at hr
      have HLb := Lib.hid (spanL_len (freeAt l) b)
      clear hfk hbn hb
      rcases hr with ⟨hk, hs⟩ | ⟨hk, h1b, hk2, pl, s, m, hs1, hs2, hs3⟩ | ⟨hk, hp, hs1, hs3⟩ | ⟨hk, hp, pl, s, m, hs1, hs2, hs3⟩
      · have hk1 : (kd != 0) = true := by simpa using hk
        obtain ⟨a1, c1, rfl, hc1, hm1⟩ := owned_form ho
        have HO : Hid (wr.ownsRow w.heap.size 242 2 (.slice a1 (spanL (freeAt l) b).length c1) (spanL (freeAt l) (b + 1)).length (spCs (spanL (freeAt l) (b + 1)))) := Lib.hid (by rw [hs]; exact ho)
        clear ho hs hk HLb
        go_wp2_with fail
        exact ⟨⟨b + 1, by omega, by omega, vint (by omega), HO.out, HB.out⟩, by simp [intOf]; omega⟩
      · have hk1 : (kd != 0) = false := by simpa using hk
        rw [hs1] at ho
        obtain ⟨L, hL⟩ : ∃ L, L = pl.length := ⟨_, rfl⟩
        rw [show (pl ++ [(s, m)]).length = L + 1 by simp [hL]] at ho
        obtain ⟨g, c1, rfl, hc1, hm1, hg1, hg2⟩ := owned_some ho (by omega)
        have hr := owned_row ho
        have hla := spCs_last pl s m
        rw [← hL] at hla
        have e0 : wr.cell? ⟨g, L * 2, none⟩ = some (.int .i64 (s : Int)) := hr.cell hla.1
        have e1 : wr.cell? ⟨g, L * 2 + 1, none⟩ = some (.int .i64 (m : Int)) := hr.cell hla.2
        have f1 : wr.frozen? ⟨g, L * 2 + 1, none⟩ = false := hr.frozen _
        have hsm : ((s : Int) + (m : Int) == (b : Int)) = true := by simp; omega
        have HL := Lib.hid hL
        have HS3 := Lib.hid hs3
        have HO1 := Lib.hid ho
        have hsb : (s : Int) ≤ 1000 := by omega
        have hmb : (m : Int) ≤ 1000 := by omega
        have hLb : L < 1000 := by have := HLb.out; rw [hs1] at this; simp [← hL] at this; omega
        clear ho hs1 hs2 hs3 hL hla hr hk hk2 HLb
        have hw1 : IntKind.i64.wrap (L : Int) = L := IntWalk.i64_in _ (by omega)
        have hw2 : IntKind.i64.wrap ((s : Int) + (m : Int)) = s + m := IntWalk.i64_in _ (by omega)
        go_wp2_with fail
        go_quiet (fail)
        clear hw1 hw2
        have HO2 : Hid ((wr.drewN nq).ownsRow w.heap.size 242 2 (.slice (some ⟨g, 0, none⟩) (L + 1) c1) (L + 1) (spCs (pl ++ [(s, m)]))) := Lib.hid HO1.out
        go_wp2_with fail
        refine ⟨⟨b + 1, by omega, by omega, vint (by omega), ?_, ?_⟩, by simp [intOf]; omega⟩
        · rw [HS3.out, ← show ((m + 1 : Nat) : Int) = (m : Int) + 1 from rfl, ← spCs_bump pl s m (m + 1), show (pl ++ [(s, m + 1)] : List Sp).length = L + 1 by simp [HL.out], ← HL.out]
          exact (HO2.out.stored (L * 2 + 1) _).1
        · exact below_grownBy (below_drewN HB.out _) HO2.out (HO2.out.stored (L * 2 + 1) _).2 (Nat.le_refl _) (Nat.le_refl _)
      · have hk1 : (kd != 0) = false := by simpa using hk
        rw [hs1] at ho
        obtain ⟨a1, c1, rfl, hc1, hm1⟩ := owned_form ho
        have HO := Lib.hid ho
        have HS3 := Lib.hid hs3
        have hone : Hid (∀ u ∈ (#[Value.int .i64 (b : Int), Value.int .i64 1] : Array Value).toList, u.oneCell' = true) := Lib.hid (by intro u hu; simp at hu; rcases hu with rfl | rfl <;> rfl)
        clear ho hs1 hs3 hk hp HLb
        go_wp2_with fail
        go_quiet (fail)
        have HO1 : Hid ((wr.drewN nq).ownsRow w.heap.size 242 2 (.slice a1 0 c1) 0 []) := Lib.hid HO.out
        have hbase : Hid (w.heap.size ≤ (wr.drewN nq).heap.size) := Lib.hid HB.out.size
        go_wp2_with (at_builtin; refine wpList_append_new (us := #[.int .i64 (b : Int), .int .i64 1]) elBs HO1.out rfl hone.out (by omega) (by decide) hbase.out rfl rfl rfl (by simp [Act.eval]) ?_; intro g6 c6 w6 ho6 hg6 hc6 hm6 hb6 hl6; have HO6 := Lib.hid ho6; have HG6 := Lib.hid hg6; clear ho6 hg6)
        refine ⟨⟨b + 1, by omega, by omega, vint (by omega), ?_, below_grownBy (below_drewN HB.out _) HO1.out HG6.out (Nat.le_refl _) (Nat.le_refl _)⟩, by simp [intOf]; omega⟩
        rw [HS3.out]
        exact HO6.out
      · have hk1 : (kd != 0) = false := by simpa using hk
        rw [hs1] at ho
        obtain ⟨L, hL⟩ : ∃ L, L = pl.length := ⟨_, rfl⟩
        rw [show (pl ++ [(s, m)]).length = L + 1 by simp [hL]] at ho
        obtain ⟨g, c1, rfl, hc1, hm1, hg1, hg2⟩ := owned_some ho (by omega)
        have hr := owned_row ho
        have hla := spCs_last pl s m
        rw [← hL] at hla
        have e0 : wr.cell? ⟨g, L * 2, none⟩ = some (.int .i64 (s : Int)) := hr.cell hla.1
        have e1 : wr.cell? ⟨g, L * 2 + 1, none⟩ = some (.int .i64 (m : Int)) := hr.cell hla.2
        have hsm : ((s : Int) + (m : Int) == (b : Int)) = false := by simp; omega
        have HL := Lib.hid hL
        have HS3 := Lib.hid hs3
        have HO := Lib.hid ho
        have hsb : (s : Int) ≤ 1000 := by omega
        have hmb : (m : Int) ≤ 1000 := by omega
        have hone : Hid (∀ u ∈ (#[Value.int .i64 (b : Int), Value.int .i64 1] : Array Value).toList, u.oneCell' = true) := Lib.hid (by intro u hu; simp at hu; rcases hu with rfl | rfl <;> rfl)
        have hLb : L < 1000 := by have := HLb.out; rw [hs1] at this; simp [← hL] at this; omega
        have hL9 : L + 1 < 1000000000000 := by omega
        clear ho hs1 hs2 hs3 hL hla hr hk hp HLb
        have hw1 : IntKind.i64.wrap (L : Int) = L := IntWalk.i64_in _ (by omega)
        have hw2 : IntKind.i64.wrap ((s : Int) + (m : Int)) = s + m := IntWalk.i64_in _ (by omega)
        go_wp2_with fail
        go_quiet (fail)
        clear hw1 hw2
        have HO1 : Hid ((wr.drewN nq).ownsRow w.heap.size 242 2 (.slice (some ⟨g, 0, none⟩) (L + 1) c1) (L + 1) (spCs (pl ++ [(s, m)]))) := Lib.hid HO.out
        have hbase : Hid (w.heap.size ≤ (wr.drewN nq).heap.size) := Lib.hid HB.out.size
        go_wp2_with (at_builtin; refine wpList_append_new (us := #[.int .i64 (b : Int), .int .i64 1]) elBs HO1.out rfl hone.out hL9 (by decide) hbase.out rfl rfl rfl (by simp [Act.eval]) ?_; intro g6 c6 w6 ho6 hg6 hc6 hm6 hb6 hl6; have HO6 := Lib.hid ho6; have HG6 := Lib.hid hg6; clear ho6 hg6)
        refine ⟨⟨b + 1, by omega, by omega, vint (by omega), ?_, below_grownBy (below_drewN HB.out _) HO1.out HG6.out (Nat.le_refl _) (Nat.le_refl _)⟩, by simp [intOf]; omega⟩
        rw [HS3.out, spCs_append, show (pl ++ [(s, m)] ++ [(b, 1)] : List Sp).length = L + 1 + 1 by simp [HL.out]]
        exact HO6.out
    · have hlt' : decide (b < n) = false := by simp; omega
      have hlt2 : n ≤ b := by omega
      obtain ⟨a1, c1, rfl, hc1, hm1⟩ := owned_form ho
      have HE : Hid (spansOf l = spanL (freeAt l) b) := Lib.hid (by
        unfold spansOf; rw [HN.out]
        rcases hbn with h | h
        · rw [show n = b by omega]
        · by_cases h0 : n = 0
          · rw [h0, h]; rfl
          · rw [show n = b by omega])
      have HO := Lib.hid ho
      have HB := Lib.hid hb
      clear ho hb
      go_wp2_with fail
      rw [← HP.out]
      refine ⟨_, rfl, ?_, HB.out⟩
      rw [HE.out]
      exact HO.out

end Go.Proofs.YtfedgcdkagngnaaGreat
