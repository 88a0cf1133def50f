/- The law CompactBlocks: its walk. -/
import Derived.Test.YtgbgjlgofjbemaaV
import Derived.Deep.RegionHeld3
namespace Go.Proofs.Ytgbgjlgofjbemaa
open Go.RowKit

/-- All that a call of the law needs to know of a later world. -/
structure Has (w : World) (g : Nat) (ra an : Option Addr) (nr nn rc nc : Nat) (roots : List Int) (xs : List NodeV) (w' : World) : Prop where
  below : Below w.heap.size w w'
  c0 : w'.cell? ⟨g, 0, none⟩ = some (.slice ra nr rc)
  c1 : w'.cell? ⟨g, 1, none⟩ = some (.slice an nn nc)
  roots : Cells w' ra (roots.map (Value.int .i64))
  nodes : NodesAt w' an xs

section
variable {w : World} {g : Nat} {ra an : Option Addr} {nr nn rc nc : Nat} {roots : List Int} {xs : List NodeV}

theorem Has.next {w1 w2 : World} (h : Has w g ra an nr nn rc nc roots xs w1) (hb : Below w1.heap.size w1 w2) : Has w g ra an nr nn rc nc roots xs w2 :=
  ⟨h.below.trans (hb.mono h.below.size), by rw [hb.cell (World.block_lt_of_cell? _ _ h.c0)]; exact h.c0, by rw [hb.cell (World.block_lt_of_cell? _ _ h.c1)]; exact h.c1,
    h.roots.below hb (Nat.le_refl _), h.nodes.below hb (Nat.le_refl _)⟩

variable (hnr : roots.length = nr) (hnn : xs.length = nn) (h1 : nr ≤ maxLen) (h2 : nn ≤ maxLen)

/-- The document's graph, made behind w1, as it is in w'. -/
structure Made (ra an : Option Addr) (nr nn rc : Nat) (roots : List Int) (xs : List NodeV) (v : Value) (w' : World) : Prop where
  roots : Cells w' ra (roots.map (Value.int .i64))
  nodes : ∃ a c, v = .slice a nn c ∧ NodesAt w' a xs

theorem Made.next {v : Value} {w1 w2 : World} (h : Made ra an nr nn rc roots xs v w1) (hb : Below w1.heap.size w1 w2) : Made ra an nr nn rc roots xs v w2 :=
  ⟨h.roots.below hb (Nat.le_refl _), by obtain ⟨a, c, e, hn⟩ := h.nodes; exact ⟨a, c, e, hn.below hb (Nat.le_refl _)⟩⟩

include hnr hnn h1
theorem few_has (h2 : nn ≤ maxLen) {w1 : World} (h : Has w g ra an nr nn rc nc roots xs w1) : Calls Try.prog 14 #[.agg #[.slice ra nr rc, .slice an nn nc]] w1 fun e w' => e = .returned (.bool (fewB roots xs)) ∧ Has w g ra an nr nn rc nc roots xs w' :=
  (few_any ra an nr nn rc nc roots xs hnr hnn w1 h.nodes h1 h2).mono fun _ _ ⟨he, hb⟩ => ⟨he, h.next hb⟩

theorem blocks_has (h2 : nn ≤ 1000) {w1 : World} (h : Has w g ra an nr nn rc nc roots xs w1) : Calls Try.prog 15 #[.agg #[.slice ra nr rc, .slice an nn nc]] w1 fun e w' => e = .returned (.int .i64 (blocksR roots xs : Nat)) ∧ Below w1.heap.size w1 w' :=
  cblocks_any ra an nr nn rc nc roots xs hnr hnn w1 h.roots h.nodes h1 h2

omit hnr h1 in
theorem ref_has (h2 : nn ≤ 1000) {w1 : World} (h : Has w g ra an nr nn rc nc roots xs w1) : Calls Try.prog 17 #[.agg #[.slice ra nr rc, .slice an nn nc]] w1 fun e w' =>
    ∃ a c, e = .returned (.agg #[.slice ra nr rc, .slice a nn c]) ∧ NodesAt w' a xs ∧ Cells w' ra (roots.map (Value.int .i64)) ∧ Below w1.heap.size w1 w' := by
  refine (ref_any ra an nr nn rc nc xs hnn w1 h.nodes (by omega)).mono ?_
  rintro e w' ⟨v, rfl, ho, hb⟩
  obtain ⟨a, c, rfl, _, _⟩ := owned_form ho
  exact ⟨a, c, rfl, ⟨Cells.ownedN ho, fun x hx => (h.nodes.2 x hx).below hb (Nat.le_refl _)⟩, h.roots.below hb (Nat.le_refl _), hb⟩
end

set_option maxHeartbeats 4000000 in
set_option maxRecDepth 100000 in
theorem compactBlocks_any (ra an : Option Addr) (nr nn rc nc : Nat) (roots : List Int) (xs : List NodeV) (hnr : roots.length = nr) (hnn : xs.length = nn) (w : World)
    (hr : Cells w ra (roots.map (Value.int .i64))) (hx : NodesAt w an xs) (h1 : nr ≤ maxLen) (h2 : nn ≤ maxLen) :
    Calls Try.prog 5 #[.agg #[.slice ra nr rc, .slice an nn nc]] w fun e w' => e = .returned (.bool true) ∧ Below w.heap.size w w' := by
  have HNR := Lib.hid hnr
  have HNN := Lib.hid hnn
  clear hnr hnn
  go_enter Try.func5, Try.ntmps5
  go_wp2_with fail
  have hb0 := below_alloc w (Obj.cells #[Value.slice ra nr rc, Value.slice an nn nc] 35)
  have hg0 := heap_alloc_new w (Obj.cells #[Value.slice ra nr rc, Value.slice an nn nc] 35)
  generalize w.alloc (Obj.cells #[Value.slice ra nr rc, Value.slice an nn nc] 35) = w0 at *
  have H0 : Has w w.heap.size ra an nr nn rc nc roots xs w0 := ⟨hb0, cell_of_row _ _ 0 _ _ _ hg0, cell_of_row _ _ 1 _ _ _ hg0, hr.below hb0 (Nat.le_refl _), hx.below hb0 (Nat.le_refl _)⟩
  clear hb0 hg0 hr hx
  generalize w.heap.size = B at *
  refine (awake47_any w0).mono ?_
  rintro e w1 ⟨rfl, hb1⟩
  have H1 := H0.next hb1
  clear H0 hb1
  have c0 := H1.c0
  have c1 := H1.c1
  have f0 := fun x => later_cell c0 x
  have f1 := fun x => later_cell c1 x
  cases hf : fewB roots xs
  · have FW : Hid (∀ x : Later w1, Calls Try.prog 14 #[.agg #[.slice ra nr rc, .slice an nn nc]] x.val fun e w' => e = .returned (.bool false) ∧ Below x.val.heap.size x.val w') := by
      apply Lib.hid
      intro x
      have := few_any ra an nr nn rc nc roots xs HNR.out HNN.out x.val (H1.next x.below).nodes h1 h2
      rw [hf] at this
      exact this
    clear hf
    go_wp2_with fail
    refine wp_region_later (by kernel_rfl) (by kernel_rfl) ?_
    repeat (quiet_step ((rename_i x; exact calls_later (FW.out x))))
    refine wpQuiet_nil ?_
    rintro w5 ⟨x, hx5⟩
    have hb5 := (H1.next x.below).below
    rw [← hx5] at hb5
    clear hx5
    go_wp2_with fail
    go_ret
    exact ⟨rfl, hb5⟩
  · have h60 : nn ≤ 60 := by
      rw [← HNN.out]
      simp [fewB] at hf
      exact hf.1.2
    have FW : Hid (∀ w2, Has w B ra an nr nn rc nc roots xs w2 → Calls Try.prog 14 #[.agg #[.slice ra nr rc, .slice an nn nc]] w2 fun e w' => e = .returned (.bool true) ∧ Has w B ra an nr nn rc nc roots xs w') := by
      apply Lib.hid
      intro w2 h
      have := few_has HNR.out HNN.out h1 h2 h
      rw [hf] at this
      exact this
    clear hf f0 f1
    have H1d : Has w B ra an nr nn rc nc roots xs w1.drew := H1.next (Below.refl _ _).drew
    go_wp2_with fail
    go_region_held3 (fun w' => w'.cell? ⟨B, 0, none⟩ = some (.slice ra nr rc) ∧ w'.cell? ⟨B, 1, none⟩ = some (.slice an nn nc))
      (first | exact ⟨H1d.c0, H1d.c1⟩ | exact ⟨h5.c0, h5.c1⟩ | exact ⟨h6.c0, h6.c1⟩ | exact ⟨h7.c0, h7.c1⟩ | exact ⟨h8.c0, h8.c1⟩ | exact ⟨h9.c0, h9.c1⟩)
      (first
        | (go_at_call 14; refine (FW.out _ H1d).mono ?_; rintro e w5 ⟨rfl, h5⟩)
        | (go_at_call 15; refine (blocks_has HNR.out HNN.out h1 (by omega) (by assumption)).mono ?_; rintro e w6 ⟨rfl, hb6⟩; have h6 := Has.next (by assumption) hb6; try (have n6 := NodesAt.below n7 hb6 (Nat.le_refl _)); try (have r6 := Cells.below r7 hb6 (Nat.le_refl _)))
        | (go_at_call 17; refine (ref_has HNN.out (by omega) (by assumption)).mono ?_; rintro e w7 ⟨a7, c7, rfl, n7, r7, hb7⟩; have h7 := Has.next (by assumption) hb7)
        | (go_at_call 16; refine (rblocks_any ra _ nr nn rc _ roots xs HNR.out HNN.out _ (by first | exact r6 | exact r7) (by first | exact n6 | exact n7) h1 (by omega)).mono ?_; rintro e w8 ⟨rfl, hb8⟩; have h8 := Has.next (by assumption) hb8))
    all_goals
      go_wp2_with fail
      go_ret
      exact ⟨rfl, h8.below⟩

end Go.Proofs.Ytgbgjlgofjbemaa
