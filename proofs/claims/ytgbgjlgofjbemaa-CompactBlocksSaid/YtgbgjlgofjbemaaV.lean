/- The law CompactBlocks: its example, its walk. -/
import Derived.Test.YtgbgjlgofjbemaaU
import Derived.Test.YtgbgjlgofjbemaaQ
namespace Go.Proofs.Ytgbgjlgofjbemaa
open Go.RowKit

theorem el_gnode : Elem Try.prog 33 50 (.agg #[.slice none 0 0, .slice none 0 0]) 2 48 := Elem.mk' Try.underlying33 (by kernel_rfl) rfl (by decide)

/-- A node of the example. -/
def One (w : World) (x : NodeV) : Prop := ∃ d, x = ⟨none, 0, [], some ⟨d, 0, none⟩, 1, [7]⟩ ∧ w.heap[d]? = some (.cells #[vu64 7] 43 (0, 0))

theorem Cells.ownedN {w : World} {base e n size cap : Nat} {a : Option Addr} {xs : List Value} (h : w.ownsRow base e size (.slice a n cap) n xs) : Cells w a xs := by
  rcases h.2 with ⟨_, h0⟩ | ⟨g, cap', cur, hv, _⟩
  · exact .inl (List.eq_nil_of_length_eq_zero (by have := h.1; rw [h0] at this; simpa using this))
  · refine .inr ⟨g, 0, by simp at hv; exact hv.1, fun i v hi => ?_⟩
    simp at hv
    obtain ⟨rfl, _⟩ := hv
    have := h.cells (g := g) rfl i v hi
    have ha : (⟨g, 0, none⟩ : Addr).add i = ⟨g, 0 + i, none⟩ := by unfold Addr.add; split <;> simp_all
    rwa [ha] at this

/-- A row of other elements is another block. -/
theorem other_row {w : World} {base e n size d t : Nat} {v : Value} {xs : List Value} {cs : Array Value} {fr : Nat × Nat} (ho : w.ownsRow base e size v n xs) (h : w.heap[d]? = some (.cells cs t fr)) (hne : t ≠ e) : some d ≠ v.ownBlock := by
  intro c
  rcases ho.2 with ⟨rfl, _⟩ | ⟨g, cap, cur, rfl, _, hg, _⟩
  · simp [Value.ownBlock] at c
  · simp [Value.ownBlock] at c
    subst c
    rw [h] at hg
    simp at hg
    exact hne hg.2.1

theorem One.ok {w : World} {x : NodeV} (h : One w x) : x.ok w := by
  obtain ⟨d, rfl, hd⟩ := h
  refine ⟨Cells.nil _ _, .inr ⟨d, 0, rfl, fun i v hi => ?_⟩, by unfold maxLen; simp, by unfold maxLen; simp⟩
  rw [Nat.zero_add, cell_of_row _ _ _ _ _ _ hd]
  simpa using hi

theorem One.size {w : World} {x : NodeV} (h : One w x) : xsize x = 2 ∧ nodeB 257 x = true := by
  obtain ⟨d, rfl, _⟩ := h
  exact ⟨rfl, rfl⟩

theorem two_class : rofN ((2 : Nat) : Int) = 0 := by decide

theorem ex_blocks (w : World) (xs : List NodeV) (hl : xs.length = 257) (h : ∀ x ∈ xs, One w x) : blocksR [] xs = 3 := by
  have hr : rightB [] xs = true := by
    unfold rightB
    rw [hl]
    simp only [List.all_nil, Bool.true_and, List.all_eq_true]
    exact fun x hx => (h x hx).size.2
  have hc : ∀ k, cntK xs k = if k = 0 then 257 else 0 := by
    intro k
    unfold cntK
    split
    · rename_i e
      subst e
      rw [List.countP_eq_length.2, hl]
      intro x hx
      rw [(h x hx).size.1, two_class]; rfl
    · rename_i e
      rw [List.countP_eq_zero]
      intro x hx
      rw [(h x hx).size.1, two_class]
      simp
      omega
  have hs : sumBlk xs = 0 := by
    unfold sumBlk
    have : xs.map (fun x => objBlocks (xsize x)) = xs.map (fun _ => 0) := List.map_congr_left fun x hx => by rw [(h x hx).size.1]; decide
    rw [this]
    clear this hl h hr hc
    induction xs with
    | nil => rfl
    | cons a l ih => simpa using ih
  unfold blocksR
  rw [if_pos hr]
  unfold blkN sumCls
  rw [hs]
  simp only [hc]
  decide

set_option maxHeartbeats 1000000 in
set_option maxRecDepth 100000 in
theorem awake47_any (w : World) : Calls Try.prog 13 #[] w fun e w' => e = .returned (.bool true) ∧ Below w.heap.size w w' := by
  go_enter Try.func13, Try.ntmps13
  go_wp2_with fail
  have hb0 := below_alloc w (Obj.cells #[Value.slice none 0 0, Value.slice none 0 0] 35)
  have hg0 := heap_alloc_new w (Obj.cells #[Value.slice none 0 0, Value.slice none 0 0] 35)
  generalize w.alloc (Obj.cells #[Value.slice none 0 0, Value.slice none 0 0] 35) = w0 at *
  go_loopw [2] (fun i wr => ∃ (k : Nat) (v : Value) (xs : List NodeV), k ≤ 257 ∧ i = .int .i64 k ∧ xs.length = k ∧ wr.heap[w.heap.size]? = some (.cells #[Value.slice none 0 0, v] 35 (0, 0)) ∧
      wr.ownsRow (w.heap.size + 1) 50 2 v k (xs.flatMap NodeV.cells) ∧ Hid (∀ x ∈ xs, One wr x) ∧ Below w.heap.size w wr) (fun i _ => 257 - (intOf i).toNat)
  case atStart => exact ⟨0, _, [], by omega, rfl, rfl, hg0, World.ownsRow_nil _ _ _ _, Lib.hid (by simp), hb0⟩
  case round =>
    clear hg0 hb0
    obtain ⟨k, v, xs, hk, rfl, hl, hg, ho, hone, hbw⟩ := hrel
    have HL := Lib.hid hl
    clear hl
    obtain ⟨a', c', hv, hc', hm'⟩ := owned_form ho
    subst hv
    have q0 : wr.cell? ⟨w.heap.size, 0, none⟩ = some (.slice none 0 0) := cell_of_row _ _ 0 _ _ _ hg
    have q1 : wr.cell? ⟨w.heap.size, 1, none⟩ = some (.slice a' k c') := cell_of_row _ _ 1 _ _ _ hg
    have hgs : w.heap.size < wr.heap.size := (Array.getElem?_eq_some_iff.1 hg).1
    by_cases hlt : k < 257
    · have ho1 := ho.alloc (Obj.cells #[Value.int .u64 7] 43)
      have hbw1 := hbw.alloc hbw.size (Obj.cells #[Value.int .u64 7] 43)
      have hg1 : (wr.alloc (Obj.cells #[Value.int .u64 7] 43)).heap[w.heap.size]? = some (.cells #[Value.slice none 0 0, .slice a' k c'] 35 (0, 0)) := by rw [Below.heap_alloc _ _ _ hgs]; exact hg
      have hd1 := heap_alloc_new wr (Obj.cells #[Value.int .u64 7] 43)
      have hone1 : Hid (∀ x ∈ xs, One (wr.alloc (Obj.cells #[Value.int .u64 7] 43)) x) := by
        apply Lib.hid
        intro x hx
        obtain ⟨d, e, hd⟩ := hone.out x hx
        exact ⟨d, e, by rw [Below.heap_alloc _ _ _ (Array.getElem?_eq_some_iff.1 hd).1]; exact hd⟩
      have HC : Hid (∀ (w2 : World), (wr.alloc (Obj.cells #[Value.int .u64 7] 43)).grownBy w2 (Value.slice a' k c').ownBlock → w2.cell? ⟨w.heap.size, 1, none⟩ = some (.slice a' k c') ∧ w2.frozen? ⟨w.heap.size, 1, none⟩ = false) := by
        apply Lib.hid
        intro w2 hgr
        have h := grown_heap hgr ho1 (by omega) hg1
        exact ⟨cell_of_row _ _ 1 _ _ _ h, frozen_of_row _ _ 1 _ _ h⟩
      go_wp2_with (at_builtin; refine wpList_append_new el_gnode ho1 rfl (by simp [Value.oneCell']) (by omega) (by decide) (by simp; omega) rfl rfl rfl (by simp [Act.eval]) ?_; intro g2 c2 w2 ho2 hgr hc2 hm2 hbg hgl; obtain ⟨hcc, hff⟩ := HC.out w2 hgr)
      have hh := grown_heap hgr ho1 (by omega) hg1
      have hb2 := below_grownBy hbw1 ho1 hgr (Nat.le_refl _) (by omega)
      have keep : ∀ d : Nat, (wr.alloc (Obj.cells #[Value.int .u64 7] 43)).heap[d]? = some (Obj.cells #[vu64 7] 43 (0, 0)) →
          (w2.setCell ⟨w.heap.size, 1, none⟩ (Value.slice (some ⟨g2, 0, none⟩) (k + 1) c2)).heap[d]? = some (Obj.cells #[vu64 7] 43 (0, 0)) := by
        intro d hd
        have hdw : d ≠ w.heap.size := by intro e; rw [e, hg1] at hd; simp at hd
        rw [heap_setCell_other _ _ _ _ hdw, hgr.block d (Array.getElem?_eq_some_iff.1 hd).1 (other_row ho1 hd (by decide))]
        exact hd
      refine ⟨⟨k + 1, _, xs ++ [⟨none, 0, [], some ⟨wr.heap.size, 0, none⟩, 1, [7]⟩], by omega, vint (by omega), by rw [List.length_append, HL.out]; rfl, heap_setCell_same w2 _ 1 _ _ _ hh, ?_, Lib.hid ?_, hb2.setCell (by simp) _⟩, by simp [intOf]; omega⟩
      · rw [List.flatMap_append]
        exact ownsRow_setCell_below ho2 (by simp) _
      · intro x hx
        rw [List.mem_append, List.mem_singleton] at hx
        rcases hx with hx | rfl
        · obtain ⟨d, e, hd⟩ := hone1.out x hx
          exact ⟨d, e, keep d hd⟩
        · exact ⟨_, rfl, keep _ hd1⟩
    · have HK : Hid (k = 257) := Lib.hid (by omega)
      have hn : NodesAt wr a' xs := ⟨Cells.ownedN ho, fun x hx => (hone.out x hx).ok⟩
      have HE := Lib.hid (ex_blocks wr xs (by rw [HL.out]; exact HK.out) hone.out)
      go_wp2_with fail
      refine (cblocks_any none a' 0 k 0 c' [] xs rfl HL.out wr (Cells.nil _ _) hn (by unfold maxLen; omega) (by omega)).mono ?_
      rintro e w3 ⟨rfl, hb3⟩
      rw [HE.out]
      go_wp2_with fail
      go_ret
      exact ⟨rfl, hbw.trans (hb3.mono (Nat.le_of_lt hgs))⟩

end Go.Proofs.Ytgbgjlgofjbemaa
