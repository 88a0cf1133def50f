/- Few, and a graph as the document's. -/
import Derived.Test.YtgbgjlgofjbemaaP
import Derived.Deep.AppendLies
import Derived.Test.YtgbgjlgofjbemaaReg
namespace Go.Proofs.Ytgbgjlgofjbemaa
open Go.RowKit

def fewN (x : NodeV) : Bool := decide (x.ptrs.length ≤ 70) && decide (x.datas.length ≤ 200)
def fewB (roots : List Int) (xs : List NodeV) : Bool := decide (roots.length ≤ 40) && decide (xs.length ≤ 60) && xs.all fewN

set_option maxHeartbeats 1000000 in
theorem few_any (ra an : Option Addr) (nr nn rc nc : Nat) (roots : List Int) (xs : List NodeV) (hnr : roots.length = nr) (hnn : xs.length = nn) (w : World)
    (hx : NodesAt w an xs) (h1 : nr ≤ maxLen) (h2 : nn ≤ maxLen) :
    Calls Try.prog 14 #[.agg #[.slice ra nr rc, .slice an nn nc]] w fun e w' => e = .returned (.bool (fewB roots xs)) ∧ Below w.heap.size w w' := by
  subst hnr
  subst hnn
  unfold maxLen at h1 h2
  have HB := Lib.hid (below_alloc w)
  by_cases g1 : 40 < roots.length
  · have HF : Hid (fewB roots xs = false) := Lib.hid (by unfold fewB; rw [decide_eq_false (by omega : ¬ roots.length ≤ 40)]; simp)
    go_enter Try.func14, Try.ntmps14
    go_wp2_with fail
    go_ret
    exact ⟨ret_bool HF.out.symm, HB.out _⟩
  by_cases g2 : 60 < xs.length
  · have HF : Hid (fewB roots xs = false) := Lib.hid (by unfold fewB; rw [decide_eq_false (by omega : ¬ xs.length ≤ 60)]; simp)
    go_enter Try.func14, Try.ntmps14
    go_wp2_with fail
    go_ret
    exact ⟨ret_bool HF.out.symm, HB.out _⟩
  have HF : Hid (fewB roots xs = xs.all fewN) := Lib.hid (by unfold fewB; rw [decide_eq_true (by omega : roots.length ≤ 40), decide_eq_true (by omega : xs.length ≤ 60)]; simp)
  go_enter Try.func14, Try.ntmps14
  go_wp2_with fail
  have hb0 := below_alloc w (Obj.cells #[Value.slice ra roots.length rc, Value.slice an xs.length nc] 35)
  have hc1 := cell_alloc_new w #[Value.slice ra roots.length rc, Value.slice an xs.length nc] 35 1 (.slice an xs.length nc) rfl
  generalize w.alloc (Obj.cells #[Value.slice ra roots.length rc, Value.slice an xs.length nc] 35) = w0 at *
  have hx0 := hx.below hb0 (Nat.le_refl _)
  clear hx HB
  go_loop [3] (fun i => ∃ k : Nat, k ≤ xs.length ∧ i = .int .i64 k ∧ Hid ((xs.take k).all fewN = true)) (fun i => xs.length - (intOf i).toNat)
  case atStart => exact ⟨0, by omega, rfl, Lib.hid (by simp)⟩
  case round =>
    obtain ⟨j, hj, rfl, hal⟩ := hrel
    by_cases hlt : j < xs.length
    · obtain ⟨b, off, rfl, hbs, hcs⟩ := hx0.at hlt
      have hok := hx0.2 _ (getD_mem hlt)
      have HT := Lib.hid (all_take_succ fewN xs default j hlt hal.out)
      have HN := Lib.hid (all_false fewN xs default j hlt)
      obtain ⟨hca, hcb⟩ := hcs j hlt
      clear hcs hal
      rcases hxv : xs.getD j default with ⟨pa, pc, ptrs, da, dc, datas⟩
      rw [hxv] at hca hcb hok HT HN
      dsimp only at hca hcb
      obtain ⟨_, _, hpl, hdl⟩ := hok
      dsimp only at hpl hdl
      unfold maxLen at hpl hdl
      clear hxv
      by_cases g3 : 70 < ptrs.length
      · have HR : Hid (fewB roots xs = false) := Lib.hid (by rw [HF.out]; exact HN.out (by simp [fewN]; omega))
        go_wp2_with fail
        go_ret
        exact ⟨ret_bool HR.out.symm, hb0⟩
      by_cases g4 : 200 < datas.length
      · have HR : Hid (fewB roots xs = false) := Lib.hid (by rw [HF.out]; exact HN.out (by simp [fewN]; omega))
        go_wp2_with fail
        go_ret
        exact ⟨ret_bool HR.out.symm, hb0⟩
      have HI := Lib.hid (HT.out (by simp [fewN]; omega))
      go_wp2_with fail
      exact ⟨⟨j + 1, by omega, vint (by omega), HI⟩, by simp [intOf]; omega⟩
    · have HR : Hid (fewB roots xs = true) := by
        have := hal.out
        rw [List.take_of_length_le (by omega)] at this
        exact Lib.hid (HF.out.trans this)
      go_wp2_with fail
      go_ret
      exact ⟨ret_bool HR.out.symm, hb0⟩

theorem el_node : Elem Try.prog 39 60 (.agg #[.slice none 0 0, .slice none 0 0]) 2 48 := Elem.mk' Try.underlying39 (by kernel_rfl) rfl (by decide)

set_option maxHeartbeats 1000000 in
set_option maxRecDepth 100000 in
theorem ref_any (ra an : Option Addr) (nr nn rc nc : Nat) (xs : List NodeV) (hnn : xs.length = nn) (w : World) (hx : NodesAt w an xs) (h2 : xs.length ≤ 1000) :
    Calls Try.prog 17 #[.agg #[.slice ra nr rc, .slice an nn nc]] w fun e w' => ∃ v, e = .returned (.agg #[.slice ra nr rc, v]) ∧
      w'.ownsRow w.heap.size 60 2 v nn (xs.flatMap NodeV.cells) ∧ Below w.heap.size w w' := by
  subst hnn
  go_enter Try.func17, Try.ntmps17
  go_wp2_with fail
  generalize hW0 : (((w.alloc (Obj.cells #[Value.slice ra nr rc, Value.slice an xs.length nc] 35)).alloc (Obj.cells #[Value.slice none 0 0, Value.slice none 0 0] 41)).alloc (Obj.cells #[Value.slice ra nr rc, Value.slice none 0 0] 41)) = w0
  have hs0 : w0.heap.size = w.heap.size + 3 := by rw [← hW0]; simp
  have hb0 : Below w.heap.size w w0 := by rw [← hW0]; exact (((Below.refl _ _).alloc (Nat.le_refl _) _).alloc (by simp) _).alloc (by simp; omega) _
  have hg0 : w0.heap[w.heap.size]? = some (.cells #[Value.slice ra nr rc, Value.slice an xs.length nc] 35 (0, 0)) := by
    rw [← hW0, Below.heap_alloc _ _ _ (by simp; omega), Below.heap_alloc _ _ _ (by simp)]; exact heap_alloc_new w _
  have hg1 : w0.heap[w.heap.size + 1]? = some (.cells #[Value.slice none 0 0, Value.slice none 0 0] 41 (0, 0)) := by
    rw [← hW0, Below.heap_alloc _ _ _ (by simp)]; exact heap_alloc2_new w _ _
  have hg2 : w0.heap[w.heap.size + 2]? = some (.cells #[Value.slice ra nr rc, Value.slice none 0 0] 41 (0, 0)) := by
    rw [← hW0]; simpa using heap_alloc_new ((w.alloc (Obj.cells #[Value.slice ra nr rc, Value.slice an xs.length nc] 35)).alloc (Obj.cells #[Value.slice none 0 0, Value.slice none 0 0] 41)) _
  clear hW0
  go_loopw [4] (fun i wr => ∃ (k : Nat) (v : Value), k ≤ xs.length ∧ i = .int .i64 k ∧ wr.heap[w.heap.size]? = some (.cells #[Value.slice ra nr rc, Value.slice an xs.length nc] 35 (0, 0)) ∧
      wr.heap[w.heap.size + 1]? = some (.cells #[Value.slice none 0 0, Value.slice none 0 0] 41 (0, 0)) ∧ wr.heap[w.heap.size + 2]? = some (.cells #[Value.slice ra nr rc, v] 41 (0, 0)) ∧
      wr.ownsRow (w.heap.size + 3) 60 2 v k ((xs.take k).flatMap NodeV.cells) ∧ Below w.heap.size w wr ∧ w.heap.size + 3 ≤ wr.heap.size) (fun i _ => xs.length - (intOf i).toNat)
  case atStart => exact ⟨0, _, by omega, rfl, hg0, hg1, hg2, World.ownsRow_nil _ _ _ _, hb0, by omega⟩
  case round =>
    clear hg0 hg1 hg2 hs0 hb0
    obtain ⟨j, v, hj, rfl, hg0, hg1, hg2, ho, hbw, hsz⟩ := hrel
    have hxr := hx.below hbw (Nat.le_refl _)
    have c01 : wr.cell? ⟨w.heap.size, 1, none⟩ = some (.slice an xs.length nc) := cell_of_row _ _ 1 _ _ _ hg0
    have c20 : wr.cell? ⟨w.heap.size + 2, 0, none⟩ = some (.slice ra nr rc) := cell_of_row _ _ 0 _ _ _ hg2
    have c21 : wr.cell? ⟨w.heap.size + 2, 1, none⟩ = some v := cell_of_row _ _ 1 _ _ _ hg2
    by_cases hlt : j < xs.length
    · obtain ⟨b, off, rfl, hbs, hcs⟩ := hxr.at hlt
      obtain ⟨hca, hcb⟩ := hcs j hlt
      clear hcs
      have k0 : (0 : Int) ≤ (j : Int) := by omega
      have k1 : (j : Int) < (xs.length : Int) := by omega
      rcases hxv : xs.getD j default with ⟨pa, pc, ptrs, da, dc, datas⟩
      rw [hxv] at hca hcb
      dsimp only at hca hcb
      obtain ⟨a', c', hv, hc', hm'⟩ := owned_form ho
      have c21' : wr.cell? ⟨w.heap.size + 2, 1, none⟩ = some (.slice a' j c') := by rw [← hv]; exact c21
      clear c21
      have f1 := fun x => later_cell c01 x
      have f2 := fun x => later_cell c20 x
      have f3 := fun x => later_cell c21' x
      have f4 := fun x => later_cell hca x
      have f5 := fun x => later_cell hcb x
      go_wp2_with fail
      refine wp_region_float 15 (by kernel_rfl) (by kernel_rfl) (by intro c a d v w h; cases d <;> exact h) ?_
      simp only [List.take_succ_cons, List.take_zero, List.drop_succ_cons, List.drop_zero]
      repeat (quiet_step (fail))
      refine wpQuiet_nil ?_
      have HS : Hid ((xs.take (j + 1)).flatMap NodeV.cells = (xs.take j).flatMap NodeV.cells ++ [Value.slice pa ptrs.length pc, Value.slice da datas.length dc]) := by
        apply Lib.hid
        have e : xs[j] = ⟨pa, pc, ptrs, da, dc, datas⟩ := by rw [← hxv]; simp [hlt]
        rw [List.take_succ_eq_append_getElem hlt, List.flatMap_append, e]
        simp [NodeV.cells]
      subst hv
      obtain ⟨wd, hwd⟩ : ∃ wd, wd = wr.drew := ⟨_, rfl⟩
      rw [← hwd]
      have ho1 : wd.ownsRow (w.heap.size + 3) 60 2 (.slice a' j c') j ((xs.take j).flatMap NodeV.cells) := by rw [hwd]; exact ho
      have hg0' : wd.heap[w.heap.size]? = some (.cells #[Value.slice ra nr rc, Value.slice (some ⟨b, off, none⟩) xs.length nc] 35 (0, 0)) := by rw [hwd]; exact hg0
      have hg1' : wd.heap[w.heap.size + 1]? = some (.cells #[Value.slice none 0 0, Value.slice none 0 0] 41 (0, 0)) := by rw [hwd]; exact hg1
      have hg2' : wd.heap[w.heap.size + 2]? = some (.cells #[Value.slice ra nr rc, .slice a' j c'] 41 (0, 0)) := by rw [hwd]; exact hg2
      have hbw' : Below w.heap.size w wd := by rw [hwd]; exact hbw.drew
      have hsz' : w.heap.size + 3 ≤ wd.heap.size := by rw [hwd]; exact hsz
      clear hwd f1 f2 f3 f4 f5 hg0 hg1 hg2 hbw hxr ho c01 c20 c21' hca hcb hsz hbs
      have HC : Hid (∀ (w2 : World), wd.grownBy w2 (Value.slice a' j c').ownBlock → w2.cell? ⟨w.heap.size + 2, 1, none⟩ = some (.slice a' j c') ∧ w2.frozen? ⟨w.heap.size + 2, 1, none⟩ = false) := by
        apply Lib.hid
        intro w2 hgr
        have h := grown_heap hgr ho1 (by omega) hg2'
        exact ⟨cell_of_row _ _ 1 _ _ _ h, frozen_of_row _ _ 1 _ _ h⟩
      go_wp2_with (at_builtin; refine wpList_append_new el_node ho1 rfl (by simp [Value.oneCell']) (by omega) (by decide) (by omega) rfl rfl rfl rfl ?_; intro g2 c2 w2 ho2 hgr hc2 hm2 hbg hgl; obtain ⟨hcc, hff⟩ := HC.out w2 hgr)
      have hh0 := grown_heap hgr ho1 (by omega) hg0'
      have hh1 := grown_heap hgr ho1 (by omega) hg1'
      have hh2 := grown_heap hgr ho1 (by omega) hg2'
      have hb2 := below_grownBy hbw' ho1 hgr (Nat.le_refl _) (by omega)
      refine ⟨⟨j + 1, _, by omega, vint (by omega), ?_, ?_, heap_setCell_same w2 _ 1 _ _ _ hh2, ?_, hb2.setCell (by simp; omega) _, ?_⟩, by simp [intOf]; omega⟩
      · rw [heap_setCell_other _ _ _ _ (by simp; omega)]; exact hh0
      · rw [heap_setCell_other _ _ _ _ (by simp)]; exact hh1
      · rw [HS.out]
        exact ownsRow_setCell_below ho2 (by simp) _
      · simp only [World.setCell, Array.size_modify]
        have := hgr.size
        omega
    · obtain rfl : j = xs.length := by omega
      rw [List.take_length] at ho
      obtain ⟨a', c', rfl, hc', hm'⟩ := owned_form ho
      clear hxr
      have c10 : wr.cell? ⟨w.heap.size + 1, 0, none⟩ = some (.slice none 0 0) := cell_of_row _ _ 0 _ _ _ hg1
      have c11 : wr.cell? ⟨w.heap.size + 1, 1, none⟩ = some (.slice none 0 0) := cell_of_row _ _ 1 _ _ _ hg1
      have z10 : wr.frozen? ⟨w.heap.size + 1, 0, none⟩ = false := frozen_of_row _ _ 0 _ _ hg1
      have z11 : wr.frozen? ⟨w.heap.size + 1, 1, none⟩ = false := frozen_of_row _ _ 1 _ _ hg1
      go_wp2_with fail
      have q1 := heap_setCell_same wr (w.heap.size + 1) 0 _ _ (Value.slice ra nr rc) hg1
      have q2 := heap_setCell_same _ (w.heap.size + 1) 1 _ _ (Value.slice a' xs.length c') q1
      refine bodyPost_ret (v := .agg #[.slice ra nr rc, .slice a' xs.length c']) (results_cell_row rfl _ _ _ _ _ _ _ rfl q2 Try.underlying41 rfl (by kernel_rfl)) rfl ⟨_, rfl, ?_, ?_⟩
      · exact (ownsRow_setCell_below (ownsRow_setCell_below ho (by simp) _) (by simp) _).mono (by omega)
      · exact (hbw.setCell (by simp) _).setCell (by simp) _

end Go.Proofs.Ytgbgjlgofjbemaa
