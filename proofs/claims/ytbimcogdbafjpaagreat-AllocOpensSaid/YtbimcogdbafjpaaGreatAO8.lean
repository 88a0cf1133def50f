/- Parts of the proof, one behind the other: Fe, Em, Ff, Df, Fg, Fh, Ye, Rs, Rt, Ru, Rv, Rw, Ua, Dl, Ub, Yo, Lp, Yp, Yq, Yr. -/
import Derived.Test.YtbimcogdbafjpaaGreatAO7
import Derived.Shelf.SlicesE.DeleteFunc
import Derived.Test.YtbimcogdbafjpaaGreatProg
import Derived.Lib.SliceRun
import Derived.Deep.CutBlock
import Derived.ChangeKeysEq
import Derived.Laws.StructEq
import Derived.Deep.QuietTactic
import Derived.BigQuiet
set_option linter.unusedVariables false
namespace Go.Proofs.YtbimcogdbafjpaaGreat
open Go.RowKit Go.Maps Go.Shelf Go.Sort
theorem putCells_front (cur : Array Value) (d : Array Int) (h : d.size ≤ cur.size) : (putCells (Value.int .i64) 0 d cur).toList = d.toList.map (Value.int .i64) ++ cur.toList.drop d.size := by
 apply List.ext_getElem?
 intro k
 unfold putCells
 rw [Array.getElem?_toList, Array.getElem?_mapIdx]
 by_cases hk : k < d.size
 ·rw [List.getElem?_append_left (by simpa using hk), List.getElem?_map, Array.getElem?_toList, Array.getElem?_eq_getElem hk, Array.getElem?_eq_getElem (show k < cur.size by omega)]
  simp [hk]
 ·rw [List.getElem?_append_right (by simpa using hk), List.getElem?_drop]
  have e : d.size + (k - (d.toList.map (Value.int .i64)).length) = k := by simp; omega
  rw [e, Array.getElem?_toList]
  cases cur[k]? with
  | none => rfl
  | some x => simp [hk]
theorem putRow_heap {w : World} {g : Nat} {cur : Array Value} {e : TypeId} {fr : Nat × Nat} (hg : w.heap[g]? = some (.cells cur e fr)) (d : Array Int) (q : Nat) :
  (putRow (Value.int .i64) (Sort.ahead w q) g 0 d).heap[g]? = some (.cells (putCells (Value.int .i64) 0 d cur) e fr) := by
 unfold putRow mapBlock
 simp [Array.getElem?_modify, hg, onCells]
theorem putRow_grown (w : World) (g : Nat) (d : Array Int) (q : Nat) : w.grownBy (putRow (Value.int .i64) (Sort.ahead w q) g 0 d) (some g) := by
 refine ⟨rfl, rfl, rfl, by simp [putRow, mapBlock], fun k hk hne => ?_⟩
 have : ¬ g = k := fun e => hne (by rw [e])
 simp [putRow, mapBlock, Array.getElem?_modify, this]
theorem grow_grown (w : World) (os : Array Obj) : w.grownBy (grow w os) none :=
 ⟨rfl, rfl, rfl, by simp [grow], fun k hk _ => heap_grow_old w os hk⟩
theorem row_put {w : World} {g cap : Nat} {cur : Array Value} (hg : w.heap[g]? = some (.cells cur 3 (0, 0))) (hc : cur.size = cap) (h2 : cap ≤ maxLen) (d : Array Int) (hd : d.size ≤ cap) (q : Nat) (ys : List Nat) (hy : d.toList.take ys.length = ys.map (fun x : Nat => (x : Int))) (hl : ys.length ≤ d.size) :
  OwnI (putRow (Value.int .i64) (Sort.ahead w q) g 0 d) (.slice (some ⟨g, 0, none⟩) ys.length cap) ys := by
 refine .inl ⟨by simp, .inr ⟨g, cap, _, rfl, Nat.zero_le _, putRow_heap hg d q, by omega, h2, by unfold putCells; simp [hc], ?_⟩⟩
 rw [putCells_front _ _ (by omega), Nat.mul_one, List.take_append_of_le_length (by simpa using hl), ← List.map_take, hy, List.map_map]
 rfl
theorem OwnI.row {w : World} {v : Value} {xs : List Nat} (h : OwnI w v xs) (hx : xs ≠ []) : ∃ g cap cur, v = .slice (some ⟨g, 0, none⟩) xs.length cap ∧ w.heap[g]? = some (.cells cur 3 (0, 0)) ∧ xs.length ≤ cap ∧ cap ≤ maxLen ∧ cur.size = cap ∧ rowOf v = some g ∧
  Go.Sort.Holds (Value.int .i64) w g 0 (xs.map (fun x : Nat => (x : Int))).toArray := by
 rcases h with h | ⟨a, _, h⟩
 ·rcases h.2 with ⟨_, h0⟩ | ⟨g, cap, cur, rfl, hb, hg, h1, h2, h3, h4⟩
  ·exact absurd (List.length_eq_zero_iff.1 h0) hx
  ·have hpos : 0 < xs.length := List.length_pos_iff.2 hx
   refine ⟨g, cap, cur, rfl, hg, h1, h2, by omega, ?_, fun j hj => ⟨?_, frozen_of_row _ _ _ _ _ hg⟩⟩
   ·show (if cap = 0 then none else some g) = some g
    rw [if_neg (by omega)]
   ·have hj' : j < xs.length := by simpa using hj
    rw [Nat.zero_add, cell_of_row _ _ j _ _ _ hg]
    have h5 := congrArg (fun l => l[j]?) h4
    rw [Nat.mul_one] at h5
    simp only [List.getElem?_take, if_pos hj', List.getElem?_map, List.getElem?_eq_getElem hj', Option.map_some] at h5
    rw [← Array.getElem?_toList, h5]
    simp [vi, hj']
 ·exact absurd h hx
theorem OwnI.none_val {w : World} {v : Value} (h : OwnI w v []) : ∃ p c, v = .slice p 0 c := by
 obtain ⟨a, c, e, _⟩ := h.cells
 exact ⟨a, c, e⟩
def SortedI (w : World) (v : Value) (xs : List Nat) : Ending → World → Prop := fun e w' => e = .returned (.tuple #[]) ∧ ∃ ys : List Nat, OwnI w' v ys ∧ ys.Pairwise (· ≤ ·) ∧ ys.Perm xs ∧ w.grownBy w' (rowOf v)
theorem sortI_any {w : World} {v : Value} {xs : List Nat} (h : OwnI w v xs) (hl : xs.length ≤ 1000000000) : Calls Tryz.prog 205 #[v] w (SortedI w v xs) := by
 by_cases hx : xs = []
 ·subst hx
  obtain ⟨p, c, rfl⟩ := h.none_val
  refine (Any.slices_Sort_int_none Tryz.lays189 p c w).mono ?_
  rintro e w' ⟨rfl, rfl⟩
  exact ⟨rfl, [], h, List.Pairwise.nil, List.Perm.refl _, grown_self _ _⟩
 ·obtain ⟨g, cap, cur, rfl, hg, h1, h2, h3, h4, hH⟩ := h.row hx
  have hc := Any.slices_Sort_int Tryz.lays189 g 0 cap (xs.map (fun x : Nat => (x : Int))) w hH (Array.getElem?_eq_some_iff.1 hg).1 (by rw [List.length_map]; omega)
  rw [List.length_map] at hc
  refine hc.mono ?_
  rintro e w' ⟨rfl, q, os, rfl⟩
  have hm : (xs.map (fun x : Nat => (x : Int))).mergeSort (fun x y => decide (x ≤ y)) = (xs.mergeSort (fun x y => decide (x ≤ y))).map (fun x : Nat => (x : Int)) := by
   rw [List.map_mergeSort (s := fun x y : Int => decide (x ≤ y)) (fun a _ b _ => by simp)]
  rw [hm]
  have hpm := List.mergeSort_perm xs (fun x y => decide (x ≤ y))
  have hlm : (xs.mergeSort (fun x y => decide (x ≤ y))).length = xs.length := hpm.length_eq
  have hso : (xs.mergeSort (fun x y => decide (x ≤ y))).Pairwise (· ≤ ·) := by
   have := List.pairwise_mergeSort (le := fun x y : Nat => decide (x ≤ y)) (fun a b c h1 h2 => by simp at *; omega) (fun a b => by simp; omega) xs
   exact this.imp (fun h => by simpa using h)
  have ho := row_put hg h3 h2 ((xs.mergeSort (fun x y => decide (x ≤ y))).map (fun x : Nat => (x : Int))).toArray (by rw [List.size_toArray, List.length_map, hlm]; exact h1) q (xs.mergeSort (fun x y => decide (x ≤ y))) (by rw [List.take_of_length_le (by simp)]) (by simp)
  rw [hlm] at ho
  have hgr := putRow_grown w g ((xs.mergeSort (fun x y => decide (x ≤ y))).map (fun x : Nat => (x : Int))).toArray q
  refine ⟨rfl, _, ?_, hso, hpm, ?_⟩
  ·exact ho.keep (fun b hb => heap_grow_old _ _ (ho.lt b hb))
  ·have hg2 := grow_grown (putRow (Value.int .i64) (Sort.ahead w q) g 0 ((xs.mergeSort (fun x y => decide (x ≤ y))).map (fun x : Nat => (x : Int))).toArray) os
   rw [h4]
   exact ⟨hg2.os.trans hgr.os, hg2.tape.trans hgr.tape, hg2.output.trans hgr.output, Nat.le_trans hgr.size hg2.size, fun k hk hne => (hg2.block k (Nat.lt_of_lt_of_le hk hgr.size) (by simp)).trans (hgr.block k hk hne)⟩
end Go.Proofs.YtbimcogdbafjpaaGreat
namespace Go.Proofs.YtbimcogdbafjpaaGreat
open Go.RowKit Go.Maps
def FL.drainTo (S : FL) (m i : Nat) : FL := ⟨fun k => if k < i then S.g k ++ S.c m k else S.g k, fun j k => if j = m ∧ k < i then [] else S.c j k⟩
theorem FL.drainTo_zero (S : FL) (m : Nat) : S.drainTo m 0 = S := FL.ext' (fun k => by unfold FL.drainTo; simp) (fun j k => by unfold FL.drainTo; simp)
theorem FL.drainTo_succ (S : FL) (m i : Nat) : S.drainTo m (i + 1) = ((S.drainTo m i).setG i ((S.drainTo m i).g i ++ (S.drainTo m i).c m i)).setC m i [] := by
 refine FL.ext' (fun k => ?_) (fun j k => ?_)
 ·rw [FL.setC_g, FL.setG_g]
  unfold FL.drainTo
  dsimp only
  by_cases e : k = i
  ·subst e; simp
  ·rw [if_neg e]
   by_cases h : k < i
   ·rw [if_pos h, if_pos (by omega)]
   ·rw [if_neg h, if_neg (by omega)]
 ·rw [FL.setC_c]
  unfold FL.drainTo
  dsimp only
  by_cases e : j = m ∧ k = i
  ·rw [if_pos e, if_pos (by omega)]
  ·rw [if_neg e, FL.setG_c]
   dsimp only
   by_cases h : j = m ∧ k < i
   ·rw [if_pos h, if_pos (by omega)]
   ·rw [if_neg h, if_neg (by omega)]
theorem FL.drainTo_lens {S : FL} {N : Nat} (h : S.upto N) {m i : Nat} (hm : m < 4) (hi : i < 32) : ((S.drainTo m i).g i).length ≤ N ∧ ((S.drainTo m i).c m i).length ≤ N := by
 have h1 := h i (by omega)
 have h2 := h (slotI m i) (by unfold slotI; omega)
 rw [S.at_g hi] at h1
 rw [S.at_c m hi] at h2
 unfold FL.drainTo
 simp
 exact ⟨h1, h2⟩
set_option maxHeartbeats 4000000 in
set_option maxRecDepth 20000 in
theorem fdrain_any {w : World} {f mb n : Nat} {R : List Nat} {S : FL} (h : FreeAt w f mb n R S) (hL : S.upto 1000000) (hn : n < 1000000000000) (m : Nat) (hm4 : m < 4) :
  Calls Tryz.prog 230 #[vfree f, .int .i64 (m : Int)] w fun e w' => e = .returned (.tuple #[]) ∧ FreeGo w w' f mb n R (S.drain m) := by
 have HF := LH h
 have HUp := LH hL
 clear h hL
 go_enter Tryz.func230, Tryz.ntmps230
 go_wp2_with fail
 go_loopw [6] (fun iv wr => ∃ i : Nat, i ≤ 32 ∧ iv = .int .i64 (i : Int) ∧ Hid (FreeGo w wr f mb n R (S.drainTo m i))) (fun iv _ => 32 - (intOf iv).toNat)
 case atStart => exact ⟨0, by omega, rfl, LH (by rw [FL.drainTo_zero]; exact FreeGo.refl HF.out)⟩
 case round =>
  obtain ⟨i, hi32, rfl, HGo⟩ := hrel
  by_cases hlt : i < 32
  case neg =>
   obtain rfl : i = 32 := by omega
   go_wp2_with fail
   go_end0
   exact ⟨rfl, HGo.out⟩
  obtain ⟨R1, hfa, ht1, hr1⟩ := HGo.out
  obtain ⟨V, hfv⟩ := hfa.v
  have HT1 := LH ht1
  have HR1 := LH hr1
  have HMem := LH (Mem.one wr #[.int .i64 (m : Int), .int .i64 (i : Int)] 288)
  have HFV := LH (hfv.below HMem.out.below)
  have HFVr := LH hfv.lt
  have HW0 := LH HMem.out.below
  have HStep : Hid (S.drainTo m (i + 1) = ((S.drainTo m i).setG i ((S.drainTo m i).g i ++ (S.drainTo m i).c m i)).setC m i []) := LH (FL.drainTo_succ S m i)
  have HLens := LH (FL.drainTo_lens HUp.out hm4 hlt)
  generalize S.drainTo m i = T at *
  clear hfa ht1 hr1
  go_upto_region 4 with fail
  obtain ⟨q, hq⟩ : ∃ q, q = wr.heap.size := ⟨_, rfl⟩
  have hqf : q ∉ (rowOf (V i)).toList := fun hm => by
   have h1 := hfv.lt q (hfv.rows i (by omega) q (by simpa using hm))
   rw [hq] at h1
   exact Nat.lt_irrefl _ h1
  clear hfv
  rw [← hq] at HMem ⊢
  have HQ := LH hq
  clear hq
  generalize wr.alloc _ = w0 at *
  have hfn : f ∉ (rowOf (V i)).toList := fun hm => (HFV.out.inn.neF i (by omega)).1 (by simpa using hm)
  have d0 := HMem.out.cell 0 0 rfl rfl
  have d1 := HMem.out.cell 0 1 rfl rfl
  obtain ⟨ac, cc, ec, hcc, hcl, _, hcn⟩ := (HFV.out.inn.rows (slotI m i) (by unfold slotI; omega)).cells2
  rw [T.at_c m hlt] at ec hcc hcl
  have HEc := LH ec
  have HCc := LH hcc
  have hkey := key_slot (m : Int) (i : Int) (wf_small m (by omega)) (wf_small i (by omega))
  have r0 := fun x => near_cell (L := (rowOf (V i)).toList) d0 hqf x
  have r1 := fun x => near_cell (L := (rowOf (V i)).toList) d1 hqf x
  have r2 := fun x => near_cell (L := (rowOf (V i)).toList) HFV.out.inn.m hfn x
  have r3 := fun x => near_cell (L := (rowOf (V i)).toList) (HFV.out.inn.g hlt) hfn x
  have HTn : Hid (Touch (rowOf (V i)).toList w0 w0.drew) := LH (Touch.ofBelow (later_below (later_drew w0)))
  have HD1 : Hid (Below w0.heap.size w0 w0.drew) := LH (later_below (later_drew w0))
  have hC1 := near_of HTn.out
  clear hcc ec hqf hfn d0 d1
  obtain ⟨lc, hlc⟩ : ∃ lc, lc = (T.c m i).length := ⟨_, rfl⟩
  rw [← hlc] at HEc hcl
  have HLc := LH hlc
  clear hlc
  refine wp_region_seg (C := fun w' => ∃ x : Near (rowOf (V i)).toList w0, w' = x.val) [.fl [0, 1, 2, 3, 4, 5, 6, 7, 8, 9, 10, 11, 12, 15, 16], .sq [13] true, .sq [14] true, .sq [17, 18] false] (by kernel_rfl) (by kernel_rfl) (by intro c a d v w h; cases d <;> exact h) ?_
  simp only [segs, picks, List.getElem?_cons_succ, List.getElem?_cons_zero]
  refine wpSeg_fl hC1 ?_
  repeat (first | go_big_quiet_step (fail) | quiet_step (fail))
  refine wpQuiet_nil ?_
  clear r0 r1 r2 r3
  generalize w0.drew = wd at *
  have HFd := LH (HFV.out.below HD1.out)
  obtain ⟨M, hm, hv⟩ := HFd.out.inn.map
  have HM := LH hm
  have HVi := LH ((hv m i hm4 hlt).trans HEc.out)
  clear hm hv
  refine wpSeg_sq (fun K hK => ?_)
  go_wp2_with (refine wpList_vlook rfl _ _ 252 rfl 288 35 keyed_slot Tryz.underlying252 _ (zero_ints _) mb n M rfl HM.out _ _ rfl hkey ?_; rw [HVi.out])
  go_wp2_with fail
  refine hK _ _ (fun _ => hC1) ?_
  clear hK K
  have HOd : Hid (OwnI wd (V i) (T.g i)) := LH (by
   have := HFd.out.inn.rows i (by omega)
   rwa [T.at_g hlt] at this)
  have HCd : Hid (Cells wd ac ((T.c m i).map vi)) := LH (HCc.out.below HD1.out (Nat.le_refl _))
  have HN1 : Hid ((T.g i).length + lc ≤ 1000000000000) := LH (by have := HLens.out; have := HLc.out; omega)
  refine wpSeg_sq (fun K hK => ?_)
  go_wp2_with (refine wpList_append_ownI (m := lc) HOd.out HCd.out HLc.out.symm HN1.out rfl rfl rfl rfl ?_; intro v' w1 ho hg hr; have HO1 := LH ho; have HG1 := LH hg; have HR := LH hr; clear ho hg hr)
  have HTn1 : Hid (Touch (rowOf (V i)).toList w0 w1) := LH (HTn.out.trans (grown_touchO HG1.out))
  have hC3 := near_of HTn1.out
  go_wp2_with fail
  refine hK _ _ (fun _ => hC3) ?_
  clear hK K
  have hst := step_g HFV.out.inn hlt HFV.out.f HFV.out.mb HFV.out.lt HD1.out HG1.out HO1.out (fun b hb => by
   rcases HR.out b hb with c | c
   ·exact .inl c
   ·exact .inr (by rw [c]; exact HD1.out.size))
  have hos : (w1.setCell ⟨f, i, none⟩ v').os = w0.os ∧ (w1.setCell ⟨f, i, none⟩ v').tape = w0.tape ∧ (w1.setCell ⟨f, i, none⟩ v').output = w0.output := ⟨HG1.out.os.trans HD1.out.os, HG1.out.tape.trans HD1.out.tape, HG1.out.output.trans HD1.out.output⟩
  have HFV2 := LH (HFV.out.step (by omega) hst)
  have HT2 := LH (hst.touch HFV.out (by omega) hos)
  have HF1 : Hid (w1.heap[f]? = some (.cells ((List.range 32).map V ++ [Value.map (some mb)]).toArray 255 (0, 0))) := LH (by
   have := (HG1.out.block f (Nat.lt_of_lt_of_le (HFV.out.lt f HFV.out.f) HD1.out.size) (fun e => (HFV.out.inn.neF i (by omega)).1 e.symm)).trans (HD1.out.block f (HFV.out.lt f HFV.out.f))
   exact this.trans HFV.out.inn.head)
  have fr : w1.frozen? ⟨f, i, none⟩ = false := frozen_of_row _ _ _ _ _ HF1.out
  have ck1 : w1.cell? ⟨f, i, none⟩ = some (V i) := (cell_of_row _ _ i _ _ _ HF1.out).trans (HFV.out.inn.lt hlt)
  have HRow2 : Hid (RowAt (w1.setCell ⟨f, i, none⟩ v') q 288 [.int .i64 (m : Int), .int .i64 (i : Int)]) := LH ((HMem.out.at 0 rfl).keep (HT2.out.1.block q (HMem.out.glt 0 rfl) (fun hm => by
   have h1 := HFVr.out q hm
   rw [HQ.out] at h1
   exact Nat.lt_irrefl _ h1)))
  obtain ⟨a', c', e', _⟩ := HO1.out.cells
  obtain ⟨l', hl'⟩ : ∃ l', l' = (T.g i ++ T.c m i).length := ⟨_, rfl⟩
  rw [← hl'] at e'
  subst e'
  clear hst hl' hos
  refine wpSeg_last ?_
  go_wp2_with fail
  generalize w1.setCell _ _ = w2 at *
  have hsl : slotI m i < 160 := by unfold slotI; omega
  go_upto_region 5 with fail
  have d0 := HRow2.out.cell (i := 0) rfl
  have d1 := HRow2.out.cell (i := 1) rfl
  have c32 := HFV2.out.inn.m
  have r0 := fun x => later_cell d0 x
  have r1 := fun x => later_cell d1 x
  have r2 := fun x => later_cell c32 x
  clear d0 d1 c32 hC1 hC3
  refine wp_region_seg (C := fun w' => ∃ x : Later (w2), w' = x.val) [.fl [0, 1, 2, 3, 4], .sq [5] false] (by kernel_rfl) (by kernel_rfl) (by intro c a d v w h; cases d <;> exact h) ?_
  simp only [segs, picks, List.getElem?_cons_succ, List.getElem?_cons_zero]
  have hC5 := later_drew (w2)
  refine wpSeg_fl hC5 ?_
  repeat (first | go_big_quiet_step (fail) | quiet_step (fail))
  refine wpQuiet_nil ?_
  clear r0 r1 r2
  have HD5 : Hid (Below w2.heap.size w2 w2.drew) := LH (later_below hC5)
  generalize w2.drew = w3 at *
  have HFV3 := LH (HFV2.out.below HD5.out)
  obtain ⟨M3, hm3, hv3⟩ := HFV3.out.inn.map
  have HM3 := LH hm3
  have HV3 := LH hv3
  clear hm3 hv3
  refine wpSeg_last ?_
  go_wp2_with (refine wpList_vdelete rfl _ _ 252 288 rfl 35 keyed_slot Tryz.underlying252 mb n M3 rfl HM3.out _ _ rfl hkey ?_; intro w4 hm4' hg4; have HM4 := LH hm4'; have HG4 := LH hg4; clear hm4' hg4)
  have hst := step_c (o := none) HFV3.out.inn hm4 hlt HFV3.out.f HFV3.out.mb HFV3.out.lt HV3.out (Below.refl _ _) HM4.out rfl HG4.out (OwnI.nil _) (fun b hb => by cases hb)
  have HNext : Hid (FreeGo w w4 f mb n R (S.drainTo m (i + 1))) := LH (by
   have e : S.drainTo m (i + 1) = (T.setG i (T.g i ++ T.c m i)).setC m i [] := HStep.out
   rw [e]
   have h1 := FreeGo.more (HT2.out.1.later HD5.out) HT2.out.2 HFV3.out hsl hst ⟨HG4.out.os, HG4.out.tape, HG4.out.output⟩
   exact FreeGo.trans (HT1.out.later HW0.out) (fun b hb => HR1.out b hb) (h1))
  clear hst
  go_wp2_with fail
  go_roundw
  case rel => exact ⟨i + 1, by omega, vint (by omega), HNext⟩
  case measure => simp [intOf]; omega
def FL.allTo (S : FL) (k : Nat) : Nat → List Nat
 | 0 => S.g k
 | i + 1 => S.allTo k i ++ S.c i k
theorem FL.allTo_all (S : FL) (k : Nat) : S.allTo k 4 = S.all k := rfl
theorem FL.allTo_len {S : FL} {N k : Nat} (h : S.upto N) (hk : k < 32) : ∀ i, i ≤ 4 → (S.allTo k i).length ≤ (i + 1) * N
 | 0, _ => by
  have := h k (by omega)
  rw [S.at_g hk] at this
  simpa [FL.allTo] using this
 | i + 1, hi => by
  have h1 := FL.allTo_len h hk i (by omega)
  have h2 := h (slotI i k) (by unfold slotI; omega)
  rw [S.at_c i hk] at h2
  unfold FL.allTo
  rw [List.length_append, Nat.add_mul (i + 1) 1 N, Nat.one_mul]
  omega
def ListI (w : World) (S : FL) (k : Nat) : Ending → World → Prop := fun e w' => ∃ v ys, e = .returned v ∧ OwnI w' v ys ∧ ys.Pairwise (· ≤ ·) ∧ (∀ a, ys.count a = S.cnt k a) ∧ (∀ b, rowOf v = some b → w.heap.size ≤ b) ∧ Below w.heap.size w w'
set_option maxHeartbeats 4000000 in
set_option maxRecDepth 20000 in
theorem flist_any {w : World} {f mb n : Nat} {R : List Nat} {S : FL} (h : FreeAt w f mb n R S) (hL : S.upto 900000) (k : Nat) (hk : k < 32) :
  Calls Tryz.prog 161 #[vfree f, .int .i64 (k : Int)] w (ListI w S k) := by
 obtain ⟨V, hfv⟩ := h.v
 have HFV := LH hfv
 have HUp := LH hL
 have HP : Hid (∀ v ys w', OwnI w' v ys → ys.Pairwise (· ≤ ·) → ys.Perm (S.all k) → (∀ b, rowOf v = some b → w.heap.size ≤ b) → Below w.heap.size w w' → ListI w S k (.returned v) w') := LH (fun v ys w' h1 h2 h3 h4 h5 => ⟨v, ys, rfl, h1, h2, fun a => by rw [← S.all_count]; exact h3.count_eq a, h4, h5⟩)
 generalize ListI w S k = Post at *
 have hVk := HFV.out.inn.rows k (by omega)
 rw [S.at_g hk] at hVk
 obtain ⟨ag, cg, eg, hcg, _, _, hgn⟩ := hVk.cells2
 have HLg : Hid ((S.g k).length ≤ 900000) := LH (by have := HUp.out k (by omega); rwa [S.at_g hk] at this)
 have HCl := LH (cloneI_any ag _ cg (S.g k) rfl hcg (by have := HLg.out; omega) hgn)
 have ck := HFV.out.inn.g hk
 rw [eg] at ck
 have c32 := HFV.out.inn.m
 obtain ⟨lg, hlg⟩ : ∃ lg, lg = (S.g k).length := ⟨_, rfl⟩
 rw [← hlg] at ck HCl
 clear h hL hfv hVk hcg hgn eg hlg
 go_enter Tryz.func161, Tryz.ntmps161
 go_wp2_with fail
 refine (cright_any _ _).mono ?_
 rintro e w1 ⟨rfl, rfl⟩
 rw [decide_eq_true (show (0 : Int) ≤ (k : Int) ∧ (k : Int) < 32 by omega)]
 go_wp2_with fail
 refine HCl.out.mono ?_
 rintro e w1 ⟨v1, rfl, ho1, hr1, hb1⟩
 have HO1 := LH ho1
 have HR1 := LH hr1
 have HB1 := LH hb1
 clear ho1 hr1 hb1 ck c32
 go_wp2_with fail
 go_loopw [5, 17] (fun ov iv wr => ∃ i : Nat, i ≤ 4 ∧ iv = .int .i64 (i : Int) ∧ Hid (OwnI wr ov (S.allTo k i)) ∧ Hid (∀ b, rowOf ov = some b → w.heap.size ≤ b) ∧ Hid (Below w.heap.size w wr)) (fun _ iv _ => 4 - (intOf iv).toNat)
 case atStart => exact ⟨0, by omega, rfl, HO1, HR1, HB1⟩
 case round =>
  obtain ⟨i, hi4, rfl, HO, HR, HB⟩ := hrel
  by_cases hlt : i < 4
  case neg =>
   obtain rfl : i = 4 := by omega
   have HSo := LH (sortI_any HO.out (by have := FL.allTo_len HUp.out hk 4 (by omega); omega))
   go_wp2_with fail
   refine HSo.out.mono ?_
   rintro e w2 ⟨rfl, ys, ho, hs, hp, hg⟩
   have HFin := LH (HP.out _ ys w2 ho hs (by rw [← S.allTo_all]; exact hp) HR.out ⟨hg.os.trans HB.out.os, hg.tape.trans HB.out.tape, hg.output.trans HB.out.output, Nat.le_trans HB.out.size hg.size, fun b hb => (hg.block b (Nat.lt_of_lt_of_le hb HB.out.size) (fun e => by have := HR.out b e.symm; omega)).trans (HB.out.block b hb)⟩)
   clear ho hs hp hg
   go_wp2_with fail
   exact HFin.out
  have hi160 : slotI i k < 160 := by unfold slotI; omega
  have HFr := LH (HFV.out.below HB.out)
  obtain ⟨ac, cc, ec, hcc, _, _, _⟩ := (HFr.out.inn.rows (slotI i k) hi160).cells2
  rw [S.at_c i hk] at ec hcc
  obtain ⟨M, hm, hv⟩ := HFr.out.inn.map
  have HM := LH hm
  obtain ⟨lc, hlc⟩ : ∃ lc, lc = (S.c i k).length := ⟨_, rfl⟩
  rw [← hlc] at ec
  have HLc := LH hlc.symm
  have HVi := LH ((hv i k hlt hk).trans ec)
  have HCc := LH hcc
  have hkey := key_slot (i : Int) (k : Int) (wf_small i (by omega)) (wf_small k (by omega))
  have c32 := HFr.out.inn.m
  have HN1 : Hid ((S.allTo k i).length + lc ≤ 1000000000000) := LH (by
   have h1 := FL.allTo_len HUp.out hk i (by omega)
   have h2 := HUp.out (slotI i k) hi160
   rw [S.at_c i hk, ← hlc] at h2
   have : (i + 1) * 900000 ≤ 5 * 900000 := Nat.mul_le_mul_right _ (by omega)
   omega)
  clear hm hv ec hcc hlc
  go_wp2_with (first
   | (refine wpList_vlook rfl _ _ 252 rfl 288 35 keyed_slot Tryz.underlying252 _ (zero_ints _) mb n M rfl HM.out _ _ rfl hkey ?_; rw [HVi.out])
   | (at_builtin; refine wpList_append_newI (m := lc) (B := w.heap.size) HO.out (Below.refl _ _) HR.out HB.out.size HCc.out HLc.out HN1.out rfl rfl rfl rfl ?_; intro v' w2 ho hb hr; have HO2 := LH ho; have HB2 := LH hb; have HR2 := LH hr; clear ho hb hr))
  go_roundw
  case rel => exact ⟨i + 1, by omega, vint (by omega), HO2, HR2, LH (HB.out.trans HB2.out)⟩
  case measure => simp [intOf]; omega
set_option maxHeartbeats 1000000 in
theorem flen_any {w : World} {f mb n : Nat} {R : List Nat} {S : FL} (h : FreeAt w f mb n R S) (hL : S.upto 900000) (k : Nat) (hk : k < 32) :
  Calls Tryz.prog 212 #[vfree f, .int .i64 (k : Int)] w fun e w' => e = .returned (.int .i64 ((S.all k).length : Nat)) ∧ Below w.heap.size w w' := by
 have HL := LH (flist_any h hL k hk)
 have HP : Hid (∀ w', Below w.heap.size w w' → (fun e w' => e = Ending.returned (.int .i64 ((S.all k).length : Nat)) ∧ Below w.heap.size w w') (.returned (.int .i64 ((S.all k).length : Nat))) w') := LH (fun w' h => ⟨rfl, h⟩)
 have HN : Hid (∀ ys : List Nat, (∀ a, ys.count a = S.cnt k a) → ys.length = (S.all k).length) := LH (fun ys h => (List.perm_iff_count.2 (fun a => by rw [h, S.all_count])).length_eq)
 generalize (S.all k).length = N at *
 clear h hL
 go_enter Tryz.func212, Tryz.ntmps212
 go_wp2_with fail
 refine HL.out.mono ?_
 rintro e w1 ⟨v, ys, rfl, ho, hs, hc, hr, hb⟩
 obtain ⟨a, c, rfl, _⟩ := ho.cells
 rw [HN.out ys hc]
 have HB := LH hb
 clear ho hs hc hr hb
 go_wp2_with fail
 go_ret
 exact ⟨rfl, HB.out⟩
end Go.Proofs.YtbimcogdbafjpaaGreat
namespace Go.Proofs
open Go.Shelf
def Tryz.delFn_ren : Go.Shelf.Ren := ⟨fun | 10 => 214 | 6 => 242 | n => n, fun | 22 => 35 | 23 => 3 | 25 => 109 | 3 => 3 | 4 => 4 | 0 => 0 | n => n, fun | n => n⟩
theorem Tryz.delFn : Go.Proofs.SlLaysH.n10 Tryz.prog Tryz.delFn_ren := {
 mixed := by kernel_rfl
 f6 := ⟨Tryz.f242.name, by decide, Tryz.func242.trans (congrArg some (by kernel_rfl))⟩
 f10 := ⟨Tryz.f214.name, by decide, Tryz.func214.trans (congrArg some (by kernel_rfl))⟩
 t0 := Tryz.underlying0
 a0 := Tryz.isAgg0
 z0 := Tryz.sizeOf0
 v0 := Tryz.zeroValue0
 t3 := Tryz.underlying3
 a3 := Tryz.isAgg3
 z3 := Tryz.sizeOf3
 v3 := Tryz.zeroValue3
 t4 := Tryz.underlying4
 a4 := Tryz.isAgg4
 z4 := Tryz.sizeOf4
 v4 := Tryz.zeroValue4
 t22 := Tryz.underlying35
 a22 := Tryz.isAgg35
 z22 := Tryz.sizeOf35
 v22 := Tryz.zeroValue35
 a23 := Tryz.isAgg3
 z23 := Tryz.sizeOf3
 t25 := Tryz.underlying109
 a25 := Tryz.isAgg109
 z25 := Tryz.sizeOf109
 v25 := Tryz.zeroValue109 }
end Go.Proofs
namespace Go.Proofs.YtbimcogdbafjpaaGreat
open Go.RowKit Go.Maps Go.Shelf Go.Sort Go.Lib
def outside (lo hi : Nat) (xs : List Nat) : List Nat := xs.filter (fun a => !(decide (lo ≤ a) && decide (a < hi)))
theorem outside_len (lo hi : Nat) (xs : List Nat) : (outside lo hi xs).length ≤ xs.length := List.length_filter_le _ _
theorem gone_gives (lo hi : Nat) (x : Int) (q1 q2 : Nat) (W : World) (h1 : W.cell? ⟨q1, 0, none⟩ = some (.int .i64 (lo : Int))) (h2 : W.cell? ⟨q2, 0, none⟩ = some (.int .i64 (hi : Int))) :
  FnGives Tryz.prog 213 #[.pointer (some ⟨q1, 0, none⟩), .pointer (some ⟨q2, 0, none⟩)] #[.int .i64 x] (.bool (decide ((lo : Int) ≤ x) && decide (x < (hi : Int)))) W := by
 show Calls Tryz.prog 213 #[.int .i64 x, .pointer (some ⟨q1, 0, none⟩), .pointer (some ⟨q2, 0, none⟩)] W _
 by_cases c : (lo : Int) ≤ x
 ·go_enter Tryz.func213, Tryz.ntmps213
  go_wp2
  all_goals (go_ret; exact ⟨by simp_all, 0, rfl⟩)
 ·go_enter Tryz.func213, Tryz.ntmps213
  go_wp2
  all_goals (go_ret; exact ⟨by simp_all; intros; omega, 0, rfl⟩)
theorem indexNone (p : Option Addr) (c : Nat) (fv : Value) (w : World) : Calls Tryz.prog 242 #[.slice p 0 c, fv] w (Same1 (.int .i64 (-1)) w) := by
 go_enter Tryz.func242, Tryz.ntmps242
 go_wp2_with fail
 go_loopw [8] (fun iv wr => iv = .int .i64 0 ∧ Hid (wr = w)) (fun _ _ => 0)
 case atStart => exact ⟨rfl, LH rfl⟩
 case round =>
  obtain ⟨rfl, hw⟩ := hrel
  go_wp2_with fail
  go_ret
  exact ⟨rfl, hw.out.symm⟩
theorem deleteNone (p : Option Addr) (c : Nat) (fv : Value) (w : World) : Calls Tryz.prog 214 #[.slice p 0 c, fv] w (Same1 (.slice p 0 c) w) := by
 go_enter Tryz.func214, Tryz.ntmps214
 go_wp2_with fail
 refine (indexNone p c fv _).mono ?_
 rintro e w1 ⟨rfl, rfl⟩
 go_wp2_with fail
 go_ret
 exact ⟨rfl, rfl⟩
def StruckI (w : World) (v : Value) (lo hi : Nat) (xs : List Nat) : Ending → World → Prop := fun e w' => ∃ v', e = .returned v' ∧ OwnI w' v' (outside lo hi xs) ∧ rowOf v' = rowOf v ∧ w.grownBy w' (rowOf v)
theorem deleteI_any {w : World} {v : Value} {xs : List Nat} (h : OwnI w v xs) (hl : xs.length ≤ 1000000000) (lo hi q1 q2 : Nat) (h1 : w.cell? ⟨q1, 0, none⟩ = some (.int .i64 (lo : Int))) (h2 : w.cell? ⟨q2, 0, none⟩ = some (.int .i64 (hi : Int)))
  (n1 : rowOf v ≠ some q1) (n2 : rowOf v ≠ some q2) :
  Calls Tryz.prog 214 #[v, .func (.func 213) #[] #[.pointer (some ⟨q1, 0, none⟩), .pointer (some ⟨q2, 0, none⟩)]] w (StruckI w v lo hi xs) := by
 by_cases hx : xs = []
 ·subst hx
  obtain ⟨p, c, rfl⟩ := h.none_val
  refine (deleteNone p c _ w).mono ?_
  rintro e w' ⟨rfl, rfl⟩
  exact ⟨_, rfl, h, rfl, grown_self _ _⟩
 ·obtain ⟨g, cap, cur, rfl, hg, g1, g2, g3, g4, hH⟩ := h.row hx
  have hB1 : q1 < w.heap.size := World.block_lt_of_cell? _ _ h1
  have hB2 : q2 < w.heap.size := World.block_lt_of_cell? _ _ h2
  have k1 : q1 ≠ g := fun e => n1 (by rw [g4, e])
  have k2 : q2 ≠ g := fun e => n2 (by rw [g4, e])
  have hsz : (xs.map (fun x : Nat => (x : Int))).toArray.size = xs.length := by simp
  have eg : ∀ args w, (callFunc 213 args).run Tryz.prog w = .ok (.enter 213 args) w := enters_of Tryz.func213 (by kernel_rfl) rfl
  have hp : PredAt Tryz.prog 213 #[.pointer (some ⟨q1, 0, none⟩), .pointer (some ⟨q2, 0, none⟩)] (Value.int .i64) (fun x => decide ((lo : Int) ≤ x) && decide (x < (hi : Int))) w :=
   fun W x hb => gone_gives lo hi x q1 q2 W ((hb.cell (p := ⟨q1, 0, none⟩) hB1).trans h1) ((hb.cell (p := ⟨q2, 0, none⟩) hB2).trans h2)
  have hpo : PredOver Tryz.prog 213 #[.pointer (some ⟨q1, 0, none⟩), .pointer (some ⟨q2, 0, none⟩)] (Value.int .i64) (fun x => decide ((lo : Int) ≤ x) && decide (x < (hi : Int))) g 0 (xs.map (fun x : Nat => (x : Int))).toArray.size w :=
   fun n os dk x _ => gone_gives lo hi x q1 q2 _
    (by unfold sortWorld; rw [cell?_grow _ _ _ (by show q1 < (putRow _ _ _ _ _).heap.size; rw [size_putRow]; exact hB1), cell?_putRow_other _ _ g _ _ _ (Or.inl k1)]; exact h1)
    (by unfold sortWorld; rw [cell?_grow _ _ _ (by show q2 < (putRow _ _ _ _ _).heap.size; rw [size_putRow]; exact hB2), cell?_putRow_other _ _ g _ _ _ (Or.inl k2)]; exact h2)
  have hc := AnyE.slices_DeleteFunc Tryz.delFn (Value.int .i64) (fun _ => rfl) (fun x => decide ((lo : Int) ≤ x) && decide (x < (hi : Int))) 213 _ eg 0 Tryz.zeroValue3 g 0 cap _ w hp hpo hH (by rw [hsz]; omega) (by rw [hsz]; omega)
  rw [hsz] at hc
  refine hc.mono ?_
  rintro e w' ⟨rfl, q, rfl⟩
  have hf : ((xs.map (fun x : Nat => (x : Int))).toArray.toList.filter fun x => !(decide ((lo : Int) ≤ x) && decide (x < (hi : Int)))) = (outside lo hi xs).map (fun x : Nat => (x : Int)) := by
   unfold outside
   rw [List.filter_map]
   congr 1
   refine List.filter_congr fun x _ => ?_
   simp
  rw [hf, List.length_map]
  have hlo := outside_len lo hi xs
  have ho := row_put hg g3 g2 ((outside lo hi xs).map (fun x : Nat => (x : Int)) ++ List.replicate (xs.length - (outside lo hi xs).length) 0).toArray (by simp; omega) q (outside lo hi xs) (by simp) (by simp)
  refine ⟨_, rfl, ho, by rw [rowOf_cut (some ⟨g, 0, none⟩) _ xs.length cap], ?_⟩
  rw [g4]
  exact putRow_grown w g _ q
end Go.Proofs.YtbimcogdbafjpaaGreat
namespace Go.Proofs.YtbimcogdbafjpaaGreat
open Go.RowKit Go.Maps
def FL.rmTo (S : FL) (k lo hi i : Nat) : FL := ⟨fun j => if j = k then outside lo hi (S.g j) else S.g j, fun m j => if j = k ∧ m < i then outside lo hi (S.c m j) else S.c m j⟩
theorem FL.rmTo_zero (S : FL) (k lo hi : Nat) : S.rmTo k lo hi 0 = S.setG k (outside lo hi (S.g k)) := by
 refine FL.ext' (fun j => ?_) (fun m j => ?_)
 ·rw [FL.setG_g]
  show (if j = k then outside lo hi (S.g j) else S.g j) = _
  by_cases e : j = k
  ·subst e; simp
  ·simp [e]
 ·show (if j = k ∧ m < 0 then outside lo hi (S.c m j) else S.c m j) = _
  rw [if_neg (by omega)]; rfl
theorem FL.rmTo_succ (S : FL) (k lo hi i : Nat) : S.rmTo k lo hi (i + 1) = (S.rmTo k lo hi i).setC i k (outside lo hi ((S.rmTo k lo hi i).c i k)) := by
 refine FL.ext' (fun j => ?_) (fun m j => ?_)
 ·rw [FL.setC_g]; rfl
 ·rw [FL.setC_c]
  show (if j = k ∧ m < i + 1 then outside lo hi (S.c m j) else S.c m j) = if m = i ∧ j = k then outside lo hi (if k = k ∧ i < i then outside lo hi (S.c i k) else S.c i k) else (if j = k ∧ m < i then outside lo hi (S.c m j) else S.c m j)
  rw [if_neg (show ¬ (k = k ∧ i < i) by omega)]
  by_cases e : j = k
  ·subst e
   by_cases e2 : m = i
   ·subst e2; simp
   ·by_cases e3 : m < i
    ·rw [if_pos (by omega), if_neg (by omega), if_pos (by omega)]
    ·rw [if_neg (by omega), if_neg (by omega), if_neg (by omega)]
  ·simp [e]
theorem FL.rmTo_all (S : FL) (k lo hi : Nat) : S.rmTo k lo hi 4 = S.remove k lo hi := by
 refine FL.ext' (fun j => ?_) (fun m j => ?_)
 ·show (if j = k then outside lo hi (S.g j) else S.g j) = if j = k then (S.g k).filter _ else S.g j
  by_cases e : j = k
  ·subst e; rfl
  ·simp [e]
 ·show (if j = k ∧ m < 4 then outside lo hi (S.c m j) else S.c m j) = if j = k ∧ m < 4 then (S.c m k).filter _ else S.c m j
  by_cases e : j = k
  ·subst e; rfl
  ·simp [e]
theorem FL.rmTo_upto {S : FL} {N : Nat} (h : S.upto N) (k lo hi i : Nat) : (S.rmTo k lo hi i).upto N := by
 intro j hj
 have := h j hj
 unfold FL.at at this ⊢
 show (if j < 32 then (if j = k then outside lo hi (S.g j) else S.g j) else (if (j - 32) % 32 = k ∧ (j - 32) / 32 < i then outside lo hi (S.c ((j - 32) / 32) ((j - 32) % 32)) else S.c ((j - 32) / 32) ((j - 32) % 32))).length ≤ N
 split at this
 ·rw [if_pos (by assumption)]
  split
  ·exact Nat.le_trans (outside_len _ _ _) this
  ·exact this
 ·rw [if_neg (by assumption)]
  split
  ·exact Nat.le_trans (outside_len _ _ _) this
  ·exact this
set_option maxHeartbeats 4000000 in
set_option maxRecDepth 20000 in
theorem fremove_any {w : World} {f mb n : Nat} {R : List Nat} {S : FL} (h : FreeAt w f mb n R S) (hL : S.upto 900000) (hn : n < 1000000000000) (k lo hi : Nat) (hk : k < 32) :
  Calls Tryz.prog 168 #[vfree f, .int .i64 (k : Int), .int .i64 (lo : Int), .int .i64 (hi : Int)] w fun e w' => (∃ x, e = .returned (.int .i64 x)) ∧ FreeGo w w' f mb (n + 4) R (S.remove k lo hi) := by
 have HB0 := LH (Mem.two w #[.int .i64 (lo : Int)] 3 #[.int .i64 (hi : Int)] 3)
 have HF0 := LH (h.below HB0.out.below)
 have HW0 := LH HB0.out.below
 have HRlt := LH h.mem
 have HUp := LH hL
 have HP : Hid (∀ x w', FreeGo w w' f mb (n + 4) R (S.remove k lo hi) → (fun e w' => (∃ x, e = Ending.returned (.int .i64 x)) ∧ FreeGo w w' f mb (n + 4) R (S.remove k lo hi)) (.returned (.int .i64 x)) w') := LH (fun x w' h => ⟨⟨x, rfl⟩, h⟩)
 generalize (fun e w' => (∃ x, e = Ending.returned (.int .i64 x)) ∧ FreeGo w w' f mb (n + 4) R (S.remove k lo hi)) = Post at *
 clear h hL
 go_enter Tryz.func168, Tryz.ntmps168
 go_upto_region 1 with fail
 generalize (w.alloc _).alloc _ = w0 at *
 obtain ⟨q, hq⟩ : ∃ q, q = w.heap.size := ⟨_, rfl⟩
 rw [← hq] at HB0 HRlt ⊢
 have HQ := LH hq
 clear hq
 go_wp2_with fail
 refine (cright_any _ _).mono ?_
 rintro e w1 ⟨rfl, rfl⟩
 rw [decide_eq_true (show (0 : Int) ≤ (k : Int) ∧ (k : Int) < 32 by omega)]
 have HLen := LH (flen_any HF0.out HUp.out k hk)
 go_wp2_with fail
 refine HLen.out.mono ?_
 rintro e w1 ⟨rfl, hb1⟩
 have HB1 := LH (HB0.out.later hb1)
 have HF1 := LH (HF0.out.below hb1)
 have HW1 := LH (HW0.out.trans (hb1.mono HW0.out.size))
 generalize (S.all k).length = N0 at *
 clear hb1 HLen
 obtain ⟨V, hfv⟩ := HF1.out.v
 have HFV := LH hfv
 clear hfv
 go_upto_region 5 with fail
 have HOg : Hid (OwnI w1 (V k) (S.g k)) := LH (by have := HFV.out.inn.rows k (by omega); rwa [S.at_g hk] at this)
 have HLg : Hid ((S.g k).length ≤ 900000) := LH (by have := HUp.out k (by omega); rwa [S.at_g hk] at this)
 have hfn : f ∉ (rowOf (V k)).toList := fun hm => (HFV.out.inn.neF k (by omega)).1 (by simpa using hm)
 have hqR : Hid (∀ b, rowOf (V k) = some b → b < q) := LH (fun b hb => HRlt.out b (HFV.out.rows k (by omega) b hb))
 have r0 := fun x => near_cell (L := (rowOf (V k)).toList) (HFV.out.inn.g hk) hfn x
 have hC1 : ∃ x : Near (rowOf (V k)).toList w1, w1.drew = x.val := near_of (Touch.ofBelow (later_below (later_drew w1)))
 have HD1 : Hid (Below w1.heap.size w1 w1.drew) := LH (later_below (later_drew w1))
 clear hfn
 refine wp_region_seg (C := fun w' => ∃ x : Near (rowOf (V k)).toList w1, w' = x.val) [.fl [0, 1, 2, 3, 4, 5, 6, 7, 8, 10, 11], .sq [9] true, .sq [12, 13] false] (by kernel_rfl) (by kernel_rfl) (by intro c a d v w h; cases d <;> exact h) ?_
 simp only [segs, picks, List.getElem?_cons_succ, List.getElem?_cons_zero]
 refine wpSeg_fl hC1 ?_
 repeat (first | go_big_quiet_step (fail) | quiet_step (fail))
 refine wpQuiet_nil ?_
 clear r0
 generalize w1.drew = wd at *
 have HOd : Hid (OwnI wd (V k) (S.g k)) := LH (HOg.out.keep (fun b hb => HD1.out.block b (HOg.out.lt b hb)))
 have HBd := LH (HB1.out.later HD1.out)
 have HDel := LH (deleteI_any HOd.out (by have := HLg.out; omega) lo hi q (q + 1) (HBd.out.cell 0 0 rfl rfl) (HBd.out.cell 1 0 rfl rfl) (fun e => Nat.lt_irrefl _ (hqR.out _ e)) (fun e => by have := hqR.out _ e; omega))
 refine wpSeg_sq (fun K hK => ?_)
 go_wp2_with fail
 refine HDel.out.mono ?_
 rintro e w2 ⟨v2, rfl, ho2, hrow2, hg2⟩
 have HO2 := LH ho2
 have HRow2 := LH hrow2
 have HG2 := LH hg2
 have hC2 := near_of ((Touch.ofBelow HD1.out).trans (grown_touchO hg2))
 clear ho2 hrow2 hg2 HDel
 go_wp2_with fail
 refine hK _ _ (fun _ => hC2) ?_
 clear hK K
 have hst := step_g HFV.out.inn hk HFV.out.f HFV.out.mb HFV.out.lt HD1.out HG2.out HO2.out (fun b hb => .inl (by rw [← HRow2.out]; exact hb))
 have hos : (w2.setCell ⟨f, k, none⟩ v2).os = w1.os ∧ (w2.setCell ⟨f, k, none⟩ v2).tape = w1.tape ∧ (w2.setCell ⟨f, k, none⟩ v2).output = w1.output := ⟨HG2.out.os.trans HD1.out.os, HG2.out.tape.trans HD1.out.tape, HG2.out.output.trans HD1.out.output⟩
 have HGo0 : Hid (FreeGo w1 (w2.setCell ⟨f, k, none⟩ v2) f mb n R (S.rmTo k lo hi 0)) := LH (by rw [FL.rmTo_zero]; exact hst.go HFV.out.inn (by omega) HFV.out.f HFV.out.mb HFV.out.lt HFV.out.rows hos)
 have HFh : Hid (w2.heap[f]? = some (.cells ((List.range 32).map V ++ [Value.map (some mb)]).toArray 255 (0, 0))) := LH (by
  have := (HG2.out.block f (Nat.lt_of_lt_of_le (HFV.out.lt f HFV.out.f) HD1.out.size) (fun e => (HFV.out.inn.neF k (by omega)).1 e.symm)).trans (HD1.out.block f (HFV.out.lt f HFV.out.f))
  exact this.trans HFV.out.inn.head)
 have fr : w2.frozen? ⟨f, k, none⟩ = false := frozen_of_row _ _ _ _ _ HFh.out
 have ck1 : w2.cell? ⟨f, k, none⟩ = some (V k) := (cell_of_row _ _ k _ _ _ HFh.out).trans (HFV.out.inn.lt hk)
 obtain ⟨a', c', e', _⟩ := HO2.out.cells
 obtain ⟨l', hl'⟩ : ∃ l', l' = (outside lo hi (S.g k)).length := ⟨_, rfl⟩
 rw [← hl'] at e'
 subst e'
 clear hst hl' hos
 refine wpSeg_last ?_
 go_wp2_with fail
 generalize w2.setCell _ _ = w3 at *
 clear ck1 fr HFh HO2 HRow2 HG2 HOd HOg hC1 hC2 HBd HD1 hqR
 go_loopw [35] (fun iv wr => ∃ i : Nat, i ≤ 4 ∧ iv = .int .i64 (i : Int) ∧ Hid (FreeGo w1 wr f mb (n + i) R (S.rmTo k lo hi i))) (fun iv _ => 4 - (intOf iv).toNat)
 case atStart => exact ⟨0, by omega, rfl, HGo0⟩
 case round =>
  obtain ⟨i, hi4, rfl, HGo⟩ := hrel
  obtain ⟨R1, hfa, ht1, hr1⟩ := HGo.out
  have HT1 := LH ht1
  have HR1 := LH hr1
  have HUpr : Hid ((S.rmTo k lo hi i).upto 900000) := LH (FL.rmTo_upto HUp.out k lo hi i)
  by_cases hlt : i < 4
  case neg =>
   obtain rfl : i = 4 := by omega
   have HLen := LH (flen_any hfa HUpr.out k hk)
   clear hfa ht1 hr1
   generalize ((S.rmTo k lo hi 4).all k).length = N1 at *
   go_wp2_with fail
   refine HLen.out.mono ?_
   rintro e w5 ⟨rfl, hb5⟩
   have HFin : Hid (FreeGo w w5 f mb (n + 4) R (S.remove k lo hi)) := LH (by
    have h1 := HGo.out.later hb5
    rw [FL.rmTo_all] at h1
    exact h1.own HQ.out HW1.out)
   clear hb5
   go_wp2_with fail
   exact HP.out _ _ HFin.out
  obtain ⟨V1, hfv⟩ := hfa.v
  have HMem := LH (Mem.one wr #[.int .i64 (i : Int), .int .i64 (k : Int)] 288)
  have HFV1 := LH (hfv.below HMem.out.below)
  have HFVr := LH hfv.lt
  have hfvrows := LH hfv.rows
  have HW2 := LH HMem.out.below
  have HStep := LH (FL.rmTo_succ S k lo hi i)
  have hq1R : Hid (∀ b ∈ R, b < q) := HRlt
  have HBr : Hid (wr.cell? ⟨q, 0, none⟩ = some (.int .i64 (lo : Int)) ∧ wr.cell? ⟨q + 1, 0, none⟩ = some (.int .i64 (hi : Int))) := LH ⟨cell_of_touch ht1 (fun hm => Nat.lt_irrefl q (HRlt.out q hm)) (HB1.out.cell 0 0 rfl rfl), cell_of_touch ht1 (fun hm => by have := HRlt.out (q + 1) hm; omega) (HB1.out.cell 1 0 rfl rfl)⟩
  have HQ1 := LH (HB1.out.glt 1 rfl)
  generalize S.rmTo k lo hi i = T at *
  clear hfa ht1 hr1 hfv
  go_upto_region 10 with fail
  obtain ⟨qs, hqs⟩ : ∃ qs, qs = wr.heap.size := ⟨_, rfl⟩
  rw [← hqs] at HMem ⊢
  have HQs := LH hqs
  clear hqs
  generalize wr.alloc _ = wa at *
  have hsl : slotI i k < 160 := by unfold slotI; omega
  have hkey := key_slot (i : Int) (k : Int) (wf_small i (by omega)) (wf_small k (by omega))
  have r0 := fun x => later_cell (HMem.out.cell 0 0 rfl rfl) x
  have r1 := fun x => later_cell (HMem.out.cell 0 1 rfl rfl) x
  have r2 := fun x => later_cell HFV1.out.inn.m x
  refine wp_region_seg (C := fun w' => ∃ x : Later (wa), w' = x.val) [.fl [0, 1, 2, 3, 4], .sq [5, 6] false, .fl [7, 8, 9], .sq [10] false] (by kernel_rfl) (by kernel_rfl) (by intro c a d v w h; cases d <;> exact h) ?_
  simp only [segs, picks, List.getElem?_cons_succ, List.getElem?_cons_zero]
  have hC3 := later_drew (wa)
  refine wpSeg_fl hC3 ?_
  repeat (first | go_big_quiet_step (fail) | quiet_step (fail))
  refine wpQuiet_nil ?_
  clear r0 r1 r2
  have HD3 : Hid (Below wa.heap.size wa wa.drew) := LH (later_below hC3)
  generalize wa.drew = wb at *
  have HFb := LH (HFV1.out.below HD3.out)
  have HMb := LH (HMem.out.later HD3.out)
  have HBb : Hid (wb.cell? ⟨q, 0, none⟩ = some (.int .i64 (lo : Int)) ∧ wb.cell? ⟨q + 1, 0, none⟩ = some (.int .i64 (hi : Int))) := LH (by
   have hbb := HW2.out.trans (HD3.out.mono HW2.out.size)
   exact ⟨(hbb.cell (p := ⟨q, 0, none⟩) (World.block_lt_of_cell? _ _ HBr.out.1)).trans HBr.out.1, (hbb.cell (p := ⟨q + 1, 0, none⟩) (World.block_lt_of_cell? _ _ HBr.out.2)).trans HBr.out.2⟩)
  obtain ⟨M, hm, hv⟩ := HFb.out.inn.map
  have HM := LH hm
  have HV := LH hv
  have HVi := LH (hv i k hlt hk)
  have HOs : Hid (OwnI wb (V1 (slotI i k)) (T.c i k)) := LH (by have := HFb.out.inn.rows (slotI i k) hsl; rwa [T.at_c i hk] at this)
  have HLs : Hid ((T.c i k).length ≤ 900000) := LH (by have := HUpr.out (slotI i k) hsl; rwa [T.at_c i hk] at this)
  clear hm hv
  obtain ⟨sl, hsle⟩ : ∃ sl, sl = slotI i k := ⟨_, rfl⟩
  rw [← hsle] at HVi HOs hsl
  have HSl := LH hsle
  clear hsle
  cases hM : M (pairKey i k) with
  | none =>
   have HVn := HVi.out
   rw [hM] at HVn
   have HVn := LH HVn
   have HNext : Hid (FreeGo w1 wb f mb (n + (i + 1)) R (S.rmTo k lo hi (i + 1))) := LH (by
    have e0 : T.c i k = [] := by
     have h1 := HOs.out
     rw [← HVn.out] at h1
     obtain ⟨a, c, e, _⟩ := h1.cells
     injection e with _ e2 _
     exact List.length_eq_zero_iff.1 e2.symm
    have e1 : S.rmTo k lo hi (i + 1) = T := by
     rw [HStep.out, e0]
     have := T.setC_same i k
     rw [e0] at this
     exact this
    rw [e1]
    exact ((HGo.out.later HW2.out).later HD3.out).mono (by omega))
   have HMn := LH hM
   clear hM
   refine wpSeg_sq (fun K hK => ?_)
   go_wp2_with (refine wpList_vlook_ok rfl _ _ 252 rfl 288 35 keyed_slot Tryz.underlying252 _ (zero_ints _) mb (n + i) M rfl HM.out _ _ rfl hkey ?_; rw [HMn.out])
   go_wp2_with fail
   refine hK _ _ (fun h => nomatch h) ?_
   clear hK K
   refine wpSeg_fl hC3 ?_
   repeat (first | go_big_quiet_step (fail) | quiet_step (fail))
   refine wpQuiet_nil ?_
   refine wpSeg_last ?_
   go_wp2_with fail
   go_roundw
   case rel => exact ⟨i + 1, by omega, vint (by omega), HNext⟩
   case measure => simp [intOf]; omega
  | some v =>
   have HVs : Hid (V1 sl = v) := LH (by have := HVi.out; rw [hM] at this; exact this.symm)
   have HMn := LH hM
   clear hM
   refine wpSeg_sq (fun K hK => ?_)
   go_wp2_with (refine wpList_vlook_ok rfl _ _ 252 rfl 288 35 keyed_slot Tryz.underlying252 _ (zero_ints _) mb (n + i) M rfl HM.out _ _ rfl hkey ?_; rw [HMn.out])
   go_wp2_with fail
   refine hK _ _ (fun h => nomatch h) ?_
   clear hK K
   refine wpSeg_fl hC3 ?_
   repeat (first | go_big_quiet_step (fail) | quiet_step (fail))
   refine wpQuiet_nil ?_
   refine wpSeg_last ?_
   go_upto_region 12 with fail
   have hfn : f ∉ (rowOf v).toList := fun hm => (HFb.out.inn.neF sl hsl).1 (by rw [HVs.out]; simpa using hm)
   have hqn : qs ∉ (rowOf v).toList := fun hm => by
    have h1 := HFVr.out qs (hfvrows.out sl hsl qs (by rw [HVs.out]; simpa using hm))
    have h2 := HQs.out
    omega
   have r0 := fun x => near_cell (L := (rowOf v).toList) (HMb.out.cell 0 0 rfl rfl) hqn x
   have r1 := fun x => near_cell (L := (rowOf v).toList) (HMb.out.cell 0 1 rfl rfl) hqn x
   have r2 := fun x => near_cell (L := (rowOf v).toList) HFb.out.inn.m hfn x
   have hC4 : ∃ x : Near (rowOf v).toList wb, wb.drew = x.val := near_of (Touch.ofBelow (later_below (later_drew wb)))
   have HD4 : Hid (Below wb.heap.size wb wb.drew) := LH (later_below (later_drew wb))
   clear hfn hqn hC3
   refine wp_region_seg (C := fun w' => ∃ x : Near (rowOf v).toList wb, w' = x.val) [.fl [0, 1, 2, 3, 4, 5, 6], .sq [7] true, .sq [8] false] (by kernel_rfl) (by kernel_rfl) (by intro c a d v w h; cases d <;> exact h) ?_
   simp only [segs, picks, List.getElem?_cons_succ, List.getElem?_cons_zero]
   refine wpSeg_fl hC4 ?_
   repeat (first | go_big_quiet_step (fail) | quiet_step (fail))
   refine wpQuiet_nil ?_
   clear r0 r1 r2
   generalize wb.drew = wc at *
   have HOc : Hid (OwnI wc v (T.c i k)) := LH ((by rw [← HVs.out]; exact HOs.out : OwnI wb v (T.c i k)).keep (fun b hb => HD4.out.block b ((by rw [← HVs.out]; exact HOs.out : OwnI wb v (T.c i k)).lt b hb)))
   have hvq : ∀ b, rowOf v = some b → b ≠ q ∧ b ≠ q + 1 := fun b hb => by
    have h1 := hfvrows.out sl hsl b (by rw [HVs.out]; exact hb)
    rcases HR1.out b h1 with c | c
    ·have := HRlt.out b c; omega
    ·have := HQ1.out; omega
   have HDel := LH (deleteI_any HOc.out (by have := HLs.out; omega) lo hi q (q + 1) ((HD4.out.cell (p := ⟨q, 0, none⟩) (World.block_lt_of_cell? _ _ HBb.out.1)).trans HBb.out.1) ((HD4.out.cell (p := ⟨q + 1, 0, none⟩) (World.block_lt_of_cell? _ _ HBb.out.2)).trans HBb.out.2) (fun e => (hvq _ e).1 rfl) (fun e => (hvq _ e).2 rfl))
   clear hvq
   refine wpSeg_sq (fun K hK => ?_)
   go_wp2_with fail
   refine HDel.out.mono ?_
   rintro e w4 ⟨v4, rfl, ho4, hrow4, hg4⟩
   have HO4 := LH ho4
   have HRow4 := LH hrow4
   have HG4 := LH hg4
   have HT4 : Hid (Touch (rowOf v).toList wb w4) := LH ((Touch.ofBelow HD4.out).trans (grown_touchO hg4))
   have hC5 := near_of HT4.out
   clear ho4 hrow4 hg4 HDel
   go_wp2_with fail
   refine hK _ _ (fun _ => hC5) ?_
   clear hK K
   have hmbn : rowOf v ≠ some mb := by rw [← HVs.out]; exact (HFb.out.inn.neF sl hsl).2
   have HM4 : Hid (VMap Tryz.prog 288 w4 mb (n + i) M) := LH (HM.out.block (HT4.out.block mb (HFb.out.lt mb HFb.out.mb) (fun hm => hmbn (by simpa using hm))))
   have HNm : Hid (n + i < maxLen) := LH (by unfold maxLen; omega)
   refine wpSeg_last ?_
   go_wp2_with (refine wpList_vstore rfl _ _ _ 252 rfl 288 35 keyed_slot Tryz.underlying252 mb (n + i) M rfl HM4.out HNm.out _ _ _ rfl rfl hkey ?_; intro w5 hm5 hg5; have HM5 := LH hm5; have HG5 := LH hg5; clear hm5 hg5)
   have hst := step_ca (v := v4) (xs := outside lo hi (T.c i k)) HFb.out.inn hlt hk HFb.out.f HFb.out.mb HFb.out.lt HV.out (fun b hb h1 h2 => (HG5.out.block b (Nat.lt_of_lt_of_le hb HT4.out.size) (fun e => h1 (Option.some.inj e.symm).symm)).trans (HT4.out.block b hb (fun hm => h2 (by rw [← HSl.out, HVs.out]; simpa using hm)))) (Nat.le_trans HT4.out.size HG5.out.size) HM5.out
    (HO4.out.keep (fun b hb => HG5.out.block b (HO4.out.lt b hb) (fun e => hmbn (by rw [← HRow4.out, hb]; exact e))))
    (fun b hb => .inl (by rw [← HSl.out, HVs.out, ← HRow4.out]; exact hb))
   have hos : w5.os = wb.os ∧ w5.tape = wb.tape ∧ w5.output = wb.output := ⟨HG5.out.os.trans HT4.out.os, HG5.out.tape.trans HT4.out.tape, HG5.out.output.trans HT4.out.output⟩
   have HNext : Hid (FreeGo w1 w5 f mb (n + (i + 1)) R (S.rmTo k lo hi (i + 1))) := LH (by
    rw [HStep.out]
    exact FreeGo.more ((HT1.out.later HW2.out).later HD3.out) HR1.out HFb.out (by rw [← HSl.out]; exact hsl) hst hos)
   clear hst hos
   go_roundw
   case rel => exact ⟨i + 1, by omega, vint (by omega), HNext⟩
   case measure => simp [intOf]; omega
end Go.Proofs.YtbimcogdbafjpaaGreat
namespace Go.Proofs.YtbimcogdbafjpaaGreat
open Go.RowKit
def relN (h : Hd) : Int := if h.k = 1 then 1 else h.l
def Bm.release (m : Bm) (b : Int) : BmR :=
 if (hdGet m.list b).k ≠ 1 ∧ (hdGet m.list b).k ≠ 2 then ⟨m, 0, 42⟩ else
 (fun r1 : PutR => if r1.err ≠ 0 then ⟨⟨r1.dev, r1.list, m.free⟩, 0, r1.err⟩ else
  (fun r2 : PutR => if r2.err ≠ 0 then ⟨⟨r2.dev, r2.list, m.free⟩, 0, r2.err⟩ else ⟨⟨r2.dev, r2.list, (giveR m.free b (relN (hdGet m.list b))).1⟩, 0, (giveR m.free b (relN (hdGet m.list b))).2⟩)
   (putAll r1.dev r1.list (b + 1) (List.replicate (relN (hdGet m.list b) - 1).toNat ⟨0, 0, 0⟩)))
  (putAll m.dev m.list b [⟨0, 0, 0⟩])
def BmDone1 (w : World) (X : MF) (n B : Nat) (r : BmR) : Ending → World → Prop := fun e w' => e = .returned (.int .i64 r.err) ∧ ManAt w' X n B r.bm ∧ Touch X.hot w w'
theorem hdGet_in {l : List Hd} {b : Int} (h : (hdGet l b).k ≠ 0) : 1 ≤ b ∧ b < l.length := by
 unfold hdGet at h
 by_cases c : b < 1 ∨ (l.length : Int) ≤ b
 ·rw [if_pos c] at h; exact absurd rfl h
 ·omega
theorem hdCs_zeros (n : Nat) : hdCs (List.replicate n ⟨0, 0, 0⟩) = List.replicate (n * 3) (.int .i64 0) := by
 induction n with
 | zero => rfl
 | succ n ih =>
  rw [List.replicate_succ, show (⟨0, 0, 0⟩ : Hd) :: List.replicate n ⟨0, 0, 0⟩ = [⟨0, 0, 0⟩] ++ List.replicate n ⟨0, 0, 0⟩ from rfl, hdCs_append, ih, show (n + 1) * 3 = 3 + n * 3 by omega, ← List.replicate_append_replicate]
  rfl
set_option maxHeartbeats 4000000 in
set_option maxRecDepth 20000 in
theorem brelease_any {w : World} {X : MF} {n B : Nat} {m : Bm} (h : ManAt w X n B m) (hB : B ≤ 1000) (hn : n < 1000000000000) {N : Nat} (hN : N ≤ 999000000) (ho : m.dev.ok N) (hi : m.dev.inv) (hl : ∀ i, (m.list.getD i default).l ≤ 100000) (b : Int) :
  Calls Tryz.prog 157 #[.pointer (some ⟨X.m, 0, none⟩), .int .i64 b] w (BmDone1 w X (n + 1) B (m.release b)) := by
 generalize hr : m.release b = r
 generalize hP : BmDone1 w X (n + 1) B r = Post
 have HP := LH hP
 have HA := LH h
 have HLB : Hid (m.list.length = B) := LH h.tab.len
 have HLF : Hid (m.free.length = B) := LH h.lenF
 have HV : Hid (r = if (hdGet m.list b).k ≠ 1 ∧ (hdGet m.list b).k ≠ 2 then ⟨m, 0, 42⟩ else
  (fun r1 : PutR => if r1.err ≠ 0 then ⟨⟨r1.dev, r1.list, m.free⟩, 0, r1.err⟩ else
  (fun r2 : PutR => if r2.err ≠ 0 then ⟨⟨r2.dev, r2.list, m.free⟩, 0, r2.err⟩ else ⟨⟨r2.dev, r2.list, (giveR m.free b (relN (hdGet m.list b))).1⟩, 0, (giveR m.free b (relN (hdGet m.list b))).2⟩)
   (putAll r1.dev r1.list (b + 1) (List.replicate (relN (hdGet m.list b) - 1).toNat ⟨0, 0, 0⟩)))
  (putAll m.dev m.list b [⟨0, 0, 0⟩])) := LH (by rw [← hr]; rfl)
 have HIn := LH (hdGet_in (l := m.list) (b := b))
 have HZ : Hid ((hdGet m.list b).l ≤ 100000) := LH (by
  unfold hdGet
  split
  ·simp
  ·exact hl _)
 have c0 := h.c0
 have HTg := LH (fun W (h : ManAt W X n B m) => tget_any (h.tab.at (fun e => (MF.notHot (MF.apart h.nd).t).1 e)) b (by rw [h.tab.len]; exact hB))
 clear h hP hr
 obtain ⟨k, c, z, he⟩ : ∃ k c z, hdGet m.list b = ⟨k, c, z⟩ := ⟨_, _, _, rfl⟩
 rw [he] at HV HIn HZ HTg
 unfold Hd.val at HTg
 dsimp only at HV HIn HZ HTg
 clear he
 go_enter Tryz.func157, Tryz.ntmps157
 go_wp2_with fail
 refine (HTg.out _ HA.out).mono ?_
 rintro e w1 ⟨rfl, hb1⟩
 have HA1 := LH (HA.out.below hb1)
 have HT1 := LH (Touch.ofBelow (L := X.hot) hb1)
 clear hb1 c0 HTg HA
 have HM := LH (Mem.one w1 #[.int .i64 k, .int .i64 c, .int .i64 z] 104)
 have HA2 := LH (HA1.out.below HM.out.below)
 have HT2 := LH (HT1.out.later HM.out.below)
 clear HA1 HT1
 go_upto_region 2 with fail
 obtain ⟨q, hq⟩ : ∃ q, q = w1.heap.size := ⟨_, rfl⟩
 rw [← hq] at HM ⊢
 generalize w1.alloc _ = w2 at *
 clear hq
 have d0 := HM.out.cell 0 0 rfl rfl
 have d2 := HM.out.cell 0 2 rfl rfl
 by_cases hk : k ≠ 1 ∧ k ≠ 2
 ·have HE : Hid (r = ⟨m, 0, 42⟩) := LH (by rw [HV.out, if_pos hk])
  have q1 : (k == 1) = false := by simpa using hk.1
  have q2 : (k == 2) = false := by simpa using hk.2
  clear hk
  go_wp2_with fail
  rw [← HP.out, HE.out]
  exact ⟨rfl, HA2.out.mono (by omega), HT2.out⟩
 have hb := HIn.out (by omega)
 rw [HLB.out] at hb
 obtain ⟨b, rfl⟩ := Int.eq_ofNat_of_zero_le (show 0 ≤ b by omega)
 obtain ⟨z', hz'⟩ : ∃ z', z' = relN ⟨k, c, z⟩ := ⟨_, rfl⟩
 have hzk : (k = 1 ∧ z' = 1) ∨ (k = 2 ∧ z' = z) := by
  rw [hz']; unfold relN
  by_cases h1 : k = 1
  ·exact .inl ⟨h1, by rw [if_pos h1]⟩
  ·exact .inr ⟨by omega, by rw [if_neg h1]⟩
 rw [← hz'] at HV
 have HV2 : Hid (r = (fun r1 : PutR => if r1.err ≠ 0 then ⟨⟨r1.dev, r1.list, m.free⟩, 0, r1.err⟩ else
  (fun r2 : PutR => if r2.err ≠ 0 then ⟨⟨r2.dev, r2.list, m.free⟩, 0, r2.err⟩ else ⟨⟨r2.dev, r2.list, (giveR m.free (b : Int) z').1⟩, 0, (giveR m.free (b : Int) z').2⟩)
   (putAll r1.dev r1.list ((b : Int) + 1) (List.replicate (z' - 1).toNat ⟨0, 0, 0⟩)))
  (putAll m.dev m.list (b : Int) [⟨0, 0, 0⟩])) := LH (by rw [HV.out, if_neg hk])
 have hzz := HZ.out
 have hzm : z' ≤ 100000 := by rcases hzk with ⟨_, h⟩ | ⟨_, h⟩ <;> omega
 have hb1 : 1 ≤ b := by omega
 have hb2 : b < B := by omega
 clear HV HIn hb hk hz'
 go_upto_block 0 with fail
 go_cut [6] from 9 (fun v wc => v = .int .i64 z' ∧ wc = w2)
 case first =>
  rcases hzk with ⟨rfl, rfl⟩ | ⟨rfl, rfl⟩
  ·go_wp2_with fail
   go_meet
   case rel => exact ⟨rfl, rfl⟩
  ·go_wp2_with fail
   go_meet
   case rel => exact ⟨rfl, rfl⟩
 case rest =>
  obtain ⟨rfl, rfl⟩ := hcut
  clear d0 d2 hzk
  have c0 := HA2.out.c0
  have hbn := below_alloc wc (.cells #[.int .i64 0, .int .i64 0, .int .i64 0] 104)
  have HC2 : Hid (Cells (wc.alloc (.cells #[.int .i64 0, .int .i64 0, .int .i64 0] 104)) (some ⟨wc.heap.size, 0, none⟩) (hdCs [⟨0, 0, 0⟩])) := LH (by
   rw [hdCs_single]
   exact (RowAt.cells ⟨_, heap_alloc_new _ _, [], rfl⟩))
  have HPut := LH (mput_any (HA2.out.below hbn) hB (by omega) ho (some ⟨wc.heap.size, 0, none⟩) 1 1 [⟨0, 0, 0⟩] rfl HC2.out (fun _ b o s e hm => by
   cases e
   exact HA2.out.lt (Nat.le_refl _) hm) (by omega) (b : Int))
  have HTa := LH (HT2.out.later hbn)
  clear hbn HC2
  go_wp2_with fail
  refine HPut.out.mono ?_
  rintro e w3 ⟨rfl, ha3, ht3⟩
  dsimp only at ha3 ⊢
  obtain ⟨r1, hr1⟩ : ∃ r1, r1 = putAll m.dev m.list (b : Int) [⟨0, 0, 0⟩] := ⟨_, rfl⟩
  rw [← hr1] at HV2 ha3 ⊢
  have HLen1 : Hid (r1.list.length = B) := LH (by rw [hr1, putAll_len]; exact HLB.out)
  have HOk1 : Hid (r1.dev.ok (N + 1 + 200000)) := LH (by have := putAll_ok hi ho m.list (b : Int) [⟨0, 0, 0⟩]; rw [← hr1] at this; exact this)
  have HV3 : Hid (r = if r1.err ≠ 0 then ⟨⟨r1.dev, r1.list, m.free⟩, 0, r1.err⟩ else
   (fun r2 : PutR => if r2.err ≠ 0 then ⟨⟨r2.dev, r2.list, m.free⟩, 0, r2.err⟩ else ⟨⟨r2.dev, r2.list, (giveR m.free (b : Int) z').1⟩, 0, (giveR m.free (b : Int) z').2⟩)
    (putAll r1.dev r1.list ((b : Int) + 1) (List.replicate (z' - 1).toNat ⟨0, 0, 0⟩))) := LH HV2.out
  have HA3 := LH ha3
  have HT3 := LH (HTa.out.trans ht3)
  clear ha3 ht3 HV2 HPut HTa HT2 HA2 c0 hr1
  obtain ⟨e1, he1⟩ : ∃ e1, e1 = r1.err := ⟨_, rfl⟩
  rw [← he1] at HV3 ⊢
  clear he1
  by_cases hz : e1 = 0
  case neg =>
   have hz' : (e1 != 0) = true := by simpa using hz
   have HE : Hid (r = ⟨⟨r1.dev, r1.list, m.free⟩, 0, e1⟩) := LH (by rw [HV3.out, if_pos hz])
   clear hz
   go_wp2_with fail
   rw [← HP.out, HE.out]
   exact ⟨rfl, HA3.out.mono (by omega), HT3.out⟩
  subst hz
  obtain ⟨r2, hr2⟩ : ∃ r2, r2 = putAll r1.dev r1.list ((b : Int) + 1) (List.replicate (z' - 1).toNat ⟨0, 0, 0⟩) := ⟨_, rfl⟩
  have HV4 : Hid (r = if r2.err ≠ 0 then ⟨⟨r2.dev, r2.list, m.free⟩, 0, r2.err⟩ else ⟨⟨r2.dev, r2.list, (giveR m.free (b : Int) z').1⟩, 0, (giveR m.free (b : Int) z').2⟩) := LH (by rw [HV3.out, if_neg (by simp), ← hr2])
  have HR2 := LH hr2
  clear HV3 hr2
  go_upto_if 35 with fail
  go_cut [] from 9 (fun wd => r2.err = 0 ∧ ManAt wd X n B ⟨r2.dev, r2.list, m.free⟩ ∧ Touch X.hot w wd)
  case first =>
   by_cases hz1 : z' ≤ 1
   ·have HE : Hid (r2 = ⟨r1.dev, r1.list, 0⟩) := LH (by
     rw [HR2.out, show (z' - 1).toNat = 0 by omega]
     exact putAll_none _ (by omega) (by rw [HLen1.out]; omega))
    have q3 : decide (1 < z') = false := by simp; omega
    have q3p : ¬ 1 < z' := by omega
    go_wp2_with fail
    go_meet
    case rel => rw [HE.out]; exact ⟨rfl, HA3.out, HT3.out⟩
   ·obtain ⟨y, hy⟩ : ∃ y : Nat, y = (z' - 1).toNat := ⟨_, rfl⟩
    have hy1 : 1 ≤ y := by omega
    have hy9 : y ≤ 100000 := by omega
    have HY : Hid (z' - 1 = (y : Int)) := LH (by omega)
    rw [← hy] at HR2
    have q3p : 1 < z' := by omega
    clear hy hz1
    have c0 := HA3.out.c0
    go_upto_region 12 with fail
    have r0 := fun x => later_cell c0 x
    clear c0
    have hw1 : IntKind.i64.wrap ((b : Int) + 1) = (b : Int) + 1 := IntWalk.i64_in _ (by omega)
    have hw2 : IntKind.i64.wrap (z' - 1) = (y : Int) := by rw [IntWalk.i64_in _ (by omega)]; exact HY.out
    refine wp_region_seg (C := fun w' => ∃ x : Later (w3), w' = x.val) [.fl [0, 1, 2, 3, 4, 5, 6, 7], .sq [8] true, .sq [9, 10] false] (by kernel_rfl) (by kernel_rfl) (by intro c a d v w h; cases d <;> exact h) ?_
    simp only [segs, picks, List.getElem?_cons_succ, List.getElem?_cons_zero]
    have hC1 := later_drew (w3)
    refine wpSeg_fl hC1 ?_
    repeat (first | go_big_quiet_step (fail) | quiet_step (fail))
    refine wpQuiet_nil ?_
    clear r0
    have HA3d := LH (HA3.out.below (later_below hC1))
    have HT3d := LH (HT3.out.later (later_below hC1))
    generalize w3.drew = w3d at *
    refine wpSeg_sq (fun K hK => ?_)
    go_wp2_with (at_make; refine wpList_make_rows elHd w3d.heap.size y (z := .int .i64 0) (by intro i hi; simp at hi; rcases i with _ | _ | _ | i <;> first | rfl | omega) (by omega) (by omega) (by omega) (by decide) (Nat.le_refl _) rfl rfl rfl rfl ?_; intro w4 hown hgrow; have HO4 := LH hown; have HG4 := LH hgrow; clear hown hgrow)
    have HB4 := LH (below_grown HG4.out (Nat.le_refl _))
    have hC2 := later_step hC1 HB4.out
    go_wp2_with fail
    refine hK _ _ (fun _ => hC2) ?_
    clear hK K
    refine wpSeg_last ?_
    go_wp2_with fail
    refine (mput_any (HA3d.out.below HB4.out) hB (N := N + 1 + 200000) (by omega) HOk1.out _ y y (List.replicate y ⟨0, 0, 0⟩) (by simp) (by rw [hdCs_zeros]; exact Cells.owned2 HO4.out) (fun _ b o s e hm => ?_) (by omega) ((b : Int) + 1)).mono ?_
    ·cases e
     exact HA3d.out.lt (Nat.le_refl _) hm
    rintro e w5 ⟨rfl, ha5, ht5⟩
    dsimp only at ha5 ⊢
    rw [← HR2.out] at ha5 ⊢
    have HA5 := LH ha5
    have HT5 := LH ((HT3d.out.later HB4.out).trans ht5)
    clear ha5 ht5 hC1 hC2
    obtain ⟨e2, he2⟩ : ∃ e2, e2 = r2.err := ⟨_, rfl⟩
    rw [← he2] at HV4 ⊢
    have HE2 := LH he2
    clear he2
    by_cases hz : e2 = 0
    ·subst hz
     go_wp2_with fail
     go_meet
     case rel => exact ⟨HE2.out.symm, HA5.out, HT5.out⟩
    ·have hz' : (e2 != 0) = true := by simpa using hz
     have HE : Hid (r = ⟨⟨r2.dev, r2.list, m.free⟩, 0, e2⟩) := LH (by rw [HV4.out, if_pos hz])
     clear hz
     go_wp2_with fail
     rw [← HP.out, HE.out]
     exact ⟨rfl, HA5.out.mono (by omega), HT5.out⟩
  case rest =>
   obtain ⟨he2, ha5, ht5⟩ := hcut
   have HE : Hid (r = ⟨⟨r2.dev, r2.list, (giveR m.free (b : Int) z').1⟩, 0, (giveR m.free (b : Int) z').2⟩) := LH (by rw [HV4.out, if_neg (by rw [he2]; simp)])
   have HA5 := LH ha5
   have HT5 := LH ht5
   have c1 := HA5.out.c1
   clear he2 ha5 ht5 HV4
   go_wp2_with fail
   refine (mgive_any HA5.out hB hn (b : Int) z').mono ?_
   rintro e w6 ⟨rfl, ha6, ht6⟩
   have HA6 := LH ha6
   have HT6 := LH (HT5.out.trans ht6)
   clear ha6 ht6
   go_wp2_with fail
   rw [← HP.out, HE.out]
   exact ⟨rfl, HA6.out, HT6.out⟩
theorem aggGe : Agg Tryz.prog 46 #[.int .i64 0] := ⟨⟨_, Tryz.underlying46, rfl⟩, by kernel_rfl⟩
set_option maxHeartbeats 1000000 in
theorem bgeom_any {w : World} {X : MF} {n B : Nat} {m : Bm} (h : ManAt w X n B m) :
  Calls Tryz.prog 17 #[.pointer (some ⟨X.m, 0, none⟩)] w fun e w' => e = .returned (vgeom (B : Int)) ∧ Below w.heap.size w w' := by
 have HM := LH (Mem.one w #[.int .i64 0] 46)
 have c2 := (h.below HM.out.below).c2
 clear h
 unfold vgeom
 go_enter Tryz.func17, Tryz.ntmps17
 go_upto_region 1 with fail
 generalize w.alloc _ = w0 at *
 obtain ⟨q, hq⟩ : ∃ q, q = w.heap.size := ⟨_, rfl⟩
 rw [← hq] at HM ⊢
 have HQ := LH hq
 clear hq
 go_wp2_with (refine wpList_store_mem aggGe HM.out 0 rfl rfl rfl rfl rfl rfl rfl rfl ?_; intro w9 h9 _; have H9 := LH h9; clear h9)
 refine bodyPost_ret (results_cell_row rfl _ _ _ _ _ _ _ rfl (H9.out.exact 0 rfl) Tryz.underlying46 rfl (by kernel_rfl)) rfl ⟨rfl, H9.out.below⟩
set_option maxHeartbeats 1000000 in
theorem bfree_any {w : World} {X : MF} {n B : Nat} {m : Bm} (h : ManAt w X n B m) (hB : B ≤ 1000) :
  Calls Tryz.prog 90 #[.pointer (some ⟨X.m, 0, none⟩)] w fun e w' => e = .returned (.int .i64 (sumOf (runsOf m.free) : Nat)) ∧ Below w.heap.size w w' := by
 have c1 := h.c1
 have HI := LH (total_any h.ix (by rw [h.lenF]; omega))
 clear h
 go_enter Tryz.func90, Tryz.ntmps90
 go_wp2_with fail
 refine HI.out.mono ?_
 rintro e w1 ⟨rfl, hb1⟩
 go_wp2_with fail
 go_ret
 exact ⟨rfl, hb1⟩
set_option maxHeartbeats 1000000 in
theorem blongest_any {w : World} {X : MF} {n B : Nat} {m : Bm} (h : ManAt w X n B m) (hB : B ≤ 1000) :
  Calls Tryz.prog 143 #[.pointer (some ⟨X.m, 0, none⟩)] w fun e w' => e = .returned (.int .i64 (longOf (runsOf m.free) : Nat)) ∧ Below w.heap.size w w' := by
 have c1 := h.c1
 have HI := LH (longest_any h.ix (by rw [h.lenF]; omega))
 clear h
 go_enter Tryz.func143, Tryz.ntmps143
 go_wp2_with fail
 refine HI.out.mono ?_
 rintro e w1 ⟨rfl, hb1⟩
 go_wp2_with fail
 go_ret
 exact ⟨rfl, hb1⟩
def Dev.ref (S : Dev) : RDev := ⟨S.cache, S.lasting, S.flushed, S.dirty, S.pending, S.steps, if S.armed = true then S.fuse else -1, S.dead⟩
structure Dev.fit (S : Dev) (N : Nat) : Prop where
 wf : S.wf
 ok : S.ok N
 arm : S.armed = true → 0 ≤ S.fuse
theorem Dev.fit.mono {S : Dev} {N M : Nat} (h : S.fit N) (hM : N ≤ M) : S.fit M := ⟨h.wf, h.ok.mono hM, h.arm⟩
theorem Dev.fit_fuse {S : Dev} {N : Nat} (h : S.fit N) : -1 ≤ S.ref.fuse ∧ S.ref.fuse < 9223372036854775808 := by
 unfold Dev.ref
 dsimp only
 have := h.ok
 unfold Dev.ok at this
 split
 ·rename_i c; have := h.arm c; omega
 ·omega
theorem Dev.step_fit {S : Dev} {N : Nat} (h : S.fit N) : S.step.fit (N + 1) := by
 refine ⟨Dev.step_wf h.wf, Dev.step_ok h.ok, ?_⟩
 unfold Dev.step
 have ha := h.arm
 have hst : S.stop = false → S.armed = true → ¬ S.fuse = 0 := fun h1 h2 => by unfold Dev.stop at h1; simp [h2] at h1; exact h1.2
 cases hs : S.stop
 ·intro c
  have c1 := ha c
  have c2 := hst hs c
  simp at c1 c2 ⊢
  omega
 ·exact ha
def RIn (v : Value) (b : Nat) : Prop := ∃ cs, v = .agg cs ∧ ∃ (i : Nat) (x : Addr) (n c : Nat), cs[i]? = some (.slice (some x) n c) ∧ x.block = b
theorem rin8 {an al aw ad ap : Option Addr} {n1 c1 n2 c2 n3 c3 n4 c4 n5 c5 : Nat} {k1 k2 : IntKind} {i1 i2 : Int} {b1 : Bool} {b : Nat} :
  RIn (.agg #[.slice an n1 c1, .slice al n2 c2, .slice aw n3 c3, .slice ad n4 c4, .slice ap n5 c5, .int k1 i1, .int k2 i2, .bool b1]) b ↔ ∃ a ∈ [an, al, aw, ad, ap], ∃ x, a = some x ∧ x.block = b := by
 constructor
 ·rintro ⟨cs, hcs, i, x, n, c, hi, hb⟩
  simp only [Value.agg.injEq] at hcs
  subst hcs
  rcases i with _ | _ | _ | _ | _ | _ | _ | _ | i
  all_goals first
   | (simp only [List.getElem?_toArray, List.getElem?_cons_zero, List.getElem?_cons_succ, Option.some.injEq, Value.slice.injEq] at hi; exact ⟨_, by simp, x, hi.1, hb⟩)
   | simp at hi
 ·rintro ⟨a, ha, x, rfl, hb⟩
  simp only [List.mem_cons, List.not_mem_nil, or_false] at ha
  rcases ha with rfl | rfl | rfl | rfl | rfl
  ·exact ⟨_, rfl, 0, x, _, _, rfl, hb⟩
  ·exact ⟨_, rfl, 1, x, _, _, rfl, hb⟩
  ·exact ⟨_, rfl, 2, x, _, _, rfl, hb⟩
  ·exact ⟨_, rfl, 3, x, _, _, rfl, hb⟩
  ·exact ⟨_, rfl, 4, x, _, _, rfl, hb⟩
theorem RAt.touch {w w' : World} {v : Value} {m : Nat} {R : RDev} (h : RAt w v m R) {L : List Nat} (ht : Touch L w w') (hL : m = 0 ∨ ∀ b, RIn v b → b ∉ L) : RAt w' v m R := by
 obtain ⟨an, cn, al, cl, aw, cw, ad, cd, ap, cp, rfl, h1, h2, h3, h4, h5⟩ := h.ex
 have key : ∀ (a : Option Addr) (vs : List Value), a ∈ [an, al, aw, ad, ap] → (m = 0 → vs = []) → Cells w a vs → Cells w' a vs := by
  intro a vs ha h0 hc
  rcases hc with hc | ⟨b, off, rfl, hc⟩
  ·exact .inl hc
  ·rcases hL with hm | hL
   ·exact .inl (h0 hm)
   ·exact .inr ⟨b, off, rfl, fun i v hi => cell_of_touch ht (hL b (rin8.2 ⟨_, ha, _, rfl, rfl⟩)) (hc i v hi)⟩
 have z : ∀ l : List Nat, l.length = 8 * m → m = 0 → l.map vu64 = [] := fun l hl hm => by subst hm; simp at hl; simp [hl]
 have z2 : ∀ l : List Bool, l.length = m → m = 0 → l.map Value.bool = [] := fun l hl hm => by subst hm; simp at hl; simp [hl]
 exact { h with ex := ⟨an, cn, al, cl, aw, cw, ad, cd, ap, cp, rfl, key _ _ (by simp) (z _ h.lenN) h1, key _ _ (by simp) (z _ h.lenL) h2, key _ _ (by simp) (z _ h.lenW) h3, key _ _ (by simp) (z2 _ h.lenD) h4, key _ _ (by simp) (z2 _ h.lenP) h5⟩ }
theorem RAt.old {w : World} {v : Value} {m : Nat} {R : RDev} (h : RAt w v m R) : m = 0 ∨ ∀ b, RIn v b → b < w.heap.size := by
 by_cases hm : m = 0
 ·exact .inl hm
 refine .inr fun b hb => ?_
 obtain ⟨an, cn, al, cl, aw, cw, ad, cd, ap, cp, rfl, h1, h2, h3, h4, h5⟩ := h.ex
 rw [rin8] at hb
 obtain ⟨a, ha, x, rfl, rfl⟩ := hb
 have key : ∀ vs : List Value, vs ≠ [] → Cells w (some x) vs → x.block < w.heap.size := by
  intro vs hne hc
  rcases hc with hc | ⟨b', off, he, hc⟩
  ·exact absurd hc hne
  ·cases he
   cases vs with
   | nil => exact absurd rfl hne
   | cons x xs => exact World.block_lt_of_cell? _ _ (hc 0 x rfl)
 have z : ∀ l : List Nat, l.length = 8 * m → l.map vu64 ≠ [] := fun l hl h => by simp at h; subst h; simp at hl; omega
 have z2 : ∀ l : List Bool, l.length = m → l.map Value.bool ≠ [] := fun l hl h => by simp at h; subst h; simp at hl; omega
 simp only [List.mem_cons, List.not_mem_nil, or_false] at ha
 rcases ha with rfl | rfl | rfl | rfl | rfl
 ·exact key _ (z _ h.lenN) h1
 ·exact key _ (z _ h.lenL) h2
 ·exact key _ (z _ h.lenW) h3
 ·exact key _ (z2 _ h.lenD) h4
 ·exact key _ (z2 _ h.lenP) h5
structure ROpen (w : World) (S : Dev) (an al aw ad ap : Option Addr) (m : Nat) (sv fz : Int) (dd : Bool) : Prop where
 k1 : Cells w an (S.cache.map vu64)
 k2 : Cells w al (S.lasting.map vu64)
 k3 : Cells w aw (S.flushed.map vu64)
 k4 : Cells w ad (S.dirty.map Value.bool)
 k5 : Cells w ap (S.pending.map Value.bool)
 hm : m = S.dirty.length
 hs : sv = S.steps
 hf : fz = S.ref.fuse
 hd : dd = S.dead
 cl : S.cache.length = 8 * m
theorem ropen {w : World} {v : Value} {S : Dev} (h : RAt w v S.dirty.length S.ref) {N : Nat} (hf : S.fit N) :
  ∃ an cn al cl aw cw ad cd ap cp m sv fz dd, v = .agg #[.slice an m cn, .slice al m cl, .slice aw m cw, .slice ad m cd, .slice ap m cp, .int .i64 sv, .int .i64 fz, .bool dd] ∧ ROpen w S an al aw ad ap m sv fz dd ∧ S.dirty.length = m ∧ m ≤ 125000 ∧ (0 ≤ sv ∧ sv ≤ N) ∧ (-1 ≤ fz ∧ fz < 9223372036854775808) := by
 obtain ⟨an, cn, al, cl, aw, cw, ad, cd, ap, cp, rfl, k1, k2, k3, k4, k5⟩ := h.ex
 have h1 := hf.ok
 unfold Dev.ok at h1
 have h2 := hf.wf.small
 have h3 := hf.wf.lenD
 exact ⟨an, cn, al, cl, aw, cw, ad, cd, ap, cp, _, _, _, _, rfl, ⟨k1, k2, k3, k4, k5, rfl, rfl, rfl, rfl, h3⟩, rfl, by omega, ⟨h1.1, h1.2.1⟩, Dev.fit_fuse hf⟩
theorem Dev.hold_wf {S : Dev} (h : S.wf) (j : Nat) (hj : j < S.dirty.length) : (S.hold j).wf := by
 have hs := seg_length S.cache j (by have := h.lenD; omega)
 unfold Dev.hold
 split
 ·exact ⟨h.lenL, by show (splice _ _ _).length = _; rw [length_splice _ _ _ (by rw [hs, h.lenF, h.lenD]; omega)]; exact h.lenF, by simp [h.lenP], h.lenD, h.small, h.u64L, h.u64C, splice_lt _ h.u64F (seg_lt _ h.u64C)⟩
 ·exact h
theorem Dev.flush_fit {S : Dev} {N : Nat} (h : S.fit N) (j : Int) : (S.flush j).fit (N + 1) := by
 have h1 := Dev.step_fit h
 unfold Dev.flush
 split
 ·exact h.mono (by omega)
 ·split
  ·exact h1
  ·rename_i c _
   have e4 := S.step_rest.2.2.2.1
   refine ⟨Dev.hold_wf h1.wf _ (by rw [e4]; omega), ?_, ?_⟩
   ·have := Dev.hold_same S.step j.toNat
    unfold Dev.ok
    rw [this.1, this.2]
    exact h1.ok
   ·unfold Dev.hold
    split <;> exact h1.arm
theorem Dev.flush_dl (S : Dev) (j : Int) : (S.flush j).dirty.length = S.dirty.length := by rw [(Dev.flush_len S j).2]
theorem flushRun_fit {S : Dev} {N : Nat} (h : S.fit N) (a : Nat) : ∀ k, (S.flushRun a k).dev.fit (N + k)
 | 0 => h
 | k + 1 => by
  rw [Dev.flushRun]
  split
  ·exact (flushRun_fit h a k).mono (by omega)
  ·exact Dev.flush_fit (flushRun_fit h a k) _
theorem flushRun_dl (S : Dev) (a : Nat) : ∀ k, (S.flushRun a k).dev.dirty.length = S.dirty.length
 | 0 => rfl
 | k + 1 => by
  rw [Dev.flushRun]
  split
  ·exact flushRun_dl S a k
  ·dsimp only; rw [Dev.flush_dl]; exact flushRun_dl S a k
end Go.Proofs.YtbimcogdbafjpaaGreat
namespace Go.Proofs.YtbimcogdbafjpaaGreat
theorem nat_ext {a b : List Nat} (hl : a.length = b.length) (h : ∀ i, a.getD i 0 = b.getD i 0) : a = b := by
 apply List.ext_getElem hl
 intro i h1 h2
 have := h i
 simpa [h1, h2] using this
theorem bool_ext {a b : List Bool} (hl : a.length = b.length) (h : ∀ i, a.getD i false = b.getD i false) : a = b := by
 apply List.ext_getElem hl
 intro i h1 h2
 have := h i
 simpa [h1, h2] using this
theorem Dev.store_ok0 {S : Dev} {i x : Nat} (h : S.storeE (i : Int) = 0) : i < S.cache.length ∧ (S.store (i : Int) x).cache = S.cache.set i x ∧ (S.store (i : Int) x).dirty = S.dirty.set (i / 8) true := by
 unfold Dev.storeE at h
 by_cases c1 : (i : Int) < 0 ∨ (S.cache.length : Int) ≤ (i : Int)
 ·rw [if_pos c1] at h; simp at h
 rw [if_neg c1] at h
 cases c2 : S.stop
 ·unfold Dev.store
  rw [if_neg c1, c2]
  simp only [Bool.false_eq_true, if_false]
  obtain ⟨e1, e2, e3, e4, e5⟩ := S.step_rest
  refine ⟨by omega, ?_, ?_⟩
  ·simp [Dev.put, e2]
  ·simp [Dev.put, e4]
 ·rw [c2] at h; simp at h
structure PutAt (S : Dev) (b : Nat) (l : List Hd) (i : Nat) (T : Dev) : Prop where
 inv : T.inv
 lenC : T.cache.length = S.cache.length
 lenD : T.dirty.length = S.dirty.length
 fits : i = 0 ∨ 256 + b + i ≤ S.cache.length
 cache : ∀ j, T.cache.getD j 0 = if 256 + b ≤ j ∧ j < 256 + b + i then encN ((j - 256 : Nat) : Int) (l.getD (j - 256 - b) default).k (l.getD (j - 256 - b) default).c (l.getD (j - 256 - b) default).l else S.cache.getD j 0
 dirty : ∀ q, (∀ k, k < i → (256 + b + k) / 8 ≠ q) → T.dirty.getD q false = S.dirty.getD q false
theorem putTo_at {S : Dev} (h : S.inv) (L : List Hd) (b : Nat) (l : List Hd) : ∀ i, (putTo S L b l i).err = 0 → PutAt S b l i (putTo S L b l i).dev
 | 0, _ => ⟨h, rfl, rfl, .inl rfl, fun j => by rw [if_neg (by omega)]; rfl, fun q _ => rfl⟩
 | i + 1, he => by
  have hst : putTo S L b l (i + 1) = putStep (putTo S L b l i) (b + i) (l.getD i default) := rfl
  rw [hst] at he ⊢
  unfold putStep at he ⊢
  by_cases h0 : (putTo S L b l i).err ≠ 0
  ·rw [if_pos h0] at he; exact absurd he h0
  rw [if_neg h0] at he ⊢
  have t := putTo_at h L b l i (by simpa using h0)
  generalize (putTo S L b l i).dev = T at *
  dsimp only at he ⊢
  rw [show (256 + ((b + i : Nat) : Int)) = ((256 + b + i : Nat) : Int) by omega] at he ⊢
  obtain ⟨g1, g2, g3⟩ := Dev.store_ok0 (x := encN ((b + i : Nat) : Int) (l.getD i default).k (l.getD i default).c (l.getD i default).l) he
  have hlc := t.lenC
  have hwD := t.inv.wf.lenD
  refine ⟨Dev.store_inv t.inv _ _ (encN_lt _ _ _ _), by rw [g2]; simp [t.lenC], by rw [g3]; simp [t.lenD], .inr (by omega), fun j => ?_, fun q hq => ?_⟩
  ·rw [g2, getD_setN _ _ _ _ g1, t.cache j]
   by_cases e : j = 256 + b + i
   ·subst e
    rw [if_pos rfl, if_pos (by omega), show 256 + b + i - 256 = b + i by omega, show b + i - b = i by omega]
   ·rw [if_neg e]
    by_cases c : 256 + b ≤ j ∧ j < 256 + b + i
    ·rw [if_pos c, if_pos (by omega)]
    ·rw [if_neg c, if_neg (by omega)]
  ·rw [g3, getD_setB _ _ _ _ (by omega), if_neg (fun e => hq i (by omega) e.symm)]
   exact t.dirty q (fun k hk => hq k (by omega))
structure Clean (S : Dev) (B : Nat) : Prop where
 inv : S.inv
 fits : 256 + B ≤ S.cache.length
 clean : ∀ b, 1 ≤ b → b < B → S.dirty.getD ((256 + b) / 8) false = false
theorem put_clean {S : Dev} {B : Nat} (h : Clean S B) {L : List Hd} (hL : L.length = B) {b : Int} {l : List Hd} (he : (putAll S L b l).err = 0) :
  Clean (putAll S L b l).dev B ∧ ∃ k : Nat, b = (k : Int) ∧ 1 ≤ k ∧ k + l.length ≤ B ∧ allRight l l.length ∧
   ∀ q, 1 ≤ q → q < B → (putAll S L b l).dev.cache.getD (256 + q) 0 = if k ≤ q ∧ q < k + l.length then encN (q : Int) (l.getD (q - k) default).k (l.getD (q - k) default).c (l.getD (q - k) default).l else S.cache.getD (256 + q) 0 := by
 unfold putAll at he ⊢
 by_cases c1 : b < 1 ∨ (L.length : Int) < b ∨ (L.length : Int) - b < (l.length : Int) ∨ ¬ allRight l l.length
 ·rw [if_pos c1] at he; simp at he
 rw [if_neg c1] at he ⊢
 obtain ⟨k, rfl⟩ := Int.eq_ofNat_of_zero_le (show 0 ≤ b by omega)
 have hr : allRight l l.length := Decidable.byContradiction fun h => c1 (.inr (.inr (.inr h)))
 by_cases c2 : l.length = 0
 ·rw [if_pos c2]
  exact ⟨h, k, rfl, by omega, by omega, hr, fun q _ _ => by rw [if_neg (by omega)]⟩
 rw [if_neg c2] at he ⊢
 rw [show ((k : Nat) : Int).toNat = k from rfl] at he ⊢
 unfold putIn at he ⊢
 by_cases c3 : (putTo S L k l l.length).err ≠ 0
 ·rw [if_pos c3] at he; exact absurd he c3
 rw [if_neg c3] at he ⊢
 have t := putTo_at h.inv L k l l.length (by simpa using c3)
 generalize (putTo S L k l l.length).dev = T at *
 dsimp only at he ⊢
 rw [show (256 + (k : Int)) = ((256 + k : Nat) : Int) by omega] at he ⊢
 obtain ⟨q1, q2, q3, q4, q5⟩ := Dev.persist_clean t.inv (256 + k) l.length (by omega) he
 have hfit := h.fits
 refine ⟨⟨Dev.persist_inv t.inv _ _, by rw [q1, t.lenC]; exact hfit, fun q h1 h2 => ?_⟩, k, rfl, by omega, by omega, hr, fun q h1 h2 => ?_⟩
 ·by_cases c : ∃ i, i < l.length ∧ (256 + k + i) / 8 = (256 + q) / 8
  ·obtain ⟨i, hi, e⟩ := c
   rw [← e]
   exact q4 (256 + k + i) (by omega) (by omega)
  ·refine q5 _ ?_
   rw [t.dirty _ (fun i hi e => c ⟨i, hi, e⟩)]
   exact h.clean q h1 h2
 ·rw [q1, t.cache]
  by_cases c : k ≤ q ∧ q < k + l.length
  ·rw [if_pos (by omega), if_pos c, show 256 + q - 256 = q by omega]
  ·rw [if_neg (by omega), if_neg c]
theorem fmtTo_inv {S : Dev} (h : S.inv) (k : Nat) : (S.fmtTo k).inv := by
 induction k with
 | zero => exact h
 | succ k ih =>
  unfold Dev.fmtTo
  split
  ·exact h
  ·exact Dev.store_inv ih _ _ (encN_lt _ _ _ _)
theorem fmt_clean {S : Dev} (h : S.inv) (hv : S.live) (ho : S.ok 100) {B : Nat} (hB2 : 2 ≤ B) (hlen : 256 + B ≤ S.cache.length) : Clean (S.fmt B) B := by
 obtain ⟨p1, p2, p3, p5, p4⟩ := fmtTo_props hv ho B hlen
 have he := (p1.persist 257 (B - 1) (by omega) (by rw [p3, p5]; exact h.wf.lenD) (by rw [p3]; omega)).1
 unfold Dev.fmt
 rw [show ((B : Int) - 1) = ((B - 1 : Nat) : Int) by omega]
 rw [show ((257 : Nat) : Int) = 257 from rfl] at he
 have hi := fmtTo_inv h B
 obtain ⟨q1, q2, q3, q4, q5⟩ := Dev.persist_clean hi 257 (B - 1) (by omega) he
 rw [show ((257 : Nat) : Int) = 257 from rfl] at q1 q4
 exact ⟨Dev.persist_inv hi _ _, by rw [q1, p3]; exact hlen, fun b h1 h2 => q4 (256 + b) (by omega) (by omega)⟩
structure Among (S : Dev) (i : Nat) (V : Nat → Prop) : Prop where
 cache : V (S.cache.getD i 0)
 lasting : V (S.lasting.getD i 0)
 flushed : S.pending.getD (i / 8) false = true → V (S.flushed.getD i 0)
section
variable {S : Dev} {i : Nat} {V : Nat → Prop}
theorem Among.step (h : Among S i V) : Among S.step i V := by
 obtain ⟨e1, e2, e3, e4, e5⟩ := S.step_rest
 exact ⟨by rw [e2]; exact h.cache, by rw [e1]; exact h.lasting, fun hp => by rw [e3]; rw [e5] at hp; exact h.flushed hp⟩
theorem Among.store (h : Among S i V) (j : Int) (x : Nat) (hx : j = (i : Int) → V x) : Among (S.store j x) i V := by
 unfold Dev.store
 by_cases c : j < 0 ∨ (S.cache.length : Int) ≤ j
 ·rw [if_pos c]; exact h
 ·rw [if_neg c]
  split
  ·exact h.step
  ·have k := h.step
   obtain ⟨e1, e2, e3, e4, e5⟩ := S.step_rest
   refine ⟨?_, k.lasting, k.flushed⟩
   show V ((S.step.cache.set j.toNat x).getD i 0)
   rw [getD_setN _ _ _ _ (by rw [e2]; omega)]
   by_cases e : i = j.toNat
   ·rw [if_pos e]; exact hx (by omega)
   ·rw [if_neg e]; exact k.cache
theorem Among.hold (h : Among S i V) (hS : S.wf) (j : Nat) (hj : j < S.dirty.length) : Among (S.hold j) i V := by
 unfold Dev.hold
 split
 ·have hD := hS.lenD
  refine ⟨h.cache, h.lasting, fun hp => ?_⟩
  dsimp only at hp ⊢
  rw [getD_setB _ _ _ _ (by rw [hS.lenP]; exact hj)] at hp
  rw [splice_seg_getD _ _ _ _ (by rw [hS.lenF]; omega) (by omega)]
  by_cases e : i / 8 = j
  ·rw [if_pos e]; exact h.cache
  ·rw [if_neg e] at hp ⊢
   exact h.flushed hp
 ·exact h
theorem Among.flush (h : Among S i V) (hS : S.inv) (j : Int) : Among (S.flush j) i V := by
 unfold Dev.flush
 by_cases c : j < 0 ∨ (S.dirty.length : Int) ≤ j
 ·rw [if_pos c]; exact h
 ·rw [if_neg c]
  split
  ·exact h.step
  ·exact h.step.hold (Dev.step_wf hS.wf) _ (by rw [S.step_rest.2.2.2.1]; omega)
theorem Among.fence (h : Among S i V) (hS : S.wf) : Among S.fence i V := by
 cases hs : S.stop
 ·have a := Dev.fence_at hS hs
  refine ⟨by rw [a.cache]; exact h.cache, ?_, fun hp => ?_⟩
  ·rw [a.lasting i]
   by_cases c : i / 8 < S.dirty.length ∧ S.pending.getD (i / 8) false = true
   ·rw [if_pos c]; exact h.flushed c.2
   ·rw [if_neg c]; exact h.lasting
  ·rw [a.flushed]
   rw [a.pending] at hp
   by_cases c : i / 8 < S.dirty.length
   ·rw [if_pos c] at hp; cases hp
   ·rw [if_neg c] at hp; exact h.flushed hp
 ·unfold Dev.fence
  rw [hs]
  exact h.step
theorem Among.flushRun (h : Among S i V) (hS : S.inv) (a : Nat) : ∀ m, Among (S.flushRun a m).dev i V
 | 0 => h
 | m + 1 => by
  have := Among.flushRun h hS a m
  rw [Dev.flushRun]
  split
  ·exact this
  ·exact this.flush (Dev.flushRun_inv hS a m) _
theorem Among.persist (h : Among S i V) (hS : S.inv) (p n : Int) : Among (S.persist p n).dev i V := by
 unfold Dev.persist
 split
 ·exact h
 ·split
  ·unfold Dev.persistN
   have := h.flushRun hS (p / 8).toNat ((p + n - 1) / 8 - p / 8 + 1).toNat
   split
   ·exact this
   ·exact this.fence (Dev.flushRun_inv hS _ _).wf
  ·exact h.fence hS.wf
theorem Among.putTo (h : Among S i V) (L : List Hd) (b : Nat) (l : List Hd) (hx : ∀ k, k < l.length → i = 256 + b + k → V (encN ((b + k : Nat) : Int) (l.getD k default).k (l.getD k default).c (l.getD k default).l)) : ∀ k, k ≤ l.length → Among (putTo S L b l k).dev i V
 | 0, _ => h
 | k + 1, hk => by
  have := Among.putTo h L b l hx k (by omega)
  unfold Go.Proofs.YtbimcogdbafjpaaGreat.putTo putStep
  split
  ·exact this
  ·exact this.store _ _ (fun e => hx k (by omega) (by omega))
theorem Among.putAll (h : Among S i V) (hS : S.inv) (L : List Hd) (b : Int) (l : List Hd) (hx : ∀ k, k < l.length → (i : Int) = 256 + b + k → allRight l l.length → V (encN (b + k) (l.getD k default).k (l.getD k default).c (l.getD k default).l)) : Among (putAll S L b l).dev i V := by
 unfold Go.Proofs.YtbimcogdbafjpaaGreat.putAll
 by_cases c : b < 1 ∨ (L.length : Int) < b ∨ (L.length : Int) - b < (l.length : Int) ∨ ¬ allRight l l.length
 ·rw [if_pos c]; exact h
 ·rw [if_neg c]
  split
  ·exact h
  ·have hr : allRight l l.length := Decidable.byContradiction fun h => c (.inr (.inr (.inr h)))
   have t := h.putTo L b.toNat l (fun k hk e => by
    have := hx k hk (by omega) hr
    rw [show ((b.toNat + k : Nat) : Int) = b + k by omega]
    exact this) l.length (Nat.le_refl _)
   unfold putIn
   split
   ·exact t
   ·exact t.persist (putTo_inv hS _ _ _ _) _ _
end
structure BmOk (B : Nat) (m : Bm) : Prop where
 lenL : m.list.length = B
 lenF : m.free.length = B
 clean : Clean m.dev B
 right : ∀ b, b < B → hdRight (m.list.getD b default).k (m.list.getD b default).c (m.list.getD b default).l = true
 word : ∀ b, 1 ≤ b → b < B → m.dev.cache.getD (256 + b) 0 = encN (b : Int) (m.list.getD b default).k (m.list.getD b default).c (m.list.getD b default).l
 free : ∀ b, fb m.free b = true ↔ 1 ≤ b ∧ b < B ∧ (m.list.getD b default).k = 0
 large : ∀ b, 1 ≤ b → b < B → (m.list.getD b default).k = 2 → (b : Int) + (m.list.getD b default).l ≤ B ∧ ∀ i : Nat, 1 ≤ i → (i : Int) < (m.list.getD b default).l → m.list.getD (b + i) default = ⟨3, 0, i⟩
def IsHd (q : Nat) (x : Nat) : Prop := (decN (q : Int) x).code = 0
theorem BmOk.among {B : Nat} {m : Bm} (h : BmOk B m) {q : Nat} (h1 : 1 ≤ q) (h2 : q < B) : Among m.dev (256 + q) (fun x => x = encN (q : Int) (m.list.getD q default).k (m.list.getD q default).c (m.list.getD q default).l) := by
 have hc := h.clean.clean q h1 h2
 refine ⟨h.word q h1 h2, ?_, fun hp => ?_⟩
 ·rw [h.clean.inv.sound _ hc]; exact h.word q h1 h2
 ·have := h.clean.inv.pend _ hp
  rw [hc] at this; cases this
theorem Among.mono {S : Dev} {i : Nat} {V V' : Nat → Prop} (h : Among S i V) (hv : ∀ x, V x → V' x) : Among S i V' := ⟨hv _ h.cache, hv _ h.lasting, fun hp => hv _ (h.flushed hp)⟩
def Stay (m m' : Bm) (B : Nat) (T : Nat → Prop) : Prop := m'.dev.inv ∧ m'.dev.cache.length = m.dev.cache.length ∧ ∀ q, 1 ≤ q → q < B → Among m'.dev (256 + q) (IsHd q) ∧ (¬ T q → Among m'.dev (256 + q) (fun x => x = encN (q : Int) (m.list.getD q default).k (m.list.getD q default).c (m.list.getD q default).l))
theorem isHd_enc {q : Nat} {k c l : Int} (h : hdRight k c l = true) : IsHd q (encN (q : Int) k c l) := by
 unfold IsHd; rw [dec_enc _ _ _ _ h]
theorem BmOk.stay {B : Nat} {m : Bm} (h : BmOk B m) (T : Nat → Prop) : Stay m m B T :=
 ⟨h.clean.inv, rfl, fun q h1 h2 => ⟨(h.among h1 h2).mono (fun x hx => by rw [hx]; exact isHd_enc (h.right q h2)), fun _ => h.among h1 h2⟩⟩
theorem store_clen (S : Dev) (i : Int) (x : Nat) : (S.store i x).cache.length = S.cache.length := by
 obtain ⟨_, e2, _⟩ := S.step_rest
 unfold Dev.store
 split
 ·rfl
 ·split
  ·rw [e2]
  ·show (S.step.cache.set i.toNat x).length = _
   rw [List.length_set, e2]
theorem flush_clen (S : Dev) (j : Int) : (S.flush j).cache.length = S.cache.length := by
 obtain ⟨_, e2, _⟩ := S.step_rest
 unfold Dev.flush
 split
 ·rfl
 ·split
  ·rw [e2]
  ·unfold Dev.hold
   split
   ·dsimp only; rw [e2]
   ·rw [e2]
theorem putTo_clen (S : Dev) (L : List Hd) (b : Nat) (l : List Hd) : ∀ i, (putTo S L b l i).dev.cache.length = S.cache.length
 | 0 => rfl
 | i + 1 => by
  have := putTo_clen S L b l i
  unfold putTo putStep
  split
  ·exact this
  ·dsimp only; rw [store_clen]; exact this
theorem flushRun_clen (S : Dev) (a : Nat) : ∀ m, (S.flushRun a m).dev.cache.length = S.cache.length
 | 0 => rfl
 | m + 1 => by
  have := flushRun_clen S a m
  rw [Dev.flushRun]
  split
  ·exact this
  ·dsimp only; rw [flush_clen]; exact this
theorem persist_clen {S : Dev} (h : S.inv) (p n : Int) : (S.persist p n).dev.cache.length = S.cache.length := by
 have hf : ∀ {U : Dev}, U.wf → U.fence.cache.length = U.cache.length := by
  intro U hU
  cases hs : U.stop
  ·rw [(Dev.fence_at hU hs).cache]
  ·unfold Dev.fence; rw [hs]; simp only [if_true]; rw [U.step_rest.2.1]
 unfold Dev.persist
 split
 ·rfl
 ·split
  ·unfold Dev.persistN
   split
   ·exact flushRun_clen _ _ _
   ·dsimp only; rw [hf (Dev.flushRun_inv h _ _).wf]; exact flushRun_clen _ _ _
  ·exact hf h.wf
theorem putAll_clen {S : Dev} (h : S.inv) (L : List Hd) (b : Int) (l : List Hd) : (putAll S L b l).dev.cache.length = S.cache.length := by
 unfold putAll
 split
 ·rfl
 ·split
  ·rfl
  ·unfold putIn
   split
   ·exact putTo_clen _ _ _ _ _
   ·dsimp only; rw [persist_clen (putTo_inv h _ _ _ _)]; exact putTo_clen _ _ _ _ _
theorem Stay.put {m m' : Bm} {B : Nat} {T : Nat → Prop} (h : Stay m m' B T) (L : List Hd) (b : Int) (l : List Hd) (f : List Bool) (l2 : List Hd) (hT : ∀ k : Nat, k < l.length → ∀ q : Nat, (q : Int) = b + k → T q) : Stay m ⟨(putAll m'.dev L b l).dev, l2, f⟩ B T := by
 obtain ⟨h1, h2, h3⟩ := h
 refine ⟨putAll_inv h1 _ _ _, by rw [← h2]; exact putAll_clen h1 _ _ _, fun q q1 q2 => ?_⟩
 obtain ⟨g1, g2⟩ := h3 q q1 q2
 refine ⟨g1.putAll h1 L b l (fun k hk e hr => ?_), fun hn => (g2 hn).putAll h1 L b l (fun k hk e _ => absurd (hT k hk q (by omega)) hn)⟩
 rw [show b + (k : Int) = (q : Int) by omega]
 exact isHd_enc (hr k hk)
structure BmW (B : Nat) (S : Dev) (L : List Hd) : Prop where
 lenL : L.length = B
 clean : Clean S B
 right : ∀ b, b < B → hdRight (L.getD b default).k (L.getD b default).c (L.getD b default).l = true
 word : ∀ b, 1 ≤ b → b < B → S.cache.getD (256 + b) 0 = encN (b : Int) (L.getD b default).k (L.getD b default).c (L.getD b default).l
theorem BmOk.w {B : Nat} {m : Bm} (h : BmOk B m) : BmW B m.dev m.list := ⟨h.lenL, h.clean, h.right, h.word⟩
theorem putTo_list (S : Dev) (L : List Hd) (b : Nat) (l : List Hd) : ∀ i, b + i ≤ L.length → (putTo S L b l i).err = 0 → ∀ q, (putTo S L b l i).list.getD q default = if b ≤ q ∧ q < b + i then l.getD (q - b) default else L.getD q default
 | 0, _, _, q => by rw [if_neg (by omega)]; rfl
 | i + 1, hi, he, q => by
  have hst : putTo S L b l (i + 1) = putStep (putTo S L b l i) (b + i) (l.getD i default) := rfl
  rw [hst] at he ⊢
  have hlen := putTo_len S L b l i
  unfold putStep at he ⊢
  by_cases h0 : (putTo S L b l i).err ≠ 0
  ·rw [if_pos h0] at he; exact absurd he h0
  rw [if_neg h0] at he ⊢
  have ih := putTo_list S L b l i (by omega) (by simpa using h0) q
  dsimp only at he ⊢
  rw [if_pos he]
  rw [List.getD_eq_getElem?_getD, List.getElem?_set]
  by_cases e : b + i = q
  ·rw [if_pos e, if_pos (by omega), if_pos (by omega), show q - b = i by omega]; rfl
  ·rw [if_neg e, ← List.getD_eq_getElem?_getD, ih]
   by_cases c : b ≤ q ∧ q < b + i
   ·rw [if_pos c, if_pos (by omega)]
   ·rw [if_neg c, if_neg (by omega)]
theorem BmW.put {B : Nat} {S : Dev} {L : List Hd} (h : BmW B S L) {k : Nat} {l : List Hd} (hk1 : 1 ≤ k) (hkB : k + l.length ≤ B) (hr : allRight l l.length) (he : (putAll S L (k : Int) l).err = 0) :
  BmW B (putAll S L (k : Int) l).dev (putAll S L (k : Int) l).list ∧ ∀ q, (putAll S L (k : Int) l).list.getD q default = if k ≤ q ∧ q < k + l.length then l.getD (q - k) default else L.getD q default := by
 obtain ⟨hc, k', e, _, _, _, hw⟩ := put_clean h.clean h.lenL he
 obtain rfl : k' = k := by omega
 have hlist : ∀ q, (putAll S L (k' : Int) l).list.getD q default = if k' ≤ q ∧ q < k' + l.length then l.getD (q - k') default else L.getD q default := by
  intro q
  rw [putAll_in S hk1 (by rw [h.lenL]; exact hkB) hr] at he ⊢
  by_cases hl : l.length = 0
  ·rw [if_pos hl, if_neg (by omega)]
  ·rw [if_neg hl] at he ⊢
   unfold putIn at he ⊢
   by_cases c : (putTo S L k' l l.length).err ≠ 0
   ·rw [if_pos c] at he; exact absurd he c
   ·rw [if_neg c]
    exact putTo_list S L k' l l.length (by rw [h.lenL]; exact hkB) (by simpa using c) q
 refine ⟨⟨by rw [putAll_len, h.lenL], hc, fun b hb => ?_, fun b h1 h2 => ?_⟩, hlist⟩
 ·rw [hlist b]
  by_cases c : k' ≤ b ∧ b < k' + l.length
  ·rw [if_pos c]; exact hr _ (by omega)
  ·rw [if_neg c]; exact h.right b hb
 ·rw [hw b h1 h2, hlist b]
  by_cases c : k' ≤ b ∧ b < k' + l.length
  ·rw [if_pos c, if_pos c]
  ·rw [if_neg c, if_neg c]; exact h.word b h1 h2
theorem step_dead {S : Dev} (h : S.stop = true) : S.step.dead = true := by unfold Dev.step; rw [if_pos h]
theorem flush_dead {S : Dev} {j : Int} (h0 : 0 ≤ j) (h1 : j < S.dirty.length) (he : S.flushE j ≠ 0) : (S.flush j).dead = true := by
 unfold Dev.flushE at he
 unfold Dev.flush
 rw [if_neg (by omega)] at he ⊢
 by_cases hs : S.stop = true
 ·rw [if_pos hs]; exact step_dead hs
 ·rw [if_neg hs] at he; exact absurd rfl he
theorem fence_dead {S : Dev} (he : S.fenceE ≠ 0) : S.fence.dead = true := by
 unfold Dev.fenceE at he
 unfold Dev.fence
 by_cases hs : S.stop = true
 ·rw [if_pos hs]; exact step_dead hs
 ·rw [if_neg hs] at he; exact absurd rfl he
theorem flushRun_dead {S : Dev} (a : Nat) : ∀ m, a + m ≤ S.dirty.length → (S.flushRun a m).err ≠ 0 → (S.flushRun a m).dev.dead = true
 | 0, _, h => absurd rfl h
 | m + 1, hm, h => by
  rw [Dev.flushRun] at h ⊢
  by_cases c : (S.flushRun a m).err ≠ 0
  ·rw [if_pos c] at h ⊢; exact flushRun_dead a m (by omega) h
  ·rw [if_neg c] at h ⊢
   exact flush_dead (by omega) (by rw [flushRun_dl]; omega) h
theorem persist_dead {S : Dev} (hS : S.inv) {p n : Nat} (hn : 0 < n) (hp : p + n ≤ S.cache.length) (he : (S.persist p n).err ≠ 0) : (S.persist p n).dev.dead = true := by
 have hD := hS.wf.lenD
 unfold Dev.persist at he ⊢
 rw [if_neg (by omega), if_pos (by omega)] at he ⊢
 unfold Dev.persistN at he ⊢
 by_cases c : (S.flushRun ((p : Int) / 8).toNat (((p : Int) + n - 1) / 8 - (p : Int) / 8 + 1).toNat).err ≠ 0
 ·rw [if_pos c] at he ⊢
  exact flushRun_dead _ _ (by omega) c
 ·rw [if_neg c] at he ⊢
  exact fence_dead he
theorem store_dead {S : Dev} {j : Int} {x : Nat} (h0 : 0 ≤ j) (h1 : j < S.cache.length) (he : S.storeE j ≠ 0) : (S.store j x).dead = true := by
 unfold Dev.storeE at he
 unfold Dev.store
 rw [if_neg (by omega)] at he ⊢
 by_cases hs : S.stop = true
 ·rw [if_pos hs]; exact step_dead hs
 ·rw [if_neg hs] at he; exact absurd rfl he
theorem putTo_dead {S : Dev} (L : List Hd) (b : Nat) (l : List Hd) : ∀ i, 256 + b + i ≤ S.cache.length → (putTo S L b l i).err ≠ 0 → (putTo S L b l i).dev.dead = true
 | 0, _, h => absurd rfl h
 | i + 1, hi, h => by
  have hst : putTo S L b l (i + 1) = putStep (putTo S L b l i) (b + i) (l.getD i default) := rfl
  rw [hst] at h ⊢
  unfold putStep at h ⊢
  by_cases c : (putTo S L b l i).err ≠ 0
  ·rw [if_pos c] at h ⊢; exact putTo_dead L b l i (by omega) h
  ·rw [if_neg c] at h ⊢
   exact store_dead (by omega) (by rw [putTo_clen]; omega) h
theorem putAll_dead {S : Dev} (hS : S.inv) {L : List Hd} {k : Nat} {l : List Hd} (hk1 : 1 ≤ k) (hkB : k + l.length ≤ L.length) (hr : allRight l l.length) (hf : 256 + L.length ≤ S.cache.length) : (putAll S L (k : Int) l).err = 0 ∨ (putAll S L (k : Int) l).dev.dead = true := by
 by_cases he : (putAll S L (k : Int) l).err = 0
 ·exact .inl he
 right
 rw [putAll_in S hk1 hkB hr] at he ⊢
 by_cases hl : l.length = 0
 ·rw [if_pos hl] at he; exact absurd rfl he
 ·rw [if_neg hl] at he ⊢
  unfold putIn at he ⊢
  by_cases c : (putTo S L k l l.length).err ≠ 0
  ·rw [if_pos c]
   exact putTo_dead L k l l.length (by omega) c
  ·rw [if_neg c] at he ⊢
   have : (256 : Int) + (k : Int) = ((256 + k : Nat) : Int) := by omega
   rw [this] at he ⊢
   exact persist_dead (putTo_inv hS L k l l.length) (by omega) (by rw [putTo_clen]; omega) he
theorem allRight_one {h : Hd} (hr : hdRight h.k h.c h.l = true) : allRight [h] [h].length := by
 intro i hi
 obtain rfl : i = 0 := by simp at hi; omega
 exact hr
variable {B : Nat} {m : Bm}
theorem run_free {f : List Bool} {a k n : Nat} (hr : IsRun (fb f) a k) (hn : n ≤ k) : ∀ q, a ≤ q → q < a + n → fb f q = true := fun q h1 h2 => hr.2.1 q h1 (by omega)
theorem BmOk.part {h : BmOk B m} {b i : Nat} (h1 : 1 ≤ b) (h2 : b < B) (hk : (m.list.getD b default).k = 2) (hi : 1 ≤ i) (hi2 : (i : Int) < (m.list.getD b default).l) : fb m.free (b + i) = false := by
 cases hq : fb m.free (b + i) with
 | false => rfl
 | true =>
  have := ((h.free (b + i)).1 hq).2.2
  rw [(h.large b h1 h2 hk).2 i hi hi2] at this
  cases this
theorem small_done (h : BmOk B m) (k : Int) : Stay m (m.small k).bm B (fun q => fb m.free q = true) ∧ ((m.small k).bm.dev.dead = true ∨ BmOk B (m.small k).bm) := by
 unfold Bm.small
 by_cases hr : hdRight 1 k 0 = false
 ·rw [if_pos hr]; exact ⟨h.stay _, .inr h⟩
 rw [if_neg hr]
 have hr' : hdRight 1 k 0 = true := by simpa using hr
 by_cases ht : (takeR m.free 1).2.2 ≠ 0
 ·rw [if_pos ht, takeR_err ht]; exact ⟨h.stay _, .inr h⟩
 rw [if_neg ht]
 obtain ⟨a, c, hta, hrun, hc, hfit⟩ := takeR_fit (l := m.free) (z := 1) (Nat.le_refl _) (by simpa using ht)
 have hta' : takeR m.free 1 = (setTo m.free a false 1, (a : Int), 0) := hta
 rw [hta']
 dsimp only
 have hfr := run_free hrun hc
 have hfa := hfr a (Nat.le_refl _) (by omega)
 obtain ⟨a1, a2, a3⟩ := (h.free a).1 hfa
 refine ⟨(h.stay _).put _ _ _ _ _ (fun j hj q e => ?_), ?_⟩
 ·have : q = a := by simp at hj; omega
  subst this; exact hfa
 ·have hone : allRight [(⟨1, k, 0⟩ : Hd)] [(⟨1, k, 0⟩ : Hd)].length := allRight_one hr'
  rcases putAll_dead h.clean.inv (L := m.list) a1 (by rw [h.lenL]; simp; omega) hone (by rw [h.lenL]; exact h.clean.fits) with he | hd
  ·right
   obtain ⟨hw, hl⟩ := h.w.put a1 (by simp; omega) hone he
   have hl' : ∀ q, (putAll m.dev m.list (a : Int) [⟨1, k, 0⟩]).list.getD q default = if q = a then ⟨1, k, 0⟩ else m.list.getD q default := by
    intro q
    rw [hl q]
    by_cases e : q = a
    ·subst e; rw [if_pos (by simp), if_pos rfl]; simp
    ·rw [if_neg (by simp; omega), if_neg e]
   refine ⟨hw.lenL, by rw [setTo_length, h.lenF], hw.clean, hw.right, hw.word, fun q => ?_, fun q q1 q2 hq => ?_⟩
   ·rw [setTo_ff hfit, hl' q]
    by_cases e : q = a
    ·subst e
     rw [if_pos rfl]
     constructor
     ·rintro ⟨h1, _⟩; exact absurd ⟨Nat.le_refl _, by omega⟩ h1
     ·rintro ⟨_, _, h3⟩; cases h3
    ·rw [if_neg e, ← h.free q]
     exact ⟨fun h => h.2, fun h => ⟨by omega, h⟩⟩
   ·dsimp only at hq ⊢
    rw [hl' q] at hq ⊢
    by_cases e : q = a
    ·rw [if_pos e] at hq; cases hq
    ·rw [if_neg e] at hq ⊢
     obtain ⟨g1, g2⟩ := h.large q q1 q2 hq
     refine ⟨g1, fun i i1 i2 => ?_⟩
     rw [hl' (q + i), if_neg (fun e2 => by
      have := BmOk.part (h := h) q1 q2 hq i1 i2
      rw [e2, hfa] at this; cases this)]
     exact g2 i i1 i2
  ·exact .inl hd
variable {B : Nat} {m : Bm}
theorem run_tail (n : Nat) : ((hdRun n n).drop 1).length = n - 1 ∧ ∀ i, i < n - 1 → ((hdRun n n).drop 1).getD i default = ⟨3, 0, ((i + 1 : Nat) : Int)⟩ := by
 refine ⟨by rw [List.length_drop, hdRun_len], fun i hi => ?_⟩
 rw [List.getD_eq_getElem?_getD, List.getElem?_drop, ← List.getD_eq_getElem?_getD, hdRun_getD n n (1 + i) (by omega), if_neg (by omega), show 1 + i = i + 1 by omega]
theorem large_done (h : BmOk B m) (z : Int) : Stay m (m.large z).bm B (fun q => fb m.free q = true) ∧ ((m.large z).bm.dev.dead = true ∨ BmOk B (m.large z).bm) := by
 unfold Bm.large
 by_cases hz : z < 1 ∨ 256 ≤ z
 ·rw [if_pos hz]; exact ⟨h.stay _, .inr h⟩
 rw [if_neg hz]
 obtain ⟨n, rfl⟩ := Int.eq_ofNat_of_zero_le (show 0 ≤ z by omega)
 have hn1 : 1 ≤ n := by omega
 have hn2 : n < 256 := by omega
 rw [show ((n : Int)).toNat = n from rfl]
 by_cases ht : (takeR m.free n).2.2 ≠ 0
 ·rw [if_pos ht, takeR_err ht]; exact ⟨h.stay _, .inr h⟩
 rw [if_neg ht]
 obtain ⟨a, c, hta, hrun, hc, hfit⟩ := takeR_fit (l := m.free) hn1 (by simpa using ht)
 rw [hta]
 dsimp only
 have hfr := run_free hrun hc
 have hfk : ∀ q, a ≤ q → q < a + n → 1 ≤ q ∧ q < B ∧ (m.list.getD q default).k = 0 := fun q h1 h2 => (h.free q).1 (hfr q h1 h2)
 have a1 := (hfk a (Nat.le_refl _) (by omega)).1
 have haB : a + n ≤ B := by rw [← h.lenF]; exact hfit
 obtain ⟨hlen, htl⟩ := run_tail n
 have hr1 : allRight ((hdRun n n).drop 1) ((hdRun n n).drop 1).length := by
  intro i hi
  rw [hlen] at hi
  rw [htl i hi]
  exact decide_eq_true (.inr (.inr ⟨.inr rfl, rfl, by dsimp only; omega⟩))
 have hs1 : Stay m ⟨(putAll m.dev m.list ((a : Int) + 1) ((hdRun n n).drop 1)).dev, (putAll m.dev m.list ((a : Int) + 1) ((hdRun n n).drop 1)).list, setTo m.free a false n⟩ B (fun q => fb m.free q = true) :=
  (h.stay _).put _ _ _ _ _ (fun j hj q e => hfr q (by omega) (by rw [hlen] at hj; omega))
 have e1 : (a : Int) + 1 = ((a + 1 : Nat) : Int) := by omega
 have hcase := putAll_dead h.clean.inv (L := m.list) (k := a + 1) (l := (hdRun n n).drop 1) (by omega) (by rw [h.lenL, hlen]; omega) hr1 (by rw [h.lenL]; exact h.clean.fits)
 rw [← e1] at hcase
 have hput := fun (he : (putAll m.dev m.list ((a : Int) + 1) ((hdRun n n).drop 1)).err = 0) => h.w.put (k := a + 1) (l := (hdRun n n).drop 1) (by omega) (by rw [hlen]; omega) hr1 (by rw [← e1]; exact he)
 rw [← e1] at hput
 generalize putAll m.dev m.list ((a : Int) + 1) ((hdRun n n).drop 1) = r1 at *
 by_cases he1 : r1.err ≠ 0
 ·rw [if_pos he1]
  refine ⟨hs1, ?_⟩
  rcases hcase with h0 | hd
  ·exact absurd h0 he1
  ·exact .inl hd
 rw [if_neg he1]
 obtain ⟨hw1, hl1⟩ := hput (by simpa using he1)
 refine ⟨hs1.put _ _ _ _ _ (fun j hj q e => ?_), ?_⟩
 ·have : q = a := by simp at hj; omega
  subst this; exact hfr q (Nat.le_refl _) (by omega)
 have hone : allRight [(⟨2, 0, (n : Int)⟩ : Hd)] [(⟨2, 0, (n : Int)⟩ : Hd)].length := allRight_one (decide_eq_true (.inr (.inr ⟨.inl rfl, rfl, by dsimp only; omega⟩)))
 rcases putAll_dead hw1.clean.inv (L := r1.list) a1 (by rw [hw1.lenL]; simp; omega) hone (by rw [hw1.lenL]; exact hw1.clean.fits) with he | hd
 ·right
  obtain ⟨hw, hl⟩ := hw1.put a1 (by simp; omega) hone he
  have hl' : ∀ q, (putAll r1.dev r1.list (a : Int) [⟨2, 0, (n : Int)⟩]).list.getD q default = if q = a then ⟨2, 0, (n : Int)⟩ else if a ≤ q ∧ q < a + n then ⟨3, 0, ((q - a : Nat) : Int)⟩ else m.list.getD q default := by
   intro q
   rw [hl q]
   by_cases e : q = a
   ·subst e; rw [if_pos (by simp), if_pos rfl]; simp
   ·rw [if_neg (by simp; omega), if_neg e, hl1 q, hlen]
    by_cases c2 : a ≤ q ∧ q < a + n
    ·rw [if_pos (by omega), if_pos c2, htl _ (by omega), show q - (a + 1) + 1 = q - a by omega]
    ·rw [if_neg (by omega), if_neg c2]
  refine ⟨hw.lenL, by rw [setTo_length, h.lenF], hw.clean, hw.right, hw.word, fun q => ?_, fun q q1 q2 hq => ?_⟩
  ·rw [setTo_ff hfit, hl' q]
   by_cases e : q = a
   ·subst e
    rw [if_pos rfl]
    constructor
    ·rintro ⟨h1, _⟩; exact absurd ⟨Nat.le_refl _, by omega⟩ h1
    ·rintro ⟨_, _, h3⟩; cases h3
   ·rw [if_neg e]
    by_cases c2 : a ≤ q ∧ q < a + n
    ·rw [if_pos c2]
     constructor
     ·rintro ⟨h1, _⟩; exact absurd c2 h1
     ·rintro ⟨_, _, h3⟩; cases h3
    ·rw [if_neg c2, ← h.free q]
     exact ⟨fun h => h.2, fun h => ⟨c2, h⟩⟩
  ·dsimp only at hq ⊢
   rw [hl' q] at hq ⊢
   by_cases e : q = a
   ·subst e
    rw [if_pos rfl] at hq ⊢
    dsimp only
    refine ⟨by omega, fun i i1 i2 => ?_⟩
    rw [hl' (q + i), if_neg (by omega), if_pos (by omega), show q + i - q = i by omega]
   ·rw [if_neg e] at hq ⊢
    by_cases c2 : a ≤ q ∧ q < a + n
    ·rw [if_pos c2] at hq; cases hq
    ·rw [if_neg c2] at hq ⊢
     obtain ⟨g1, g2⟩ := h.large q q1 q2 hq
     refine ⟨g1, fun i i1 i2 => ?_⟩
     have hnf := BmOk.part (h := h) q1 q2 hq i1 i2
     have hno : ¬ (a ≤ q + i ∧ q + i < a + n) := fun c => by rw [hfr _ c.1 c.2] at hnf; cases hnf
     rw [hl' (q + i), if_neg (by omega), if_neg hno]
     exact g2 i i1 i2
 ·exact .inl hd
def IsBack (m : Bm) (b : Int) (q : Nat) : Prop := (q : Int) = b ∨ ((m.list.getD q default).k = 3 ∧ (q : Int) - (m.list.getD q default).l = b)
theorem release_done (h : BmOk B m) (b : Int) : Stay m (m.release b).bm B (IsBack m b) ∧ ((m.release b).bm.dev.dead = true ∨ BmOk B (m.release b).bm) := by
 unfold Bm.release
 by_cases hk : (hdGet m.list b).k ≠ 1 ∧ (hdGet m.list b).k ≠ 2
 ·rw [if_pos hk]; exact ⟨h.stay _, .inr h⟩
 rw [if_neg hk]
 have hin := hdGet_in (l := m.list) (b := b) (by omega)
 rw [h.lenL] at hin
 obtain ⟨a, rfl⟩ := Int.eq_ofNat_of_zero_le (show 0 ≤ b by omega)
 have a1 : 1 ≤ a := by omega
 have a2 : a < B := by omega
 have hg : hdGet m.list (a : Int) = m.list.getD a default := by unfold hdGet; rw [if_neg (by rw [h.lenL]; omega)]; rfl
 rw [hg] at hk ⊢
 have hra := h.right a a2
 have hn : ∃ n : Nat, 1 ≤ n ∧ relN (m.list.getD a default) = (n : Int) ∧ a + n ≤ B ∧ (∀ i : Nat, 1 ≤ i → i < n → m.list.getD (a + i) default = ⟨3, 0, i⟩) := by
  have hri := of_decide_eq_true hra
  unfold HdRight at hri
  unfold relN
  by_cases h1 : (m.list.getD a default).k = 1
  ·exact ⟨1, Nat.le_refl _, by rw [if_pos h1]; rfl, by omega, fun i i1 i2 => by omega⟩
  ·have h2 : (m.list.getD a default).k = 2 := by omega
   obtain ⟨g1, g2⟩ := h.large a a1 a2 h2
   refine ⟨(m.list.getD a default).l.toNat, by omega, by rw [if_neg h1]; omega, by omega, fun i i1 i2 => g2 i i1 (by omega)⟩
 obtain ⟨n, n1, hn, haB, hcont⟩ := hn
 rw [hn, show ((n : Int) - 1).toNat = n - 1 by omega]
 dsimp only
 have hz : ∀ k, allRight (List.replicate k (⟨0, 0, 0⟩ : Hd)) (List.replicate k (⟨0, 0, 0⟩ : Hd)).length := by
  intro k i hi
  have : (List.replicate k (⟨0, 0, 0⟩ : Hd)).getD i default = ⟨0, 0, 0⟩ := by
   simp only [List.getD_eq_getElem?_getD, List.getElem?_replicate]
   split <;> rfl
  rw [this]; exact decide_eq_true (.inl ⟨rfl, rfl, rfl⟩)
 have hback : ∀ i : Nat, i < n → IsBack m (a : Int) (a + i) := by
  intro i hi
  by_cases i0 : i = 0
  ·subst i0; exact .inl (by omega)
  ·exact .inr ⟨by rw [hcont i (by omega) hi], by rw [hcont i (by omega) hi]; dsimp only; omega⟩
 have hs1 : Stay m ⟨(putAll m.dev m.list (a : Int) [⟨0, 0, 0⟩]).dev, (putAll m.dev m.list (a : Int) [⟨0, 0, 0⟩]).list, m.free⟩ B (IsBack m (a : Int)) :=
  (h.stay _).put _ _ _ _ _ (fun j hj q e => by
   have : q = a + 0 := by simp at hj; omega
   rw [this]; exact hback 0 (by omega))
 have hcase := putAll_dead h.clean.inv (L := m.list) (k := a) (l := [⟨0, 0, 0⟩]) a1 (by rw [h.lenL]; simp; omega) (hz 1) (by rw [h.lenL]; exact h.clean.fits)
 have hput := fun (he : (putAll m.dev m.list (a : Int) [⟨0, 0, 0⟩]).err = 0) => h.w.put (k := a) (l := [⟨0, 0, 0⟩]) a1 (by simp; omega) (hz 1) he
 generalize putAll m.dev m.list (a : Int) [⟨0, 0, 0⟩] = r1 at *
 by_cases he1 : r1.err ≠ 0
 ·rw [if_pos he1]
  refine ⟨hs1, ?_⟩
  rcases hcase with h0 | hd
  ·exact absurd h0 he1
  ·exact .inl hd
 rw [if_neg he1]
 obtain ⟨hw1, hl1⟩ := hput (by simpa using he1)
 have hs2 : Stay m ⟨(putAll r1.dev r1.list ((a : Int) + 1) (List.replicate (n - 1) ⟨0, 0, 0⟩)).dev, (putAll r1.dev r1.list ((a : Int) + 1) (List.replicate (n - 1) ⟨0, 0, 0⟩)).list, m.free⟩ B (IsBack m (a : Int)) :=
  hs1.put _ _ _ _ _ (fun j hj q e => by
   rw [List.length_replicate] at hj
   have : q = a + (j + 1) := by omega
   rw [this]; exact hback (j + 1) (by omega))
 have e1 : (a : Int) + 1 = ((a + 1 : Nat) : Int) := by omega
 have hcase2 := putAll_dead hw1.clean.inv (L := r1.list) (k := a + 1) (l := List.replicate (n - 1) ⟨0, 0, 0⟩) (by omega) (by rw [hw1.lenL, List.length_replicate]; omega) (hz _) (by rw [hw1.lenL]; exact hw1.clean.fits)
 have hput2 := fun (he : (putAll r1.dev r1.list ((a + 1 : Nat) : Int) (List.replicate (n - 1) ⟨0, 0, 0⟩)).err = 0) => hw1.put (k := a + 1) (l := List.replicate (n - 1) ⟨0, 0, 0⟩) (by omega) (by rw [List.length_replicate]; omega) (hz _) he
 rw [← e1] at hcase2 hput2
 generalize putAll r1.dev r1.list ((a : Int) + 1) (List.replicate (n - 1) ⟨0, 0, 0⟩) = r2 at *
 by_cases he2 : r2.err ≠ 0
 ·rw [if_pos he2]
  refine ⟨hs2, ?_⟩
  rcases hcase2 with h0 | hd
  ·exact absurd h0 he2
  ·exact .inl hd
 rw [if_neg he2]
 refine ⟨hs2, .inr ?_⟩
 obtain ⟨hw, hl2⟩ := hput2 (by simpa using he2)
 have hl : ∀ q, r2.list.getD q default = if a ≤ q ∧ q < a + n then ⟨0, 0, 0⟩ else m.list.getD q default := by
  intro q
  rw [hl2 q, List.length_replicate, hl1 q]
  by_cases c : a ≤ q ∧ q < a + n
  ·rw [if_pos c]
   by_cases c1 : a + 1 ≤ q ∧ q < a + 1 + (n - 1)
   ·rw [if_pos c1]
    simp only [List.getD_eq_getElem?_getD, List.getElem?_replicate]
    split <;> rfl
   ·rw [if_neg c1, if_pos (by simp; omega)]
    have : q - a = 0 := by omega
    rw [this]; rfl
  ·rw [if_neg c, if_neg (by omega), if_neg (by simp; omega)]
 have hnz : ∀ i : Nat, i < n → (m.list.getD (a + i) default).k ≠ 0 := by
  intro i hi
  by_cases i0 : i = 0
  ·subst i0; rw [Nat.add_zero]; omega
  ·rw [hcont i (by omega) hi]; show (3 : Int) ≠ 0; decide
 have hnf : anyFree m.free a n = false := anyFree_none (fun q q1 q2 => fb_no (fun hq => by
  have := ((h.free q).1 hq).2.2
  exact hnz (q - a) (by omega) (by rw [show a + (q - a) = q by omega]; exact this)))
 have hgo : giveR m.free (a : Int) (n : Int) = (setTo m.free a true n, 0) := giveR_ok ⟨a1, n1, by rw [h.lenF]; exact haB⟩ hnf
 rw [hgo]
 dsimp only
 refine ⟨hw.lenL, by rw [setTo_length, h.lenF], hw.clean, hw.right, hw.word, fun q => ?_, fun q q1 q2 hq => ?_⟩
 ·rw [setTo_tt (by rw [h.lenF]; exact haB), hl q]
  by_cases c : a ≤ q ∧ q < a + n
  ·rw [if_pos c]; exact ⟨fun _ => ⟨by omega, by omega, rfl⟩, fun _ => .inl c⟩
  ·rw [if_neg c, ← h.free q]
   exact ⟨fun h => h.resolve_left c, fun h => .inr h⟩
 ·dsimp only at hq ⊢
  rw [hl q] at hq ⊢
  by_cases c : a ≤ q ∧ q < a + n
  ·rw [if_pos c] at hq; cases hq
  ·rw [if_neg c] at hq ⊢
   obtain ⟨g1, g2⟩ := h.large q q1 q2 hq
   refine ⟨g1, fun i i1 i2 => ?_⟩
   have hgi := g2 i i1 i2
   have hno : ¬ (a ≤ q + i ∧ q + i < a + n) := fun c2 => by
    have hj := hcont (q + i - a)
    by_cases j0 : q + i = a
    ·rw [j0] at hgi
     have : (m.list.getD a default).k = 3 := by rw [hgi]
     omega
    ·have := hj (by omega) (by omega)
     rw [show a + (q + i - a) = q + i by omega, hgi] at this
     have h3 := congrArg Hd.l this
     dsimp only at h3
     omega
   rw [hl (q + i), if_neg hno]
   exact hgi
end Go.Proofs.YtbimcogdbafjpaaGreat
