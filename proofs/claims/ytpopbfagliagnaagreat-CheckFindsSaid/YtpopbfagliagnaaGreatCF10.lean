/- Parts of the proof, one behind the other: Fh, Es, Yf, Zw, Qv, Zl, Oa, St, Et, Eu, Ev, Rx, Ry, Uf, Ew, Wa, Ex, Fa, Fb, Wb, Ey, We, Wf, Wg, Wm, Wh, Wi, Wj, Wk. -/
import Derived.Test.YtpopbfagliagnaaGreatCF9
import Derived.BigQuiet
import Derived.Lib.ItoaNum
import Derived.Lib.ItoaLen
import Derived.Lib.SplitLaws
import Derived.Deep.CutBlock
import Derived.RangeFuncNested
import Derived.RangeFuncBound
import Derived.RangeFuncCalls
import Derived.RangeFuncLeaves
import Derived.RangeFuncBox
import Derived.Shelf.Abstract
import Derived.WalkKit
import Derived.OwnWalkIn
import Derived.TacticsInMore
import Derived.LoopNIn
import Derived.LoopIn
import Derived.Maps.AppendAt
import Derived.Lib.SliceRun
set_option linter.unusedVariables false
namespace Go.Proofs.YtpopbfagliagnaaGreat
open Go.RowKit Go.Maps
def FL.rmTo (S : FL) (k lo hi i : Nat) : FL := ⟨fun j => if j = k then outside lo hi (S.g j) else S.g j, fun m j => if j = k ∧ m < i then outside lo hi (S.c m j) else S.c m j⟩
theorem FL.rmTo_zero (S : FL) (k lo hi : Nat) : S.rmTo k lo hi 0 = S.setG k (outside lo hi (S.g k)) := by
 refine FL.ext' (fun j => ?_) (fun m j => ?_)
 ·rw [FL.setG_g]
  show (if j = k then outside lo hi (S.g j) else S.g j) = _
  by_cases e : j = k
  ·subst e; simp
  ·simp [e]
 ·show (if j = k ∧ m < 0 then outside lo hi (S.c m j) else S.c m j) = _
  rw [if_neg (by omega)]; rfl
theorem FL.rmTo_succ (S : FL) (k lo hi i : Nat) : S.rmTo k lo hi (i + 1) = (S.rmTo k lo hi i).setC i k (outside lo hi ((S.rmTo k lo hi i).c i k)) := by
 refine FL.ext' (fun j => ?_) (fun m j => ?_)
 ·rw [FL.setC_g]; rfl
 ·rw [FL.setC_c]
  show (if j = k ∧ m < i + 1 then outside lo hi (S.c m j) else S.c m j) = if m = i ∧ j = k then outside lo hi (if k = k ∧ i < i then outside lo hi (S.c i k) else S.c i k) else (if j = k ∧ m < i then outside lo hi (S.c m j) else S.c m j)
  rw [if_neg (show ¬ (k = k ∧ i < i) by omega)]
  by_cases e : j = k
  ·subst e
   by_cases e2 : m = i
   ·subst e2; simp
   ·by_cases e3 : m < i
    ·rw [if_pos (by omega), if_neg (by omega), if_pos (by omega)]
    ·rw [if_neg (by omega), if_neg (by omega), if_neg (by omega)]
  ·simp [e]
theorem FL.rmTo_all (S : FL) (k lo hi : Nat) : S.rmTo k lo hi 4 = S.remove k lo hi := by
 refine FL.ext' (fun j => ?_) (fun m j => ?_)
 ·show (if j = k then outside lo hi (S.g j) else S.g j) = if j = k then (S.g k).filter _ else S.g j
  by_cases e : j = k
  ·subst e; rfl
  ·simp [e]
 ·show (if j = k ∧ m < 4 then outside lo hi (S.c m j) else S.c m j) = if j = k ∧ m < 4 then (S.c m k).filter _ else S.c m j
  by_cases e : j = k
  ·subst e; rfl
  ·simp [e]
theorem FL.rmTo_upto {S : FL} {N : Nat} (h : S.upto N) (k lo hi i : Nat) : (S.rmTo k lo hi i).upto N := by
 intro j hj
 have := h j hj
 unfold FL.at at this ⊢
 show (if j < 32 then (if j = k then outside lo hi (S.g j) else S.g j) else (if (j - 32) % 32 = k ∧ (j - 32) / 32 < i then outside lo hi (S.c ((j - 32) / 32) ((j - 32) % 32)) else S.c ((j - 32) / 32) ((j - 32) % 32))).length ≤ N
 split at this
 ·rw [if_pos (by assumption)]
  split
  ·exact Nat.le_trans (outside_len _ _ _) this
  ·exact this
 ·rw [if_neg (by assumption)]
  split
  ·exact Nat.le_trans (outside_len _ _ _) this
  ·exact this
set_option maxHeartbeats 4000000 in
set_option maxRecDepth 20000 in
theorem fremove_any {w : World} {f mb n : Nat} {R : List Nat} {S : FL} (h : FreeAt w f mb n R S) (hL : S.upto 900000) (hn : n < 1000000000000) (k lo hi : Nat) (hk : k < 32) :
  Calls Tryz.prog 252 #[vfree f, .int .i64 (k : Int), .int .i64 (lo : Int), .int .i64 (hi : Int)] w fun e w' => (∃ x, e = .returned (.int .i64 x)) ∧ FreeGo w w' f mb (n + 4) R (S.remove k lo hi) := by
 have HB0 := LH (Mem.two w #[.int .i64 (lo : Int)] 3 #[.int .i64 (hi : Int)] 3)
 have HF0 := LH (h.below HB0.out.below)
 have HW0 := LH HB0.out.below
 have HRlt := LH h.mem
 have HUp := LH hL
 have HP : Hid (∀ x w', FreeGo w w' f mb (n + 4) R (S.remove k lo hi) → (fun e w' => (∃ x, e = Ending.returned (.int .i64 x)) ∧ FreeGo w w' f mb (n + 4) R (S.remove k lo hi)) (.returned (.int .i64 x)) w') := LH (fun x w' h => ⟨⟨x, rfl⟩, h⟩)
 generalize (fun e w' => (∃ x, e = Ending.returned (.int .i64 x)) ∧ FreeGo w w' f mb (n + 4) R (S.remove k lo hi)) = Post at *
 clear h hL
 go_enter Tryz.func252, Tryz.ntmps252
 go_upto_region 1 with fail
 generalize (w.alloc _).alloc _ = w0 at *
 obtain ⟨q, hq⟩ : ∃ q, q = w.heap.size := ⟨_, rfl⟩
 rw [← hq] at HB0 HRlt ⊢
 have HQ := LH hq
 clear hq
 go_wp2_with fail
 refine (cright_any _ _).mono ?_
 rintro e w1 ⟨rfl, rfl⟩
 rw [decide_eq_true (show (0 : Int) ≤ (k : Int) ∧ (k : Int) < 32 by omega)]
 have HLen := LH (flen_any HF0.out HUp.out k hk)
 go_wp2_with fail
 refine HLen.out.mono ?_
 rintro e w1 ⟨rfl, hb1⟩
 have HB1 := LH (HB0.out.later hb1)
 have HF1 := LH (HF0.out.below hb1)
 have HW1 := LH (HW0.out.trans (hb1.mono HW0.out.size))
 generalize (S.all k).length = N0 at *
 clear hb1 HLen
 obtain ⟨V, hfv⟩ := HF1.out.v
 have HFV := LH hfv
 clear hfv
 go_upto_region 5 with fail
 have HOg : Hid (OwnI w1 (V k) (S.g k)) := LH (by have := HFV.out.inn.rows k (by omega); rwa [S.at_g hk] at this)
 have HLg : Hid ((S.g k).length ≤ 900000) := LH (by have := HUp.out k (by omega); rwa [S.at_g hk] at this)
 have hfn : f ∉ (rowOf (V k)).toList := fun hm => (HFV.out.inn.neF k (by omega)).1 (by simpa using hm)
 have hqR : Hid (∀ b, rowOf (V k) = some b → b < q) := LH (fun b hb => HRlt.out b (HFV.out.rows k (by omega) b hb))
 have r0 := fun x => near_cell (L := (rowOf (V k)).toList) (HFV.out.inn.g hk) hfn x
 have hC1 : ∃ x : Near (rowOf (V k)).toList w1, w1.drew = x.val := near_of (Touch.ofBelow (later_below (later_drew w1)))
 have HD1 : Hid (Below w1.heap.size w1 w1.drew) := LH (later_below (later_drew w1))
 clear hfn
 refine wp_region_seg (C := fun w' => ∃ x : Near (rowOf (V k)).toList w1, w' = x.val) [.fl [0, 1, 2, 3, 4, 5, 6, 7, 8, 10, 11], .sq [9] true, .sq [12, 13] false] (by kernel_rfl) (by kernel_rfl) (by intro c a d v w h; cases d <;> exact h) ?_
 simp only [segs, picks, List.getElem?_cons_succ, List.getElem?_cons_zero]
 refine wpSeg_fl hC1 ?_
 repeat (first | go_big_quiet_step (fail) | quiet_step (fail))
 refine wpQuiet_nil ?_
 clear r0
 generalize w1.drew = wd at *
 have HOd : Hid (OwnI wd (V k) (S.g k)) := LH (HOg.out.keep (fun b hb => HD1.out.block b (HOg.out.lt b hb)))
 have HBd := LH (HB1.out.later HD1.out)
 have HDel := LH (deleteI_any HOd.out (by have := HLg.out; omega) lo hi q (q + 1) (HBd.out.cell 0 0 rfl rfl) (HBd.out.cell 1 0 rfl rfl) (fun e => Nat.lt_irrefl _ (hqR.out _ e)) (fun e => by have := hqR.out _ e; omega))
 refine wpSeg_sq (fun K hK => ?_)
 go_wp2_with fail
 refine HDel.out.mono ?_
 rintro e w2 ⟨v2, rfl, ho2, hrow2, hg2⟩
 have HO2 := LH ho2
 have HRow2 := LH hrow2
 have HG2 := LH hg2
 have hC2 := near_of ((Touch.ofBelow HD1.out).trans (grown_touchO hg2))
 clear ho2 hrow2 hg2 HDel
 go_wp2_with fail
 refine hK _ _ (fun _ => hC2) ?_
 clear hK K
 have hst := step_g HFV.out.inn hk HFV.out.f HFV.out.mb HFV.out.lt HD1.out HG2.out HO2.out (fun b hb => .inl (by rw [← HRow2.out]; exact hb))
 have hos : (w2.setCell ⟨f, k, none⟩ v2).os = w1.os ∧ (w2.setCell ⟨f, k, none⟩ v2).tape = w1.tape ∧ (w2.setCell ⟨f, k, none⟩ v2).output = w1.output := ⟨HG2.out.os.trans HD1.out.os, HG2.out.tape.trans HD1.out.tape, HG2.out.output.trans HD1.out.output⟩
 have HGo0 : Hid (FreeGo w1 (w2.setCell ⟨f, k, none⟩ v2) f mb n R (S.rmTo k lo hi 0)) := LH (by rw [FL.rmTo_zero]; exact hst.go HFV.out.inn (by omega) HFV.out.f HFV.out.mb HFV.out.lt HFV.out.rows hos)
 have HFh : Hid (w2.heap[f]? = some (.cells ((List.range 32).map V ++ [Value.map (some mb)]).toArray 334 (0, 0))) := LH (by
  have := (HG2.out.block f (Nat.lt_of_lt_of_le (HFV.out.lt f HFV.out.f) HD1.out.size) (fun e => (HFV.out.inn.neF k (by omega)).1 e.symm)).trans (HD1.out.block f (HFV.out.lt f HFV.out.f))
  exact this.trans HFV.out.inn.head)
 have fr : w2.frozen? ⟨f, k, none⟩ = false := frozen_of_row _ _ _ _ _ HFh.out
 have ck1 : w2.cell? ⟨f, k, none⟩ = some (V k) := (cell_of_row _ _ k _ _ _ HFh.out).trans (HFV.out.inn.lt hk)
 obtain ⟨a', c', e', _⟩ := HO2.out.cells
 obtain ⟨l', hl'⟩ : ∃ l', l' = (outside lo hi (S.g k)).length := ⟨_, rfl⟩
 rw [← hl'] at e'
 subst e'
 clear hst hl' hos
 refine wpSeg_last ?_
 go_wp2_with fail
 generalize w2.setCell _ _ = w3 at *
 clear ck1 fr HFh HO2 HRow2 HG2 HOd HOg hC1 hC2 HBd HD1 hqR
 go_loopw [35] (fun iv wr => ∃ i : Nat, i ≤ 4 ∧ iv = .int .i64 (i : Int) ∧ Hid (FreeGo w1 wr f mb (n + i) R (S.rmTo k lo hi i))) (fun iv _ => 4 - (intOf iv).toNat)
 case atStart => exact ⟨0, by omega, rfl, HGo0⟩
 case round =>
  obtain ⟨i, hi4, rfl, HGo⟩ := hrel
  obtain ⟨R1, hfa, ht1, hr1⟩ := HGo.out
  have HT1 := LH ht1
  have HR1 := LH hr1
  have HUpr : Hid ((S.rmTo k lo hi i).upto 900000) := LH (FL.rmTo_upto HUp.out k lo hi i)
  by_cases hlt : i < 4
  case neg =>
   obtain rfl : i = 4 := by omega
   have HLen := LH (flen_any hfa HUpr.out k hk)
   clear hfa ht1 hr1
   generalize ((S.rmTo k lo hi 4).all k).length = N1 at *
   go_wp2_with fail
   refine HLen.out.mono ?_
   rintro e w5 ⟨rfl, hb5⟩
   have HFin : Hid (FreeGo w w5 f mb (n + 4) R (S.remove k lo hi)) := LH (by
    have h1 := HGo.out.later hb5
    rw [FL.rmTo_all] at h1
    exact h1.own HQ.out HW1.out)
   clear hb5
   go_wp2_with fail
   exact HP.out _ _ HFin.out
  obtain ⟨V1, hfv⟩ := hfa.v
  have HMem := LH (Mem.one wr #[.int .i64 (i : Int), .int .i64 (k : Int)] 336)
  have HFV1 := LH (hfv.below HMem.out.below)
  have HFVr := LH hfv.lt
  have hfvrows := LH hfv.rows
  have HW2 := LH HMem.out.below
  have HStep := LH (FL.rmTo_succ S k lo hi i)
  have hq1R : Hid (∀ b ∈ R, b < q) := HRlt
  have HBr : Hid (wr.cell? ⟨q, 0, none⟩ = some (.int .i64 (lo : Int)) ∧ wr.cell? ⟨q + 1, 0, none⟩ = some (.int .i64 (hi : Int))) := LH ⟨cell_of_touch ht1 (fun hm => Nat.lt_irrefl q (HRlt.out q hm)) (HB1.out.cell 0 0 rfl rfl), cell_of_touch ht1 (fun hm => by have := HRlt.out (q + 1) hm; omega) (HB1.out.cell 1 0 rfl rfl)⟩
  have HQ1 := LH (HB1.out.glt 1 rfl)
  generalize S.rmTo k lo hi i = T at *
  clear hfa ht1 hr1 hfv
  go_upto_region 10 with fail
  obtain ⟨qs, hqs⟩ : ∃ qs, qs = wr.heap.size := ⟨_, rfl⟩
  rw [← hqs] at HMem ⊢
  have HQs := LH hqs
  clear hqs
  generalize wr.alloc _ = wa at *
  have hsl : slotI i k < 160 := by unfold slotI; omega
  have hkey := key_slot (i : Int) (k : Int) (wf_small i (by omega)) (wf_small k (by omega))
  have r0 := fun x => later_cell (HMem.out.cell 0 0 rfl rfl) x
  have r1 := fun x => later_cell (HMem.out.cell 0 1 rfl rfl) x
  have r2 := fun x => later_cell HFV1.out.inn.m x
  refine wp_region_seg (C := fun w' => ∃ x : Later (wa), w' = x.val) [.fl [0, 1, 2, 3, 4], .sq [5, 6] false, .fl [7, 8, 9], .sq [10] false] (by kernel_rfl) (by kernel_rfl) (by intro c a d v w h; cases d <;> exact h) ?_
  simp only [segs, picks, List.getElem?_cons_succ, List.getElem?_cons_zero]
  have hC3 := later_drew (wa)
  refine wpSeg_fl hC3 ?_
  repeat (first | go_big_quiet_step (fail) | quiet_step (fail))
  refine wpQuiet_nil ?_
  clear r0 r1 r2
  have HD3 : Hid (Below wa.heap.size wa wa.drew) := LH (later_below hC3)
  generalize wa.drew = wb at *
  have HFb := LH (HFV1.out.below HD3.out)
  have HMb := LH (HMem.out.later HD3.out)
  have HBb : Hid (wb.cell? ⟨q, 0, none⟩ = some (.int .i64 (lo : Int)) ∧ wb.cell? ⟨q + 1, 0, none⟩ = some (.int .i64 (hi : Int))) := LH (by
   have hbb := HW2.out.trans (HD3.out.mono HW2.out.size)
   exact ⟨(hbb.cell (p := ⟨q, 0, none⟩) (World.block_lt_of_cell? _ _ HBr.out.1)).trans HBr.out.1, (hbb.cell (p := ⟨q + 1, 0, none⟩) (World.block_lt_of_cell? _ _ HBr.out.2)).trans HBr.out.2⟩)
  obtain ⟨M, hm, hv⟩ := HFb.out.inn.map
  have HM := LH hm
  have HV := LH hv
  have HVi := LH (hv i k hlt hk)
  have HOs : Hid (OwnI wb (V1 (slotI i k)) (T.c i k)) := LH (by have := HFb.out.inn.rows (slotI i k) hsl; rwa [T.at_c i hk] at this)
  have HLs : Hid ((T.c i k).length ≤ 900000) := LH (by have := HUpr.out (slotI i k) hsl; rwa [T.at_c i hk] at this)
  clear hm hv
  obtain ⟨sl, hsle⟩ : ∃ sl, sl = slotI i k := ⟨_, rfl⟩
  rw [← hsle] at HVi HOs hsl
  have HSl := LH hsle
  clear hsle
  cases hM : M (pairKey i k) with
  | none =>
   have HVn := HVi.out
   rw [hM] at HVn
   have HVn := LH HVn
   have HNext : Hid (FreeGo w1 wb f mb (n + (i + 1)) R (S.rmTo k lo hi (i + 1))) := LH (by
    have e0 : T.c i k = [] := by
     have h1 := HOs.out
     rw [← HVn.out] at h1
     obtain ⟨a, c, e, _⟩ := h1.cells
     injection e with _ e2 _
     exact List.length_eq_zero_iff.1 e2.symm
    have e1 : S.rmTo k lo hi (i + 1) = T := by
     rw [HStep.out, e0]
     have := T.setC_same i k
     rw [e0] at this
     exact this
    rw [e1]
    exact ((HGo.out.later HW2.out).later HD3.out).mono (by omega))
   have HMn := LH hM
   clear hM
   refine wpSeg_sq (fun K hK => ?_)
   go_wp2_with (refine wpList_vlook_ok rfl _ _ 332 rfl 336 47 keyed_slot Tryz.underlying332 _ (zero_ints _) mb (n + i) M rfl HM.out _ _ rfl hkey ?_; rw [HMn.out])
   go_wp2_with fail
   refine hK _ _ (fun h => nomatch h) ?_
   clear hK K
   refine wpSeg_fl hC3 ?_
   repeat (first | go_big_quiet_step (fail) | quiet_step (fail))
   refine wpQuiet_nil ?_
   refine wpSeg_last ?_
   go_wp2_with fail
   go_roundw
   case rel => exact ⟨i + 1, by omega, vint (by omega), HNext⟩
   case measure => simp [intOf]; omega
  | some v =>
   have HVs : Hid (V1 sl = v) := LH (by have := HVi.out; rw [hM] at this; exact this.symm)
   have HMn := LH hM
   clear hM
   refine wpSeg_sq (fun K hK => ?_)
   go_wp2_with (refine wpList_vlook_ok rfl _ _ 332 rfl 336 47 keyed_slot Tryz.underlying332 _ (zero_ints _) mb (n + i) M rfl HM.out _ _ rfl hkey ?_; rw [HMn.out])
   go_wp2_with fail
   refine hK _ _ (fun h => nomatch h) ?_
   clear hK K
   refine wpSeg_fl hC3 ?_
   repeat (first | go_big_quiet_step (fail) | quiet_step (fail))
   refine wpQuiet_nil ?_
   refine wpSeg_last ?_
   go_upto_region 12 with fail
   have hfn : f ∉ (rowOf v).toList := fun hm => (HFb.out.inn.neF sl hsl).1 (by rw [HVs.out]; simpa using hm)
   have hqn : qs ∉ (rowOf v).toList := fun hm => by
    have h1 := HFVr.out qs (hfvrows.out sl hsl qs (by rw [HVs.out]; simpa using hm))
    have h2 := HQs.out
    omega
   have r0 := fun x => near_cell (L := (rowOf v).toList) (HMb.out.cell 0 0 rfl rfl) hqn x
   have r1 := fun x => near_cell (L := (rowOf v).toList) (HMb.out.cell 0 1 rfl rfl) hqn x
   have r2 := fun x => near_cell (L := (rowOf v).toList) HFb.out.inn.m hfn x
   have hC4 : ∃ x : Near (rowOf v).toList wb, wb.drew = x.val := near_of (Touch.ofBelow (later_below (later_drew wb)))
   have HD4 : Hid (Below wb.heap.size wb wb.drew) := LH (later_below (later_drew wb))
   clear hfn hqn hC3
   refine wp_region_seg (C := fun w' => ∃ x : Near (rowOf v).toList wb, w' = x.val) [.fl [0, 1, 2, 3, 4, 5, 6], .sq [7] true, .sq [8] false] (by kernel_rfl) (by kernel_rfl) (by intro c a d v w h; cases d <;> exact h) ?_
   simp only [segs, picks, List.getElem?_cons_succ, List.getElem?_cons_zero]
   refine wpSeg_fl hC4 ?_
   repeat (first | go_big_quiet_step (fail) | quiet_step (fail))
   refine wpQuiet_nil ?_
   clear r0 r1 r2
   generalize wb.drew = wc at *
   have HOc : Hid (OwnI wc v (T.c i k)) := LH ((by rw [← HVs.out]; exact HOs.out : OwnI wb v (T.c i k)).keep (fun b hb => HD4.out.block b ((by rw [← HVs.out]; exact HOs.out : OwnI wb v (T.c i k)).lt b hb)))
   have hvq : ∀ b, rowOf v = some b → b ≠ q ∧ b ≠ q + 1 := fun b hb => by
    have h1 := hfvrows.out sl hsl b (by rw [HVs.out]; exact hb)
    rcases HR1.out b h1 with c | c
    ·have := HRlt.out b c; omega
    ·have := HQ1.out; omega
   have HDel := LH (deleteI_any HOc.out (by have := HLs.out; omega) lo hi q (q + 1) ((HD4.out.cell (p := ⟨q, 0, none⟩) (World.block_lt_of_cell? _ _ HBb.out.1)).trans HBb.out.1) ((HD4.out.cell (p := ⟨q + 1, 0, none⟩) (World.block_lt_of_cell? _ _ HBb.out.2)).trans HBb.out.2) (fun e => (hvq _ e).1 rfl) (fun e => (hvq _ e).2 rfl))
   clear hvq
   refine wpSeg_sq (fun K hK => ?_)
   go_wp2_with fail
   refine HDel.out.mono ?_
   rintro e w4 ⟨v4, rfl, ho4, hrow4, hg4⟩
   have HO4 := LH ho4
   have HRow4 := LH hrow4
   have HG4 := LH hg4
   have HT4 : Hid (Touch (rowOf v).toList wb w4) := LH ((Touch.ofBelow HD4.out).trans (grown_touchO hg4))
   have hC5 := near_of HT4.out
   clear ho4 hrow4 hg4 HDel
   go_wp2_with fail
   refine hK _ _ (fun _ => hC5) ?_
   clear hK K
   have hmbn : rowOf v ≠ some mb := by rw [← HVs.out]; exact (HFb.out.inn.neF sl hsl).2
   have HM4 : Hid (VMap Tryz.prog 336 w4 mb (n + i) M) := LH (HM.out.block (HT4.out.block mb (HFb.out.lt mb HFb.out.mb) (fun hm => hmbn (by simpa using hm))))
   have HNm : Hid (n + i < maxLen) := LH (by unfold maxLen; omega)
   refine wpSeg_last ?_
   go_wp2_with (refine wpList_vstore rfl _ _ _ 332 rfl 336 47 keyed_slot Tryz.underlying332 mb (n + i) M rfl HM4.out HNm.out _ _ _ rfl rfl hkey ?_; intro w5 hm5 hg5; have HM5 := LH hm5; have HG5 := LH hg5; clear hm5 hg5)
   have hst := step_ca (v := v4) (xs := outside lo hi (T.c i k)) HFb.out.inn hlt hk HFb.out.f HFb.out.mb HFb.out.lt HV.out (fun b hb h1 h2 => (HG5.out.block b (Nat.lt_of_lt_of_le hb HT4.out.size) (fun e => h1 (Option.some.inj e.symm).symm)).trans (HT4.out.block b hb (fun hm => h2 (by rw [← HSl.out, HVs.out]; simpa using hm)))) (Nat.le_trans HT4.out.size HG5.out.size) HM5.out
    (HO4.out.keep (fun b hb => HG5.out.block b (HO4.out.lt b hb) (fun e => hmbn (by rw [← HRow4.out, hb]; exact e))))
    (fun b hb => .inl (by rw [← HSl.out, HVs.out, ← HRow4.out]; exact hb))
   have hos : w5.os = wb.os ∧ w5.tape = wb.tape ∧ w5.output = wb.output := ⟨HG5.out.os.trans HT4.out.os, HG5.out.tape.trans HT4.out.tape, HG5.out.output.trans HT4.out.output⟩
   have HNext : Hid (FreeGo w1 w5 f mb (n + (i + 1)) R (S.rmTo k lo hi (i + 1))) := LH (by
    rw [HStep.out]
    exact FreeGo.more ((HT1.out.later HW2.out).later HD3.out) HR1.out HFb.out (by rw [← HSl.out]; exact hsl) hst hos)
   clear hst hos
   go_roundw
   case rel => exact ⟨i + 1, by omega, vint (by omega), HNext⟩
   case measure => simp [intOf]; omega
end Go.Proofs.YtpopbfagliagnaaGreat
namespace Go.Proofs.YtpopbfagliagnaaGreat
open Go.RowKit
def PlPost (S : Dev) (L : List Hd) (a : Int) (w : World) : Ending → World → Prop := fun e w' => (∃ p d : Int, e = .returned (.tuple #[vob p d, .bool (placedN S L a).isSome]) ∧ ∀ o, placedN S L a = some o → o = ⟨p, d, 0⟩) ∧ Below w.heap.size w w'
theorem headN_cases (S : Dev) (a : Int) : headN S a = ⟨0, 0, 22⟩ ∨ ∃ p d, headN S a = ⟨p, d, 0⟩ := by
 rcases headN_code S a with h | h
 ·refine .inr ⟨(headN S a).p, (headN S a).d, ?_⟩
  have := h.1
  generalize headN S a = o at *
  obtain ⟨p, d, c⟩ := o
  dsimp only at this
  rw [this]
 ·exact .inl h
set_option maxHeartbeats 4000000 in
set_option maxRecDepth 20000 in
theorem aplaced_any {w : World} {F : Foot} {S : Dev} (h : DevAt w F S) (a : Option Addr) (B cap : Nat) (L : List Hd) (hlen : L.length = B) (hc : Cells w a (hdCs L)) (hB : B ≤ 1000) (hS : S.cache.length ≤ 1000000) (x : Int) :
  Calls Tryz.prog 85 #[vdev F, vgeom (B : Int), .slice a B cap, .int .i64 x] w (PlPost S L x w) := by
 have HM := LH (Mem.two w #[.int .i64 (B : Int)] 44 #[.int .i64 0, .int .i64 0] 169)
 have HP : Hid (∀ (p d : Int) b w', b = (placedN S L x).isSome → (∀ o, placedN S L x = some o → o = ⟨p, d, 0⟩) → Below w.heap.size w w' → PlPost S L x w (.returned (.tuple #[vob p d, .bool b])) w') := LH (fun p d b w' h1 h2 h3 => by subst h1; exact ⟨⟨p, d, rfl, h2⟩, h3⟩)
 generalize PlPost S L x w = Post at *
 have HD0 := LH (h.below HM.out.below)
 have HC0 := LH (hc.below HM.out.below (Nat.le_refl _))
 have HLen := LH hlen
 have HBlk := LH (fun w => gblockOf_any B hB x w)
 clear h hc hlen
 go_enter Tryz.func85, Tryz.ntmps85
 go_upto_region 1 with fail
 obtain ⟨q, hq⟩ : ∃ q, q = w.heap.size := ⟨_, rfl⟩
 rw [← hq] at HM ⊢
 generalize (w.alloc _).alloc _ = w0 at *
 clear hq
 have c0 := HM.out.cell 0 0 rfl rfl
 by_cases hin : x < 512 ∨ 512 * (B : Int) ≤ x
 ·have HN : Hid (placedN S L x = none) := LH (by unfold placedN; rw [if_pos (by rw [HLen.out]; omega)])
  have hbb : blockOf (B : Int) x < 1 := by unfold blockOf; split <;> omega
  have HBb := LH HBlk.out
  generalize blockOf (B : Int) x = bb at *
  clear hin
  go_wp2_with fail
  refine (HBlk.out _).mono ?_
  rintro e w1 ⟨rfl, hb1⟩
  have HM1 := LH (HM.out.later hb1)
  clear hb1 c0
  go_wp2_with (refine wpList_store_mem aggOb HM1.out 1 rfl rfl rfl rfl rfl rfl rfl rfl ?_; intro w7 h7 ht7; have H7 := LH h7; clear h7 ht7)
  refine bodyPost_ret (results_cell_row2 (p := 8) (u := 9) rfl _ _ _ _ _ _ _ rfl (H7.out.exact 1 rfl) Tryz.underlying169 rfl (by kernel_rfl)) rfl ?_
  refine HP.out _ _ _ _ (by rw [HN.out]; rfl) (fun o ho => by rw [HN.out] at ho; cases ho) H7.out.below
 obtain ⟨y, hy⟩ : ∃ y : Nat, x = (y : Int) := ⟨x.toNat, by omega⟩
 subst hy
 have h1 : 512 ≤ y := by omega
 have h2 : y < 512 * B := by omega
 have hbo : blockOf (B : Int) (y : Int) = ((y / 512 : Nat) : Int) := by unfold blockOf; rw [if_neg (by omega)]; omega
 rw [hbo] at HBlk
 obtain ⟨b, hb⟩ : ∃ b, b = y / 512 := ⟨_, rfl⟩
 have hb1 : 1 ≤ b := by omega
 have hb2 : b < B := by omega
 rw [← hb] at HBlk
 have HBy := LH hb
 have HPl : Hid (placedN S L (y : Int) = if (headN S (y : Int)).code ≠ 0 then none
  else if small (objSize (headN S (y : Int)).p (headN S (y : Int)).d) then (if isCell L (ofN (objSize (headN S (y : Int)).p (headN S (y : Int)).d : Nat)) y then some (headN S (y : Int)) else none)
  else if y % 512 = 0 ∧ wholeN L b = objBlocks (objSize (headN S (y : Int)).p (headN S (y : Int)).d) then some (headN S (y : Int)) else none) := LH (by
  unfold placedN
  rw [Int.toNat_natCast, ← hb, HLen.out]
  by_cases c : (headN S (y : Int)).code ≠ 0
  ·rw [if_pos (.inr (.inr c)), if_pos c]
  ·rw [if_neg (by omega), if_neg c])
 clear hbo hin hb
 go_wp2_with fail
 refine (HBlk.out _).mono ?_
 rintro e w1 ⟨rfl, hb1'⟩
 have HM1 := LH (HM.out.later hb1')
 have HD1 := LH (HD0.out.below hb1')
 have HC1 := LH (HC0.out.below hb1' (Nat.le_refl _))
 clear hb1' c0
 go_wp2_with fail
 refine (ohead_any HD1.out (y : Int)).mono ?_
 rintro e w2 ⟨rfl, hb2'⟩
 have HM2 := LH (HM1.out.later hb2')
 have HD2 := LH (HD1.out.below hb2')
 have HC2 := LH (HC1.out.below hb2' (Nat.le_refl _))
 clear hb2'
 unfold Odec.val
 rcases headN_cases S (y : Int) with hh | ⟨p, d, hh⟩
 ·have HN : Hid (placedN S L (y : Int) = none) := LH (by rw [HPl.out, hh]; rfl)
  rw [hh]
  dsimp only
  go_upto_region 5 with fail
  have HM3 := LH (HM2.out.alloc #[.int .i64 0, .int .i64 0] 169)
  generalize w2.alloc _ = w3 at *
  go_wp2_with (refine wpList_store_mem aggOb HM3.out 1 rfl rfl rfl rfl rfl rfl rfl rfl ?_; intro w7 h7 ht7; have H7 := LH h7; clear h7 ht7)
  refine bodyPost_ret (results_cell_row2 (p := 8) (u := 9) rfl _ _ _ _ _ _ _ rfl (H7.out.exact 1 rfl) Tryz.underlying169 rfl (by kernel_rfl)) rfl ?_
  refine HP.out _ _ _ _ (by rw [HN.out]; rfl) (fun o ho => by rw [HN.out] at ho; cases ho) H7.out.below
 have HS0 : Hid (objSize p d ≠ 0) := LH (by
  have := headN_code S (y : Int)
  rw [hh] at this
  rcases this with h | h
  ·exact h.2.2.2.1
  ·injection h with _ _ h3; cases h3)
 rw [hh]
 have HPl2 : Hid (placedN S L (y : Int) = if small (objSize p d) then (if isCell L (ofN (objSize p d : Nat)) y then some ⟨p, d, 0⟩ else none)
  else if y % 512 = 0 ∧ wholeN L b = objBlocks (objSize p d) then some ⟨p, d, 0⟩ else none) := LH (by rw [HPl.out, hh, if_neg (by simp)])
 dsimp only
 clear HPl HBlk
 have HSm := LH (fun w => osmall_any p d w)
 have HBl := LH (fun w => oblocks_any p d w)
 generalize objSize p d = s at *
 go_upto_region 7 with fail
 have HB3 := LH (below_alloc w2 (Obj.cells #[.int .i64 p, .int .i64 d] 169))
 have HM3 := LH (HM2.out.alloc #[.int .i64 p, .int .i64 d] 169)
 have HC3 := LH (HC2.out.below HB3.out (Nat.le_refl _))
 obtain ⟨q3, hq3⟩ : ∃ q3, q3 = w2.heap.size := ⟨_, rfl⟩
 rw [← hq3] at HM3 ⊢
 generalize w2.alloc _ = w3 at *
 clear hq3
 obtain ⟨k, c, z, he⟩ := hdGetD L b
 obtain ⟨b1, o1, rfl, e0, e1, e2⟩ := hd_cells HC3.out (by rw [HLen.out]; exact hb2) he
 have HEb := LH he
 clear he
 have hbB : (b : Int) < (B : Int) := by omega
 go_upto_region 8 with fail
 have HB4 := LH (below_alloc w3 (Obj.cells #[.int .i64 k, .int .i64 c, .int .i64 z] 103))
 have HM4 := LH (HM3.out.alloc #[.int .i64 k, .int .i64 c, .int .i64 z] 103)
 have HC4 := LH (HC3.out.below HB4.out (Nat.le_refl _))
 obtain ⟨q4, hq4⟩ : ∃ q4, q4 = w3.heap.size := ⟨_, rfl⟩
 rw [← hq4] at HM4 ⊢
 generalize w3.alloc _ = w4 at *
 clear hq4 e0 e1 e2
 have d0 := HM4.out.cell 2 0 rfl rfl
 have d1 := HM4.out.cell 2 1 rfl rfl
 go_wp2_with fail
 refine (HSm.out _).mono ?_
 rintro e w5 ⟨rfl, hb5⟩
 have HM5 := LH (HM4.out.later hb5)
 have HC5 := LH (HC4.out.below hb5 (Nat.le_refl _))
 clear hb5 d0 d1
 have hnd := HM5.out.nd
 simp only [List.map_cons, List.map_nil, List.map_append, List.cons_append, List.nil_append, List.nodup_cons, List.mem_cons, List.not_mem_nil, or_false, not_or] at hnd
 have hn0 : q ∉ [q + 1] := by simp
 have hn2 : q3 ∉ [q + 1] := by simp; exact fun e => hnd.2.1.1 e.symm
 have hn3 : q4 ∉ [q + 1] := by simp; exact fun e => hnd.2.1.2 e.symm
 have HNs := LH (And.intro hn0 (And.intro hn2 hn3))
 clear hnd hn0 hn2 hn3
 by_cases hsm : small s
 ·have hk := ofN_lt hsm
  rw [ofV_small _ hsm]
  have HPl3 : Hid (placedN S L (y : Int) = if isCell L (ofN (s : Int)) y then some ⟨p, d, 0⟩ else none) := LH (by rw [HPl2.out, if_pos hsm])
  generalize ofN (s : Int) = kk at *
  have HIs : Hid (isCell L kk y ↔ begins kk y = true ∧ (⟨k, c, z⟩ : Hd) = ⟨1, kk, 0⟩) := LH (by
   unfold isCell begins
   rw [← HBy.out, HEb.out, decide_eq_true_eq, HLen.out]
   constructor
   ·rintro ⟨_, _, h3, h4, h5⟩; exact ⟨⟨h4, h5⟩, h3⟩
   ·rintro ⟨⟨h4, h5⟩, h3⟩; exact ⟨h1, h2, h3, h4, h5⟩)
  have HAt := LH (fun w => cat_any B hB kk y hk h1 h2 w)
  clear HPl2 hsm HSm HBl
  have c0 := HM5.out.cell 0 0 rfl rfl
  go_wp2_with fail
  refine (HAt.out _).mono ?_
  rintro e w6 ⟨⟨ax, ay, rfl⟩, hb6⟩
  have HM6 := LH (HM5.out.later hb6)
  clear hb6 c0 HAt
  go_upto_region 11 with fail
  have HM7 := LH (HM6.out.alloc #[.int .i64 ax, .int .i64 ay] 289)
  generalize w6.alloc _ = w7 at *
  have d0 := HM7.out.cell 2 0 rfl rfl
  have d1 := HM7.out.cell 2 1 rfl rfl
  have d3 := HM7.out.cell 3 0 rfl rfl
  have d4 := HM7.out.cell 3 1 rfl rfl
  have d5 := HM7.out.cell 3 2 rfl rfl
  have r0 := fun x => near_cell (L := [q + 1]) d0 HNs.out.2.1 x
  have r1 := fun x => near_cell (L := [q + 1]) d1 HNs.out.2.1 x
  have r3 := fun x => near_cell (L := [q + 1]) d3 HNs.out.2.2 x
  have r4 := fun x => near_cell (L := [q + 1]) d4 HNs.out.2.2 x
  have r5 := fun x => near_cell (L := [q + 1]) d5 HNs.out.2.2 x
  have HT0 : Hid (Touch [q + 1] w7 w7.drew) := LH (Touch.ofBelow (later_below (later_drew w7)))
  have HD0 : Hid (Below w7.heap.size w7 w7.drew) := LH (later_below (later_drew w7))
  have hC1 := near_of HT0.out
  clear d0 d1 d3 d4 d5
  have hgd := gsBh
  cases hbg : begins kk y with
  | false =>
   have HN : Hid (placedN S L (y : Int) = none) := LH (by rw [HPl3.out, if_neg (fun h => by have := (HIs.out.1 h).1; rw [hbg] at this; cases this)])
   clear hbg HPl3 HIs
   refine wp_region_seg (C := fun w' => ∃ x : Near [q + 1] w7, w' = x.val) [.fl [0, 1, 2, 3, 4, 5, 6, 7], .sq [8] true, .sq [9] false] (by kernel_rfl) (by kernel_rfl) (by intro c a d v w h; cases d <;> exact h) ?_
   simp only [segs, picks, List.getElem?_cons_succ, List.getElem?_cons_zero]
   refine wpSeg_fl hC1 ?_
   repeat (first | go_big_quiet_step (fail) | quiet_step (fail))
   refine wpQuiet_nil ?_
   refine wpSeg_sq (fun K hK => ?_)
   go_wp2_with (refine wpList_store_mem aggOb (HM7.out.later HD0.out) 1 rfl rfl rfl rfl rfl rfl rfl rfl ?_; intro w8 h8 ht8; have H8 := LH h8; have HT8 := LH (HT0.out.trans ht8); clear h8 ht8)
   have hC2 := near_of HT8.out
   go_wp2_with fail
   refine hK _ _ (fun _ => hC2) ?_
   clear hK K
   refine wpSeg_last ?_
   go_wp2_with fail
   refine bodyPost_ret (results_cell_row2 (p := 8) (u := 9) rfl _ _ _ _ _ _ _ rfl (H8.out.exact 1 rfl) Tryz.underlying169 rfl (by kernel_rfl)) rfl ?_
   refine HP.out _ _ _ _ (by rw [HN.out]; rfl) (fun o ho => by rw [HN.out] at ho; cases ho) H8.out.below
  | true =>
   by_cases hq : (⟨k, c, z⟩ : Hd) = ⟨1, kk, 0⟩
   ·have heq : ∀ w', (Op.equalIn 10000 103 (.agg #[.int .i64 k, .int .i64 c, .int .i64 z]) (.agg #[.int .i64 1, .int .i64 (kk : Int), .int .i64 0])).run Tryz.prog w' = .ok true w' := fun w' => equalBh w' _ _ _ _ _ _ _ (by rw [← hd_beq]; simp [hq])
    have HN : Hid (placedN S L (y : Int) = some ⟨p, d, 0⟩) := LH (by rw [HPl3.out, if_pos (HIs.out.2 ⟨hbg, hq⟩)])
    clear hbg HPl3 HIs hq
    refine wp_region_seg (C := fun w' => ∃ x : Near [q + 1] w7, w' = x.val) [.fl [0, 1, 2, 3, 4, 5, 6, 7], .sq [8] true, .sq [9] false] (by kernel_rfl) (by kernel_rfl) (by intro c a d v w h; cases d <;> exact h) ?_
    simp only [segs, picks, List.getElem?_cons_succ, List.getElem?_cons_zero]
    refine wpSeg_fl hC1 ?_
    repeat (first | go_big_quiet_step (fail) | quiet_step (fail))
    refine wpQuiet_nil ?_
    refine wpSeg_sq (fun K hK => ?_)
    go_wp2_with (refine wpList_store_mem aggOb (HM7.out.later HD0.out) 1 rfl rfl rfl rfl rfl rfl rfl rfl ?_; intro w8 h8 ht8; have H8 := LH h8; have HT8 := LH (HT0.out.trans ht8); clear h8 ht8)
    have hC2 := near_of HT8.out
    go_wp2_with fail
    refine hK _ _ (fun _ => hC2) ?_
    clear hK K
    refine wpSeg_last ?_
    go_wp2_with fail
    refine bodyPost_ret (results_cell_row2 (p := 8) (u := 9) rfl _ _ _ _ _ _ _ rfl (H8.out.exact 1 rfl) Tryz.underlying169 rfl (by kernel_rfl)) rfl ?_
    refine HP.out _ _ _ _ (by rw [HN.out]; rfl) (fun o ho => by rw [HN.out] at ho; cases ho; rfl) H8.out.below
   ·have heq : ∀ w', (Op.equalIn 10000 103 (.agg #[.int .i64 k, .int .i64 c, .int .i64 z]) (.agg #[.int .i64 1, .int .i64 (kk : Int), .int .i64 0])).run Tryz.prog w' = .ok false w' := fun w' => equalBh w' _ _ _ _ _ _ _ (by rw [← hd_beq]; simp [hq])
    have HN : Hid (placedN S L (y : Int) = none) := LH (by rw [HPl3.out, if_neg (fun h => hq (HIs.out.1 h).2)])
    clear hbg HPl3 HIs hq
    refine wp_region_seg (C := fun w' => ∃ x : Near [q + 1] w7, w' = x.val) [.fl [0, 1, 2, 3, 4, 5, 6, 7], .sq [8] true, .sq [9] false] (by kernel_rfl) (by kernel_rfl) (by intro c a d v w h; cases d <;> exact h) ?_
    simp only [segs, picks, List.getElem?_cons_succ, List.getElem?_cons_zero]
    refine wpSeg_fl hC1 ?_
    repeat (first | go_big_quiet_step (fail) | quiet_step (fail))
    refine wpQuiet_nil ?_
    refine wpSeg_sq (fun K hK => ?_)
    go_wp2_with (refine wpList_store_mem aggOb (HM7.out.later HD0.out) 1 rfl rfl rfl rfl rfl rfl rfl rfl ?_; intro w8 h8 ht8; have H8 := LH h8; have HT8 := LH (HT0.out.trans ht8); clear h8 ht8)
    have hC2 := near_of HT8.out
    go_wp2_with fail
    refine hK _ _ (fun _ => hC2) ?_
    clear hK K
    refine wpSeg_last ?_
    go_wp2_with fail
    refine bodyPost_ret (results_cell_row2 (p := 8) (u := 9) rfl _ _ _ _ _ _ _ rfl (H8.out.exact 1 rfl) Tryz.underlying169 rfl (by kernel_rfl)) rfl ?_
    refine HP.out _ _ _ _ (by rw [HN.out]; rfl) (fun o ho => by rw [HN.out] at ho; cases ho) H8.out.below
 rw [ofV_large _ hsm]
 have HNb : Hid (1 ≤ objBlocks s) := LH (by
  unfold objBlocks
  rw [if_neg hsm]
  have := HS0.out
  omega)
 have HPl3 : Hid (placedN S L (y : Int) = if y % 512 = 0 ∧ wholeN L b = objBlocks s then some ⟨p, d, 0⟩ else none) := LH (by rw [HPl2.out, if_neg hsm])
 clear HPl2 hsm HSm
 have HWh := LH (bwhole_any (some ⟨b1, o1, none⟩) B cap L HLen.out w5 HC5.out hB b hb2)
 go_wp2_with fail
 refine HWh.out.mono ?_
 rintro e w6 hp6
 obtain ⟨hv6, hb6⟩ := hp6
 have HM6 := LH (HM5.out.later hb6)
 clear hb6 HWh
 have c0 := HM6.out.cell 0 0 rfl rfl
 have d0 := HM6.out.cell 2 0 rfl rfl
 have d1 := HM6.out.cell 2 1 rfl rfl
 have r0 := fun x => near_cell (L := [q + 1]) d0 HNs.out.2.1 x
 have r1 := fun x => near_cell (L := [q + 1]) d1 HNs.out.2.1 x
 have r2 := fun x => near_cell (L := [q + 1]) c0 HNs.out.1 x
 have HT0 : Hid (Touch [q + 1] w6 w6.drew) := LH (Touch.ofBelow (later_below (later_drew w6)))
 have HD0 : Hid (Below w6.heap.size w6 w6.drew) := LH (later_below (later_drew w6))
 have hC1 := near_of HT0.out
 clear c0 d0 d1
 have HFi := LH (fun w => gfirstN_any B hB b hb2 w)
 obtain ⟨nb, hnb⟩ : ∃ nb, nb = objBlocks s := ⟨_, rfl⟩
 rw [← hnb] at HPl3 HNb HBl
 obtain ⟨wn, hwn⟩ : ∃ wn, wn = wholeN L b := ⟨_, rfl⟩
 rw [← hwn] at HPl3 hv6
 clear hnb hwn
 by_cases hw0 : wn = 0
 ·subst hw0
  have hv7 : e = .returned (.tuple #[.int .i64 0, .bool false]) := by rw [hv6]; rfl
  have HN : Hid (placedN S L (y : Int) = none) := LH (by rw [HPl3.out, if_neg (by have := HNb.out; omega)])
  subst hv7
  clear hv6
  go_upto_region 13 with fail
  refine wp_region_seg (C := fun w' => ∃ x : Near [q + 1] w6, w' = x.val) [.fl [0, 1, 2, 3, 4, 5], .sq [6] true, .fl [7, 8, 9, 10, 11], .sq [12] true, .fl [13, 14], .sq [15] true, .sq [16] false] (by kernel_rfl) (by kernel_rfl) (by intro c a d v w h; cases d <;> exact h) ?_
  simp only [segs, picks, List.getElem?_cons_succ, List.getElem?_cons_zero]
  refine wpSeg_fl hC1 ?_
  repeat (first | go_big_quiet_step (fail) | quiet_step (fail))
  refine wpQuiet_nil ?_
  refine wpSeg_sq (fun K hK => ?_)
  go_wp2_with fail
  go_wp2_with fail
  refine hK _ _ (fun _ => hC1) ?_
  clear hK K
  refine wpSeg_fl hC1 ?_
  repeat (first | go_big_quiet_step (fail) | quiet_step (fail))
  refine wpQuiet_nil ?_
  refine wpSeg_sq (fun K hK => ?_)
  go_wp2_with fail
  go_wp2_with fail
  refine hK _ _ (fun _ => hC1) ?_
  clear hK K
  refine wpSeg_fl hC1 ?_
  repeat (first | go_big_quiet_step (fail) | quiet_step (fail))
  refine wpQuiet_nil ?_
  refine wpSeg_sq (fun K hK => ?_)
  go_wp2_with (refine wpList_store_mem aggOb (HM6.out.later HD0.out) 1 rfl rfl rfl rfl rfl rfl rfl rfl ?_; intro w8 h8 ht8; have H8 := LH h8; have HT8 := LH (HT0.out.trans ht8); clear h8 ht8)
  have hC2 := near_of HT8.out
  go_wp2_with fail
  refine hK _ _ (fun _ => hC2) ?_
  clear hK K
  refine wpSeg_last ?_
  go_wp2_with fail
  refine bodyPost_ret (results_cell_row2 (p := 8) (u := 9) rfl _ _ _ _ _ _ _ rfl (H8.out.exact 1 rfl) Tryz.underlying169 rfl (by kernel_rfl)) rfl ?_
  refine HP.out _ _ _ _ (by rw [HN.out]; rfl) (fun o ho => by rw [HN.out] at ho; cases ho) H8.out.below
 have hv7 : e = .returned (.tuple #[.int .i64 (wn : Int), .bool true]) := by rw [hv6, decide_eq_true hw0]
 subst hv7
 clear hv6
 have hb512 : b < 1000 := by omega
 go_upto_region 13 with fail
 by_cases hy5 : y = b * 512
 case neg =>
  have hy6 : ((y : Int) == (b : Int) * 512) = false := by simp; omega
  have HN : Hid (placedN S L (y : Int) = none) := LH (by rw [HPl3.out, if_neg (by have := HBy.out; omega)])
  clear hy5
  refine wp_region_seg (C := fun w' => ∃ x : Near [q + 1] w6, w' = x.val) [.fl [0, 1, 2, 3, 4, 5], .sq [6] true, .fl [7, 8, 9, 10, 11], .sq [12] true, .fl [13, 14], .sq [15] true, .sq [16] false] (by kernel_rfl) (by kernel_rfl) (by intro c a d v w h; cases d <;> exact h) ?_
  simp only [segs, picks, List.getElem?_cons_succ, List.getElem?_cons_zero]
  refine wpSeg_fl hC1 ?_
  repeat (first | go_big_quiet_step (fail) | quiet_step (fail))
  refine wpQuiet_nil ?_
  refine wpSeg_sq (fun K hK => ?_)
  go_wp2_with fail
  refine (HFi.out _).mono ?_
  rintro e w7 ⟨rfl, hb7⟩
  have HD7 := LH (HD0.out.trans (hb7.mono HD0.out.size))
  have HT7 := LH (HT0.out.later hb7)
  have hC2 := near_of HT7.out
  clear hb7
  go_wp2_with fail
  refine hK _ _ (fun _ => hC2) ?_
  clear hK K
  refine wpSeg_fl hC2 ?_
  repeat (first | go_big_quiet_step (fail) | quiet_step (fail))
  refine wpQuiet_nil ?_
  refine wpSeg_sq (fun K hK => ?_)
  go_wp2_with fail
  go_wp2_with fail
  refine hK _ _ (fun _ => hC2) ?_
  clear hK K
  refine wpSeg_fl hC2 ?_
  repeat (first | go_big_quiet_step (fail) | quiet_step (fail))
  refine wpQuiet_nil ?_
  refine wpSeg_sq (fun K hK => ?_)
  go_wp2_with (refine wpList_store_mem aggOb (HM6.out.later HD7.out) 1 rfl rfl rfl rfl rfl rfl rfl rfl ?_; intro w8 h8 ht8; have H8 := LH h8; have HT8 := LH (HT7.out.trans ht8); clear h8 ht8)
  have hC3 := near_of HT8.out
  go_wp2_with fail
  refine hK _ _ (fun _ => hC3) ?_
  clear hK K
  refine wpSeg_last ?_
  go_wp2_with fail
  refine bodyPost_ret (results_cell_row2 (p := 8) (u := 9) rfl _ _ _ _ _ _ _ rfl (H8.out.exact 1 rfl) Tryz.underlying169 rfl (by kernel_rfl)) rfl ?_
  refine HP.out _ _ _ _ (by rw [HN.out]; rfl) (fun o ho => by rw [HN.out] at ho; cases ho) H8.out.below
 have hy6 : ((y : Int) == (b : Int) * 512) = true := by simp; omega
 have HN : Hid (placedN S L (y : Int) = if wn = nb then some ⟨p, d, 0⟩ else none) := LH (by
  rw [HPl3.out]
  by_cases c : wn = nb
  ·rw [if_pos ⟨by omega, c⟩, if_pos c]
  ·rw [if_neg (fun h => c h.2), if_neg c])
 clear hy5
 refine wp_region_seg (C := fun w' => ∃ x : Near [q + 1] w6, w' = x.val) [.fl [0, 1, 2, 3, 4, 5], .sq [6] true, .fl [7, 8, 9, 10, 11], .sq [12] true, .fl [13, 14], .sq [15] true, .sq [16] false] (by kernel_rfl) (by kernel_rfl) (by intro c a d v w h; cases d <;> exact h) ?_
 simp only [segs, picks, List.getElem?_cons_succ, List.getElem?_cons_zero]
 refine wpSeg_fl hC1 ?_
 repeat (first | go_big_quiet_step (fail) | quiet_step (fail))
 refine wpQuiet_nil ?_
 refine wpSeg_sq (fun K hK => ?_)
 go_wp2_with fail
 refine (HFi.out _).mono ?_
 rintro e w7 ⟨rfl, hb7⟩
 have HD7 := LH (HD0.out.trans (hb7.mono HD0.out.size))
 have HT7 := LH (HT0.out.later hb7)
 have hC2 := near_of HT7.out
 clear hb7
 go_wp2_with fail
 refine hK _ _ (fun _ => hC2) ?_
 clear hK K
 refine wpSeg_fl hC2 ?_
 repeat (first | go_big_quiet_step (fail) | quiet_step (fail))
 refine wpQuiet_nil ?_
 refine wpSeg_sq (fun K hK => ?_)
 go_wp2_with fail
 refine (HBl.out _).mono ?_
 rintro e w8 ⟨rfl, hb8⟩
 have HD8 := LH (HD7.out.trans (hb8.mono HD7.out.size))
 have HT8 := LH (HT7.out.later hb8)
 have hC3 := near_of HT8.out
 clear hb8
 go_wp2_with fail
 refine hK _ _ (fun _ => hC3) ?_
 clear hK K
 refine wpSeg_fl hC3 ?_
 repeat (first | go_big_quiet_step (fail) | quiet_step (fail))
 refine wpQuiet_nil ?_
 refine wpSeg_sq (fun K hK => ?_)
 go_wp2_with (refine wpList_store_mem aggOb (HM6.out.later HD8.out) 1 rfl rfl rfl rfl rfl rfl rfl rfl ?_; intro w9 h9 ht9; have H9 := LH h9; have HT9 := LH (HT8.out.trans ht9); clear h9 ht9)
 have hC4 := near_of HT9.out
 go_wp2_with fail
 refine hK _ _ (fun _ => hC4) ?_
 clear hK K
 refine wpSeg_last ?_
 go_wp2_with fail
 refine bodyPost_ret (results_cell_row2 (p := 8) (u := 9) rfl _ _ _ _ _ _ _ rfl (H9.out.exact 1 rfl) Tryz.underlying169 rfl (by kernel_rfl)) rfl ?_
 refine HP.out _ _ _ _ ?_ (fun o ho => ?_) H9.out.below
 ·rw [HN.out]
  by_cases c : wn = nb
  ·subst c; simp
  ·rw [if_neg c]; simp; omega
 ·rw [HN.out] at ho
  split at ho
  ·cases ho; rfl
  ·cases ho
set_option maxHeartbeats 2000000 in
set_option maxRecDepth 20000 in
theorem aplace_any {w : World} {A : AF} {n B : Nat} {m : Al} (h : AlAt w A n B m) (hB : B ≤ 1000) (x : Int) :
  Calls Tryz.prog 166 #[valloc A, .int .i64 x] w (PlPost m.bm.dev m.bm.list x w) := by
 have HM := LH (Mem.one w #[.int .i64 0, .int .i64 0] 169)
 have HP : Hid (∀ (p d : Int) b w', b = (placedN m.bm.dev m.bm.list x).isSome → (∀ o, placedN m.bm.dev m.bm.list x = some o → o = ⟨p, d, 0⟩) → Below w.heap.size w w' → PlPost m.bm.dev m.bm.list x w (.returned (.tuple #[vob p d, .bool b])) w') := LH (fun p d b w' h1 h2 h3 => by subst h1; exact ⟨⟨p, d, rfl, h2⟩, h3⟩)
 have HLn : Hid (m.bm.list.length = B) := LH h.man.tab.len
 have HSm : Hid (m.bm.dev.cache.length ≤ 1000000) := LH h.man.dev.small
 generalize PlPost m.bm.dev m.bm.list x w = Post at *
 have HA0 := LH (h.below HM.out.below)
 have HAh := LH h
 clear h
 go_enter Tryz.func166, Tryz.ntmps166
 go_upto_region 1 with fail
 obtain ⟨q, hq⟩ : ∃ q, q = w.heap.size := ⟨_, rfl⟩
 have HQn : Hid (∀ k ∈ A.list, k ∉ [q]) := LH (fun k hk hm => by
  have := HAh.out.mem k hk
  simp at hm
  omega)
 rw [← hq] at HM ⊢
 generalize w.alloc _ = w0 at *
 clear hq
 have c0 := HA0.out.c0
 have c1 := HA0.out.c1
 have c2 := HA0.out.c2
 have c3 := HA0.out.man.c0
 have r0 := fun x => near_cell (L := [q]) c0 (HQn.out _ (by simp [AF.list, AF.fix])) x
 have r1 := fun x => near_cell (L := [q]) c1 (HQn.out _ (by simp [AF.list, AF.fix])) x
 have r2 := fun x => near_cell (L := [q]) c2 (HQn.out _ (by simp [AF.list, AF.fix])) x
 have r3 := fun x => near_cell (L := [q]) c3 (HQn.out _ (by simp [AF.list, AF.fix, MF.list])) x
 have HT0 : Hid (Touch [q] w0 w0.drew) := LH (Touch.ofBelow (later_below (later_drew w0)))
 have HD0 : Hid (Below w0.heap.size w0 w0.drew) := LH (later_below (later_drew w0))
 have hC1 := near_of HT0.out
 clear c0 c1 c2 c3
 refine wp_region_seg (C := fun w' => ∃ x : Near [q] w0, w' = x.val) [.fl [0, 1, 2, 3, 4, 5, 6, 7, 8, 9, 10, 11, 12, 13, 14, 16], .sq [15] true, .sq [17] false, .fl [18, 19], .sq [20, 21] false] (by kernel_rfl) (by kernel_rfl) (by intro c a d v w h; cases d <;> exact h) ?_
 simp only [segs, picks, List.getElem?_cons_succ, List.getElem?_cons_zero]
 refine wpSeg_fl hC1 ?_
 repeat (first | go_big_quiet_step (fail) | quiet_step (fail))
 refine wpQuiet_nil ?_
 clear r0 r1 r2 r3
 generalize w0.drew = w1 at *
 have HA1 := LH (HA0.out.below HD0.out)
 refine wpSeg_sq (fun K hK => ?_)
 go_wp2_with fail
 refine (tall_any HA1.out.man.tab hB).mono ?_
 rintro e w2 ⟨g, cg, rfl, hg1, hg2, hrow, hb2⟩
 have HD2 := LH (HD0.out.trans (hb2.mono HD0.out.size))
 have HT2 := LH (HT0.out.later hb2)
 have hC2 := near_of HT2.out
 have HR2 := LH hrow.cells
 clear hb2 hrow
 go_wp2_with fail
 refine hK _ _ (fun _ => hC2) ?_
 clear hK K
 have HA2 := LH (HA0.out.below HD2.out)
 refine wpSeg_sq (fun K hK => ?_)
 go_wp2_with fail
 refine (aplaced_any HA2.out.man.dev _ B cg m.bm.list HLn.out HR2.out hB HSm.out x).mono ?_
 rintro e w3 ⟨⟨p, d, rfl, ho⟩, hb3⟩
 have HO := LH ho
 have HD3 := LH (HD2.out.trans (hb3.mono HD2.out.size))
 have HT3 := LH (HT2.out.later hb3)
 have hC3 := near_of HT3.out
 clear ho hb3
 go_wp2_with fail
 refine hK _ _ (fun _ => hC3) ?_
 clear hK K
 refine wpSeg_fl hC3 ?_
 repeat (first | go_big_quiet_step (fail) | quiet_step (fail))
 refine wpQuiet_nil ?_
 refine wpSeg_last ?_
 go_wp2_with (refine wpList_store_mem aggOb (HM.out.later HD3.out) 0 rfl rfl rfl rfl rfl rfl rfl rfl ?_; intro w9 h9 ht9; have H9 := LH h9; clear h9 ht9)
 refine bodyPost_ret (results_cell_row2 (p := 4) (u := 5) rfl _ _ _ _ _ _ _ rfl (H9.out.exact 0 rfl) Tryz.underlying169 rfl (by kernel_rfl)) rfl ?_
 exact HP.out _ _ _ _ rfl HO.out H9.out.below
def bmOf (S : Dev) (B : Nat) : Bm := ⟨S, hds (devWord S) B, freeL (freeAt (hds (devWord S) B)) B B⟩
def OpenBm (w : World) (F : Foot) (S : Dev) (B : Nat) : Ending → World → Prop := fun e w' => Below w.heap.size w w' ∧
  ((AllOk (devWord S) B ∧ soundN (hds (devWord S) B) B 1 = 0 ∧ ∃ (X : MF) (n : Nat), e = .returned (.tuple #[.pointer (some ⟨X.m, 0, none⟩), .int .i64 0]) ∧ X.F = F ∧ ManAt w' X n B (bmOf S B) ∧ n ≤ 1000000 ∧
      (∀ k ∈ X.list, k ∈ F.list ∨ w.heap.size ≤ k)) ∨
   (AllOk (devWord S) B ∧ soundN (hds (devWord S) B) B 1 ≠ 0 ∧ e = .returned (.tuple #[.pointer none, .int .i64 40])) ∨
   (¬ AllOk (devWord S) B ∧ e = .returned (.tuple #[.pointer none, .int .i64 21])))
theorem bspans_fill (l : List Hd) (B : Nat) (h : l.length = B) : fillR (op2s (spansOf l)) (List.replicate B false) = (freeL (freeAt l) B B, 0) := by
 unfold spansOf
 rw [h]
 exact fill_spans (freeAt l) B B (Nat.le_refl _)
set_option maxHeartbeats 4000000 in
set_option maxRecDepth 20000 in
theorem bopen_any {w : World} {F : Foot} {S : Dev} (h : DevAt w F S) (B : Nat) (hB1 : 1 ≤ B) (hB : B ≤ 1000) :
    Calls Tryz.prog 117 #[vdev F, vgeom B] w (OpenBm w F S B) := by
  have HM := LH (Mem.one w #[.int .i64 (B : Int)] 44)
  have HD := LH (h.below HM.out.below)
  have HMF := LH h.mem
  have HNF := LH h.nodup
  have HL : Hid ((hds (devWord S) B).length = B) := LH (hds_length _ _)
  have HFill := LH (bspans_fill (hds (devWord S) B) B HL.out)
  have HBm : Hid (bmOf S B = ⟨S, hds (devWord S) B, freeL (freeAt (hds (devWord S) B)) B B⟩) := LH rfl
  have HFl : Hid ((freeL (freeAt (hds (devWord S) B)) B B).length = B) := LH (freeL_len _ _ _)
  have HPE : Hid (OpenBm w F S B = fun e w' => Below w.heap.size w w' ∧
  ((AllOk (devWord S) B ∧ soundN (hds (devWord S) B) B 1 = 0 ∧ ∃ (X : MF) (n : Nat), e = .returned (.tuple #[.pointer (some ⟨X.m, 0, none⟩), .int .i64 0]) ∧ X.F = F ∧ ManAt w' X n B (bmOf S B) ∧ n ≤ 1000000 ∧
      (∀ k ∈ X.list, k ∈ F.list ∨ w.heap.size ≤ k)) ∨
   (AllOk (devWord S) B ∧ soundN (hds (devWord S) B) B 1 ≠ 0 ∧ e = .returned (.tuple #[.pointer none, .int .i64 40])) ∨
   (¬ AllOk (devWord S) B ∧ e = .returned (.tuple #[.pointer none, .int .i64 21])))) := LH rfl
  generalize hP : OpenBm w F S B = Post at *
  clear h hP
  go_enter Tryz.func117, Tryz.ntmps117
  go_upto_region 1 with fail
  generalize hw0 : w.alloc _ = w0 at *
  clear hw0
  obtain ⟨q, hq⟩ : ∃ q, q = w.heap.size := ⟨_, rfl⟩
  rw [← hq] at HM ⊢
  have HQ := LH hq
  clear hq
  have c0 := HM.out.cell 0 0 rfl rfl
  unfold vdev at *
  go_wp2_with fail
  refine (open_tabG HD.out B hB1 hB).mono ?_
  rintro e w1 ⟨hb1, ⟨hok, p, g, cc, rfl, hp, hg, hpg, htab⟩ | ⟨b, hb0, hbB, hok, hbad, rfl⟩⟩
  case inr =>
    have HE : Hid (¬ AllOk (devWord S) B) := LH (fun h => hbad (h b hb0 hbB))
    have HB1 := LH (HM.out.later hb1)
    clear hok hbad hb1
    go_wp2_with fail
    rw [HPE.out]
    exact ⟨HB1.out.below, .inr (.inr ⟨HE.out, rfl⟩)⟩
  have HM1 := LH (HM.out.later hb1)
  have HD1 := LH (HD.out.below hb1)
  have HT1 := LH htab
  have HOK := LH hok
  have HG : Hid (w0.heap.size ≤ p ∧ w0.heap.size ≤ g ∧ p ≠ g) := LH ⟨hp, hg, hpg⟩
  have HW0 : Hid (w.heap.size + 1 ≤ w0.heap.size) := LH (by have := HM.out.glt 0 rfl; have := HQ.out; omega)
  clear hb1 htab hok hp hg hpg c0 HM HD
  generalize hds (devWord S) B = L at *
  go_wp2_with fail
  refine (tall_any HT1.out hB).mono ?_
  rintro e w2 ⟨a2, k2, rfl, hq2, hk2, hr2, hb2⟩
  have HM2 := LH (HM1.out.later hb2)
  have HD2 := LH (HD1.out.below hb2)
  have HT2 := LH (HT1.out.keep (hb2.block p HT1.out.lt.1) (hb2.block g HT1.out.lt.2))
  have HR2 := LH hr2
  clear hq2 hk2 hr2 hb2 HM1 HD1 HT1
  go_wp2_with fail
  refine (bsound_any _ B k2 L HL.out w2 HR2.out.cells hB).mono ?_
  rintro e w3 ⟨rfl, hb3⟩
  rw [HL.out]
  have HM3 := LH (HM2.out.later hb3)
  have HD3 := LH (HD2.out.below hb3)
  have HT3 := LH (HT2.out.keep (hb3.block p HT2.out.lt.1) (hb3.block g HT2.out.lt.2))
  clear hb3 HM2 HD2 HT2 HR2
  obtain ⟨sn, hsn⟩ : ∃ sn, sn = soundN L B 1 := ⟨_, rfl⟩
  rw [← hsn] at HPE ⊢
  clear hsn
  by_cases hs : sn = 0
  case neg =>
    have hs' : decide (sn = 0) = false := by simpa using hs
    rw [hs']
    have HS := LH hs
    clear hs hs'
    go_wp2_with fail
    rw [HPE.out]
    exact ⟨HM3.out.below, .inr (.inl ⟨HOK.out, HS.out, rfl⟩)⟩
  have hs' : decide (sn = 0) = true := by simpa using hs
  rw [hs']
  have HS := LH hs
  clear hs hs'
  have c0 := HM3.out.cell 0 0 rfl rfl
  go_upto_region 7 with fail
  have r0 := fun x => later_cell c0 x
  clear c0
  refine wp_region_seg (C := fun w' => ∃ x : Later (w3), w' = x.val) [.fl [0, 1, 2], .sq [3] true, .sq [4, 5] false, .fl [6, 7, 8], .sq [9] false] (by kernel_rfl) (by kernel_rfl) (by intro c a d v w h; cases d <;> exact h) ?_
  simp only [segs, picks, List.getElem?_cons_succ, List.getElem?_cons_zero]
  have hC1 := later_drew (w3)
  refine wpSeg_fl hC1 ?_
  repeat (first | go_big_quiet_step (fail) | quiet_step (fail))
  refine wpQuiet_nil ?_
  refine wpSeg_sq (fun K hK => ?_)
  go_wp2_with fail
  refine (tspans_any ((HT3.out.keep ((later_below hC1).block p HT3.out.lt.1) ((later_below hC1).block g HT3.out.lt.2)).at HG.out.2.2) (by rw [HL.out]; exact hB)).mono ?_
  rintro e w4 ⟨v, rfl, ho4, hb4⟩
  have hC2 := later_step hC1 hb4
  obtain ⟨a4, c4, rfl, _, hm4⟩ := owned_form ho4
  have HC4 : Hid (Cells w4 a4 (recs Op2.cs (op2s (spansOf L)))) := LH (by rw [op2s_cs]; exact Cells.owned2 ho4)
  have HSl : Hid ((op2s (spansOf L)).length = (spansOf L).length) := LH (by simp [op2s])
  have HSl2 : Hid ((spansOf L).length ≤ 1000000) := LH (by
    have := spanL_len (freeAt L) L.length
    unfold spansOf
    rw [HL.out] at this ⊢
    omega)
  generalize (spansOf L).length = nl at *
  clear ho4 hb4 hm4
  go_wp2_with fail
  refine hK _ _ (fun _ => hC2) ?_
  clear hK K
  refine wpSeg_sq (fun K hK => ?_)
  go_wp2_with fail
  refine (ifill_any (B : Int) (by omega) a4 nl c4 (op2s (spansOf L)) HSl.out _ HC4.out HSl2.out).mono ?_
  rw [show (B : Int).toNat = B from rfl, HFill.out]
  rintro e w5 ⟨hb5, ⟨_, T, kk, rfl, hix, hkk, hT⟩ | ⟨hne, _⟩⟩
  case inr => exact absurd rfl hne
  have hC3 := later_step hC2 hb5
  have HIx := LH hix
  have HTt := LH hT
  have HW4 : Hid (w3.heap.size ≤ w4.heap.size) := LH ((later_below hC2).size)
  clear hix hT hb5 HC4 HSl HSl2
  go_wp2_with fail
  refine hK _ _ (fun _ => hC3) ?_
  clear hK K
  refine wpSeg_fl hC3 ?_
  repeat (first | go_big_quiet_step (fail) | quiet_step (fail))
  refine wpQuiet_nil ?_
  have HM5 := LH (HM3.out.later (later_below hC3))
  have HD5 := LH (HD3.out.below (later_below hC3))
  have HT5 := LH (HT3.out.keep ((later_below hC3).block p HT3.out.lt.1) ((later_below hC3).block g HT3.out.lt.2))
  have HFl3 : Hid (∀ k ∈ F.list, k < w.heap.size) := HMF
  have HT3l : Hid (p < w3.heap.size ∧ g < w3.heap.size) := LH HT3.out.lt
  have c0 := HM5.out.cell 0 0 rfl rfl
  clear hC1 hC2 hC3 r0 HM3 HD3 HT3
  refine wpSeg_last ?_
  go_wp2_with fail
  rw [HPE.out]
  have hbx := below_alloc w5 (.cells #[.pointer (some ⟨p, 0, none⟩), .pointer (some ⟨T.p, 0, none⟩), .int .i64 (B : Int)] 87)
  have hTl := HIx.out.mem
  have hsz := HW4.out
  obtain ⟨hG1, hG2, hG3⟩ := HG.out
  have hW0 := HW0.out
  have h3 := HT3l.out
  have hw05 : w0.heap.size ≤ w5.heap.size := by have := HT5.out.lt; omega
  refine ⟨HM5.out.below.trans (hbx.mono HM5.out.below.size), .inl ⟨HOK.out, HS.out, ⟨w5.heap.size, p, g, cc, F, T⟩, kk, rfl, rfl, ?_, hkk, ?_⟩⟩
  · rw [HBm.out]
    refine ⟨heap_alloc_new _ _, HT5.out.keep (hbx.block p HT5.out.lt.1) (hbx.block g HT5.out.lt.2), HD5.out.below hbx, HIx.out.below hbx, HFl.out, ?_⟩
    obtain ⟨M, E, hmp, _⟩ := HIx.out
    have e1 := hmp.ne1
    have e2 := hmp.ne2
    have e3 := hmp.ne3
    have t1 := HTt.out T.p (by simp [Tri.list])
    have t2 := HTt.out T.s (by simp [Tri.list])
    have t3 := HTt.out T.e (by simp [Tri.list])
    have l1 := hTl T.p (by simp [Tri.list])
    have l2 := hTl T.s (by simp [Tri.list])
    have l3 := hTl T.e (by simp [Tri.list])
    have lp := HT5.out.lt
    have hF : ∀ k, w.heap.size ≤ k → k ∉ F.list := fun k hk hm => by have := HFl3.out k hm; omega
    simp only [MF.list, List.nodup_cons, List.mem_cons, not_or]
    refine ⟨⟨by omega, by omega, by omega, by omega, by omega, hF _ (by omega)⟩, ⟨by omega, by omega, by omega, by omega, hF _ (by omega)⟩, ⟨by omega, e1, e2, hF _ (by omega)⟩, ⟨by omega, by omega, hF _ (by omega)⟩, ⟨e3, hF _ (by omega)⟩, hF _ (by omega), HNF.out⟩
  · intro k hk
    have t1 := HTt.out T.p (by simp [Tri.list])
    have t2 := HTt.out T.s (by simp [Tri.list])
    have t3 := HTt.out T.e (by simp [Tri.list])
    simp only [MF.list, List.mem_cons] at hk
    rcases hk with rfl | rfl | rfl | rfl | rfl | rfl | hk
    · right; omega
    · right; omega
    · right; omega
    · right; omega
    · right; omega
    · right; omega
    · exact .inl hk
theorem fmtTo_dirty {S : Dev} (hS : ∀ l, S.dirty.getD l false = false) (hD : S.cache.length = 8 * S.dirty.length) : ∀ k l, (∀ b, 1 ≤ b → b < k → (256 + b) / 8 ≠ l) → (S.fmtTo k).dirty.getD l false = false
 | 0, l, _ => hS l
 | k + 1, l, h => by
  have ih := fmtTo_dirty hS hD k l (fun b h1 h2 => h b h1 (by omega))
  unfold Dev.fmtTo
  split
  ·exact hS l
  ·rename_i hk
   unfold Dev.store
   by_cases c : (((256 + k : Nat) : Int)) < 0 ∨ (((S.fmtTo k).cache.length : Nat) : Int) ≤ ((256 + k : Nat) : Int)
   ·rw [if_pos c]; exact ih
   ·rw [if_neg c]
    split
    ·rw [(S.fmtTo k).step_rest.2.2.2.1]; exact ih
    ·show ((S.fmtTo k).step.dirty.set (((256 + k : Nat) : Int).toNat / 8) true).getD l false = false
     rw [(S.fmtTo k).step_rest.2.2.2.1, List.getD_eq_getElem?_getD, List.getElem?_set_ne (by have := h k (by omega) (by omega); omega), ← List.getD_eq_getElem?_getD]
     exact ih
structure Formed (S : Dev) (B : Nat) : Prop where
 inv : S.inv
 live : S.live
 ok : S.ok 201000
 len : S.cache.length = 512 * B
 dlen : S.dirty.length = 64 * B
 last : S.lasting = S.cache
 dirty : S.dirty = List.replicate (64 * B) false
 pending : S.pending = List.replicate (64 * B) false
 clean : Clean S B
 allOk : AllOk (devWord S) B
 hds : hds (devWord S) B = List.replicate B ⟨0, 0, 0⟩
 word : ∀ b, 1 ≤ b → b < B → devWord S b = encN b 0 0 0
theorem fmt_formed {B : Nat} (hB2 : 2 ≤ B) (hB : B ≤ 100) : Formed ((freshDev (List.replicate (512 * B) 0) (64 * B)).fmt B) B := by
 obtain ⟨S, hS⟩ : ∃ S, S = freshDev (List.replicate (512 * B) 0) (64 * B) := ⟨_, rfl⟩
 rw [← hS]
 have hl : S.cache.length = 512 * B := by rw [hS]; simp [freshDev]
 have hd : S.dirty.length = 64 * B := by rw [hS]; simp [freshDev]
 have hi : S.inv := by rw [hS]; exact fresh_inv (by simp; omega) (by simp; omega) (fun z hz => by simp at hz; omega)
 have hv : S.live := by rw [hS]; exact fresh_live _ _
 have ho : S.ok 100 := by rw [hS]; exact fresh_ok _ _ _
 have hf : ∀ l, S.dirty.getD l false = false := fun l => by
  rw [hS]; unfold freshDev; simp only [List.getD_eq_getElem?_getD, List.getElem?_replicate]; split <;> rfl
 obtain ⟨p1, p2, p3, p5, p4⟩ := fmtTo_props hv ho B (by rw [hl]; omega)
 have hti := fmtTo_inv hi B
 have he := (p1.persist 257 (B - 1) (by omega) (by rw [p3, p5]; exact hi.wf.lenD) (by rw [p3, hl]; omega)).1
 obtain ⟨q1, q2, q3, q4, q5⟩ := Dev.persist_clean hti 257 (B - 1) (by omega) he
 have hfm : S.fmt B = ((S.fmtTo B).persist ((257 : Nat) : Int) ((B - 1 : Nat) : Int)).dev := by unfold Dev.fmt; rw [show ((B : Int) - 1) = ((B - 1 : Nat) : Int) by omega]; rfl
 rw [← hfm] at q1 q3 q4 q5
 have hinv : (S.fmt B).inv := by rw [hfm]; exact Dev.persist_inv hti _ _
 have hdl : (S.fmt B).dirty.length = 64 * B := by rw [q3, p5, hd]
 have hdirty : ∀ l, (S.fmt B).dirty.getD l false = false := by
  intro l
  by_cases c : ∃ b, 1 ≤ b ∧ b < B ∧ (256 + b) / 8 = l
  ·obtain ⟨b, b1, b2, rfl⟩ := c
   exact q4 (256 + b) (by omega) (by omega)
  ·exact q5 l (fmtTo_dirty hf hi.wf.lenD B l (fun b b1 b2 e => c ⟨b, b1, b2, e⟩))
 have hrep : ∀ n l, (List.replicate n false).getD l false = false := fun n l => by simp only [List.getD_eq_getElem?_getD, List.getElem?_replicate]; split <;> rfl
 refine ⟨hinv, ?_, ?_, by rw [q1, p3, hl], hdl, ?_, ?_, ?_, fmt_clean hi hv ho hB2 (by rw [hl]; omega), fmt_ok hv ho B hB2 hi.wf.lenD (by rw [hl]; omega), fmt_hds hv ho B hB2 hi.wf.lenD (by rw [hl]; omega), fmt_words hv ho B hB2 hi.wf.lenD (by rw [hl]; omega)⟩
 ·rw [hfm]; exact p1.persist_live 257 (B - 1) (by omega) (by rw [p3, p5]; exact hi.wf.lenD) (by rw [p3, hl]; omega)
 ·exact (Dev.persist_ok hti.wf p2 _ _).mono (by omega)
 ·exact nat_ext (hinv.wf.lenL) (fun i => hinv.sound i (hdirty _))
 ·exact bool_ext (by rw [hdl]; simp) (fun l => by rw [hdirty, hrep])
 ·refine bool_ext (by rw [hinv.wf.lenP, hdl]; simp) (fun l => ?_)
  rw [hrep]
  cases hp : (S.fmt B).pending.getD l false with
  | false => rfl
  | true => have := hinv.pend l hp; rw [hdirty] at this; cases this
theorem sound_zero (B : Nat) : ∀ f b, soundN (List.replicate B ⟨0, 0, 0⟩) f b = 0
 | 0, _ => rfl
 | f + 1, b => by
  have hz : (List.replicate B (⟨0, 0, 0⟩ : Hd)).getD b default = ⟨0, 0, 0⟩ := by
   simp only [List.getD_eq_getElem?_getD, List.getElem?_replicate]; split <;> rfl
  rw [soundN, hz, sound_zero B f (b + 1)]
  split
  ·rfl
  ·rw [if_neg (by decide), if_neg (by decide)]
theorem Formed.bm {S : Dev} {B : Nat} (h : Formed S B) (hB : 2 ≤ B) : BmOk B (bmOf S B) := by
 have hz : ∀ b, (List.replicate B (⟨0, 0, 0⟩ : Hd)).getD b default = ⟨0, 0, 0⟩ := fun b => by
  simp only [List.getD_eq_getElem?_getD, List.getElem?_replicate]; split <;> rfl
 unfold bmOf
 rw [h.hds]
 refine ⟨by simp, freeL_len _ _ _, h.clean, fun b _ => by dsimp only; rw [hz]; decide, fun b h1 h2 => ?_, fun b => ?_, fun b h1 h2 hk => ?_⟩
 ·dsimp only
  rw [hz]
  have := h.word b h1 h2
  unfold devWord at this
  rw [show (256 + (b : Int)) = ((256 + b : Nat) : Int) by omega, peek_in] at this
  exact this
 ·dsimp only
  rw [freeL_fb, hz]
  unfold freeAt
  rw [hz]
  constructor
  ·rintro ⟨_, h2, h3, _⟩; exact ⟨h2, h3, rfl⟩
  ·rintro ⟨h2, h3, _⟩; exact ⟨h3, h2, h3, rfl⟩
 ·dsimp only at hk; rw [hz] at hk; cases hk
section
variable {P : Program} {C : World → Prop} {ops : Array Oper} {rest : List Oper} {o : Oper} {a : Act}
variable {Q : Exit → Act → World → Prop} {w W : World} {L : List Ent}
end
abbrev vworld (A : AF) (L : Value) : Value := .agg #[valloc A, vdev A.X.F, L]
def zeroW : Array Value := #[.pointer none, .pointer none, .slice none 0 0]
theorem aggW : Agg Tryz.prog 132 zeroW := ⟨⟨_, Tryz.underlying132, rfl⟩, by kernel_rfl⟩
def dev0 (B : Nat) : Dev := (freshDev (List.replicate (512 * B) 0) (64 * B)).fmt B
def al0 (B : Nat) : Al := ⟨bmOf (dev0 B) B, List.replicate (512 * B) false, FL.empty⟩
theorem al0_list {B : Nat} (hB2 : 2 ≤ B) (hB : B ≤ 100) : (al0 B).bm.list = List.replicate B ⟨0, 0, 0⟩ := (fmt_formed hB2 hB).hds
def BegunPost (B : Nat) (w : World) : Ending → World → Prop := fun e w' => ∃ (A : AF) (n : Nat), e = .returned (.tuple #[vworld A (.slice none 0 0), .bool true]) ∧ AlAt w' A n B (al0 B) ∧ n ≤ 1000000 ∧ (∀ k ∈ A.list, w.heap.size ≤ k) ∧ Below w.heap.size w w'
theorem free_small {B : Nat} (b : Nat) : (hdGet (List.replicate B (⟨0, 0, 0⟩ : Hd)) (b : Int)) = ⟨0, 0, 0⟩ := by
 unfold hdGet
 split
 ·rfl
 ·simp only [List.getD_eq_getElem?_getD, List.getElem?_replicate]; split <;> rfl
set_option maxHeartbeats 8000000 in
set_option maxRecDepth 100000 in
theorem begun20_any (B : Nat) (hB2 : 2 ≤ B) (hB : B ≤ 100) (w : World) : Calls Tryz.prog 128 #[.int .i64 (B : Int)] w (BegunPost B w) := by
 generalize hP : BegunPost B w = Post
 have HP := LH hP
 clear hP
 have HM := LH (Mem.two w zeroW 132 #[.int .i64 (B : Int)] 44)
 have HFo : Hid (Formed (dev0 B) B) := LH (fmt_formed hB2 hB)
 go_enter Tryz.func128, Tryz.ntmps128
 go_upto_region 2 with fail
 rw [show (#[.pointer none, .pointer none, .slice none 0 0] : Array Value) = zeroW from rfl]
 generalize (w.alloc _).alloc _ = w0 at *
 obtain ⟨q, hq⟩ : ∃ q, q = w.heap.size := ⟨_, rfl⟩
 rw [← hq] at HM ⊢
 have HQ := LH hq
 clear hq
 have c0 := HM.out.cell 1 0 rfl rfl
 go_wp2_with fail
 refine (gwords_any _ _ (by omega) (by omega)).mono ?_
 rintro e w1 ⟨rfl, hb1⟩
 have HM1 := LH (HM.out.later hb1)
 clear hb1 HM c0
 go_wp2_with fail
 refine (new_any ((B : Int) * 512) _ (by omega)).mono ?_
 rintro e w2 ⟨F, rfl, hF, hd2, hb2⟩
 have hfd : freshDev (List.replicate (8 * ((((B : Int) * 512).toNat + 7) / 8)) 0) ((((B : Int) * 512).toNat + 7) / 8) = freshDev (List.replicate (512 * B) 0) (64 * B) := by
  have h1 : (((B : Int) * 512).toNat + 7) / 8 = 64 * B := by omega
  rw [h1, show 8 * (64 * B) = 512 * B by omega]
 rw [hfd] at hd2
 clear hfd
 obtain ⟨S, hS⟩ : ∃ S, S = freshDev (List.replicate (512 * B) 0) (64 * B) := ⟨_, rfl⟩
 have hlv : S.live := by rw [hS]; exact fresh_live _ _
 have hok : S.ok 100 := by rw [hS]; exact fresh_ok _ _ _
 have hSl : S.cache.length = 512 * B := by rw [hS]; simp [freshDev]
 rw [← hS] at hd2
 have HS0 : Hid (S.fmt B = dev0 B) := LH (by rw [hS]; rfl)
 have HD2 := LH hd2
 have HM2 := LH (HM1.out.later hb2)
 have HF := LH (fun k hk => Nat.le_trans HM1.out.below.size (hF k hk))
 have HF1 := LH (fun k (hk : k ∈ F.list) => Nat.lt_of_lt_of_le (HM1.out.glt 0 rfl) (hF k hk))
 have HF2 := LH (fun k (hk : k ∈ F.list) => Nat.lt_of_lt_of_le (HM1.out.glt 1 rfl) (hF k hk))
 have HLv : Hid (S.live ∧ S.ok 100 ∧ 256 + B ≤ S.cache.length) := LH ⟨hlv, hok, by omega⟩
 clear hd2 hb2 hF hS hlv hok hSl HM1
 unfold vdev
 have c0 := HM2.out.cell 1 0 rfl rfl
 go_wp2_with fail
 refine (format_any HD2.out HLv.out.1 HLv.out.2.1 B hB2 (by omega) HLv.out.2.2).mono ?_
 rintro e w3 ⟨rfl, hd3, ht3⟩
 rw [HS0.out] at hd3
 have HD3 := LH hd3
 have HM3 : Hid (Mem w w3 [⟨q, 132, zeroW.toList, true⟩, ⟨q + 1, 44, [.int .i64 (B : Int)], true⟩]) := LH (by
  have hr := HM2.out.rows
  refine ⟨below_touched HM2.out.below ht3 (fun k hk => HF.out k hk) (Nat.le_refl _), fun x hx => (hr x hx).keep (ht3.block _ (HM2.out.lt x hx) (fun hk => ?_)), HM2.out.base, HM2.out.nd⟩
  simp only [List.mem_cons, List.not_mem_nil, or_false] at hx
  rcases hx with rfl | rfl
  ·exact Nat.lt_irrefl _ (HF1.out _ hk)
  ·exact Nat.lt_irrefl _ (HF2.out _ hk))
 clear hd3 ht3 HM2 HD2 c0 HLv HS0
 have c0 := HM3.out.cell 1 0 rfl rfl
 go_wp2_with fail
 refine (bopen_any HD3.out B (by omega) (by omega)).mono ?_
 rintro e w4 ⟨hb4, ⟨_, _, X, n, rfl, hXF, hm4, hn4, hX4⟩ | ⟨_, hbad, _⟩ | ⟨hbad, _⟩⟩
 case inr.inr => exact absurd HFo.out.allOk hbad
 case inr.inl => exact absurd (by rw [HFo.out.hds]; exact sound_zero B B 1) hbad
 subst hXF
 have HM4 := LH (HM3.out.later hb4)
 have HA4 := LH hm4
 have HXn : Hid (∀ k ∈ X.list, w.heap.size ≤ k ∧ k ≠ q ∧ k ≠ q + 1) := LH (fun k hk => by
  have h1 := HM3.out.glt 0 rfl
  have h2 := HM3.out.glt 1 rfl
  have h3 := HM3.out.below.size
  rcases hX4 k hk with h | h
  ·refine ⟨HF.out k h, fun e => ?_, fun e => ?_⟩
   ·have := HF1.out k h; omega
   ·have := HF2.out k h; omega
  ·exact ⟨Nat.le_trans h3 h, by omega, by omega⟩)
 clear hb4 hm4 hX4 HM3 HD3 c0 HF HF1 HF2
 have HNo : Hid (∀ b : Nat, b < B → (hdGet (bmOf (dev0 B) B).list (b : Int)).k ≠ 1) := LH (fun b _ => by
  have e : (bmOf (dev0 B) B).list = List.replicate B ⟨0, 0, 0⟩ := HFo.out.hds
  rw [e, free_small]; decide)
 have HDl : Hid ((bmOf (dev0 B) B).dev.cache.length = 512 * B) := LH HFo.out.len
 go_wp2_with fail
 refine (anew_free HA4.out (by omega) (by rw [HDl.out]; omega) HNo.out).mono ?_
 rintro e w5 ⟨A, rfl, hAX, ha5, hb5, hA5⟩
 rw [HDl.out] at ha5
 have HA5 : Hid (AlAt w5 A n B (al0 B)) := LH ha5
 have HM5 := LH (HM4.out.later hb5)
 have HAn : Hid (∀ k ∈ A.list, w.heap.size ≤ k ∧ k ≠ q ∧ k ≠ q + 1) := LH (fun k hk => by
  have h1 := HM4.out.glt 0 rfl
  have h2 := HM4.out.glt 1 rfl
  have h3 := HM4.out.below.size
  rcases hA5 k hk with h | h
  ·exact HXn.out k h
  ·exact ⟨Nat.le_trans h3 h, by omega, by omega⟩)
 have HAX := LH hAX
 clear ha5 hb5 hA5 hAX HM4 HA4 HNo HDl
 go_upto_region 9 with fail
 have hAq : A.a ∉ [q] := by have := (HAn.out A.a (by simp [AF.list, AF.fix])).2.1; simpa using this
 have hAm : A.X.m ∉ [q] := by have := (HAn.out A.X.m (by simp [AF.list, AF.fix, MF.list])).2.1; simpa using this
 have HC0 : ∃ x : Near [q] w5, w5.drew = x.val := near_of (Touch.ofBelow (later_below (later_drew w5)))
 have r0 := fun x => near_cell (L := [q]) HA5.out.c0 hAq x
 refine wp_region_seg (C := fun w' => ∃ x : Near [q] w5, w' = x.val) [.fl [0, 1, 2, 3, 4, 5, 6, 7, 8, 9, 10, 11, 12, 13, 14, 15], .sq [16] true, .sq [17] false] (by kernel_rfl) (by kernel_rfl) (by intro c a d v w h; cases d <;> exact h) ?_
 simp only [segs, picks, List.getElem?_cons_succ, List.getElem?_cons_zero]
 refine wpSeg_fl HC0 ?_
 repeat (first | go_big_quiet_step (fail) | quiet_step (fail))
 refine wpQuiet_nil ?_
 have HM6 := LH (HM5.out.later (later_below (later_drew w5)))
 refine wpSeg_sq (fun K hK => ?_)
 go_wp2_with (refine wpList_store_mem aggW HM6.out 0 rfl rfl rfl rfl rfl rfl rfl rfl ?_; intro w6 h6 ht6; have H6 := LH h6; have HT6 := LH ht6; clear h6 ht6)
 have HC1 : ∃ x : Near [q] w5, w6 = x.val := near_of ((Touch.ofBelow (later_below (later_drew w5))).trans HT6.out)
 go_wp2_with fail
 refine hK _ _ (fun _ => HC1) ?_
 clear hK K
 refine wpSeg_last ?_
 go_wp2_with fail
 refine bodyPost_ret (results_cell_row2 (p := 2) (u := 3) rfl _ _ _ _ _ _ _ rfl (H6.out.exact 0 rfl) Tryz.underlying132 rfl (by kernel_rfl)) rfl ?_
 rw [← HP.out]
 have hAe := HAX.out
 subst hAe
 refine ⟨A, n, rfl, ?_, hn4, fun k hk => (HAn.out k hk).1, H6.out.below⟩
 exact (HA5.out.below (later_below (later_drew w5))).keep (fun k hk => HT6.out.block k (Nat.lt_of_lt_of_le (HA5.out.mem k hk) (later_below (later_drew w5)).size) (by have := (HAn.out k hk).2.1; simpa using this))
end Go.Proofs.YtpopbfagliagnaaGreat
namespace Go.Proofs.YtpopbfagliagnaaGreat
open Go.Lib
def over (n d : Int) : Bool := decide (n > 922337203685477580) || decide (n < -922337203685477580) || (decide (n = 922337203685477580) && decide (d > 7)) || (decide (n = -922337203685477580) && decide (d < -8))
end Go.Proofs.YtpopbfagliagnaaGreat
namespace Go.Proofs.YtpopbfagliagnaaGreat
open Go.RowKit
open Go.Lib (decDigits itoa nDigits)
def Gives (v : Value) (w : World) : Ending → World → Prop := fun e w' => e = .returned v ∧ Below w.heap.size w w'
theorem AF.hot_list {A : AF} {k : Nat} (h : k ∈ A.hot) : k ∈ A.list := by
 simp only [AF.hot, AF.list, AF.fix, List.mem_append, List.mem_cons] at h ⊢
 rcases h with h | h | h
 ·exact .inl (.inr (.inl (MF.hot_sub h)))
 ·exact .inl (.inr (.inr h))
 ·exact .inr h
theorem AF.re_list {A : AF} {R : List Nat} {k : Nat} (h : k ∈ (A.re R).list) : k ∈ A.list ∨ k ∈ R := by
 simp only [AF.re, AF.list, AF.fix, List.mem_append, List.mem_cons] at h ⊢
 rcases h with h | h
 ·exact .inl (.inl h)
 ·exact .inr h
theorem al0_ok {B : Nat} (hB2 : 2 ≤ B) (hB : B ≤ 100) : AlOk B (al0 B) := by
 have hf := fmt_formed hB2 hB
 have hl := al0_list hB2 hB
 have hbm : BmOk B (al0 B).bm := hf.bm hB2
 have hu : ∀ a, (List.replicate (512 * B) false).getD a false = false := fun a => by
  simp only [List.getD_eq_getElem?_getD, List.getElem?_replicate]; split <;> rfl
 refine ⟨hbm, hf.live, hf.len, by simp [al0], fun a ha => ?_, fun k a hk => ?_⟩
 ·have := hu a
  unfold al0 at ha
  dsimp only at ha
  rw [this] at ha; cases ha
 ·have h0 : (al0 B).fl.cnt k a = 0 := by unfold al0 FL.cnt FL.empty; simp
  rw [h0, if_neg]
  rintro ⟨hc, _⟩
  have := isCell_kind hc
  rw [hl] at this
  simp only [List.getD_eq_getElem?_getD, List.getElem?_replicate] at this
  split at this <;> cases this
end Go.Proofs.YtpopbfagliagnaaGreat
namespace Go.Proofs.YtpopbfagliagnaaGreat
section
variable {ok : Nat → Prop} {P : Nat → List Nat} {f seen rest : List Nat}
end
structure Mk where
 ms : List Bool
 sc : List Bool
 st : List Nat
 most : Nat
 miss : Nat
 again : Bool
 cur : Nat
section
variable {U : List Bool} {P : Nat → List Nat} {M : Mk}
end
end Go.Proofs.YtpopbfagliagnaaGreat
namespace Go.Proofs.YtpopbfagliagnaaGreat
open Go.RowKit
section
variable {B : Nat} {m m' : Al} {xs : List Nat}
theorem placed_size {S : Dev} {L : List Hd} {a : Int} {o : Odec} (h : placedN S L a = some o) : objSize o.p o.d ≠ 0 ∧ 0 ≤ o.p ∧ o.p < 64 ∧ 0 ≤ o.d ∧ o.d ≤ 16384 := by
 obtain ⟨h1, h2, _⟩ := placed_head h
 have := headN_code S a
 rw [h1] at this
 rcases this with this | this
 ·have h3 := obj_small this.2.2.2.1
  exact ⟨this.2.2.2.1, h3.1.1, h3.1.2, h3.2⟩
 ·rw [this] at h2; cases h2
theorem objSize_is {p d : Int} (h : objSize p d ≠ 0) : (objSize p d : Int) = 1 + p + d := by
 unfold objSize at h ⊢
 split
 ·next c => rw [if_pos c] at h; exact absurd rfl h
 ·omega
end
def Off (Q : List Nat) (w w' : World) : Prop := ∃ L, Touch L w w' ∧ ∀ k ∈ Q, k ∉ L
theorem Off.ofBelow {Q : List Nat} {w w' : World} (h : Below w.heap.size w w') : Off Q w w' := ⟨[], Touch.ofBelow h, by simp⟩
theorem MemR.off {B : Nat} {W W' : World} {L : List Ent} {Q : List Nat} (h : MemR B W L) (ho : Off Q W W') (hQ : ∀ x ∈ L.map Ent.g, x ∈ Q) : MemR B W' L := by
 obtain ⟨X, h1, h2⟩ := ho
 exact h.apart h1 (fun x hx => h2 _ (hQ _ (List.mem_map_of_mem hx)))
section
variable {w wr w' : World} {Q : List Nat} {A : AF} {n n' B N N' : Nat} {m m' : Al} {v v' : Value} {xs xs' : List Nat}
theorem AF.re_re (A : AF) (R R' : List Nat) : (A.re R).re R' = A.re R' := rfl
end
end Go.Proofs.YtpopbfagliagnaaGreat
namespace Go.Proofs.YtpopbfagliagnaaGreat
variable {B : Nat} {m : Al}
structure Shrank (L L' : List Hd) (a n : Nat) : Prop where
 len : L'.length = L.length
 at_ : ∀ q, L'.getD q default = if a ≤ q ∧ q < a + n then ⟨0, 0, 0⟩ else L.getD q default
 kind : (L.getD a default).k = 1 ∨ (L.getD a default).k = 2
 cont : ∀ i : Nat, 1 ≤ i → i < n → L.getD (a + i) default = ⟨3, 0, i⟩
theorem Shrank.out {L L' : List Hd} {a n : Nat} (h : Shrank L L' a n) {q : Nat} (hq : ¬ (a ≤ q ∧ q < a + n)) : L'.getD q default = L.getD q default := by rw [h.at_, if_neg hq]
theorem Shrank.cell {L L' : List Hd} {a n : Nat} (h : Shrank L L' a n) (k x : Nat) : isCell L' k x ↔ isCell L k x ∧ ¬ (a ≤ x / 512 ∧ x / 512 < a + n) := by
 unfold isCell
 rw [h.len, h.at_]
 by_cases c : a ≤ x / 512 ∧ x / 512 < a + n
 ·rw [if_pos c]
  constructor
  ·rintro ⟨_, _, e, _⟩
   have := congrArg Hd.k e
   exact absurd this (by simp)
  ·rintro ⟨_, e⟩; exact absurd c e
 ·rw [if_neg c]
  constructor
  ·intro e; exact ⟨e, c⟩
  ·intro e; exact e.1
theorem Shrank.whole {L L' : List Hd} {a n : Nat} (h : Shrank L L' a n) {b k : Nat} (hk : 1 ≤ k) (hw : wholeN L b = k) (hb : ¬ (a ≤ b ∧ b < a + n)) : wholeN L' b = k := by
 have hf := wholeN_fits (L := L) (b := b) (by omega)
 rw [hw] at hf
 obtain ⟨f1, f2, f3, f4, f5⟩ := hf
 have hbb := h.out hb
 have hc : ∀ i, 1 ≤ i → i < k → L'.getD (b + i) default = ⟨3, 0, i⟩ := fun i h1 h2 => by
  have e := f5 i h1 h2
  rw [h.out, e]
  intro c
  by_cases c0 : b + i = a
  ·have hkd := h.kind
   rw [← c0, e] at hkd
   simp at hkd
  ·have e2 := h.cont (b + i - a) (by omega) (by omega)
   rw [show a + (b + i - a) = b + i by omega, e] at e2
   have := congrArg Hd.l e2
   simp at this
   omega
 unfold wholeN
 rw [hbb, h.len, if_neg (by omega), if_pos]
 ·omega
 ·exact contTo_of fun i h1 h2 => hc i h1 (by omega)
theorem Shrank.placed {L L' : List Hd} {a n : Nat} (h : Shrank L L' a n) {S T : Dev} {x : Nat} {o : Odec} (hp : placedN S L (x : Int) = some o) (hl : T.cache.length = S.cache.length) (hw : T.cache.getD x 0 = S.cache.getD x 0) (hx : ¬ (a ≤ x / 512 ∧ x / 512 < a + n)) : placedN T L' (x : Int) = some o := by
 have hh : headN T (x : Int) = headN S (x : Int) := headN_same hl (by rw [peek_in, peek_in]; exact hw)
 obtain ⟨e1, e0, h1, h2⟩ := placed_head hp
 obtain ⟨s1, _⟩ := placed_size hp
 unfold placedN at hp ⊢
 rw [e1, Int.toNat_natCast] at hp
 rw [hh, e1, h.len, Int.toNat_natCast]
 split at hp
 ·cases hp
 ·rename_i h0
  rw [if_neg h0]
  by_cases hs : small (objSize o.p o.d)
  ·rw [if_pos hs] at hp ⊢
   split at hp
   ·next hc => rw [if_pos ((h.cell _ _).2 ⟨hc, hx⟩)]
   ·cases hp
  ·rw [if_neg hs] at hp ⊢
   split at hp
   ·next hc =>
    have hnz : 1 ≤ objBlocks (objSize o.p o.d) := by
     unfold objBlocks
     rw [if_neg hs]; omega
    rw [if_pos ⟨hc.1, h.whole hnz hc.2 hx⟩]
   ·cases hp
def Snd (L : List Hd) : Prop := ∀ q, 1 ≤ q → (L.getD q default).k = 3 → ∃ a, 1 ≤ a ∧ a < q ∧ (L.getD a default).k = 2 ∧ (q : Int) < (a : Int) + (L.getD a default).l
theorem snd_small {bm : Bm} (h : BmOk B bm) (hv : bm.dev.live) (k : Nat) (hk : k < 32) (hs : Snd bm.list) : Snd (bm.small (k : Int)).bm.list := by
 rcases small_live h hv k hk with ⟨e, _⟩ | ⟨b, _, _, b1, b2, hf, _, _, _, hl, _⟩
 ·rw [e]; exact hs
 ·have hb := ((h.free b).1 hf).2.2
  intro q q1 hq
  rw [hl] at hq
  by_cases e : q = b
  ·rw [if_pos e] at hq; exact absurd hq (by simp)
  ·rw [if_neg e] at hq
   obtain ⟨a, a1, a2, a3, a4⟩ := hs q q1 hq
   have hab : a ≠ b := fun e => by rw [e, hb] at a3; exact absurd a3 (by decide)
   exact ⟨a, a1, a2, by rw [hl, if_neg hab]; exact a3, by rw [hl, if_neg hab]; exact a4⟩
theorem snd_large {bm : Bm} (h : BmOk B bm) (hv : bm.dev.live) (n : Nat) (h1 : 1 ≤ n) (h2 : n < 256) (hs : Snd bm.list) : Snd (bm.large (n : Int)).bm.list := by
 rcases large_live h hv n h1 h2 with ⟨e, _⟩ | ⟨b, _, _, b1, b2, hf, _, _, _, hl, _⟩
 ·rw [e]; exact hs
 ·intro q q1 hq
  rw [hl] at hq
  by_cases e : q = b
  ·rw [if_pos e] at hq; exact absurd hq (by simp)
  ·rw [if_neg e] at hq
   by_cases c : b ≤ q ∧ q < b + n
   ·exact ⟨b, b1, by omega, by rw [hl, if_pos rfl], by rw [hl, if_pos rfl]; dsimp only; omega⟩
   ·rw [if_neg c] at hq
    obtain ⟨a, a1, a2, a3, a4⟩ := hs q q1 hq
    have hab : ¬ (b ≤ a ∧ a < b + n) := fun e => by
     have := ((h.free a).1 (hf a e.1 e.2)).2.2
     rw [this] at a3; exact absurd a3 (by decide)
    have hab2 : a ≠ b := fun e => hab ⟨by omega, by omega⟩
    exact ⟨a, a1, a2, by rw [hl, if_neg hab2, if_neg hab]; exact a3, by rw [hl, if_neg hab2, if_neg hab]; exact a4⟩
theorem snd_shrunk {L L' : List Hd} {a n : Nat} (hs : Snd L) (hq : ∀ q, L'.getD q default = if a ≤ q ∧ q < a + n then ⟨0, 0, 0⟩ else L.getD q default)
  (hb : ∀ q, a ≤ q → q < a + n → (L.getD q default).k = 2 → q = a ∧ (L.getD a default).l = (n : Int)) : Snd L' := by
 intro q q1 hk
 rw [hq] at hk
 by_cases c : a ≤ q ∧ q < a + n
 ·rw [if_pos c] at hk; exact absurd hk (by decide)
 ·rw [if_neg c] at hk
  obtain ⟨b, b1, b2, b3, b4⟩ := hs q q1 hk
  have hbn : ¬ (a ≤ b ∧ b < a + n) := fun e => by
   obtain ⟨rfl, e2⟩ := hb b e.1 e.2 b3
   rw [e2] at b4
   omega
  exact ⟨b, b1, b2, by rw [hq, if_neg hbn]; exact b3, by rw [hq, if_neg hbn]; exact b4⟩
theorem snd_room (h : AlOk B m) (hs : Snd m.bm.list) (mu n : Nat) (h1 : 1 ≤ n) (h2 : n ≤ 16448) : Snd (m.room mu n).al.bm.list := by
 unfold Al.room
 by_cases hsm : small n
 ·rw [if_pos hsm]
  have hk := ofN_lt hsm
  have hS := snd_small h.bm h.live _ hk hs
  generalize ofN (n : Int) = k at *
  unfold Al.roomS Al.steal
  split
  ·rw [take_bm]; exact hs
  ·split
   ·rw [take_bm]; exact hS
   ·split
    ·exact hS
    ·split
     ·rw [take_bm]; exact hS
     ·exact hS
 ·rw [if_neg hsm]
  have hnb : 1 ≤ objBlocks n ∧ objBlocks n < 256 := by
   unfold objBlocks
   rw [if_neg hsm]
   omega
  have hS := snd_large h.bm h.live _ hnb.1 hnb.2 hs
  unfold Al.roomL
  split <;> exact hS
theorem snd_alloc (h : AlOk B m) (hs : Snd m.bm.list) (mu p d : Int) : Snd (m.alloc mu p d).al.bm.list := by
 unfold Al.alloc
 split
 ·exact hs
 ·split
  ·exact hs
  ·next c =>
   have hR := snd_room h hs mu.toNat (objSize p d) (by omega) (objSize_le _ _)
   split
   ·exact hR
   ·unfold Al.made
    split <;> exact hR
structure Gone (B : Nat) (m m' : Al) (a : Nat) : Prop where
 ok : AlOk B m'
 used : m'.used = m.used.set a false
 keep : ∀ x : Nat, m.used.getD x false = true → x ≠ a → placedN m'.bm.dev m'.bm.list (x : Int) = placedN m.bm.dev m.bm.list (x : Int)
 cells : ∀ k x : Nat, isCell m'.bm.list k x ↔ isCell m.bm.list k x
 snd : Snd m.bm.list → Snd m'.bm.list
 kin : ∀ q, m'.bm.list.getD q default = m.bm.list.getD q default ∨ (m'.bm.list.getD q default = ⟨0, 0, 0⟩ ∧ 2 ≤ (m.bm.list.getD q default).k)
 k2 : (m'.bm.list.getD (a / 512) default).k ≠ 2
theorem getD_set_off (l : List Bool) (a x : Nat) : (l.set a false).getD x false = if x = a then false else l.getD x false := by
 by_cases e : x = a
 ·subst e
  rw [if_pos rfl, List.getD_eq_getElem?_getD, List.getElem?_set_self']
  cases l[x]? <;> rfl
 ·rw [if_neg e, List.getD_eq_getElem?_getD, List.getElem?_set_ne (fun h => e h.symm), ← List.getD_eq_getElem?_getD]
theorem gone_small (h : AlOk B m) {a : Nat} {o : Odec} (hu : m.used.getD a false = true) (ho : placedN m.bm.dev m.bm.list (a : Int) = some o) (hs : small (objSize o.p o.d)) {f : FL}
  (hf : ∀ j x : Nat, f.cnt j x = m.fl.cnt j x + if j = ofN (objSize o.p o.d : Nat) ∧ x = a ∧ m.fl.cnt (ofN (objSize o.p o.d : Nat)) a = 0 then 1 else 0) :
  Gone B m ⟨m.bm, m.used.set a false, f⟩ a := by
 have hk := ofN_lt hs
 have hc : isCell m.bm.list (ofN (objSize o.p o.d : Nat)) a := by
  obtain ⟨e1, _⟩ := placed_head ho
  unfold placedN at ho
  rw [e1, if_pos hs, Int.toNat_natCast] at ho
  split at ho
  ·cases ho
  ·split at ho
   ·assumption
   ·cases ho
 have h0 : m.fl.cnt (ofN (objSize o.p o.d : Nat)) a = 0 := by rw [h.cells _ _ hk, if_neg]; rintro ⟨_, e⟩; rw [hu] at e; cases e
 refine ⟨⟨h.bm, h.live, h.len, by simp [h.lenU], fun x hx => ?_, fun k x hk' => ?_⟩, rfl, fun x _ _ => rfl, fun _ _ => Iff.rfl, fun h => h, fun q => .inl rfl, by dsimp only; rw [hc.2.2.1]; show (1 : Int) ≠ 2; decide⟩
 ·dsimp only at hx ⊢
  rw [getD_set_off] at hx
  by_cases e : x = a
  ·rw [if_pos e] at hx; cases hx
  ·rw [if_neg e] at hx; exact h.placed x hx
 ·dsimp only
  rw [hf, h0, h.cells _ _ hk', getD_set_off]
  generalize ofN (objSize o.p o.d : Nat) = c at *
  by_cases e : x = a
  ·subst e
   rw [if_pos rfl, hu]
   by_cases e2 : k = c
   ·subst e2
    simp [hc]
   ·have : ¬ isCell m.bm.list k x := fun hc' => by
     have := hc.2.2.1.symm.trans hc'.2.2.1
     have := congrArg Hd.c this
     simp at this
     exact e2 (by omega)
    simp [this, e2]
  ·simp [e]
theorem AlOk.shrink (h : AlOk B m) (hB : B ≤ 200) {a n : Nat} {bm : Bm} (hb : BmOk B bm) (hv : bm.dev.live) (hf : Far B m.bm.dev bm.dev) (hS : Shrank m.bm.list bm.list a n) {u : List Bool} (hu : u.length = m.used.length) (hsub : ∀ x, u.getD x false = true → m.used.getD x false = true ∧ ¬ (a ≤ x / 512 ∧ x / 512 < a + n))
  (hout : ∀ x, ¬ (a ≤ x / 512 ∧ x / 512 < a + n) → (∃ k, isCell m.bm.list k x) → u.getD x false = m.used.getD x false) {f : FL}
  (hc : ∀ k x : Nat, k < 32 → f.cnt k x = if a ≤ x / 512 ∧ x / 512 < a + n then 0 else m.fl.cnt k x) : AlOk B ⟨bm, u, f⟩ := by
 refine ⟨hb, hv, by dsimp only; rw [hf.len, h.len], by dsimp only; rw [hu, h.lenU], fun x hx => ?_, fun k x hk => ?_⟩
 ·dsimp only at hx ⊢
  obtain ⟨h1, h2⟩ := hsub x hx
  obtain ⟨o, ho⟩ := Option.isSome_iff_exists.1 (h.placed x h1)
  rw [hS.placed ho hf.len (hf.word x (by have := (h.used_kind h1).1; have := (h.used_kind h1).2.1; intro c; have := h.len; have hfit := h.bm.clean.fits; omega)) h2]
  rfl
 ·show f.cnt k x = if isCell bm.list k x ∧ u.getD x false = false then 1 else 0
  rw [hc k x hk]
  by_cases c : a ≤ x / 512 ∧ x / 512 < a + n
  ·rw [if_pos c, if_neg (fun e => ((hS.cell k x).1 e.1).2 c)]
  ·rw [if_neg c, h.cells k x hk]
   by_cases e : isCell m.bm.list k x
   ·have e' := (hS.cell k x).2 ⟨e, c⟩
    rw [hout x c ⟨k, e⟩]
    simp [e, e']
   ·rw [if_neg (fun q => e q.1), if_neg (fun q => e ((hS.cell k x).1 q.1).1)]
theorem BmOk.shrank {bm bm' : Bm} (h : BmOk B bm) (h' : BmOk B bm') {a n : Nat} (a1 : 1 ≤ a) (a2 : a < B) (hk : (bm.list.getD a default).k = 1 ∨ (bm.list.getD a default).k = 2) (hn : relN (bm.list.getD a default) = (n : Int))
  (hq : ∀ q, bm'.list.getD q default = if a ≤ q ∧ q < a + n then ⟨0, 0, 0⟩ else bm.list.getD q default) : Shrank bm.list bm'.list a n := by
 obtain ⟨n', n1, hn', haB, hcont⟩ := rel_many h a1 a2 hk
 obtain rfl : n' = n := by omega
 exact ⟨by rw [h.lenL, h'.lenL], hq, hk, hcont⟩
theorem gone_large (h : AlOk B m) (hB : B ≤ 200) {a : Nat} {o : Odec} (hu : m.used.getD a false = true) (ho : placedN m.bm.dev m.bm.list (a : Int) = some o) (hs : ¬ small (objSize o.p o.d)) :
  (m.bm.release ((a / 512 : Nat) : Int)).err = 0 ∧ Gone B m ⟨(m.bm.release ((a / 512 : Nat) : Int)).bm, m.used.set a false, m.fl⟩ a := by
 obtain ⟨e1, e0, h1, h2⟩ := placed_head ho
 have hro := placed_room ho
 have hkk := h.used_kind hu
 have hw : a % 512 = 0 ∧ wholeN m.bm.list (a / 512) = objBlocks (objSize o.p o.d) := by
  unfold placedN at ho
  rw [e1, if_neg hs, Int.toNat_natCast] at ho
  split at ho
  ·cases ho
  ·split at ho
   ·assumption
   ·cases ho
 have hnz : 1 ≤ objBlocks (objSize o.p o.d) := by
  have := (placed_size ho).1
  unfold objBlocks
  rw [if_neg hs]; omega
 have hf := wholeN_fits (L := m.bm.list) (b := a / 512) (by omega)
 obtain ⟨f1, f2, f3, f4, f5⟩ := hf
 have hn : relN (m.bm.list.getD (a / 512) default) = ((wholeN m.bm.list (a / 512) : Nat) : Int) := by unfold relN; rw [if_neg (by rw [f2]; decide), f3]
 obtain ⟨r1, r2, r3, r4, r5, r6⟩ := release_live h.bm h.live (a := a / 512) (by omega) hkk.2.1 (.inr f2) _ hn
 have hS := h.bm.shrank r2 (a := a / 512) (by omega) hkk.2.1 (.inr f2) hn r5
 have hin : ∀ x, m.used.getD x false = true → x ≠ a → ¬ (a / 512 ≤ x / 512 ∧ x / 512 < a / 512 + wholeN m.bm.list (a / 512)) := fun x hx hxa => by
  obtain ⟨o', ho'⟩ := Option.isSome_iff_exists.1 (h.placed x hx)
  have hrx := placed_room ho'
  have hrm : roomN o.p o.d = 512 * wholeN m.bm.list (a / 512) := by unfold roomN; rw [if_neg hs, hw.2]
  rcases Nat.lt_or_gt_of_ne hxa with c | c
  ·intro e
   have := hrx.apart hro c
   have := hrx.pos
   omega
  ·have := hro.apart hrx c
   rw [hrm] at this
   omega
 have hnc : ∀ k x : Nat, isCell m.bm.list k x → ¬ (a / 512 ≤ x / 512 ∧ x / 512 < a / 512 + wholeN m.bm.list (a / 512)) := fun k x hc c => by
  have e := hc.2.2.1
  by_cases c0 : x / 512 = a / 512
  ·rw [c0] at e; rw [e] at f2; simp at f2
  ·have e2 := f5 (x / 512 - a / 512) (by omega) (by omega)
   rw [show a / 512 + (x / 512 - a / 512) = x / 512 by omega, e] at e2
   have := congrArg Hd.k e2
   simp at this
 refine ⟨r1, h.shrink hB r2 r3 r4 hS (by simp) (fun x hx => ?_) (fun x hx hc => ?_) (fun k x hk => ?_), rfl, fun x hx hxa => ?_, fun k x => (hS.cell k x).trans ⟨fun h => h.1, fun h => ⟨h, hnc k x h⟩⟩, fun hs => snd_shrunk hs r5 (fun q q1 q2 hk2 => ?_), fun q => ?_, ?_⟩
 ·rw [getD_set_off] at hx
  by_cases e : x = a
  ·rw [if_pos e] at hx; cases hx
  ·rw [if_neg e] at hx; exact ⟨hx, hin x hx e⟩
 ·rw [getD_set_off, if_neg]
  rintro rfl
  omega
 ·split
  ·next c =>
   rw [h.cells k x hk, if_neg]
   rintro ⟨hc, _⟩
   exact hnc k x hc c
  ·rfl
 ·dsimp only
  obtain ⟨o', ho'⟩ := Option.isSome_iff_exists.1 (h.placed x hx)
  rw [ho']
  exact hS.placed ho' r4.len (r4.word x (by have := (h.used_kind hx).1; have hfit := h.bm.clean.fits; have := h.len; intro c; omega)) (hin x hx hxa)
 ·by_cases c0 : q = a / 512
  ·subst c0
   exact ⟨rfl, f3.symm⟩
  ·have e2 := f5 (q - a / 512) (by omega) (by omega)
   rw [show a / 512 + (q - a / 512) = q by omega] at e2
   rw [e2] at hk2
   exact absurd hk2 (by simp)
 ·dsimp only
  rw [r5 q]
  by_cases c : a / 512 ≤ q ∧ q < a / 512 + wholeN m.bm.list (a / 512)
  ·rw [if_pos c]
   refine .inr ⟨rfl, ?_⟩
   by_cases c0 : q = a / 512
   ·rw [c0, f2]; decide
   ·have e2 := f5 (q - a / 512) (by omega) (by omega)
    rw [show a / 512 + (q - a / 512) = q by omega] at e2
    rw [e2]
    show (2 : Int) ≤ 3
    decide
  ·rw [if_neg c]; exact .inl rfl
 ·dsimp only
  rw [r5, if_pos ⟨Nat.le_refl _, by omega⟩]
  show (0 : Int) ≠ 2
  decide
structure Trimmed (B : Nat) (m m' : Al) (b : Nat) : Prop where
 ok : AlOk B m'
 used : m'.used = m.used
 keep : ∀ x : Nat, m.used.getD x false = true → placedN m'.bm.dev m'.bm.list (x : Int) = placedN m.bm.dev m.bm.list (x : Int)
 list : ∀ q, m'.bm.list.getD q default = if q = b then ⟨0, 0, 0⟩ else m.bm.list.getD q default
 free : m'.bm.free = setTo m.bm.free b true 1
 snd : Snd m.bm.list → Snd m'.bm.list
theorem trim_done (h : AlOk B m) (hB : B ≤ 200) {b k : Nat} (b1 : 1 ≤ b) (b2 : b < B) (hk : k < 32) (hb : m.bm.list.getD b default = ⟨1, k, 0⟩) (hu : ∀ x, x / 512 = b → m.used.getD x false = false) :
  (m.bm.release (b : Int)).err = 0 ∧ Trimmed B m ⟨(m.bm.release (b : Int)).bm, m.used, m.fl.remove k (512 * b) (512 * b + 512)⟩ b := by
 have hkd : (m.bm.list.getD b default).k = 1 := by rw [hb]
 have hn : relN (m.bm.list.getD b default) = ((1 : Nat) : Int) := by unfold relN; rw [if_pos hkd]; rfl
 obtain ⟨r1, r2, r3, r4, r5, r6⟩ := release_live h.bm h.live b1 b2 (.inl hkd) _ hn
 have hS := h.bm.shrank r2 b1 b2 (.inl hkd) hn r5
 have hrg : ∀ x, (b ≤ x / 512 ∧ x / 512 < b + 1) ↔ x / 512 = b := fun x => by omega
 have hin : ∀ x, m.used.getD x false = true → ¬ (b ≤ x / 512 ∧ x / 512 < b + 1) := fun x hx c => by
  rw [hu x ((hrg x).1 c)] at hx; cases hx
 refine ⟨r1, h.shrink hB r2 r3 r4 hS rfl (fun x hx => ⟨hx, hin x hx⟩) (fun _ _ _ => rfl) (fun j x hj => ?_), rfl, fun x hx => ?_, fun q => ?_, r6, fun hs => snd_shrunk hs r5 (fun q q1 q2 hk2 => ?_)⟩
 ·rw [FL.remove_cnt]
  by_cases c : b ≤ x / 512 ∧ x / 512 < b + 1
  ·rw [if_pos c]
   by_cases e : j = k
   ·rw [if_pos ⟨e, by omega, by omega⟩]
   ·rw [if_neg (fun q => e q.1), h.cells j x hj, if_neg]
    rintro ⟨hc, _⟩
    have := hc.2.2.1
    rw [(hrg x).1 c, hb] at this
    have := congrArg Hd.c this
    simp at this
    exact e (by omega)
  ·rw [if_neg c, if_neg]
   rintro ⟨_, h1, h2⟩
   exact c ⟨by omega, by omega⟩
 ·dsimp only
  obtain ⟨o', ho'⟩ := Option.isSome_iff_exists.1 (h.placed x hx)
  rw [ho']
  exact hS.placed ho' r4.len (r4.word x (by have := (h.used_kind hx).1; have hfit := h.bm.clean.fits; have := h.len; intro c; omega)) (hin x hx)
 ·dsimp only
  rw [r5 q]
  by_cases e : q = b
  ·rw [if_pos (by omega), if_pos e]
  ·rw [if_neg (by omega), if_neg e]
 ·obtain rfl : q = b := by omega
  rw [hkd] at hk2
  exact absurd hk2 (by decide)
def cellsTo (u : Nat → Bool) (b k : Nat) : Nat → List Nat
 | 0 => []
 | n + 1 => cellsTo u b k n ++ if u (cellOf b k n) then [] else [cellOf b k n]
def isSm (L : List Hd) (k b : Nat) : Bool := decide ((L.getD b default).k = 1) && decide ((L.getD b default).c = (k : Int))
def freeTo (u : Nat → Bool) (L : List Hd) (k : Nat) : Nat → List Nat
 | 0 => []
 | n + 1 => freeTo u L k n ++ if isSm L k (n + 1) then cellsTo u (n + 1) k (clsCells k) else []
theorem cellOf_lt {b k i j : Nat} (hk : k < 32) (h : i < j) : cellOf b k i < cellOf b k j := by
 have hp := clsWords_pos (k : Int) (by omega)
 unfold cellOf
 have : (i + 1) * clsWords k ≤ j * clsWords k := Nat.mul_le_mul_right _ h
 rw [Nat.add_mul, Nat.one_mul] at this
 omega
end Go.Proofs.YtpopbfagliagnaaGreat
namespace Go.Proofs.YtpopbfagliagnaaGreat
open Go.RowKit Go.Shelf
attribute [local go_sem] Oper.semAt_some
theorem onesF_next {l : List Bool} {a : Nat} : onesF l a = match nextB l a with | some i => i :: onesF l (i + 1) | none => [] := by
 cases h : nextB l a with
 | none => exact onesF_none h
 | some i => exact onesF_step h
def Coming (l : List Bool) (pre : List Nat) (o : Option Nat) : Prop := onesL l = pre ++ (match o with | some i => i :: onesF l (i + 1) | none => [])
theorem Coming.start (l : List Bool) : Coming l [] (nextB l 0) := by unfold Coming; rw [List.nil_append, ← onesF_zero]; exact onesF_next
theorem Coming.next {l : List Bool} {pre : List Nat} {i : Nat} (h : Coming l pre (some i)) : Coming l (pre ++ [i]) (nextB l (i + 1)) := by
 unfold Coming at h ⊢
 rw [h, ← onesF_next]; simp
theorem Coming.done {l : List Bool} {pre : List Nat} (h : Coming l pre none) : pre = onesL l := by unfold Coming at h; simpa using h.symm
theorem Coming.lt {l : List Bool} {pre : List Nat} {i : Nat} (h : Coming l pre (some i)) : pre.length < (onesL l).length := by unfold Coming at h; rw [h]; simp
theorem Coming.pre {l : List Bool} {pre : List Nat} {i : Nat} (h : Coming l pre (some i)) : pre ++ [i] <+: onesL l := by unfold Coming at h; rw [h]; exact ⟨onesF l (i + 1), by simp⟩
theorem Coming.in_ {l : List Bool} {pre : List Nat} {i : Nat} (h : Coming l pre (some i)) : i < l.length := by
 have : i ∈ onesL l := by unfold Coming at h; rw [h]; simp
 unfold onesL at this
 exact List.mem_range.1 (List.mem_filter.1 this).1
theorem nextV_eq (o : Option Nat) : nextV o = .tuple #[.int .i64 ((o.getD 0 : Nat) : Int), .bool o.isSome] := by cases o <;> rfl
def leftB (n : Nat) (v b : Value) : Nat := match b with
 | .bool true => n + 1 - (intOf v).toNat
 | _ => 0
theorem leftB_next {l : List Bool} {pre : List Nat} {i : Nat} (h : Coming l pre (some i)) : leftB l.length (.int .i64 (((nextB l (i + 1)).getD 0 : Nat) : Int)) (.bool (nextB l (i + 1)).isSome) < leftB l.length (.int .i64 (i : Int)) (.bool true) := by
 have hi := h.in_
 cases ho : nextB l (i + 1) with
 | none => simp [leftB, intOf]; omega
 | some j =>
  have := nextB_is ho
  simp [leftB, intOf]; omega
def KpB (n₀ Bn : Nat) (A B : World) : Prop := Below n₀ A B ∧ B.heap[Bn]? = A.heap[Bn]?
theorem KpB.trans {n₀ Bn : Nat} {A B C : World} (h : KpB n₀ Bn A B) (k : KpB n₀ Bn B C) : KpB n₀ Bn A C := ⟨h.1.trans k.1, k.2.trans h.2⟩
theorem KpB.book {n₀ Bn : Nat} {w : World} (hn : n₀ ≤ w.heap.size) (hB : Bn < w.heap.size) (W : World) (l : Nat) (o o' : Obj) (hl : w.heap.size ≤ l) (h : W.heap[l]? = some o) (h1 : o.isCells = false) (h2 : o.isWalk = false) : KpB n₀ Bn W (W.putObj l o') :=
 ⟨belowK_b hn W l o o' hl h h1 h2, World.putObj_heap_other (by omega)⟩
set_option maxRecDepth 100000 in
set_option maxHeartbeats 2000000 in
theorem sall1_in {X : SetF} {l : List Bool} (n : Nat) (hn : 1 ≤ n) (lp Bn n₀ : Nat) (J Jx : List Nat → World → Prop)
  (hY : ∀ pre (x : Nat) W, J pre W → pre.length < (onesL l).length → YieldAt Fence.wide (n - 1) Tryz.prog lp #[.int .i64 (x : Int)] W fun e W' =>
   (e = .returned (.bool true) ∧ J (pre ++ [x]) W' ∧ KpB n₀ Bn W W') ∨ (e = .returned (.bool false) ∧ Jx (pre ++ [x]) W'))
  (W : World) (hBn : Boxed W Bn 74 (vset X)) (hS : SetAt W X l) (hX : ∀ k ∈ X.list, k < n₀) (h0 : J [] W) :
  CallsIn Fence.wide n Tryz.prog 280 #[.func (.yield lp) #[] #[], .pointer (some ⟨Bn, 0, none⟩)] W fun e W' => (∃ v, e = .returned v) ∧
   ((∃ ys, ys = onesL l ∧ J ys W') ∨ (∃ pre, pre <+: onesL l ∧ Jx pre W')) := by
 have HS := LH hS
 refine callsIn_of_wp Tryz.func280 rfl trivial ?_ rfl
 simp only [Tryz.ntmps280, List.size_toArray, List.length_cons, List.length_nil, Nat.reduceAdd, Nat.reduceSub, Array.replicate_succ, Array.replicate_zero, List.push_toArray, List.append_toArray, List.nil_append, List.cons_append]
 have HN0 := LH (snext_any hS 0)
 rw [show (0 : Int).toNat = 0 from rfl, nextV_eq] at HN0
 have HC0 := LH (Coming.start l)
 generalize nextB l 0 = o0 at *
 have hc0 := hBn.cell
 clear hS
 gi_wp2_with (refine ⟨trivial, ?_⟩; gi_at_call 281; refine (callsIn_wide.2 HN0.out).mono ?_; rintro e w1 ⟨rfl, rfl⟩)
 gi_loopw [3, 4] (fun v b wr => ∃ (pre : List Nat) (o : Option Nat), v = .int .i64 ((o.getD 0 : Nat) : Int) ∧ b = .bool o.isSome ∧ Hid (Coming l pre o) ∧ Hid (SetAt wr X l) ∧ Boxed wr Bn 74 (vset X) ∧ J pre wr) (fun v b _ => leftB l.length v b)
 case atStart => exact ⟨[], o0, rfl, rfl, HC0, HS, hBn, h0⟩
 case round =>
  clear HN0 hBn h0 HS HC0 hc0
  obtain ⟨pre, o, rfl, rfl, HC, HS, hBn, hJ⟩ := hrel
  cases o with
  | none =>
   simp only [Option.isSome_none, Option.getD_none]
   gi_wp2
   go_end0
   exact ⟨⟨_, rfl⟩, .inl ⟨pre, HC.out.done, hJ⟩⟩
  | some i =>
   simp only [Option.isSome_some, Option.getD_some]
   obtain ⟨fn, tmps, assign, body, hy, hR⟩ := hY pre i wr hJ HC.out.lt
   gi_wp2
   refine hR.mono ?_
   rintro e W3 (⟨rfl, hJ3, hk3⟩ | ⟨rfl, hJx3⟩)
   ·have hBn3 : Boxed W3 Bn 74 (vset X) := hk3.2.trans hBn
    have hc3 := hBn3.cell
    have HS3 := LH (HS.out.keep (fun k hk => hk3.1.block k (hX k hk)))
    have HN := LH (snext_any HS3.out ((i : Int) + 1))
    rw [show ((i : Int) + 1).toNat = i + 1 by omega, nextV_eq] at HN
    have HL := LH (leftB_next HC.out)
    have HC3 := LH HC.out.next
    have hil := HC.out.in_
    have hls := HS.out.small
    clear hk3 hy hR
    generalize nextB l (i + 1) = o at *
    gi_wp2_with (refine ⟨trivial, ?_⟩; gi_at_call 281; refine (callsIn_wide.2 HN.out).mono ?_; rintro e w1 ⟨rfl, rfl⟩)
    go_roundw
    case rel => exact ⟨pre ++ [i], o, rfl, rfl, HC3, HS3, hBn3, hJ3⟩
    case measure => exact HL.out
   ·gi_wp2
    refine bodyPost_ret (results_none rfl _ _ _) rfl ?_
    exact ⟨⟨_, rfl⟩, .inr ⟨pre ++ [i], HC.out.pre, hJx3⟩⟩
set_option maxHeartbeats 1000000 in
theorem sall_in (X : SetF) (n : Nat) (w : World) :
  CallsIn Fence.wide n Tryz.prog 215 #[vset X] w fun e w' => e = .returned (.func (.func 280) #[] #[.pointer (some ⟨w.heap.size, 0, none⟩)]) ∧ w' = w.alloc (.cells #[vset X] 74) := by
 refine callsIn_of_wp Tryz.func215 rfl trivial ?_ rfl
 simp only [Tryz.ntmps215, List.size_toArray, List.length_cons, List.length_nil, Nat.reduceAdd, Nat.reduceSub, Array.replicate_succ, Array.replicate_zero, List.push_toArray, List.append_toArray, List.nil_append, List.cons_append]
 gi_wp2
 go_ret
 exact ⟨rfl, rfl⟩
theorem sall_stops {X : SetF} {l : List Bool} (n : Nat) (hn : 1 ≤ n) (Bn n₀ : Nat) (w : World) (hn₀ : n₀ ≤ w.heap.size) (hc : Boxed w Bn 74 (vset X)) (hS : SetAt w X l) (hX : ∀ k ∈ X.list, k < n₀) :
  SeqStopsK Fence.wide n Tryz.prog 280 #[.pointer (some ⟨Bn, 0, none⟩)] (fun x : Nat => #[Value.int .i64 (x : Int)]) (KpB n₀ Bn) (fun ys => ys = onesL l) (fun pre => pre <+: onesL l) (onesL l).length w := fun lp J Jx W hW _ _ hY h0 =>
 sall1_in n hn lp Bn n₀ J Jx hY W ((hW.block Bn hc.lt).trans hc) (hS.below hW) hX h0
theorem infoInt : (Tryz.prog.info? 3).map (fun i => (i.zero, i.size, i.bytes)) = some (some (.int .i64 0), 1, 8) := by kernel_rfl
def ListPost (w : World) (xs : List Nat) : Ending → World → Prop := fun e w' => ∃ v, e = .returned v ∧ w'.ownsRow w.heap.size 3 1 v xs.length (xs.map vi) ∧ (v = .slice none 0 0 ↔ xs = []) ∧ Below w.heap.size w w'
set_option maxRecDepth 100000 in
set_option maxHeartbeats 2000000 in
theorem slist_any {w : World} {X : SetF} {l : List Bool} (h : SetAt w X l) : Calls Tryz.prog 122 #[vset X] w (ListPost w (onesL l)) := by
 have hlen : (onesL l).length ≤ 1000000 := by rw [onesL_length]; exact Nat.le_trans (count_le_len l) h.small
 obtain ⟨i0, hi, hz0, hz1, hz2⟩ := info_parts infoInt
 refine (callsIn_wide (n := 5)).1 ?_
 refine callsIn_of_wp_marks Tryz.func122 rfl trivial ?_ rfl
 simp only [Tryz.ntmps122, List.size_toArray, List.length_cons, List.length_nil, Nat.reduceAdd, Nat.reduceSub, Array.replicate_succ, Array.replicate_zero, List.push_toArray, List.append_toArray, List.nil_append, List.cons_append]
 gi_wp2_with (refine ⟨trivial, ?_⟩; gi_at_call 215; refine (sall_in X _ _).mono ?_; rintro e w' ⟨rfl, rfl⟩)
 have bO := Boxed.new w 47 (.slice none 0 0)
 have bN := Boxed.new (w.alloc (.cells #[.slice none 0 0] 47)) 74 (vset X)
 rw [World.size_alloc] at bN
 have hB0 : Below w.heap.size w ((w.alloc (.cells #[.slice none 0 0] 47)).alloc (.cells #[vset X] 74)) := ((Below.refl _ w).alloc (Nat.le_refl _) _).alloc (by simp) _
 refine wpIn_rangeFunc_ownG rfl (by omega) (gf := 280) (lb := #[.pointer (some ⟨w.heap.size + 1, 0, none⟩)]) rfl trivial (enters_of Tryz.func280 (by kernel_rfl) rfl)
  (sall_stops 4 (by omega) (w.heap.size + 1) w.heap.size _ (by simp; omega) bN (h.below hB0) h.mem) KpB.trans (KpB.book (by simp; omega) (by simp)) (Below.refl _ _) (fun _ => rfl)
  (fun pre W => (∃ v, Boxed W w.heap.size 47 v ∧ W.ownsRow w.heap.size 3 1 v pre.length (pre.map vi) ∧ (v = .slice none 0 0 ↔ pre = [])) ∧ Boxed W (w.heap.size + 1) 74 (vset X) ∧ Below w.heap.size w W)
  (fun _ _ _ => False)
  (OwnFrom.and (Own.from (holdsRow_own w.heap.size w.heap.size 47 3 1 (fun pre : List Nat => pre.length) (fun pre => pre.map vi) (fun pre v => v = .slice none 0 0 ↔ pre = [])) _) (OwnFrom.and (Own.from (boxed_own _ _ _) _) (ownFrom_below (Nat.le_refl _) (by simp; omega))))
  (fun _ _ _ _ _ hs _ _ => hs)
  ⟨⟨_, bO.alloc _, World.ownsRow_nil _ _ _ _, by simp⟩, bN, hB0⟩
  (fun x => { tmps := #[vset X, undef, .slice none 0 0, .pointer (some ⟨w.heap.size, 0, none⟩), .int .i64 (x : Int), vset X, .func (.func 280) #[] #[.pointer (some ⟨w.heap.size + 1, 0, none⟩)], .int .i64 (x : Int), undef, undef, undef, undef, undef], defers := [] }) ?assign ?body ?done ?stop
 case assign =>
  intro l x W K hK
  gi_wp2
  exact hK
 case body =>
  rintro l' pre x W ⟨⟨v, hv, hrow, hnil⟩, hX, hB⟩ hlt
  have hc := hv.cell
  gi_wp2_with (gi_at_builtin; refine wpListIn_append_own _ rfl _ _ 47 rfl w.heap.size 3 i0 (.int .i64 0) 1 8 Tryz.underlying47 hi hz0 hz1 hz2 rfl (by decide) _ _ _ rfl (hrow.alloc _) ⟨W.heap.size, 0, none⟩ 1 1 [.int .i64 (x : Int)] rfl rfl (cell_one_new _ _ _) (by simp [Value.oneCell']) (by have : maxLen = 9223372036854775807 := rfl; omega) (by omega) (by have := hB.size; simp; omega) ?_; intro v' w1 hown' hgrow _; obtain ⟨g', cap', rfl⟩ := ownsRow_succ hown'; obtain ⟨hv1, hv2, hr2, hk2, hb2⟩ := hv.appended (by decide) hrow hB.size (Nat.le_refl _) hown' hgrow; have hc1 := hv1.cell; have hf1 := hv1.frozen)
  have hX2 := Boxed.other ((hX.alloc _).kept hgrow (hX.not_row (by decide) hrow)) (show w.heap.size + 1 ≠ w.heap.size by omega) (Value.slice (some ⟨g', 0, none⟩) (pre.length + 1) cap')
  exact ⟨hk2.from _, ⟨hb2, hX2.trans hX.symm⟩, ⟨_, hv2, by simpa using hr2, by simp⟩, hX2, hB.trans hb2⟩
 case done =>
  rintro D ys W hD rfl ⟨⟨v, hv, hrow, hnil⟩, _, hB⟩ hK
  have hc := hv.cell
  gi_wp2
  refine ⟨by simp, .inl ⟨_, _, rfl, run_takeDeferred hK, ?_⟩⟩
  exact ⟨_, results_tmp rfl _ _ _, v, rfl, ownsRow_putObj hrow _ hK rfl, hnil, hB.trans (belowK_b (w := w) (Nat.le_refl _) W D _ _ (by simp at hD; omega) hK rfl rfl)⟩
 case stop =>
  rintro D c pre W _ _ h _
  exact h.elim
end Go.Proofs.YtpopbfagliagnaaGreat
namespace Go.Proofs.YtpopbfagliagnaaGreat
open Go.RowKit
set_option maxHeartbeats 400000 in
theorem adev_any {w : World} {A : AF} {n B : Nat} {m : Al} (h : AlAt w A n B m) :
  Calls Tryz.prog 175 #[valloc A] w fun e w' => e = .returned (vdev A.X.F) ∧ w = w' := by
 have c1 := h.c1
 clear h
 go_enter Tryz.func175, Tryz.ntmps175
 go_wp2_with fail
 go_ret
 exact ⟨rfl, rfl⟩
set_option maxHeartbeats 400000 in
theorem aused_any {w : World} {A : AF} {n B : Nat} {m : Al} (h : AlAt w A n B m) (x : Int) :
  Calls Tryz.prog 62 #[valloc A, .int .i64 x] w fun e w' => e = .returned (.bool (hasI m.used x)) ∧ w = w' := by
 have c3 := h.c3
 have HS := LH h.set
 clear h
 go_enter Tryz.func62, Tryz.ntmps62
 go_wp2_with fail
 refine (shas_any HS.out x).mono ?_
 rintro e w1 ⟨rfl, rfl⟩
 go_wp2_with fail
 go_ret
 exact ⟨rfl, rfl⟩
set_option maxHeartbeats 400000 in
theorem aobjects_any {w : World} {A : AF} {n B : Nat} {m : Al} (h : AlAt w A n B m) :
  Calls Tryz.prog 35 #[valloc A] w (ListPost w (onesL m.used)) := by
 have c3 := h.c3
 have HS := LH h.set
 have HP : Hid (∀ e w', ListPost w (onesL m.used) e w' → ListPost w (onesL m.used) e w') := LH (fun _ _ h => h)
 generalize hP : ListPost w (onesL m.used) = Post at *
 clear h
 go_enter Tryz.func35, Tryz.ntmps35
 go_wp2_with fail
 refine (slist_any HS.out).mono ?_
 rw [hP]
 rintro e w1 hp
 have HPp := LH hp
 rw [← hP] at hp
 obtain ⟨v, rfl, _⟩ := hp
 clear hP
 go_wp2_with fail
 exact HPp.out
theorem ListPost.own {w w' : World} {xs : List Nat} {e : Ending} (h : ListPost w xs e w') : ∃ a c, e = .returned (.slice a xs.length c) ∧ Cells w' a (xs.map vi) ∧ Below w.heap.size w w' ∧ (∀ b o s, a = some ⟨b, o, s⟩ → w.heap.size ≤ b) := by
 obtain ⟨v, rfl, ho, _, hb⟩ := h
 obtain ⟨a, c, rfl, _⟩ := owned_form ho
 exact ⟨a, c, rfl, Cells.owned ho, hb, fun b o s e => by subst e; exact owned_addr ho _ rfl⟩
end Go.Proofs.YtpopbfagliagnaaGreat
namespace Go.Proofs.YtpopbfagliagnaaGreat
open Go.RowKit Go.Maps
end Go.Proofs.YtpopbfagliagnaaGreat
namespace Go.Proofs.YtpopbfagliagnaaGreat
open Go.RowKit
structure MkF where
 p : Nat
 X : SetF
 Y : SetF
 s : Nat
 v : Value
section
variable {w w' : World} {A : AF} {K : MkF} {M : Mk}
end
section
variable {w w0 w1 w' : World} {A : AF} {n B : Nat} {m : Al} {K : MkF} {M M' : Mk}
end
section
variable {w : World} {A : AF} {K : MkF} {M : Mk}
end
section
variable {w : World} {A : AF} {n B : Nat} {m : Al} {K : MkF} {M : Mk}
end
end Go.Proofs.YtpopbfagliagnaaGreat
namespace Go.Proofs.YtpopbfagliagnaaGreat
section
variable {U : List Bool} {P : Nat → List Nat} {M : Mk}
section
variable {b : Bool} {M' : Mk}
end
end
end Go.Proofs.YtpopbfagliagnaaGreat
namespace Go.Proofs.YtpopbfagliagnaaGreat
open Go.RowKit
section
variable {w : World} {A : AF} {n B : Nat} {m : Al} {K : MkF} {M : Mk}
end
section
variable {U : List Bool} {P : Nat → List Nat} {M : Mk}
end
section
variable {w : World} {A : AF} {n B : Nat} {m : Al} {K : MkF} {M : Mk}
end
theorem dropI_set (l : List Bool) (a : Nat) : dropI l (a : Int) = l.set a false := by
 unfold dropI
 by_cases h : hasI l (a : Int) = true
 ·rw [if_pos h, Int.toNat_natCast]
 ·rw [if_neg h]
  rw [hasI_nat] at h
  symm
  refine List.ext_getElem? fun i => ?_
  by_cases e : a = i
  ·subst e
   by_cases hl : a < l.length
   ·rw [List.getElem?_set_self hl, List.getElem?_eq_getElem hl]
    rw [List.getD_eq_getElem?_getD, List.getElem?_eq_getElem hl] at h
    simpa using h
   ·rw [List.set_eq_of_length_le (by omega)]
  ·rw [List.getElem?_set_ne e]
section
variable {w : World} {A : AF} {n B : Nat} {m : Al} {K : MkF} {M : Mk}
end
end Go.Proofs.YtpopbfagliagnaaGreat
