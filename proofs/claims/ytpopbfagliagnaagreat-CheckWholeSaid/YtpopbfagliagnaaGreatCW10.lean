/- Parts of the proof, one behind the other: Fd, So, Fe, Ff, Df, Fg, Fh, Es, Yf, Zw, Qv. -/
import Derived.Test.YtpopbfagliagnaaGreatCW9
import Derived.Shelf.Sort.Plain
import Derived.Shelf.Slices.In.SortNone
import Derived.Test.YtpopbfagliagnaaGreatProg
import Derived.Shelf.SlicesE.DeleteFunc
import Derived.Lib.SliceRun
import Derived.BigQuiet
set_option linter.unusedVariables false
namespace Go.Proofs.YtpopbfagliagnaaGreat
open Go.RowKit Go.Maps
theorem Cells.touchM {w w' : World} {a : Option Addr} {vs : List Value} {L : List Nat} (h : Cells w a vs) (ht : Touch L w w') (hne : ∀ x, a = some x → x.block < w.heap.size → x.block ∉ L) : Cells w' a vs := by
 rcases h with h | ⟨b, off, rfl, h⟩
 ·exact .inl h
 ·exact .inr ⟨b, off, rfl, fun i v hi => cell_of_touch ht (show (⟨b, off + i, none⟩ : Addr).block ∉ L from hne ⟨b, off, none⟩ rfl (show b < w.heap.size from World.block_lt_of_cell? w ⟨b, off + i, none⟩ (h i v hi))) (h i v hi)⟩
theorem step_ca {w w1 : World} {f mb n n' : Nat} {R : List Nat} {V : Nat → Value} {S : FL} {m k : Nat} {v : Value} {xs : List Nat} (hi : FreeIn w f mb n V S) (hm : m < 4) (hk : k < 32)
  (h1 : f ∈ R) (h2 : mb ∈ R) (h3 : ∀ b ∈ R, b < w.heap.size) {M : Lit → Option Value} (hM : ∀ m k : Nat, m < 4 → k < 32 → (M (pairKey m k)).getD (.slice none 0 0) = V (slotI m k))
  (hb : ∀ b, b < w.heap.size → b ≠ mb → rowOf (V (slotI m k)) ≠ some b → w1.heap[b]? = w.heap[b]?) (hsz : w.heap.size ≤ w1.heap.size)
  (hw : VMap Tryz.prog 336 w1 mb n' (putL M (pairKey m k) (some v))) (hv : OwnI w1 v xs) (hrow : ∀ b, rowOf v = some b → rowOf (V (slotI m k)) = some b ∨ w.heap.size ≤ b) :
  Step1 w w1 f mb n' V S (S.setC m k xs) (slotI m k) v xs := by
 have hfl := h3 f h1
 have hsl : slotI m k < 160 := by unfold slotI; omega
 refine ⟨?_, ⟨_, hw, fun m' k' hm' hk' => ?_⟩, hv, hrow, fun b hbl h5 h6 h7 => hb b hbl h6 h7, hsz, fun j hj => ?_⟩
 ·rw [hb f hfl hi.ne (hi.neF _ hsl).1, hi.head]
  have : (List.range 32).map (fun j => if j = slotI m k then v else V j) = (List.range 32).map V := List.map_congr_left (fun j hj => by
   have := List.mem_range.1 hj
   rw [if_neg (by unfold slotI; omega)])
  rw [this]
 ·by_cases e : m' = m ∧ k' = k
  ·obtain ⟨rfl, rfl⟩ := e
   rw [putL_same, if_pos rfl]; rfl
  ·rw [putL_other _ (fun c => e (by
    have := key_inj (wf_small m' (by omega)) (wf_small k' (by omega)) (wf_small m (by omega)) (wf_small k (by omega)) c
    omega)), hM m' k' hm' hk', if_neg (by unfold slotI; omega)]
 ·unfold FL.at
  simp only [FL.setC_g, FL.setC_c]
  by_cases e : j < 32
  ·rw [if_pos e, if_pos e, if_neg (by unfold slotI; omega)]
  ·rw [if_neg e, if_neg e]
   by_cases e2 : (j - 32) / 32 = m ∧ (j - 32) % 32 = k
   ·rw [if_pos e2, if_pos (by unfold slotI; omega)]
   ·rw [if_neg e2, if_neg (by unfold slotI; omega)]
def PutI (w : World) (f mb n : Nat) (R : List Nat) (S : FL) (m k a : Nat) : Ending → World → Prop := fun e w' => e = .returned (.int .i64 (if S.has k a then 41 else 0)) ∧ FreeGo w w' f mb n R (S.put m k a)
set_option maxHeartbeats 4000000 in
set_option maxRecDepth 20000 in
theorem fput_any {w : World} {f mb n : Nat} {R : List Nat} {S : FL} (h : FreeAt w f mb n R S) (hL : S.upto 900000) (hn : n < 1000000000000) (m k a : Nat) (hm4 : m < 4) (hk : k < 32) :
  Calls Tryz.prog 172 #[vfree f, .int .i64 (m : Int), .int .i64 (k : Int), .int .i64 (a : Int)] w (PutI w f mb (n + 2) R S m k a) := by
 have HMem := LH (Mem.one w #[.int .i64 (m : Int), .int .i64 (k : Int)] 336)
 have HF0 := LH (h.below HMem.out.below)
 have HF := LH h
 have HHas := LH (fhas_any h (hL.mono (by omega)) k a hk)
 have HRlt := LH h.mem
 have HUp := LH hL
 have HP : Hid (∀ x w', x = (if S.has k a then 41 else 0) → FreeGo w w' f mb (n + 2) R (S.put m k a) → PutI w f mb (n + 2) R S m k a (.returned (.int .i64 x)) w') := LH (fun x w' h1 h2 => by subst h1; exact ⟨rfl, h2⟩)
 generalize PutI w f mb (n + 2) R S m k a = Post at *
 clear h hL
 go_enter Tryz.func172, Tryz.ntmps172
 go_wp2_with fail
 refine (fright_any m k hm4 hk _).mono ?_
 rintro e w1 ⟨rfl, rfl⟩
 go_wp2_with fail
 refine HHas.out.mono ?_
 rintro e w1 ⟨rfl, rfl⟩
 cases hh : S.has k a with
 | true =>
  have HE : Hid (41 = (if S.has k a then (41 : Int) else 0) ∧ FreeGo w w f mb (n + 2) R (S.put m k a)) := LH ⟨by rw [hh]; rfl, by unfold FL.put; rw [hh]; exact (FreeGo.refl HF.out).mono (by omega)⟩
  clear hh
  go_wp2_with fail
  exact HP.out _ _ HE.out.1 HE.out.2
 | false =>
 have HE0 : Hid (0 = (if S.has k a then (41 : Int) else 0)) := LH (by rw [hh]; rfl)
 obtain ⟨T, hT⟩ : ∃ T, T = S.c m k ++ [a] := ⟨_, rfl⟩
 have HPut : Hid (S.put m k a = if 8 < T.length then (S.setG k (S.g k ++ T.take (T.length / 2))).setC m k (T.drop (T.length / 2)) else S.setC m k T) := LH (by unfold FL.put; rw [hh, hT]; rfl)
 have HT := LH hT
 clear hh hT
 go_upto_region 6 with fail
 have HW0 := LH (below_alloc w (Obj.cells #[.int .i64 (m : Int), .int .i64 (k : Int)] 336))
 generalize w.alloc _ = w0 at *
 obtain ⟨q, hq⟩ : ∃ q, q = w.heap.size := ⟨_, rfl⟩
 rw [← hq] at HMem HRlt ⊢
 have HQ := LH hq
 clear hq
 obtain ⟨V, hfv⟩ := HF0.out.v
 have HFV := LH hfv
 clear hfv
 obtain ⟨sl, hsl⟩ : ∃ sl, sl = slotI m k := ⟨_, rfl⟩
 have hsl160 : Hid (sl < 160 ∧ 32 ≤ sl) := LH (by rw [hsl]; unfold slotI; omega)
 have HSl := LH hsl
 have HLs : Hid ((S.c m k).length ≤ 900000) := LH (by have := HUp.out (slotI m k) (by unfold slotI; omega); rwa [S.at_c m hk] at this)
 have HLg : Hid ((S.g k).length ≤ 900000) := LH (by have := HUp.out k (by omega); rwa [S.at_g hk] at this)
 have HOs : Hid (OwnI w0 (V sl) (S.c m k)) := LH (by have := HFV.out.inn.rows (slotI m k) (by unfold slotI; omega); rwa [S.at_c m hk, ← hsl] at this)
 clear hsl
 have hkey := key_slot (m : Int) (k : Int) (wf_small m (by omega)) (wf_small k (by omega))
 have hqn : q ∉ mb :: (rowOf (V sl)).toList := fun hm => by
  rcases List.mem_cons.1 hm with e | e
  ·exact Nat.lt_irrefl _ (by have := HRlt.out mb HFV.out.mb; rw [← e] at this; exact this)
  ·exact Nat.lt_irrefl q (HRlt.out q (HFV.out.rows sl hsl160.out.1 q (by simpa using e)))
 have hfn : f ∉ mb :: (rowOf (V sl)).toList := fun hm => by
  rcases List.mem_cons.1 hm with e | e
  ·exact HFV.out.inn.ne e
  ·exact (HFV.out.inn.neF sl hsl160.out.1).1 (by simpa using e)
 have r0 := fun x => near_cell (L := mb :: (rowOf (V sl)).toList) (HMem.out.cell 0 0 rfl rfl) hqn x
 have r1 := fun x => near_cell (L := mb :: (rowOf (V sl)).toList) (HMem.out.cell 0 1 rfl rfl) hqn x
 have r2 := fun x => near_cell (L := mb :: (rowOf (V sl)).toList) HFV.out.inn.m hfn x
 have hC1 : ∃ x : Near (mb :: (rowOf (V sl)).toList) w0, w0.drew = x.val := near_of (Touch.ofBelow (later_below (later_drew w0)))
 have HD0 : Hid (Below w0.heap.size w0 w0.drew) := LH (later_below (later_drew w0))
 clear hqn hfn
 refine wp_region_seg (C := fun w' => ∃ x : Near (mb :: (rowOf (V sl)).toList) w0, w' = x.val) [.fl [0, 1, 2, 3, 4, 5], .sq [6] true, .sq [7] false, .fl [8, 10], .sq [9] true, .sq [11] false] (by kernel_rfl) (by kernel_rfl) (by intro c a d v w h; cases d <;> exact h) ?_
 simp only [segs, picks, List.getElem?_cons_succ, List.getElem?_cons_zero]
 refine wpSeg_fl hC1 ?_
 repeat (first | go_big_quiet_step (fail) | quiet_step (fail))
 refine wpQuiet_nil ?_
 clear r0 r1 r2
 generalize w0.drew = wd at *
 refine wpSeg_sq (fun K hK => ?_)
 go_wp2_with fail
 have hbn := below_alloc wd (.cells #[.int .i64 (a : Int)] 3)
 have HB2 : Hid (Below w0.heap.size w0 (wd.alloc (.cells #[.int .i64 (a : Int)] 3))) := LH (HD0.out.trans (hbn.mono HD0.out.size))
 have hC2 : ∃ x : Near (mb :: (rowOf (V sl)).toList) w0, wd.alloc (.cells #[.int .i64 (a : Int)] 3) = x.val := near_of (Touch.ofBelow HB2.out)
 have HC2 : Hid (Cells (wd.alloc (.cells #[.int .i64 (a : Int)] 3)) (some ⟨wd.heap.size, 0, none⟩) ([a].map vi)) := LH (RowAt.cells ⟨_, heap_alloc_new _ _, [], rfl⟩)
 have HQa : Hid (w0.heap.size ≤ wd.heap.size) := LH HD0.out.size
 have HQa2 : Hid (wd.heap.size < (wd.alloc (.cells #[.int .i64 (a : Int)] 3)).heap.size) := LH (by simp)
 clear hbn
 go_wp2_with fail
 refine hK _ _ (fun _ => hC2) ?_
 clear hK K
 obtain ⟨qa, hqa⟩ : ∃ qa, qa = wd.heap.size := ⟨_, rfl⟩
 rw [← hqa] at HC2 HQa HQa2 ⊢
 clear hqa
 generalize wd.alloc _ = we at *
 have HFe := LH (HFV.out.below HB2.out)
 obtain ⟨M, hm, hv⟩ := HFe.out.inn.map
 have HM := LH hm
 have HV := LH hv
 have HVi : Hid ((M (pairKey m k)).getD (.slice none 0 0) = V sl) := LH (by rw [HSl.out]; exact hv m k hm4 hk)
 have HNm : Hid (n < maxLen) := LH (by unfold maxLen; omega)
 clear hm hv
 refine wpSeg_sq (fun K hK => ?_)
 go_wp2_with (refine wpList_ventry rfl _ _ 332 rfl 336 47 keyed_slot Tryz.underlying332 _ zero_ints mb n M rfl HM.out HNm.out _ _ rfl hkey ?_; intro w3 st hp hg; have HPd := LH hp; have HG3 := LH hg; clear hp hg; rw [HVi.out])
 have HT3 : Hid (Touch (mb :: (rowOf (V sl)).toList) w0 w3) := LH ((Touch.ofBelow HB2.out).trans ((grown_touchO HG3.out).wide (by simp)))
 have hC3 := near_of HT3.out
 go_wp2_with fail
 refine hK _ _ (fun h => nomatch h) ?_
 clear hK K
 refine wpSeg_fl hC3 ?_
 repeat (first | go_big_quiet_step (fail) | quiet_step (fail))
 refine wpQuiet_nil ?_
 have hmbn : rowOf (V sl) ≠ some mb := (HFV.out.inn.neF sl hsl160.out.1).2
 have HO3 : Hid (OwnI w3 (V sl) (S.c m k)) := LH (HOs.out.keep (fun b hb => ((HG3.out.block b (Nat.lt_of_lt_of_le (HOs.out.lt b hb) HB2.out.size) (fun e => hmbn (by rw [hb]; exact e))).trans (HB2.out.block b (HOs.out.lt b hb)))))
 have HC3 : Hid (Cells w3 (some ⟨qa, 0, none⟩) ([a].map vi)) := LH (Cells.touchM HC2.out (grown_touchO HG3.out) (fun y hy _ hm => by
  cases hy
  have h1 := HFV.out.lt mb HFV.out.mb
  have h2 := HQa.out
  simp at hm
  omega))
 have HN1 : Hid ((S.c m k).length + 1 ≤ 1000000000000) := LH (by have := HLs.out; omega)
 refine wpSeg_sq (fun K hK => ?_)
 go_wp2_with (refine wpList_append_ownI (m := 1) HO3.out HC3.out rfl HN1.out rfl rfl rfl rfl ?_; intro v' w4 ho hg hr; have HO4 := LH ho; have HG4 := LH hg; have HR4 := LH hr; clear ho hg hr)
 have HT4 : Hid (Touch (mb :: (rowOf (V sl)).toList) w0 w4) := LH (HT3.out.trans ((grown_touchO HG4.out).wide (fun b hb => List.mem_cons_of_mem _ hb)))
 have hC4 := near_of HT4.out
 go_wp2_with fail
 refine hK _ _ (fun _ => hC4) ?_
 clear hK K
 have HPd4 : Hid (VPend Tryz.prog 336 332 w4 mb n M (pairKey m k) st) := LH (HPd.out.block (HG4.out.block mb (Nat.lt_of_lt_of_le (Nat.lt_of_lt_of_le (HFV.out.lt mb HFV.out.mb) HB2.out.size) HG3.out.size) (fun e => hmbn (e.symm))))
 refine wpSeg_last ?_
 go_wp2_with (refine wpList_ventryStore rfl _ _ _ 332 rfl 336 mb n M (pairKey m k) st v' rfl rfl rfl HPd4.out ?_; intro w5 hm5 hg5; have HM5 := LH hm5; have HG5 := LH hg5; clear hm5 hg5)
 have HB03 : Hid (∀ b, b < w0.heap.size → b ≠ mb → rowOf (V sl) ≠ some b → w5.heap[b]? = w0.heap[b]?) := LH (fun b hb h1 h2 => (HG5.out.block b (Nat.lt_of_lt_of_le hb HT4.out.size) (fun e => h1 (Option.some.inj e.symm).symm)).trans (HT4.out.block b hb (fun hm => by
  rcases List.mem_cons.1 hm with e | e
  ·exact h1 e
  ·exact h2 (by simpa using e))))
 have HO5 : Hid (OwnI w5 v' (S.c m k ++ [a])) := LH (HO4.out.keep (fun b hb => HG5.out.block b (HO4.out.lt b hb) (fun e => by
  rcases HR4.out b hb with c | c
  ·exact hmbn (by rw [c]; exact e)
  ·have h1 := Option.some.inj e
   have h2 := HFV.out.lt mb HFV.out.mb
   have h3 := HB2.out.size
   have h4 := HG3.out.size
   omega)))
 have hst := step_ca (v := v') (xs := S.c m k ++ [a]) HFV.out.inn hm4 hk HFV.out.f HFV.out.mb HFV.out.lt HV.out (fun b hb h1 h2 => HB03.out b hb h1 (by rw [HSl.out]; exact h2)) (Nat.le_trans HT4.out.size HG5.out.size) HM5.out HO5.out (fun b hb => by
  rcases HR4.out b hb with c | c
  ·exact .inl (by rw [← HSl.out]; exact c)
  ·exact .inr (by rw [c]; exact Nat.le_trans HB2.out.size HG3.out.size))
 have hos : w5.os = w0.os ∧ w5.tape = w0.tape ∧ w5.output = w0.output := ⟨HG5.out.os.trans HT4.out.os, HG5.out.tape.trans HT4.out.tape, HG5.out.output.trans HT4.out.output⟩
 rw [← HT.out] at hst
 have HFV5 := LH (HFV.out.step (by rw [← HSl.out]; exact hsl160.out.1) hst)
 have HT5 := LH (hst.touch HFV.out (by rw [← HSl.out]; exact hsl160.out.1) hos)
 have HGo5 : Hid (FreeGo w0 w5 f mb (n + 1) R (S.setC m k T)) := LH (hst.go HFV.out.inn (by rw [← HSl.out]; exact hsl160.out.1) HFV.out.f HFV.out.mb HFV.out.lt HFV.out.rows hos)
 have HRow5 : Hid (RowAt w5 q 336 [.int .i64 (m : Int), .int .i64 (k : Int)]) := LH ((HMem.out.at 0 rfl).keep (HB03.out q (HMem.out.glt 0 rfl) (fun e => Nat.lt_irrefl q (by have := HRlt.out mb HFV.out.mb; rw [← e] at this; exact this)) (fun e => Nat.lt_irrefl q (HRlt.out q (HFV.out.rows sl hsl160.out.1 q e)))))
 have HQl := LH (HMem.out.glt 0 rfl)
 obtain ⟨ao, co, eo, hco, hol, _, hon⟩ := HO5.out.cells2
 rw [← HT.out] at eo hco hol
 obtain ⟨V5, hV5⟩ : ∃ V5, V5 = fun j => if j = slotI m k then v' else V j := ⟨_, rfl⟩
 rw [← hV5] at HFV5
 obtain ⟨lo, hlo⟩ : ∃ lo, lo = T.length := ⟨_, rfl⟩
 rw [← hlo] at eo hol
 have HVo : Hid (V5 (slotI m k) = .slice ao lo co) := LH (by rw [hV5]; dsimp only; rw [if_pos rfl]; exact eo)
 have HVg : Hid (V5 k = V k) := LH (by rw [hV5]; dsimp only; rw [if_neg (by have := HSl.out; have := hsl160.out.2; omega)])
 have HLo := LH hlo
 have HTl : Hid (T.length ≤ 900001) := LH (by rw [HT.out]; simp; exact HLs.out)
 clear hst hos hco HC2 HM HVi HB2 HC3 HPd HG3 HO3 HG4 HO4 HPd4 HG5 HM5 hC1 hC2 hC3 hC4 HV hmbn HR4 HOs HQa HQa2 eo hV5 hlo
 go_upto_region 7 with fail
 have r0 := fun x => later_cell (HRow5.out.cell (i := 0) rfl) x
 have r1 := fun x => later_cell (HRow5.out.cell (i := 1) rfl) x
 have r2 := fun x => later_cell HFV5.out.inn.m x
 refine wp_region_seg (C := fun w' => ∃ x : Later (w5), w' = x.val) [.fl [0, 1, 2, 3, 4], .sq [5, 6] false] (by kernel_rfl) (by kernel_rfl) (by intro c a d v w h; cases d <;> exact h) ?_
 simp only [segs, picks, List.getElem?_cons_succ, List.getElem?_cons_zero]
 have hC1 := later_drew (w5)
 refine wpSeg_fl hC1 ?_
 repeat (first | go_big_quiet_step (fail) | quiet_step (fail))
 refine wpQuiet_nil ?_
 clear r0 r1 r2
 have HD6 : Hid (Below w5.heap.size w5 w5.drew) := LH (later_below hC1)
 generalize w5.drew = w6 at *
 have HFV6 := LH (HFV5.out.below HD6.out)
 obtain ⟨M, hm, hv⟩ := HFV6.out.inn.map
 have HM := LH hm
 have HVi : Hid ((M (pairKey m k)).getD (.slice none 0 0) = .slice ao lo co) := LH ((hv m k hm4 hk).trans HVo.out)
 have HRow6 := LH (HRow5.out.keep (HD6.out.block q HRow5.out.lt))
 clear hm hv
 by_cases h8 : 8 < lo
 case neg =>
  have HFin : Hid (FreeGo w w6 f mb (n + 2) R (S.put m k a)) := LH (by
   have e : S.put m k a = S.setC m k T := by rw [HPut.out, if_neg (by have := HLo.out; omega)]
   rw [e]
   exact ((HGo5.out.later HD6.out).mono (by omega)).own HQ.out HW0.out)
  have h8' : ¬ (8 : Int) < (lo : Int) := by omega
  clear h8
  refine wpSeg_last ?_
  go_wp2_with (refine wpList_vlook rfl _ _ 332 rfl 336 47 keyed_slot Tryz.underlying332 _ (zero_ints _) mb (n + 1) M rfl HM.out _ _ rfl hkey ?_; rw [HVi.out])
  exact HP.out _ _ HE0.out HFin.out
 case pos =>
 have h8' : (8 : Int) < (lo : Int) := by omega
 obtain ⟨hf, hhf⟩ : ∃ hf, hf = lo / 2 := ⟨_, rfl⟩
 have hw2 : wrap64 ((lo : Int) / 2) = (hf : Int) := by
  have h1 := HTl.out
  have h2 := HLo.out
  rw [Go.IntWalk.wrap64_in _ (by omega)]; omega
 have hfl : hf ≤ lo := by omega
 have HHf := LH hhf
 clear hhf
 refine wpSeg_last ?_
 go_upto_region 10 with (refine wpList_vlook rfl _ _ 332 rfl 336 47 keyed_slot Tryz.underlying332 _ (zero_ints _) mb (n + 1) M rfl HM.out _ _ rfl hkey ?_; rw [HVi.out])
 have HOo : Hid (OwnI w6 (.slice ao lo co) T) := LH (by
  have := HFV6.out.inn.rows (slotI m k) (by unfold slotI; omega)
  rw [FL.at_c _ m hk, FL.setC_c, if_pos ⟨rfl, rfl⟩, HVo.out] at this
  exact this)
 have HOg : Hid (OwnI w6 (V k) (S.g k)) := LH (by
  have := HFV6.out.inn.rows k (by omega)
  rw [FL.at_g _ hk, FL.setC_g, HVg.out] at this
  exact this)
 have ck := HFV6.out.inn.g hk
 rw [HVg.out] at ck
 have hfn : f ∉ (rowOf (V k)).toList := fun hm => (HFV.out.inn.neF k (by omega)).1 (by simpa using hm)
 have r0 := fun x => near_cell (L := (rowOf (V k)).toList) ck hfn x
 have hC1 : ∃ x : Near (rowOf (V k)).toList w6, w6.drew = x.val := near_of (Touch.ofBelow (later_below (later_drew w6)))
 have HD7 : Hid (Below w6.heap.size w6 w6.drew) := LH (later_below (later_drew w6))
 clear ck hfn
 refine wp_region_seg (C := fun w' => ∃ x : Near (rowOf (V k)).toList w6, w' = x.val) [.fl [0, 1, 2, 3, 4, 5, 6, 7, 8, 9, 10, 12, 13], .sq [11] true, .sq [14, 15] false] (by kernel_rfl) (by kernel_rfl) (by intro c a d v w h; cases d <;> exact h) ?_
 simp only [segs, picks, List.getElem?_cons_succ, List.getElem?_cons_zero]
 refine wpSeg_fl hC1 ?_
 repeat (first | (refine wpQuiet_slice_to el_int (ad := ao) (n := lo) (cap := co) hf rfl hfl hol rfl rfl rfl rfl ?_) | go_big_quiet_step (fail) | quiet_step (fail))
 refine wpQuiet_nil ?_
 clear r0
 generalize w6.drew = w7 at *
 have HOg7 : Hid (OwnI w7 (V k) (S.g k)) := LH (HOg.out.keep (fun b hb => HD7.out.block b (HOg.out.lt b hb)))
 have HCh : Hid (Cells w7 ao ((T.take hf).map vi)) := LH (by
  obtain ⟨a', c', e', hc', _⟩ := (HOo.out.keep (fun b hb => HD7.out.block b (HOo.out.lt b hb))).cells
  injection e' with e1 _ _
  rw [e1, List.map_take]
  exact hc'.take hf)
 have HTk : Hid ((T.take hf).length = hf) := LH (by rw [List.length_take]; have := HLo.out; omega)
 have HN2 : Hid ((S.g k).length + hf ≤ 1000000000000) := LH (by have := HLg.out; have := HTl.out; have := HLo.out; omega)
 refine wpSeg_sq (fun K hK => ?_)
 go_wp2_with (refine wpList_append_ownI (m := hf) HOg7.out HCh.out HTk.out HN2.out rfl rfl rfl rfl ?_; intro v8 w8 ho hg hr; have HO8 := LH ho; have HG8 := LH hg; have HR8 := LH hr; clear ho hg hr)
 have hC2 := near_of ((Touch.ofBelow HD7.out).trans (grown_touchO HG8.out))
 go_wp2_with fail
 refine hK _ _ (fun _ => hC2) ?_
 clear hK K
 have hst := step_g HFV6.out.inn hk HFV6.out.f HFV6.out.mb HFV6.out.lt HD7.out (by rw [HVg.out]; exact HG8.out) HO8.out (fun b hb => by
  rcases HR8.out b hb with c | c
  ·exact .inl (by rw [HVg.out]; exact c)
  ·exact .inr (by rw [c]; exact HD7.out.size))
 have hos : (w8.setCell ⟨f, k, none⟩ v8).os = w6.os ∧ (w8.setCell ⟨f, k, none⟩ v8).tape = w6.tape ∧ (w8.setCell ⟨f, k, none⟩ v8).output = w6.output := ⟨HG8.out.os.trans HD7.out.os, HG8.out.tape.trans HD7.out.tape, HG8.out.output.trans HD7.out.output⟩
 have HFV9 := LH (HFV6.out.step (by omega) hst)
 have HT9 := LH (hst.touch HFV6.out (by omega) hos)
 have HF1 : Hid (w8.heap[f]? = some (.cells ((List.range 32).map V5 ++ [Value.map (some mb)]).toArray 334 (0, 0))) := LH (by
  have := (HG8.out.block f (Nat.lt_of_lt_of_le (HFV6.out.lt f HFV6.out.f) HD7.out.size) (fun e => (HFV.out.inn.neF k (by omega)).1 e.symm)).trans (HD7.out.block f (HFV6.out.lt f HFV6.out.f))
  exact this.trans HFV6.out.inn.head)
 have fr : w8.frozen? ⟨f, k, none⟩ = false := frozen_of_row _ _ _ _ _ HF1.out
 have ck1 : w8.cell? ⟨f, k, none⟩ = some (V k) := (cell_of_row _ _ k _ _ _ HF1.out).trans ((HFV6.out.inn.lt hk).trans (congrArg some HVg.out))
 have HRow9 : Hid (RowAt (w8.setCell ⟨f, k, none⟩ v8) q 336 [.int .i64 (m : Int), .int .i64 (k : Int)]) := LH (HRow6.out.keep (HT9.out.1.block q HRow6.out.lt (fun hm => by
  rcases HT5.out.2 q hm with c | c
  ·exact Nat.lt_irrefl q (HRlt.out q c)
  ·exact absurd HQl.out (Nat.not_lt.2 c))))
 have HOo9 : Hid (OwnI (w8.setCell ⟨f, k, none⟩ v8) (.slice ao lo co) T) := LH (by
  have := HFV9.out.inn.rows (slotI m k) (by unfold slotI; omega)
  rw [FL.at_c _ m hk, FL.setG_c, FL.setC_c] at this
  rw [if_neg (show ¬ slotI m k = k by unfold slotI; omega), HVo.out, if_pos (show m = m ∧ k = k from ⟨rfl, rfl⟩)] at this
  exact this)
 obtain ⟨a', c', e', _⟩ := HO8.out.cells
 obtain ⟨l', hl'⟩ : ∃ l', l' = (S.g k ++ T.take hf).length := ⟨_, rfl⟩
 rw [← hl'] at e'
 subst e'
 clear hst hl' hos
 refine wpSeg_last ?_
 go_wp2_with fail
 generalize w8.setCell _ _ = w9 at *
 have hho : hf ≤ co := by omega
 have hon2 := HOo9.out.cells2
 obtain ⟨a9, c9, e9, hc9, _, _, hn9⟩ := hon2
 have HLTo := HLo.out
 rw [← HLTo] at e9
 injection e9 with e91 _ e93
 subst e91
 subst e93
 have HCo9 := LH hc9
 have HNil := LH hn9
 clear hc9 hn9 HLTo
 have r0 := fun x => later_cell (HRow9.out.cell (i := 0) rfl) x
 have r1 := fun x => later_cell (HRow9.out.cell (i := 1) rfl) x
 have r2 := fun x => later_cell HFV9.out.inn.m x
 clear hC1 hC2
 refine wp_region_seg (C := fun w' => ∃ x : Later (w9), w' = x.val) [.fl [0, 1, 2, 3, 4, 5, 6, 7], .sq [8] true, .sq [9] false] (by kernel_rfl) (by kernel_rfl) (by intro c a d v w h; cases d <;> exact h) ?_
 simp only [segs, picks, List.getElem?_cons_succ, List.getElem?_cons_zero]
 have hC3 := later_drew (w9)
 refine wpSeg_fl hC3 ?_
 repeat (first | (refine wpQuiet_slice_from el_int (ad := ao) (n := lo) (cap := co) hf rfl hfl hol rfl rfl rfl rfl ?_) | go_big_quiet_step (fail) | quiet_step (fail))
 refine wpQuiet_nil ?_
 clear r0 r1 r2
 obtain ⟨sa, hsa⟩ : ∃ sa, sa = (if co = hf then ao else ao.map (·.add (hf * 1))) := ⟨_, rfl⟩
 rw [← hsa]
 obtain ⟨sn, hsn⟩ : ∃ sn, sn = lo - hf := ⟨_, rfl⟩
 rw [← hsn]
 obtain ⟨sc, hsc⟩ : ∃ sc, sc = co - hf := ⟨_, rfl⟩
 rw [← hsc]
 have HD10 : Hid (Below w9.heap.size w9 w9.drew) := LH (later_below hC3)
 have HCl : Hid (Calls Tryz.prog 221 #[.slice sa sn sc] w9.drew (NewI w9.drew (T.drop hf))) := LH (by
  refine cloneI_any _ _ _ _ (by rw [List.length_drop, ← HLo.out, hsn]) ?_ (by rw [List.length_drop, ← HLo.out]; have := HTl.out; have := HLo.out; omega) (fun h => ?_)
  ·rw [List.map_drop, hsa, Nat.mul_one]
   exact (HCo9.out.below HD10.out (Nat.le_refl _)).shift hf _ (fun e => by rw [List.length_map, ← HLo.out]; omega)
  ·by_cases e : co = hf
   ·omega
   ·rw [hsa, if_neg e] at h
    cases ao with
    | none => have := HNil.out rfl; omega
    | some d => cases h)
 generalize w9.drew = w10 at *
 clear hsa hsn hsc
 refine wpSeg_sq (fun K hK => ?_)
 go_wp2_with fail
 refine HCl.out.mono ?_
 rintro e w11 ⟨v11, rfl, ho3, hr3, hb3⟩
 have HO11 := LH ho3
 have HR11 := LH hr3
 have HB11 : Hid (Below w9.heap.size w9 w11) := LH (HD10.out.trans (hb3.mono HD10.out.size))
 have HW10 := LH HD10.out.size
 have hC4 := later_step hC3 hb3
 clear ho3 hr3 hb3
 go_wp2_with fail
 refine hK _ _ (fun _ => hC4) ?_
 clear hK K
 have HFV11 := LH (HFV9.out.below HB11.out)
 obtain ⟨M3, hm3, hv3⟩ := HFV11.out.inn.map
 have HM3 := LH hm3
 have HV3 := LH hv3
 have HNm2 : Hid (n + 1 < maxLen) := LH (by unfold maxLen; omega)
 clear hm3 hv3
 refine wpSeg_last ?_
 go_wp2_with (refine wpList_vstore rfl _ _ _ 332 rfl 336 47 keyed_slot Tryz.underlying332 mb (n + 1) M3 rfl HM3.out HNm2.out _ _ _ rfl rfl hkey ?_; intro w12 hm4' hg4; have HM12 := LH hm4'; have HG12 := LH hg4; clear hm4' hg4)
 have hst := step_c (o := some v11) HFV9.out.inn hm4 hk HFV9.out.f HFV9.out.mb HFV9.out.lt HV3.out HB11.out HM12.out rfl HG12.out HO11.out (fun b hb => .inr (Nat.le_trans HW10.out (HR11.out b hb)))
 have hos : w12.os = w9.os ∧ w12.tape = w9.tape ∧ w12.output = w9.output := ⟨HG12.out.os.trans HB11.out.os, HG12.out.tape.trans HB11.out.tape, HG12.out.output.trans HB11.out.output⟩
 have HFin : Hid (FreeGo w w12 f mb (n + 2) R (S.put m k a)) := LH (by
  have e : S.put m k a = ((S.setC m k T).setG k (S.g k ++ T.take hf)).setC m k (T.drop hf) := by
   rw [HPut.out, if_pos (by have := HLo.out; omega), ← HLo.out, ← HHf.out]
   refine FL.ext' (fun j => ?_) (fun i j => ?_)
   ·simp only [FL.setC_g, FL.setG_g]
   ·simp only [FL.setC_c, FL.setG_c]
    split <;> rfl
  rw [e]
  have h1 := FreeGo.more HT9.out.1 HT9.out.2 HFV9.out (by unfold slotI; omega) hst hos
  exact ((FreeGo.trans (HT5.out.1.later HD6.out) (fun b hb => HT5.out.2 b hb) h1).mono (by omega)).own HQ.out HW0.out)
 clear hst hos
 exact HP.out _ _ HE0.out HFin.out
end Go.Proofs.YtpopbfagliagnaaGreat
namespace Go.Proofs
open Go.Shelf
def Tryz.lays189_ren : Go.Shelf.Ren := ⟨fun | 189 => 222 | 125 => 283 | 257 => 282 | 128 => 328 | 129 => 329 | 294 => 319 | 295 => 320 | 296 => 321 | 297 => 322 | 298 => 323 | 299 => 324 | 216 => 325 | 300 => 326 | 301 => 327 | 328 => 344 | 329 => 345 | 330 => 346 | 331 => 347 | 332 => 348 | 215 => 349 | 343 => 360 | n => n, fun | 28 => 47 | 3 => 3 | 46 => 167 | 0 => 0 | 51 => 231 | 53 => 40 | 4 => 4 | 183 => 408 | 182 => 407 | 131 => 238 | 5 => 5 | 9 => 9 | 218 => 421 | 222 => 424 | 228 => 433 | 229 => 258 | n => n, fun | n => n⟩
theorem Tryz.lays189 : Go.Proofs.Lays.n189 Tryz.prog Tryz.lays189_ren := {
 mixed := by kernel_rfl
 f125 := Tryz.func283.trans (congrArg some (by kernel_rfl))
 f128 := Tryz.func328.trans (congrArg some (by kernel_rfl))
 f129 := Tryz.func329.trans (congrArg some (by kernel_rfl))
 f189 := Tryz.func222.trans (congrArg some (by kernel_rfl))
 f215 := Tryz.func349.trans (congrArg some (by kernel_rfl))
 f216 := Tryz.func325.trans (congrArg some (by kernel_rfl))
 f257 := Tryz.func282.trans (congrArg some (by kernel_rfl))
 f294 := Tryz.func319.trans (congrArg some (by kernel_rfl))
 f295 := Tryz.func320.trans (congrArg some (by kernel_rfl))
 f296 := Tryz.func321.trans (congrArg some (by kernel_rfl))
 f297 := Tryz.func322.trans (congrArg some (by kernel_rfl))
 f298 := Tryz.func323.trans (congrArg some (by kernel_rfl))
 f299 := Tryz.func324.trans (congrArg some (by kernel_rfl))
 f300 := Tryz.func326.trans (congrArg some (by kernel_rfl))
 f301 := Tryz.func327.trans (congrArg some (by kernel_rfl))
 f328 := Tryz.func344.trans (congrArg some (by kernel_rfl))
 f329 := Tryz.func345.trans (congrArg some (by kernel_rfl))
 f330 := Tryz.func346.trans (congrArg some (by kernel_rfl))
 f331 := Tryz.func347.trans (congrArg some (by kernel_rfl))
 f332 := Tryz.func348.trans (congrArg some (by kernel_rfl))
 f343 := Tryz.func360.trans (congrArg some (by kernel_rfl))
 t0 := Tryz.underlying0
 a0 := Tryz.isAgg0
 z0 := Tryz.sizeOf0
 v0 := Tryz.zeroValue0
 t3 := Tryz.underlying3
 a3 := Tryz.isAgg3
 z3 := Tryz.sizeOf3
 v3 := Tryz.zeroValue3
 t4 := Tryz.underlying4
 a4 := Tryz.isAgg4
 z4 := Tryz.sizeOf4
 v4 := Tryz.zeroValue4
 t5 := Tryz.underlying5
 a5 := Tryz.isAgg5
 z5 := Tryz.sizeOf5
 v5 := Tryz.zeroValue5
 t9 := Tryz.underlying9
 a9 := Tryz.isAgg9
 z9 := Tryz.sizeOf9
 v9 := Tryz.zeroValue9
 t28 := Tryz.underlying47
 a28 := Tryz.isAgg47
 z28 := Tryz.sizeOf47
 v28 := Tryz.zeroValue47
 t46 := Tryz.underlying167
 a46 := Tryz.isAgg167
 z46 := Tryz.sizeOf167
 v46 := Tryz.zeroValue167
 t51 := Tryz.underlying231
 a51 := Tryz.isAgg231
 z51 := Tryz.sizeOf231
 v51 := Tryz.zeroValue231
 t53 := Tryz.underlying40
 a53 := Tryz.isAgg40
 z53 := Tryz.sizeOf40
 v53 := Tryz.zeroValue40
 t131 := Tryz.underlying238
 a131 := Tryz.isAgg238
 z131 := Tryz.sizeOf238
 v131 := Tryz.zeroValue238
 t182 := Tryz.underlying407
 a182 := Tryz.isAgg407
 z182 := Tryz.sizeOf407
 v182 := Tryz.zeroValue407
 t183 := Tryz.underlying408
 a183 := Tryz.isAgg408
 z183 := Tryz.sizeOf408
 v183 := Tryz.zeroValue408
 t218 := Tryz.underlying421
 a218 := Tryz.isAgg421
 z218 := Tryz.sizeOf421
 v218 := Tryz.zeroValue421
 t222 := Tryz.underlying424
 a222 := Tryz.isAgg424
 z222 := Tryz.sizeOf424
 v222 := Tryz.zeroValue424
 t228 := Tryz.underlying433
 a228 := Tryz.isAgg433
 z228 := Tryz.sizeOf433
 v228 := Tryz.zeroValue433
 t229 := Tryz.underlying258
 a229 := Tryz.isAgg258
 z229 := Tryz.sizeOf258
 v229 := Tryz.zeroValue258 }
end Go.Proofs
namespace Go.Proofs.YtpopbfagliagnaaGreat
open Go.RowKit Go.Maps Go.Shelf Go.Sort
theorem putCells_front (cur : Array Value) (d : Array Int) (h : d.size ≤ cur.size) : (putCells (Value.int .i64) 0 d cur).toList = d.toList.map (Value.int .i64) ++ cur.toList.drop d.size := by
 apply List.ext_getElem?
 intro k
 unfold putCells
 rw [Array.getElem?_toList, Array.getElem?_mapIdx]
 by_cases hk : k < d.size
 ·rw [List.getElem?_append_left (by simpa using hk), List.getElem?_map, Array.getElem?_toList, Array.getElem?_eq_getElem hk, Array.getElem?_eq_getElem (show k < cur.size by omega)]
  simp [hk]
 ·rw [List.getElem?_append_right (by simpa using hk), List.getElem?_drop]
  have e : d.size + (k - (d.toList.map (Value.int .i64)).length) = k := by simp; omega
  rw [e, Array.getElem?_toList]
  cases cur[k]? with
  | none => rfl
  | some x => simp [hk]
theorem putRow_heap {w : World} {g : Nat} {cur : Array Value} {e : TypeId} {fr : Nat × Nat} (hg : w.heap[g]? = some (.cells cur e fr)) (d : Array Int) (q : Nat) :
  (putRow (Value.int .i64) (Sort.ahead w q) g 0 d).heap[g]? = some (.cells (putCells (Value.int .i64) 0 d cur) e fr) := by
 unfold putRow mapBlock
 simp [Array.getElem?_modify, hg, onCells]
theorem putRow_grown (w : World) (g : Nat) (d : Array Int) (q : Nat) : w.grownBy (putRow (Value.int .i64) (Sort.ahead w q) g 0 d) (some g) := by
 refine ⟨rfl, rfl, rfl, by simp [putRow, mapBlock], fun k hk hne => ?_⟩
 have : ¬ g = k := fun e => hne (by rw [e])
 simp [putRow, mapBlock, Array.getElem?_modify, this]
theorem grow_grown (w : World) (os : Array Obj) : w.grownBy (grow w os) none :=
 ⟨rfl, rfl, rfl, by simp [grow], fun k hk _ => heap_grow_old w os hk⟩
theorem row_put {w : World} {g cap : Nat} {cur : Array Value} (hg : w.heap[g]? = some (.cells cur 3 (0, 0))) (hc : cur.size = cap) (h2 : cap ≤ maxLen) (d : Array Int) (hd : d.size ≤ cap) (q : Nat) (ys : List Nat) (hy : d.toList.take ys.length = ys.map (fun x : Nat => (x : Int))) (hl : ys.length ≤ d.size) :
  OwnI (putRow (Value.int .i64) (Sort.ahead w q) g 0 d) (.slice (some ⟨g, 0, none⟩) ys.length cap) ys := by
 refine .inl ⟨by simp, .inr ⟨g, cap, _, rfl, Nat.zero_le _, putRow_heap hg d q, by omega, h2, by unfold putCells; simp [hc], ?_⟩⟩
 rw [putCells_front _ _ (by omega), Nat.mul_one, List.take_append_of_le_length (by simpa using hl), ← List.map_take, hy, List.map_map]
 rfl
theorem OwnI.row {w : World} {v : Value} {xs : List Nat} (h : OwnI w v xs) (hx : xs ≠ []) : ∃ g cap cur, v = .slice (some ⟨g, 0, none⟩) xs.length cap ∧ w.heap[g]? = some (.cells cur 3 (0, 0)) ∧ xs.length ≤ cap ∧ cap ≤ maxLen ∧ cur.size = cap ∧ rowOf v = some g ∧
  Go.Sort.Holds (Value.int .i64) w g 0 (xs.map (fun x : Nat => (x : Int))).toArray := by
 rcases h with h | ⟨a, _, h⟩
 ·rcases h.2 with ⟨_, h0⟩ | ⟨g, cap, cur, rfl, hb, hg, h1, h2, h3, h4⟩
  ·exact absurd (List.length_eq_zero_iff.1 h0) hx
  ·have hpos : 0 < xs.length := List.length_pos_iff.2 hx
   refine ⟨g, cap, cur, rfl, hg, h1, h2, by omega, ?_, fun j hj => ⟨?_, frozen_of_row _ _ _ _ _ hg⟩⟩
   ·show (if cap = 0 then none else some g) = some g
    rw [if_neg (by omega)]
   ·have hj' : j < xs.length := by simpa using hj
    rw [Nat.zero_add, cell_of_row _ _ j _ _ _ hg]
    have h5 := congrArg (fun l => l[j]?) h4
    rw [Nat.mul_one] at h5
    simp only [List.getElem?_take, if_pos hj', List.getElem?_map, List.getElem?_eq_getElem hj', Option.map_some] at h5
    rw [← Array.getElem?_toList, h5]
    simp [vi, hj']
 ·exact absurd h hx
theorem OwnI.none_val {w : World} {v : Value} (h : OwnI w v []) : ∃ p c, v = .slice p 0 c := by
 obtain ⟨a, c, e, _⟩ := h.cells
 exact ⟨a, c, e⟩
def SortedI (w : World) (v : Value) (xs : List Nat) : Ending → World → Prop := fun e w' => e = .returned (.tuple #[]) ∧ ∃ ys : List Nat, OwnI w' v ys ∧ ys.Pairwise (· ≤ ·) ∧ ys.Perm xs ∧ w.grownBy w' (rowOf v)
theorem sortI_any {w : World} {v : Value} {xs : List Nat} (h : OwnI w v xs) (hl : xs.length ≤ 1000000000) : Calls Tryz.prog 222 #[v] w (SortedI w v xs) := by
 by_cases hx : xs = []
 ·subst hx
  obtain ⟨p, c, rfl⟩ := h.none_val
  refine (Any.slices_Sort_int_none Tryz.lays189 p c w).mono ?_
  rintro e w' ⟨rfl, rfl⟩
  exact ⟨rfl, [], h, List.Pairwise.nil, List.Perm.refl _, grown_self _ _⟩
 ·obtain ⟨g, cap, cur, rfl, hg, h1, h2, h3, h4, hH⟩ := h.row hx
  have hc := Any.slices_Sort_int Tryz.lays189 g 0 cap (xs.map (fun x : Nat => (x : Int))) w hH (Array.getElem?_eq_some_iff.1 hg).1 (by rw [List.length_map]; omega)
  rw [List.length_map] at hc
  refine hc.mono ?_
  rintro e w' ⟨rfl, q, os, rfl⟩
  have hm : (xs.map (fun x : Nat => (x : Int))).mergeSort (fun x y => decide (x ≤ y)) = (xs.mergeSort (fun x y => decide (x ≤ y))).map (fun x : Nat => (x : Int)) := by
   rw [List.map_mergeSort (s := fun x y : Int => decide (x ≤ y)) (fun a _ b _ => by simp)]
  rw [hm]
  have hpm := List.mergeSort_perm xs (fun x y => decide (x ≤ y))
  have hlm : (xs.mergeSort (fun x y => decide (x ≤ y))).length = xs.length := hpm.length_eq
  have hso : (xs.mergeSort (fun x y => decide (x ≤ y))).Pairwise (· ≤ ·) := by
   have := List.pairwise_mergeSort (le := fun x y : Nat => decide (x ≤ y)) (fun a b c h1 h2 => by simp at *; omega) (fun a b => by simp; omega) xs
   exact this.imp (fun h => by simpa using h)
  have ho := row_put hg h3 h2 ((xs.mergeSort (fun x y => decide (x ≤ y))).map (fun x : Nat => (x : Int))).toArray (by rw [List.size_toArray, List.length_map, hlm]; exact h1) q (xs.mergeSort (fun x y => decide (x ≤ y))) (by rw [List.take_of_length_le (by simp)]) (by simp)
  rw [hlm] at ho
  have hgr := putRow_grown w g ((xs.mergeSort (fun x y => decide (x ≤ y))).map (fun x : Nat => (x : Int))).toArray q
  refine ⟨rfl, _, ?_, hso, hpm, ?_⟩
  ·exact ho.keep (fun b hb => heap_grow_old _ _ (ho.lt b hb))
  ·have hg2 := grow_grown (putRow (Value.int .i64) (Sort.ahead w q) g 0 ((xs.mergeSort (fun x y => decide (x ≤ y))).map (fun x : Nat => (x : Int))).toArray) os
   rw [h4]
   exact ⟨hg2.os.trans hgr.os, hg2.tape.trans hgr.tape, hg2.output.trans hgr.output, Nat.le_trans hgr.size hg2.size, fun k hk hne => (hg2.block k (Nat.lt_of_lt_of_le hk hgr.size) (by simp)).trans (hgr.block k hk hne)⟩
end Go.Proofs.YtpopbfagliagnaaGreat
namespace Go.Proofs.YtpopbfagliagnaaGreat
open Go.RowKit Go.Maps
def FL.allTo (S : FL) (k : Nat) : Nat → List Nat
 | 0 => S.g k
 | i + 1 => S.allTo k i ++ S.c i k
theorem FL.allTo_all (S : FL) (k : Nat) : S.allTo k 4 = S.all k := rfl
theorem FL.allTo_len {S : FL} {N k : Nat} (h : S.upto N) (hk : k < 32) : ∀ i, i ≤ 4 → (S.allTo k i).length ≤ (i + 1) * N
 | 0, _ => by
  have := h k (by omega)
  rw [S.at_g hk] at this
  simpa [FL.allTo] using this
 | i + 1, hi => by
  have h1 := FL.allTo_len h hk i (by omega)
  have h2 := h (slotI i k) (by unfold slotI; omega)
  rw [S.at_c i hk] at h2
  unfold FL.allTo
  rw [List.length_append, Nat.add_mul (i + 1) 1 N, Nat.one_mul]
  omega
def ListI (w : World) (S : FL) (k : Nat) : Ending → World → Prop := fun e w' => ∃ v ys, e = .returned v ∧ OwnI w' v ys ∧ ys.Pairwise (· ≤ ·) ∧ (∀ a, ys.count a = S.cnt k a) ∧ (∀ b, rowOf v = some b → w.heap.size ≤ b) ∧ Below w.heap.size w w'
set_option maxHeartbeats 4000000 in
set_option maxRecDepth 20000 in
theorem flist_any {w : World} {f mb n : Nat} {R : List Nat} {S : FL} (h : FreeAt w f mb n R S) (hL : S.upto 900000) (k : Nat) (hk : k < 32) :
  Calls Tryz.prog 126 #[vfree f, .int .i64 (k : Int)] w (ListI w S k) := by
 obtain ⟨V, hfv⟩ := h.v
 have HFV := LH hfv
 have HUp := LH hL
 have HP : Hid (∀ v ys w', OwnI w' v ys → ys.Pairwise (· ≤ ·) → ys.Perm (S.all k) → (∀ b, rowOf v = some b → w.heap.size ≤ b) → Below w.heap.size w w' → ListI w S k (.returned v) w') := LH (fun v ys w' h1 h2 h3 h4 h5 => ⟨v, ys, rfl, h1, h2, fun a => by rw [← S.all_count]; exact h3.count_eq a, h4, h5⟩)
 generalize ListI w S k = Post at *
 have hVk := HFV.out.inn.rows k (by omega)
 rw [S.at_g hk] at hVk
 obtain ⟨ag, cg, eg, hcg, _, _, hgn⟩ := hVk.cells2
 have HLg : Hid ((S.g k).length ≤ 900000) := LH (by have := HUp.out k (by omega); rwa [S.at_g hk] at this)
 have HCl := LH (cloneI_any ag _ cg (S.g k) rfl hcg (by have := HLg.out; omega) hgn)
 have ck := HFV.out.inn.g hk
 rw [eg] at ck
 have c32 := HFV.out.inn.m
 obtain ⟨lg, hlg⟩ : ∃ lg, lg = (S.g k).length := ⟨_, rfl⟩
 rw [← hlg] at ck HCl
 clear h hL hfv hVk hcg hgn eg hlg
 go_enter Tryz.func126, Tryz.ntmps126
 go_wp2_with fail
 refine (cright_any _ _).mono ?_
 rintro e w1 ⟨rfl, rfl⟩
 rw [decide_eq_true (show (0 : Int) ≤ (k : Int) ∧ (k : Int) < 32 by omega)]
 go_wp2_with fail
 refine HCl.out.mono ?_
 rintro e w1 ⟨v1, rfl, ho1, hr1, hb1⟩
 have HO1 := LH ho1
 have HR1 := LH hr1
 have HB1 := LH hb1
 clear ho1 hr1 hb1 ck c32
 go_wp2_with fail
 go_loopw [5, 17] (fun ov iv wr => ∃ i : Nat, i ≤ 4 ∧ iv = .int .i64 (i : Int) ∧ Hid (OwnI wr ov (S.allTo k i)) ∧ Hid (∀ b, rowOf ov = some b → w.heap.size ≤ b) ∧ Hid (Below w.heap.size w wr)) (fun _ iv _ => 4 - (intOf iv).toNat)
 case atStart => exact ⟨0, by omega, rfl, HO1, HR1, HB1⟩
 case round =>
  obtain ⟨i, hi4, rfl, HO, HR, HB⟩ := hrel
  by_cases hlt : i < 4
  case neg =>
   obtain rfl : i = 4 := by omega
   have HSo := LH (sortI_any HO.out (by have := FL.allTo_len HUp.out hk 4 (by omega); omega))
   go_wp2_with fail
   refine HSo.out.mono ?_
   rintro e w2 ⟨rfl, ys, ho, hs, hp, hg⟩
   have HFin := LH (HP.out _ ys w2 ho hs (by rw [← S.allTo_all]; exact hp) HR.out ⟨hg.os.trans HB.out.os, hg.tape.trans HB.out.tape, hg.output.trans HB.out.output, Nat.le_trans HB.out.size hg.size, fun b hb => (hg.block b (Nat.lt_of_lt_of_le hb HB.out.size) (fun e => by have := HR.out b e.symm; omega)).trans (HB.out.block b hb)⟩)
   clear ho hs hp hg
   go_wp2_with fail
   exact HFin.out
  have hi160 : slotI i k < 160 := by unfold slotI; omega
  have HFr := LH (HFV.out.below HB.out)
  obtain ⟨ac, cc, ec, hcc, _, _, _⟩ := (HFr.out.inn.rows (slotI i k) hi160).cells2
  rw [S.at_c i hk] at ec hcc
  obtain ⟨M, hm, hv⟩ := HFr.out.inn.map
  have HM := LH hm
  obtain ⟨lc, hlc⟩ : ∃ lc, lc = (S.c i k).length := ⟨_, rfl⟩
  rw [← hlc] at ec
  have HLc := LH hlc.symm
  have HVi := LH ((hv i k hlt hk).trans ec)
  have HCc := LH hcc
  have hkey := key_slot (i : Int) (k : Int) (wf_small i (by omega)) (wf_small k (by omega))
  have c32 := HFr.out.inn.m
  have HN1 : Hid ((S.allTo k i).length + lc ≤ 1000000000000) := LH (by
   have h1 := FL.allTo_len HUp.out hk i (by omega)
   have h2 := HUp.out (slotI i k) hi160
   rw [S.at_c i hk, ← hlc] at h2
   have : (i + 1) * 900000 ≤ 5 * 900000 := Nat.mul_le_mul_right _ (by omega)
   omega)
  clear hm hv ec hcc hlc
  go_wp2_with (first
   | (refine wpList_vlook rfl _ _ 332 rfl 336 47 keyed_slot Tryz.underlying332 _ (zero_ints _) mb n M rfl HM.out _ _ rfl hkey ?_; rw [HVi.out])
   | (at_builtin; refine wpList_append_newI (m := lc) (B := w.heap.size) HO.out (Below.refl _ _) HR.out HB.out.size HCc.out HLc.out HN1.out rfl rfl rfl rfl ?_; intro v' w2 ho hb hr; have HO2 := LH ho; have HB2 := LH hb; have HR2 := LH hr; clear ho hb hr))
  go_roundw
  case rel => exact ⟨i + 1, by omega, vint (by omega), HO2, HR2, LH (HB.out.trans HB2.out)⟩
  case measure => simp [intOf]; omega
set_option maxHeartbeats 1000000 in
theorem flen_any {w : World} {f mb n : Nat} {R : List Nat} {S : FL} (h : FreeAt w f mb n R S) (hL : S.upto 900000) (k : Nat) (hk : k < 32) :
  Calls Tryz.prog 304 #[vfree f, .int .i64 (k : Int)] w fun e w' => e = .returned (.int .i64 ((S.all k).length : Nat)) ∧ Below w.heap.size w w' := by
 have HL := LH (flist_any h hL k hk)
 have HP : Hid (∀ w', Below w.heap.size w w' → (fun e w' => e = Ending.returned (.int .i64 ((S.all k).length : Nat)) ∧ Below w.heap.size w w') (.returned (.int .i64 ((S.all k).length : Nat))) w') := LH (fun w' h => ⟨rfl, h⟩)
 have HN : Hid (∀ ys : List Nat, (∀ a, ys.count a = S.cnt k a) → ys.length = (S.all k).length) := LH (fun ys h => (List.perm_iff_count.2 (fun a => by rw [h, S.all_count])).length_eq)
 generalize (S.all k).length = N at *
 clear h hL
 go_enter Tryz.func304, Tryz.ntmps304
 go_wp2_with fail
 refine HL.out.mono ?_
 rintro e w1 ⟨v, ys, rfl, ho, hs, hc, hr, hb⟩
 obtain ⟨a, c, rfl, _⟩ := ho.cells
 rw [HN.out ys hc]
 have HB := LH hb
 clear ho hs hc hr hb
 go_wp2_with fail
 go_ret
 exact ⟨rfl, HB.out⟩
end Go.Proofs.YtpopbfagliagnaaGreat
namespace Go.Proofs
open Go.Shelf
def Tryz.delFn_ren : Go.Shelf.Ren := ⟨fun | 10 => 306 | 6 => 339 | n => n, fun | 22 => 47 | 23 => 3 | 25 => 142 | 3 => 3 | 4 => 4 | 0 => 0 | n => n, fun | n => n⟩
theorem Tryz.delFn : Go.Proofs.SlLaysH.n10 Tryz.prog Tryz.delFn_ren := {
 mixed := by kernel_rfl
 f6 := ⟨Tryz.f339.name, by decide, Tryz.func339.trans (congrArg some (by kernel_rfl))⟩
 f10 := ⟨Tryz.f306.name, by decide, Tryz.func306.trans (congrArg some (by kernel_rfl))⟩
 t0 := Tryz.underlying0
 a0 := Tryz.isAgg0
 z0 := Tryz.sizeOf0
 v0 := Tryz.zeroValue0
 t3 := Tryz.underlying3
 a3 := Tryz.isAgg3
 z3 := Tryz.sizeOf3
 v3 := Tryz.zeroValue3
 t4 := Tryz.underlying4
 a4 := Tryz.isAgg4
 z4 := Tryz.sizeOf4
 v4 := Tryz.zeroValue4
 t22 := Tryz.underlying47
 a22 := Tryz.isAgg47
 z22 := Tryz.sizeOf47
 v22 := Tryz.zeroValue47
 a23 := Tryz.isAgg3
 z23 := Tryz.sizeOf3
 t25 := Tryz.underlying142
 a25 := Tryz.isAgg142
 z25 := Tryz.sizeOf142
 v25 := Tryz.zeroValue142 }
end Go.Proofs
namespace Go.Proofs.YtpopbfagliagnaaGreat
open Go.RowKit Go.Maps Go.Shelf Go.Sort Go.Lib
def outside (lo hi : Nat) (xs : List Nat) : List Nat := xs.filter (fun a => !(decide (lo ≤ a) && decide (a < hi)))
theorem outside_len (lo hi : Nat) (xs : List Nat) : (outside lo hi xs).length ≤ xs.length := List.length_filter_le _ _
theorem gone_gives (lo hi : Nat) (x : Int) (q1 q2 : Nat) (W : World) (h1 : W.cell? ⟨q1, 0, none⟩ = some (.int .i64 (lo : Int))) (h2 : W.cell? ⟨q2, 0, none⟩ = some (.int .i64 (hi : Int))) :
  FnGives Tryz.prog 305 #[.pointer (some ⟨q1, 0, none⟩), .pointer (some ⟨q2, 0, none⟩)] #[.int .i64 x] (.bool (decide ((lo : Int) ≤ x) && decide (x < (hi : Int)))) W := by
 show Calls Tryz.prog 305 #[.int .i64 x, .pointer (some ⟨q1, 0, none⟩), .pointer (some ⟨q2, 0, none⟩)] W _
 by_cases c : (lo : Int) ≤ x
 ·go_enter Tryz.func305, Tryz.ntmps305
  go_wp2
  all_goals (go_ret; exact ⟨by simp_all, 0, rfl⟩)
 ·go_enter Tryz.func305, Tryz.ntmps305
  go_wp2
  all_goals (go_ret; exact ⟨by simp_all; intros; omega, 0, rfl⟩)
theorem indexNone (p : Option Addr) (c : Nat) (fv : Value) (w : World) : Calls Tryz.prog 339 #[.slice p 0 c, fv] w (Same1 (.int .i64 (-1)) w) := by
 go_enter Tryz.func339, Tryz.ntmps339
 go_wp2_with fail
 go_loopw [8] (fun iv wr => iv = .int .i64 0 ∧ Hid (wr = w)) (fun _ _ => 0)
 case atStart => exact ⟨rfl, LH rfl⟩
 case round =>
  obtain ⟨rfl, hw⟩ := hrel
  go_wp2_with fail
  go_ret
  exact ⟨rfl, hw.out.symm⟩
theorem deleteNone (p : Option Addr) (c : Nat) (fv : Value) (w : World) : Calls Tryz.prog 306 #[.slice p 0 c, fv] w (Same1 (.slice p 0 c) w) := by
 go_enter Tryz.func306, Tryz.ntmps306
 go_wp2_with fail
 refine (indexNone p c fv _).mono ?_
 rintro e w1 ⟨rfl, rfl⟩
 go_wp2_with fail
 go_ret
 exact ⟨rfl, rfl⟩
def StruckI (w : World) (v : Value) (lo hi : Nat) (xs : List Nat) : Ending → World → Prop := fun e w' => ∃ v', e = .returned v' ∧ OwnI w' v' (outside lo hi xs) ∧ rowOf v' = rowOf v ∧ w.grownBy w' (rowOf v)
theorem deleteI_any {w : World} {v : Value} {xs : List Nat} (h : OwnI w v xs) (hl : xs.length ≤ 1000000000) (lo hi q1 q2 : Nat) (h1 : w.cell? ⟨q1, 0, none⟩ = some (.int .i64 (lo : Int))) (h2 : w.cell? ⟨q2, 0, none⟩ = some (.int .i64 (hi : Int)))
  (n1 : rowOf v ≠ some q1) (n2 : rowOf v ≠ some q2) :
  Calls Tryz.prog 306 #[v, .func (.func 305) #[] #[.pointer (some ⟨q1, 0, none⟩), .pointer (some ⟨q2, 0, none⟩)]] w (StruckI w v lo hi xs) := by
 by_cases hx : xs = []
 ·subst hx
  obtain ⟨p, c, rfl⟩ := h.none_val
  refine (deleteNone p c _ w).mono ?_
  rintro e w' ⟨rfl, rfl⟩
  exact ⟨_, rfl, h, rfl, grown_self _ _⟩
 ·obtain ⟨g, cap, cur, rfl, hg, g1, g2, g3, g4, hH⟩ := h.row hx
  have hB1 : q1 < w.heap.size := World.block_lt_of_cell? _ _ h1
  have hB2 : q2 < w.heap.size := World.block_lt_of_cell? _ _ h2
  have k1 : q1 ≠ g := fun e => n1 (by rw [g4, e])
  have k2 : q2 ≠ g := fun e => n2 (by rw [g4, e])
  have hsz : (xs.map (fun x : Nat => (x : Int))).toArray.size = xs.length := by simp
  have eg : ∀ args w, (callFunc 305 args).run Tryz.prog w = .ok (.enter 305 args) w := enters_of Tryz.func305 (by kernel_rfl) rfl
  have hp : PredAt Tryz.prog 305 #[.pointer (some ⟨q1, 0, none⟩), .pointer (some ⟨q2, 0, none⟩)] (Value.int .i64) (fun x => decide ((lo : Int) ≤ x) && decide (x < (hi : Int))) w :=
   fun W x hb => gone_gives lo hi x q1 q2 W ((hb.cell (p := ⟨q1, 0, none⟩) hB1).trans h1) ((hb.cell (p := ⟨q2, 0, none⟩) hB2).trans h2)
  have hpo : PredOver Tryz.prog 305 #[.pointer (some ⟨q1, 0, none⟩), .pointer (some ⟨q2, 0, none⟩)] (Value.int .i64) (fun x => decide ((lo : Int) ≤ x) && decide (x < (hi : Int))) g 0 (xs.map (fun x : Nat => (x : Int))).toArray.size w :=
   fun n os dk x _ => gone_gives lo hi x q1 q2 _
    (by unfold sortWorld; rw [cell?_grow _ _ _ (by show q1 < (putRow _ _ _ _ _).heap.size; rw [size_putRow]; exact hB1), cell?_putRow_other _ _ g _ _ _ (Or.inl k1)]; exact h1)
    (by unfold sortWorld; rw [cell?_grow _ _ _ (by show q2 < (putRow _ _ _ _ _).heap.size; rw [size_putRow]; exact hB2), cell?_putRow_other _ _ g _ _ _ (Or.inl k2)]; exact h2)
  have hc := AnyE.slices_DeleteFunc Tryz.delFn (Value.int .i64) (fun _ => rfl) (fun x => decide ((lo : Int) ≤ x) && decide (x < (hi : Int))) 305 _ eg 0 Tryz.zeroValue3 g 0 cap _ w hp hpo hH (by rw [hsz]; omega) (by rw [hsz]; omega)
  rw [hsz] at hc
  refine hc.mono ?_
  rintro e w' ⟨rfl, q, rfl⟩
  have hf : ((xs.map (fun x : Nat => (x : Int))).toArray.toList.filter fun x => !(decide ((lo : Int) ≤ x) && decide (x < (hi : Int)))) = (outside lo hi xs).map (fun x : Nat => (x : Int)) := by
   unfold outside
   rw [List.filter_map]
   congr 1
   refine List.filter_congr fun x _ => ?_
   simp
  rw [hf, List.length_map]
  have hlo := outside_len lo hi xs
  have ho := row_put hg g3 g2 ((outside lo hi xs).map (fun x : Nat => (x : Int)) ++ List.replicate (xs.length - (outside lo hi xs).length) 0).toArray (by simp; omega) q (outside lo hi xs) (by simp) (by simp)
  refine ⟨_, rfl, ho, by rw [rowOf_cut (some ⟨g, 0, none⟩) _ xs.length cap], ?_⟩
  rw [g4]
  exact putRow_grown w g _ q
end Go.Proofs.YtpopbfagliagnaaGreat
namespace Go.Proofs.YtpopbfagliagnaaGreat
open Go.RowKit Go.Maps
def FL.rmTo (S : FL) (k lo hi i : Nat) : FL := ⟨fun j => if j = k then outside lo hi (S.g j) else S.g j, fun m j => if j = k ∧ m < i then outside lo hi (S.c m j) else S.c m j⟩
theorem FL.rmTo_zero (S : FL) (k lo hi : Nat) : S.rmTo k lo hi 0 = S.setG k (outside lo hi (S.g k)) := by
 refine FL.ext' (fun j => ?_) (fun m j => ?_)
 ·rw [FL.setG_g]
  show (if j = k then outside lo hi (S.g j) else S.g j) = _
  by_cases e : j = k
  ·subst e; simp
  ·simp [e]
 ·show (if j = k ∧ m < 0 then outside lo hi (S.c m j) else S.c m j) = _
  rw [if_neg (by omega)]; rfl
theorem FL.rmTo_succ (S : FL) (k lo hi i : Nat) : S.rmTo k lo hi (i + 1) = (S.rmTo k lo hi i).setC i k (outside lo hi ((S.rmTo k lo hi i).c i k)) := by
 refine FL.ext' (fun j => ?_) (fun m j => ?_)
 ·rw [FL.setC_g]; rfl
 ·rw [FL.setC_c]
  show (if j = k ∧ m < i + 1 then outside lo hi (S.c m j) else S.c m j) = if m = i ∧ j = k then outside lo hi (if k = k ∧ i < i then outside lo hi (S.c i k) else S.c i k) else (if j = k ∧ m < i then outside lo hi (S.c m j) else S.c m j)
  rw [if_neg (show ¬ (k = k ∧ i < i) by omega)]
  by_cases e : j = k
  ·subst e
   by_cases e2 : m = i
   ·subst e2; simp
   ·by_cases e3 : m < i
    ·rw [if_pos (by omega), if_neg (by omega), if_pos (by omega)]
    ·rw [if_neg (by omega), if_neg (by omega), if_neg (by omega)]
  ·simp [e]
theorem FL.rmTo_all (S : FL) (k lo hi : Nat) : S.rmTo k lo hi 4 = S.remove k lo hi := by
 refine FL.ext' (fun j => ?_) (fun m j => ?_)
 ·show (if j = k then outside lo hi (S.g j) else S.g j) = if j = k then (S.g k).filter _ else S.g j
  by_cases e : j = k
  ·subst e; rfl
  ·simp [e]
 ·show (if j = k ∧ m < 4 then outside lo hi (S.c m j) else S.c m j) = if j = k ∧ m < 4 then (S.c m k).filter _ else S.c m j
  by_cases e : j = k
  ·subst e; rfl
  ·simp [e]
theorem FL.rmTo_upto {S : FL} {N : Nat} (h : S.upto N) (k lo hi i : Nat) : (S.rmTo k lo hi i).upto N := by
 intro j hj
 have := h j hj
 unfold FL.at at this ⊢
 show (if j < 32 then (if j = k then outside lo hi (S.g j) else S.g j) else (if (j - 32) % 32 = k ∧ (j - 32) / 32 < i then outside lo hi (S.c ((j - 32) / 32) ((j - 32) % 32)) else S.c ((j - 32) / 32) ((j - 32) % 32))).length ≤ N
 split at this
 ·rw [if_pos (by assumption)]
  split
  ·exact Nat.le_trans (outside_len _ _ _) this
  ·exact this
 ·rw [if_neg (by assumption)]
  split
  ·exact Nat.le_trans (outside_len _ _ _) this
  ·exact this
set_option maxHeartbeats 4000000 in
set_option maxRecDepth 20000 in
theorem fremove_any {w : World} {f mb n : Nat} {R : List Nat} {S : FL} (h : FreeAt w f mb n R S) (hL : S.upto 900000) (hn : n < 1000000000000) (k lo hi : Nat) (hk : k < 32) :
  Calls Tryz.prog 252 #[vfree f, .int .i64 (k : Int), .int .i64 (lo : Int), .int .i64 (hi : Int)] w fun e w' => (∃ x, e = .returned (.int .i64 x)) ∧ FreeGo w w' f mb (n + 4) R (S.remove k lo hi) := by
 have HB0 := LH (Mem.two w #[.int .i64 (lo : Int)] 3 #[.int .i64 (hi : Int)] 3)
 have HF0 := LH (h.below HB0.out.below)
 have HW0 := LH HB0.out.below
 have HRlt := LH h.mem
 have HUp := LH hL
 have HP : Hid (∀ x w', FreeGo w w' f mb (n + 4) R (S.remove k lo hi) → (fun e w' => (∃ x, e = Ending.returned (.int .i64 x)) ∧ FreeGo w w' f mb (n + 4) R (S.remove k lo hi)) (.returned (.int .i64 x)) w') := LH (fun x w' h => ⟨⟨x, rfl⟩, h⟩)
 generalize (fun e w' => (∃ x, e = Ending.returned (.int .i64 x)) ∧ FreeGo w w' f mb (n + 4) R (S.remove k lo hi)) = Post at *
 clear h hL
 go_enter Tryz.func252, Tryz.ntmps252
 go_upto_region 1 with fail
 generalize (w.alloc _).alloc _ = w0 at *
 obtain ⟨q, hq⟩ : ∃ q, q = w.heap.size := ⟨_, rfl⟩
 rw [← hq] at HB0 HRlt ⊢
 have HQ := LH hq
 clear hq
 go_wp2_with fail
 refine (cright_any _ _).mono ?_
 rintro e w1 ⟨rfl, rfl⟩
 rw [decide_eq_true (show (0 : Int) ≤ (k : Int) ∧ (k : Int) < 32 by omega)]
 have HLen := LH (flen_any HF0.out HUp.out k hk)
 go_wp2_with fail
 refine HLen.out.mono ?_
 rintro e w1 ⟨rfl, hb1⟩
 have HB1 := LH (HB0.out.later hb1)
 have HF1 := LH (HF0.out.below hb1)
 have HW1 := LH (HW0.out.trans (hb1.mono HW0.out.size))
 generalize (S.all k).length = N0 at *
 clear hb1 HLen
 obtain ⟨V, hfv⟩ := HF1.out.v
 have HFV := LH hfv
 clear hfv
 go_upto_region 5 with fail
 have HOg : Hid (OwnI w1 (V k) (S.g k)) := LH (by have := HFV.out.inn.rows k (by omega); rwa [S.at_g hk] at this)
 have HLg : Hid ((S.g k).length ≤ 900000) := LH (by have := HUp.out k (by omega); rwa [S.at_g hk] at this)
 have hfn : f ∉ (rowOf (V k)).toList := fun hm => (HFV.out.inn.neF k (by omega)).1 (by simpa using hm)
 have hqR : Hid (∀ b, rowOf (V k) = some b → b < q) := LH (fun b hb => HRlt.out b (HFV.out.rows k (by omega) b hb))
 have r0 := fun x => near_cell (L := (rowOf (V k)).toList) (HFV.out.inn.g hk) hfn x
 have hC1 : ∃ x : Near (rowOf (V k)).toList w1, w1.drew = x.val := near_of (Touch.ofBelow (later_below (later_drew w1)))
 have HD1 : Hid (Below w1.heap.size w1 w1.drew) := LH (later_below (later_drew w1))
 clear hfn
 refine wp_region_seg (C := fun w' => ∃ x : Near (rowOf (V k)).toList w1, w' = x.val) [.fl [0, 1, 2, 3, 4, 5, 6, 7, 8, 10, 11], .sq [9] true, .sq [12, 13] false] (by kernel_rfl) (by kernel_rfl) (by intro c a d v w h; cases d <;> exact h) ?_
 simp only [segs, picks, List.getElem?_cons_succ, List.getElem?_cons_zero]
 refine wpSeg_fl hC1 ?_
 repeat (first | go_big_quiet_step (fail) | quiet_step (fail))
 refine wpQuiet_nil ?_
 clear r0
 generalize w1.drew = wd at *
 have HOd : Hid (OwnI wd (V k) (S.g k)) := LH (HOg.out.keep (fun b hb => HD1.out.block b (HOg.out.lt b hb)))
 have HBd := LH (HB1.out.later HD1.out)
 have HDel := LH (deleteI_any HOd.out (by have := HLg.out; omega) lo hi q (q + 1) (HBd.out.cell 0 0 rfl rfl) (HBd.out.cell 1 0 rfl rfl) (fun e => Nat.lt_irrefl _ (hqR.out _ e)) (fun e => by have := hqR.out _ e; omega))
 refine wpSeg_sq (fun K hK => ?_)
 go_wp2_with fail
 refine HDel.out.mono ?_
 rintro e w2 ⟨v2, rfl, ho2, hrow2, hg2⟩
 have HO2 := LH ho2
 have HRow2 := LH hrow2
 have HG2 := LH hg2
 have hC2 := near_of ((Touch.ofBelow HD1.out).trans (grown_touchO hg2))
 clear ho2 hrow2 hg2 HDel
 go_wp2_with fail
 refine hK _ _ (fun _ => hC2) ?_
 clear hK K
 have hst := step_g HFV.out.inn hk HFV.out.f HFV.out.mb HFV.out.lt HD1.out HG2.out HO2.out (fun b hb => .inl (by rw [← HRow2.out]; exact hb))
 have hos : (w2.setCell ⟨f, k, none⟩ v2).os = w1.os ∧ (w2.setCell ⟨f, k, none⟩ v2).tape = w1.tape ∧ (w2.setCell ⟨f, k, none⟩ v2).output = w1.output := ⟨HG2.out.os.trans HD1.out.os, HG2.out.tape.trans HD1.out.tape, HG2.out.output.trans HD1.out.output⟩
 have HGo0 : Hid (FreeGo w1 (w2.setCell ⟨f, k, none⟩ v2) f mb n R (S.rmTo k lo hi 0)) := LH (by rw [FL.rmTo_zero]; exact hst.go HFV.out.inn (by omega) HFV.out.f HFV.out.mb HFV.out.lt HFV.out.rows hos)
 have HFh : Hid (w2.heap[f]? = some (.cells ((List.range 32).map V ++ [Value.map (some mb)]).toArray 334 (0, 0))) := LH (by
  have := (HG2.out.block f (Nat.lt_of_lt_of_le (HFV.out.lt f HFV.out.f) HD1.out.size) (fun e => (HFV.out.inn.neF k (by omega)).1 e.symm)).trans (HD1.out.block f (HFV.out.lt f HFV.out.f))
  exact this.trans HFV.out.inn.head)
 have fr : w2.frozen? ⟨f, k, none⟩ = false := frozen_of_row _ _ _ _ _ HFh.out
 have ck1 : w2.cell? ⟨f, k, none⟩ = some (V k) := (cell_of_row _ _ k _ _ _ HFh.out).trans (HFV.out.inn.lt hk)
 obtain ⟨a', c', e', _⟩ := HO2.out.cells
 obtain ⟨l', hl'⟩ : ∃ l', l' = (outside lo hi (S.g k)).length := ⟨_, rfl⟩
 rw [← hl'] at e'
 subst e'
 clear hst hl' hos
 refine wpSeg_last ?_
 go_wp2_with fail
 generalize w2.setCell _ _ = w3 at *
 clear ck1 fr HFh HO2 HRow2 HG2 HOd HOg hC1 hC2 HBd HD1 hqR
 go_loopw [35] (fun iv wr => ∃ i : Nat, i ≤ 4 ∧ iv = .int .i64 (i : Int) ∧ Hid (FreeGo w1 wr f mb (n + i) R (S.rmTo k lo hi i))) (fun iv _ => 4 - (intOf iv).toNat)
 case atStart => exact ⟨0, by omega, rfl, HGo0⟩
 case round =>
  obtain ⟨i, hi4, rfl, HGo⟩ := hrel
  obtain ⟨R1, hfa, ht1, hr1⟩ := HGo.out
  have HT1 := LH ht1
  have HR1 := LH hr1
  have HUpr : Hid ((S.rmTo k lo hi i).upto 900000) := LH (FL.rmTo_upto HUp.out k lo hi i)
  by_cases hlt : i < 4
  case neg =>
   obtain rfl : i = 4 := by omega
   have HLen := LH (flen_any hfa HUpr.out k hk)
   clear hfa ht1 hr1
   generalize ((S.rmTo k lo hi 4).all k).length = N1 at *
   go_wp2_with fail
   refine HLen.out.mono ?_
   rintro e w5 ⟨rfl, hb5⟩
   have HFin : Hid (FreeGo w w5 f mb (n + 4) R (S.remove k lo hi)) := LH (by
    have h1 := HGo.out.later hb5
    rw [FL.rmTo_all] at h1
    exact h1.own HQ.out HW1.out)
   clear hb5
   go_wp2_with fail
   exact HP.out _ _ HFin.out
  obtain ⟨V1, hfv⟩ := hfa.v
  have HMem := LH (Mem.one wr #[.int .i64 (i : Int), .int .i64 (k : Int)] 336)
  have HFV1 := LH (hfv.below HMem.out.below)
  have HFVr := LH hfv.lt
  have hfvrows := LH hfv.rows
  have HW2 := LH HMem.out.below
  have HStep := LH (FL.rmTo_succ S k lo hi i)
  have hq1R : Hid (∀ b ∈ R, b < q) := HRlt
  have HBr : Hid (wr.cell? ⟨q, 0, none⟩ = some (.int .i64 (lo : Int)) ∧ wr.cell? ⟨q + 1, 0, none⟩ = some (.int .i64 (hi : Int))) := LH ⟨cell_of_touch ht1 (fun hm => Nat.lt_irrefl q (HRlt.out q hm)) (HB1.out.cell 0 0 rfl rfl), cell_of_touch ht1 (fun hm => by have := HRlt.out (q + 1) hm; omega) (HB1.out.cell 1 0 rfl rfl)⟩
  have HQ1 := LH (HB1.out.glt 1 rfl)
  generalize S.rmTo k lo hi i = T at *
  clear hfa ht1 hr1 hfv
  go_upto_region 10 with fail
  obtain ⟨qs, hqs⟩ : ∃ qs, qs = wr.heap.size := ⟨_, rfl⟩
  rw [← hqs] at HMem ⊢
  have HQs := LH hqs
  clear hqs
  generalize wr.alloc _ = wa at *
  have hsl : slotI i k < 160 := by unfold slotI; omega
  have hkey := key_slot (i : Int) (k : Int) (wf_small i (by omega)) (wf_small k (by omega))
  have r0 := fun x => later_cell (HMem.out.cell 0 0 rfl rfl) x
  have r1 := fun x => later_cell (HMem.out.cell 0 1 rfl rfl) x
  have r2 := fun x => later_cell HFV1.out.inn.m x
  refine wp_region_seg (C := fun w' => ∃ x : Later (wa), w' = x.val) [.fl [0, 1, 2, 3, 4], .sq [5, 6] false, .fl [7, 8, 9], .sq [10] false] (by kernel_rfl) (by kernel_rfl) (by intro c a d v w h; cases d <;> exact h) ?_
  simp only [segs, picks, List.getElem?_cons_succ, List.getElem?_cons_zero]
  have hC3 := later_drew (wa)
  refine wpSeg_fl hC3 ?_
  repeat (first | go_big_quiet_step (fail) | quiet_step (fail))
  refine wpQuiet_nil ?_
  clear r0 r1 r2
  have HD3 : Hid (Below wa.heap.size wa wa.drew) := LH (later_below hC3)
  generalize wa.drew = wb at *
  have HFb := LH (HFV1.out.below HD3.out)
  have HMb := LH (HMem.out.later HD3.out)
  have HBb : Hid (wb.cell? ⟨q, 0, none⟩ = some (.int .i64 (lo : Int)) ∧ wb.cell? ⟨q + 1, 0, none⟩ = some (.int .i64 (hi : Int))) := LH (by
   have hbb := HW2.out.trans (HD3.out.mono HW2.out.size)
   exact ⟨(hbb.cell (p := ⟨q, 0, none⟩) (World.block_lt_of_cell? _ _ HBr.out.1)).trans HBr.out.1, (hbb.cell (p := ⟨q + 1, 0, none⟩) (World.block_lt_of_cell? _ _ HBr.out.2)).trans HBr.out.2⟩)
  obtain ⟨M, hm, hv⟩ := HFb.out.inn.map
  have HM := LH hm
  have HV := LH hv
  have HVi := LH (hv i k hlt hk)
  have HOs : Hid (OwnI wb (V1 (slotI i k)) (T.c i k)) := LH (by have := HFb.out.inn.rows (slotI i k) hsl; rwa [T.at_c i hk] at this)
  have HLs : Hid ((T.c i k).length ≤ 900000) := LH (by have := HUpr.out (slotI i k) hsl; rwa [T.at_c i hk] at this)
  clear hm hv
  obtain ⟨sl, hsle⟩ : ∃ sl, sl = slotI i k := ⟨_, rfl⟩
  rw [← hsle] at HVi HOs hsl
  have HSl := LH hsle
  clear hsle
  cases hM : M (pairKey i k) with
  | none =>
   have HVn := HVi.out
   rw [hM] at HVn
   have HVn := LH HVn
   have HNext : Hid (FreeGo w1 wb f mb (n + (i + 1)) R (S.rmTo k lo hi (i + 1))) := LH (by
    have e0 : T.c i k = [] := by
     have h1 := HOs.out
     rw [← HVn.out] at h1
     obtain ⟨a, c, e, _⟩ := h1.cells
     injection e with _ e2 _
     exact List.length_eq_zero_iff.1 e2.symm
    have e1 : S.rmTo k lo hi (i + 1) = T := by
     rw [HStep.out, e0]
     have := T.setC_same i k
     rw [e0] at this
     exact this
    rw [e1]
    exact ((HGo.out.later HW2.out).later HD3.out).mono (by omega))
   have HMn := LH hM
   clear hM
   refine wpSeg_sq (fun K hK => ?_)
   go_wp2_with (refine wpList_vlook_ok rfl _ _ 332 rfl 336 47 keyed_slot Tryz.underlying332 _ (zero_ints _) mb (n + i) M rfl HM.out _ _ rfl hkey ?_; rw [HMn.out])
   go_wp2_with fail
   refine hK _ _ (fun h => nomatch h) ?_
   clear hK K
   refine wpSeg_fl hC3 ?_
   repeat (first | go_big_quiet_step (fail) | quiet_step (fail))
   refine wpQuiet_nil ?_
   refine wpSeg_last ?_
   go_wp2_with fail
   go_roundw
   case rel => exact ⟨i + 1, by omega, vint (by omega), HNext⟩
   case measure => simp [intOf]; omega
  | some v =>
   have HVs : Hid (V1 sl = v) := LH (by have := HVi.out; rw [hM] at this; exact this.symm)
   have HMn := LH hM
   clear hM
   refine wpSeg_sq (fun K hK => ?_)
   go_wp2_with (refine wpList_vlook_ok rfl _ _ 332 rfl 336 47 keyed_slot Tryz.underlying332 _ (zero_ints _) mb (n + i) M rfl HM.out _ _ rfl hkey ?_; rw [HMn.out])
   go_wp2_with fail
   refine hK _ _ (fun h => nomatch h) ?_
   clear hK K
   refine wpSeg_fl hC3 ?_
   repeat (first | go_big_quiet_step (fail) | quiet_step (fail))
   refine wpQuiet_nil ?_
   refine wpSeg_last ?_
   go_upto_region 12 with fail
   have hfn : f ∉ (rowOf v).toList := fun hm => (HFb.out.inn.neF sl hsl).1 (by rw [HVs.out]; simpa using hm)
   have hqn : qs ∉ (rowOf v).toList := fun hm => by
    have h1 := HFVr.out qs (hfvrows.out sl hsl qs (by rw [HVs.out]; simpa using hm))
    have h2 := HQs.out
    omega
   have r0 := fun x => near_cell (L := (rowOf v).toList) (HMb.out.cell 0 0 rfl rfl) hqn x
   have r1 := fun x => near_cell (L := (rowOf v).toList) (HMb.out.cell 0 1 rfl rfl) hqn x
   have r2 := fun x => near_cell (L := (rowOf v).toList) HFb.out.inn.m hfn x
   have hC4 : ∃ x : Near (rowOf v).toList wb, wb.drew = x.val := near_of (Touch.ofBelow (later_below (later_drew wb)))
   have HD4 : Hid (Below wb.heap.size wb wb.drew) := LH (later_below (later_drew wb))
   clear hfn hqn hC3
   refine wp_region_seg (C := fun w' => ∃ x : Near (rowOf v).toList wb, w' = x.val) [.fl [0, 1, 2, 3, 4, 5, 6], .sq [7] true, .sq [8] false] (by kernel_rfl) (by kernel_rfl) (by intro c a d v w h; cases d <;> exact h) ?_
   simp only [segs, picks, List.getElem?_cons_succ, List.getElem?_cons_zero]
   refine wpSeg_fl hC4 ?_
   repeat (first | go_big_quiet_step (fail) | quiet_step (fail))
   refine wpQuiet_nil ?_
   clear r0 r1 r2
   generalize wb.drew = wc at *
   have HOc : Hid (OwnI wc v (T.c i k)) := LH ((by rw [← HVs.out]; exact HOs.out : OwnI wb v (T.c i k)).keep (fun b hb => HD4.out.block b ((by rw [← HVs.out]; exact HOs.out : OwnI wb v (T.c i k)).lt b hb)))
   have hvq : ∀ b, rowOf v = some b → b ≠ q ∧ b ≠ q + 1 := fun b hb => by
    have h1 := hfvrows.out sl hsl b (by rw [HVs.out]; exact hb)
    rcases HR1.out b h1 with c | c
    ·have := HRlt.out b c; omega
    ·have := HQ1.out; omega
   have HDel := LH (deleteI_any HOc.out (by have := HLs.out; omega) lo hi q (q + 1) ((HD4.out.cell (p := ⟨q, 0, none⟩) (World.block_lt_of_cell? _ _ HBb.out.1)).trans HBb.out.1) ((HD4.out.cell (p := ⟨q + 1, 0, none⟩) (World.block_lt_of_cell? _ _ HBb.out.2)).trans HBb.out.2) (fun e => (hvq _ e).1 rfl) (fun e => (hvq _ e).2 rfl))
   clear hvq
   refine wpSeg_sq (fun K hK => ?_)
   go_wp2_with fail
   refine HDel.out.mono ?_
   rintro e w4 ⟨v4, rfl, ho4, hrow4, hg4⟩
   have HO4 := LH ho4
   have HRow4 := LH hrow4
   have HG4 := LH hg4
   have HT4 : Hid (Touch (rowOf v).toList wb w4) := LH ((Touch.ofBelow HD4.out).trans (grown_touchO hg4))
   have hC5 := near_of HT4.out
   clear ho4 hrow4 hg4 HDel
   go_wp2_with fail
   refine hK _ _ (fun _ => hC5) ?_
   clear hK K
   have hmbn : rowOf v ≠ some mb := by rw [← HVs.out]; exact (HFb.out.inn.neF sl hsl).2
   have HM4 : Hid (VMap Tryz.prog 336 w4 mb (n + i) M) := LH (HM.out.block (HT4.out.block mb (HFb.out.lt mb HFb.out.mb) (fun hm => hmbn (by simpa using hm))))
   have HNm : Hid (n + i < maxLen) := LH (by unfold maxLen; omega)
   refine wpSeg_last ?_
   go_wp2_with (refine wpList_vstore rfl _ _ _ 332 rfl 336 47 keyed_slot Tryz.underlying332 mb (n + i) M rfl HM4.out HNm.out _ _ _ rfl rfl hkey ?_; intro w5 hm5 hg5; have HM5 := LH hm5; have HG5 := LH hg5; clear hm5 hg5)
   have hst := step_ca (v := v4) (xs := outside lo hi (T.c i k)) HFb.out.inn hlt hk HFb.out.f HFb.out.mb HFb.out.lt HV.out (fun b hb h1 h2 => (HG5.out.block b (Nat.lt_of_lt_of_le hb HT4.out.size) (fun e => h1 (Option.some.inj e.symm).symm)).trans (HT4.out.block b hb (fun hm => h2 (by rw [← HSl.out, HVs.out]; simpa using hm)))) (Nat.le_trans HT4.out.size HG5.out.size) HM5.out
    (HO4.out.keep (fun b hb => HG5.out.block b (HO4.out.lt b hb) (fun e => hmbn (by rw [← HRow4.out, hb]; exact e))))
    (fun b hb => .inl (by rw [← HSl.out, HVs.out, ← HRow4.out]; exact hb))
   have hos : w5.os = wb.os ∧ w5.tape = wb.tape ∧ w5.output = wb.output := ⟨HG5.out.os.trans HT4.out.os, HG5.out.tape.trans HT4.out.tape, HG5.out.output.trans HT4.out.output⟩
   have HNext : Hid (FreeGo w1 w5 f mb (n + (i + 1)) R (S.rmTo k lo hi (i + 1))) := LH (by
    rw [HStep.out]
    exact FreeGo.more ((HT1.out.later HW2.out).later HD3.out) HR1.out HFb.out (by rw [← HSl.out]; exact hsl) hst hos)
   clear hst hos
   go_roundw
   case rel => exact ⟨i + 1, by omega, vint (by omega), HNext⟩
   case measure => simp [intOf]; omega
end Go.Proofs.YtpopbfagliagnaaGreat
namespace Go.Proofs.YtpopbfagliagnaaGreat
open Go.RowKit
def PlPost (S : Dev) (L : List Hd) (a : Int) (w : World) : Ending → World → Prop := fun e w' => (∃ p d : Int, e = .returned (.tuple #[vob p d, .bool (placedN S L a).isSome]) ∧ ∀ o, placedN S L a = some o → o = ⟨p, d, 0⟩) ∧ Below w.heap.size w w'
theorem headN_cases (S : Dev) (a : Int) : headN S a = ⟨0, 0, 22⟩ ∨ ∃ p d, headN S a = ⟨p, d, 0⟩ := by
 rcases headN_code S a with h | h
 ·refine .inr ⟨(headN S a).p, (headN S a).d, ?_⟩
  have := h.1
  generalize headN S a = o at *
  obtain ⟨p, d, c⟩ := o
  dsimp only at this
  rw [this]
 ·exact .inl h
set_option maxHeartbeats 4000000 in
set_option maxRecDepth 20000 in
theorem aplaced_any {w : World} {F : Foot} {S : Dev} (h : DevAt w F S) (a : Option Addr) (B cap : Nat) (L : List Hd) (hlen : L.length = B) (hc : Cells w a (hdCs L)) (hB : B ≤ 1000) (hS : S.cache.length ≤ 1000000) (x : Int) :
  Calls Tryz.prog 85 #[vdev F, vgeom (B : Int), .slice a B cap, .int .i64 x] w (PlPost S L x w) := by
 have HM := LH (Mem.two w #[.int .i64 (B : Int)] 44 #[.int .i64 0, .int .i64 0] 169)
 have HP : Hid (∀ (p d : Int) b w', b = (placedN S L x).isSome → (∀ o, placedN S L x = some o → o = ⟨p, d, 0⟩) → Below w.heap.size w w' → PlPost S L x w (.returned (.tuple #[vob p d, .bool b])) w') := LH (fun p d b w' h1 h2 h3 => by subst h1; exact ⟨⟨p, d, rfl, h2⟩, h3⟩)
 generalize PlPost S L x w = Post at *
 have HD0 := LH (h.below HM.out.below)
 have HC0 := LH (hc.below HM.out.below (Nat.le_refl _))
 have HLen := LH hlen
 have HBlk := LH (fun w => gblockOf_any B hB x w)
 clear h hc hlen
 go_enter Tryz.func85, Tryz.ntmps85
 go_upto_region 1 with fail
 obtain ⟨q, hq⟩ : ∃ q, q = w.heap.size := ⟨_, rfl⟩
 rw [← hq] at HM ⊢
 generalize (w.alloc _).alloc _ = w0 at *
 clear hq
 have c0 := HM.out.cell 0 0 rfl rfl
 by_cases hin : x < 512 ∨ 512 * (B : Int) ≤ x
 ·have HN : Hid (placedN S L x = none) := LH (by unfold placedN; rw [if_pos (by rw [HLen.out]; omega)])
  have hbb : blockOf (B : Int) x < 1 := by unfold blockOf; split <;> omega
  have HBb := LH HBlk.out
  generalize blockOf (B : Int) x = bb at *
  clear hin
  go_wp2_with fail
  refine (HBlk.out _).mono ?_
  rintro e w1 ⟨rfl, hb1⟩
  have HM1 := LH (HM.out.later hb1)
  clear hb1 c0
  go_wp2_with (refine wpList_store_mem aggOb HM1.out 1 rfl rfl rfl rfl rfl rfl rfl rfl ?_; intro w7 h7 ht7; have H7 := LH h7; clear h7 ht7)
  refine bodyPost_ret (results_cell_row2 (p := 8) (u := 9) rfl _ _ _ _ _ _ _ rfl (H7.out.exact 1 rfl) Tryz.underlying169 rfl (by kernel_rfl)) rfl ?_
  refine HP.out _ _ _ _ (by rw [HN.out]; rfl) (fun o ho => by rw [HN.out] at ho; cases ho) H7.out.below
 obtain ⟨y, hy⟩ : ∃ y : Nat, x = (y : Int) := ⟨x.toNat, by omega⟩
 subst hy
 have h1 : 512 ≤ y := by omega
 have h2 : y < 512 * B := by omega
 have hbo : blockOf (B : Int) (y : Int) = ((y / 512 : Nat) : Int) := by unfold blockOf; rw [if_neg (by omega)]; omega
 rw [hbo] at HBlk
 obtain ⟨b, hb⟩ : ∃ b, b = y / 512 := ⟨_, rfl⟩
 have hb1 : 1 ≤ b := by omega
 have hb2 : b < B := by omega
 rw [← hb] at HBlk
 have HBy := LH hb
 have HPl : Hid (placedN S L (y : Int) = if (headN S (y : Int)).code ≠ 0 then none
  else if small (objSize (headN S (y : Int)).p (headN S (y : Int)).d) then (if isCell L (ofN (objSize (headN S (y : Int)).p (headN S (y : Int)).d : Nat)) y then some (headN S (y : Int)) else none)
  else if y % 512 = 0 ∧ wholeN L b = objBlocks (objSize (headN S (y : Int)).p (headN S (y : Int)).d) then some (headN S (y : Int)) else none) := LH (by
  unfold placedN
  rw [Int.toNat_natCast, ← hb, HLen.out]
  by_cases c : (headN S (y : Int)).code ≠ 0
  ·rw [if_pos (.inr (.inr c)), if_pos c]
  ·rw [if_neg (by omega), if_neg c])
 clear hbo hin hb
 go_wp2_with fail
 refine (HBlk.out _).mono ?_
 rintro e w1 ⟨rfl, hb1'⟩
 have HM1 := LH (HM.out.later hb1')
 have HD1 := LH (HD0.out.below hb1')
 have HC1 := LH (HC0.out.below hb1' (Nat.le_refl _))
 clear hb1' c0
 go_wp2_with fail
 refine (ohead_any HD1.out (y : Int)).mono ?_
 rintro e w2 ⟨rfl, hb2'⟩
 have HM2 := LH (HM1.out.later hb2')
 have HD2 := LH (HD1.out.below hb2')
 have HC2 := LH (HC1.out.below hb2' (Nat.le_refl _))
 clear hb2'
 unfold Odec.val
 rcases headN_cases S (y : Int) with hh | ⟨p, d, hh⟩
 ·have HN : Hid (placedN S L (y : Int) = none) := LH (by rw [HPl.out, hh]; rfl)
  rw [hh]
  dsimp only
  go_upto_region 5 with fail
  have HM3 := LH (HM2.out.alloc #[.int .i64 0, .int .i64 0] 169)
  generalize w2.alloc _ = w3 at *
  go_wp2_with (refine wpList_store_mem aggOb HM3.out 1 rfl rfl rfl rfl rfl rfl rfl rfl ?_; intro w7 h7 ht7; have H7 := LH h7; clear h7 ht7)
  refine bodyPost_ret (results_cell_row2 (p := 8) (u := 9) rfl _ _ _ _ _ _ _ rfl (H7.out.exact 1 rfl) Tryz.underlying169 rfl (by kernel_rfl)) rfl ?_
  refine HP.out _ _ _ _ (by rw [HN.out]; rfl) (fun o ho => by rw [HN.out] at ho; cases ho) H7.out.below
 have HS0 : Hid (objSize p d ≠ 0) := LH (by
  have := headN_code S (y : Int)
  rw [hh] at this
  rcases this with h | h
  ·exact h.2.2.2.1
  ·injection h with _ _ h3; cases h3)
 rw [hh]
 have HPl2 : Hid (placedN S L (y : Int) = if small (objSize p d) then (if isCell L (ofN (objSize p d : Nat)) y then some ⟨p, d, 0⟩ else none)
  else if y % 512 = 0 ∧ wholeN L b = objBlocks (objSize p d) then some ⟨p, d, 0⟩ else none) := LH (by rw [HPl.out, hh, if_neg (by simp)])
 dsimp only
 clear HPl HBlk
 have HSm := LH (fun w => osmall_any p d w)
 have HBl := LH (fun w => oblocks_any p d w)
 generalize objSize p d = s at *
 go_upto_region 7 with fail
 have HB3 := LH (below_alloc w2 (Obj.cells #[.int .i64 p, .int .i64 d] 169))
 have HM3 := LH (HM2.out.alloc #[.int .i64 p, .int .i64 d] 169)
 have HC3 := LH (HC2.out.below HB3.out (Nat.le_refl _))
 obtain ⟨q3, hq3⟩ : ∃ q3, q3 = w2.heap.size := ⟨_, rfl⟩
 rw [← hq3] at HM3 ⊢
 generalize w2.alloc _ = w3 at *
 clear hq3
 obtain ⟨k, c, z, he⟩ := hdGetD L b
 obtain ⟨b1, o1, rfl, e0, e1, e2⟩ := hd_cells HC3.out (by rw [HLen.out]; exact hb2) he
 have HEb := LH he
 clear he
 have hbB : (b : Int) < (B : Int) := by omega
 go_upto_region 8 with fail
 have HB4 := LH (below_alloc w3 (Obj.cells #[.int .i64 k, .int .i64 c, .int .i64 z] 103))
 have HM4 := LH (HM3.out.alloc #[.int .i64 k, .int .i64 c, .int .i64 z] 103)
 have HC4 := LH (HC3.out.below HB4.out (Nat.le_refl _))
 obtain ⟨q4, hq4⟩ : ∃ q4, q4 = w3.heap.size := ⟨_, rfl⟩
 rw [← hq4] at HM4 ⊢
 generalize w3.alloc _ = w4 at *
 clear hq4 e0 e1 e2
 have d0 := HM4.out.cell 2 0 rfl rfl
 have d1 := HM4.out.cell 2 1 rfl rfl
 go_wp2_with fail
 refine (HSm.out _).mono ?_
 rintro e w5 ⟨rfl, hb5⟩
 have HM5 := LH (HM4.out.later hb5)
 have HC5 := LH (HC4.out.below hb5 (Nat.le_refl _))
 clear hb5 d0 d1
 have hnd := HM5.out.nd
 simp only [List.map_cons, List.map_nil, List.map_append, List.cons_append, List.nil_append, List.nodup_cons, List.mem_cons, List.not_mem_nil, or_false, not_or] at hnd
 have hn0 : q ∉ [q + 1] := by simp
 have hn2 : q3 ∉ [q + 1] := by simp; exact fun e => hnd.2.1.1 e.symm
 have hn3 : q4 ∉ [q + 1] := by simp; exact fun e => hnd.2.1.2 e.symm
 have HNs := LH (And.intro hn0 (And.intro hn2 hn3))
 clear hnd hn0 hn2 hn3
 by_cases hsm : small s
 ·have hk := ofN_lt hsm
  rw [ofV_small _ hsm]
  have HPl3 : Hid (placedN S L (y : Int) = if isCell L (ofN (s : Int)) y then some ⟨p, d, 0⟩ else none) := LH (by rw [HPl2.out, if_pos hsm])
  generalize ofN (s : Int) = kk at *
  have HIs : Hid (isCell L kk y ↔ begins kk y = true ∧ (⟨k, c, z⟩ : Hd) = ⟨1, kk, 0⟩) := LH (by
   unfold isCell begins
   rw [← HBy.out, HEb.out, decide_eq_true_eq, HLen.out]
   constructor
   ·rintro ⟨_, _, h3, h4, h5⟩; exact ⟨⟨h4, h5⟩, h3⟩
   ·rintro ⟨⟨h4, h5⟩, h3⟩; exact ⟨h1, h2, h3, h4, h5⟩)
  have HAt := LH (fun w => cat_any B hB kk y hk h1 h2 w)
  clear HPl2 hsm HSm HBl
  have c0 := HM5.out.cell 0 0 rfl rfl
  go_wp2_with fail
  refine (HAt.out _).mono ?_
  rintro e w6 ⟨⟨ax, ay, rfl⟩, hb6⟩
  have HM6 := LH (HM5.out.later hb6)
  clear hb6 c0 HAt
  go_upto_region 11 with fail
  have HM7 := LH (HM6.out.alloc #[.int .i64 ax, .int .i64 ay] 289)
  generalize w6.alloc _ = w7 at *
  have d0 := HM7.out.cell 2 0 rfl rfl
  have d1 := HM7.out.cell 2 1 rfl rfl
  have d3 := HM7.out.cell 3 0 rfl rfl
  have d4 := HM7.out.cell 3 1 rfl rfl
  have d5 := HM7.out.cell 3 2 rfl rfl
  have r0 := fun x => near_cell (L := [q + 1]) d0 HNs.out.2.1 x
  have r1 := fun x => near_cell (L := [q + 1]) d1 HNs.out.2.1 x
  have r3 := fun x => near_cell (L := [q + 1]) d3 HNs.out.2.2 x
  have r4 := fun x => near_cell (L := [q + 1]) d4 HNs.out.2.2 x
  have r5 := fun x => near_cell (L := [q + 1]) d5 HNs.out.2.2 x
  have HT0 : Hid (Touch [q + 1] w7 w7.drew) := LH (Touch.ofBelow (later_below (later_drew w7)))
  have HD0 : Hid (Below w7.heap.size w7 w7.drew) := LH (later_below (later_drew w7))
  have hC1 := near_of HT0.out
  clear d0 d1 d3 d4 d5
  have hgd := gsBh
  cases hbg : begins kk y with
  | false =>
   have HN : Hid (placedN S L (y : Int) = none) := LH (by rw [HPl3.out, if_neg (fun h => by have := (HIs.out.1 h).1; rw [hbg] at this; cases this)])
   clear hbg HPl3 HIs
   refine wp_region_seg (C := fun w' => ∃ x : Near [q + 1] w7, w' = x.val) [.fl [0, 1, 2, 3, 4, 5, 6, 7], .sq [8] true, .sq [9] false] (by kernel_rfl) (by kernel_rfl) (by intro c a d v w h; cases d <;> exact h) ?_
   simp only [segs, picks, List.getElem?_cons_succ, List.getElem?_cons_zero]
   refine wpSeg_fl hC1 ?_
   repeat (first | go_big_quiet_step (fail) | quiet_step (fail))
   refine wpQuiet_nil ?_
   refine wpSeg_sq (fun K hK => ?_)
   go_wp2_with (refine wpList_store_mem aggOb (HM7.out.later HD0.out) 1 rfl rfl rfl rfl rfl rfl rfl rfl ?_; intro w8 h8 ht8; have H8 := LH h8; have HT8 := LH (HT0.out.trans ht8); clear h8 ht8)
   have hC2 := near_of HT8.out
   go_wp2_with fail
   refine hK _ _ (fun _ => hC2) ?_
   clear hK K
   refine wpSeg_last ?_
   go_wp2_with fail
   refine bodyPost_ret (results_cell_row2 (p := 8) (u := 9) rfl _ _ _ _ _ _ _ rfl (H8.out.exact 1 rfl) Tryz.underlying169 rfl (by kernel_rfl)) rfl ?_
   refine HP.out _ _ _ _ (by rw [HN.out]; rfl) (fun o ho => by rw [HN.out] at ho; cases ho) H8.out.below
  | true =>
   by_cases hq : (⟨k, c, z⟩ : Hd) = ⟨1, kk, 0⟩
   ·have heq : ∀ w', (Op.equalIn 10000 103 (.agg #[.int .i64 k, .int .i64 c, .int .i64 z]) (.agg #[.int .i64 1, .int .i64 (kk : Int), .int .i64 0])).run Tryz.prog w' = .ok true w' := fun w' => equalBh w' _ _ _ _ _ _ _ (by rw [← hd_beq]; simp [hq])
    have HN : Hid (placedN S L (y : Int) = some ⟨p, d, 0⟩) := LH (by rw [HPl3.out, if_pos (HIs.out.2 ⟨hbg, hq⟩)])
    clear hbg HPl3 HIs hq
    refine wp_region_seg (C := fun w' => ∃ x : Near [q + 1] w7, w' = x.val) [.fl [0, 1, 2, 3, 4, 5, 6, 7], .sq [8] true, .sq [9] false] (by kernel_rfl) (by kernel_rfl) (by intro c a d v w h; cases d <;> exact h) ?_
    simp only [segs, picks, List.getElem?_cons_succ, List.getElem?_cons_zero]
    refine wpSeg_fl hC1 ?_
    repeat (first | go_big_quiet_step (fail) | quiet_step (fail))
    refine wpQuiet_nil ?_
    refine wpSeg_sq (fun K hK => ?_)
    go_wp2_with (refine wpList_store_mem aggOb (HM7.out.later HD0.out) 1 rfl rfl rfl rfl rfl rfl rfl rfl ?_; intro w8 h8 ht8; have H8 := LH h8; have HT8 := LH (HT0.out.trans ht8); clear h8 ht8)
    have hC2 := near_of HT8.out
    go_wp2_with fail
    refine hK _ _ (fun _ => hC2) ?_
    clear hK K
    refine wpSeg_last ?_
    go_wp2_with fail
    refine bodyPost_ret (results_cell_row2 (p := 8) (u := 9) rfl _ _ _ _ _ _ _ rfl (H8.out.exact 1 rfl) Tryz.underlying169 rfl (by kernel_rfl)) rfl ?_
    refine HP.out _ _ _ _ (by rw [HN.out]; rfl) (fun o ho => by rw [HN.out] at ho; cases ho; rfl) H8.out.below
   ·have heq : ∀ w', (Op.equalIn 10000 103 (.agg #[.int .i64 k, .int .i64 c, .int .i64 z]) (.agg #[.int .i64 1, .int .i64 (kk : Int), .int .i64 0])).run Tryz.prog w' = .ok false w' := fun w' => equalBh w' _ _ _ _ _ _ _ (by rw [← hd_beq]; simp [hq])
    have HN : Hid (placedN S L (y : Int) = none) := LH (by rw [HPl3.out, if_neg (fun h => hq (HIs.out.1 h).2)])
    clear hbg HPl3 HIs hq
    refine wp_region_seg (C := fun w' => ∃ x : Near [q + 1] w7, w' = x.val) [.fl [0, 1, 2, 3, 4, 5, 6, 7], .sq [8] true, .sq [9] false] (by kernel_rfl) (by kernel_rfl) (by intro c a d v w h; cases d <;> exact h) ?_
    simp only [segs, picks, List.getElem?_cons_succ, List.getElem?_cons_zero]
    refine wpSeg_fl hC1 ?_
    repeat (first | go_big_quiet_step (fail) | quiet_step (fail))
    refine wpQuiet_nil ?_
    refine wpSeg_sq (fun K hK => ?_)
    go_wp2_with (refine wpList_store_mem aggOb (HM7.out.later HD0.out) 1 rfl rfl rfl rfl rfl rfl rfl rfl ?_; intro w8 h8 ht8; have H8 := LH h8; have HT8 := LH (HT0.out.trans ht8); clear h8 ht8)
    have hC2 := near_of HT8.out
    go_wp2_with fail
    refine hK _ _ (fun _ => hC2) ?_
    clear hK K
    refine wpSeg_last ?_
    go_wp2_with fail
    refine bodyPost_ret (results_cell_row2 (p := 8) (u := 9) rfl _ _ _ _ _ _ _ rfl (H8.out.exact 1 rfl) Tryz.underlying169 rfl (by kernel_rfl)) rfl ?_
    refine HP.out _ _ _ _ (by rw [HN.out]; rfl) (fun o ho => by rw [HN.out] at ho; cases ho) H8.out.below
 rw [ofV_large _ hsm]
 have HNb : Hid (1 ≤ objBlocks s) := LH (by
  unfold objBlocks
  rw [if_neg hsm]
  have := HS0.out
  omega)
 have HPl3 : Hid (placedN S L (y : Int) = if y % 512 = 0 ∧ wholeN L b = objBlocks s then some ⟨p, d, 0⟩ else none) := LH (by rw [HPl2.out, if_neg hsm])
 clear HPl2 hsm HSm
 have HWh := LH (bwhole_any (some ⟨b1, o1, none⟩) B cap L HLen.out w5 HC5.out hB b hb2)
 go_wp2_with fail
 refine HWh.out.mono ?_
 rintro e w6 hp6
 obtain ⟨hv6, hb6⟩ := hp6
 have HM6 := LH (HM5.out.later hb6)
 clear hb6 HWh
 have c0 := HM6.out.cell 0 0 rfl rfl
 have d0 := HM6.out.cell 2 0 rfl rfl
 have d1 := HM6.out.cell 2 1 rfl rfl
 have r0 := fun x => near_cell (L := [q + 1]) d0 HNs.out.2.1 x
 have r1 := fun x => near_cell (L := [q + 1]) d1 HNs.out.2.1 x
 have r2 := fun x => near_cell (L := [q + 1]) c0 HNs.out.1 x
 have HT0 : Hid (Touch [q + 1] w6 w6.drew) := LH (Touch.ofBelow (later_below (later_drew w6)))
 have HD0 : Hid (Below w6.heap.size w6 w6.drew) := LH (later_below (later_drew w6))
 have hC1 := near_of HT0.out
 clear c0 d0 d1
 have HFi := LH (fun w => gfirstN_any B hB b hb2 w)
 obtain ⟨nb, hnb⟩ : ∃ nb, nb = objBlocks s := ⟨_, rfl⟩
 rw [← hnb] at HPl3 HNb HBl
 obtain ⟨wn, hwn⟩ : ∃ wn, wn = wholeN L b := ⟨_, rfl⟩
 rw [← hwn] at HPl3 hv6
 clear hnb hwn
 by_cases hw0 : wn = 0
 ·subst hw0
  have hv7 : e = .returned (.tuple #[.int .i64 0, .bool false]) := by rw [hv6]; rfl
  have HN : Hid (placedN S L (y : Int) = none) := LH (by rw [HPl3.out, if_neg (by have := HNb.out; omega)])
  subst hv7
  clear hv6
  go_upto_region 13 with fail
  refine wp_region_seg (C := fun w' => ∃ x : Near [q + 1] w6, w' = x.val) [.fl [0, 1, 2, 3, 4, 5], .sq [6] true, .fl [7, 8, 9, 10, 11], .sq [12] true, .fl [13, 14], .sq [15] true, .sq [16] false] (by kernel_rfl) (by kernel_rfl) (by intro c a d v w h; cases d <;> exact h) ?_
  simp only [segs, picks, List.getElem?_cons_succ, List.getElem?_cons_zero]
  refine wpSeg_fl hC1 ?_
  repeat (first | go_big_quiet_step (fail) | quiet_step (fail))
  refine wpQuiet_nil ?_
  refine wpSeg_sq (fun K hK => ?_)
  go_wp2_with fail
  go_wp2_with fail
  refine hK _ _ (fun _ => hC1) ?_
  clear hK K
  refine wpSeg_fl hC1 ?_
  repeat (first | go_big_quiet_step (fail) | quiet_step (fail))
  refine wpQuiet_nil ?_
  refine wpSeg_sq (fun K hK => ?_)
  go_wp2_with fail
  go_wp2_with fail
  refine hK _ _ (fun _ => hC1) ?_
  clear hK K
  refine wpSeg_fl hC1 ?_
  repeat (first | go_big_quiet_step (fail) | quiet_step (fail))
  refine wpQuiet_nil ?_
  refine wpSeg_sq (fun K hK => ?_)
  go_wp2_with (refine wpList_store_mem aggOb (HM6.out.later HD0.out) 1 rfl rfl rfl rfl rfl rfl rfl rfl ?_; intro w8 h8 ht8; have H8 := LH h8; have HT8 := LH (HT0.out.trans ht8); clear h8 ht8)
  have hC2 := near_of HT8.out
  go_wp2_with fail
  refine hK _ _ (fun _ => hC2) ?_
  clear hK K
  refine wpSeg_last ?_
  go_wp2_with fail
  refine bodyPost_ret (results_cell_row2 (p := 8) (u := 9) rfl _ _ _ _ _ _ _ rfl (H8.out.exact 1 rfl) Tryz.underlying169 rfl (by kernel_rfl)) rfl ?_
  refine HP.out _ _ _ _ (by rw [HN.out]; rfl) (fun o ho => by rw [HN.out] at ho; cases ho) H8.out.below
 have hv7 : e = .returned (.tuple #[.int .i64 (wn : Int), .bool true]) := by rw [hv6, decide_eq_true hw0]
 subst hv7
 clear hv6
 have hb512 : b < 1000 := by omega
 go_upto_region 13 with fail
 by_cases hy5 : y = b * 512
 case neg =>
  have hy6 : ((y : Int) == (b : Int) * 512) = false := by simp; omega
  have HN : Hid (placedN S L (y : Int) = none) := LH (by rw [HPl3.out, if_neg (by have := HBy.out; omega)])
  clear hy5
  refine wp_region_seg (C := fun w' => ∃ x : Near [q + 1] w6, w' = x.val) [.fl [0, 1, 2, 3, 4, 5], .sq [6] true, .fl [7, 8, 9, 10, 11], .sq [12] true, .fl [13, 14], .sq [15] true, .sq [16] false] (by kernel_rfl) (by kernel_rfl) (by intro c a d v w h; cases d <;> exact h) ?_
  simp only [segs, picks, List.getElem?_cons_succ, List.getElem?_cons_zero]
  refine wpSeg_fl hC1 ?_
  repeat (first | go_big_quiet_step (fail) | quiet_step (fail))
  refine wpQuiet_nil ?_
  refine wpSeg_sq (fun K hK => ?_)
  go_wp2_with fail
  refine (HFi.out _).mono ?_
  rintro e w7 ⟨rfl, hb7⟩
  have HD7 := LH (HD0.out.trans (hb7.mono HD0.out.size))
  have HT7 := LH (HT0.out.later hb7)
  have hC2 := near_of HT7.out
  clear hb7
  go_wp2_with fail
  refine hK _ _ (fun _ => hC2) ?_
  clear hK K
  refine wpSeg_fl hC2 ?_
  repeat (first | go_big_quiet_step (fail) | quiet_step (fail))
  refine wpQuiet_nil ?_
  refine wpSeg_sq (fun K hK => ?_)
  go_wp2_with fail
  go_wp2_with fail
  refine hK _ _ (fun _ => hC2) ?_
  clear hK K
  refine wpSeg_fl hC2 ?_
  repeat (first | go_big_quiet_step (fail) | quiet_step (fail))
  refine wpQuiet_nil ?_
  refine wpSeg_sq (fun K hK => ?_)
  go_wp2_with (refine wpList_store_mem aggOb (HM6.out.later HD7.out) 1 rfl rfl rfl rfl rfl rfl rfl rfl ?_; intro w8 h8 ht8; have H8 := LH h8; have HT8 := LH (HT7.out.trans ht8); clear h8 ht8)
  have hC3 := near_of HT8.out
  go_wp2_with fail
  refine hK _ _ (fun _ => hC3) ?_
  clear hK K
  refine wpSeg_last ?_
  go_wp2_with fail
  refine bodyPost_ret (results_cell_row2 (p := 8) (u := 9) rfl _ _ _ _ _ _ _ rfl (H8.out.exact 1 rfl) Tryz.underlying169 rfl (by kernel_rfl)) rfl ?_
  refine HP.out _ _ _ _ (by rw [HN.out]; rfl) (fun o ho => by rw [HN.out] at ho; cases ho) H8.out.below
 have hy6 : ((y : Int) == (b : Int) * 512) = true := by simp; omega
 have HN : Hid (placedN S L (y : Int) = if wn = nb then some ⟨p, d, 0⟩ else none) := LH (by
  rw [HPl3.out]
  by_cases c : wn = nb
  ·rw [if_pos ⟨by omega, c⟩, if_pos c]
  ·rw [if_neg (fun h => c h.2), if_neg c])
 clear hy5
 refine wp_region_seg (C := fun w' => ∃ x : Near [q + 1] w6, w' = x.val) [.fl [0, 1, 2, 3, 4, 5], .sq [6] true, .fl [7, 8, 9, 10, 11], .sq [12] true, .fl [13, 14], .sq [15] true, .sq [16] false] (by kernel_rfl) (by kernel_rfl) (by intro c a d v w h; cases d <;> exact h) ?_
 simp only [segs, picks, List.getElem?_cons_succ, List.getElem?_cons_zero]
 refine wpSeg_fl hC1 ?_
 repeat (first | go_big_quiet_step (fail) | quiet_step (fail))
 refine wpQuiet_nil ?_
 refine wpSeg_sq (fun K hK => ?_)
 go_wp2_with fail
 refine (HFi.out _).mono ?_
 rintro e w7 ⟨rfl, hb7⟩
 have HD7 := LH (HD0.out.trans (hb7.mono HD0.out.size))
 have HT7 := LH (HT0.out.later hb7)
 have hC2 := near_of HT7.out
 clear hb7
 go_wp2_with fail
 refine hK _ _ (fun _ => hC2) ?_
 clear hK K
 refine wpSeg_fl hC2 ?_
 repeat (first | go_big_quiet_step (fail) | quiet_step (fail))
 refine wpQuiet_nil ?_
 refine wpSeg_sq (fun K hK => ?_)
 go_wp2_with fail
 refine (HBl.out _).mono ?_
 rintro e w8 ⟨rfl, hb8⟩
 have HD8 := LH (HD7.out.trans (hb8.mono HD7.out.size))
 have HT8 := LH (HT7.out.later hb8)
 have hC3 := near_of HT8.out
 clear hb8
 go_wp2_with fail
 refine hK _ _ (fun _ => hC3) ?_
 clear hK K
 refine wpSeg_fl hC3 ?_
 repeat (first | go_big_quiet_step (fail) | quiet_step (fail))
 refine wpQuiet_nil ?_
 refine wpSeg_sq (fun K hK => ?_)
 go_wp2_with (refine wpList_store_mem aggOb (HM6.out.later HD8.out) 1 rfl rfl rfl rfl rfl rfl rfl rfl ?_; intro w9 h9 ht9; have H9 := LH h9; have HT9 := LH (HT8.out.trans ht9); clear h9 ht9)
 have hC4 := near_of HT9.out
 go_wp2_with fail
 refine hK _ _ (fun _ => hC4) ?_
 clear hK K
 refine wpSeg_last ?_
 go_wp2_with fail
 refine bodyPost_ret (results_cell_row2 (p := 8) (u := 9) rfl _ _ _ _ _ _ _ rfl (H9.out.exact 1 rfl) Tryz.underlying169 rfl (by kernel_rfl)) rfl ?_
 refine HP.out _ _ _ _ ?_ (fun o ho => ?_) H9.out.below
 ·rw [HN.out]
  by_cases c : wn = nb
  ·subst c; simp
  ·rw [if_neg c]; simp; omega
 ·rw [HN.out] at ho
  split at ho
  ·cases ho; rfl
  ·cases ho
set_option maxHeartbeats 2000000 in
set_option maxRecDepth 20000 in
theorem aplace_any {w : World} {A : AF} {n B : Nat} {m : Al} (h : AlAt w A n B m) (hB : B ≤ 1000) (x : Int) :
  Calls Tryz.prog 166 #[valloc A, .int .i64 x] w (PlPost m.bm.dev m.bm.list x w) := by
 have HM := LH (Mem.one w #[.int .i64 0, .int .i64 0] 169)
 have HP : Hid (∀ (p d : Int) b w', b = (placedN m.bm.dev m.bm.list x).isSome → (∀ o, placedN m.bm.dev m.bm.list x = some o → o = ⟨p, d, 0⟩) → Below w.heap.size w w' → PlPost m.bm.dev m.bm.list x w (.returned (.tuple #[vob p d, .bool b])) w') := LH (fun p d b w' h1 h2 h3 => by subst h1; exact ⟨⟨p, d, rfl, h2⟩, h3⟩)
 have HLn : Hid (m.bm.list.length = B) := LH h.man.tab.len
 have HSm : Hid (m.bm.dev.cache.length ≤ 1000000) := LH h.man.dev.small
 generalize PlPost m.bm.dev m.bm.list x w = Post at *
 have HA0 := LH (h.below HM.out.below)
 have HAh := LH h
 clear h
 go_enter Tryz.func166, Tryz.ntmps166
 go_upto_region 1 with fail
 obtain ⟨q, hq⟩ : ∃ q, q = w.heap.size := ⟨_, rfl⟩
 have HQn : Hid (∀ k ∈ A.list, k ∉ [q]) := LH (fun k hk hm => by
  have := HAh.out.mem k hk
  simp at hm
  omega)
 rw [← hq] at HM ⊢
 generalize w.alloc _ = w0 at *
 clear hq
 have c0 := HA0.out.c0
 have c1 := HA0.out.c1
 have c2 := HA0.out.c2
 have c3 := HA0.out.man.c0
 have r0 := fun x => near_cell (L := [q]) c0 (HQn.out _ (by simp [AF.list, AF.fix])) x
 have r1 := fun x => near_cell (L := [q]) c1 (HQn.out _ (by simp [AF.list, AF.fix])) x
 have r2 := fun x => near_cell (L := [q]) c2 (HQn.out _ (by simp [AF.list, AF.fix])) x
 have r3 := fun x => near_cell (L := [q]) c3 (HQn.out _ (by simp [AF.list, AF.fix, MF.list])) x
 have HT0 : Hid (Touch [q] w0 w0.drew) := LH (Touch.ofBelow (later_below (later_drew w0)))
 have HD0 : Hid (Below w0.heap.size w0 w0.drew) := LH (later_below (later_drew w0))
 have hC1 := near_of HT0.out
 clear c0 c1 c2 c3
 refine wp_region_seg (C := fun w' => ∃ x : Near [q] w0, w' = x.val) [.fl [0, 1, 2, 3, 4, 5, 6, 7, 8, 9, 10, 11, 12, 13, 14, 16], .sq [15] true, .sq [17] false, .fl [18, 19], .sq [20, 21] false] (by kernel_rfl) (by kernel_rfl) (by intro c a d v w h; cases d <;> exact h) ?_
 simp only [segs, picks, List.getElem?_cons_succ, List.getElem?_cons_zero]
 refine wpSeg_fl hC1 ?_
 repeat (first | go_big_quiet_step (fail) | quiet_step (fail))
 refine wpQuiet_nil ?_
 clear r0 r1 r2 r3
 generalize w0.drew = w1 at *
 have HA1 := LH (HA0.out.below HD0.out)
 refine wpSeg_sq (fun K hK => ?_)
 go_wp2_with fail
 refine (tall_any HA1.out.man.tab hB).mono ?_
 rintro e w2 ⟨g, cg, rfl, hg1, hg2, hrow, hb2⟩
 have HD2 := LH (HD0.out.trans (hb2.mono HD0.out.size))
 have HT2 := LH (HT0.out.later hb2)
 have hC2 := near_of HT2.out
 have HR2 := LH hrow.cells
 clear hb2 hrow
 go_wp2_with fail
 refine hK _ _ (fun _ => hC2) ?_
 clear hK K
 have HA2 := LH (HA0.out.below HD2.out)
 refine wpSeg_sq (fun K hK => ?_)
 go_wp2_with fail
 refine (aplaced_any HA2.out.man.dev _ B cg m.bm.list HLn.out HR2.out hB HSm.out x).mono ?_
 rintro e w3 ⟨⟨p, d, rfl, ho⟩, hb3⟩
 have HO := LH ho
 have HD3 := LH (HD2.out.trans (hb3.mono HD2.out.size))
 have HT3 := LH (HT2.out.later hb3)
 have hC3 := near_of HT3.out
 clear ho hb3
 go_wp2_with fail
 refine hK _ _ (fun _ => hC3) ?_
 clear hK K
 refine wpSeg_fl hC3 ?_
 repeat (first | go_big_quiet_step (fail) | quiet_step (fail))
 refine wpQuiet_nil ?_
 refine wpSeg_last ?_
 go_wp2_with (refine wpList_store_mem aggOb (HM.out.later HD3.out) 0 rfl rfl rfl rfl rfl rfl rfl rfl ?_; intro w9 h9 ht9; have H9 := LH h9; clear h9 ht9)
 refine bodyPost_ret (results_cell_row2 (p := 4) (u := 5) rfl _ _ _ _ _ _ _ rfl (H9.out.exact 0 rfl) Tryz.underlying169 rfl (by kernel_rfl)) rfl ?_
 exact HP.out _ _ _ _ rfl HO.out H9.out.below
def bmOf (S : Dev) (B : Nat) : Bm := ⟨S, hds (devWord S) B, freeL (freeAt (hds (devWord S) B)) B B⟩
def OpenBm (w : World) (F : Foot) (S : Dev) (B : Nat) : Ending → World → Prop := fun e w' => Below w.heap.size w w' ∧
  ((AllOk (devWord S) B ∧ soundN (hds (devWord S) B) B 1 = 0 ∧ ∃ (X : MF) (n : Nat), e = .returned (.tuple #[.pointer (some ⟨X.m, 0, none⟩), .int .i64 0]) ∧ X.F = F ∧ ManAt w' X n B (bmOf S B) ∧ n ≤ 1000000 ∧
      (∀ k ∈ X.list, k ∈ F.list ∨ w.heap.size ≤ k)) ∨
   (AllOk (devWord S) B ∧ soundN (hds (devWord S) B) B 1 ≠ 0 ∧ e = .returned (.tuple #[.pointer none, .int .i64 40])) ∨
   (¬ AllOk (devWord S) B ∧ e = .returned (.tuple #[.pointer none, .int .i64 21])))
theorem bspans_fill (l : List Hd) (B : Nat) (h : l.length = B) : fillR (op2s (spansOf l)) (List.replicate B false) = (freeL (freeAt l) B B, 0) := by
 unfold spansOf
 rw [h]
 exact fill_spans (freeAt l) B B (Nat.le_refl _)
set_option maxHeartbeats 4000000 in
set_option maxRecDepth 20000 in
theorem bopen_any {w : World} {F : Foot} {S : Dev} (h : DevAt w F S) (B : Nat) (hB1 : 1 ≤ B) (hB : B ≤ 1000) :
    Calls Tryz.prog 117 #[vdev F, vgeom B] w (OpenBm w F S B) := by
  have HM := LH (Mem.one w #[.int .i64 (B : Int)] 44)
  have HD := LH (h.below HM.out.below)
  have HMF := LH h.mem
  have HNF := LH h.nodup
  have HL : Hid ((hds (devWord S) B).length = B) := LH (hds_length _ _)
  have HFill := LH (bspans_fill (hds (devWord S) B) B HL.out)
  have HBm : Hid (bmOf S B = ⟨S, hds (devWord S) B, freeL (freeAt (hds (devWord S) B)) B B⟩) := LH rfl
  have HFl : Hid ((freeL (freeAt (hds (devWord S) B)) B B).length = B) := LH (freeL_len _ _ _)
  have HPE : Hid (OpenBm w F S B = fun e w' => Below w.heap.size w w' ∧
  ((AllOk (devWord S) B ∧ soundN (hds (devWord S) B) B 1 = 0 ∧ ∃ (X : MF) (n : Nat), e = .returned (.tuple #[.pointer (some ⟨X.m, 0, none⟩), .int .i64 0]) ∧ X.F = F ∧ ManAt w' X n B (bmOf S B) ∧ n ≤ 1000000 ∧
      (∀ k ∈ X.list, k ∈ F.list ∨ w.heap.size ≤ k)) ∨
   (AllOk (devWord S) B ∧ soundN (hds (devWord S) B) B 1 ≠ 0 ∧ e = .returned (.tuple #[.pointer none, .int .i64 40])) ∨
   (¬ AllOk (devWord S) B ∧ e = .returned (.tuple #[.pointer none, .int .i64 21])))) := LH rfl
  generalize hP : OpenBm w F S B = Post at *
  clear h hP
  go_enter Tryz.func117, Tryz.ntmps117
  go_upto_region 1 with fail
  generalize hw0 : w.alloc _ = w0 at *
  clear hw0
  obtain ⟨q, hq⟩ : ∃ q, q = w.heap.size := ⟨_, rfl⟩
  rw [← hq] at HM ⊢
  have HQ := LH hq
  clear hq
  have c0 := HM.out.cell 0 0 rfl rfl
  unfold vdev at *
  go_wp2_with fail
  refine (open_tabG HD.out B hB1 hB).mono ?_
  rintro e w1 ⟨hb1, ⟨hok, p, g, cc, rfl, hp, hg, hpg, htab⟩ | ⟨b, hb0, hbB, hok, hbad, rfl⟩⟩
  case inr =>
    have HE : Hid (¬ AllOk (devWord S) B) := LH (fun h => hbad (h b hb0 hbB))
    have HB1 := LH (HM.out.later hb1)
    clear hok hbad hb1
    go_wp2_with fail
    rw [HPE.out]
    exact ⟨HB1.out.below, .inr (.inr ⟨HE.out, rfl⟩)⟩
  have HM1 := LH (HM.out.later hb1)
  have HD1 := LH (HD.out.below hb1)
  have HT1 := LH htab
  have HOK := LH hok
  have HG : Hid (w0.heap.size ≤ p ∧ w0.heap.size ≤ g ∧ p ≠ g) := LH ⟨hp, hg, hpg⟩
  have HW0 : Hid (w.heap.size + 1 ≤ w0.heap.size) := LH (by have := HM.out.glt 0 rfl; have := HQ.out; omega)
  clear hb1 htab hok hp hg hpg c0 HM HD
  generalize hds (devWord S) B = L at *
  go_wp2_with fail
  refine (tall_any HT1.out hB).mono ?_
  rintro e w2 ⟨a2, k2, rfl, hq2, hk2, hr2, hb2⟩
  have HM2 := LH (HM1.out.later hb2)
  have HD2 := LH (HD1.out.below hb2)
  have HT2 := LH (HT1.out.keep (hb2.block p HT1.out.lt.1) (hb2.block g HT1.out.lt.2))
  have HR2 := LH hr2
  clear hq2 hk2 hr2 hb2 HM1 HD1 HT1
  go_wp2_with fail
  refine (bsound_any _ B k2 L HL.out w2 HR2.out.cells hB).mono ?_
  rintro e w3 ⟨rfl, hb3⟩
  rw [HL.out]
  have HM3 := LH (HM2.out.later hb3)
  have HD3 := LH (HD2.out.below hb3)
  have HT3 := LH (HT2.out.keep (hb3.block p HT2.out.lt.1) (hb3.block g HT2.out.lt.2))
  clear hb3 HM2 HD2 HT2 HR2
  obtain ⟨sn, hsn⟩ : ∃ sn, sn = soundN L B 1 := ⟨_, rfl⟩
  rw [← hsn] at HPE ⊢
  clear hsn
  by_cases hs : sn = 0
  case neg =>
    have hs' : decide (sn = 0) = false := by simpa using hs
    rw [hs']
    have HS := LH hs
    clear hs hs'
    go_wp2_with fail
    rw [HPE.out]
    exact ⟨HM3.out.below, .inr (.inl ⟨HOK.out, HS.out, rfl⟩)⟩
  have hs' : decide (sn = 0) = true := by simpa using hs
  rw [hs']
  have HS := LH hs
  clear hs hs'
  have c0 := HM3.out.cell 0 0 rfl rfl
  go_upto_region 7 with fail
  have r0 := fun x => later_cell c0 x
  clear c0
  refine wp_region_seg (C := fun w' => ∃ x : Later (w3), w' = x.val) [.fl [0, 1, 2], .sq [3] true, .sq [4, 5] false, .fl [6, 7, 8], .sq [9] false] (by kernel_rfl) (by kernel_rfl) (by intro c a d v w h; cases d <;> exact h) ?_
  simp only [segs, picks, List.getElem?_cons_succ, List.getElem?_cons_zero]
  have hC1 := later_drew (w3)
  refine wpSeg_fl hC1 ?_
  repeat (first | go_big_quiet_step (fail) | quiet_step (fail))
  refine wpQuiet_nil ?_
  refine wpSeg_sq (fun K hK => ?_)
  go_wp2_with fail
  refine (tspans_any ((HT3.out.keep ((later_below hC1).block p HT3.out.lt.1) ((later_below hC1).block g HT3.out.lt.2)).at HG.out.2.2) (by rw [HL.out]; exact hB)).mono ?_
  rintro e w4 ⟨v, rfl, ho4, hb4⟩
  have hC2 := later_step hC1 hb4
  obtain ⟨a4, c4, rfl, _, hm4⟩ := owned_form ho4
  have HC4 : Hid (Cells w4 a4 (recs Op2.cs (op2s (spansOf L)))) := LH (by rw [op2s_cs]; exact Cells.owned2 ho4)
  have HSl : Hid ((op2s (spansOf L)).length = (spansOf L).length) := LH (by simp [op2s])
  have HSl2 : Hid ((spansOf L).length ≤ 1000000) := LH (by
    have := spanL_len (freeAt L) L.length
    unfold spansOf
    rw [HL.out] at this ⊢
    omega)
  generalize (spansOf L).length = nl at *
  clear ho4 hb4 hm4
  go_wp2_with fail
  refine hK _ _ (fun _ => hC2) ?_
  clear hK K
  refine wpSeg_sq (fun K hK => ?_)
  go_wp2_with fail
  refine (ifill_any (B : Int) (by omega) a4 nl c4 (op2s (spansOf L)) HSl.out _ HC4.out HSl2.out).mono ?_
  rw [show (B : Int).toNat = B from rfl, HFill.out]
  rintro e w5 ⟨hb5, ⟨_, T, kk, rfl, hix, hkk, hT⟩ | ⟨hne, _⟩⟩
  case inr => exact absurd rfl hne
  have hC3 := later_step hC2 hb5
  have HIx := LH hix
  have HTt := LH hT
  have HW4 : Hid (w3.heap.size ≤ w4.heap.size) := LH ((later_below hC2).size)
  clear hix hT hb5 HC4 HSl HSl2
  go_wp2_with fail
  refine hK _ _ (fun _ => hC3) ?_
  clear hK K
  refine wpSeg_fl hC3 ?_
  repeat (first | go_big_quiet_step (fail) | quiet_step (fail))
  refine wpQuiet_nil ?_
  have HM5 := LH (HM3.out.later (later_below hC3))
  have HD5 := LH (HD3.out.below (later_below hC3))
  have HT5 := LH (HT3.out.keep ((later_below hC3).block p HT3.out.lt.1) ((later_below hC3).block g HT3.out.lt.2))
  have HFl3 : Hid (∀ k ∈ F.list, k < w.heap.size) := HMF
  have HT3l : Hid (p < w3.heap.size ∧ g < w3.heap.size) := LH HT3.out.lt
  have c0 := HM5.out.cell 0 0 rfl rfl
  clear hC1 hC2 hC3 r0 HM3 HD3 HT3
  refine wpSeg_last ?_
  go_wp2_with fail
  rw [HPE.out]
  have hbx := below_alloc w5 (.cells #[.pointer (some ⟨p, 0, none⟩), .pointer (some ⟨T.p, 0, none⟩), .int .i64 (B : Int)] 87)
  have hTl := HIx.out.mem
  have hsz := HW4.out
  obtain ⟨hG1, hG2, hG3⟩ := HG.out
  have hW0 := HW0.out
  have h3 := HT3l.out
  have hw05 : w0.heap.size ≤ w5.heap.size := by have := HT5.out.lt; omega
  refine ⟨HM5.out.below.trans (hbx.mono HM5.out.below.size), .inl ⟨HOK.out, HS.out, ⟨w5.heap.size, p, g, cc, F, T⟩, kk, rfl, rfl, ?_, hkk, ?_⟩⟩
  · rw [HBm.out]
    refine ⟨heap_alloc_new _ _, HT5.out.keep (hbx.block p HT5.out.lt.1) (hbx.block g HT5.out.lt.2), HD5.out.below hbx, HIx.out.below hbx, HFl.out, ?_⟩
    obtain ⟨M, E, hmp, _⟩ := HIx.out
    have e1 := hmp.ne1
    have e2 := hmp.ne2
    have e3 := hmp.ne3
    have t1 := HTt.out T.p (by simp [Tri.list])
    have t2 := HTt.out T.s (by simp [Tri.list])
    have t3 := HTt.out T.e (by simp [Tri.list])
    have l1 := hTl T.p (by simp [Tri.list])
    have l2 := hTl T.s (by simp [Tri.list])
    have l3 := hTl T.e (by simp [Tri.list])
    have lp := HT5.out.lt
    have hF : ∀ k, w.heap.size ≤ k → k ∉ F.list := fun k hk hm => by have := HFl3.out k hm; omega
    simp only [MF.list, List.nodup_cons, List.mem_cons, not_or]
    refine ⟨⟨by omega, by omega, by omega, by omega, by omega, hF _ (by omega)⟩, ⟨by omega, by omega, by omega, by omega, hF _ (by omega)⟩, ⟨by omega, e1, e2, hF _ (by omega)⟩, ⟨by omega, by omega, hF _ (by omega)⟩, ⟨e3, hF _ (by omega)⟩, hF _ (by omega), HNF.out⟩
  · intro k hk
    have t1 := HTt.out T.p (by simp [Tri.list])
    have t2 := HTt.out T.s (by simp [Tri.list])
    have t3 := HTt.out T.e (by simp [Tri.list])
    simp only [MF.list, List.mem_cons] at hk
    rcases hk with rfl | rfl | rfl | rfl | rfl | rfl | hk
    · right; omega
    · right; omega
    · right; omega
    · right; omega
    · right; omega
    · right; omega
    · exact .inl hk
theorem fmtTo_dirty {S : Dev} (hS : ∀ l, S.dirty.getD l false = false) (hD : S.cache.length = 8 * S.dirty.length) : ∀ k l, (∀ b, 1 ≤ b → b < k → (256 + b) / 8 ≠ l) → (S.fmtTo k).dirty.getD l false = false
 | 0, l, _ => hS l
 | k + 1, l, h => by
  have ih := fmtTo_dirty hS hD k l (fun b h1 h2 => h b h1 (by omega))
  unfold Dev.fmtTo
  split
  ·exact hS l
  ·rename_i hk
   unfold Dev.store
   by_cases c : (((256 + k : Nat) : Int)) < 0 ∨ (((S.fmtTo k).cache.length : Nat) : Int) ≤ ((256 + k : Nat) : Int)
   ·rw [if_pos c]; exact ih
   ·rw [if_neg c]
    split
    ·rw [(S.fmtTo k).step_rest.2.2.2.1]; exact ih
    ·show ((S.fmtTo k).step.dirty.set (((256 + k : Nat) : Int).toNat / 8) true).getD l false = false
     rw [(S.fmtTo k).step_rest.2.2.2.1, List.getD_eq_getElem?_getD, List.getElem?_set_ne (by have := h k (by omega) (by omega); omega), ← List.getD_eq_getElem?_getD]
     exact ih
structure Formed (S : Dev) (B : Nat) : Prop where
 inv : S.inv
 live : S.live
 ok : S.ok 201000
 len : S.cache.length = 512 * B
 dlen : S.dirty.length = 64 * B
 last : S.lasting = S.cache
 dirty : S.dirty = List.replicate (64 * B) false
 pending : S.pending = List.replicate (64 * B) false
 clean : Clean S B
 allOk : AllOk (devWord S) B
 hds : hds (devWord S) B = List.replicate B ⟨0, 0, 0⟩
 word : ∀ b, 1 ≤ b → b < B → devWord S b = encN b 0 0 0
theorem fmt_formed {B : Nat} (hB2 : 2 ≤ B) (hB : B ≤ 100) : Formed ((freshDev (List.replicate (512 * B) 0) (64 * B)).fmt B) B := by
 obtain ⟨S, hS⟩ : ∃ S, S = freshDev (List.replicate (512 * B) 0) (64 * B) := ⟨_, rfl⟩
 rw [← hS]
 have hl : S.cache.length = 512 * B := by rw [hS]; simp [freshDev]
 have hd : S.dirty.length = 64 * B := by rw [hS]; simp [freshDev]
 have hi : S.inv := by rw [hS]; exact fresh_inv (by simp; omega) (by simp; omega) (fun z hz => by simp at hz; omega)
 have hv : S.live := by rw [hS]; exact fresh_live _ _
 have ho : S.ok 100 := by rw [hS]; exact fresh_ok _ _ _
 have hf : ∀ l, S.dirty.getD l false = false := fun l => by
  rw [hS]; unfold freshDev; simp only [List.getD_eq_getElem?_getD, List.getElem?_replicate]; split <;> rfl
 obtain ⟨p1, p2, p3, p5, p4⟩ := fmtTo_props hv ho B (by rw [hl]; omega)
 have hti := fmtTo_inv hi B
 have he := (p1.persist 257 (B - 1) (by omega) (by rw [p3, p5]; exact hi.wf.lenD) (by rw [p3, hl]; omega)).1
 obtain ⟨q1, q2, q3, q4, q5⟩ := Dev.persist_clean hti 257 (B - 1) (by omega) he
 have hfm : S.fmt B = ((S.fmtTo B).persist ((257 : Nat) : Int) ((B - 1 : Nat) : Int)).dev := by unfold Dev.fmt; rw [show ((B : Int) - 1) = ((B - 1 : Nat) : Int) by omega]; rfl
 rw [← hfm] at q1 q3 q4 q5
 have hinv : (S.fmt B).inv := by rw [hfm]; exact Dev.persist_inv hti _ _
 have hdl : (S.fmt B).dirty.length = 64 * B := by rw [q3, p5, hd]
 have hdirty : ∀ l, (S.fmt B).dirty.getD l false = false := by
  intro l
  by_cases c : ∃ b, 1 ≤ b ∧ b < B ∧ (256 + b) / 8 = l
  ·obtain ⟨b, b1, b2, rfl⟩ := c
   exact q4 (256 + b) (by omega) (by omega)
  ·exact q5 l (fmtTo_dirty hf hi.wf.lenD B l (fun b b1 b2 e => c ⟨b, b1, b2, e⟩))
 have hrep : ∀ n l, (List.replicate n false).getD l false = false := fun n l => by simp only [List.getD_eq_getElem?_getD, List.getElem?_replicate]; split <;> rfl
 refine ⟨hinv, ?_, ?_, by rw [q1, p3, hl], hdl, ?_, ?_, ?_, fmt_clean hi hv ho hB2 (by rw [hl]; omega), fmt_ok hv ho B hB2 hi.wf.lenD (by rw [hl]; omega), fmt_hds hv ho B hB2 hi.wf.lenD (by rw [hl]; omega), fmt_words hv ho B hB2 hi.wf.lenD (by rw [hl]; omega)⟩
 ·rw [hfm]; exact p1.persist_live 257 (B - 1) (by omega) (by rw [p3, p5]; exact hi.wf.lenD) (by rw [p3, hl]; omega)
 ·exact (Dev.persist_ok hti.wf p2 _ _).mono (by omega)
 ·exact nat_ext (hinv.wf.lenL) (fun i => hinv.sound i (hdirty _))
 ·exact bool_ext (by rw [hdl]; simp) (fun l => by rw [hdirty, hrep])
 ·refine bool_ext (by rw [hinv.wf.lenP, hdl]; simp) (fun l => ?_)
  rw [hrep]
  cases hp : (S.fmt B).pending.getD l false with
  | false => rfl
  | true => have := hinv.pend l hp; rw [hdirty] at this; cases this
theorem sound_zero (B : Nat) : ∀ f b, soundN (List.replicate B ⟨0, 0, 0⟩) f b = 0
 | 0, _ => rfl
 | f + 1, b => by
  have hz : (List.replicate B (⟨0, 0, 0⟩ : Hd)).getD b default = ⟨0, 0, 0⟩ := by
   simp only [List.getD_eq_getElem?_getD, List.getElem?_replicate]; split <;> rfl
  rw [soundN, hz, sound_zero B f (b + 1)]
  split
  ·rfl
  ·rw [if_neg (by decide), if_neg (by decide)]
theorem Formed.bm {S : Dev} {B : Nat} (h : Formed S B) (hB : 2 ≤ B) : BmOk B (bmOf S B) := by
 have hz : ∀ b, (List.replicate B (⟨0, 0, 0⟩ : Hd)).getD b default = ⟨0, 0, 0⟩ := fun b => by
  simp only [List.getD_eq_getElem?_getD, List.getElem?_replicate]; split <;> rfl
 unfold bmOf
 rw [h.hds]
 refine ⟨by simp, freeL_len _ _ _, h.clean, fun b _ => by dsimp only; rw [hz]; decide, fun b h1 h2 => ?_, fun b => ?_, fun b h1 h2 hk => ?_⟩
 ·dsimp only
  rw [hz]
  have := h.word b h1 h2
  unfold devWord at this
  rw [show (256 + (b : Int)) = ((256 + b : Nat) : Int) by omega, peek_in] at this
  exact this
 ·dsimp only
  rw [freeL_fb, hz]
  unfold freeAt
  rw [hz]
  constructor
  ·rintro ⟨_, h2, h3, _⟩; exact ⟨h2, h3, rfl⟩
  ·rintro ⟨h2, h3, _⟩; exact ⟨h3, h2, h3, rfl⟩
 ·dsimp only at hk; rw [hz] at hk; cases hk
section
variable {P : Program} {C : World → Prop} {ops : Array Oper} {rest : List Oper} {o : Oper} {a : Act}
theorem wpQuiet_load_arr {Q : Act → Prop} {ty : TypeId} {zs : Array Value} (A : Agg P ty zs) {p : Operand} {g off : Nat} (D : Array Value) (hc : ∀ w, C w → ∀ i v, D.toList[i]? = some v → w.cell? ⟨g, off + i, none⟩ = some v) (hs : D.size = zs.size)
  (hgd : o.guard = none) (ho : o.op = .load ty p) (hp : a.eval p = .pointer (some ⟨g, off, none⟩))
  (hK : wpQuiet P ops C Q rest (a.put o.dst (.agg D))) : wpQuiet P ops C Q (o :: rest) a := by
 have hw : Region.wanted o (yielded ops a.tmps) = true := by simp [Region.wanted, hgd]
 unfold wpQuiet
 rw [if_pos hw]
 refine ⟨_, fun w hC => ?_, hK⟩
 obtain ⟨d, hu, hd⟩ := A.desc
 have hl : (loadCells ⟨g, off, none⟩ D.toList.length).run P w = .ok D.toList.toArray w := run_loadCells_list (P := P) w ⟨g, off, none⟩ D.toList (fun j v hv => by rw [add_none]; exact hc w hC j v hv)
 rw [Array.length_toList, Array.toArray_toList] at hl
 have hagg : (isAgg ty).run P w = .ok true w := by
  unfold isAgg
  rw [Sem.run_bind, run_underlying hu w]
  cases d <;> simp_all
 have hsz := A.size
 have hr : (loadVar ty ⟨g, off, none⟩).run P w = .ok (.agg D) w := by
  cases hq : P.info? ty with
  | none => simp [hq] at hsz
  | some inf =>
   have e : inf.size = D.size := by simp [hq] at hsz; rw [hsz, hs]
   simp [loadVar, hagg, sizeOf, typeInfo, hq, e, hl]
 have hr2 : (Instr.loadAt ty (.pointer (some ⟨g, off, none⟩))).run P w = .ok (.agg D) w := by
  simp only [Instr.loadAt, Instr.sureAddr, Sem.run_bind, Sem.run_pure, Result.andThen]
  exact hr
 unfold Oper.quietAt
 simp only [execOp, ho, hp]
 simp only [Sem.run_bind, hr2, Result.andThen, Sem.run_pure, Oper.quietUpon, and_self]
variable {Q : Exit → Act → World → Prop} {w W : World} {L : List Ent}
end
theorem Mem.front {w W : World} {L E : List Ent} (h : Mem w W (L ++ E)) : Mem w W L :=
 ⟨h.below, fun x hx => h.rows x (List.mem_append_left _ hx), fun x hx => h.base x (List.mem_append_left _ hx), (List.nodup_append.1 (by have := h.nd; rwa [List.map_append] at this)).1⟩
theorem Mem.upto {w W : World} {L : List Ent} (h : Mem w W L) (k : Nat) : Mem w W (L.take k) := Mem.front (E := L.drop k) (by rw [List.take_append_drop]; exact h)
theorem RAt.arr {w : World} {D : Array Value} {m : Nat} {R : RDev} (h : RAt w (.agg D) m R) : D.size = 8 ∧ D.toList.all (·.oneCell') = true := by
 obtain ⟨an, cn, al, cl, aw, cw, ad, cd, ap, cp, he, _⟩ := h.ex
 cases he
 exact ⟨rfl, rfl⟩
theorem RAt.agg {w : World} {v : Value} {m : Nat} {R : RDev} (h : RAt w v m R) : ∃ D, v = .agg D := by
 obtain ⟨an, cn, al, cl, aw, cw, ad, cd, ap, cp, he, _⟩ := h.ex
 exact ⟨_, he⟩
end Go.Proofs.YtpopbfagliagnaaGreat
