/- Parts of the proof, one behind the other: Ry, Uf, We, Yf, Zw, Zl, Oa, St, Et, Eu, Ev, Ew, Ex, Wb, Ey, Wf, Wg, Wm, Wh, Vi, Vj, Vk, Fc, Fd, So, Fe, Vl. -/
import Derived.Test.YtpohaahihdhleaaGreatRA9
import Derived.Deep.CutBlock
import Derived.Lib.ItoaNum
import Derived.Lib.ItoaLen
import Derived.Lib.SplitLaws
import Derived.RangeFuncNested
import Derived.RangeFuncBound
import Derived.RangeFuncCalls
import Derived.RangeFuncLeaves
import Derived.RangeFuncBox
import Derived.Shelf.Abstract
import Derived.WalkKit
import Derived.OwnWalkIn
import Derived.TacticsInMore
import Derived.LoopNIn
import Derived.LoopIn
import Derived.Maps.AppendAt
import Derived.WideKeyEntry
import Derived.Shelf.Sort.Plain
import Derived.Shelf.Slices.In.SortNone
import Derived.Test.YtpohaahihdhleaaGreatProg
set_option linter.unusedVariables false
namespace Go.Proofs.YtpohaahihdhleaaGreat
open Go.RowKit
def headV (o : Odec) : Value := .tuple #[vob o.p o.d, .bool (decide (o.code = 0))]
set_option maxHeartbeats 4000000 in
set_option maxRecDepth 100000 in
theorem rhead15_any {w : World} {v : Value} {S : Dev} {m : Nat} (hm : S.dirty.length = m) (h : RAt w v m S.ref) {N : Nat} (hf : S.fit N) (a : Int) :
  Calls Tryz.prog 75 #[v, .int .i64 a] w fun e w' => e = .returned (headV (headN S a)) ∧ Below w.heap.size w w' := by
 subst hm
 obtain ⟨an, cn, al, cl, aw, cw, ad, cd, ap, cp, m, sv, fz, dd, rfl, ho, hdl, hm8, hsv, hfz⟩ := ropen h hf
 have HV : Hid (headN S a = if a < 0 ∨ (S.cache.length : Int) ≤ a then ⟨0, 0, 22⟩ else
  if (odecN a (peek S.cache a)).code ≠ 0 ∨ (S.cache.length : Int) - a < (objSize (odecN a (peek S.cache a)).p (odecN a (peek S.cache a)).d : Nat) then ⟨0, 0, 22⟩ else ⟨(odecN a (peek S.cache a)).p, (odecN a (peek S.cache a)).d, 0⟩) := LH rfl
 generalize headN S a = R at *
 have HPk := LH (peek_lt hf.wf.u64C a)
 have HO := LH ho
 have HCL := LH ho.cl
 clear h hf ho hdl
 have HM := LH (Mem.two w #[.slice an m cn, .slice al m cl, .slice aw m cw, .slice ad m cd, .slice ap m cp, .int .i64 sv, .int .i64 fz, .bool dd] 38 #[.int .i64 0, .int .i64 0] 109)
 go_enter Tryz.func75, Tryz.ntmps75
 go_upto_region 1 with fail
 generalize (w.alloc _).alloc _ = w0 at *
 have c0 := HM.out.cell 0 0 rfl rfl
 by_cases h1 : a < 0
 ·have HR : Hid (R = ⟨0, 0, 22⟩) := LH (by rw [HV.out, if_pos (.inl h1)])
  go_wp2_with (refine wpList_store_mem aggRo HM.out 1 rfl rfl rfl rfl rfl rfl rfl rfl ?_; intro w9 h9 _; have H9 := LH h9; clear h9)
  exact bodyPost_ret (results_cell_row2 (p := 4) (u := 5) rfl _ _ _ _ _ _ _ rfl (H9.out.exact 1 rfl) Tryz.underlying109 rfl (by kernel_rfl)) rfl ⟨by rw [HR.out]; rfl, H9.out.below⟩
 by_cases h2 : 8 * (m : Int) ≤ a
 ·have HR : Hid (R = ⟨0, 0, 22⟩) := LH (by rw [HV.out, if_pos (.inr (by rw [HCL.out]; omega))])
  go_wp2_with (refine wpList_store_mem aggRo HM.out 1 rfl rfl rfl rfl rfl rfl rfl rfl ?_; intro w9 h9 _; have H9 := LH h9; clear h9)
  exact bodyPost_ret (results_cell_row2 (p := 4) (u := 5) rfl _ _ _ _ _ _ _ rfl (H9.out.exact 1 rfl) Tryz.underlying109 rfl (by kernel_rfl)) rfl ⟨by rw [HR.out]; rfl, H9.out.below⟩
 have HV2 : Hid (R = if (odecN a (peek S.cache a)).code ≠ 0 ∨ 8 * (m : Int) - a < (objSize (odecN a (peek S.cache a)).p (odecN a (peek S.cache a)).d : Nat) then ⟨0, 0, 22⟩ else ⟨(odecN a (peek S.cache a)).p, (odecN a (peek S.cache a)).d, 0⟩) := LH (by
  rw [HV.out, if_neg (by rw [HCL.out]; omega), show (S.cache.length : Int) = 8 * (m : Int) by rw [HCL.out]; omega])
 clear HV
 go_wp2_with fail
 refine (rget_any an m cn S.cache _ (HO.out.k1.below HM.out.below (Nat.le_refl _)) HCL.out (by omega) a).mono ?_
 rintro e w1 ⟨rfl, rfl⟩
 generalize peek S.cache a = x at *
 go_wp2_with fail
 refine (rdecode8_any a x HPk.out _).mono ?_
 rintro e w1 ⟨rfl, hb1⟩
 have HM1 := LH (HM.out.later hb1)
 generalize odecN a x = o at *
 obtain ⟨p, d, c⟩ := o
 unfold Odec.val
 dsimp only at HV2 ⊢
 have HM2 := LH (HM1.out.alloc #[.int .i64 p, .int .i64 d] 109)
 clear hb1 HM c0 HM1
 go_upto_region 4 with fail
 generalize w1.alloc _ = w2 at *
 generalize w1.heap.size = g at *
 by_cases hc : c = 0
 ·subst hc
  have c0 := HM2.out.cell 0 0 rfl rfl
  have d0 := HM2.out.cell 2 0 rfl rfl
  have d1 := HM2.out.cell 2 1 rfl rfl
  have r0 := fun x => later_cell c0 x
  have r1 := fun x => later_cell d0 x
  have r2 := fun x => later_cell d1 x
  have hw : IntKind.i64.wrap (8 * (m : Int) - a) = 8 * (m : Int) - a := IntWalk.i64_in _ (by omega)
  refine wp_region_seg (C := fun w' => ∃ x : Later (w2), w' = x.val) [.sq [0, 1, 2] false, .fl [3, 5, 6, 7, 8, 9, 10], .sq [4] true, .sq [11, 12] false] (by kernel_rfl) (by kernel_rfl) (by intro c a d v w h; cases d <;> exact h) ?_
  simp only [segs, picks, List.getElem?_cons_succ, List.getElem?_cons_zero]
  have hC1 := later_drew (w2)
  refine wpSeg_sq (fun K hK => ?_)
  go_wp2_with fail
  refine hK _ _ (fun h => nomatch h) ?_
  clear hK K
  refine wpSeg_fl hC1 ?_
  repeat (first | go_big_quiet_step (fail) | quiet_step (fail))
  refine wpQuiet_nil ?_
  refine wpSeg_sq (fun K hK => ?_)
  go_wp2_with fail
  have HM3 := LH (HM2.out.later (later_below hC1))
  refine (rsize8_any p d _).mono ?_
  rintro e w3 ⟨rfl, hb3⟩
  have hC2 := later_step hC1 hb3
  have HM4 := LH (HM3.out.later hb3)
  clear hb3 HM3
  go_wp2_with fail
  refine hK _ _ (fun _ => hC2) ?_
  clear hK K
  clear HM2 c0 d0 d1 r0 r1 r2 hC1 hC2
  generalize objSize p d = sz at *
  by_cases h3 : 8 * (m : Int) - a < (sz : Int)
  ·have HR : Hid (R = ⟨0, 0, 22⟩) := LH (by rw [HV2.out, if_pos (.inr h3)])
   refine wpSeg_last ?_
   go_wp2_with (refine wpList_store_mem aggRo HM4.out 1 rfl rfl rfl rfl rfl rfl rfl rfl ?_; intro w9 h9 _; have H9 := LH h9; clear h9)
   exact bodyPost_ret (results_cell_row2 (p := 4) (u := 5) rfl _ _ _ _ _ _ _ rfl (H9.out.exact 1 rfl) Tryz.underlying109 rfl (by kernel_rfl)) rfl ⟨by rw [HR.out]; rfl, H9.out.below⟩
  ·have HR : Hid (R = ⟨p, d, 0⟩) := LH (by rw [HV2.out, if_neg (by simp; omega)])
   refine wpSeg_last ?_
   go_wp2_with (first | (refine wpList_load_mem aggRo HM4.out 2 rfl rfl rfl rfl rfl ?_) | (refine wpList_store_mem aggRo HM4.out 1 rfl rfl rfl rfl rfl rfl rfl rfl ?_; intro w9 h9 _; have H9 := LH h9; clear h9))
   exact bodyPost_ret (results_cell_row2 (p := 4) (u := 5) rfl _ _ _ _ _ _ _ rfl (H9.out.exact 1 rfl) Tryz.underlying109 rfl (by kernel_rfl)) rfl ⟨by rw [HR.out]; rfl, H9.out.below⟩
 ·have HR : Hid (R = ⟨0, 0, 22⟩) := LH (by rw [HV2.out, if_pos (.inl hc)])
  have hc1 : (c != 0) = true := by simpa using hc
  clear hc
  refine wp_region_seg (C := fun w' => ∃ x : Later (w2), w' = x.val) [.sq [0, 1, 2] false, .fl [3, 5, 6, 7, 8, 9, 10], .sq [4] true, .sq [11, 12] false] (by kernel_rfl) (by kernel_rfl) (by intro c a d v w h; cases d <;> exact h) ?_
  simp only [segs, picks, List.getElem?_cons_succ, List.getElem?_cons_zero]
  have hC1 := later_drew (w2)
  refine wpSeg_sq (fun K hK => ?_)
  go_wp2_with fail
  refine hK _ _ (fun h => nomatch h) ?_
  clear hK K
  refine wpSeg_fl hC1 ?_
  repeat (first | go_big_quiet_step (fail) | quiet_step (fail))
  refine wpQuiet_nil ?_
  refine wpSeg_sq (fun K hK => ?_)
  go_wp2_with fail
  go_wp2_with fail
  refine hK _ _ (fun _ => hC1) ?_
  clear hK K
  have HM4 := LH (HM2.out.later (later_below hC1))
  clear HM2 hC1
  refine wpSeg_last ?_
  go_wp2_with (refine wpList_store_mem aggRo HM4.out 1 rfl rfl rfl rfl rfl rfl rfl rfl ?_; intro w9 h9 _; have H9 := LH h9; clear h9)
  exact bodyPost_ret (results_cell_row2 (p := 4) (u := 5) rfl _ _ _ _ _ _ _ rfl (H9.out.exact 1 rfl) Tryz.underlying109 rfl (by kernel_rfl)) rfl ⟨by rw [HR.out]; rfl, H9.out.below⟩
def capP (x : Nat) : Nat := if 1099511627776 < x then 1099511627776 else x
theorem capP_le (x : Nat) : capP x ≤ 1099511627776 := by unfold capP; split <;> omega
set_option maxHeartbeats 1000000 in
theorem optrG_any {w : World} {F : Foot} {S : Dev} (h : DevAt w F S) (a i : Int) :
  Calls Tryz.prog 200 #[vdev F, .int .i64 a, .int .i64 i] w fun e w' => e = .returned (.tuple #[.int .i64 ((if (placeN S a i false).code = 0 then capP (peek S.cache (placeN S a i false).at_) else 0 : Nat) : Int), .int .i64 (placeN S a i false).code]) ∧ Below w.heap.size w w' := by
 have HD := LH h
 clear h
 obtain ⟨pn, hpn⟩ : ∃ pn, pn = placeN S a i false := ⟨_, rfl⟩
 rw [← hpn]
 have HPN := LH hpn
 clear hpn
 generalize hR : (if pn.code = 0 then capP (peek S.cache pn.at_) else 0 : Nat) = R
 have HR := LH hR
 clear hR
 go_enter Tryz.func200, Tryz.ntmps200
 go_wp2_with fail
 refine (ofield_any HD.out a i false).mono ?_
 rw [← HPN.out]
 rintro e w1 ⟨rfl, hb1⟩
 clear HPN
 obtain ⟨q, c⟩ := pn
 dsimp only at HR ⊢
 have HB := LH hb1
 have HD1 := LH (HD.out.below hb1)
 clear hb1 HD
 by_cases hc : c = 0
 ·subst hc
  go_wp2_with fail
  refine (dget_any HD1.out q).mono ?_
  rintro e w2 ⟨rfl, rfl⟩
  rw [if_pos trivial] at HR
  generalize peek S.cache q = x at *
  by_cases hx : 1099511627776 < x
  ·have HV : Hid (R = 1099511627776) := LH (by rw [← HR.out]; unfold capP; rw [if_pos hx])
   have hmin : min (x : Int) 1099511627776 = 1099511627776 := Int.min_eq_right (by omega)
   go_wp2_with fail
   go_ret2
   exact ⟨by rw [HV.out]; rfl, HB.out⟩
  ·have HV : Hid (R = x) := LH (by rw [← HR.out]; unfold capP; rw [if_neg hx])
   have hmin : min (x : Int) 1099511627776 = (x : Int) := Int.min_eq_left (by omega)
   go_wp2_with fail
   go_ret2
   exact ⟨by rw [HV.out]; rfl, HB.out⟩
 ·have hc1 : (c != 0) = true := by simpa using hc
  have HV : Hid (R = 0) := LH (by rw [← HR.out, if_neg hc])
  clear hc
  go_wp2_with fail
  go_ret2
  exact ⟨by rw [HV.out]; rfl, HB.out⟩
def ptrL (S : Dev) (a : Int) (k : Nat) : List Nat := (List.range k).map fun i : Nat => capP (peek S.cache (a + 1 + (i : Int)))
theorem ptrL_succ (S : Dev) (a : Int) (k : Nat) : ptrL S a (k + 1) = ptrL S a k ++ [capP (peek S.cache (a + 1 + (k : Int)))] := by simp [ptrL, List.range_succ]
theorem ptrL_length (S : Dev) (a : Int) (k : Nat) : (ptrL S a k).length = k := by simp [ptrL]
def PtrsPost (S : Dev) (a : Int) (w : World) : Ending → World → Prop := fun e w' => Below w.heap.size w w' ∧
      (((headN S a).code = 0 ∧ ∃ v, e = .returned (.tuple #[v, .int .i64 0]) ∧ w'.ownsRow w.heap.size 3 1 v (headN S a).p.toNat ((ptrL S a (headN S a).p.toNat).map vi)) ∨
       ((headN S a).code = 22 ∧ e = .returned (.tuple #[.slice none 0 0, .int .i64 22])))
set_option maxHeartbeats 1000000 in
set_option maxRecDepth 20000 in
theorem optrs_any {w : World} {F : Foot} {S : Dev} (h : DevAt w F S) (a : Int) :
  Calls Tryz.prog 173 #[vdev F, .int .i64 a] w (PtrsPost S a w) := by
 generalize hP : PtrsPost S a w = Post
 have HP := LH hP
 clear hP
 have HSm := LH (head_small h.small (a := a))
 have HD := LH h
 have HPl : Hid (∀ i, placeN S a i false = if (headN S a).code ≠ 0 then ⟨0, 22⟩ else if false = true then (if 0 ≤ i ∧ i < (headN S a).d then ⟨a + (1 + (headN S a).p + i), 0⟩ else ⟨0, 7⟩) else (if 0 ≤ i ∧ i < (headN S a).p then ⟨a + (1 + i), 0⟩ else ⟨0, 7⟩)) := LH (fun i => rfl)
 clear h
 go_enter Tryz.func173, Tryz.ntmps173
 go_wp2_with fail
 refine (ohead_any HD.out a).mono ?_
 rintro e w1 ⟨rfl, hb1⟩
 have hC22 := headN_code2 S a
 generalize hX : headN S a = x at *
 have HX := LH hX
 clear hX
 obtain ⟨p, d, c⟩ := x
 unfold Odec.val
 dsimp only at HSm HPl hC22 ⊢
 have HM := LH (((Mem.start w).later hb1).alloc #[.int .i64 p, .int .i64 d] 211)
 clear hb1
 go_upto_region 2 with fail
 generalize w1.alloc _ = w2 at *
 generalize w1.heap.size = g at *
 have c0 := HM.out.cell 0 0 rfl rfl
 by_cases hc : c = 0
 ·subst hc
  obtain ⟨ha, ⟨hp0, hp1⟩, _⟩ := HSm.out rfl
  obtain ⟨n, rfl⟩ := Int.eq_ofNat_of_zero_le hp0
  have HPk : Hid (∀ k : Nat, k < n → placeN S a (k : Int) false = ⟨a + (1 + (k : Int)), 0⟩) := LH (fun k hk => by rw [HPl.out, if_neg (by simp), if_neg (by simp), if_pos (by omega)])
  clear hC22 HSm HPl
  go_wp2_with fail
  go_loopw [8, 23] (fun v i wr => ∃ k : Nat, k ≤ n ∧ i = .int .i64 k ∧ wr.ownsRow w2.heap.size 3 1 v k ((ptrL S a k).map vi) ∧ Below w2.heap.size w2 wr) (fun _ i _ => n - (intOf i).toNat)
  case atStart => exact ⟨0, Nat.zero_le _, rfl, ⟨rfl, .inl ⟨rfl, rfl⟩⟩, Below.refl _ _⟩
  case round =>
   obtain ⟨k, hk, rfl, ho, hb⟩ := hrel
   obtain ⟨a1, c1, rfl, hc1, hm1⟩ := owned_form ho
   have HO := LH ho
   have HB := LH hb
   clear ho hb
   by_cases hlt : k < n
   ·have hlt' : (k : Int) < (n : Int) := by omega
    have HS := LH (ptrL_succ S a k)
    go_wp2_with fail
    refine (optrG_any ((HD.out.below HM.out.below).below HB.out) a k).mono ?_
    rw [HPk.out k hlt]
    rintro e w3 ⟨rfl, hb3⟩
    rw [if_pos rfl]
    dsimp only
    rw [show a + (1 + (k : Int)) = a + 1 + (k : Int) by omega]
    generalize capP (peek S.cache (a + 1 + (k : Int))) = y at *
    have HO3 := LH (owned_below HO.out hb3 (Nat.le_refl _))
    have HB3 := LH (HB.out.trans (hb3.mono HB.out.size))
    have hone : Hid (∀ u ∈ (#[vi y] : Array Value).toList, u.oneCell' = true) := LH (by intro u hu; simp at hu; subst hu; rfl)
    have hbase : Hid (w2.heap.size ≤ w3.heap.size) := LH HB3.out.size
    have hk9 : k < 1000000000000 := by omega
    clear hb3 HO HB
    go_wp2_with (at_builtin; refine wpList_append_new (us := #[vi y]) elInt HO3.out rfl hone.out hk9 (by decide) hbase.out rfl rfl rfl (by simp [Act.eval]) ?_; intro g6 c6 w6 ho6 hg6 hc6 hm6 hb6 hl6; have HO6 := LH ho6; have HG6 := LH hg6; clear ho6 hg6)
    refine ⟨⟨k + 1, by omega, vint (by omega), ?_, below_grownBy HB3.out HO3.out HG6.out (Nat.le_refl _) (Nat.le_refl _)⟩, by simp [intOf]; omega⟩
    rw [HS.out]
    simpa using HO6.out
   ·obtain rfl : k = n := by omega
    have hlt' : decide ((k : Int) < (k : Int)) = false := by simp
    go_wp2_with fail
    rw [← HP.out]
    refine ⟨(HM.out.later HB.out).below, .inl ⟨by rw [HX.out], _, rfl, ?_⟩⟩
    rw [HX.out]
    exact owned_base HO.out HM.out.below.size
 ·have hc2 : c = 22 := hC22.elim (fun h => absurd h hc) id
  subst hc2
  clear hc hC22
  go_wp2_with fail
  rw [← HP.out]
  exact ⟨HM.out.below, .inr ⟨by rw [HX.out], rfl⟩⟩
def RList (e n : Nat) (vs : List Value) (w : World) : Ending → World → Prop := fun r w' => ∃ v, r = .returned v ∧ w'.ownsRow w.heap.size e 1 v n vs ∧ Below w.heap.size w w'
set_option maxHeartbeats 2000000 in
set_option maxRecDepth 20000 in
theorem rwords15_any {w : World} {v : Value} {S : Dev} {m : Nat} (hm : S.dirty.length = m) (h : RAt w v m S.ref) {N : Nat} (hf : S.fit N) (a : Int) :
  Calls Tryz.prog 31 #[v, .int .i64 a] w (RList 40 (if (headN S a).code = 0 then objSize (headN S a).p (headN S a).d else 0) ((wordsAt S.cache a (if (headN S a).code = 0 then objSize (headN S a).p (headN S a).d else 0)).map vu64) w) := by
 subst hm
 obtain ⟨an, cn, al, cl, aw, cw, ad, cd, ap, cp, m, sv, fz, dd, rfl, ho, hdl, hm8, hsv, hfz⟩ := ropen h hf
 have HRA := LH h
 have HF := LH hf
 have HSm := LH (head_small hf.wf.small (a := a))
 rw [hdl] at HRA
 have HK1 := LH ho.k1
 have HCL := LH ho.cl
 obtain ⟨n, hn⟩ : ∃ n, n = if (headN S a).code = 0 then objSize (headN S a).p (headN S a).d else 0 := ⟨_, rfl⟩
 rw [← hn]
 generalize hpo : RList 40 n ((wordsAt S.cache a n).map vu64) w = Post
 have HDL := LH hdl
 have HN := LH hn
 have HPO := LH hpo
 clear hdl hn hpo
 clear h hf ho
 have HM := LH (Mem.one w #[.slice an m cn, .slice al m cl, .slice aw m cw, .slice ad m cd, .slice ap m cp, .int .i64 sv, .int .i64 fz, .bool dd] 38)
 go_enter Tryz.func31, Tryz.ntmps31
 go_upto_region 1 with fail
 generalize w.alloc _ = w0 at *
 go_wp2_with (refine wpList_load_mem aggRd HM.out 0 rfl rfl rfl rfl rfl ?_)
 refine (rhead15_any HDL.out (HRA.out.below HM.out.below (Nat.le_refl _)) HF.out a).mono ?_
 rintro e w1 ⟨rfl, hb1⟩
 generalize headN S a = x at *
 obtain ⟨p, d, c⟩ := x
 unfold headV
 dsimp only at HSm HN ⊢
 have HM2 := LH ((HM.out.later hb1).alloc #[.int .i64 p, .int .i64 d] 109)
 clear hb1 HM
 by_cases hc : c = 0
 ·subst hc
  obtain ⟨ha, hp, hd⟩ := HSm.out rfl
  have hnp : objSize p d = n := by have := HN.out; rw [if_pos rfl] at this; exact this.symm
  have hszl := objSize_le p d
  rw [hnp] at hszl
  have HNP := LH hnp
  clear hnp
  rw [decide_eq_true (show (0 : Int) = 0 from rfl)]
  go_upto_region 2 with fail
  generalize w1.alloc _ = w2 at *
  generalize w1.heap.size = g at *
  go_wp2_with fail
  go_loopw [7, 8] (fun v i wr => ∃ k : Nat, k ≤ n ∧ i = .int .i64 k ∧ wr.ownsRow w2.heap.size 40 1 v k ((wordsAt S.cache a k).map vu64) ∧ Below w2.heap.size w2 wr) (fun _ i _ => n - (intOf i).toNat)
  case atStart => exact ⟨0, Nat.zero_le _, rfl, ⟨rfl, .inl ⟨rfl, rfl⟩⟩, Below.refl _ _⟩
  case round =>
   obtain ⟨k, hk, rfl, ho, hb⟩ := hrel
   obtain ⟨a1, c1, rfl, hc1, hm1⟩ := owned_form ho
   have c0 := (HM2.out.later hb).cell 0 0 rfl rfl
   have o0 := (HM2.out.later hb).cell 1 0 rfl rfl
   have o1 := (HM2.out.later hb).cell 1 1 rfl rfl
   have HO := LH ho
   have HB := LH hb
   clear ho hb
   by_cases hlt : k < n
   ·have hlt' : (k : Int) < (n : Int) := by omega
    have HS := LH (wordsAt_succ S.cache a k)
    go_wp2_with fail
    refine (rsize8_any p d _).mono ?_
    rintro e w3 ⟨rfl, hb3⟩
    rw [HNP.out]
    have HO3 := LH (owned_below HO.out hb3 (Nat.le_refl _))
    have HB3 := LH (HB.out.trans (hb3.mono HB.out.size))
    have c0 := (HM2.out.later HB3.out).cell 0 0 rfl rfl
    clear hb3 HO HB
    go_wp2_with fail
    refine (rget_any an m cn S.cache _ (HK1.out.below (HM2.out.later HB3.out).below (Nat.le_refl _)) HCL.out (by omega) _).mono ?_
    rintro e w4 ⟨rfl, rfl⟩
    generalize peek S.cache (a + (k : Int)) = y at *
    have hone : Hid (∀ u ∈ (#[vu64 y] : Array Value).toList, u.oneCell' = true) := LH (by intro u hu; simp at hu; subst hu; rfl)
    have hbase : Hid (w2.heap.size ≤ w3.heap.size) := LH HB3.out.size
    have hk9 : k < 1000000000000 := by omega
    go_wp2_with (at_builtin; refine wpList_append_new (us := #[vu64 y]) el64 HO3.out rfl hone.out hk9 (by decide) hbase.out rfl rfl rfl (by simp [Act.eval]) ?_; intro g6 c6 w6 ho6 hg6 hc6 hm6 hb6 hl6; have HO6 := LH ho6; have HG6 := LH hg6; clear ho6 hg6)
    refine ⟨⟨k + 1, by omega, vint (by omega), ?_, below_grownBy HB3.out HO3.out HG6.out (Nat.le_refl _) (Nat.le_refl _)⟩, by simp [intOf]; omega⟩
    rw [HS.out]
    simpa using HO6.out
   ·obtain rfl : k = n := by omega
    have hlt' : decide ((k : Int) < (k : Int)) = false := by simp
    go_wp2_with fail
    refine (rsize8_any p d _).mono ?_
    rintro e w3 ⟨rfl, hb3⟩
    rw [HNP.out]
    have HO3 := LH (owned_below HO.out hb3 (Nat.le_refl _))
    have HB3 := LH (HB.out.trans (hb3.mono HB.out.size))
    clear hb3
    go_wp2_with fail
    rw [← HPO.out]
    exact ⟨_, rfl, owned_base HO3.out HM2.out.below.size, (HM2.out.later HB3.out).below⟩
 ·have hn0 : n = 0 := by rw [HN.out, if_neg hc]
  subst hn0
  rw [decide_eq_false hc]
  clear hc
  go_upto_region 2 with fail
  generalize w1.alloc _ = w2 at *
  generalize w1.heap.size = g at *
  go_wp2_with fail
  go_loopw [7, 8] (fun v i wr => v = .slice none 0 0 ∧ i = .int .i64 0 ∧ wr = w2) (fun _ i _ => 0)
  case atStart => exact ⟨rfl, rfl, rfl⟩
  case round =>
   obtain ⟨rfl, rfl, rfl⟩ := hrel
   go_wp2_with fail
   rw [← HPO.out]
   exact ⟨_, rfl, ⟨rfl, .inl ⟨rfl, rfl⟩⟩, HM2.out.below⟩
end Go.Proofs.YtpohaahihdhleaaGreat
namespace Go.Proofs.YtpohaahihdhleaaGreat
open Go.RowKit Go.Maps
end Go.Proofs.YtpohaahihdhleaaGreat
namespace Go.Proofs.YtpohaahihdhleaaGreat
open Go.RowKit
def bmOf (S : Dev) (B : Nat) : Bm := ⟨S, hds (devWord S) B, freeL (freeAt (hds (devWord S) B)) B B⟩
def OpenBm (w : World) (F : Foot) (S : Dev) (B : Nat) : Ending → World → Prop := fun e w' => Below w.heap.size w w' ∧
  ((AllOk (devWord S) B ∧ soundN (hds (devWord S) B) B 1 = 0 ∧ ∃ (X : MF) (n : Nat), e = .returned (.tuple #[.pointer (some ⟨X.m, 0, none⟩), .int .i64 0]) ∧ X.F = F ∧ ManAt w' X n B (bmOf S B) ∧ n ≤ 1000000 ∧
      (∀ k ∈ X.list, k ∈ F.list ∨ w.heap.size ≤ k)) ∨
   (AllOk (devWord S) B ∧ soundN (hds (devWord S) B) B 1 ≠ 0 ∧ e = .returned (.tuple #[.pointer none, .int .i64 40])) ∨
   (¬ AllOk (devWord S) B ∧ e = .returned (.tuple #[.pointer none, .int .i64 21])))
theorem bspans_fill (l : List Hd) (B : Nat) (h : l.length = B) : fillR (op2s (spansOf l)) (List.replicate B false) = (freeL (freeAt l) B B, 0) := by
 unfold spansOf
 rw [h]
 exact fill_spans (freeAt l) B B (Nat.le_refl _)
set_option maxHeartbeats 4000000 in
set_option maxRecDepth 20000 in
theorem bopen_any {w : World} {F : Foot} {S : Dev} (h : DevAt w F S) (B : Nat) (hB1 : 1 ≤ B) (hB : B ≤ 1000) :
    Calls Tryz.prog 69 #[vdev F, vgeom B] w (OpenBm w F S B) := by
  have HM := LH (Mem.one w #[.int .i64 (B : Int)] 44)
  have HD := LH (h.below HM.out.below)
  have HMF := LH h.mem
  have HNF := LH h.nodup
  have HL : Hid ((hds (devWord S) B).length = B) := LH (hds_length _ _)
  have HFill := LH (bspans_fill (hds (devWord S) B) B HL.out)
  have HBm : Hid (bmOf S B = ⟨S, hds (devWord S) B, freeL (freeAt (hds (devWord S) B)) B B⟩) := LH rfl
  have HFl : Hid ((freeL (freeAt (hds (devWord S) B)) B B).length = B) := LH (freeL_len _ _ _)
  have HPE : Hid (OpenBm w F S B = fun e w' => Below w.heap.size w w' ∧
  ((AllOk (devWord S) B ∧ soundN (hds (devWord S) B) B 1 = 0 ∧ ∃ (X : MF) (n : Nat), e = .returned (.tuple #[.pointer (some ⟨X.m, 0, none⟩), .int .i64 0]) ∧ X.F = F ∧ ManAt w' X n B (bmOf S B) ∧ n ≤ 1000000 ∧
      (∀ k ∈ X.list, k ∈ F.list ∨ w.heap.size ≤ k)) ∨
   (AllOk (devWord S) B ∧ soundN (hds (devWord S) B) B 1 ≠ 0 ∧ e = .returned (.tuple #[.pointer none, .int .i64 40])) ∨
   (¬ AllOk (devWord S) B ∧ e = .returned (.tuple #[.pointer none, .int .i64 21])))) := LH rfl
  generalize hP : OpenBm w F S B = Post at *
  clear h hP
  go_enter Tryz.func69, Tryz.ntmps69
  go_upto_region 1 with fail
  generalize hw0 : w.alloc _ = w0 at *
  clear hw0
  obtain ⟨q, hq⟩ : ∃ q, q = w.heap.size := ⟨_, rfl⟩
  rw [← hq] at HM ⊢
  have HQ := LH hq
  clear hq
  have c0 := HM.out.cell 0 0 rfl rfl
  unfold vdev at *
  go_wp2_with fail
  refine (open_tabG HD.out B hB1 hB).mono ?_
  rintro e w1 ⟨hb1, ⟨hok, p, g, cc, rfl, hp, hg, hpg, htab⟩ | ⟨b, hb0, hbB, hok, hbad, rfl⟩⟩
  case inr =>
    have HE : Hid (¬ AllOk (devWord S) B) := LH (fun h => hbad (h b hb0 hbB))
    have HB1 := LH (HM.out.later hb1)
    clear hok hbad hb1
    go_wp2_with fail
    rw [HPE.out]
    exact ⟨HB1.out.below, .inr (.inr ⟨HE.out, rfl⟩)⟩
  have HM1 := LH (HM.out.later hb1)
  have HD1 := LH (HD.out.below hb1)
  have HT1 := LH htab
  have HOK := LH hok
  have HG : Hid (w0.heap.size ≤ p ∧ w0.heap.size ≤ g ∧ p ≠ g) := LH ⟨hp, hg, hpg⟩
  have HW0 : Hid (w.heap.size + 1 ≤ w0.heap.size) := LH (by have := HM.out.glt 0 rfl; have := HQ.out; omega)
  clear hb1 htab hok hp hg hpg c0 HM HD
  generalize hds (devWord S) B = L at *
  go_wp2_with fail
  refine (tall_any HT1.out hB).mono ?_
  rintro e w2 ⟨a2, k2, rfl, hq2, hk2, hr2, hb2⟩
  have HM2 := LH (HM1.out.later hb2)
  have HD2 := LH (HD1.out.below hb2)
  have HT2 := LH (HT1.out.keep (hb2.block p HT1.out.lt.1) (hb2.block g HT1.out.lt.2))
  have HR2 := LH hr2
  clear hq2 hk2 hr2 hb2 HM1 HD1 HT1
  go_wp2_with fail
  refine (bsound_any _ B k2 L HL.out w2 HR2.out.cells hB).mono ?_
  rintro e w3 ⟨rfl, hb3⟩
  rw [HL.out]
  have HM3 := LH (HM2.out.later hb3)
  have HD3 := LH (HD2.out.below hb3)
  have HT3 := LH (HT2.out.keep (hb3.block p HT2.out.lt.1) (hb3.block g HT2.out.lt.2))
  clear hb3 HM2 HD2 HT2 HR2
  obtain ⟨sn, hsn⟩ : ∃ sn, sn = soundN L B 1 := ⟨_, rfl⟩
  rw [← hsn] at HPE ⊢
  clear hsn
  by_cases hs : sn = 0
  case neg =>
    have hs' : decide (sn = 0) = false := by simpa using hs
    rw [hs']
    have HS := LH hs
    clear hs hs'
    go_wp2_with fail
    rw [HPE.out]
    exact ⟨HM3.out.below, .inr (.inl ⟨HOK.out, HS.out, rfl⟩)⟩
  have hs' : decide (sn = 0) = true := by simpa using hs
  rw [hs']
  have HS := LH hs
  clear hs hs'
  have c0 := HM3.out.cell 0 0 rfl rfl
  go_upto_region 7 with fail
  have r0 := fun x => later_cell c0 x
  clear c0
  refine wp_region_seg (C := fun w' => ∃ x : Later (w3), w' = x.val) [.fl [0, 1, 2], .sq [3] true, .sq [4, 5] false, .fl [6, 7, 8], .sq [9] false] (by kernel_rfl) (by kernel_rfl) (by intro c a d v w h; cases d <;> exact h) ?_
  simp only [segs, picks, List.getElem?_cons_succ, List.getElem?_cons_zero]
  have hC1 := later_drew (w3)
  refine wpSeg_fl hC1 ?_
  repeat (first | go_big_quiet_step (fail) | quiet_step (fail))
  refine wpQuiet_nil ?_
  refine wpSeg_sq (fun K hK => ?_)
  go_wp2_with fail
  refine (tspans_any ((HT3.out.keep ((later_below hC1).block p HT3.out.lt.1) ((later_below hC1).block g HT3.out.lt.2)).at HG.out.2.2) (by rw [HL.out]; exact hB)).mono ?_
  rintro e w4 ⟨v, rfl, ho4, hb4⟩
  have hC2 := later_step hC1 hb4
  obtain ⟨a4, c4, rfl, _, hm4⟩ := owned_form ho4
  have HC4 : Hid (Cells w4 a4 (recs Op2.cs (op2s (spansOf L)))) := LH (by rw [op2s_cs]; exact Cells.owned2 ho4)
  have HSl : Hid ((op2s (spansOf L)).length = (spansOf L).length) := LH (by simp [op2s])
  have HSl2 : Hid ((spansOf L).length ≤ 1000000) := LH (by
    have := spanL_len (freeAt L) L.length
    unfold spansOf
    rw [HL.out] at this ⊢
    omega)
  generalize (spansOf L).length = nl at *
  clear ho4 hb4 hm4
  go_wp2_with fail
  refine hK _ _ (fun _ => hC2) ?_
  clear hK K
  refine wpSeg_sq (fun K hK => ?_)
  go_wp2_with fail
  refine (ifill_any (B : Int) (by omega) a4 nl c4 (op2s (spansOf L)) HSl.out _ HC4.out HSl2.out).mono ?_
  rw [show (B : Int).toNat = B from rfl, HFill.out]
  rintro e w5 ⟨hb5, ⟨_, T, kk, rfl, hix, hkk, hT⟩ | ⟨hne, _⟩⟩
  case inr => exact absurd rfl hne
  have hC3 := later_step hC2 hb5
  have HIx := LH hix
  have HTt := LH hT
  have HW4 : Hid (w3.heap.size ≤ w4.heap.size) := LH ((later_below hC2).size)
  clear hix hT hb5 HC4 HSl HSl2
  go_wp2_with fail
  refine hK _ _ (fun _ => hC3) ?_
  clear hK K
  refine wpSeg_fl hC3 ?_
  repeat (first | go_big_quiet_step (fail) | quiet_step (fail))
  refine wpQuiet_nil ?_
  have HM5 := LH (HM3.out.later (later_below hC3))
  have HD5 := LH (HD3.out.below (later_below hC3))
  have HT5 := LH (HT3.out.keep ((later_below hC3).block p HT3.out.lt.1) ((later_below hC3).block g HT3.out.lt.2))
  have HFl3 : Hid (∀ k ∈ F.list, k < w.heap.size) := HMF
  have HT3l : Hid (p < w3.heap.size ∧ g < w3.heap.size) := LH HT3.out.lt
  have c0 := HM5.out.cell 0 0 rfl rfl
  clear hC1 hC2 hC3 r0 HM3 HD3 HT3
  refine wpSeg_last ?_
  go_wp2_with fail
  rw [HPE.out]
  have hbx := below_alloc w5 (.cells #[.pointer (some ⟨p, 0, none⟩), .pointer (some ⟨T.p, 0, none⟩), .int .i64 (B : Int)] 87)
  have hTl := HIx.out.mem
  have hsz := HW4.out
  obtain ⟨hG1, hG2, hG3⟩ := HG.out
  have hW0 := HW0.out
  have h3 := HT3l.out
  have hw05 : w0.heap.size ≤ w5.heap.size := by have := HT5.out.lt; omega
  refine ⟨HM5.out.below.trans (hbx.mono HM5.out.below.size), .inl ⟨HOK.out, HS.out, ⟨w5.heap.size, p, g, cc, F, T⟩, kk, rfl, rfl, ?_, hkk, ?_⟩⟩
  · rw [HBm.out]
    refine ⟨heap_alloc_new _ _, HT5.out.keep (hbx.block p HT5.out.lt.1) (hbx.block g HT5.out.lt.2), HD5.out.below hbx, HIx.out.below hbx, HFl.out, ?_⟩
    obtain ⟨M, E, hmp, _⟩ := HIx.out
    have e1 := hmp.ne1
    have e2 := hmp.ne2
    have e3 := hmp.ne3
    have t1 := HTt.out T.p (by simp [Tri.list])
    have t2 := HTt.out T.s (by simp [Tri.list])
    have t3 := HTt.out T.e (by simp [Tri.list])
    have l1 := hTl T.p (by simp [Tri.list])
    have l2 := hTl T.s (by simp [Tri.list])
    have l3 := hTl T.e (by simp [Tri.list])
    have lp := HT5.out.lt
    have hF : ∀ k, w.heap.size ≤ k → k ∉ F.list := fun k hk hm => by have := HFl3.out k hm; omega
    simp only [MF.list, List.nodup_cons, List.mem_cons, not_or]
    refine ⟨⟨by omega, by omega, by omega, by omega, by omega, hF _ (by omega)⟩, ⟨by omega, by omega, by omega, by omega, hF _ (by omega)⟩, ⟨by omega, e1, e2, hF _ (by omega)⟩, ⟨by omega, by omega, hF _ (by omega)⟩, ⟨e3, hF _ (by omega)⟩, hF _ (by omega), HNF.out⟩
  · intro k hk
    have t1 := HTt.out T.p (by simp [Tri.list])
    have t2 := HTt.out T.s (by simp [Tri.list])
    have t3 := HTt.out T.e (by simp [Tri.list])
    simp only [MF.list, List.mem_cons] at hk
    rcases hk with rfl | rfl | rfl | rfl | rfl | rfl | hk
    · right; omega
    · right; omega
    · right; omega
    · right; omega
    · right; omega
    · right; omega
    · exact .inl hk
end Go.Proofs.YtpohaahihdhleaaGreat
namespace Go.Proofs.YtpohaahihdhleaaGreat
open Go.Lib
def over (n d : Int) : Bool := decide (n > 922337203685477580) || decide (n < -922337203685477580) || (decide (n = 922337203685477580) && decide (d > 7)) || (decide (n = -922337203685477580) && decide (d < -8))
end Go.Proofs.YtpohaahihdhleaaGreat
namespace Go.Proofs.YtpohaahihdhleaaGreat
open Go.RowKit
open Go.Lib (decDigits itoa nDigits)
def Gives (v : Value) (w : World) : Ending → World → Prop := fun e w' => e = .returned v ∧ Below w.heap.size w w'
theorem AF.hot_list {A : AF} {k : Nat} (h : k ∈ A.hot) : k ∈ A.list := by
 simp only [AF.hot, AF.list, AF.fix, List.mem_append, List.mem_cons] at h ⊢
 rcases h with h | h | h
 ·exact .inl (.inr (.inl (MF.hot_sub h)))
 ·exact .inl (.inr (.inr h))
 ·exact .inr h
theorem AF.re_list {A : AF} {R : List Nat} {k : Nat} (h : k ∈ (A.re R).list) : k ∈ A.list ∨ k ∈ R := by
 simp only [AF.re, AF.list, AF.fix, List.mem_append, List.mem_cons] at h ⊢
 rcases h with h | h
 ·exact .inl (.inl h)
 ·exact .inr h
def nowD (S : Dev) : Dev := freshDev S.cache S.dirty.length
theorem nowD_fit {S : Dev} (h : S.wf) (N : Nat) : (nowD S).fit N :=
 ⟨⟨rfl, by simp [nowD, freshDev], by simp [nowD, freshDev], by simp [nowD, freshDev, h.lenD], h.small, h.u64C, h.u64C, fun z hz => by simp [nowD, freshDev] at hz; omega⟩, fresh_ok _ _ _, fun h => by cases h⟩
section
variable {B : Nat} {m m' : Al} {xs : List Nat}
theorem nodup_count {l : List Nat} (h : l.Nodup) (a : Nat) : l.count a ≤ 1 := List.nodup_iff_count.1 h a
theorem objSize_is {p d : Int} (h : objSize p d ≠ 0) : (objSize p d : Int) = 1 + p + d := by
 unfold objSize at h ⊢
 split
 ·next c => rw [if_pos c] at h; exact absurd rfl h
 ·omega
end
section
variable {w wr w' : World} {Q : List Nat} {A : AF} {n n' B N N' : Nat} {m m' : Al} {v v' : Value} {xs xs' : List Nat}
end
end Go.Proofs.YtpohaahihdhleaaGreat
namespace Go.Proofs.YtpohaahihdhleaaGreat
open Go.RowKit Go.Shelf
attribute [local go_sem] Oper.semAt_some
theorem onesF_next {l : List Bool} {a : Nat} : onesF l a = match nextB l a with | some i => i :: onesF l (i + 1) | none => [] := by
 cases h : nextB l a with
 | none => exact onesF_none h
 | some i => exact onesF_step h
def Coming (l : List Bool) (pre : List Nat) (o : Option Nat) : Prop := onesL l = pre ++ (match o with | some i => i :: onesF l (i + 1) | none => [])
theorem Coming.start (l : List Bool) : Coming l [] (nextB l 0) := by unfold Coming; rw [List.nil_append, ← onesF_zero]; exact onesF_next
theorem Coming.next {l : List Bool} {pre : List Nat} {i : Nat} (h : Coming l pre (some i)) : Coming l (pre ++ [i]) (nextB l (i + 1)) := by
 unfold Coming at h ⊢
 rw [h, ← onesF_next]; simp
theorem Coming.done {l : List Bool} {pre : List Nat} (h : Coming l pre none) : pre = onesL l := by unfold Coming at h; simpa using h.symm
theorem Coming.lt {l : List Bool} {pre : List Nat} {i : Nat} (h : Coming l pre (some i)) : pre.length < (onesL l).length := by unfold Coming at h; rw [h]; simp
theorem Coming.pre {l : List Bool} {pre : List Nat} {i : Nat} (h : Coming l pre (some i)) : pre ++ [i] <+: onesL l := by unfold Coming at h; rw [h]; exact ⟨onesF l (i + 1), by simp⟩
theorem Coming.in_ {l : List Bool} {pre : List Nat} {i : Nat} (h : Coming l pre (some i)) : i < l.length := by
 have : i ∈ onesL l := by unfold Coming at h; rw [h]; simp
 unfold onesL at this
 exact List.mem_range.1 (List.mem_filter.1 this).1
theorem nextV_eq (o : Option Nat) : nextV o = .tuple #[.int .i64 ((o.getD 0 : Nat) : Int), .bool o.isSome] := by cases o <;> rfl
def leftB (n : Nat) (v b : Value) : Nat := match b with
 | .bool true => n + 1 - (intOf v).toNat
 | _ => 0
theorem leftB_next {l : List Bool} {pre : List Nat} {i : Nat} (h : Coming l pre (some i)) : leftB l.length (.int .i64 (((nextB l (i + 1)).getD 0 : Nat) : Int)) (.bool (nextB l (i + 1)).isSome) < leftB l.length (.int .i64 (i : Int)) (.bool true) := by
 have hi := h.in_
 cases ho : nextB l (i + 1) with
 | none => simp [leftB, intOf]; omega
 | some j =>
  have := nextB_is ho
  simp [leftB, intOf]; omega
def KpB (n₀ Bn : Nat) (A B : World) : Prop := Below n₀ A B ∧ B.heap[Bn]? = A.heap[Bn]?
theorem KpB.trans {n₀ Bn : Nat} {A B C : World} (h : KpB n₀ Bn A B) (k : KpB n₀ Bn B C) : KpB n₀ Bn A C := ⟨h.1.trans k.1, k.2.trans h.2⟩
theorem KpB.book {n₀ Bn : Nat} {w : World} (hn : n₀ ≤ w.heap.size) (hB : Bn < w.heap.size) (W : World) (l : Nat) (o o' : Obj) (hl : w.heap.size ≤ l) (h : W.heap[l]? = some o) (h1 : o.isCells = false) (h2 : o.isWalk = false) : KpB n₀ Bn W (W.putObj l o') :=
 ⟨belowK_b hn W l o o' hl h h1 h2, World.putObj_heap_other (by omega)⟩
set_option maxRecDepth 100000 in
set_option maxHeartbeats 2000000 in
theorem sall1_in {X : SetF} {l : List Bool} (n : Nat) (hn : 1 ≤ n) (lp Bn n₀ : Nat) (J Jx : List Nat → World → Prop)
  (hY : ∀ pre (x : Nat) W, J pre W → pre.length < (onesL l).length → YieldAt Fence.wide (n - 1) Tryz.prog lp #[.int .i64 (x : Int)] W fun e W' =>
   (e = .returned (.bool true) ∧ J (pre ++ [x]) W' ∧ KpB n₀ Bn W W') ∨ (e = .returned (.bool false) ∧ Jx (pre ++ [x]) W'))
  (W : World) (hBn : Boxed W Bn 74 (vset X)) (hS : SetAt W X l) (hX : ∀ k ∈ X.list, k < n₀) (h0 : J [] W) :
  CallsIn Fence.wide n Tryz.prog 165 #[.func (.yield lp) #[] #[], .pointer (some ⟨Bn, 0, none⟩)] W fun e W' => (∃ v, e = .returned v) ∧
   ((∃ ys, ys = onesL l ∧ J ys W') ∨ (∃ pre, pre <+: onesL l ∧ Jx pre W')) := by
 have HS := LH hS
 refine callsIn_of_wp Tryz.func165 rfl trivial ?_ rfl
 simp only [Tryz.ntmps165, List.size_toArray, List.length_cons, List.length_nil, Nat.reduceAdd, Nat.reduceSub, Array.replicate_succ, Array.replicate_zero, List.push_toArray, List.append_toArray, List.nil_append, List.cons_append]
 have HN0 := LH (snext_any hS 0)
 rw [show (0 : Int).toNat = 0 from rfl, nextV_eq] at HN0
 have HC0 := LH (Coming.start l)
 generalize nextB l 0 = o0 at *
 have hc0 := hBn.cell
 clear hS
 gi_wp2_with (refine ⟨trivial, ?_⟩; gi_at_call 166; refine (callsIn_wide.2 HN0.out).mono ?_; rintro e w1 ⟨rfl, rfl⟩)
 gi_loopw [3, 4] (fun v b wr => ∃ (pre : List Nat) (o : Option Nat), v = .int .i64 ((o.getD 0 : Nat) : Int) ∧ b = .bool o.isSome ∧ Hid (Coming l pre o) ∧ Hid (SetAt wr X l) ∧ Boxed wr Bn 74 (vset X) ∧ J pre wr) (fun v b _ => leftB l.length v b)
 case atStart => exact ⟨[], o0, rfl, rfl, HC0, HS, hBn, h0⟩
 case round =>
  clear HN0 hBn h0 HS HC0 hc0
  obtain ⟨pre, o, rfl, rfl, HC, HS, hBn, hJ⟩ := hrel
  cases o with
  | none =>
   simp only [Option.isSome_none, Option.getD_none]
   gi_wp2
   go_end0
   exact ⟨⟨_, rfl⟩, .inl ⟨pre, HC.out.done, hJ⟩⟩
  | some i =>
   simp only [Option.isSome_some, Option.getD_some]
   obtain ⟨fn, tmps, assign, body, hy, hR⟩ := hY pre i wr hJ HC.out.lt
   gi_wp2
   refine hR.mono ?_
   rintro e W3 (⟨rfl, hJ3, hk3⟩ | ⟨rfl, hJx3⟩)
   ·have hBn3 : Boxed W3 Bn 74 (vset X) := hk3.2.trans hBn
    have hc3 := hBn3.cell
    have HS3 := LH (HS.out.keep (fun k hk => hk3.1.block k (hX k hk)))
    have HN := LH (snext_any HS3.out ((i : Int) + 1))
    rw [show ((i : Int) + 1).toNat = i + 1 by omega, nextV_eq] at HN
    have HL := LH (leftB_next HC.out)
    have HC3 := LH HC.out.next
    have hil := HC.out.in_
    have hls := HS.out.small
    clear hk3 hy hR
    generalize nextB l (i + 1) = o at *
    gi_wp2_with (refine ⟨trivial, ?_⟩; gi_at_call 166; refine (callsIn_wide.2 HN.out).mono ?_; rintro e w1 ⟨rfl, rfl⟩)
    go_roundw
    case rel => exact ⟨pre ++ [i], o, rfl, rfl, HC3, HS3, hBn3, hJ3⟩
    case measure => exact HL.out
   ·gi_wp2
    refine bodyPost_ret (results_none rfl _ _ _) rfl ?_
    exact ⟨⟨_, rfl⟩, .inr ⟨pre ++ [i], HC.out.pre, hJx3⟩⟩
set_option maxHeartbeats 1000000 in
theorem sall_in (X : SetF) (n : Nat) (w : World) :
  CallsIn Fence.wide n Tryz.prog 123 #[vset X] w fun e w' => e = .returned (.func (.func 165) #[] #[.pointer (some ⟨w.heap.size, 0, none⟩)]) ∧ w' = w.alloc (.cells #[vset X] 74) := by
 refine callsIn_of_wp Tryz.func123 rfl trivial ?_ rfl
 simp only [Tryz.ntmps123, List.size_toArray, List.length_cons, List.length_nil, Nat.reduceAdd, Nat.reduceSub, Array.replicate_succ, Array.replicate_zero, List.push_toArray, List.append_toArray, List.nil_append, List.cons_append]
 gi_wp2
 go_ret
 exact ⟨rfl, rfl⟩
theorem sall_stops {X : SetF} {l : List Bool} (n : Nat) (hn : 1 ≤ n) (Bn n₀ : Nat) (w : World) (hn₀ : n₀ ≤ w.heap.size) (hc : Boxed w Bn 74 (vset X)) (hS : SetAt w X l) (hX : ∀ k ∈ X.list, k < n₀) :
  SeqStopsK Fence.wide n Tryz.prog 165 #[.pointer (some ⟨Bn, 0, none⟩)] (fun x : Nat => #[Value.int .i64 (x : Int)]) (KpB n₀ Bn) (fun ys => ys = onesL l) (fun pre => pre <+: onesL l) (onesL l).length w := fun lp J Jx W hW _ _ hY h0 =>
 sall1_in n hn lp Bn n₀ J Jx hY W ((hW.block Bn hc.lt).trans hc) (hS.below hW) hX h0
theorem infoInt : (Tryz.prog.info? 3).map (fun i => (i.zero, i.size, i.bytes)) = some (some (.int .i64 0), 1, 8) := by kernel_rfl
def ListPost (w : World) (xs : List Nat) : Ending → World → Prop := fun e w' => ∃ v, e = .returned v ∧ w'.ownsRow w.heap.size 3 1 v xs.length (xs.map vi) ∧ (v = .slice none 0 0 ↔ xs = []) ∧ Below w.heap.size w w'
set_option maxRecDepth 100000 in
set_option maxHeartbeats 2000000 in
theorem slist_any {w : World} {X : SetF} {l : List Bool} (h : SetAt w X l) : Calls Tryz.prog 74 #[vset X] w (ListPost w (onesL l)) := by
 have hlen : (onesL l).length ≤ 1000000 := by rw [onesL_length]; exact Nat.le_trans (count_le_len l) h.small
 obtain ⟨i0, hi, hz0, hz1, hz2⟩ := info_parts infoInt
 refine (callsIn_wide (n := 5)).1 ?_
 refine callsIn_of_wp_marks Tryz.func74 rfl trivial ?_ rfl
 simp only [Tryz.ntmps74, List.size_toArray, List.length_cons, List.length_nil, Nat.reduceAdd, Nat.reduceSub, Array.replicate_succ, Array.replicate_zero, List.push_toArray, List.append_toArray, List.nil_append, List.cons_append]
 gi_wp2_with (refine ⟨trivial, ?_⟩; gi_at_call 123; refine (sall_in X _ _).mono ?_; rintro e w' ⟨rfl, rfl⟩)
 have bO := Boxed.new w 47 (.slice none 0 0)
 have bN := Boxed.new (w.alloc (.cells #[.slice none 0 0] 47)) 74 (vset X)
 rw [World.size_alloc] at bN
 have hB0 : Below w.heap.size w ((w.alloc (.cells #[.slice none 0 0] 47)).alloc (.cells #[vset X] 74)) := ((Below.refl _ w).alloc (Nat.le_refl _) _).alloc (by simp) _
 refine wpIn_rangeFunc_ownG rfl (by omega) (gf := 165) (lb := #[.pointer (some ⟨w.heap.size + 1, 0, none⟩)]) rfl trivial (enters_of Tryz.func165 (by kernel_rfl) rfl)
  (sall_stops 4 (by omega) (w.heap.size + 1) w.heap.size _ (by simp; omega) bN (h.below hB0) h.mem) KpB.trans (KpB.book (by simp; omega) (by simp)) (Below.refl _ _) (fun _ => rfl)
  (fun pre W => (∃ v, Boxed W w.heap.size 47 v ∧ W.ownsRow w.heap.size 3 1 v pre.length (pre.map vi) ∧ (v = .slice none 0 0 ↔ pre = [])) ∧ Boxed W (w.heap.size + 1) 74 (vset X) ∧ Below w.heap.size w W)
  (fun _ _ _ => False)
  (OwnFrom.and (Own.from (holdsRow_own w.heap.size w.heap.size 47 3 1 (fun pre : List Nat => pre.length) (fun pre => pre.map vi) (fun pre v => v = .slice none 0 0 ↔ pre = [])) _) (OwnFrom.and (Own.from (boxed_own _ _ _) _) (ownFrom_below (Nat.le_refl _) (by simp; omega))))
  (fun _ _ _ _ _ hs _ _ => hs)
  ⟨⟨_, bO.alloc _, World.ownsRow_nil _ _ _ _, by simp⟩, bN, hB0⟩
  (fun x => { tmps := #[vset X, undef, .slice none 0 0, .pointer (some ⟨w.heap.size, 0, none⟩), .int .i64 (x : Int), vset X, .func (.func 165) #[] #[.pointer (some ⟨w.heap.size + 1, 0, none⟩)], .int .i64 (x : Int), undef, undef, undef, undef, undef], defers := [] }) ?assign ?body ?done ?stop
 case assign =>
  intro l x W K hK
  gi_wp2
  exact hK
 case body =>
  rintro l' pre x W ⟨⟨v, hv, hrow, hnil⟩, hX, hB⟩ hlt
  have hc := hv.cell
  gi_wp2_with (gi_at_builtin; refine wpListIn_append_own _ rfl _ _ 47 rfl w.heap.size 3 i0 (.int .i64 0) 1 8 Tryz.underlying47 hi hz0 hz1 hz2 rfl (by decide) _ _ _ rfl (hrow.alloc _) ⟨W.heap.size, 0, none⟩ 1 1 [.int .i64 (x : Int)] rfl rfl (cell_one_new _ _ _) (by simp [Value.oneCell']) (by have : maxLen = 9223372036854775807 := rfl; omega) (by omega) (by have := hB.size; simp; omega) ?_; intro v' w1 hown' hgrow _; obtain ⟨g', cap', rfl⟩ := ownsRow_succ hown'; obtain ⟨hv1, hv2, hr2, hk2, hb2⟩ := hv.appended (by decide) hrow hB.size (Nat.le_refl _) hown' hgrow; have hc1 := hv1.cell; have hf1 := hv1.frozen)
  have hX2 := Boxed.other ((hX.alloc _).kept hgrow (hX.not_row (by decide) hrow)) (show w.heap.size + 1 ≠ w.heap.size by omega) (Value.slice (some ⟨g', 0, none⟩) (pre.length + 1) cap')
  exact ⟨hk2.from _, ⟨hb2, hX2.trans hX.symm⟩, ⟨_, hv2, by simpa using hr2, by simp⟩, hX2, hB.trans hb2⟩
 case done =>
  rintro D ys W hD rfl ⟨⟨v, hv, hrow, hnil⟩, _, hB⟩ hK
  have hc := hv.cell
  gi_wp2
  refine ⟨by simp, .inl ⟨_, _, rfl, run_takeDeferred hK, ?_⟩⟩
  exact ⟨_, results_tmp rfl _ _ _, v, rfl, ownsRow_putObj hrow _ hK rfl, hnil, hB.trans (belowK_b (w := w) (Nat.le_refl _) W D _ _ (by simp at hD; omega) hK rfl rfl)⟩
 case stop =>
  rintro D c pre W _ _ h _
  exact h.elim
end Go.Proofs.YtpohaahihdhleaaGreat
namespace Go.Proofs.YtpohaahihdhleaaGreat
open Go.RowKit
set_option maxHeartbeats 400000 in
theorem aobjects_any {w : World} {A : AF} {n B : Nat} {m : Al} (h : AlAt w A n B m) :
  Calls Tryz.prog 27 #[valloc A] w (ListPost w (onesL m.used)) := by
 have c3 := h.c3
 have HS := LH h.set
 have HP : Hid (∀ e w', ListPost w (onesL m.used) e w' → ListPost w (onesL m.used) e w') := LH (fun _ _ h => h)
 generalize hP : ListPost w (onesL m.used) = Post at *
 clear h
 go_enter Tryz.func27, Tryz.ntmps27
 go_wp2_with fail
 refine (slist_any HS.out).mono ?_
 rw [hP]
 rintro e w1 hp
 have HPp := LH hp
 rw [← hP] at hp
 obtain ⟨v, rfl, _⟩ := hp
 clear hP
 go_wp2_with fail
 exact HPp.out
theorem ListPost.own {w w' : World} {xs : List Nat} {e : Ending} (h : ListPost w xs e w') : ∃ a c, e = .returned (.slice a xs.length c) ∧ Cells w' a (xs.map vi) ∧ Below w.heap.size w w' ∧ (∀ b o s, a = some ⟨b, o, s⟩ → w.heap.size ≤ b) := by
 obtain ⟨v, rfl, ho, _, hb⟩ := h
 obtain ⟨a, c, rfl, _⟩ := owned_form ho
 exact ⟨a, c, rfl, Cells.owned ho, hb, fun b o s e => by subst e; exact owned_addr ho _ rfl⟩
structure MkF where
 p : Nat
 X : SetF
 Y : SetF
 s : Nat
 v : Value
section
variable {w w' : World} {A : AF} {K : MkF} {M : Mk}
end
section
variable {w w0 w1 w' : World} {A : AF} {n B : Nat} {m : Al} {K : MkF} {M M' : Mk}
end
section
variable {w : World} {A : AF} {K : MkF} {M : Mk}
end
section
variable {w : World} {A : AF} {n B : Nat} {m : Al} {K : MkF} {M : Mk}
end
end Go.Proofs.YtpohaahihdhleaaGreat
namespace Go.Proofs.YtpohaahihdhleaaGreat
section
variable {U : List Bool} {P : Nat → List Nat} {M : Mk}
section
variable {b : Bool} {M' : Mk}
end
end
end Go.Proofs.YtpohaahihdhleaaGreat
namespace Go.Proofs.YtpohaahihdhleaaGreat
open Go.RowKit
theorem Cells.touchL {w w' : World} {a : Option Addr} {vs : List Value} {L : List Nat} (h : Cells w a vs) (ht : Touch L w w') (hne : ∀ x, a = some x → x.block < w.heap.size → x.block ∉ L) : Cells w' a vs := by
 rcases h with h | ⟨b, off, rfl, h⟩
 ·exact .inl h
 ·exact .inr ⟨b, off, rfl, fun i v hi => cell_of_touch ht (show (⟨b, off + i, none⟩ : Addr).block ∉ L from hne ⟨b, off, none⟩ rfl (show b < w.heap.size from World.block_lt_of_cell? w ⟨b, off + i, none⟩ (h i v hi))) (h i v hi)⟩
def ptrsD (S : Dev) (a : Int) : List Nat := if (headN S a).code = 0 then ptrL S a (headN S a).p.toNat else []
theorem PtrsPost.out {S : Dev} {a : Int} {w w' : World} {e : Ending} (h : PtrsPost S a w e w') : ∃ av cp ec, e = .returned (.tuple #[.slice av (ptrsD S a).length cp, .int .i64 ec]) ∧ ec = (headN S a).code ∧ Cells w' av ((ptrsD S a).map vi) ∧ (∀ x, av = some x → w.heap.size ≤ x.block) ∧ Below w.heap.size w w' := by
 obtain ⟨hb, h⟩ := h
 rcases h with ⟨h0, v, rfl, ho⟩ | ⟨h0, rfl⟩
 ·have e0 : ptrsD S a = ptrL S a (headN S a).p.toNat := by unfold ptrsD; rw [if_pos h0]
  obtain ⟨av, cp, rfl, _, _⟩ := owned_form ho
  rw [e0, ptrL_length]
  exact ⟨av, cp, _, rfl, h0.symm, Cells.owned ho, owned_addr ho, hb⟩
 ·have e0 : ptrsD S a = [] := by unfold ptrsD; rw [if_neg (by rw [h0]; decide)]
  rw [e0]
  exact ⟨none, 0, _, rfl, h0.symm, Cells.nil _ _, fun x hx => (by cases hx), hb⟩
theorem ptrsD_len {S : Dev} (hs : S.cache.length ≤ 1000000) (a : Int) : (ptrsD S a).length ≤ 64 := by
 unfold ptrsD
 split
 ·next h =>
  rw [ptrL_length]
  have := head_small hs (a := a) h
  omega
 ·simp
section
variable {w : World} {A : AF} {n B : Nat} {m : Al} {K : MkF} {M : Mk}
end
end Go.Proofs.YtpohaahihdhleaaGreat
namespace Go.Proofs.YtpohaahihdhleaaGreat
open Go.RowKit Go.Maps Go.ChangeMaps
structure TF where
 g : Nat
 ms : Nat
 mb : Nat
def tracC (F : Foot) (B : Nat) (a : Option Addr) (cap : Nat) (T : TF) (v : Value) : Array Value := #[vdev F, .int .i64 (B : Int), .slice a B cap, .map (some T.ms), v, .map (some T.mb)]
structure TrAt (w0 w : World) (F : Foot) (B : Nat) (a : Option Addr) (cap : Nat) (T : TF) (n : Nat) (seen opn : List Nat) (bad : Bool) (v : Value) : Prop where
 org : Below w0.heap.size w0 w
 head : w.heap[T.g]? = some (.cells (tracC F B a cap T v) 250 (0, 0))
 own : OwnI w v opn
 row : ∀ b, rowOf v = some b → w0.heap.size ≤ b ∧ b ≠ T.g ∧ b ≠ T.ms ∧ b ≠ T.mb
 seen : VMap Tryz.prog 3 w T.ms n (seenM seen)
 bad : BadAt Tryz.prog 252 w T.mb n bad
 g0 : w0.heap.size ≤ T.g
 s0 : w0.heap.size ≤ T.ms
 b0 : w0.heap.size ≤ T.mb
 gs : T.g ≠ T.ms
 gb : T.g ≠ T.mb
 sb : T.ms ≠ T.mb
section
variable {w0 w w' : World} {F : Foot} {B : Nat} {a : Option Addr} {cap : Nat} {T : TF} {n : Nat} {seen opn : List Nat} {bad : Bool} {v : Value}
theorem lt_of_head {w : World} {g : Nat} {x : Obj} (h : w.heap[g]? = some x) : g < w.heap.size := (Array.getElem?_eq_some_iff.1 h).1
theorem TrAt.later (h : TrAt w0 w F B a cap T n seen opn bad v) (hb : Below w.heap.size w w') : TrAt w0 w' F B a cap T n seen opn bad v :=
 ⟨h.org.trans (hb.mono h.org.size), (hb.block _ (lt_of_head h.head)).trans h.head, h.own.keep (fun b hb' => hb.block b (h.own.lt b hb')), h.row, h.seen.block (hb.block _ h.seen.lt), h.bad.block (hb.block _ h.bad.lt), h.g0, h.s0, h.b0, h.gs, h.gb, h.sb⟩
theorem TrAt.mono {n' : Nat} (h : TrAt w0 w F B a cap T n seen opn bad v) (hn : n ≤ n') : TrAt w0 w F B a cap T n' seen opn bad v :=
 ⟨h.org, h.head, h.own, h.row, h.seen.mono hn, h.bad.mono hn, h.g0, h.s0, h.b0, h.gs, h.gb, h.sb⟩
theorem below_at {b : Nat} (h : Below w0.heap.size w0 w) (hg : w.grownBy w' (some b)) (hb : w0.heap.size ≤ b) : Below w0.heap.size w0 w' :=
 ⟨hg.os.trans h.os, hg.tape.trans h.tape, hg.output.trans h.output, Nat.le_trans h.size hg.size, fun k hk => (hg.block k (Nat.lt_of_lt_of_le hk h.size) (fun e => by injection e with e; omega)).trans (h.block k hk)⟩
theorem TrAt.seenPut (h : TrAt w0 w F B a cap T n seen opn bad v) {seen' : List Nat} (hg : w.grownBy w' (some T.ms)) (hv : VMap Tryz.prog 3 w' T.ms (n + 1) (seenM seen')) : TrAt w0 w' F B a cap T (n + 1) seen' opn bad v := by
 have hk : ∀ k, k < w.heap.size → k ≠ T.ms → w'.heap[k]? = w.heap[k]? := fun k h1 h2 => hg.block k h1 (fun e => h2 (by injection e))
 exact ⟨below_at h.org hg h.s0, (hk _ (lt_of_head h.head) h.gs).trans h.head, h.own.keep (fun b hb => hk b (h.own.lt b hb) (h.row b hb).2.2.1), h.row, hv, (h.bad.block (hk _ h.bad.lt h.sb.symm)).mono (by omega), h.g0, h.s0, h.b0, h.gs, h.gb, h.sb⟩
theorem TrAt.badPut (h : TrAt w0 w F B a cap T n seen opn bad v) (hg : w.grownBy w' (some T.mb)) (hv : BadAt Tryz.prog 252 w' T.mb (n + 1) true) : TrAt w0 w' F B a cap T (n + 1) seen opn true v := by
 have hk : ∀ k, k < w.heap.size → k ≠ T.mb → w'.heap[k]? = w.heap[k]? := fun k h1 h2 => hg.block k h1 (fun e => h2 (by injection e))
 exact ⟨below_at h.org hg h.b0, (hk _ (lt_of_head h.head) h.gb).trans h.head, h.own.keep (fun b hb => hk b (h.own.lt b hb) (h.row b hb).2.2.2), h.row, (h.seen.block (hk _ h.seen.lt h.sb)).mono (by omega), hv, h.g0, h.s0, h.b0, h.gs, h.gb, h.sb⟩
theorem TrAt.openPut (h : TrAt w0 w F B a cap T n seen opn bad v) {opn' : List Nat} {v' : Value} (hg : w.grownBy w' (rowOf v)) (ho : OwnI w' v' opn') (hr : ∀ b, rowOf v' = some b → rowOf v = some b ∨ w.heap.size ≤ b) :
  TrAt w0 (w'.setCell ⟨T.g, 4, none⟩ v') F B a cap T n seen opn' bad v' := by
 have hk : ∀ k, k < w.heap.size → rowOf v ≠ some k → w'.heap[k]? = w.heap[k]? := fun k h1 h2 => hg.block k h1 (fun e => h2 e.symm)
 have hrow : ∀ b, rowOf v' = some b → w0.heap.size ≤ b ∧ b ≠ T.g ∧ b ≠ T.ms ∧ b ≠ T.mb := fun b hb => by
  rcases hr b hb with c | c
  ·exact h.row b c
  ·have h1 := lt_of_head h.head
   have h2 := h.seen.lt
   have h3 := h.bad.lt
   have := h.org.size
   exact ⟨by omega, by omega, by omega, by omega⟩
 have hs : ∀ k, k ≠ T.g → (w'.setCell ⟨T.g, 4, none⟩ v').heap[k]? = w'.heap[k]? := fun k hk => heap_setCell_other w' _ _ _ hk
 have hh : w'.heap[T.g]? = some (.cells (tracC F B a cap T v) 250 (0, 0)) := (hk _ (lt_of_head h.head) (fun e => (h.row _ e).2.1 rfl)).trans h.head
 have horg : Below w0.heap.size w0 w' := ⟨hg.os.trans h.org.os, hg.tape.trans h.org.tape, hg.output.trans h.org.output, Nat.le_trans h.org.size hg.size, fun k h1 => (hk k (Nat.lt_of_lt_of_le h1 h.org.size) (fun e => by have := (h.row _ e).1; omega)).trans (h.org.block k h1)⟩
 refine ⟨Below.setCell horg h.g0 _, ?_, ho.keep (fun b hb => hs b (hrow b hb).2.1), hrow, ?_, ?_, h.g0, h.s0, h.b0, h.gs, h.gb, h.sb⟩
 ·exact heap_setCell_same _ _ _ _ _ _ hh
 ·exact (h.seen.block (hk _ h.seen.lt (fun e => (h.row _ e).2.2.1 rfl))).block (hs _ h.gs.symm)
 ·exact (h.bad.block (hk _ h.bad.lt (fun e => (h.row _ e).2.2.2 rfl))).block (hs _ h.gb.symm)
theorem TrAt.cell (h : TrAt w0 w F B a cap T n seen opn bad v) (i : Nat) {x : Value} (hx : (tracC F B a cap T v)[i]? = some x) : w.cell? ⟨T.g, i, none⟩ = some x := cell_of_row _ _ i _ _ _ h.head |>.trans hx
theorem TrAt.frozen (h : TrAt w0 w F B a cap T n seen opn bad v) (i : Nat) : w.frozen? ⟨T.g, i, none⟩ = false := frozen_of_row _ _ _ _ _ h.head
end
def TrNew (w : World) (F : Foot) (B : Nat) (a : Option Addr) (cap : Nat) : Ending → World → Prop := fun e w' => ∃ T : TF, e = .returned (.pointer (some ⟨T.g, 0, none⟩)) ∧ TrAt w w' F B a cap T 0 [] [] false (.slice none 0 0)
set_option maxHeartbeats 2000000 in
theorem trnew_any (w : World) (F : Foot) (B : Nat) (a : Option Addr) (cap : Nat) :
  Calls Tryz.prog 93 #[vdev F, vgeom (B : Int), .slice a B cap] w (TrNew w F B a cap) := by
 have HP : Hid (∀ (T : TF) w', TrAt w w' F B a cap T 0 [] [] false (.slice none 0 0) → TrNew w F B a cap (.returned (.pointer (some ⟨T.g, 0, none⟩))) w') := LH (fun T w' h => ⟨T, rfl, h⟩)
 generalize TrNew w F B a cap = Post at *
 have hmm := @run_makeMap Tryz.prog
 have hb1 := below_alloc w (.cells #[.int .i64 (B : Int)] 44)
 have c0 : (w.alloc (.cells #[.int .i64 (B : Int)] 44)).cell? ⟨w.heap.size, 0, none⟩ = some (.int .i64 (B : Int)) := cell_alloc_new _ _ _ 0 _ rfl
 have HB1 := LH hb1
 clear hb1
 go_enter Tryz.func93, Tryz.ntmps93
 go_upto_region 1 with fail
 generalize w.alloc (.cells #[.int .i64 (B : Int)] 44) = w1 at *
 have HV := LH (VMap.made w1 Tryz.prog 3)
 have hb2 := below_alloc w1 (.map #[] 0)
 have HB2 := LH hb2
 have HW := LH (BadAt.made (w1.alloc (.map #[] 0)) Tryz.prog 252)
 have HB3 := LH (below_alloc (w1.alloc (.map #[] 0)) (.map #[] 0))
 clear hb2
 go_wp2_with fail
 have h1 : (w1.alloc (.map #[] 0)).heap.size = w1.heap.size + 1 := by simp
 have h2 : ((w1.alloc (.map #[] 0)).alloc (.map #[] 0)).heap.size = w1.heap.size + 1 + 1 := by simp
 have hV := HV.out
 have hW := HW.out
 have hB1 := HB1.out
 have hB2 := HB2.out
 have hB3 := HB3.out
 rw [h1] at hW
 generalize w1.alloc (.map #[] 0) = w2 at *
 generalize w2.alloc (.map #[] 0) = w3 at *
 have hb4 := below_alloc w3 (Obj.cells (tracC F B a cap ⟨w1.heap.size + 1 + 1, w1.heap.size, w1.heap.size + 1⟩ (.slice none 0 0)) 250)
 have hh := heap_alloc_new w3 (Obj.cells (tracC F B a cap ⟨w1.heap.size + 1 + 1, w1.heap.size, w1.heap.size + 1⟩ (.slice none 0 0)) 250)
 rw [h2] at hh
 refine HP.out ⟨w1.heap.size + 1 + 1, w1.heap.size, w1.heap.size + 1⟩ _ ⟨?_, hh, OwnI.nil _, fun b hb => (by cases hb), ?_, ?_, ?_, ?_, ?_, ?_, ?_, ?_⟩
 ·exact (((hB1.trans (hB2.mono hB1.size)).trans (hB3.mono (by have := hB1.size; omega))).trans (hb4.mono (by have := hB1.size; omega)))
 ·have hq : (fun _ => none : Lit → Option Value) = seenM [] := by
   funext l
   unfold seenM
   split <;> simp
  rw [← hq]
  exact (hV.block (hB3.block _ (by omega))).block (hb4.block _ (by omega))
 ·exact hW.block (hb4.block _ (by omega))
 ·have := hB1.size
  show w.heap.size ≤ w1.heap.size + 1 + 1
  omega
 ·exact hB1.size
 ·have := hB1.size
  show w.heap.size ≤ w1.heap.size + 1
  omega
 ·show w1.heap.size + 1 + 1 ≠ w1.heap.size
  omega
 ·show w1.heap.size + 1 + 1 ≠ w1.heap.size + 1
  omega
 ·show w1.heap.size ≠ w1.heap.size + 1
  omega
def okN (S : Dev) (L : List Hd) (x : Nat) : Prop := (placedN S L (x : Int)).isSome = true
def ptrN (S : Dev) (x : Nat) : List Nat := ptrsD S (x : Int)
theorem okN_zero (S : Dev) (L : List Hd) : ¬ okN S L 0 := by
 unfold okN placedN
 rw [if_pos (.inl (by decide))]
 simp
theorem okN_lt {S : Dev} {L : List Hd} {x : Nat} (h : okN S L x) : 512 ≤ x ∧ x < 512 * L.length := by
 obtain ⟨o, ho⟩ := Option.isSome_iff_exists.1 h
 have := placed_head ho
 omega
theorem zero_bool' (w : World) : (zeroValue 4).run Tryz.prog w = .ok (.bool false) w := Tryz.zeroValue4 w
theorem wf_nat {x : Nat} (h : x ≤ 4611686018427387904) : (Lit.int .i64 (x : Int)).wf = true := WalkArith.wf_i64 (by omega)
def TF.hot (T : TF) (v : Value) : List Nat := T.g :: T.ms :: T.mb :: (rowOf v).toList
def Reached (S : Dev) (L : List Hd) (w0 : World) (F : Foot) (B : Nat) (a : Option Addr) (cap : Nat) (T : TF) (n : Nat) (seen opn : List Nat) (bad : Bool) (v : Value) (w : World) (x : Nat) : Ending → World → Prop := fun e w' =>
 ∃ seen' opn' bad' v' er, e = .returned (.int .i64 er) ∧ TrAt w0 w' F B a cap T (n + 1) seen' opn' bad' v' ∧ (er = 0 ∨ er = 22) ∧ (er ≠ 0 → bad' = true) ∧ (bad = true → bad' = true) ∧
  (∀ f rest, Trc (okN S L) (ptrN S) f seen opn (x :: rest) bad → Trc (okN S L) (ptrN S) f seen' opn' rest bad') ∧ seen'.length + opn.length = seen.length + opn'.length ∧ seen.length ≤ seen'.length ∧ Touch (T.hot v) w w' ∧ (∀ b, rowOf v' = some b → rowOf v = some b ∨ w.heap.size ≤ b) ∧ opn'.length ≤ opn.length + 1
set_option maxHeartbeats 8000000 in
set_option maxRecDepth 20000 in
theorem treach_any {w0 w : World} {F : Foot} {S : Dev} (h0 : DevAt w0 F S) {a : Option Addr} {B cap : Nat} {L : List Hd} (hlen : L.length = B) (hc : Cells w0 a (hdCs L)) (hB : B ≤ 1000)
  {T : TF} {n : Nat} {seen opn : List Nat} {bad : Bool} {v : Value} (h : TrAt w0 w F B a cap T n seen opn bad v) (hn : n ≤ 1000000000) (ho : opn.length ≤ 1000000000) (x : Nat) (hx : x ≤ 4611686018427387904) (eF eP : Int) (hF : (Lit.int .i64 eF).wf = true) (hP : (Lit.int .i64 eP).wf = true) :
  Calls Tryz.prog 142 #[.pointer (some ⟨T.g, 0, none⟩), .agg #[.int .i64 eF, .int .i64 eP], .int .i64 (x : Int)] w (Reached S L w0 F B a cap T n seen opn bad v w x) := by
 have HSkip : Hid (∀ w', TrAt w0 w' F B a cap T n seen opn bad v → (x = 0 ∨ x ∈ seen) → Touch (T.hot v) w w' → Reached S L w0 F B a cap T n seen opn bad v w x (.returned (.int .i64 0)) w') := LH (fun w' h1 h2 h3 =>
  ⟨seen, opn, bad, v, 0, rfl, h1.mono (by omega), .inl rfl, fun h => absurd rfl h, id, fun f rest ht => ht.skip (okN_zero S L) h2, rfl, Nat.le_refl _, h3, fun b hb => .inl hb, by omega⟩)
 have HFail : Hid (∀ w', TrAt w0 w' F B a cap T (n + 1) seen opn true v → x ≠ 0 → ¬ okN S L x → Touch (T.hot v) w w' → Reached S L w0 F B a cap T n seen opn bad v w x (.returned (.int .i64 22)) w') := LH (fun w' h1 h2 h3 h4 =>
  ⟨seen, opn, true, v, 22, rfl, h1, .inr rfl, fun _ => rfl, fun _ => rfl, fun f rest ht => ht.fail h2 h3, rfl, Nat.le_refl _, h4, fun b hb => .inl hb, by omega⟩)
 have HTake : Hid (∀ w' v', TrAt w0 w' F B a cap T (n + 1) (seen ++ [x]) (opn ++ [x]) bad v' → okN S L x → x ∉ seen → Touch (T.hot v) w w' → (∀ b, rowOf v' = some b → rowOf v = some b ∨ w.heap.size ≤ b) → Reached S L w0 F B a cap T n seen opn bad v w x (.returned (.int .i64 0)) w') := LH (fun w' v' h1 h2 h3 h4 h5 =>
  ⟨seen ++ [x], opn ++ [x], bad, v', 0, rfl, h1, .inl rfl, fun h => absurd rfl h, id, fun f rest ht => ht.take h2 h3, by simp; omega, by simp, h4, h5, by simp⟩)
 generalize Reached S L w0 F B a cap T n seen opn bad v w x = Post at *
 have hba := below_alloc w (.cells #[.int .i64 eF, .int .i64 eP] 252)
 have H1 := LH (h.later hba)
 have HB1 := LH hba
 have e0 : (w.alloc (.cells #[.int .i64 eF, .int .i64 eP] 252)).cell? ⟨w.heap.size, 0, none⟩ = some (.int .i64 eF) := cell_alloc_new _ _ _ 0 _ rfl
 have e1 : (w.alloc (.cells #[.int .i64 eF, .int .i64 eP] 252)).cell? ⟨w.heap.size, 1, none⟩ = some (.int .i64 eP) := cell_alloc_new _ _ _ 1 _ rfl
 obtain ⟨g, hg⟩ : ∃ g, g = T.g := ⟨_, rfl⟩
 obtain ⟨ms, hms⟩ : ∃ g, g = T.ms := ⟨_, rfl⟩
 obtain ⟨mb, hmb⟩ : ∃ g, g = T.mb := ⟨_, rfl⟩
 have HE : Hid (g = T.g ∧ ms = T.ms ∧ mb = T.mb) := LH ⟨hg, hms, hmb⟩
 rw [← hg]
 clear h hba hg hms hmb
 go_enter Tryz.func142, Tryz.ntmps142
 go_upto_region 1 with fail
 obtain ⟨q, hq⟩ : ∃ q, q = w.heap.size := ⟨_, rfl⟩
 rw [← hq] at e0 e1 ⊢
 generalize w.alloc _ = w1 at *
 clear hq
 by_cases hx0 : x = 0
 ·have HS := LH (fun w' h => HSkip.out w' h (.inl hx0))
  subst hx0
  rw [show ((0 : Nat) : Int) = 0 from rfl]
  go_wp2_with fail
  exact HS.out _ H1.out (Touch.ofBelow HB1.out)
 have hx0' : ((x : Int) == 0) = false := by rw [beq_eq_false_iff_ne]; omega
 have hwf : (Lit.int .i64 (x : Int)).wf = true := wf_nat hx
 have HKey : Hid (keyOf Tryz.prog 3 (.int .i64 (x : Int)) = some (.int .i64 (x : Int))) := LH (keyOf_int_mk Tryz.underlying3 hwf)
 have c3 : w1.cell? ⟨g, 3, none⟩ = some (.map (some ms)) := by rw [HE.out.1, HE.out.2.1]; exact H1.out.cell 3 rfl
 have hlk := VMap.look (int_keyed Tryz.underlying3) Tryz.underlying247 (zero_bool' w1) H1.out.seen HKey.out
 rw [seenM_int, ← HE.out.2.1] at hlk
 have HX0 := LH hx0
 clear hx0 hwf
 by_cases hs : x ∈ seen
 ·have HS := LH (fun w' h => HSkip.out w' h (.inr hs))
  rw [if_pos hs, Option.getD_some] at hlk
  clear hs
  go_wp2_with fail
  exact HS.out _ H1.out (Touch.ofBelow HB1.out)
 rw [if_neg hs, Option.getD_none] at hlk
 have HNs := LH hs
 clear hs
 go_upto_region 3 with fail
 clear hlk
 have HPl : Hid (∀ w', Below w1.heap.size w1 w' → Calls Tryz.prog 159 #[vdev F, vgeom (B : Int), .slice a B cap, .int .i64 (x : Int)] w' (PlPost S L (x : Int) w')) := LH (fun w' hb =>
  aplaced_any (h0.below ((H1.out.later hb).org)) a B cap L hlen (hc.below (H1.out.later hb).org (Nat.le_refl _)) hB (h0.small) (x : Int))
 obtain ⟨okk, hok⟩ : ∃ okk, okk = (placedN S L (x : Int)).isSome := ⟨_, rfl⟩
 have HOk : Hid (okk = (placedN S L (x : Int)).isSome) := LH hok
 unfold PlPost at HPl
 rw [← hok] at HPl
 clear hok
 go_cut [7, 8] from 9 (fun pv kv wc => ∃ g2 : Nat, pv = .pointer (some ⟨g2, 0, none⟩) ∧ kv = .bool okk ∧ Hid (Below w1.heap.size w1 wc))
 case first =>
  have c0 : w1.cell? ⟨g, 0, none⟩ = some (vdev F) := by rw [HE.out.1]; exact H1.out.cell 0 rfl
  have c1 : w1.cell? ⟨g, 1, none⟩ = some (.int .i64 (B : Int)) := by rw [HE.out.1]; exact H1.out.cell 1 rfl
  have c2 : w1.cell? ⟨g, 2, none⟩ = some (.slice a B cap) := by rw [HE.out.1]; exact H1.out.cell 2 rfl
  have r0 := fun x => later_cell c0 x
  have r1 := fun x => later_cell c1 x
  have r2 := fun x => later_cell c2 x
  clear c0 c1 c2 c3 e0 e1
  refine wp_region_tr (C := fun w' => ∃ x : Later (w1), w' = x.val) (.fl [0, 1, 2, 3, 4, 5, 6, 7, 8, 9, 10, 11, 12] (.br 13 false (.pu [14, 15, 16] (.sq [17] true (.sq [18, 19] false (.nil)))) 17 true (.sq [13, 14] false (.pu [15, 16] (.sq [18, 19] false (.nil)))))) (by kernel_rfl) (by kernel_rfl) (by intro c a d v w h; cases d <;> exact h) ?_
  simp only [trO, picks, List.getElem?_cons_succ, List.getElem?_cons_zero]
  have hC1 := later_drew (w1)
  refine wpTr_fl hC1 ?_
  repeat (first | go_big_quiet_step (fail) | quiet_step (fail))
  refine wpQuiet_nil ?_
  clear r0 r1 r2
  have hbd := later_below hC1
  have HMd := LH ((Mem.start w1).later hbd)
  generalize w1.drew = wd at *
  clear hbd
  refine wpTr_br ?_ ?_
  ·refine wpTr_sq (fun K hK => ?_)
   go_wp2_with fail
   refine (HPl.out _ HMd.out.below).mono ?_
   rintro e w4 ⟨⟨p, d, rfl, _⟩, hb4⟩
   have hC2 := later_step hC1 hb4
   have HM4 := LH (HMd.out.later hb4)
   clear hb4
   go_wp2_with fail
   refine hK _ _ (fun h => nomatch h) ?_
   clear hK K
   refine wpTr_pu ?_
   repeat (first | go_big_quiet_step (fail) | quiet_step (fail))
   refine wpQuiet_nil ?_
   refine wpTr_sq (fun K hK => ?_)
   go_wp2_with fail
   have hba := below_alloc w4 (.cells #[.int .i64 0, .int .i64 0] 211)
   have hC3 := later_step hC2 hba
   have HM5 := LH (HM4.out.alloc #[.int .i64 0, .int .i64 0] 211)
   clear hba
   go_wp2_with fail
   refine hK _ _ (fun _ => hC3) ?_
   clear hK K
   generalize w4.alloc _ = w5 at *
   obtain ⟨g2, hg⟩ : ∃ g2, g2 = w4.heap.size := ⟨_, rfl⟩
   rw [← hg] at HM5 ⊢
   clear hg hC1 hC2 hC3
   refine wpTr_last ?_
   go_wp2_with (refine wpList_store_mem aggOb HM5.out 0 rfl rfl rfl rfl rfl rfl rfl rfl ?_; intro w6 h6 ht6; have H6 := LH h6; clear h6 ht6)
   go_meet
   exact ⟨g2, rfl, rfl, LH H6.out.below⟩
  ·refine wpTr_sq (fun K hK => ?_)
   go_wp2_with fail
   have hba := below_alloc wd (.cells #[.int .i64 0, .int .i64 0] 211)
   have hC2 := later_step hC1 hba
   have HM4 := LH (HMd.out.alloc #[.int .i64 0, .int .i64 0] 211)
   clear hba
   go_wp2_with fail
   refine hK _ _ (fun _ => hC2) ?_
   clear hK K
   generalize wd.alloc _ = w4 at *
   obtain ⟨g2, hg⟩ : ∃ g2, g2 = wd.heap.size := ⟨_, rfl⟩
   rw [← hg] at HM4 ⊢
   clear hg
   refine wpTr_sq (fun K hK => ?_)
   go_wp2_with fail
   refine (HPl.out _ HM4.out.below).mono ?_
   rintro e w5 ⟨⟨p, d, rfl, _⟩, hb5⟩
   have HM5 := LH (HM4.out.later hb5)
   clear hb5
   go_wp2_with fail
   refine hK _ _ (fun h => nomatch h) ?_
   clear hK K
   refine wpTr_pu ?_
   repeat (first | go_big_quiet_step (fail) | quiet_step (fail))
   refine wpQuiet_nil ?_
   clear hC1 hC2
   refine wpTr_last ?_
   go_wp2_with (refine wpList_store_mem aggOb HM5.out 0 rfl rfl rfl rfl rfl rfl rfl rfl ?_; intro w6 h6 ht6; have H6 := LH h6; clear h6 ht6)
   go_meet
   exact ⟨g2, rfl, rfl, LH H6.out.below⟩
 case rest =>
  obtain ⟨g2, rfl, rfl, HBc⟩ := hcut
  have Hc := LH (H1.out.later HBc.out)
  have e0' := below_cells HBc.out e0 (Nat.le_refl _)
  have e1' := below_cells HBc.out e1 (Nat.le_refl _)
  clear e0 e1 c3 HPl
  cases okk with
  | false =>
   have HNo : Hid (¬ okN S L x) := LH (by unfold okN; rw [← HOk.out]; simp)
   have c5 : wc.cell? ⟨g, 5, none⟩ = some (.map (some mb)) := by rw [HE.out.1, HE.out.2.2]; exact Hc.out.cell 5 rfl
   have r5 := fun x => later_cell c5 x
   have r0 := fun x => later_cell e0' x
   have r1 := fun x => later_cell e1' x
   clear c5 e0' e1'
   go_upto_region 5 with fail
   refine wp_region_seg (C := fun w' => ∃ x : Later (wc), w' = x.val) [.fl [0, 1, 2, 3, 4, 5], .sq [6] false] (by kernel_rfl) (by kernel_rfl) (by intro c a d v w h; cases d <;> exact h) ?_
   simp only [segs, picks, List.getElem?_cons_succ, List.getElem?_cons_zero]
   have hC1 := later_drew (wc)
   refine wpSeg_fl hC1 ?_
   repeat (first | go_big_quiet_step (fail) | quiet_step (fail))
   refine wpQuiet_nil ?_
   have Hd := LH (Hc.out.later (later_below hC1))
   have HBd2 : Hid (Below w.heap.size w wc.drew) := LH ((HB1.out.trans (HBc.out.mono HB1.out.size)).trans ((later_below hC1).mono (Nat.le_trans HB1.out.size HBc.out.size)))
   generalize wc.drew = wd at *
   clear r5 r0 r1 hC1
   have HBd : Hid (BadAt Tryz.prog 252 wd mb n bad) := LH (by rw [HE.out.2.2]; exact Hd.out.bad)
   have HNm : Hid (n < maxLen) := LH (Nat.lt_of_le_of_lt hn (by decide))
   have HKe := LH (key_edge eF eP hF hP)
   refine wpSeg_last ?_
   go_wp2_with (refine wpList_bstore rfl _ _ _ 248 rfl 252 3 keyed_edge Tryz.underlying248 mb n bad rfl HBd.out HNm.out _ _ _ rfl rfl HKe.out ?_; intro w6 hm6 hg6; have HM6 := LH hm6; have HG6 := LH hg6; clear hm6 hg6)
   go_wp2_with fail
   refine HFail.out _ (Hd.out.badPut (by rw [← HE.out.2.2]; exact HG6.out) (by rw [← HE.out.2.2]; exact HM6.out)) HX0.out HNo.out ((Touch.ofBelow HBd2.out).trans (grown_touch HG6.out (by rw [HE.out.2.2]; simp [TF.hot])))
  | true =>
   have HOk' : Hid (okN S L x) := LH (by unfold okN; rw [← HOk.out])
   have c3 : wc.cell? ⟨g, 3, none⟩ = some (.map (some ms)) := by rw [HE.out.1, HE.out.2.1]; exact Hc.out.cell 3 rfl
   have HVm : Hid (VMap Tryz.prog 3 wc ms n (seenM seen)) := LH (by rw [HE.out.2.1]; exact Hc.out.seen)
   have HNm : Hid (n < maxLen) := LH (Nat.lt_of_le_of_lt hn (by decide))
   clear e0' e1'
   go_upto_region 8 with (refine wpList_vstore rfl _ _ _ 247 rfl 3 4 (int_keyed Tryz.underlying3) Tryz.underlying247 ms n (seenM seen) rfl HVm.out HNm.out _ _ _ rfl rfl HKey.out ?_; intro w6 hm6 hg6; have HM6 := LH hm6; have HG6 := LH hg6; clear hm6 hg6)
   have H6 : Hid (TrAt w0 w6 F B a cap T (n + 1) (seen ++ [x]) opn bad v) := LH (Hc.out.seenPut (by rw [← HE.out.2.1]; exact HG6.out) (by rw [← seenM_put, ← HE.out.2.1]; exact HM6.out))
   have HT6 : Hid (Touch (T.hot v) w w6) := LH ((Touch.ofBelow (HB1.out.trans (HBc.out.mono HB1.out.size))).trans (grown_touch HG6.out (by rw [HE.out.2.1]; simp [TF.hot])))
   clear c3 HVm HM6 HG6 Hc
   obtain ⟨av, cv, hv, _⟩ := H6.out.own.cells
   obtain ⟨l, hl⟩ : ∃ l, l = opn.length := ⟨_, rfl⟩
   rw [← hl] at hv ho
   subst hv
   have c4 : w6.cell? ⟨g, 4, none⟩ = some (.slice av l cv) := by rw [HE.out.1]; exact H6.out.cell 4 rfl
   have H7 := LH (H6.out.later (below_alloc w6 (.cells #[.int .i64 (x : Int)] 3)))
   have HC2 : Hid (Cells (w6.alloc (.cells #[.int .i64 (x : Int)] 3)) (some ⟨w6.heap.size, 0, none⟩) ([x].map vi)) := LH (RowAt.cells ⟨_, heap_alloc_new _ _, [], rfl⟩)
   have HN1 : Hid (opn.length + 1 ≤ 1000000000000) := LH (by omega)
   clear hl
   go_wp2_with (refine wpList_append_ownI (m := 1) H7.out.own HC2.out rfl HN1.out rfl rfl rfl rfl ?_; intro v' w8 ho8 hg8 hr8; have HO8 := LH ho8; have HG8 := LH hg8; have HR8 := LH hr8; obtain ⟨av', cv', e', _⟩ := ho8.cells; obtain ⟨l', hl'⟩ : ∃ l', l' = (opn ++ [x]).length := ⟨_, rfl⟩; rw [← hl'] at e'; subst e'; clear hl'; have fr8 : w8.frozen? ⟨g, 4, none⟩ = false := by { rw [HE.out.1]; exact frozen_of_row _ _ _ _ _ ((hg8.block T.g (lt_of_head H7.out.head) (fun e => (H7.out.row _ e.symm).2.1 rfl)).trans H7.out.head) }; have ck8 : w8.cell? ⟨g, 4, none⟩ = some (.slice av l cv) := by { rw [HE.out.1]; exact (cell_of_row _ _ 4 _ _ _ ((hg8.block T.g (lt_of_head H7.out.head) (fun e => (H7.out.row _ e.symm).2.1 rfl)).trans H7.out.head)).trans rfl }; clear ho8 hg8 hr8)
   have h9 := H7.out.openPut HG8.out HO8.out (fun b hb => (HR8.out b hb).elim .inl (fun e => .inr (by rw [e]; exact Nat.le_refl _)))
   rw [← HE.out.1] at h9
   refine HTake.out _ _ h9 HOk'.out HNs.out ?_ (fun b hb => (HR8.out b hb).elim .inl (fun e => .inr (by rw [e]; simp; exact Nat.le_trans HT6.out.size (by simp))))
   have hb7 : Touch (T.hot (.slice av l cv)) w6 (w6.alloc (.cells #[.int .i64 (x : Int)] 3)) := Touch.ofBelow (below_alloc _ _)
   have hb8 : Touch (T.hot (.slice av l cv)) (w6.alloc (.cells #[.int .i64 (x : Int)] 3)) w8 := (grown_touchO HG8.out).wide (fun b hb => by simp only [TF.hot, List.mem_cons]; exact .inr (.inr (.inr hb)))
   exact ((HT6.out.trans hb7).trans hb8).trans (Touch.setCell _ (by rw [HE.out.1]; simp [TF.hot]) _)
set_option maxHeartbeats 2000000 in
theorem troot_any {w0 w : World} {F : Foot} {S : Dev} (h0 : DevAt w0 F S) {a : Option Addr} {B cap : Nat} {L : List Hd} (hlen : L.length = B) (hc : Cells w0 a (hdCs L)) (hB : B ≤ 1000)
  {T : TF} {n : Nat} {seen opn : List Nat} {bad : Bool} {v : Value} (h : TrAt w0 w F B a cap T n seen opn bad v) (hn : n ≤ 1000000000) (ho : opn.length ≤ 1000000000) (x : Nat) (hx : x ≤ 4611686018427387904) :
  Calls Tryz.prog 94 #[.pointer (some ⟨T.g, 0, none⟩), .int .i64 (x : Int)] w (Reached S L w0 F B a cap T n seen opn bad v w x) := by
 have HR := LH (treach_any h0 hlen hc hB h hn ho x hx (-1) 0 (WalkArith.wf_i64 (by omega)) (WalkArith.wf_i64 (by omega)))
 clear h h0 hc
 have HP : Hid (∀ e w', Reached S L w0 F B a cap T n seen opn bad v w x e w' → ∃ er, e = .returned (.int .i64 er)) := LH (fun e w' ⟨_, _, _, _, er, h, _⟩ => ⟨er, h⟩)
 generalize Reached S L w0 F B a cap T n seen opn bad v w x = Post at *
 go_enter Tryz.func94, Tryz.ntmps94
 go_wp2_with fail
 refine HR.out.mono ?_
 intro e w1 hp
 obtain ⟨er, rfl⟩ := HP.out _ _ hp
 have HPp := LH hp
 clear hp
 go_wp2_with fail
 exact HPp.out
def TStep (S : Dev) (L : List Hd) (w0 : World) (F : Foot) (B : Nat) (a : Option Addr) (cap : Nat) (T : TF) (n : Nat) (seen opn : List Nat) (bad : Bool) (v : Value) : Ending → World → Prop := fun e w' =>
 (opn = [] ∧ e = .returned (.bool false) ∧ TrAt w0 w' F B a cap T n seen opn bad v) ∨
 (∃ seen' opn' bad' v', opn ≠ [] ∧ e = .returned (.bool true) ∧ TrAt w0 w' F B a cap T (n + 64) seen' opn' bad' v' ∧ (∀ f, Trc (okN S L) (ptrN S) f seen opn [] bad → Trc (okN S L) (ptrN S) f seen' opn' [] bad') ∧
  seen'.length + opn.length = seen.length + opn'.length + 1 ∧ seen.length ≤ seen'.length ∧ (bad = true → bad' = true))
set_option maxHeartbeats 8000000 in
set_option maxRecDepth 20000 in
theorem tstep_any {w0 w : World} {F : Foot} {S : Dev} (h0 : DevAt w0 F S) {a : Option Addr} {B cap : Nat} {L : List Hd} (hlen : L.length = B) (hc : Cells w0 a (hdCs L)) (hB : B ≤ 1000)
  {T : TF} {n : Nat} {seen opn : List Nat} {bad : Bool} {v : Value} (h : TrAt w0 w F B a cap T n seen opn bad v) (hn : n ≤ 900000000) (ho : opn.length ≤ 900000000) (hop : ∀ x ∈ opn, x ≤ 1000000000) :
  Calls Tryz.prog 143 #[.pointer (some ⟨T.g, 0, none⟩)] w (TStep S L w0 F B a cap T n seen opn bad v) := by
 obtain ⟨av, cv, hv, hcv, hle, hmx⟩ := h.own.cells
 obtain ⟨l, hl⟩ : ∃ l, l = opn.length := ⟨_, rfl⟩
 obtain ⟨g, hg⟩ : ∃ g, g = T.g := ⟨_, rfl⟩
 rw [← hg]
 rw [← hl] at hv hle ho
 subst hv
 have H := LH h
 by_cases h0l : l = 0
 ·have HP : Hid (∀ w', TrAt w0 w' F B a cap T n seen opn bad (.slice av l cv) → TStep S L w0 F B a cap T n seen opn bad (.slice av l cv) (.returned (.bool false)) w') := LH (fun w' h => .inl ⟨List.length_eq_zero_iff.1 (by omega), rfl, h⟩)
  generalize TStep S L w0 F B a cap T n seen opn bad (.slice av l cv) = Post at *
  have c4 : w.cell? ⟨g, 4, none⟩ = some (.slice av l cv) := by rw [hg]; exact H.out.cell 4 rfl
  subst h0l
  clear hg hl h h0 hc hcv
  go_enter Tryz.func143, Tryz.ntmps143
  go_wp2_with fail
  exact HP.out _ H.out
 obtain ⟨o, y, rfl⟩ : ∃ o y, opn = o ++ [y] := by
  rcases List.eq_nil_or_concat opn with e | ⟨o, y, e⟩
  ·rw [e] at hl; simp at hl; omega
  ·exact ⟨o, y, by rw [e, List.concat_eq_append]⟩
 have hyb := hop y (by simp)
 clear hop
 have HPtr : Hid (∀ w', Below w0.heap.size w0 w' → Calls Tryz.prog 173 #[vdev F, .int .i64 (y : Int)] w' (PtrsPost S (y : Int) w')) := LH (fun w' hb => optrs_any (h0.below hb) (y : Int))
 have HP : Hid (∀ w' seen' opn' bad' v', TrAt w0 w' F B a cap T (n + 64) seen' opn' bad' v' → (∀ f, Trc (okN S L) (ptrN S) f seen o (ptrN S y) bad → Trc (okN S L) (ptrN S) f seen' opn' [] bad') → seen'.length + o.length = seen.length + opn'.length → seen.length ≤ seen'.length → (bad = true → bad' = true) →
   TStep S L w0 F B a cap T n seen (o ++ [y]) bad (.slice av l cv) (.returned (.bool true)) w') := LH (fun w' seen' opn' bad' v' h1 h2 h3 h4 h5 =>
  .inr ⟨seen', opn', bad', v', by simp, rfl, h1, fun f ht => h2 f ht.pop, by simp; omega, h4, h5⟩)
 generalize TStep S L w0 F B a cap T n seen (o ++ [y]) bad (.slice av l cv) = Post at *
 have hlo : l = o.length + 1 := by rw [hl]; simp
 have HOl := LH hlo
 have HG := LH hg
 have c4 : w.cell? ⟨g, 4, none⟩ = some (.slice av l cv) := by rw [hg]; exact H.out.cell 4 rfl
 have c0 : w.cell? ⟨g, 0, none⟩ = some (vdev F) := by rw [hg]; exact H.out.cell 0 rfl
 have k4 : w.frozen? ⟨g, 4, none⟩ = false := by rw [hg]; exact H.out.frozen 4
 obtain ⟨b, off, e, _, hcell⟩ := hcv.at (i := l - 1) (by simp; omega)
 have cy : w.cell? ⟨b, off + (l - 1), none⟩ = some (.int .i64 (y : Int)) := hcell (l - 1) (vi y) (by rw [hlo, List.map_append]; simp [vi])
 subst e
 have HRe : Hid (∀ (w1 : World) (n' : Nat) (seen' opn' : List Nat) (bad' : Bool) (v' : Value), TrAt w0 w1 F B a cap T n' seen' opn' bad' v' → n' ≤ 1000000000 → opn'.length ≤ 1000000000 → ∀ x : Nat, x ≤ 4611686018427387904 → ∀ i : Nat, i ≤ 4611686018427387904 →
   Calls Tryz.prog 142 #[.pointer (some ⟨g, 0, none⟩), .agg #[.int .i64 (y : Int), .int .i64 (i : Int)], .int .i64 (x : Int)] w1 (Reached S L w0 F B a cap T n' seen' opn' bad' v' w1 x)) := LH (fun w1 n' seen' opn' bad' v' h h1 h2 x hx i hi => by
  have hy2 : y ≤ 4611686018427387904 := Nat.le_trans hyb (by decide)
  have hr := treach_any h0 hlen hc hB h h1 h2 x hx (y : Int) (i : Int) (wf_nat hy2) (wf_nat hi)
  rw [← hg] at hr
  exact hr)
 have HSm := LH h0.small
 have hcut := H.out.own.cutN hl (n := l - 1) (by omega)
 rw [show (o ++ [y]).take (l - 1) = o from by rw [hlo]; simp] at hcut
 have HCut := LH hcut
 obtain ⟨j, hj⟩ : ∃ j, j = l - 1 := ⟨_, rfl⟩
 have hlj : (l : Int) - 1 = (j : Int) := by omega
 have hjl : j < l := by omega
 rw [← hj] at cy HCut
 clear hcut hj hlo hl hg h h0 hc hcv hcell
 have h0l' : ((l : Int) == 0) = false := by rw [beq_eq_false_iff_ne]; omega
 clear h0l
 go_enter Tryz.func143, Tryz.ntmps143
 go_upto_region 3 with fail
 have r4 := fun x => later_cell c4 x
 have ry := fun x => later_cell cy x
 refine wp_region_later (by kernel_rfl) (by kernel_rfl) ?_
 repeat (first | go_big_quiet_step (fail) | quiet_step (fail))
 refine wpQuiet_nil ?_
 rintro w1 ⟨x1, hx1⟩
 have HB1 : Hid (Below w.heap.size w w1) := LH (by rw [hx1]; exact x1.below)
 clear hx1 r4 ry
 have H1 := LH (H.out.later HB1.out)
 have c4' := below_cells HB1.out c4 (Nat.le_refl _)
 have c0' := below_cells HB1.out c0 (Nat.le_refl _)
 clear c4 c0 cy k4
 go_upto_region 4 with fail
 have r4 := fun x => later_cell c4' x
 refine wp_region_seg (C := fun w' => ∃ x : Later (w1), w' = x.val) [.fl [0, 1, 2, 3, 4, 5, 6, 7, 8, 9, 10, 11], .sq [12, 13, 14] false] (by kernel_rfl) (by kernel_rfl) (by intro c a d v w h; cases d <;> exact h) ?_
 simp only [segs, picks, List.getElem?_cons_succ, List.getElem?_cons_zero]
 have hC1 := later_drew (w1)
 refine wpSeg_fl hC1 ?_
 repeat (first | go_big_quiet_step (fail) | quiet_step (fail))
 refine wpQuiet_nil ?_
 have HB2 : Hid (Below w.heap.size w w1.drew) := LH (HB1.out.trans ((later_below hC1).mono HB1.out.size))
 have H2 := LH (H1.out.later (later_below hC1))
 generalize w1.drew = w2 at *
 have c4 : w2.cell? ⟨g, 4, none⟩ = some (.slice (some ⟨b, off, none⟩) l cv) := by rw [HG.out]; exact H2.out.cell 4 rfl
 have k4 : w2.frozen? ⟨g, 4, none⟩ = false := by rw [HG.out]; exact H2.out.frozen 4
 have c02 : w2.cell? ⟨g, 0, none⟩ = some (vdev F) := by rw [HG.out]; exact H2.out.cell 0 rfl
 have HC2 := LH (HCut.out.keep (fun b' hb' => HB2.out.block b' (HCut.out.lt b' hb')))
 have h3 := H2.out.openPut (grown_self _ _) HC2.out (fun b hb => .inl hb)
 rw [← HG.out] at h3
 have H3 := LH h3
 clear r4 c4' hC1 h3
 refine wpSeg_last ?_
 go_wp2_with fail
 generalize w2.setCell _ _ = w3 at *
 clear c4 k4 c0' c02 HC2 H1 HB1 H2 HB2 HCut H
 obtain ⟨v3, hv3⟩ : ∃ v3, v3 = Value.slice (some ⟨b, off, none⟩) j cv := ⟨_, rfl⟩
 rw [← hv3] at H3
 refine (HPtr.out w3 H3.out.org).mono ?_
 intro e w4 hp
 obtain ⟨ap, cp, ec, rfl, _, hcp, hnew, hb4⟩ := hp.out
 have H4 := LH (H3.out.later hb4)
 have HCp := LH hcp
 have hkl := ptrsD_len HSm.out (y : Int)
 obtain ⟨P, hP⟩ : ∃ P, P = ptrsD S (y : Int) := ⟨_, rfl⟩
 rw [← hP] at HCp hkl ⊢
 have HPe : Hid (ptrN S y = P) := LH hP.symm
 have HPb : Hid (∀ x ∈ P, x ≤ 4611686018427387904) := LH (fun x hx => by
  rw [hP] at hx
  unfold ptrsD at hx
  split at hx
  ·obtain ⟨i, _, rfl⟩ := List.mem_map.1 hx
   exact Nat.le_trans (capP_le _) (by decide)
  ·cases hx)
 obtain ⟨kl, hkle⟩ : ∃ kl, kl = P.length := ⟨_, rfl⟩
 have HKl := LH hkle
 have HNew : Hid (0 < kl → ∀ x, ap = some x → x.block < w4.heap.size ∧ x.block ∉ T.hot v3) := LH (fun hk x hx => by
  have h1 := hnew x hx
  have hlt := H3.out
  refine ⟨?_, ?_⟩
  ·obtain ⟨b1, o1, q1, hq, _⟩ := hcp.at (i := 0) (by rw [← hP]; simp; omega)
   rw [hx] at q1
   injection q1 with q1
   rw [q1]
   exact hq
  ·intro hm
   simp only [TF.hot, List.mem_cons, Option.mem_toList] at hm
   rcases hm with hm | hm | hm | hm
   ·have := lt_of_head hlt.head; omega
   ·have := hlt.seen.lt; omega
   ·have := hlt.bad.lt; omega
   ·have := hlt.own.lt _ hm; omega)
 rw [← hkle] at hkl ⊢
 clear hp hcp hnew hb4 hP hkle HPtr
 go_wp2_with fail
 go_loopw [51] (fun iv wr => ∃ (k : Nat) (seen' opn' : List Nat) (bad' : Bool) (v' : Value), k ≤ kl ∧ iv = .int .i64 (k : Int) ∧ Hid (TrAt w0 wr F B a cap T (n + k) seen' opn' bad' v') ∧
  Hid (∀ f, Trc (okN S L) (ptrN S) f seen o (ptrN S y) bad → Trc (okN S L) (ptrN S) f seen' opn' (P.drop k) bad') ∧ Hid (seen'.length + o.length = seen.length + opn'.length ∧ seen.length ≤ seen'.length ∧ (bad = true → bad' = true) ∧ opn'.length ≤ o.length + k) ∧
  Hid (Cells wr ap (P.map vi)) ∧ Hid (0 < kl → ∀ x, ap = some x → x.block < wr.heap.size ∧ x.block ∉ T.hot v')) (fun iv _ => kl - (intOf iv).toNat)
 case atStart => exact ⟨0, seen, o, bad, v3, by omega, rfl, H4, LH (fun f h => by rw [HPe.out] at h; exact h), LH ⟨rfl, Nat.le_refl _, id, by omega⟩, HCp, HNew⟩
 case round =>
  obtain ⟨k, seen', opn', bad', v', hk, rfl, HTr, HTc, HLe, HCr, HNr⟩ := hrel
  by_cases hlt : k < kl
  ·have hlt' : (k : Int) < (kl : Int) := by omega
   obtain ⟨x, hx⟩ : ∃ x, P[k]? = some x := ⟨_, List.getElem?_eq_getElem (by rw [← HKl.out]; exact hlt)⟩
   obtain ⟨b1, o1, q1, _, hc1⟩ := HCr.out.at (i := k) (by rw [List.length_map, ← HKl.out]; exact hlt)
   have cx : wr.cell? ⟨b1, o1 + k, none⟩ = some (.int .i64 (x : Int)) := hc1 k (vi x) (by rw [List.getElem?_map, hx]; rfl)
   have HXb := LH (HPb.out x (List.mem_of_getElem? hx))
   have HDr : Hid (P.drop k = x :: P.drop (k + 1)) := LH (by
    have hk2 : k < P.length := by rw [← HKl.out]; exact hlt
    rw [List.drop_eq_getElem_cons hk2]
    congr 1
    rw [List.getElem?_eq_getElem hk2] at hx
    injection hx)
   subst q1
   clear hc1 hx
   have hlen9 := HLe.out.2.2.2
   have hol := HOl.out
   have HBo : Hid (opn'.length ≤ 1000000000) := LH (by omega)
   clear hlen9 hol
   go_wp2_with fail
   refine (HRe.out wr (n + k) seen' opn' bad' v' HTr.out (by omega) HBo.out x HXb.out k (by omega)).mono ?_
   rintro e w5 ⟨seen2, opn2, bad2, v2, er, rfl, ht2, _, _, hbb, htc, hl1, hl2, hto, hro, hl3⟩
   have HT2 := LH ht2
   have HTc2 : Hid (∀ f, Trc (okN S L) (ptrN S) f seen o (ptrN S y) bad → Trc (okN S L) (ptrN S) f seen2 opn2 (P.drop (k + 1)) bad2) := LH (fun f h => htc f _ (by rw [← HDr.out]; exact HTc.out f h))
   have HLe2 : Hid (seen2.length + o.length = seen.length + opn2.length ∧ seen.length ≤ seen2.length ∧ (bad = true → bad2 = true) ∧ opn2.length ≤ o.length + (k + 1)) := LH (by
    obtain ⟨z1, z2, z3, z4⟩ := HLe.out
    exact ⟨by omega, by omega, fun h => hbb (z3 h), by omega⟩)
   have hnr := HNr.out (by omega) _ rfl
   have HC5 : Hid (Cells w5 (some ⟨b1, o1, none⟩) (P.map vi)) := LH (HCr.out.touchL hto (fun x hx _ => by injection hx with hx; rw [← hx]; exact hnr.2))
   have HN5 : Hid (0 < kl → ∀ x, some (⟨b1, o1, none⟩ : Addr) = some x → x.block < w5.heap.size ∧ x.block ∉ T.hot v2) := LH (fun _ x hx => by
    injection hx with hx
    subst hx
    refine ⟨Nat.lt_of_lt_of_le hnr.1 hto.size, fun hm => ?_⟩
    simp only [TF.hot, List.mem_cons, Option.mem_toList] at hm
    rcases hm with hm | hm | hm | hm
    ·exact hnr.2 (by simp [TF.hot, hm])
    ·exact hnr.2 (by simp [TF.hot, hm])
    ·exact hnr.2 (by simp [TF.hot, hm])
    ·rcases hro _ hm with c | c
     ·exact hnr.2 (by simp [TF.hot, c])
     ·have := hnr.1; omega)
   clear ht2 hbb htc hl1 hl2 hto hro hl3 hnr cx
   go_wp2_with fail
   exact ⟨⟨k + 1, seen2, opn2, bad2, v2, by omega, vint (by omega), HT2, HTc2, HLe2, HC5, HN5⟩, by simp [intOf]; omega⟩
  ·have hltd : decide ((k : Int) < (kl : Int)) = false := by simp; omega
   have hke : k = kl := by omega
   have HEnd : Hid (P.drop k = []) := LH (by rw [hke, HKl.out]; exact List.drop_length)
   have HTf := LH (fun f h => (by have := HTc.out f h; rw [HEnd.out] at this; exact this : Trc (okN S L) (ptrN S) f seen' opn' [] bad'))
   have HTm := LH (HTr.out.mono (n' := n + 64) (by omega))
   clear hke
   go_wp2_with fail
   exact HP.out _ seen' opn' bad' v' HTm.out HTf.out HLe.out.1 HLe.out.2.1 HLe.out.2.2.1
end Go.Proofs.YtpohaahihdhleaaGreat
namespace Go.Proofs.YtpohaahihdhleaaGreat
open Go.Maps Go.ChangeMaps Go.MapKept Go.WideElems
section
variable {P : Program} {k e t : TypeId} {w : World} {b n : Nat} {M : Lit → Option Value}
variable {ops : Array Oper} {rest : List Oper} {o : Oper} {a : Act} {Q : Exit → Act → World → Prop}
end
end Go.Proofs.YtpohaahihdhleaaGreat
namespace Go.Proofs.YtpohaahihdhleaaGreat
open Go.RowKit Go.Maps
end Go.Proofs.YtpohaahihdhleaaGreat
namespace Go.Proofs
open Go.Shelf
def Tryz.lays189_ren : Go.Shelf.Ren := ⟨fun | 189 => 133 | 125 => 168 | 257 => 167 | 128 => 197 | 129 => 198 | 294 => 188 | 295 => 189 | 296 => 190 | 297 => 191 | 298 => 192 | 299 => 193 | 216 => 194 | 300 => 195 | 301 => 196 | 328 => 208 | 329 => 209 | 330 => 210 | 331 => 211 | 332 => 212 | 215 => 213 | 343 => 220 | n => n, fun | 28 => 47 | 3 => 3 | 46 => 115 | 0 => 0 | 51 => 166 | 53 => 40 | 4 => 4 | 183 => 281 | 182 => 280 | 131 => 199 | 5 => 5 | 9 => 9 | 218 => 293 | 222 => 296 | 228 => 302 | 229 => 303 | n => n, fun | n => n⟩
theorem Tryz.lays189 : Go.Proofs.Lays.n189 Tryz.prog Tryz.lays189_ren := {
 mixed := by kernel_rfl
 f125 := Tryz.func168.trans (congrArg some (by kernel_rfl))
 f128 := Tryz.func197.trans (congrArg some (by kernel_rfl))
 f129 := Tryz.func198.trans (congrArg some (by kernel_rfl))
 f189 := Tryz.func133.trans (congrArg some (by kernel_rfl))
 f215 := Tryz.func213.trans (congrArg some (by kernel_rfl))
 f216 := Tryz.func194.trans (congrArg some (by kernel_rfl))
 f257 := Tryz.func167.trans (congrArg some (by kernel_rfl))
 f294 := Tryz.func188.trans (congrArg some (by kernel_rfl))
 f295 := Tryz.func189.trans (congrArg some (by kernel_rfl))
 f296 := Tryz.func190.trans (congrArg some (by kernel_rfl))
 f297 := Tryz.func191.trans (congrArg some (by kernel_rfl))
 f298 := Tryz.func192.trans (congrArg some (by kernel_rfl))
 f299 := Tryz.func193.trans (congrArg some (by kernel_rfl))
 f300 := Tryz.func195.trans (congrArg some (by kernel_rfl))
 f301 := Tryz.func196.trans (congrArg some (by kernel_rfl))
 f328 := Tryz.func208.trans (congrArg some (by kernel_rfl))
 f329 := Tryz.func209.trans (congrArg some (by kernel_rfl))
 f330 := Tryz.func210.trans (congrArg some (by kernel_rfl))
 f331 := Tryz.func211.trans (congrArg some (by kernel_rfl))
 f332 := Tryz.func212.trans (congrArg some (by kernel_rfl))
 f343 := Tryz.func220.trans (congrArg some (by kernel_rfl))
 t0 := Tryz.underlying0
 a0 := Tryz.isAgg0
 z0 := Tryz.sizeOf0
 v0 := Tryz.zeroValue0
 t3 := Tryz.underlying3
 a3 := Tryz.isAgg3
 z3 := Tryz.sizeOf3
 v3 := Tryz.zeroValue3
 t4 := Tryz.underlying4
 a4 := Tryz.isAgg4
 z4 := Tryz.sizeOf4
 v4 := Tryz.zeroValue4
 t5 := Tryz.underlying5
 a5 := Tryz.isAgg5
 z5 := Tryz.sizeOf5
 v5 := Tryz.zeroValue5
 t9 := Tryz.underlying9
 a9 := Tryz.isAgg9
 z9 := Tryz.sizeOf9
 v9 := Tryz.zeroValue9
 t28 := Tryz.underlying47
 a28 := Tryz.isAgg47
 z28 := Tryz.sizeOf47
 v28 := Tryz.zeroValue47
 t46 := Tryz.underlying115
 a46 := Tryz.isAgg115
 z46 := Tryz.sizeOf115
 v46 := Tryz.zeroValue115
 t51 := Tryz.underlying166
 a51 := Tryz.isAgg166
 z51 := Tryz.sizeOf166
 v51 := Tryz.zeroValue166
 t53 := Tryz.underlying40
 a53 := Tryz.isAgg40
 z53 := Tryz.sizeOf40
 v53 := Tryz.zeroValue40
 t131 := Tryz.underlying199
 a131 := Tryz.isAgg199
 z131 := Tryz.sizeOf199
 v131 := Tryz.zeroValue199
 t182 := Tryz.underlying280
 a182 := Tryz.isAgg280
 z182 := Tryz.sizeOf280
 v182 := Tryz.zeroValue280
 t183 := Tryz.underlying281
 a183 := Tryz.isAgg281
 z183 := Tryz.sizeOf281
 v183 := Tryz.zeroValue281
 t218 := Tryz.underlying293
 a218 := Tryz.isAgg293
 z218 := Tryz.sizeOf293
 v218 := Tryz.zeroValue293
 t222 := Tryz.underlying296
 a222 := Tryz.isAgg296
 z222 := Tryz.sizeOf296
 v222 := Tryz.zeroValue296
 t228 := Tryz.underlying302
 a228 := Tryz.isAgg302
 z228 := Tryz.sizeOf302
 v228 := Tryz.zeroValue302
 t229 := Tryz.underlying303
 a229 := Tryz.isAgg303
 z229 := Tryz.sizeOf303
 v229 := Tryz.zeroValue303 }
end Go.Proofs
namespace Go.Proofs.YtpohaahihdhleaaGreat
open Go.RowKit Go.Maps Go.Shelf Go.Sort
theorem putCells_front (cur : Array Value) (d : Array Int) (h : d.size ≤ cur.size) : (putCells (Value.int .i64) 0 d cur).toList = d.toList.map (Value.int .i64) ++ cur.toList.drop d.size := by
 apply List.ext_getElem?
 intro k
 unfold putCells
 rw [Array.getElem?_toList, Array.getElem?_mapIdx]
 by_cases hk : k < d.size
 ·rw [List.getElem?_append_left (by simpa using hk), List.getElem?_map, Array.getElem?_toList, Array.getElem?_eq_getElem hk, Array.getElem?_eq_getElem (show k < cur.size by omega)]
  simp [hk]
 ·rw [List.getElem?_append_right (by simpa using hk), List.getElem?_drop]
  have e : d.size + (k - (d.toList.map (Value.int .i64)).length) = k := by simp; omega
  rw [e, Array.getElem?_toList]
  cases cur[k]? with
  | none => rfl
  | some x => simp [hk]
theorem putRow_heap {w : World} {g : Nat} {cur : Array Value} {e : TypeId} {fr : Nat × Nat} (hg : w.heap[g]? = some (.cells cur e fr)) (d : Array Int) (q : Nat) :
  (putRow (Value.int .i64) (Sort.ahead w q) g 0 d).heap[g]? = some (.cells (putCells (Value.int .i64) 0 d cur) e fr) := by
 unfold putRow mapBlock
 simp [Array.getElem?_modify, hg, onCells]
theorem putRow_grown (w : World) (g : Nat) (d : Array Int) (q : Nat) : w.grownBy (putRow (Value.int .i64) (Sort.ahead w q) g 0 d) (some g) := by
 refine ⟨rfl, rfl, rfl, by simp [putRow, mapBlock], fun k hk hne => ?_⟩
 have : ¬ g = k := fun e => hne (by rw [e])
 simp [putRow, mapBlock, Array.getElem?_modify, this]
theorem grow_grown (w : World) (os : Array Obj) : w.grownBy (grow w os) none :=
 ⟨rfl, rfl, rfl, by simp [grow], fun k hk _ => heap_grow_old w os hk⟩
theorem row_put {w : World} {g cap : Nat} {cur : Array Value} (hg : w.heap[g]? = some (.cells cur 3 (0, 0))) (hc : cur.size = cap) (h2 : cap ≤ maxLen) (d : Array Int) (hd : d.size ≤ cap) (q : Nat) (ys : List Nat) (hy : d.toList.take ys.length = ys.map (fun x : Nat => (x : Int))) (hl : ys.length ≤ d.size) :
  OwnI (putRow (Value.int .i64) (Sort.ahead w q) g 0 d) (.slice (some ⟨g, 0, none⟩) ys.length cap) ys := by
 refine .inl ⟨by simp, .inr ⟨g, cap, _, rfl, Nat.zero_le _, putRow_heap hg d q, by omega, h2, by unfold putCells; simp [hc], ?_⟩⟩
 rw [putCells_front _ _ (by omega), Nat.mul_one, List.take_append_of_le_length (by simpa using hl), ← List.map_take, hy, List.map_map]
 rfl
theorem OwnI.row {w : World} {v : Value} {xs : List Nat} (h : OwnI w v xs) (hx : xs ≠ []) : ∃ g cap cur, v = .slice (some ⟨g, 0, none⟩) xs.length cap ∧ w.heap[g]? = some (.cells cur 3 (0, 0)) ∧ xs.length ≤ cap ∧ cap ≤ maxLen ∧ cur.size = cap ∧ rowOf v = some g ∧
  Go.Sort.Holds (Value.int .i64) w g 0 (xs.map (fun x : Nat => (x : Int))).toArray := by
 rcases h with h | ⟨a, _, h⟩
 ·rcases h.2 with ⟨_, h0⟩ | ⟨g, cap, cur, rfl, hb, hg, h1, h2, h3, h4⟩
  ·exact absurd (List.length_eq_zero_iff.1 h0) hx
  ·have hpos : 0 < xs.length := List.length_pos_iff.2 hx
   refine ⟨g, cap, cur, rfl, hg, h1, h2, by omega, ?_, fun j hj => ⟨?_, frozen_of_row _ _ _ _ _ hg⟩⟩
   ·show (if cap = 0 then none else some g) = some g
    rw [if_neg (by omega)]
   ·have hj' : j < xs.length := by simpa using hj
    rw [Nat.zero_add, cell_of_row _ _ j _ _ _ hg]
    have h5 := congrArg (fun l => l[j]?) h4
    rw [Nat.mul_one] at h5
    simp only [List.getElem?_take, if_pos hj', List.getElem?_map, List.getElem?_eq_getElem hj', Option.map_some] at h5
    rw [← Array.getElem?_toList, h5]
    simp [vi, hj']
 ·exact absurd h hx
theorem OwnI.none_val {w : World} {v : Value} (h : OwnI w v []) : ∃ p c, v = .slice p 0 c := by
 obtain ⟨a, c, e, _⟩ := h.cells
 exact ⟨a, c, e⟩
def SortedI (w : World) (v : Value) (xs : List Nat) : Ending → World → Prop := fun e w' => e = .returned (.tuple #[]) ∧ ∃ ys : List Nat, OwnI w' v ys ∧ ys.Pairwise (· ≤ ·) ∧ ys.Perm xs ∧ w.grownBy w' (rowOf v)
theorem sortI_any {w : World} {v : Value} {xs : List Nat} (h : OwnI w v xs) (hl : xs.length ≤ 1000000000) : Calls Tryz.prog 133 #[v] w (SortedI w v xs) := by
 by_cases hx : xs = []
 ·subst hx
  obtain ⟨p, c, rfl⟩ := h.none_val
  refine (Any.slices_Sort_int_none Tryz.lays189 p c w).mono ?_
  rintro e w' ⟨rfl, rfl⟩
  exact ⟨rfl, [], h, List.Pairwise.nil, List.Perm.refl _, grown_self _ _⟩
 ·obtain ⟨g, cap, cur, rfl, hg, h1, h2, h3, h4, hH⟩ := h.row hx
  have hc := Any.slices_Sort_int Tryz.lays189 g 0 cap (xs.map (fun x : Nat => (x : Int))) w hH (Array.getElem?_eq_some_iff.1 hg).1 (by rw [List.length_map]; omega)
  rw [List.length_map] at hc
  refine hc.mono ?_
  rintro e w' ⟨rfl, q, os, rfl⟩
  have hm : (xs.map (fun x : Nat => (x : Int))).mergeSort (fun x y => decide (x ≤ y)) = (xs.mergeSort (fun x y => decide (x ≤ y))).map (fun x : Nat => (x : Int)) := by
   rw [List.map_mergeSort (s := fun x y : Int => decide (x ≤ y)) (fun a _ b _ => by simp)]
  rw [hm]
  have hpm := List.mergeSort_perm xs (fun x y => decide (x ≤ y))
  have hlm : (xs.mergeSort (fun x y => decide (x ≤ y))).length = xs.length := hpm.length_eq
  have hso : (xs.mergeSort (fun x y => decide (x ≤ y))).Pairwise (· ≤ ·) := by
   have := List.pairwise_mergeSort (le := fun x y : Nat => decide (x ≤ y)) (fun a b c h1 h2 => by simp at *; omega) (fun a b => by simp; omega) xs
   exact this.imp (fun h => by simpa using h)
  have ho := row_put hg h3 h2 ((xs.mergeSort (fun x y => decide (x ≤ y))).map (fun x : Nat => (x : Int))).toArray (by rw [List.size_toArray, List.length_map, hlm]; exact h1) q (xs.mergeSort (fun x y => decide (x ≤ y))) (by rw [List.take_of_length_le (by simp)]) (by simp)
  rw [hlm] at ho
  have hgr := putRow_grown w g ((xs.mergeSort (fun x y => decide (x ≤ y))).map (fun x : Nat => (x : Int))).toArray q
  refine ⟨rfl, _, ?_, hso, hpm, ?_⟩
  ·exact ho.keep (fun b hb => heap_grow_old _ _ (ho.lt b hb))
  ·have hg2 := grow_grown (putRow (Value.int .i64) (Sort.ahead w q) g 0 ((xs.mergeSort (fun x y => decide (x ≤ y))).map (fun x : Nat => (x : Int))).toArray) os
   rw [h4]
   exact ⟨hg2.os.trans hgr.os, hg2.tape.trans hgr.tape, hg2.output.trans hgr.output, Nat.le_trans hgr.size hg2.size, fun k hk hne => (hg2.block k (Nat.lt_of_lt_of_le hk hgr.size) (by simp)).trans (hgr.block k hk hne)⟩
end Go.Proofs.YtpohaahihdhleaaGreat
namespace Go.Proofs.YtpohaahihdhleaaGreat
open Go.RowKit Go.Maps Go.ChangeMaps
theorem least_ex {p : Nat → Prop} (h : ∃ m, p m) : ∃ m, p m ∧ ∀ k, p k → m ≤ k := by
 have go : ∀ n m, m ≤ n → p m → ∃ m, p m ∧ ∀ k, p k → m ≤ k := by
  intro n
  induction n with
  | zero => intro m hm hp; exact ⟨m, hp, fun k _ => by omega⟩
  | succ n ih =>
   intro m hm hp
   by_cases hq : ∃ k, k ≤ n ∧ p k
   ·obtain ⟨k, hk, hpk⟩ := hq
    exact ih k hk hpk
   ·refine ⟨m, hp, fun k hk => ?_⟩
    rcases Nat.lt_or_ge n k with c | c
    ·omega
    ·exact absurd ⟨k, c, hk⟩ hq
 obtain ⟨m, hm⟩ := h
 exact go m m (Nat.le_refl _) hm
open Classical in
noncomputable def leastM (p : Nat → Prop) : Nat := if h : ∃ m, p m then Classical.choose (least_ex h) else 0
theorem leastM_spec {p : Nat → Prop} (h : ∃ m, p m) : p (leastM p) := by
 unfold leastM
 rw [dif_pos h]
 exact (Classical.choose_spec (least_ex h)).1
theorem leastM_le {p : Nat → Prop} {m : Nat} (h : p m) : leastM p ≤ m := by
 unfold leastM
 rw [dif_pos ⟨m, h⟩]
 exact (Classical.choose_spec (least_ex ⟨m, h⟩)).2 m h
theorem Trc.len {S : Dev} {L : List Hd} {f seen opn rest : List Nat} {bad : Bool} (h : Trc (okN S L) (ptrN S) f seen opn rest bad) : seen.length ≤ 512 * L.length :=
 nodup_len _ _ (fun x hx => (okN_lt (h.in_ x hx).ok').2) (nodup_count h.nd)
theorem Trc.opn_lt {S : Dev} {L : List Hd} {f seen opn rest : List Nat} {bad : Bool} (h : Trc (okN S L) (ptrN S) f seen opn rest bad) : ∀ x ∈ opn, x < 512 * L.length :=
 fun x hx => (okN_lt (h.in_ x (h.sub x hx)).ok').2
def TrRun (S : Dev) (L : List Hd) (w0 : World) (F : Foot) (B : Nat) (a : Option Addr) (cap : Nat) (T : TF) (f : List Nat) (w : World) (m : Nat) : Prop :=
 ∃ n seen opn bad v, TrAt w0 w F B a cap T n seen opn bad v ∧ Trc (okN S L) (ptrN S) f seen opn [] bad ∧ (512 * B - seen.length) + opn.length = m ∧ n + 64 * m ≤ 800000000
def TrDone (S : Dev) (L : List Hd) (w0 : World) (F : Foot) (B : Nat) (a : Option Addr) (cap : Nat) (T : TF) (f : List Nat) : Ending → World → Prop := fun e w' =>
 ∃ n seen bad v, e = .returned (.int .i64 (if bad = true then 22 else 0)) ∧ TrAt w0 w' F B a cap T n seen [] bad v ∧ Trc (okN S L) (ptrN S) f seen [] [] bad
set_option maxHeartbeats 4000000 in
set_option maxRecDepth 20000 in
theorem trun_any {w0 w : World} {F : Foot} {S : Dev} (h0 : DevAt w0 F S) {a : Option Addr} {B cap : Nat} {L : List Hd} (hlen : L.length = B) (hc : Cells w0 a (hdCs L)) (hB : B ≤ 1000)
  {T : TF} {f : List Nat} {m0 : Nat} (h : TrRun S L w0 F B a cap T f w m0) :
  Calls Tryz.prog 95 #[.pointer (some ⟨T.g, 0, none⟩)] w (TrDone S L w0 F B a cap T f) := by
 have HP : Hid (∀ w' n seen v, TrAt w0 w' F B a cap T n seen [] false v → Trc (okN S L) (ptrN S) f seen [] [] false → TrDone S L w0 F B a cap T f (.returned (.int .i64 0)) w') := LH (fun w' n seen v h1 h2 => ⟨n, seen, false, v, rfl, h1, h2⟩)
 have HQ : Hid (∀ w' n seen v, TrAt w0 w' F B a cap T n seen [] true v → Trc (okN S L) (ptrN S) f seen [] [] true → TrDone S L w0 F B a cap T f (.returned (.int .i64 22)) w') := LH (fun w' n seen v h1 h2 => ⟨n, seen, true, v, rfl, h1, h2⟩)
 generalize TrDone S L w0 F B a cap T f = Post at *
 obtain ⟨g, hg⟩ : ∃ g, g = T.g := ⟨_, rfl⟩
 have HG := LH hg
 have HStep : Hid (∀ (w1 : World) (n : Nat) (seen opn : List Nat) (bad : Bool) (v : Value), TrAt w0 w1 F B a cap T n seen opn bad v → n ≤ 900000000 → opn.length ≤ 900000000 → (∀ x ∈ opn, x ≤ 1000000000) →
   Calls Tryz.prog 143 #[.pointer (some ⟨g, 0, none⟩)] w1 (TStep S L w0 F B a cap T n seen opn bad v)) := LH (fun w1 n seen opn bad v h h1 h2 h3 => by
  have := tstep_any h0 hlen hc hB h h1 h2 h3
  rw [← hg] at this
  exact this)
 rw [← hg]
 have HS := LH h
 have HL := LH hlen
 clear h0 hc hg h hlen
 go_enter Tryz.func95, Tryz.ntmps95
 go_wp2_with fail
 go_loopw [] (fun wr => ∃ m, TrRun S L w0 F B a cap T f wr m) (fun wr => leastM (TrRun S L w0 F B a cap T f wr))
 case atStart => exact ⟨m0, HS.out⟩
 case round =>
  obtain ⟨m, hm⟩ : ∃ m, m = leastM (TrRun S L w0 F B a cap T f wr) := ⟨_, rfl⟩
  have hsp := leastM_spec hrel
  rw [← hm] at hsp
  have HM := LH hm
  obtain ⟨n, seen, opn, bad, v, ht, htc, hmm, hnm⟩ := hsp
  clear hrel hm
  have htl := htc.len
  rw [HL.out] at htl
  have hop : ∀ x ∈ opn, x ≤ 1000000000 := fun x hx => by
   have h1 := htc.opn_lt x hx
   rw [HL.out] at h1
   omega
  have HSt := LH (HStep.out wr n seen opn bad v ht (by omega) (by omega) hop)
  have HTc := LH htc
  have HNm : Hid (n + 64 * m ≤ 800000000 ∧ (512 * B - seen.length) + opn.length = m ∧ seen.length ≤ 512 * B) := LH ⟨hnm, hmm, htl⟩
  clear ht htc hmm hnm htl hop
  go_wp2_with fail
  refine HSt.out.mono ?_
  rintro e w1 (⟨rfl, rfl, ht1⟩ | ⟨seen', opn', bad', v', hne, rfl, ht1, hct, hl1, hl2, _⟩)
  ·have HT1 := LH ht1
   clear ht1
   cases bad with
   | false =>
    have HB1 : Hid (BadAt Tryz.prog 252 w1 T.mb n false) := LH HT1.out.bad
    have c5 : w1.cell? ⟨g, 5, none⟩ = some (.map (some T.mb)) := by rw [HG.out]; exact HT1.out.cell 5 rfl
    go_wp2_with (refine wpList_blen rfl _ _ rfl 252 3 Tryz.underlying248 T.mb n false rfl HB1.out ?_; intro s hs hs0 hs1; obtain rfl := hs0 rfl; clear hs hs0 hs1)
    exact HP.out _ _ _ _ HT1.out HTc.out
   | true =>
    have HB1 : Hid (BadAt Tryz.prog 252 w1 T.mb n true) := LH HT1.out.bad
    have c5 : w1.cell? ⟨g, 5, none⟩ = some (.map (some T.mb)) := by rw [HG.out]; exact HT1.out.cell 5 rfl
    go_wp2_with (refine wpList_blen rfl _ _ rfl 252 3 Tryz.underlying248 T.mb n true rfl HB1.out ?_; intro s hs hs0 hs1; have hsp : 0 < (s : Int) := (by have := hs1 rfl; omega); clear hs hs0 hs1)
    exact HQ.out _ _ _ _ HT1.out HTc.out
  ·have ht2 := hct f HTc.out
   have hlen2 := ht2.len
   rw [HL.out] at hlen2
   obtain ⟨z1, z2, z3⟩ := HNm.out
   have hpos : 0 < opn.length := List.length_pos_iff.2 hne
   have HNew : Hid (∃ m', m' < m ∧ TrRun S L w0 F B a cap T f w1 m') := LH ⟨(512 * B - seen'.length) + opn'.length, by omega, n + 64, seen', opn', bad', v', ht1, ht2, rfl, by omega⟩
   clear ht1 hct hl1 hl2 hne ht2 hlen2 z1 z2 z3 hpos HNm HTc HSt
   go_wp2_with fail
   obtain ⟨m', hlt, hr⟩ := HNew.out
   refine ⟨⟨m', hr⟩, ?_⟩
   rw [← HM.out]
   exact Nat.lt_of_le_of_lt (leastM_le hr) hlt
def SeenPost (w : World) (seen : List Nat) : Ending → World → Prop := fun e w' => ∃ v ys, e = .returned v ∧ OwnI w' v ys ∧ ys.Pairwise (· ≤ ·) ∧ ys.Perm seen ∧ Below w.heap.size w w' ∧ (∀ b, rowOf v = some b → w.heap.size ≤ b)
set_option maxHeartbeats 4000000 in
set_option maxRecDepth 20000 in
theorem tseen_any {w0 w : World} {F : Foot} {a : Option Addr} {B cap : Nat} {T : TF} {n : Nat} {seen opn : List Nat} {bad : Bool} {v : Value} (h : TrAt w0 w F B a cap T n seen opn bad v) (hnd : seen.Nodup) (hl : seen.length ≤ 900000000) :
  Calls Tryz.prog 96 #[.pointer (some ⟨T.g, 0, none⟩)] w (SeenPost w seen) := by
 have HP : Hid (∀ v ys w', OwnI w' v ys → ys.Pairwise (· ≤ ·) → ys.Perm seen → Below w.heap.size w w' → (∀ b, rowOf v = some b → w.heap.size ≤ b) → SeenPost w seen (.returned v) w') := LH (fun v ys w' h1 h2 h3 h4 h5 => ⟨v, ys, rfl, h1, h2, h3, h4, h5⟩)
 generalize SeenPost w seen = Post at *
 have c3 : w.cell? ⟨T.g, 3, none⟩ = some (.map (some T.ms)) := h.cell 3 rfl
 have HV := LH h.seen
 obtain ⟨g, hg⟩ : ∃ g, g = T.g := ⟨_, rfl⟩
 obtain ⟨ms, hms⟩ : ∃ g, g = T.ms := ⟨_, rfl⟩
 rw [← hg, ← hms] at c3
 rw [← hms] at HV
 rw [← hg]
 have HNd := LH hnd
 have HL := LH hl
 clear h hnd hl hg hms
 go_enter Tryz.func96, Tryz.ntmps96
 go_wp2_with (at_range; refine wpList_srange rfl _ 247 rfl 3 4 Tryz.underlying3 Tryz.underlying247 ms n seen rfl HV.out ?_; intro w1 cnt0 hr0 hg0 hs0)
 have HR0 := LH hr0
 have HB0 := LH (grown_none hg0)
 have HSz : Hid (w.heap.size + 1 ≤ w1.heap.size) := LH (by omega)
 clear hr0 hg0 hs0 c3
 go_frame
 obtain ⟨r, hr⟩ : ∃ r, r = w.heap.size := ⟨_, rfl⟩
 have HRr := LH hr
 rw [← hr] at HR0 HSz ⊢
 clear hr
 go_loopw [3] (fun ov wr => ∃ (dn left : List Nat) (cnt : Nat), Hid (OwnI wr ov dn) ∧ Hid (∀ b, rowOf ov = some b → r < b) ∧ Hid (SRange Tryz.prog 3 wr ms r n seen left cnt) ∧ Hid ((dn ++ left).Perm seen) ∧ Hid (Below w.heap.size w wr ∧ r + 1 ≤ wr.heap.size)) (fun _ wr => wr.rangeLeft ms r)
 case atStart => exact ⟨[], seen, cnt0, LH (OwnI.nil _), LH (fun b hb => by cases hb), HR0, LH (List.Perm.refl _), LH ⟨HB0.out, HSz.out⟩⟩
 case round =>
  obtain ⟨dn, left, cnt, HO, HRow, HR, HPm, HB⟩ := hrel
  have hndl : left.Nodup := (List.nodup_append.1 (HPm.out.nodup_iff.2 HNd.out)).2.1
  have hsub : ∀ x ∈ left, x ∈ seen := fun x hx => HPm.out.mem_iff.1 (List.mem_append_right _ hx)
  have HNl := LH hndl
  have HSb := LH hsub
  clear hndl hsub
  obtain ⟨av, cv, hov, _⟩ := HO.out.cells
  obtain ⟨l, hll⟩ : ∃ l, l = dn.length := ⟨_, rfl⟩
  rw [← hll] at hov
  have HLl := LH hll
  subst hov
  clear hll
  go_wp2_with (at_next; refine wpList_snext rfl _ rfl 3 Tryz.underlying3 ms r n seen left _ HNl.out HSb.out rfl HR.out ?_ ?_)
  ·intro h0
   subst h0
   have HPe : Hid (dn.Perm seen) := LH (by have := HPm.out; rwa [List.append_nil] at this)
   have HDl : Hid (dn.length ≤ 1000000000) := LH (by rw [HPe.out.length_eq]; have := HL.out; omega)
   go_wp2_with fail
   refine (sortI_any HO.out HDl.out).mono ?_
   rintro e w2 ⟨rfl, ys, ho, hso, hpm, hgr⟩
   have hlen : ys.length = l := by rw [hpm.length_eq, HLl.out]
   have HO2 := LH ho
   have HS2 := LH hso
   have HP2 := LH (hpm.trans HPe.out)
   have HB2 : Hid (Below w.heap.size w w2) := LH (by
    have h1 := HB.out.1
    refine ⟨hgr.os.trans h1.os, hgr.tape.trans h1.tape, hgr.output.trans h1.output, Nat.le_trans h1.size hgr.size, fun k hk => (hgr.block k (Nat.lt_of_lt_of_le hk h1.size) (fun e => ?_)).trans (h1.block k hk)⟩
    have := HRow.out _ e.symm
    rw [HRr.out] at this
    omega)
   have HRw : Hid (∀ b, rowOf (.slice av l cv) = some b → w.heap.size ≤ b) := LH (fun b hb => by have := HRow.out b hb; rw [HRr.out] at this; omega)
   clear ho hso hpm hgr hlen
   go_wp2_with fail
   exact HP.out _ _ _ HO2.out HS2.out HP2.out HB2.out HRw.out
  ·intro x w2 cnt1 hx hr1 hlt hg1 hs1 hen
   have HR1 := LH hr1
   have HLt := LH hlt
   have HO1 : Hid (OwnI w2 (.slice av l cv) dn) := LH (HO.out.keep (fun b hb => hg1.block b (HO.out.lt b hb) (fun e => by injection e with e; have := HRow.out b hb; omega)))
   have HB1 : Hid (Below w.heap.size w w2 ∧ r + 1 ≤ w2.heap.size) := LH ⟨HB.out.1.trans ⟨hg1.os, hg1.tape, hg1.output, hg1.size, fun k hk => hg1.block k (Nat.lt_of_lt_of_le hk HB.out.1.size) (fun e => by injection e with e; rw [HRr.out] at e; omega)⟩, by rw [hs1]; exact HB.out.2⟩
   have HP1 : Hid ((dn ++ [x] ++ left.erase x).Perm seen) := LH (by
    refine List.Perm.trans ?_ HPm.out
    rw [List.append_assoc]
    exact List.Perm.append_left _ (List.perm_cons_erase hx).symm)
   have HO2 := LH (HO1.out.keep (fun b hb => (below_alloc w2 (.cells #[.int .i64 (x : Int)] 3)).block b (HO1.out.lt b hb)))
   have HC2 : Hid (Cells (w2.alloc (.cells #[.int .i64 (x : Int)] 3)) (some ⟨w2.heap.size, 0, none⟩) ([x].map vi)) := LH (RowAt.cells ⟨_, heap_alloc_new _ _, [], rfl⟩)
   have HN1 : Hid (dn.length + 1 ≤ 1000000000000) := LH (by
    have h1 := HPm.out.length_eq
    rw [List.length_append] at h1
    have := HL.out
    omega)
   have HSz2 : Hid (r < w2.heap.size) := LH (by have := HB1.out.2; omega)
   clear hx hr1 hlt hg1 hs1
   go_wp2_with (refine wpList_append_ownI (m := 1) HO2.out HC2.out rfl HN1.out rfl rfl rfl rfl ?_; intro v' w3 ho hg hr; have HO3 := LH ho; have HG3 := LH hg; have HR3 := LH hr; clear ho hg hr)
   go_roundw
   case rel =>
    have hg3 := HG3.out
    refine ⟨dn ++ [x], left.erase x, cnt1, HO3, LH (fun b hb => ?_), LH ?_, HP1, LH ⟨?_, ?_⟩⟩
    ·rcases HR3.out b hb with c | c
     ·exact HRow.out b c
     ·rw [c]; simp; have := HSz2.out; omega
    ·refine ((HR1.out.kept (World.grownBy_alloc w2 _ none) (by simp) (by simp)).kept hg3 ?_ ?_)
     ·intro e
      have h1 := HRow.out _ e.symm
      have h2 := HV.out.lt
      rw [HRr.out] at h1
      omega
     ·intro e
      have h1 := HRow.out _ e.symm
      omega
    ·have hba := below_alloc w2 (.cells #[.int .i64 (x : Int)] 3)
     have h1 := HB1.out.1.trans (hba.mono HB1.out.1.size)
     refine ⟨hg3.os.trans h1.os, hg3.tape.trans h1.tape, hg3.output.trans h1.output, Nat.le_trans h1.size hg3.size, fun k hk => (hg3.block k (Nat.lt_of_lt_of_le hk h1.size) (fun e => ?_)).trans (h1.block k hk)⟩
     have := HRow.out _ e.symm
     rw [HRr.out] at this
     omega
    ·have h1 := hg3.size
     have h2 := HB1.out.2
     simp at h1
     omega
   case measure =>
    have hk : SRange Tryz.prog 3 w3 ms r n seen (left.erase x) cnt1 := by
     refine ((HR1.out.kept (World.grownBy_alloc w2 _ none) (by simp) (by simp)).kept HG3.out ?_ ?_)
     ·intro e
      have h1 := HRow.out _ e.symm
      have h2 := HV.out.lt
      rw [HRr.out] at h1
      omega
     ·intro e
      have h1 := HRow.out _ e.symm
      omega
    rw [hk.left_eq, HR.out.left_eq]
    exact HLt.out
end Go.Proofs.YtpohaahihdhleaaGreat
