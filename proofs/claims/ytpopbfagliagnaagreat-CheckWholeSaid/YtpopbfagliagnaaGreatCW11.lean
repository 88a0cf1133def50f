/- Parts of the proof, one behind the other: Zl, Oa, St, Et, Eu, Ev, Rx, Ry, Uf, Ew, Wa, Ex, Fa, Fb, Wb, Ey, We, Wf, Wg, Wm, Wh, Wi, Wj, Wk, Fi, Fj, Fk, Wc, Fl, Wl, Ws, M. -/
import Derived.Test.YtpopbfagliagnaaGreatCW10
import Derived.Lib.ItoaNum
import Derived.Lib.ItoaLen
import Derived.Lib.SplitLaws
import Derived.Deep.CutBlock
import Derived.RangeFuncNested
import Derived.RangeFuncBound
import Derived.RangeFuncCalls
import Derived.RangeFuncLeaves
import Derived.RangeFuncBox
import Derived.Shelf.Abstract
import Derived.WalkKit
import Derived.OwnWalkIn
import Derived.TacticsInMore
import Derived.LoopNIn
import Derived.LoopIn
import Derived.Maps.AppendAt
import Derived.Lib.SliceRun
import Derived.Deep.DeepCutAuto
set_option linter.unusedVariables false
namespace Go.Proofs.YtpopbfagliagnaaGreat
open Go.RowKit
abbrev vworld (A : AF) (L : Value) : Value := .agg #[valloc A, vdev A.X.F, L]
def zeroW : Array Value := #[.pointer none, .pointer none, .slice none 0 0]
theorem aggW : Agg Tryz.prog 132 zeroW := ⟨⟨_, Tryz.underlying132, rfl⟩, by kernel_rfl⟩
def dev0 (B : Nat) : Dev := (freshDev (List.replicate (512 * B) 0) (64 * B)).fmt B
def al0 (B : Nat) : Al := ⟨bmOf (dev0 B) B, List.replicate (512 * B) false, FL.empty⟩
theorem al0_list {B : Nat} (hB2 : 2 ≤ B) (hB : B ≤ 100) : (al0 B).bm.list = List.replicate B ⟨0, 0, 0⟩ := (fmt_formed hB2 hB).hds
def BegunPost (B : Nat) (w : World) : Ending → World → Prop := fun e w' => ∃ (A : AF) (n : Nat), e = .returned (.tuple #[vworld A (.slice none 0 0), .bool true]) ∧ AlAt w' A n B (al0 B) ∧ n ≤ 1000000 ∧ (∀ k ∈ A.list, w.heap.size ≤ k) ∧ Below w.heap.size w w'
theorem free_small {B : Nat} (b : Nat) : (hdGet (List.replicate B (⟨0, 0, 0⟩ : Hd)) (b : Int)) = ⟨0, 0, 0⟩ := by
 unfold hdGet
 split
 ·rfl
 ·simp only [List.getD_eq_getElem?_getD, List.getElem?_replicate]; split <;> rfl
set_option maxHeartbeats 8000000 in
set_option maxRecDepth 100000 in
theorem begun20_any (B : Nat) (hB2 : 2 ≤ B) (hB : B ≤ 100) (w : World) : Calls Tryz.prog 128 #[.int .i64 (B : Int)] w (BegunPost B w) := by
 generalize hP : BegunPost B w = Post
 have HP := LH hP
 clear hP
 have HM := LH (Mem.two w zeroW 132 #[.int .i64 (B : Int)] 44)
 have HFo : Hid (Formed (dev0 B) B) := LH (fmt_formed hB2 hB)
 go_enter Tryz.func128, Tryz.ntmps128
 go_upto_region 2 with fail
 rw [show (#[.pointer none, .pointer none, .slice none 0 0] : Array Value) = zeroW from rfl]
 generalize (w.alloc _).alloc _ = w0 at *
 obtain ⟨q, hq⟩ : ∃ q, q = w.heap.size := ⟨_, rfl⟩
 rw [← hq] at HM ⊢
 have HQ := LH hq
 clear hq
 have c0 := HM.out.cell 1 0 rfl rfl
 go_wp2_with fail
 refine (gwords_any _ _ (by omega) (by omega)).mono ?_
 rintro e w1 ⟨rfl, hb1⟩
 have HM1 := LH (HM.out.later hb1)
 clear hb1 HM c0
 go_wp2_with fail
 refine (new_any ((B : Int) * 512) _ (by omega)).mono ?_
 rintro e w2 ⟨F, rfl, hF, hd2, hb2⟩
 have hfd : freshDev (List.replicate (8 * ((((B : Int) * 512).toNat + 7) / 8)) 0) ((((B : Int) * 512).toNat + 7) / 8) = freshDev (List.replicate (512 * B) 0) (64 * B) := by
  have h1 : (((B : Int) * 512).toNat + 7) / 8 = 64 * B := by omega
  rw [h1, show 8 * (64 * B) = 512 * B by omega]
 rw [hfd] at hd2
 clear hfd
 obtain ⟨S, hS⟩ : ∃ S, S = freshDev (List.replicate (512 * B) 0) (64 * B) := ⟨_, rfl⟩
 have hlv : S.live := by rw [hS]; exact fresh_live _ _
 have hok : S.ok 100 := by rw [hS]; exact fresh_ok _ _ _
 have hSl : S.cache.length = 512 * B := by rw [hS]; simp [freshDev]
 rw [← hS] at hd2
 have HS0 : Hid (S.fmt B = dev0 B) := LH (by rw [hS]; rfl)
 have HD2 := LH hd2
 have HM2 := LH (HM1.out.later hb2)
 have HF := LH (fun k hk => Nat.le_trans HM1.out.below.size (hF k hk))
 have HF1 := LH (fun k (hk : k ∈ F.list) => Nat.lt_of_lt_of_le (HM1.out.glt 0 rfl) (hF k hk))
 have HF2 := LH (fun k (hk : k ∈ F.list) => Nat.lt_of_lt_of_le (HM1.out.glt 1 rfl) (hF k hk))
 have HLv : Hid (S.live ∧ S.ok 100 ∧ 256 + B ≤ S.cache.length) := LH ⟨hlv, hok, by omega⟩
 clear hd2 hb2 hF hS hlv hok hSl HM1
 unfold vdev
 have c0 := HM2.out.cell 1 0 rfl rfl
 go_wp2_with fail
 refine (format_any HD2.out HLv.out.1 HLv.out.2.1 B hB2 (by omega) HLv.out.2.2).mono ?_
 rintro e w3 ⟨rfl, hd3, ht3⟩
 rw [HS0.out] at hd3
 have HD3 := LH hd3
 have HM3 : Hid (Mem w w3 [⟨q, 132, zeroW.toList, true⟩, ⟨q + 1, 44, [.int .i64 (B : Int)], true⟩]) := LH (by
  have hr := HM2.out.rows
  refine ⟨below_touched HM2.out.below ht3 (fun k hk => HF.out k hk) (Nat.le_refl _), fun x hx => (hr x hx).keep (ht3.block _ (HM2.out.lt x hx) (fun hk => ?_)), HM2.out.base, HM2.out.nd⟩
  simp only [List.mem_cons, List.not_mem_nil, or_false] at hx
  rcases hx with rfl | rfl
  ·exact Nat.lt_irrefl _ (HF1.out _ hk)
  ·exact Nat.lt_irrefl _ (HF2.out _ hk))
 clear hd3 ht3 HM2 HD2 c0 HLv HS0
 have c0 := HM3.out.cell 1 0 rfl rfl
 go_wp2_with fail
 refine (bopen_any HD3.out B (by omega) (by omega)).mono ?_
 rintro e w4 ⟨hb4, ⟨_, _, X, n, rfl, hXF, hm4, hn4, hX4⟩ | ⟨_, hbad, _⟩ | ⟨hbad, _⟩⟩
 case inr.inr => exact absurd HFo.out.allOk hbad
 case inr.inl => exact absurd (by rw [HFo.out.hds]; exact sound_zero B B 1) hbad
 subst hXF
 have HM4 := LH (HM3.out.later hb4)
 have HA4 := LH hm4
 have HXn : Hid (∀ k ∈ X.list, w.heap.size ≤ k ∧ k ≠ q ∧ k ≠ q + 1) := LH (fun k hk => by
  have h1 := HM3.out.glt 0 rfl
  have h2 := HM3.out.glt 1 rfl
  have h3 := HM3.out.below.size
  rcases hX4 k hk with h | h
  ·refine ⟨HF.out k h, fun e => ?_, fun e => ?_⟩
   ·have := HF1.out k h; omega
   ·have := HF2.out k h; omega
  ·exact ⟨Nat.le_trans h3 h, by omega, by omega⟩)
 clear hb4 hm4 hX4 HM3 HD3 c0 HF HF1 HF2
 have HNo : Hid (∀ b : Nat, b < B → (hdGet (bmOf (dev0 B) B).list (b : Int)).k ≠ 1) := LH (fun b _ => by
  have e : (bmOf (dev0 B) B).list = List.replicate B ⟨0, 0, 0⟩ := HFo.out.hds
  rw [e, free_small]; decide)
 have HDl : Hid ((bmOf (dev0 B) B).dev.cache.length = 512 * B) := LH HFo.out.len
 go_wp2_with fail
 refine (anew_free HA4.out (by omega) (by rw [HDl.out]; omega) HNo.out).mono ?_
 rintro e w5 ⟨A, rfl, hAX, ha5, hb5, hA5⟩
 rw [HDl.out] at ha5
 have HA5 : Hid (AlAt w5 A n B (al0 B)) := LH ha5
 have HM5 := LH (HM4.out.later hb5)
 have HAn : Hid (∀ k ∈ A.list, w.heap.size ≤ k ∧ k ≠ q ∧ k ≠ q + 1) := LH (fun k hk => by
  have h1 := HM4.out.glt 0 rfl
  have h2 := HM4.out.glt 1 rfl
  have h3 := HM4.out.below.size
  rcases hA5 k hk with h | h
  ·exact HXn.out k h
  ·exact ⟨Nat.le_trans h3 h, by omega, by omega⟩)
 have HAX := LH hAX
 clear ha5 hb5 hA5 hAX HM4 HA4 HNo HDl
 go_upto_region 9 with fail
 have hAq : A.a ∉ [q] := by have := (HAn.out A.a (by simp [AF.list, AF.fix])).2.1; simpa using this
 have hAm : A.X.m ∉ [q] := by have := (HAn.out A.X.m (by simp [AF.list, AF.fix, MF.list])).2.1; simpa using this
 have HC0 : ∃ x : Near [q] w5, w5.drew = x.val := near_of (Touch.ofBelow (later_below (later_drew w5)))
 have r0 := fun x => near_cell (L := [q]) HA5.out.c0 hAq x
 refine wp_region_seg (C := fun w' => ∃ x : Near [q] w5, w' = x.val) [.fl [0, 1, 2, 3, 4, 5, 6, 7, 8, 9, 10, 11, 12, 13, 14, 15], .sq [16] true, .sq [17] false] (by kernel_rfl) (by kernel_rfl) (by intro c a d v w h; cases d <;> exact h) ?_
 simp only [segs, picks, List.getElem?_cons_succ, List.getElem?_cons_zero]
 refine wpSeg_fl HC0 ?_
 repeat (first | go_big_quiet_step (fail) | quiet_step (fail))
 refine wpQuiet_nil ?_
 have HM6 := LH (HM5.out.later (later_below (later_drew w5)))
 refine wpSeg_sq (fun K hK => ?_)
 go_wp2_with (refine wpList_store_mem aggW HM6.out 0 rfl rfl rfl rfl rfl rfl rfl rfl ?_; intro w6 h6 ht6; have H6 := LH h6; have HT6 := LH ht6; clear h6 ht6)
 have HC1 : ∃ x : Near [q] w5, w6 = x.val := near_of ((Touch.ofBelow (later_below (later_drew w5))).trans HT6.out)
 go_wp2_with fail
 refine hK _ _ (fun _ => HC1) ?_
 clear hK K
 refine wpSeg_last ?_
 go_wp2_with fail
 refine bodyPost_ret (results_cell_row2 (p := 2) (u := 3) rfl _ _ _ _ _ _ _ rfl (H6.out.exact 0 rfl) Tryz.underlying132 rfl (by kernel_rfl)) rfl ?_
 rw [← HP.out]
 have hAe := HAX.out
 subst hAe
 refine ⟨A, n, rfl, ?_, hn4, fun k hk => (HAn.out k hk).1, H6.out.below⟩
 exact (HA5.out.below (later_below (later_drew w5))).keep (fun k hk => HT6.out.block k (Nat.lt_of_lt_of_le (HA5.out.mem k hk) (later_below (later_drew w5)).size) (by have := (HAn.out k hk).2.1; simpa using this))
end Go.Proofs.YtpopbfagliagnaaGreat
namespace Go.Proofs.YtpopbfagliagnaaGreat
open Go.Lib
def over (n d : Int) : Bool := decide (n > 922337203685477580) || decide (n < -922337203685477580) || (decide (n = 922337203685477580) && decide (d > 7)) || (decide (n = -922337203685477580) && decide (d < -8))
end Go.Proofs.YtpopbfagliagnaaGreat
namespace Go.Proofs.YtpopbfagliagnaaGreat
open Go.RowKit
open Go.Lib (decDigits itoa nDigits)
def Gives (v : Value) (w : World) : Ending → World → Prop := fun e w' => e = .returned v ∧ Below w.heap.size w w'
theorem AF.hot_list {A : AF} {k : Nat} (h : k ∈ A.hot) : k ∈ A.list := by
 simp only [AF.hot, AF.list, AF.fix, List.mem_append, List.mem_cons] at h ⊢
 rcases h with h | h | h
 ·exact .inl (.inr (.inl (MF.hot_sub h)))
 ·exact .inl (.inr (.inr h))
 ·exact .inr h
theorem AF.re_list {A : AF} {R : List Nat} {k : Nat} (h : k ∈ (A.re R).list) : k ∈ A.list ∨ k ∈ R := by
 simp only [AF.re, AF.list, AF.fix, List.mem_append, List.mem_cons] at h ⊢
 rcases h with h | h
 ·exact .inl (.inl h)
 ·exact .inr h
theorem al0_ok {B : Nat} (hB2 : 2 ≤ B) (hB : B ≤ 100) : AlOk B (al0 B) := by
 have hf := fmt_formed hB2 hB
 have hl := al0_list hB2 hB
 have hbm : BmOk B (al0 B).bm := hf.bm hB2
 have hu : ∀ a, (List.replicate (512 * B) false).getD a false = false := fun a => by
  simp only [List.getD_eq_getElem?_getD, List.getElem?_replicate]; split <;> rfl
 refine ⟨hbm, hf.live, hf.len, by simp [al0], fun a ha => ?_, fun k a hk => ?_⟩
 ·have := hu a
  unfold al0 at ha
  dsimp only at ha
  rw [this] at ha; cases ha
 ·have h0 : (al0 B).fl.cnt k a = 0 := by unfold al0 FL.cnt FL.empty; simp
  rw [h0, if_neg]
  rintro ⟨hc, _⟩
  have := isCell_kind hc
  rw [hl] at this
  simp only [List.getD_eq_getElem?_getD, List.getElem?_replicate] at this
  split at this <;> cases this
theorem aggRo : Agg Tryz.prog 180 #[.int .i64 0, .int .i64 0] := ⟨⟨_, Tryz.underlying180, rfl⟩, by kernel_rfl⟩
set_option maxHeartbeats 1000000 in
theorem rsize8_any (p d : Int) (w : World) : Calls Tryz.prog 88 #[vob p d] w fun e w' => e = .returned (.int .i64 (objSize p d : Nat)) ∧ Below w.heap.size w w' := by
 have HM := LH (Mem.one w #[.int .i64 p, .int .i64 d] 180)
 have HS : Hid (objSize p d = if p < 0 ∨ 63 < p ∨ d < 0 ∨ 16384 < d then 0 else (1 + p + d).toNat) := LH rfl
 generalize objSize p d = n at *
 go_enter Tryz.func88, Tryz.ntmps88
 go_upto_region 1 with fail
 generalize w.alloc _ = w0 at *
 have c0 := HM.out.cell 0 0 rfl rfl
 have c1 := HM.out.cell 0 1 rfl rfl
 by_cases h1 : p < 0
 ·have HV : Hid (n = 0) := LH (by rw [HS.out, if_pos (.inl h1)])
  go_wp2_with fail
  go_ret
  exact ⟨by rw [HV.out]; rfl, HM.out.below⟩
 by_cases h2 : 63 < p
 ·have HV : Hid (n = 0) := LH (by rw [HS.out, if_pos (.inr (.inl h2))])
  go_wp2_with fail
  go_ret
  exact ⟨by rw [HV.out]; rfl, HM.out.below⟩
 by_cases h3 : d < 0
 ·have HV : Hid (n = 0) := LH (by rw [HS.out, if_pos (.inr (.inr (.inl h3)))])
  go_wp2_with fail
  go_ret
  exact ⟨by rw [HV.out]; rfl, HM.out.below⟩
 by_cases h4 : 16384 < d
 ·have HV : Hid (n = 0) := LH (by rw [HS.out, if_pos (.inr (.inr (.inr h4)))])
  go_wp2_with fail
  go_ret
  exact ⟨by rw [HV.out]; rfl, HM.out.below⟩
 have HV : Hid ((n : Int) = 1 + p + d) := LH (by rw [HS.out, if_neg (by omega)]; omega)
 go_wp2_with fail
 go_ret
 exact ⟨ret_int HV.out.symm, HM.out.below⟩
set_option maxHeartbeats 1000000 in
theorem rencode8_any (p d a : Int) (w : World) : Calls Tryz.prog 89 #[vob p d, .int .i64 a] w fun e w' => e = .returned (vu64 (oencN a p d)) ∧ Below w.heap.size w w' := by
 have HM := LH (Mem.one w #[.int .i64 p, .int .i64 d] 180)
 have HE : Hid (oencN a p d = if objSize p d = 0 then 0 else sealN (obN p d) (pl a)) := LH rfl
 generalize oencN a p d = y at *
 go_enter Tryz.func89, Tryz.ntmps89
 go_upto_region 1 with fail
 generalize w.alloc _ = w0 at *
 go_wp2_with (refine wpList_load_mem aggRo HM.out 0 rfl rfl rfl rfl rfl ?_)
 refine (rsize8_any p d _).mono ?_
 rintro e w1 ⟨rfl, hb1⟩
 have HM1 := LH (HM.out.later hb1)
 clear hb1 HM
 by_cases hr : objSize p d = 0
 ·have HV : Hid (y = 0) := LH (by rw [HE.out, if_pos hr])
  rw [hr]
  clear hr
  go_wp2_with fail
  go_ret
  exact ⟨ret_int (by rw [HV.out]; rfl), HM1.out.below⟩
 ·have HV : Hid (y = sealN (obN p d) (pl a)) := LH (by rw [HE.out, if_neg hr])
  have hn := obN_lt hr
  obtain ⟨⟨p0, p1⟩, d0, d1⟩ := obj_small hr
  have HN : Hid (165 + 256 * p + 16384 * d = (obN p d : Int)) := LH (by unfold obN; omega)
  have hz : (((objSize p d : Nat) : Int) == 0) = false := by simp; omega
  have c0 := HM1.out.cell 0 0 rfl rfl
  have c1 := HM1.out.cell 0 1 rfl rfl
  generalize objSize p d = sz at *
  generalize obN p d = n at *
  clear hr
  have hw : IntKind.u32.wrap (165 + 256 * p + 16384 * d) = 165 + 256 * p + 16384 * d := IntWalk.u32_in _ (by omega)
  go_wp2_with fail
  rw [HN.out]
  refine (rseal_any n _ hn _).mono ?_
  rintro e w2 ⟨rfl, hb2⟩
  rw [← HV.out]
  go_wp2_with fail
  go_ret
  exact ⟨rfl, (HM1.out.later hb2).below⟩
set_option maxHeartbeats 1000000 in
theorem rdecode8_any (a : Int) (x : Nat) (hx : x < 18446744073709551616) (w : World) :
  Calls Tryz.prog 216 #[.int .i64 a, vu64 x] w fun e w' => e = .returned (odecN a x).val ∧ Below w.heap.size w w' := by
 have HM := LH (Mem.one w #[.int .i64 0, .int .i64 0] 180)
 have HOS : Hid ((odecN a x).code = 0 → objSize (odecN a x).p (odecN a x).d ≠ 0) := LH (fun h => (odec_size h).1)
 go_enter Tryz.func216, Tryz.ntmps216
 go_upto_region 1 with fail
 generalize w.alloc _ = w0 at *
 go_wp2_with fail
 refine (ropen_any x _ hx _).mono ?_
 rintro e w1 ⟨rfl, hbo⟩
 have HM1 := LH (HM.out.later hbo)
 clear hbo HM
 cases ho : openN x (pl a) with
 | none =>
  have HV := LH (odecN_none ho)
  clear ho
  simp only [openV]
  go_wp2_with (refine wpList_store_mem aggRo HM1.out 0 rfl rfl rfl rfl rfl rfl rfl rfl ?_; intro w9 h9 _; have H9 := LH h9; clear h9)
  refine bodyPost_ret (results_cell_row2 (p := 4) (u := 5) rfl _ _ _ _ _ _ _ rfl (H9.out.exact 0 rfl) Tryz.underlying180 rfl (by kernel_rfl)) rfl ⟨by rw [HV.out]; rfl, H9.out.below⟩
 | some n =>
  obtain ⟨hn, -⟩ := openN_some ho
  have HK := LH (odecN_ok ho)
  have HL := LH (odecN_bad ho)
  have HD := LH (odecN_some ho)
  have HDS : Hid (odecS a x n = if oencN a (n / 256 % 64 : Nat) (n / 16384 % 32768 : Nat) = x then ⟨(n / 256 % 64 : Nat), (n / 16384 % 32768 : Nat), 0⟩ else ⟨0, 0, 26⟩) := LH rfl
  clear ho
  simp only [openV]
  have h64 : n / 256 % 64 < 64 := by omega
  have h6 : n / 16384 % 32768 < 32768 := by omega
  have hmod1 : (n : Int) / 256 % 64 = ((n / 256 % 64 : Nat) : Int) := by omega
  have hmod2 : (n : Int) / 16384 % 32768 = ((n / 16384 % 32768 : Nat) : Int) := by omega
  have HM1' := LH (HM1.out.alloc #[.int .i64 ((n : Int) / 256 % 64), .int .i64 ((n : Int) / 16384 % 32768)] 180)
  have HMOD1 := LH hmod1
  have HMOD2 := LH hmod2
  clear hmod1 hmod2
  go_upto_region 5 with fail
  rw [HMOD1.out, HMOD2.out] at HM1' ⊢
  clear HMOD1 HMOD2
  generalize n / 256 % 64 = k at *
  generalize n / 16384 % 32768 = l at *
  generalize w1.alloc _ = w2 at *
  generalize w1.heap.size = g at *
  clear HM1
  go_wp2_with (refine wpList_load_mem aggRo HM1'.out 1 rfl rfl rfl rfl rfl ?_)
  refine (rsize8_any k l _).mono ?_
  rintro e w3 ⟨rfl, hb3⟩
  have HM3 := LH (HM1'.out.later hb3)
  clear hb3 HM1'
  by_cases hyx : oencN a k l = x
  ·have HV := LH (HK.out hyx)
   have hsz : objSize (k : Int) (l : Int) ≠ 0 := by
    have h1 := HOS.out
    rw [HD.out, HDS.out, if_pos hyx] at h1
    exact h1 rfl
   have hz : (((objSize (k : Int) (l : Int) : Nat) : Int) == 0) = false := by simp; omega
   generalize objSize (k : Int) (l : Int) = sz at *
   clear hsz
   have HYX := LH hyx
   clear hyx
   have c0 := HM3.out.cell 1 0 rfl rfl
   have c1 := HM3.out.cell 1 1 rfl rfl
   go_wp2_with fail
   clear c0 c1
   refine (rencode8_any k l a _).mono ?_
   rintro e w4 ⟨rfl, hb4⟩
   rw [HYX.out]
   have HM4 := LH (HM3.out.later hb4)
   clear hb4 HM3
   go_wp2_with (first | (refine wpList_load_mem aggRo HM4.out 1 rfl rfl rfl rfl rfl ?_) | (refine wpList_store_mem aggRo HM4.out 0 rfl rfl rfl rfl rfl rfl rfl rfl ?_; intro w9 h9 _; have H9 := LH h9; clear h9))
   refine bodyPost_ret (results_cell_row2 (p := 4) (u := 5) rfl _ _ _ _ _ _ _ rfl (H9.out.exact 0 rfl) Tryz.underlying180 rfl (by kernel_rfl)) rfl ⟨by rw [HV.out]; rfl, H9.out.below⟩
  ·have HV := LH (HL.out hyx)
   by_cases hsz : objSize (k : Int) (l : Int) = 0
   ·rw [hsz]
    clear hsz
    go_wp2_with (first | (refine wpList_load_mem aggRo HM3.out 1 rfl rfl rfl rfl rfl ?_) | (refine wpList_store_mem aggRo HM3.out 0 rfl rfl rfl rfl rfl rfl rfl rfl ?_; intro w9 h9 _; have H9 := LH h9; clear h9))
    refine bodyPost_ret (results_cell_row2 (p := 4) (u := 5) rfl _ _ _ _ _ _ _ rfl (H9.out.exact 0 rfl) Tryz.underlying180 rfl (by kernel_rfl)) rfl ⟨by rw [HV.out]; rfl, H9.out.below⟩
   have hz : (((objSize (k : Int) (l : Int) : Nat) : Int) == 0) = false := by simp; omega
   generalize objSize (k : Int) (l : Int) = sz at *
   clear hsz
   have HYX := LH hyx
   clear hyx
   have c0 := HM3.out.cell 1 0 rfl rfl
   have c1 := HM3.out.cell 1 1 rfl rfl
   go_wp2_with fail
   clear c0 c1
   refine (rencode8_any k l a _).mono ?_
   rintro e w4 ⟨rfl, hb4⟩
   have HM4 := LH (HM3.out.later hb4)
   clear hb4 HM3
   have hne : ¬ ((oencN a (k : Int) (l : Int) : Int) = (x : Int)) := by have := HYX.out; omega
   have hne2 : ((oencN a (k : Int) (l : Int) : Int) != (x : Int)) = true := by simp; have := HYX.out; omega
   generalize oencN a (k : Int) (l : Int) = y at *
   go_wp2_with (first | (refine wpList_load_mem aggRo HM4.out 1 rfl rfl rfl rfl rfl ?_) | (refine wpList_store_mem aggRo HM4.out 0 rfl rfl rfl rfl rfl rfl rfl rfl ?_; intro w9 h9 _; have H9 := LH h9; clear h9))
   refine bodyPost_ret (results_cell_row2 (p := 4) (u := 5) rfl _ _ _ _ _ _ _ rfl (H9.out.exact 0 rfl) Tryz.underlying180 rfl (by kernel_rfl)) rfl ⟨by rw [HV.out]; rfl, H9.out.below⟩
def headV (o : Odec) : Value := .tuple #[vob o.p o.d, .bool (decide (o.code = 0))]
set_option maxHeartbeats 4000000 in
set_option maxRecDepth 100000 in
theorem rhead15_any {w : World} {v : Value} {S : Dev} {m : Nat} (hm : S.dirty.length = m) (h : RAt w v m S.ref) {N : Nat} (hf : S.fit N) (a : Int) :
  Calls Tryz.prog 123 #[v, .int .i64 a] w fun e w' => e = .returned (headV (headN S a)) ∧ Below w.heap.size w w' := by
 subst hm
 obtain ⟨an, cn, al, cl, aw, cw, ad, cd, ap, cp, m, sv, fz, dd, rfl, ho, hdl, hm8, hsv, hfz⟩ := ropen h hf
 have HV : Hid (headN S a = if a < 0 ∨ (S.cache.length : Int) ≤ a then ⟨0, 0, 22⟩ else
  if (odecN a (peek S.cache a)).code ≠ 0 ∨ (S.cache.length : Int) - a < (objSize (odecN a (peek S.cache a)).p (odecN a (peek S.cache a)).d : Nat) then ⟨0, 0, 22⟩ else ⟨(odecN a (peek S.cache a)).p, (odecN a (peek S.cache a)).d, 0⟩) := LH rfl
 generalize headN S a = R at *
 have HPk := LH (peek_lt hf.wf.u64C a)
 have HO := LH ho
 have HCL := LH ho.cl
 clear h hf ho hdl
 have HM := LH (Mem.two w #[.slice an m cn, .slice al m cl, .slice aw m cw, .slice ad m cd, .slice ap m cp, .int .i64 sv, .int .i64 fz, .bool dd] 38 #[.int .i64 0, .int .i64 0] 180)
 go_enter Tryz.func123, Tryz.ntmps123
 go_upto_region 1 with fail
 generalize (w.alloc _).alloc _ = w0 at *
 have c0 := HM.out.cell 0 0 rfl rfl
 by_cases h1 : a < 0
 ·have HR : Hid (R = ⟨0, 0, 22⟩) := LH (by rw [HV.out, if_pos (.inl h1)])
  go_wp2_with (refine wpList_store_mem aggRo HM.out 1 rfl rfl rfl rfl rfl rfl rfl rfl ?_; intro w9 h9 _; have H9 := LH h9; clear h9)
  exact bodyPost_ret (results_cell_row2 (p := 4) (u := 5) rfl _ _ _ _ _ _ _ rfl (H9.out.exact 1 rfl) Tryz.underlying180 rfl (by kernel_rfl)) rfl ⟨by rw [HR.out]; rfl, H9.out.below⟩
 by_cases h2 : 8 * (m : Int) ≤ a
 ·have HR : Hid (R = ⟨0, 0, 22⟩) := LH (by rw [HV.out, if_pos (.inr (by rw [HCL.out]; omega))])
  go_wp2_with (refine wpList_store_mem aggRo HM.out 1 rfl rfl rfl rfl rfl rfl rfl rfl ?_; intro w9 h9 _; have H9 := LH h9; clear h9)
  exact bodyPost_ret (results_cell_row2 (p := 4) (u := 5) rfl _ _ _ _ _ _ _ rfl (H9.out.exact 1 rfl) Tryz.underlying180 rfl (by kernel_rfl)) rfl ⟨by rw [HR.out]; rfl, H9.out.below⟩
 have HV2 : Hid (R = if (odecN a (peek S.cache a)).code ≠ 0 ∨ 8 * (m : Int) - a < (objSize (odecN a (peek S.cache a)).p (odecN a (peek S.cache a)).d : Nat) then ⟨0, 0, 22⟩ else ⟨(odecN a (peek S.cache a)).p, (odecN a (peek S.cache a)).d, 0⟩) := LH (by
  rw [HV.out, if_neg (by rw [HCL.out]; omega), show (S.cache.length : Int) = 8 * (m : Int) by rw [HCL.out]; omega])
 clear HV
 go_wp2_with fail
 refine (rget_any an m cn S.cache _ (HO.out.k1.below HM.out.below (Nat.le_refl _)) HCL.out (by omega) a).mono ?_
 rintro e w1 ⟨rfl, rfl⟩
 generalize peek S.cache a = x at *
 go_wp2_with fail
 refine (rdecode8_any a x HPk.out _).mono ?_
 rintro e w1 ⟨rfl, hb1⟩
 have HM1 := LH (HM.out.later hb1)
 generalize odecN a x = o at *
 obtain ⟨p, d, c⟩ := o
 unfold Odec.val
 dsimp only at HV2 ⊢
 have HM2 := LH (HM1.out.alloc #[.int .i64 p, .int .i64 d] 180)
 clear hb1 HM c0 HM1
 go_upto_region 4 with fail
 generalize w1.alloc _ = w2 at *
 generalize w1.heap.size = g at *
 by_cases hc : c = 0
 ·subst hc
  have c0 := HM2.out.cell 0 0 rfl rfl
  have d0 := HM2.out.cell 2 0 rfl rfl
  have d1 := HM2.out.cell 2 1 rfl rfl
  have r0 := fun x => later_cell c0 x
  have r1 := fun x => later_cell d0 x
  have r2 := fun x => later_cell d1 x
  have hw : IntKind.i64.wrap (8 * (m : Int) - a) = 8 * (m : Int) - a := IntWalk.i64_in _ (by omega)
  refine wp_region_seg (C := fun w' => ∃ x : Later (w2), w' = x.val) [.sq [0, 1, 2] false, .fl [3, 5, 6, 7, 8, 9, 10], .sq [4] true, .sq [11, 12] false] (by kernel_rfl) (by kernel_rfl) (by intro c a d v w h; cases d <;> exact h) ?_
  simp only [segs, picks, List.getElem?_cons_succ, List.getElem?_cons_zero]
  have hC1 := later_drew (w2)
  refine wpSeg_sq (fun K hK => ?_)
  go_wp2_with fail
  refine hK _ _ (fun h => nomatch h) ?_
  clear hK K
  refine wpSeg_fl hC1 ?_
  repeat (first | go_big_quiet_step (fail) | quiet_step (fail))
  refine wpQuiet_nil ?_
  refine wpSeg_sq (fun K hK => ?_)
  go_wp2_with fail
  have HM3 := LH (HM2.out.later (later_below hC1))
  refine (rsize8_any p d _).mono ?_
  rintro e w3 ⟨rfl, hb3⟩
  have hC2 := later_step hC1 hb3
  have HM4 := LH (HM3.out.later hb3)
  clear hb3 HM3
  go_wp2_with fail
  refine hK _ _ (fun _ => hC2) ?_
  clear hK K
  clear HM2 c0 d0 d1 r0 r1 r2 hC1 hC2
  generalize objSize p d = sz at *
  by_cases h3 : 8 * (m : Int) - a < (sz : Int)
  ·have HR : Hid (R = ⟨0, 0, 22⟩) := LH (by rw [HV2.out, if_pos (.inr h3)])
   refine wpSeg_last ?_
   go_wp2_with (refine wpList_store_mem aggRo HM4.out 1 rfl rfl rfl rfl rfl rfl rfl rfl ?_; intro w9 h9 _; have H9 := LH h9; clear h9)
   exact bodyPost_ret (results_cell_row2 (p := 4) (u := 5) rfl _ _ _ _ _ _ _ rfl (H9.out.exact 1 rfl) Tryz.underlying180 rfl (by kernel_rfl)) rfl ⟨by rw [HR.out]; rfl, H9.out.below⟩
  ·have HR : Hid (R = ⟨p, d, 0⟩) := LH (by rw [HV2.out, if_neg (by simp; omega)])
   refine wpSeg_last ?_
   go_wp2_with (first | (refine wpList_load_mem aggRo HM4.out 2 rfl rfl rfl rfl rfl ?_) | (refine wpList_store_mem aggRo HM4.out 1 rfl rfl rfl rfl rfl rfl rfl rfl ?_; intro w9 h9 _; have H9 := LH h9; clear h9))
   exact bodyPost_ret (results_cell_row2 (p := 4) (u := 5) rfl _ _ _ _ _ _ _ rfl (H9.out.exact 1 rfl) Tryz.underlying180 rfl (by kernel_rfl)) rfl ⟨by rw [HR.out]; rfl, H9.out.below⟩
 ·have HR : Hid (R = ⟨0, 0, 22⟩) := LH (by rw [HV2.out, if_pos (.inl hc)])
  have hc1 : (c != 0) = true := by simpa using hc
  clear hc
  refine wp_region_seg (C := fun w' => ∃ x : Later (w2), w' = x.val) [.sq [0, 1, 2] false, .fl [3, 5, 6, 7, 8, 9, 10], .sq [4] true, .sq [11, 12] false] (by kernel_rfl) (by kernel_rfl) (by intro c a d v w h; cases d <;> exact h) ?_
  simp only [segs, picks, List.getElem?_cons_succ, List.getElem?_cons_zero]
  have hC1 := later_drew (w2)
  refine wpSeg_sq (fun K hK => ?_)
  go_wp2_with fail
  refine hK _ _ (fun h => nomatch h) ?_
  clear hK K
  refine wpSeg_fl hC1 ?_
  repeat (first | go_big_quiet_step (fail) | quiet_step (fail))
  refine wpQuiet_nil ?_
  refine wpSeg_sq (fun K hK => ?_)
  go_wp2_with fail
  go_wp2_with fail
  refine hK _ _ (fun _ => hC1) ?_
  clear hK K
  have HM4 := LH (HM2.out.later (later_below hC1))
  clear HM2 hC1
  refine wpSeg_last ?_
  go_wp2_with (refine wpList_store_mem aggRo HM4.out 1 rfl rfl rfl rfl rfl rfl rfl rfl ?_; intro w9 h9 _; have H9 := LH h9; clear h9)
  exact bodyPost_ret (results_cell_row2 (p := 4) (u := 5) rfl _ _ _ _ _ _ _ rfl (H9.out.exact 1 rfl) Tryz.underlying180 rfl (by kernel_rfl)) rfl ⟨by rw [HR.out]; rfl, H9.out.below⟩
def nowD (S : Dev) : Dev := freshDev S.cache S.dirty.length
theorem nowD_fit {S : Dev} (h : S.wf) (N : Nat) : (nowD S).fit N :=
 ⟨⟨rfl, by simp [nowD, freshDev], by simp [nowD, freshDev], by simp [nowD, freshDev, h.lenD], h.small, h.u64C, h.u64C, fun z hz => by simp [nowD, freshDev] at hz; omega⟩, fresh_ok _ _ _, fun h => by cases h⟩
theorem nowD_ref {S : Dev} (h : S.wf) : freshR S.cache S.dirty.length = (nowD S).ref := by
 unfold freshR Dev.ref nowD freshDev
 rw [h.lenD]; rfl
def NowPost (S : Dev) (w : World) : Ending → World → Prop := fun e w' => ∃ v, e = .returned v ∧ RAt w' v S.dirty.length (nowD S).ref ∧ (∀ b, RIn v b → w.heap.size ≤ b) ∧ Below w.heap.size w w'
set_option maxHeartbeats 4000000 in
set_option maxRecDepth 20000 in
theorem wnow_any {w : World} {F : Foot} {S : Dev} (h : DevAt w F S) (x v : Value) (hL : S.cache.length ≤ 8192) :
  Calls Tryz.prog 81 #[.agg #[x, vdev F, v]] w (NowPost S w) := by
 have HMem := LH (Mem.two w #[x, vdev F, v] 132 zeroD 38)
 have HD0 := LH (h.below HMem.out.below)
 have HWf := LH h.wf
 have HP : Hid (∀ v w', RAt w' v S.dirty.length (nowD S).ref → (∀ b, RIn v b → w.heap.size ≤ b) → Below w.heap.size w w' → NowPost S w (.returned v) w') := LH (fun v w' h1 h2 h3 => ⟨v, rfl, h1, h2, h3⟩)
 generalize NowPost S w = Post at *
 obtain ⟨l, hl⟩ : ∃ l, l = S.cache.length := ⟨_, rfl⟩
 rw [← hl] at hL
 have HL := LH hl
 clear h hl
 go_enter Tryz.func81, Tryz.ntmps81
 go_upto_region 1 with fail
 rw [show (#[.slice none 0 0, .slice none 0 0, .slice none 0 0, .slice none 0 0, .slice none 0 0, .int .i64 0, .int .i64 0, .bool false] : Array Value) = zeroD from rfl]
 obtain ⟨q, hq⟩ : ∃ q, q = w.heap.size := ⟨_, rfl⟩
 rw [← hq] at HMem ⊢
 have HQ := LH hq
 generalize (w.alloc _).alloc _ = w0 at *
 clear hq
 go_wp2_with fail
 go_loopw [3, 4] (fun v i wr => ∃ k : Nat, k ≤ l ∧ i = .int .i64 (k : Int) ∧ Hid (wr.ownsRow w0.heap.size 40 1 v k ((S.cache.take k).map vu64)) ∧ Hid (Below w0.heap.size w0 wr)) (fun _ i _ => l - (intOf i).toNat)
 case atStart => exact ⟨0, Nat.zero_le _, rfl, LH ⟨rfl, .inl ⟨rfl, rfl⟩⟩, LH (Below.refl _ _)⟩
 case round =>
  obtain ⟨k, hk, rfl, HO, HB⟩ := hrel
  obtain ⟨a1, c1, rfl, hc1, hm1⟩ := owned_form HO.out
  have HM1 := LH (HMem.out.later HB.out)
  have HD1 := LH (HD0.out.below HB.out)
  have e1 := HM1.out.cell 0 1 rfl rfl
  by_cases hlt : k < l
  ·have hlt' : (k : Int) < (l : Int) := by omega
   have hlt2 : (k : Int) < 8192 := by omega
   have HLn := LH (dlen_any HD1.out)
   rw [← HL.out] at HLn
   have HGet := LH (dget_any HD1.out (k : Int))
   rw [peek_in] at HGet
   have HS : Hid ((S.cache.take (k + 1)).map vu64 = (S.cache.take k).map vu64 ++ [vu64 (S.cache.getD k 0)]) := LH (by
    have : k < S.cache.length := by rw [← HL.out]; exact hlt
    rw [List.take_succ_eq_append_getElem this, List.map_append, List.getD_eq_getElem?_getD, List.getElem?_eq_getElem this]; rfl)
   generalize S.cache.getD k 0 = y at *
   have hone : Hid (∀ u ∈ (#[vu64 y] : Array Value).toList, u.oneCell' = true) := LH (by intro u hu; simp at hu; subst hu; rfl)
   have hbase : Hid (w0.heap.size ≤ wr.heap.size) := LH HB.out.size
   have hk9 : k < 1000000000000 := by omega
   go_wp2_with fail
   refine HLn.out.mono ?_
   rintro e w3 ⟨rfl, rfl⟩
   go_wp2_with fail
   refine HGet.out.mono ?_
   rintro e w4 ⟨rfl, rfl⟩
   go_wp2_with (at_builtin; refine wpList_append_new (us := #[vu64 y]) el64 HO.out rfl hone.out hk9 (by decide) hbase.out rfl rfl rfl (by simp [Act.eval]) ?_; intro g6 c6 w6 ho6 hg6 hc6 hm6 hb6 hl6; have HO6 := LH ho6; have HG6 := LH hg6; clear ho6 hg6)
   go_roundw
   case rel =>
    refine ⟨k + 1, by omega, vint (by omega), LH ?_, LH (below_grownBy HB.out HO.out HG6.out (Nat.le_refl _) (Nat.le_refl _))⟩
    rw [HS.out]
    simpa using HO6.out
   case measure => simp [intOf]; omega
  ·obtain rfl : k = l := by omega
   have hlt' : ¬ (k : Int) < (k : Int) := by omega
   have HLn := LH (dlen_any HD1.out)
   rw [← HL.out] at HLn
   go_wp2_with fail
   refine HLn.out.mono ?_
   rintro e w3 ⟨rfl, rfl⟩
   have HC := LH (Cells.owned HO.out)
   have hll : S.cache.take k = S.cache := by rw [HL.out, List.take_length]
   rw [hll] at HC
   go_wp2_with fail
   refine (rload_at a1 k c1 S.cache HL.out.symm wr HC.out (by omega) HWf.out.u64C).mono ?_
   rintro e w6 ⟨v6, rfl, hra6, hloc6, hb6⟩
   have h8 := HWf.out.lenD
   have hlo := HL.out
   rw [show (k + 7) / 8 = S.dirty.length by omega, show padTo S.cache (8 * S.dirty.length) = S.cache by unfold padTo; rw [show 8 * S.dirty.length - S.cache.length = 0 by omega]; simp, nowD_ref HWf.out] at hra6
   obtain ⟨an, cn, al, cl, aw, cw, ad, cd, ap, cp, rfl, hex⟩ := hra6.ex
   have HRA := LH hra6
   have HM6 := LH (HM1.out.later hb6)
   have HLoc : Hid (∀ b, RIn (.agg #[.slice an S.dirty.length cn, .slice al S.dirty.length cl, .slice aw S.dirty.length cw, .slice ad S.dirty.length cd, .slice ap S.dirty.length cp, .int .i64 (nowD S).ref.steps, .int .i64 (nowD S).ref.fuse, .bool (nowD S).ref.dead]) b → wr.heap.size ≤ b) := LH (by
    rintro b ⟨cs, hcs, i, x, n, c, hi, rfl⟩
    exact hloc6 cs hcs i x n c hi)
   have HWr := LH (show q + 2 ≤ wr.heap.size by have := HM1.out.glt 0 rfl; have := HM1.out.glt 1 rfl; omega)
   clear hra6 hloc6 hb6 hex hll h8 hlo
   generalize (nowD S).ref.steps = st at *
   generalize (nowD S).ref.fuse = fz at *
   generalize (nowD S).ref.dead = dd at *
   go_wp2_with (refine wpList_store_mem aggRd HM6.out 1 rfl rfl rfl rfl rfl rfl rfl rfl ?_; intro w8 h8 ht8; have H8 := LH h8; have HT8 := LH ht8; clear h8 ht8)
   refine bodyPost_ret (results_cell_row rfl _ _ _ _ _ _ _ rfl (H8.out.exact 1 rfl) Tryz.underlying38 rfl (by kernel_rfl)) rfl ?_
   refine HP.out _ _ (HRA.out.touch HT8.out (.inr (fun b hb hm => ?_))) (fun b hb => ?_) H8.out.below
   ·have := HLoc.out b hb
    have := HWr.out
    simp at hm; omega
   ·have := HLoc.out b hb
    have := HWr.out
    have := HQ.out
    omega
end Go.Proofs.YtpopbfagliagnaaGreat
namespace Go.Proofs.YtpopbfagliagnaaGreat
section
variable {ok : Nat → Prop} {P : Nat → List Nat} {f seen rest : List Nat}
end
structure Mk where
 ms : List Bool
 sc : List Bool
 st : List Nat
 most : Nat
 miss : Nat
 again : Bool
 cur : Nat
section
variable {U : List Bool} {P : Nat → List Nat} {M : Mk}
end
end Go.Proofs.YtpopbfagliagnaaGreat
namespace Go.Proofs.YtpopbfagliagnaaGreat
open Go.RowKit
section
variable {B : Nat} {m m' : Al} {xs : List Nat}
theorem placed_size {S : Dev} {L : List Hd} {a : Int} {o : Odec} (h : placedN S L a = some o) : objSize o.p o.d ≠ 0 ∧ 0 ≤ o.p ∧ o.p < 64 ∧ 0 ≤ o.d ∧ o.d ≤ 16384 := by
 obtain ⟨h1, h2, _⟩ := placed_head h
 have := headN_code S a
 rw [h1] at this
 rcases this with this | this
 ·have h3 := obj_small this.2.2.2.1
  exact ⟨this.2.2.2.1, h3.1.1, h3.1.2, h3.2⟩
 ·rw [this] at h2; cases h2
theorem objSize_is {p d : Int} (h : objSize p d ≠ 0) : (objSize p d : Int) = 1 + p + d := by
 unfold objSize at h ⊢
 split
 ·next c => rw [if_pos c] at h; exact absurd rfl h
 ·omega
end
def Off (Q : List Nat) (w w' : World) : Prop := ∃ L, Touch L w w' ∧ ∀ k ∈ Q, k ∉ L
theorem Off.ofBelow {Q : List Nat} {w w' : World} (h : Below w.heap.size w w') : Off Q w w' := ⟨[], Touch.ofBelow h, by simp⟩
theorem MemR.off {B : Nat} {W W' : World} {L : List Ent} {Q : List Nat} (h : MemR B W L) (ho : Off Q W W') (hQ : ∀ x ∈ L.map Ent.g, x ∈ Q) : MemR B W' L := by
 obtain ⟨X, h1, h2⟩ := ho
 exact h.apart h1 (fun x hx => h2 _ (hQ _ (List.mem_map_of_mem hx)))
section
variable {w wr w' : World} {Q : List Nat} {A : AF} {n n' B N N' : Nat} {m m' : Al} {v v' : Value} {xs xs' : List Nat}
theorem AF.re_re (A : AF) (R R' : List Nat) : (A.re R).re R' = A.re R' := rfl
end
end Go.Proofs.YtpopbfagliagnaaGreat
namespace Go.Proofs.YtpopbfagliagnaaGreat
variable {B : Nat} {m : Al}
structure Shrank (L L' : List Hd) (a n : Nat) : Prop where
 len : L'.length = L.length
 at_ : ∀ q, L'.getD q default = if a ≤ q ∧ q < a + n then ⟨0, 0, 0⟩ else L.getD q default
 kind : (L.getD a default).k = 1 ∨ (L.getD a default).k = 2
 cont : ∀ i : Nat, 1 ≤ i → i < n → L.getD (a + i) default = ⟨3, 0, i⟩
theorem Shrank.out {L L' : List Hd} {a n : Nat} (h : Shrank L L' a n) {q : Nat} (hq : ¬ (a ≤ q ∧ q < a + n)) : L'.getD q default = L.getD q default := by rw [h.at_, if_neg hq]
theorem Shrank.cell {L L' : List Hd} {a n : Nat} (h : Shrank L L' a n) (k x : Nat) : isCell L' k x ↔ isCell L k x ∧ ¬ (a ≤ x / 512 ∧ x / 512 < a + n) := by
 unfold isCell
 rw [h.len, h.at_]
 by_cases c : a ≤ x / 512 ∧ x / 512 < a + n
 ·rw [if_pos c]
  constructor
  ·rintro ⟨_, _, e, _⟩
   have := congrArg Hd.k e
   exact absurd this (by simp)
  ·rintro ⟨_, e⟩; exact absurd c e
 ·rw [if_neg c]
  constructor
  ·intro e; exact ⟨e, c⟩
  ·intro e; exact e.1
theorem Shrank.whole {L L' : List Hd} {a n : Nat} (h : Shrank L L' a n) {b k : Nat} (hk : 1 ≤ k) (hw : wholeN L b = k) (hb : ¬ (a ≤ b ∧ b < a + n)) : wholeN L' b = k := by
 have hf := wholeN_fits (L := L) (b := b) (by omega)
 rw [hw] at hf
 obtain ⟨f1, f2, f3, f4, f5⟩ := hf
 have hbb := h.out hb
 have hc : ∀ i, 1 ≤ i → i < k → L'.getD (b + i) default = ⟨3, 0, i⟩ := fun i h1 h2 => by
  have e := f5 i h1 h2
  rw [h.out, e]
  intro c
  by_cases c0 : b + i = a
  ·have hkd := h.kind
   rw [← c0, e] at hkd
   simp at hkd
  ·have e2 := h.cont (b + i - a) (by omega) (by omega)
   rw [show a + (b + i - a) = b + i by omega, e] at e2
   have := congrArg Hd.l e2
   simp at this
   omega
 unfold wholeN
 rw [hbb, h.len, if_neg (by omega), if_pos]
 ·omega
 ·exact contTo_of fun i h1 h2 => hc i h1 (by omega)
theorem Shrank.placed {L L' : List Hd} {a n : Nat} (h : Shrank L L' a n) {S T : Dev} {x : Nat} {o : Odec} (hp : placedN S L (x : Int) = some o) (hl : T.cache.length = S.cache.length) (hw : T.cache.getD x 0 = S.cache.getD x 0) (hx : ¬ (a ≤ x / 512 ∧ x / 512 < a + n)) : placedN T L' (x : Int) = some o := by
 have hh : headN T (x : Int) = headN S (x : Int) := headN_same hl (by rw [peek_in, peek_in]; exact hw)
 obtain ⟨e1, e0, h1, h2⟩ := placed_head hp
 obtain ⟨s1, _⟩ := placed_size hp
 unfold placedN at hp ⊢
 rw [e1, Int.toNat_natCast] at hp
 rw [hh, e1, h.len, Int.toNat_natCast]
 split at hp
 ·cases hp
 ·rename_i h0
  rw [if_neg h0]
  by_cases hs : small (objSize o.p o.d)
  ·rw [if_pos hs] at hp ⊢
   split at hp
   ·next hc => rw [if_pos ((h.cell _ _).2 ⟨hc, hx⟩)]
   ·cases hp
  ·rw [if_neg hs] at hp ⊢
   split at hp
   ·next hc =>
    have hnz : 1 ≤ objBlocks (objSize o.p o.d) := by
     unfold objBlocks
     rw [if_neg hs]; omega
    rw [if_pos ⟨hc.1, h.whole hnz hc.2 hx⟩]
   ·cases hp
def Snd (L : List Hd) : Prop := ∀ q, 1 ≤ q → (L.getD q default).k = 3 → ∃ a, 1 ≤ a ∧ a < q ∧ (L.getD a default).k = 2 ∧ (q : Int) < (a : Int) + (L.getD a default).l
theorem snd_small {bm : Bm} (h : BmOk B bm) (hv : bm.dev.live) (k : Nat) (hk : k < 32) (hs : Snd bm.list) : Snd (bm.small (k : Int)).bm.list := by
 rcases small_live h hv k hk with ⟨e, _⟩ | ⟨b, _, _, b1, b2, hf, _, _, _, hl, _⟩
 ·rw [e]; exact hs
 ·have hb := ((h.free b).1 hf).2.2
  intro q q1 hq
  rw [hl] at hq
  by_cases e : q = b
  ·rw [if_pos e] at hq; exact absurd hq (by simp)
  ·rw [if_neg e] at hq
   obtain ⟨a, a1, a2, a3, a4⟩ := hs q q1 hq
   have hab : a ≠ b := fun e => by rw [e, hb] at a3; exact absurd a3 (by decide)
   exact ⟨a, a1, a2, by rw [hl, if_neg hab]; exact a3, by rw [hl, if_neg hab]; exact a4⟩
theorem snd_large {bm : Bm} (h : BmOk B bm) (hv : bm.dev.live) (n : Nat) (h1 : 1 ≤ n) (h2 : n < 256) (hs : Snd bm.list) : Snd (bm.large (n : Int)).bm.list := by
 rcases large_live h hv n h1 h2 with ⟨e, _⟩ | ⟨b, _, _, b1, b2, hf, _, _, _, hl, _⟩
 ·rw [e]; exact hs
 ·intro q q1 hq
  rw [hl] at hq
  by_cases e : q = b
  ·rw [if_pos e] at hq; exact absurd hq (by simp)
  ·rw [if_neg e] at hq
   by_cases c : b ≤ q ∧ q < b + n
   ·exact ⟨b, b1, by omega, by rw [hl, if_pos rfl], by rw [hl, if_pos rfl]; dsimp only; omega⟩
   ·rw [if_neg c] at hq
    obtain ⟨a, a1, a2, a3, a4⟩ := hs q q1 hq
    have hab : ¬ (b ≤ a ∧ a < b + n) := fun e => by
     have := ((h.free a).1 (hf a e.1 e.2)).2.2
     rw [this] at a3; exact absurd a3 (by decide)
    have hab2 : a ≠ b := fun e => hab ⟨by omega, by omega⟩
    exact ⟨a, a1, a2, by rw [hl, if_neg hab2, if_neg hab]; exact a3, by rw [hl, if_neg hab2, if_neg hab]; exact a4⟩
theorem snd_shrunk {L L' : List Hd} {a n : Nat} (hs : Snd L) (hq : ∀ q, L'.getD q default = if a ≤ q ∧ q < a + n then ⟨0, 0, 0⟩ else L.getD q default)
  (hb : ∀ q, a ≤ q → q < a + n → (L.getD q default).k = 2 → q = a ∧ (L.getD a default).l = (n : Int)) : Snd L' := by
 intro q q1 hk
 rw [hq] at hk
 by_cases c : a ≤ q ∧ q < a + n
 ·rw [if_pos c] at hk; exact absurd hk (by decide)
 ·rw [if_neg c] at hk
  obtain ⟨b, b1, b2, b3, b4⟩ := hs q q1 hk
  have hbn : ¬ (a ≤ b ∧ b < a + n) := fun e => by
   obtain ⟨rfl, e2⟩ := hb b e.1 e.2 b3
   rw [e2] at b4
   omega
  exact ⟨b, b1, b2, by rw [hq, if_neg hbn]; exact b3, by rw [hq, if_neg hbn]; exact b4⟩
theorem snd_room (h : AlOk B m) (hs : Snd m.bm.list) (mu n : Nat) (h1 : 1 ≤ n) (h2 : n ≤ 16448) : Snd (m.room mu n).al.bm.list := by
 unfold Al.room
 by_cases hsm : small n
 ·rw [if_pos hsm]
  have hk := ofN_lt hsm
  have hS := snd_small h.bm h.live _ hk hs
  generalize ofN (n : Int) = k at *
  unfold Al.roomS Al.steal
  split
  ·rw [take_bm]; exact hs
  ·split
   ·rw [take_bm]; exact hS
   ·split
    ·exact hS
    ·split
     ·rw [take_bm]; exact hS
     ·exact hS
 ·rw [if_neg hsm]
  have hnb : 1 ≤ objBlocks n ∧ objBlocks n < 256 := by
   unfold objBlocks
   rw [if_neg hsm]
   omega
  have hS := snd_large h.bm h.live _ hnb.1 hnb.2 hs
  unfold Al.roomL
  split <;> exact hS
theorem snd_alloc (h : AlOk B m) (hs : Snd m.bm.list) (mu p d : Int) : Snd (m.alloc mu p d).al.bm.list := by
 unfold Al.alloc
 split
 ·exact hs
 ·split
  ·exact hs
  ·next c =>
   have hR := snd_room h hs mu.toNat (objSize p d) (by omega) (objSize_le _ _)
   split
   ·exact hR
   ·unfold Al.made
    split <;> exact hR
structure Gone (B : Nat) (m m' : Al) (a : Nat) : Prop where
 ok : AlOk B m'
 used : m'.used = m.used.set a false
 keep : ∀ x : Nat, m.used.getD x false = true → x ≠ a → placedN m'.bm.dev m'.bm.list (x : Int) = placedN m.bm.dev m.bm.list (x : Int)
 cells : ∀ k x : Nat, isCell m'.bm.list k x ↔ isCell m.bm.list k x
 snd : Snd m.bm.list → Snd m'.bm.list
 kin : ∀ q, m'.bm.list.getD q default = m.bm.list.getD q default ∨ (m'.bm.list.getD q default = ⟨0, 0, 0⟩ ∧ 2 ≤ (m.bm.list.getD q default).k)
 k2 : (m'.bm.list.getD (a / 512) default).k ≠ 2
theorem getD_set_off (l : List Bool) (a x : Nat) : (l.set a false).getD x false = if x = a then false else l.getD x false := by
 by_cases e : x = a
 ·subst e
  rw [if_pos rfl, List.getD_eq_getElem?_getD, List.getElem?_set_self']
  cases l[x]? <;> rfl
 ·rw [if_neg e, List.getD_eq_getElem?_getD, List.getElem?_set_ne (fun h => e h.symm), ← List.getD_eq_getElem?_getD]
theorem gone_small (h : AlOk B m) {a : Nat} {o : Odec} (hu : m.used.getD a false = true) (ho : placedN m.bm.dev m.bm.list (a : Int) = some o) (hs : small (objSize o.p o.d)) {f : FL}
  (hf : ∀ j x : Nat, f.cnt j x = m.fl.cnt j x + if j = ofN (objSize o.p o.d : Nat) ∧ x = a ∧ m.fl.cnt (ofN (objSize o.p o.d : Nat)) a = 0 then 1 else 0) :
  Gone B m ⟨m.bm, m.used.set a false, f⟩ a := by
 have hk := ofN_lt hs
 have hc : isCell m.bm.list (ofN (objSize o.p o.d : Nat)) a := by
  obtain ⟨e1, _⟩ := placed_head ho
  unfold placedN at ho
  rw [e1, if_pos hs, Int.toNat_natCast] at ho
  split at ho
  ·cases ho
  ·split at ho
   ·assumption
   ·cases ho
 have h0 : m.fl.cnt (ofN (objSize o.p o.d : Nat)) a = 0 := by rw [h.cells _ _ hk, if_neg]; rintro ⟨_, e⟩; rw [hu] at e; cases e
 refine ⟨⟨h.bm, h.live, h.len, by simp [h.lenU], fun x hx => ?_, fun k x hk' => ?_⟩, rfl, fun x _ _ => rfl, fun _ _ => Iff.rfl, fun h => h, fun q => .inl rfl, by dsimp only; rw [hc.2.2.1]; show (1 : Int) ≠ 2; decide⟩
 ·dsimp only at hx ⊢
  rw [getD_set_off] at hx
  by_cases e : x = a
  ·rw [if_pos e] at hx; cases hx
  ·rw [if_neg e] at hx; exact h.placed x hx
 ·dsimp only
  rw [hf, h0, h.cells _ _ hk', getD_set_off]
  generalize ofN (objSize o.p o.d : Nat) = c at *
  by_cases e : x = a
  ·subst e
   rw [if_pos rfl, hu]
   by_cases e2 : k = c
   ·subst e2
    simp [hc]
   ·have : ¬ isCell m.bm.list k x := fun hc' => by
     have := hc.2.2.1.symm.trans hc'.2.2.1
     have := congrArg Hd.c this
     simp at this
     exact e2 (by omega)
    simp [this, e2]
  ·simp [e]
theorem AlOk.shrink (h : AlOk B m) (hB : B ≤ 200) {a n : Nat} {bm : Bm} (hb : BmOk B bm) (hv : bm.dev.live) (hf : Far B m.bm.dev bm.dev) (hS : Shrank m.bm.list bm.list a n) {u : List Bool} (hu : u.length = m.used.length) (hsub : ∀ x, u.getD x false = true → m.used.getD x false = true ∧ ¬ (a ≤ x / 512 ∧ x / 512 < a + n))
  (hout : ∀ x, ¬ (a ≤ x / 512 ∧ x / 512 < a + n) → (∃ k, isCell m.bm.list k x) → u.getD x false = m.used.getD x false) {f : FL}
  (hc : ∀ k x : Nat, k < 32 → f.cnt k x = if a ≤ x / 512 ∧ x / 512 < a + n then 0 else m.fl.cnt k x) : AlOk B ⟨bm, u, f⟩ := by
 refine ⟨hb, hv, by dsimp only; rw [hf.len, h.len], by dsimp only; rw [hu, h.lenU], fun x hx => ?_, fun k x hk => ?_⟩
 ·dsimp only at hx ⊢
  obtain ⟨h1, h2⟩ := hsub x hx
  obtain ⟨o, ho⟩ := Option.isSome_iff_exists.1 (h.placed x h1)
  rw [hS.placed ho hf.len (hf.word x (by have := (h.used_kind h1).1; have := (h.used_kind h1).2.1; intro c; have := h.len; have hfit := h.bm.clean.fits; omega)) h2]
  rfl
 ·show f.cnt k x = if isCell bm.list k x ∧ u.getD x false = false then 1 else 0
  rw [hc k x hk]
  by_cases c : a ≤ x / 512 ∧ x / 512 < a + n
  ·rw [if_pos c, if_neg (fun e => ((hS.cell k x).1 e.1).2 c)]
  ·rw [if_neg c, h.cells k x hk]
   by_cases e : isCell m.bm.list k x
   ·have e' := (hS.cell k x).2 ⟨e, c⟩
    rw [hout x c ⟨k, e⟩]
    simp [e, e']
   ·rw [if_neg (fun q => e q.1), if_neg (fun q => e ((hS.cell k x).1 q.1).1)]
theorem BmOk.shrank {bm bm' : Bm} (h : BmOk B bm) (h' : BmOk B bm') {a n : Nat} (a1 : 1 ≤ a) (a2 : a < B) (hk : (bm.list.getD a default).k = 1 ∨ (bm.list.getD a default).k = 2) (hn : relN (bm.list.getD a default) = (n : Int))
  (hq : ∀ q, bm'.list.getD q default = if a ≤ q ∧ q < a + n then ⟨0, 0, 0⟩ else bm.list.getD q default) : Shrank bm.list bm'.list a n := by
 obtain ⟨n', n1, hn', haB, hcont⟩ := rel_many h a1 a2 hk
 obtain rfl : n' = n := by omega
 exact ⟨by rw [h.lenL, h'.lenL], hq, hk, hcont⟩
theorem gone_large (h : AlOk B m) (hB : B ≤ 200) {a : Nat} {o : Odec} (hu : m.used.getD a false = true) (ho : placedN m.bm.dev m.bm.list (a : Int) = some o) (hs : ¬ small (objSize o.p o.d)) :
  (m.bm.release ((a / 512 : Nat) : Int)).err = 0 ∧ Gone B m ⟨(m.bm.release ((a / 512 : Nat) : Int)).bm, m.used.set a false, m.fl⟩ a := by
 obtain ⟨e1, e0, h1, h2⟩ := placed_head ho
 have hro := placed_room ho
 have hkk := h.used_kind hu
 have hw : a % 512 = 0 ∧ wholeN m.bm.list (a / 512) = objBlocks (objSize o.p o.d) := by
  unfold placedN at ho
  rw [e1, if_neg hs, Int.toNat_natCast] at ho
  split at ho
  ·cases ho
  ·split at ho
   ·assumption
   ·cases ho
 have hnz : 1 ≤ objBlocks (objSize o.p o.d) := by
  have := (placed_size ho).1
  unfold objBlocks
  rw [if_neg hs]; omega
 have hf := wholeN_fits (L := m.bm.list) (b := a / 512) (by omega)
 obtain ⟨f1, f2, f3, f4, f5⟩ := hf
 have hn : relN (m.bm.list.getD (a / 512) default) = ((wholeN m.bm.list (a / 512) : Nat) : Int) := by unfold relN; rw [if_neg (by rw [f2]; decide), f3]
 obtain ⟨r1, r2, r3, r4, r5, r6⟩ := release_live h.bm h.live (a := a / 512) (by omega) hkk.2.1 (.inr f2) _ hn
 have hS := h.bm.shrank r2 (a := a / 512) (by omega) hkk.2.1 (.inr f2) hn r5
 have hin : ∀ x, m.used.getD x false = true → x ≠ a → ¬ (a / 512 ≤ x / 512 ∧ x / 512 < a / 512 + wholeN m.bm.list (a / 512)) := fun x hx hxa => by
  obtain ⟨o', ho'⟩ := Option.isSome_iff_exists.1 (h.placed x hx)
  have hrx := placed_room ho'
  have hrm : roomN o.p o.d = 512 * wholeN m.bm.list (a / 512) := by unfold roomN; rw [if_neg hs, hw.2]
  rcases Nat.lt_or_gt_of_ne hxa with c | c
  ·intro e
   have := hrx.apart hro c
   have := hrx.pos
   omega
  ·have := hro.apart hrx c
   rw [hrm] at this
   omega
 have hnc : ∀ k x : Nat, isCell m.bm.list k x → ¬ (a / 512 ≤ x / 512 ∧ x / 512 < a / 512 + wholeN m.bm.list (a / 512)) := fun k x hc c => by
  have e := hc.2.2.1
  by_cases c0 : x / 512 = a / 512
  ·rw [c0] at e; rw [e] at f2; simp at f2
  ·have e2 := f5 (x / 512 - a / 512) (by omega) (by omega)
   rw [show a / 512 + (x / 512 - a / 512) = x / 512 by omega, e] at e2
   have := congrArg Hd.k e2
   simp at this
 refine ⟨r1, h.shrink hB r2 r3 r4 hS (by simp) (fun x hx => ?_) (fun x hx hc => ?_) (fun k x hk => ?_), rfl, fun x hx hxa => ?_, fun k x => (hS.cell k x).trans ⟨fun h => h.1, fun h => ⟨h, hnc k x h⟩⟩, fun hs => snd_shrunk hs r5 (fun q q1 q2 hk2 => ?_), fun q => ?_, ?_⟩
 ·rw [getD_set_off] at hx
  by_cases e : x = a
  ·rw [if_pos e] at hx; cases hx
  ·rw [if_neg e] at hx; exact ⟨hx, hin x hx e⟩
 ·rw [getD_set_off, if_neg]
  rintro rfl
  omega
 ·split
  ·next c =>
   rw [h.cells k x hk, if_neg]
   rintro ⟨hc, _⟩
   exact hnc k x hc c
  ·rfl
 ·dsimp only
  obtain ⟨o', ho'⟩ := Option.isSome_iff_exists.1 (h.placed x hx)
  rw [ho']
  exact hS.placed ho' r4.len (r4.word x (by have := (h.used_kind hx).1; have hfit := h.bm.clean.fits; have := h.len; intro c; omega)) (hin x hx hxa)
 ·by_cases c0 : q = a / 512
  ·subst c0
   exact ⟨rfl, f3.symm⟩
  ·have e2 := f5 (q - a / 512) (by omega) (by omega)
   rw [show a / 512 + (q - a / 512) = q by omega] at e2
   rw [e2] at hk2
   exact absurd hk2 (by simp)
 ·dsimp only
  rw [r5 q]
  by_cases c : a / 512 ≤ q ∧ q < a / 512 + wholeN m.bm.list (a / 512)
  ·rw [if_pos c]
   refine .inr ⟨rfl, ?_⟩
   by_cases c0 : q = a / 512
   ·rw [c0, f2]; decide
   ·have e2 := f5 (q - a / 512) (by omega) (by omega)
    rw [show a / 512 + (q - a / 512) = q by omega] at e2
    rw [e2]
    show (2 : Int) ≤ 3
    decide
  ·rw [if_neg c]; exact .inl rfl
 ·dsimp only
  rw [r5, if_pos ⟨Nat.le_refl _, by omega⟩]
  show (0 : Int) ≠ 2
  decide
structure Trimmed (B : Nat) (m m' : Al) (b : Nat) : Prop where
 ok : AlOk B m'
 used : m'.used = m.used
 keep : ∀ x : Nat, m.used.getD x false = true → placedN m'.bm.dev m'.bm.list (x : Int) = placedN m.bm.dev m.bm.list (x : Int)
 list : ∀ q, m'.bm.list.getD q default = if q = b then ⟨0, 0, 0⟩ else m.bm.list.getD q default
 free : m'.bm.free = setTo m.bm.free b true 1
 snd : Snd m.bm.list → Snd m'.bm.list
theorem trim_done (h : AlOk B m) (hB : B ≤ 200) {b k : Nat} (b1 : 1 ≤ b) (b2 : b < B) (hk : k < 32) (hb : m.bm.list.getD b default = ⟨1, k, 0⟩) (hu : ∀ x, x / 512 = b → m.used.getD x false = false) :
  (m.bm.release (b : Int)).err = 0 ∧ Trimmed B m ⟨(m.bm.release (b : Int)).bm, m.used, m.fl.remove k (512 * b) (512 * b + 512)⟩ b := by
 have hkd : (m.bm.list.getD b default).k = 1 := by rw [hb]
 have hn : relN (m.bm.list.getD b default) = ((1 : Nat) : Int) := by unfold relN; rw [if_pos hkd]; rfl
 obtain ⟨r1, r2, r3, r4, r5, r6⟩ := release_live h.bm h.live b1 b2 (.inl hkd) _ hn
 have hS := h.bm.shrank r2 b1 b2 (.inl hkd) hn r5
 have hrg : ∀ x, (b ≤ x / 512 ∧ x / 512 < b + 1) ↔ x / 512 = b := fun x => by omega
 have hin : ∀ x, m.used.getD x false = true → ¬ (b ≤ x / 512 ∧ x / 512 < b + 1) := fun x hx c => by
  rw [hu x ((hrg x).1 c)] at hx; cases hx
 refine ⟨r1, h.shrink hB r2 r3 r4 hS rfl (fun x hx => ⟨hx, hin x hx⟩) (fun _ _ _ => rfl) (fun j x hj => ?_), rfl, fun x hx => ?_, fun q => ?_, r6, fun hs => snd_shrunk hs r5 (fun q q1 q2 hk2 => ?_)⟩
 ·rw [FL.remove_cnt]
  by_cases c : b ≤ x / 512 ∧ x / 512 < b + 1
  ·rw [if_pos c]
   by_cases e : j = k
   ·rw [if_pos ⟨e, by omega, by omega⟩]
   ·rw [if_neg (fun q => e q.1), h.cells j x hj, if_neg]
    rintro ⟨hc, _⟩
    have := hc.2.2.1
    rw [(hrg x).1 c, hb] at this
    have := congrArg Hd.c this
    simp at this
    exact e (by omega)
  ·rw [if_neg c, if_neg]
   rintro ⟨_, h1, h2⟩
   exact c ⟨by omega, by omega⟩
 ·dsimp only
  obtain ⟨o', ho'⟩ := Option.isSome_iff_exists.1 (h.placed x hx)
  rw [ho']
  exact hS.placed ho' r4.len (r4.word x (by have := (h.used_kind hx).1; have hfit := h.bm.clean.fits; have := h.len; intro c; omega)) (hin x hx)
 ·dsimp only
  rw [r5 q]
  by_cases e : q = b
  ·rw [if_pos (by omega), if_pos e]
  ·rw [if_neg (by omega), if_neg e]
 ·obtain rfl : q = b := by omega
  rw [hkd] at hk2
  exact absurd hk2 (by decide)
def cellsTo (u : Nat → Bool) (b k : Nat) : Nat → List Nat
 | 0 => []
 | n + 1 => cellsTo u b k n ++ if u (cellOf b k n) then [] else [cellOf b k n]
def isSm (L : List Hd) (k b : Nat) : Bool := decide ((L.getD b default).k = 1) && decide ((L.getD b default).c = (k : Int))
def freeTo (u : Nat → Bool) (L : List Hd) (k : Nat) : Nat → List Nat
 | 0 => []
 | n + 1 => freeTo u L k n ++ if isSm L k (n + 1) then cellsTo u (n + 1) k (clsCells k) else []
theorem cellsTo_count {u : Nat → Bool} {b k : Nat} (hk : k < 32) (x : Nat) : ∀ n, (cellsTo u b k n).count x = if u x = false ∧ ∃ i, i < n ∧ x = cellOf b k i then 1 else 0
 | 0 => by rw [if_neg (by rintro ⟨_, i, hi, _⟩; omega)]; rfl
 | n + 1 => by
  unfold cellsTo
  rw [List.count_append, cellsTo_count hk x n]
  by_cases e : x = cellOf b k n
  ·subst e
   rw [if_neg (by rintro ⟨_, i, hi, e⟩; have := cellOf_inj hk _ _ e; omega)]
   cases h : u (cellOf b k n) with
   | true => rw [if_pos rfl, if_neg (by simp)]; rfl
   | false => rw [if_neg (by simp), if_pos ⟨rfl, n, by omega, rfl⟩]; simp
  ·have h0 : (if u (cellOf b k n) = true then ([] : List Nat) else [cellOf b k n]).count x = 0 := by
    split
    ·rfl
    ·rw [List.count_singleton, if_neg]; simpa using fun h => e h.symm
   rw [h0, Nat.add_zero]
   congr 1
   refine propext ⟨fun ⟨h1, i, hi, h2⟩ => ⟨h1, i, by omega, h2⟩, fun ⟨h1, i, hi, h2⟩ => ⟨h1, i, ?_, h2⟩⟩
   by_cases c : i = n
   ·subst c; exact absurd h2 e
   ·omega
theorem cellOf_lt {b k i j : Nat} (hk : k < 32) (h : i < j) : cellOf b k i < cellOf b k j := by
 have hp := clsWords_pos (k : Int) (by omega)
 unfold cellOf
 have : (i + 1) * clsWords k ≤ j * clsWords k := Nat.mul_le_mul_right _ h
 rw [Nat.add_mul, Nat.one_mul] at this
 omega
theorem cellsTo_len {u : Nat → Bool} {b k : Nat} : ∀ n, (cellsTo u b k n).length ≤ n
 | 0 => Nat.le_refl _
 | n + 1 => by
  unfold cellsTo
  have := cellsTo_len (u := u) (b := b) (k := k) n
  rw [List.length_append]
  split <;> simp <;> omega
theorem freeTo_len {u : Nat → Bool} {L : List Hd} {k : Nat} (hk : k < 32) : ∀ n, (freeTo u L k n).length ≤ 256 * n
 | 0 => Nat.le_refl _
 | n + 1 => by
  unfold freeTo
  have h1 := freeTo_len (u := u) (L := L) hk n
  have h2 := cellsTo_len (u := u) (b := n + 1) (k := k) (clsCells k)
  have h3 : clsCells k ≤ 256 := by
   unfold clsCells
   have hp := clsWords_pos (k : Int) (by omega)
   have := Nat.div_le_div_left (c := 2) (b := clsWords (k : Int)) (a := 512) hp (by decide)
   omega
  rw [List.length_append]
  split
  ·omega
  ·simp; omega
end Go.Proofs.YtpopbfagliagnaaGreat
namespace Go.Proofs.YtpopbfagliagnaaGreat
open Go.RowKit Go.Shelf
attribute [local go_sem] Oper.semAt_some
theorem onesF_next {l : List Bool} {a : Nat} : onesF l a = match nextB l a with | some i => i :: onesF l (i + 1) | none => [] := by
 cases h : nextB l a with
 | none => exact onesF_none h
 | some i => exact onesF_step h
def Coming (l : List Bool) (pre : List Nat) (o : Option Nat) : Prop := onesL l = pre ++ (match o with | some i => i :: onesF l (i + 1) | none => [])
theorem Coming.start (l : List Bool) : Coming l [] (nextB l 0) := by unfold Coming; rw [List.nil_append, ← onesF_zero]; exact onesF_next
theorem Coming.next {l : List Bool} {pre : List Nat} {i : Nat} (h : Coming l pre (some i)) : Coming l (pre ++ [i]) (nextB l (i + 1)) := by
 unfold Coming at h ⊢
 rw [h, ← onesF_next]; simp
theorem Coming.done {l : List Bool} {pre : List Nat} (h : Coming l pre none) : pre = onesL l := by unfold Coming at h; simpa using h.symm
theorem Coming.lt {l : List Bool} {pre : List Nat} {i : Nat} (h : Coming l pre (some i)) : pre.length < (onesL l).length := by unfold Coming at h; rw [h]; simp
theorem Coming.pre {l : List Bool} {pre : List Nat} {i : Nat} (h : Coming l pre (some i)) : pre ++ [i] <+: onesL l := by unfold Coming at h; rw [h]; exact ⟨onesF l (i + 1), by simp⟩
theorem Coming.in_ {l : List Bool} {pre : List Nat} {i : Nat} (h : Coming l pre (some i)) : i < l.length := by
 have : i ∈ onesL l := by unfold Coming at h; rw [h]; simp
 unfold onesL at this
 exact List.mem_range.1 (List.mem_filter.1 this).1
theorem nextV_eq (o : Option Nat) : nextV o = .tuple #[.int .i64 ((o.getD 0 : Nat) : Int), .bool o.isSome] := by cases o <;> rfl
def leftB (n : Nat) (v b : Value) : Nat := match b with
 | .bool true => n + 1 - (intOf v).toNat
 | _ => 0
theorem leftB_next {l : List Bool} {pre : List Nat} {i : Nat} (h : Coming l pre (some i)) : leftB l.length (.int .i64 (((nextB l (i + 1)).getD 0 : Nat) : Int)) (.bool (nextB l (i + 1)).isSome) < leftB l.length (.int .i64 (i : Int)) (.bool true) := by
 have hi := h.in_
 cases ho : nextB l (i + 1) with
 | none => simp [leftB, intOf]; omega
 | some j =>
  have := nextB_is ho
  simp [leftB, intOf]; omega
def KpB (n₀ Bn : Nat) (A B : World) : Prop := Below n₀ A B ∧ B.heap[Bn]? = A.heap[Bn]?
theorem KpB.trans {n₀ Bn : Nat} {A B C : World} (h : KpB n₀ Bn A B) (k : KpB n₀ Bn B C) : KpB n₀ Bn A C := ⟨h.1.trans k.1, k.2.trans h.2⟩
theorem KpB.book {n₀ Bn : Nat} {w : World} (hn : n₀ ≤ w.heap.size) (hB : Bn < w.heap.size) (W : World) (l : Nat) (o o' : Obj) (hl : w.heap.size ≤ l) (h : W.heap[l]? = some o) (h1 : o.isCells = false) (h2 : o.isWalk = false) : KpB n₀ Bn W (W.putObj l o') :=
 ⟨belowK_b hn W l o o' hl h h1 h2, World.putObj_heap_other (by omega)⟩
set_option maxRecDepth 100000 in
set_option maxHeartbeats 2000000 in
theorem sall1_in {X : SetF} {l : List Bool} (n : Nat) (hn : 1 ≤ n) (lp Bn n₀ : Nat) (J Jx : List Nat → World → Prop)
  (hY : ∀ pre (x : Nat) W, J pre W → pre.length < (onesL l).length → YieldAt Fence.wide (n - 1) Tryz.prog lp #[.int .i64 (x : Int)] W fun e W' =>
   (e = .returned (.bool true) ∧ J (pre ++ [x]) W' ∧ KpB n₀ Bn W W') ∨ (e = .returned (.bool false) ∧ Jx (pre ++ [x]) W'))
  (W : World) (hBn : Boxed W Bn 74 (vset X)) (hS : SetAt W X l) (hX : ∀ k ∈ X.list, k < n₀) (h0 : J [] W) :
  CallsIn Fence.wide n Tryz.prog 280 #[.func (.yield lp) #[] #[], .pointer (some ⟨Bn, 0, none⟩)] W fun e W' => (∃ v, e = .returned v) ∧
   ((∃ ys, ys = onesL l ∧ J ys W') ∨ (∃ pre, pre <+: onesL l ∧ Jx pre W')) := by
 have HS := LH hS
 refine callsIn_of_wp Tryz.func280 rfl trivial ?_ rfl
 simp only [Tryz.ntmps280, List.size_toArray, List.length_cons, List.length_nil, Nat.reduceAdd, Nat.reduceSub, Array.replicate_succ, Array.replicate_zero, List.push_toArray, List.append_toArray, List.nil_append, List.cons_append]
 have HN0 := LH (snext_any hS 0)
 rw [show (0 : Int).toNat = 0 from rfl, nextV_eq] at HN0
 have HC0 := LH (Coming.start l)
 generalize nextB l 0 = o0 at *
 have hc0 := hBn.cell
 clear hS
 gi_wp2_with (refine ⟨trivial, ?_⟩; gi_at_call 281; refine (callsIn_wide.2 HN0.out).mono ?_; rintro e w1 ⟨rfl, rfl⟩)
 gi_loopw [3, 4] (fun v b wr => ∃ (pre : List Nat) (o : Option Nat), v = .int .i64 ((o.getD 0 : Nat) : Int) ∧ b = .bool o.isSome ∧ Hid (Coming l pre o) ∧ Hid (SetAt wr X l) ∧ Boxed wr Bn 74 (vset X) ∧ J pre wr) (fun v b _ => leftB l.length v b)
 case atStart => exact ⟨[], o0, rfl, rfl, HC0, HS, hBn, h0⟩
 case round =>
  clear HN0 hBn h0 HS HC0 hc0
  obtain ⟨pre, o, rfl, rfl, HC, HS, hBn, hJ⟩ := hrel
  cases o with
  | none =>
   simp only [Option.isSome_none, Option.getD_none]
   gi_wp2
   go_end0
   exact ⟨⟨_, rfl⟩, .inl ⟨pre, HC.out.done, hJ⟩⟩
  | some i =>
   simp only [Option.isSome_some, Option.getD_some]
   obtain ⟨fn, tmps, assign, body, hy, hR⟩ := hY pre i wr hJ HC.out.lt
   gi_wp2
   refine hR.mono ?_
   rintro e W3 (⟨rfl, hJ3, hk3⟩ | ⟨rfl, hJx3⟩)
   ·have hBn3 : Boxed W3 Bn 74 (vset X) := hk3.2.trans hBn
    have hc3 := hBn3.cell
    have HS3 := LH (HS.out.keep (fun k hk => hk3.1.block k (hX k hk)))
    have HN := LH (snext_any HS3.out ((i : Int) + 1))
    rw [show ((i : Int) + 1).toNat = i + 1 by omega, nextV_eq] at HN
    have HL := LH (leftB_next HC.out)
    have HC3 := LH HC.out.next
    have hil := HC.out.in_
    have hls := HS.out.small
    clear hk3 hy hR
    generalize nextB l (i + 1) = o at *
    gi_wp2_with (refine ⟨trivial, ?_⟩; gi_at_call 281; refine (callsIn_wide.2 HN.out).mono ?_; rintro e w1 ⟨rfl, rfl⟩)
    go_roundw
    case rel => exact ⟨pre ++ [i], o, rfl, rfl, HC3, HS3, hBn3, hJ3⟩
    case measure => exact HL.out
   ·gi_wp2
    refine bodyPost_ret (results_none rfl _ _ _) rfl ?_
    exact ⟨⟨_, rfl⟩, .inr ⟨pre ++ [i], HC.out.pre, hJx3⟩⟩
set_option maxHeartbeats 1000000 in
theorem sall_in (X : SetF) (n : Nat) (w : World) :
  CallsIn Fence.wide n Tryz.prog 215 #[vset X] w fun e w' => e = .returned (.func (.func 280) #[] #[.pointer (some ⟨w.heap.size, 0, none⟩)]) ∧ w' = w.alloc (.cells #[vset X] 74) := by
 refine callsIn_of_wp Tryz.func215 rfl trivial ?_ rfl
 simp only [Tryz.ntmps215, List.size_toArray, List.length_cons, List.length_nil, Nat.reduceAdd, Nat.reduceSub, Array.replicate_succ, Array.replicate_zero, List.push_toArray, List.append_toArray, List.nil_append, List.cons_append]
 gi_wp2
 go_ret
 exact ⟨rfl, rfl⟩
theorem sall_stops {X : SetF} {l : List Bool} (n : Nat) (hn : 1 ≤ n) (Bn n₀ : Nat) (w : World) (hn₀ : n₀ ≤ w.heap.size) (hc : Boxed w Bn 74 (vset X)) (hS : SetAt w X l) (hX : ∀ k ∈ X.list, k < n₀) :
  SeqStopsK Fence.wide n Tryz.prog 280 #[.pointer (some ⟨Bn, 0, none⟩)] (fun x : Nat => #[Value.int .i64 (x : Int)]) (KpB n₀ Bn) (fun ys => ys = onesL l) (fun pre => pre <+: onesL l) (onesL l).length w := fun lp J Jx W hW _ _ hY h0 =>
 sall1_in n hn lp Bn n₀ J Jx hY W ((hW.block Bn hc.lt).trans hc) (hS.below hW) hX h0
theorem infoInt : (Tryz.prog.info? 3).map (fun i => (i.zero, i.size, i.bytes)) = some (some (.int .i64 0), 1, 8) := by kernel_rfl
def ListPost (w : World) (xs : List Nat) : Ending → World → Prop := fun e w' => ∃ v, e = .returned v ∧ w'.ownsRow w.heap.size 3 1 v xs.length (xs.map vi) ∧ (v = .slice none 0 0 ↔ xs = []) ∧ Below w.heap.size w w'
set_option maxRecDepth 100000 in
set_option maxHeartbeats 2000000 in
theorem slist_any {w : World} {X : SetF} {l : List Bool} (h : SetAt w X l) : Calls Tryz.prog 122 #[vset X] w (ListPost w (onesL l)) := by
 have hlen : (onesL l).length ≤ 1000000 := by rw [onesL_length]; exact Nat.le_trans (count_le_len l) h.small
 obtain ⟨i0, hi, hz0, hz1, hz2⟩ := info_parts infoInt
 refine (callsIn_wide (n := 5)).1 ?_
 refine callsIn_of_wp_marks Tryz.func122 rfl trivial ?_ rfl
 simp only [Tryz.ntmps122, List.size_toArray, List.length_cons, List.length_nil, Nat.reduceAdd, Nat.reduceSub, Array.replicate_succ, Array.replicate_zero, List.push_toArray, List.append_toArray, List.nil_append, List.cons_append]
 gi_wp2_with (refine ⟨trivial, ?_⟩; gi_at_call 215; refine (sall_in X _ _).mono ?_; rintro e w' ⟨rfl, rfl⟩)
 have bO := Boxed.new w 47 (.slice none 0 0)
 have bN := Boxed.new (w.alloc (.cells #[.slice none 0 0] 47)) 74 (vset X)
 rw [World.size_alloc] at bN
 have hB0 : Below w.heap.size w ((w.alloc (.cells #[.slice none 0 0] 47)).alloc (.cells #[vset X] 74)) := ((Below.refl _ w).alloc (Nat.le_refl _) _).alloc (by simp) _
 refine wpIn_rangeFunc_ownG rfl (by omega) (gf := 280) (lb := #[.pointer (some ⟨w.heap.size + 1, 0, none⟩)]) rfl trivial (enters_of Tryz.func280 (by kernel_rfl) rfl)
  (sall_stops 4 (by omega) (w.heap.size + 1) w.heap.size _ (by simp; omega) bN (h.below hB0) h.mem) KpB.trans (KpB.book (by simp; omega) (by simp)) (Below.refl _ _) (fun _ => rfl)
  (fun pre W => (∃ v, Boxed W w.heap.size 47 v ∧ W.ownsRow w.heap.size 3 1 v pre.length (pre.map vi) ∧ (v = .slice none 0 0 ↔ pre = [])) ∧ Boxed W (w.heap.size + 1) 74 (vset X) ∧ Below w.heap.size w W)
  (fun _ _ _ => False)
  (OwnFrom.and (Own.from (holdsRow_own w.heap.size w.heap.size 47 3 1 (fun pre : List Nat => pre.length) (fun pre => pre.map vi) (fun pre v => v = .slice none 0 0 ↔ pre = [])) _) (OwnFrom.and (Own.from (boxed_own _ _ _) _) (ownFrom_below (Nat.le_refl _) (by simp; omega))))
  (fun _ _ _ _ _ hs _ _ => hs)
  ⟨⟨_, bO.alloc _, World.ownsRow_nil _ _ _ _, by simp⟩, bN, hB0⟩
  (fun x => { tmps := #[vset X, undef, .slice none 0 0, .pointer (some ⟨w.heap.size, 0, none⟩), .int .i64 (x : Int), vset X, .func (.func 280) #[] #[.pointer (some ⟨w.heap.size + 1, 0, none⟩)], .int .i64 (x : Int), undef, undef, undef, undef, undef], defers := [] }) ?assign ?body ?done ?stop
 case assign =>
  intro l x W K hK
  gi_wp2
  exact hK
 case body =>
  rintro l' pre x W ⟨⟨v, hv, hrow, hnil⟩, hX, hB⟩ hlt
  have hc := hv.cell
  gi_wp2_with (gi_at_builtin; refine wpListIn_append_own _ rfl _ _ 47 rfl w.heap.size 3 i0 (.int .i64 0) 1 8 Tryz.underlying47 hi hz0 hz1 hz2 rfl (by decide) _ _ _ rfl (hrow.alloc _) ⟨W.heap.size, 0, none⟩ 1 1 [.int .i64 (x : Int)] rfl rfl (cell_one_new _ _ _) (by simp [Value.oneCell']) (by have : maxLen = 9223372036854775807 := rfl; omega) (by omega) (by have := hB.size; simp; omega) ?_; intro v' w1 hown' hgrow _; obtain ⟨g', cap', rfl⟩ := ownsRow_succ hown'; obtain ⟨hv1, hv2, hr2, hk2, hb2⟩ := hv.appended (by decide) hrow hB.size (Nat.le_refl _) hown' hgrow; have hc1 := hv1.cell; have hf1 := hv1.frozen)
  have hX2 := Boxed.other ((hX.alloc _).kept hgrow (hX.not_row (by decide) hrow)) (show w.heap.size + 1 ≠ w.heap.size by omega) (Value.slice (some ⟨g', 0, none⟩) (pre.length + 1) cap')
  exact ⟨hk2.from _, ⟨hb2, hX2.trans hX.symm⟩, ⟨_, hv2, by simpa using hr2, by simp⟩, hX2, hB.trans hb2⟩
 case done =>
  rintro D ys W hD rfl ⟨⟨v, hv, hrow, hnil⟩, _, hB⟩ hK
  have hc := hv.cell
  gi_wp2
  refine ⟨by simp, .inl ⟨_, _, rfl, run_takeDeferred hK, ?_⟩⟩
  exact ⟨_, results_tmp rfl _ _ _, v, rfl, ownsRow_putObj hrow _ hK rfl, hnil, hB.trans (belowK_b (w := w) (Nat.le_refl _) W D _ _ (by simp at hD; omega) hK rfl rfl)⟩
 case stop =>
  rintro D c pre W _ _ h _
  exact h.elim
end Go.Proofs.YtpopbfagliagnaaGreat
namespace Go.Proofs.YtpopbfagliagnaaGreat
open Go.RowKit
set_option maxHeartbeats 400000 in
theorem adev_any {w : World} {A : AF} {n B : Nat} {m : Al} (h : AlAt w A n B m) :
  Calls Tryz.prog 175 #[valloc A] w fun e w' => e = .returned (vdev A.X.F) ∧ w = w' := by
 have c1 := h.c1
 clear h
 go_enter Tryz.func175, Tryz.ntmps175
 go_wp2_with fail
 go_ret
 exact ⟨rfl, rfl⟩
set_option maxHeartbeats 400000 in
theorem aused_any {w : World} {A : AF} {n B : Nat} {m : Al} (h : AlAt w A n B m) (x : Int) :
  Calls Tryz.prog 62 #[valloc A, .int .i64 x] w fun e w' => e = .returned (.bool (hasI m.used x)) ∧ w = w' := by
 have c3 := h.c3
 have HS := LH h.set
 clear h
 go_enter Tryz.func62, Tryz.ntmps62
 go_wp2_with fail
 refine (shas_any HS.out x).mono ?_
 rintro e w1 ⟨rfl, rfl⟩
 go_wp2_with fail
 go_ret
 exact ⟨rfl, rfl⟩
set_option maxHeartbeats 400000 in
theorem aobjects_any {w : World} {A : AF} {n B : Nat} {m : Al} (h : AlAt w A n B m) :
  Calls Tryz.prog 35 #[valloc A] w (ListPost w (onesL m.used)) := by
 have c3 := h.c3
 have HS := LH h.set
 have HP : Hid (∀ e w', ListPost w (onesL m.used) e w' → ListPost w (onesL m.used) e w') := LH (fun _ _ h => h)
 generalize hP : ListPost w (onesL m.used) = Post at *
 clear h
 go_enter Tryz.func35, Tryz.ntmps35
 go_wp2_with fail
 refine (slist_any HS.out).mono ?_
 rw [hP]
 rintro e w1 hp
 have HPp := LH hp
 rw [← hP] at hp
 obtain ⟨v, rfl, _⟩ := hp
 clear hP
 go_wp2_with fail
 exact HPp.out
theorem ListPost.own {w w' : World} {xs : List Nat} {e : Ending} (h : ListPost w xs e w') : ∃ a c, e = .returned (.slice a xs.length c) ∧ Cells w' a (xs.map vi) ∧ Below w.heap.size w w' ∧ (∀ b o s, a = some ⟨b, o, s⟩ → w.heap.size ≤ b) := by
 obtain ⟨v, rfl, ho, _, hb⟩ := h
 obtain ⟨a, c, rfl, _⟩ := owned_form ho
 exact ⟨a, c, rfl, Cells.owned ho, hb, fun b o s e => by subst e; exact owned_addr ho _ rfl⟩
end Go.Proofs.YtpopbfagliagnaaGreat
namespace Go.Proofs.YtpopbfagliagnaaGreat
open Go.RowKit Go.Maps
end Go.Proofs.YtpopbfagliagnaaGreat
namespace Go.Proofs.YtpopbfagliagnaaGreat
open Go.RowKit
structure MkF where
 p : Nat
 X : SetF
 Y : SetF
 s : Nat
 v : Value
section
variable {w w' : World} {A : AF} {K : MkF} {M : Mk}
end
section
variable {w w0 w1 w' : World} {A : AF} {n B : Nat} {m : Al} {K : MkF} {M M' : Mk}
end
section
variable {w : World} {A : AF} {K : MkF} {M : Mk}
end
section
variable {w : World} {A : AF} {n B : Nat} {m : Al} {K : MkF} {M : Mk}
end
end Go.Proofs.YtpopbfagliagnaaGreat
namespace Go.Proofs.YtpopbfagliagnaaGreat
section
variable {U : List Bool} {P : Nat → List Nat} {M : Mk}
section
variable {b : Bool} {M' : Mk}
end
end
end Go.Proofs.YtpopbfagliagnaaGreat
namespace Go.Proofs.YtpopbfagliagnaaGreat
open Go.RowKit
section
variable {w : World} {A : AF} {n B : Nat} {m : Al} {K : MkF} {M : Mk}
end
section
variable {U : List Bool} {P : Nat → List Nat} {M : Mk}
end
section
variable {w : World} {A : AF} {n B : Nat} {m : Al} {K : MkF} {M : Mk}
end
theorem dropI_set (l : List Bool) (a : Nat) : dropI l (a : Int) = l.set a false := by
 unfold dropI
 by_cases h : hasI l (a : Int) = true
 ·rw [if_pos h, Int.toNat_natCast]
 ·rw [if_neg h]
  rw [hasI_nat] at h
  symm
  refine List.ext_getElem? fun i => ?_
  by_cases e : a = i
  ·subst e
   by_cases hl : a < l.length
   ·rw [List.getElem?_set_self hl, List.getElem?_eq_getElem hl]
    rw [List.getD_eq_getElem?_getD, List.getElem?_eq_getElem hl] at h
    simpa using h
   ·rw [List.set_eq_of_length_le (by omega)]
  ·rw [List.getElem?_set_ne e]
section
variable {w : World} {A : AF} {n B : Nat} {m : Al} {K : MkF} {M : Mk}
end
end Go.Proofs.YtpopbfagliagnaaGreat
namespace Go.Proofs.YtpopbfagliagnaaGreat
open Go.RowKit Go.Maps
theorem bm_smallL {B : Nat} {b : Bm} (h : BmOk B b) : ∀ i, (b.list.getD i default).l ≤ 100000 := fun i => by
 by_cases hi : i < B
 ·have := of_decide_eq_true (h.right i hi)
  unfold HdRight at this
  omega
 ·rw [List.getD_eq_getElem?_getD, List.getElem?_eq_none (by rw [h.lenL]; omega)]
  show (0 : Int) ≤ 100000
  decide
theorem aput_any {w : World} {A : AF} {n B : Nat} {m : Al} (h : AlAt w A n B m) (hL : m.fl.upto 900000) (hn : n < 1000000000000) (mu k a : Nat) (hm4 : mu < 4) (hk : k < 32) :
  Calls Tryz.prog 172 #[.pointer (some ⟨A.f, 0, none⟩), .int .i64 (mu : Int), .int .i64 (k : Int), .int .i64 (a : Int)] w fun e w' => e = .returned (.int .i64 (if m.fl.has k a then 41 else 0)) ∧ AlGo w w' A (n + 2) B ⟨m.bm, m.used, m.fl.put mu k a⟩ := by
 refine (fput_any h.free hL hn mu k a hm4 hk).mono ?_
 rintro e w' ⟨rfl, hg⟩
 exact ⟨rfl, h.setFree (by omega) hg⟩
theorem apush_any {w : World} {A : AF} {n B : Nat} {m : Al} (h : AlAt w A n B m) (hL : m.fl.upto 1000000) (k a : Nat) (hk : k < 32) :
  Calls Tryz.prog 171 #[.pointer (some ⟨A.f, 0, none⟩), .int .i64 (k : Int), .int .i64 (a : Int)] w fun e w' => e = .returned (.int .i64 (if m.fl.has k a then 41 else 0)) ∧ AlGo w w' A n B ⟨m.bm, m.used, m.fl.pushed k a⟩ := by
 refine (fpush_any h.free hL k a hk).mono ?_
 rintro e w' ⟨rfl, hg⟩
 exact ⟨rfl, h.setFree (Nat.le_refl _) hg⟩
theorem adrop_any {w : World} {A : AF} {n B : Nat} {m : Al} (h : AlAt w A n B m) (a : Nat) :
  Calls Tryz.prog 170 #[vset A.U, .int .i64 (a : Int)] w fun e w' => e = .returned (.bool (hasI m.used (a : Int))) ∧ AlGo w w' A n B ⟨m.bm, m.used.set a false, m.fl⟩ := by
 refine (sdrop_any h.set (a : Int)).mono ?_
 rintro e w' ⟨rfl, hs, ht⟩
 rw [dropI_set] at hs
 exact ⟨rfl, h.setUsed hs ht (by simp)⟩
set_option maxHeartbeats 1000000 in
theorem afreeCells_any {w : World} {A : AF} {n B : Nat} {m : Al} (h : AlAt w A n B m) (hL : m.fl.upto 900000) (k : Nat) (hk : k < 32) :
  Calls Tryz.prog 41 #[valloc A, .int .i64 (k : Int)] w (ListI w m.fl k) := by
 have HL := LH (flist_any h.free hL k hk)
 have c4 := h.c4
 have HP : Hid (∀ e w', ListI w m.fl k e w' → ListI w m.fl k e w') := LH (fun _ _ h => h)
 clear h hL
 generalize hPo : ListI w m.fl k = Post at *
 go_enter Tryz.func41, Tryz.ntmps41
 go_wp2_with fail
 refine HL.out.mono ?_
 intro e w1 h1
 have h2 := h1
 rw [← hPo] at h2
 obtain ⟨v, ys, rfl, _⟩ := h2
 have H1 := LH h1
 clear h1 hPo
 go_wp2_with fail
 exact H1.out
def FreePost (w : World) (A : AF) (n B N : Nat) (m : Al) (x : Int) : Ending → World → Prop := fun e w' =>
 (hasI m.used x = false ∧ e = .returned (.int .i64 42) ∧ AlGo w w' A n B m) ∨
 (∃ (a : Nat) (m' : Al), x = (a : Int) ∧ m.used.getD a false = true ∧ e = .returned (.int .i64 0) ∧ Gone B m m' a ∧ m'.bm.dev.ok (N + 500000) ∧ AlGo w w' A n B m')
set_option maxHeartbeats 4000000 in
set_option maxRecDepth 20000 in
theorem afree_any {w : World} {A : AF} {n B : Nat} {m : Al} (h : AlAt w A n B m) (hok : AlOk B m) (hB : B ≤ 200) (hn : n < 900000000000) {N : Nat} (hN : N ≤ 900000000) (ho : m.bm.dev.ok N) (mu x : Int) :
  Calls Tryz.prog 75 #[valloc A, .int .i64 mu, .int .i64 x] w (FreePost w A (n + 4) B N m x) := by
 have HA := LH h
 have HOk := LH hok
 have HON := LH ho
 have HUp := LH hok.upto
 have HPl := LH (aplace_any h (by omega) x)
 have HP1 : Hid (∀ w', hasI m.used x = false → AlGo w w' A (n + 4) B m → FreePost w A (n + 4) B N m x (.returned (.int .i64 42)) w') := LH (fun w' h1 h2 => .inl ⟨h1, rfl, h2⟩)
 have HP2 : Hid (∀ (a : Nat) m' w', x = (a : Int) → m.used.getD a false = true → Gone B m m' a → m'.bm.dev.ok (N + 500000) → AlGo w w' A (n + 4) B m' → FreePost w A (n + 4) B N m x (.returned (.int .i64 0)) w') := LH (fun a m' w' h1 h2 h3 h4 h5 => .inr ⟨a, m', h1, h2, rfl, h3, h4, h5⟩)
 generalize FreePost w A (n + 4) B N m x = Post at *
 clear h hok ho
 go_enter Tryz.func75, Tryz.ntmps75
 go_wp2_with fail
 refine HPl.out.mono ?_
 rintro e w1 ⟨⟨p, d, rfl, hpl⟩, hb1⟩
 have HM := LH (Mem.one w1 #[.int .i64 p, .int .i64 d] 169)
 have HA1 := LH (HA.out.below hb1)
 have HW1 := LH hb1
 have HPd := LH hpl
 clear hb1 hpl HPl
 generalize hbv : (placedN m.bm.dev m.bm.list x).isSome = bv at *
 have HBv := LH hbv
 clear hbv
 go_upto_region 2 with fail
 obtain ⟨q, hq⟩ : ∃ q, q = w1.heap.size := ⟨_, rfl⟩
 rw [← hq] at HM ⊢
 have HQ := LH hq
 have HA2 := LH (HA1.out.below HM.out.below)
 have HW2 := LH (HW1.out.trans (HM.out.below.mono HW1.out.size))
 generalize w1.alloc _ = w2 at *
 clear hq
 cases hu : hasI m.used x with
 | false =>
  have HFin := LH (fun w' (h : AlGo w w' A (n + 4) B m) => HP1.out w' hu h)
  cases bv with
  | false =>
   clear hu
   go_wp2_with fail
   exact HFin.out _ (AlGo.ahead HW2.out ((AlGo.refl HA2.out).mono (by omega)))
  | true =>
   have HH := LH (shas_any HA2.out.set x)
   rw [hu] at HH
   have c3 := HA2.out.c3
   clear hu
   go_wp2_with fail
   refine HH.out.mono ?_
   rintro e w3 ⟨rfl, rfl⟩
   go_wp2_with fail
   exact HFin.out _ (AlGo.ahead HW2.out ((AlGo.refl HA2.out).mono (by omega)))
 | true =>
 obtain ⟨a, rfl, hal, hua⟩ := hasI_is hu
 have HUa := LH hua
 obtain ⟨o, hop⟩ := Option.isSome_iff_exists.1 (HOk.out.placed a hua)
 have hbv : bv = true := by rw [← HBv.out, hop]; rfl
 subst hbv
 obtain rfl := HPd.out o hop
 have HOp := LH hop
 have HH := LH (shas_any HA2.out.set (a : Int))
 rw [hu] at HH
 have c3 := HA2.out.c3
 clear hu hua hop HPd HBv
 go_wp2_with fail
 refine HH.out.mono ?_
 rintro e w3 ⟨rfl, rfl⟩
 have d0 := HM.out.cell 0 0 rfl rfl
 have d1 := HM.out.cell 0 1 rfl rfl
 have HSm := LH (fun w => osmall_any p d w)
 go_wp2_with fail
 refine (HSm.out _).mono ?_
 rintro e w3 ⟨rfl, hb3⟩
 have HA3 := LH (HA2.out.below hb3)
 have HW3 := LH (HW2.out.trans (hb3.mono HW2.out.size))
 clear hb3 d0 d1 c3 HSm
 by_cases hsm : small (objSize p d)
 case neg =>
  rw [ofV_large _ hsm]
  obtain ⟨hre, hgone⟩ := gone_large HOk.out hB HUa.out HOp.out hsm
  have HRe := LH hre
  have HGone := LH hgone
  have hkk := HOk.out.used_kind HUa.out
  have HBo : Hid (blockOf (B : Int) (a : Int) = ((a / 512 : Nat) : Int)) := LH (by unfold blockOf; rw [if_neg (by omega)]; omega)
  have HOkN2 : Hid ((m.bm.release ((a / 512 : Nat) : Int)).bm.dev.ok (N + 500000)) := LH (release_okN HOk.out.bm.clean.inv HON.out (by rw [HOk.out.bm.lenL]; omega) _)
  have HLc : Hid ((m.bm.release ((a / 512 : Nat) : Int)).bm.dev.cache.length = m.bm.dev.cache.length) := LH (by rw [hgone.ok.len, HOk.out.len])
  clear hsm hre hgone hkk
  go_upto_region 6 with fail
  have r0 := fun x => later_cell HA3.out.c0 x
  have r2 := fun x => later_cell HA3.out.c2 x
  refine wp_region_seg (C := fun w' => ∃ x : Later (w3), w' = x.val) [.fl [0, 1, 2, 3, 4, 5, 6, 7, 8], .sq [9] true, .sq [10, 11] false] (by kernel_rfl) (by kernel_rfl) (by intro c a d v w h; cases d <;> exact h) ?_
  simp only [segs, picks, List.getElem?_cons_succ, List.getElem?_cons_zero]
  have hC1 := later_drew (w3)
  refine wpSeg_fl hC1 ?_
  repeat (first | go_big_quiet_step (fail) | quiet_step (fail))
  refine wpQuiet_nil ?_
  clear r0 r2
  have HD4 := LH (later_below hC1)
  generalize w3.drew = w4 at *
  refine wpSeg_sq (fun K hK => ?_)
  go_wp2_with fail
  refine (gblockOf_any B (by omega) (a : Int) _).mono ?_
  rintro e w5 ⟨rfl, hb5⟩
  rw [HBo.out]
  have hC2 := later_step hC1 hb5
  have HA5 := LH (HA3.out.below (HD4.out.trans (hb5.mono HD4.out.size)))
  have HW5 := LH (HW3.out.trans ((HD4.out.trans (hb5.mono HD4.out.size)).mono HW3.out.size))
  have HRl := LH (brelease_any HA5.out.man (by omega) (by omega) (N := N) (by omega) HON.out HOk.out.bm.clean.inv (bm_smallL HOk.out.bm) ((a / 512 : Nat) : Int))
  clear hb5
  generalize m.bm.release ((a / 512 : Nat) : Int) = rl at *
  obtain ⟨bm', b', er⟩ := rl
  dsimp only at HRe HGone HOkN2 HLc
  obtain rfl := HRe.out
  generalize ((a / 512 : Nat) : Int) = bi at *
  go_wp2_with fail
  refine hK _ _ (fun _ => hC2) ?_
  clear hK K
  refine wpSeg_last ?_
  go_wp2_with fail
  refine HRl.out.mono ?_
  rintro e w6 ⟨rfl, hm6, ht6⟩
  obtain ⟨R6, ha6, ht6', hr6⟩ := HA5.out.setMan (by omega) hm6 ht6 HLc.out
  have HA6 := LH ha6
  have HT6 := LH ht6'
  have HR6 := LH hr6
  have c3 := ha6.c3
  change w6.cell? ⟨A.a, 3, none⟩ = some (vset A.U) at c3
  have HDr := LH (adrop_any HA6.out a)
  clear ha6 ht6' hr6 hm6 ht6 hC1 hC2 HRl
  dsimp only
  go_wp2_with fail
  refine HDr.out.mono ?_
  rintro e w7 ⟨rfl, hg7⟩
  have HG7 := LH (AlGo.ahead HW5.out (AlGo.trans HT6.out HR6.out hg7))
  clear hg7 HDr
  go_wp2_with fail
  exact HP2.out a _ _ rfl HUa.out HGone.out HOkN2.out (HG7.out.mono (by omega))
 have HGone := LH (fun f hf => gone_small (f := f) HOk.out HUa.out HOp.out hsm hf)
 have HCnt : Hid (m.fl.cnt (ofN (objSize p d : Nat)) a = 0) := LH (by rw [HOk.out.cells _ _ (ofN_lt hsm), if_neg]; rintro ⟨_, e⟩; rw [HUa.out] at e; cases e)
 have hk := ofN_lt hsm
 rw [ofV_small _ hsm]
 dsimp only at HGone
 clear hsm
 generalize ofN (objSize p d : Nat) = k at *
 have c3 := HA3.out.c3
 have HDr := LH (adrop_any HA3.out a)
 have HHas : Hid (m.fl.has k a = false) := LH ((m.fl.has_not k a).2 HCnt.out)
 go_wp2_with fail
 refine HDr.out.mono ?_
 rintro e w4 ⟨rfl, hg4⟩
 obtain ⟨R4, ha4, ht4, hr4⟩ := hg4
 have HA4 := LH ha4
 have HT4 := LH ht4
 have HR4 := LH hr4
 have c4 := ha4.c4
 change w4.cell? ⟨A.a, 4, none⟩ = some (.pointer (some ⟨A.f, 0, none⟩)) at c4
 clear ha4 ht4 hr4 c3 HDr
 have HOk4 : Hid (m.bm.dev.ok (N + 500000)) := LH (HON.out.mono (by omega))
 by_cases hmu : mu < 0 ∨ 4 ≤ mu
 ·have HFin := LH (HGone.out (m.fl.pushed k a) (fun j y => FL.pushed_cnt _ _ _ _ _))
  have HPu := LH (apush_any HA4.out (HUp.out.mono (by omega)) k a hk)
  rw [HHas.out] at HPu
  clear HGone
  rcases hmu with hmu | hmu
  ·go_wp2_with fail
   refine HPu.out.mono ?_
   rintro e w5 ⟨rfl, hg5⟩
   have HG5 := LH (AlGo.ahead HW3.out (AlGo.trans HT4.out HR4.out hg5))
   clear hg5
   go_wp2_with fail
   exact HP2.out a _ _ rfl HUa.out HFin.out HOk4.out (HG5.out.mono (by omega))
  ·have hmu0 : 0 ≤ mu := by omega
   go_wp2_with fail
   refine HPu.out.mono ?_
   rintro e w5 ⟨rfl, hg5⟩
   have HG5 := LH (AlGo.ahead HW3.out (AlGo.trans HT4.out HR4.out hg5))
   clear hg5
   go_wp2_with fail
   exact HP2.out a _ _ rfl HUa.out HFin.out HOk4.out (HG5.out.mono (by omega))
 ·have hmu0 : 0 ≤ mu := by omega
  have hmu4 : mu < 4 := by omega
  obtain ⟨mn, rfl⟩ := Int.eq_ofNat_of_zero_le hmu0
  have hmn : mn < 4 := by omega
  have HFin := LH (HGone.out (m.fl.put mn k a) (fun j y => FL.put_cnt _ hmn _ _ _ _))
  have HPu := LH (aput_any HA4.out (HUp.out.mono (by omega)) (by omega) mn k a hmn hk)
  rw [HHas.out] at HPu
  clear HGone hmu
  go_wp2_with fail
  refine HPu.out.mono ?_
  rintro e w5 ⟨rfl, hg5⟩
  have HG5 := LH (AlGo.ahead HW3.out (AlGo.trans HT4.out HR4.out hg5))
  clear hg5
  go_wp2_with fail
  exact HP2.out a _ _ rfl HUa.out HFin.out HOk4.out (HG5.out.mono (by omega))
def BetwPost (w : World) (l : List Bool) (fr to_ : Nat) : Ending → World → Prop := fun e w' => w = w' ∧ ∃ c : Nat, e = .returned (.int .i64 (c : Int)) ∧ c ≤ 1000000 ∧ (c = 0 ↔ ∀ i, fr ≤ i → i < to_ → l.getD i false = false)
def betwM (L : Nat) (av ov : Value) : Nat := match ov with | .bool true => L + 1 - (intOf av).toNat | _ => 0
theorem betwM_next {l : List Bool} {s i : Nat} (hi : i < l.length) (h : i < s) {av ov : Value} (hv : nextV (nextB l s) = .tuple #[av, ov]) : betwM l.length av ov < l.length + 1 - i := by
 cases hn : nextB l s with
 | none =>
  rw [hn] at hv
  unfold nextV at hv
  injection hv with h1
  have e2 := congrArg (fun a => a[1]?) h1
  simp at e2
  subst e2
  show 0 < _
  omega
 | some j =>
  rw [hn] at hv
  unfold nextV at hv
  injection hv with h1
  have e1 := congrArg (fun a => a[0]?) h1
  have e2 := congrArg (fun a => a[1]?) h1
  simp at e1 e2
  subst e1 e2
  have := (nextB_is hn).1
  have h3 := (nextB_is hn).2.2.1
  show l.length + 1 - (Int.toNat (j : Int)) < _
  rw [Int.toNat_natCast]
  omega
set_option maxHeartbeats 1000000 in
theorem sbetween_any {w : World} {X : SetF} {l : List Bool} (h : SetAt w X l) (hl : l.length ≤ 900000) (fr to_ : Nat) (hfr : fr ≤ 1000000000) :
  Calls Tryz.prog 251 #[vset X, .int .i64 (fr : Int), .int .i64 (to_ : Int)] w (BetwPost w l fr to_) := by
 have HS := LH h
 have HN := LH (fun a => snext_any h a)
 have HP : Hid (∀ c : Nat, c ≤ 1000000 → (c = 0 ↔ ∀ i, fr ≤ i → i < to_ → l.getD i false = false) → BetwPost w l fr to_ (.returned (.int .i64 (c : Int))) w) := LH (fun c h1 h2 => ⟨rfl, c, rfl, h1, h2⟩)
 generalize BetwPost w l fr to_ = Post at *
 clear h
 have hv : ∀ o, ∃ av ov, nextV o = .tuple #[av, ov] := fun o => by cases o <;> exact ⟨_, _, rfl⟩
 have HN0 := LH (HN.out (fr : Int))
 rw [Int.toNat_natCast] at HN0
 obtain ⟨av0, ov0, hv0⟩ := hv (nextB l fr)
 rw [hv0] at HN0
 have HV0 := LH hv0
 clear hv0
 go_enter Tryz.func251, Tryz.ntmps251
 go_wp2_with fail
 refine HN0.out.mono ?_
 rintro e w1 ⟨rfl, rfl⟩
 go_wp2_with fail
 go_loopw [7, 8, 9] (fun nv av ov wr => ∃ (c s : Nat), nv = .int .i64 (c : Int) ∧ c ≤ l.length ∧ c ≤ s ∧ Hid (nextV (nextB l s) = .tuple #[av, ov]) ∧ Hid (w = wr) ∧ Hid ((c = 0 ∧ s = fr) ∨ (1 ≤ c ∧ ∃ i, fr ≤ i ∧ i < to_ ∧ l.getD i false = true)) ∧ Hid (fr ≤ s)) (fun _ av ov _ => betwM l.length av ov)
 case atStart => exact ⟨0, fr, rfl, by omega, by omega, HV0, LH rfl, LH (.inl ⟨rfl, rfl⟩), LH (Nat.le_refl _)⟩
 case round =>
  obtain ⟨c, s, rfl, hc, hcs, hnv, hw, hst, hfs⟩ := hrel
  cases hnx : nextB l s with
  | none =>
   have h1 := hnv.out
   rw [hnx] at h1
   unfold nextV at h1
   injection h1 with h1
   have e1 := congrArg (fun a => a[0]?) h1
   have e2 := congrArg (fun a => a[1]?) h1
   simp at e1 e2
   subst e1 e2
   have HFin : Hid (c = 0 ↔ ∀ i, fr ≤ i → i < to_ → l.getD i false = false) := LH (by
    rcases hst.out with ⟨c0, rfl⟩ | ⟨c1, i, i1, i2, i3⟩
    ·exact ⟨fun _ i i1 _ => nextB_not hnx i i1, fun _ => c0⟩
    ·exact ⟨fun h => by omega, fun h => by rw [h i i1 i2] at i3; cases i3⟩)
   have HFin2 := LH (HP.out c (by omega) HFin.out)
   obtain rfl := hw.out
   clear hnx h1
   go_wp2_with fail
   exact HFin2.out
  | some i =>
   have h1 := hnv.out
   rw [hnx] at h1
   unfold nextV at h1
   injection h1 with h1
   have e1 := congrArg (fun a => a[0]?) h1
   have e2 := congrArg (fun a => a[1]?) h1
   simp at e1 e2
   subst e1 e2
   obtain ⟨k1, k2, k3, k4⟩ := nextB_is hnx
   obtain rfl := hw.out
   have hfsn := hfs.out
   clear hnx h1
   by_cases hit : i < to_
   case neg =>
    have hitI : ¬ (i : Int) < (to_ : Int) := by omega
    have HFin : Hid (c = 0 ↔ ∀ j, fr ≤ j → j < to_ → l.getD j false = false) := LH (by
     rcases hst.out with ⟨c0, rfl⟩ | ⟨c1, j, i1, i2, i3⟩
     ·exact ⟨fun _ j j1 j2 => k4 j j1 (by omega), fun _ => c0⟩
     ·exact ⟨fun h => by omega, fun h => by rw [h j i1 i2] at i3; cases i3⟩)
    have HFin2 := LH (HP.out c (by omega) HFin.out)
    clear k4 hst HFin
    go_wp2_with fail
    exact HFin2.out
   case pos =>
   have hitI : (i : Int) < (to_ : Int) := by omega
   have HNi := LH (HN.out ((i : Int) + 1))
   rw [show ((i : Int) + 1).toNat = i + 1 by omega] at HNi
   obtain ⟨av1, ov1, hv1⟩ := hv (nextB l (i + 1))
   rw [hv1] at HNi
   have HV1 := LH hv1
   have HM1 := LH (betwM_next k3 (by omega : i < i + 1) hv1)
   have HS1 : Hid ((c + 1 = 0 ∧ i + 1 = fr) ∨ (1 ≤ c + 1 ∧ ∃ i, fr ≤ i ∧ i < to_ ∧ l.getD i false = true)) := LH (.inr ⟨by omega, i, by omega, hit, k2⟩)
   have hc1 : Hid (c + 1 ≤ l.length ∧ c + 1 ≤ i + 1) := LH ⟨by omega, by omega⟩
   clear hv1 k4 k2
   go_wp2_with fail
   refine HNi.out.mono ?_
   rintro e w2 ⟨rfl, rfl⟩
   go_wp2_with fail
   go_roundw
   case rel => exact ⟨c + 1, i + 1, vint (by omega), hc1.out.1, hc1.out.2, HV1, LH trivial, HS1, LH (by omega)⟩
   case measure =>
    show betwM _ _ _ < l.length + 1 - (Int.toNat (i : Int))
    rw [Int.toNat_natCast]
    exact HM1.out
theorem aremove_any {w : World} {A : AF} {n B : Nat} {m : Al} (h : AlAt w A n B m) (hL : m.fl.upto 900000) (hn : n < 1000000000000) (k lo hi : Nat) (hk : k < 32) :
  Calls Tryz.prog 252 #[.pointer (some ⟨A.f, 0, none⟩), .int .i64 (k : Int), .int .i64 (lo : Int), .int .i64 (hi : Int)] w fun e w' => (∃ x, e = .returned (.int .i64 x)) ∧ AlGo w w' A (n + 4) B ⟨m.bm, m.used, m.fl.remove k lo hi⟩ := by
 refine (fremove_any h.free hL hn k lo hi hk).mono ?_
 rintro e w' ⟨he, hg⟩
 exact ⟨he, h.setFree (by omega) hg⟩
def TrimOk (m : Al) (b : Int) : Prop := (hdGet m.bm.list b).k = 1 ∧ ∀ x : Nat, ((x / 512 : Nat) : Int) = b → m.used.getD x false = false
def TrimPost (w : World) (A : AF) (n B N : Nat) (m : Al) (b : Int) : Ending → World → Prop := fun e w' =>
 (¬ TrimOk m b ∧ e = .returned (.tuple #[.bool false, .int .i64 0]) ∧ AlGo w w' A n B m) ∨
 (∃ (bn : Nat) (m' : Al), b = (bn : Int) ∧ 1 ≤ bn ∧ bn < B ∧ TrimOk m b ∧ e = .returned (.tuple #[.bool true, .int .i64 0]) ∧ Trimmed B m m' bn ∧ m'.bm.dev.ok (N + 500000) ∧ AlGo w w' A n B m')
set_option maxHeartbeats 4000000 in
set_option maxRecDepth 20000 in
theorem atrim_any {w : World} {A : AF} {n B : Nat} {m : Al} (h : AlAt w A n B m) (hok : AlOk B m) (hB : B ≤ 200) (hn : n < 900000000000) {N : Nat} (hN : N ≤ 900000000) (ho : m.bm.dev.ok N) (b : Int) :
  Calls Tryz.prog 174 #[valloc A, .int .i64 b] w (TrimPost w A (n + 5) B N m b) := by
 have HA := LH h
 have HOk := LH hok
 have HON := LH ho
 have HUp := LH hok.upto
 have HGet := LH (tget_any (h.man.tab.at (MF.notHot (MF.apart h.man.nd).t).1) b (by rw [hok.bm.lenL]; omega))
 have HP1 : Hid (∀ w', ¬ TrimOk m b → AlGo w w' A (n + 5) B m → TrimPost w A (n + 5) B N m b (.returned (.tuple #[.bool false, .int .i64 0])) w') := LH (fun w' h1 h2 => .inl ⟨h1, rfl, h2⟩)
 have HP2 : Hid (∀ (bn : Nat) m' w', b = (bn : Int) → 1 ≤ bn → bn < B → TrimOk m b → Trimmed B m m' bn → m'.bm.dev.ok (N + 500000) → AlGo w w' A (n + 5) B m' → TrimPost w A (n + 5) B N m b (.returned (.tuple #[.bool true, .int .i64 0])) w') := LH (fun bn m' w' h1 h2 h3 h4 h5 h6 h7 => .inr ⟨bn, m', h1, h2, h3, h4, rfl, h5, h6, h7⟩)
 generalize TrimPost w A (n + 5) B N m b = Post at *
 have c0 := h.c0
 have c3 := h.man.c0
 clear h hok ho
 obtain ⟨hk0, hc0, hl0, he⟩ : ∃ hk0 hc0 hl0, hdGet m.bm.list b = ⟨hk0, hc0, hl0⟩ := ⟨_, _, _, rfl⟩
 have HE := LH he
 unfold Hd.val at HGet
 rw [he] at HGet
 dsimp only at HGet
 clear he
 go_enter Tryz.func174, Tryz.ntmps174
 go_wp2_with fail
 refine HGet.out.mono ?_
 rintro e w1 ⟨rfl, hb1⟩
 have HM := LH (Mem.one w1 #[.int .i64 hk0, .int .i64 hc0, .int .i64 hl0] 103)
 have HA1 := LH (HA.out.below hb1)
 have HW1 := LH hb1
 clear hb1 HGet c0 c3
 go_upto_region 2 with fail
 obtain ⟨q, hq⟩ : ∃ q, q = w1.heap.size := ⟨_, rfl⟩
 rw [← hq] at HM ⊢
 have HA2 := LH (HA1.out.below HM.out.below)
 have HW2 := LH (HW1.out.trans (HM.out.below.mono HW1.out.size))
 have HQn : Hid (∀ k ∈ A.list, k ≠ q) := LH (fun k hk e => by have := HA1.out.mem k hk; omega)
 generalize w1.alloc _ = w2 at *
 clear hq
 have c2 := HA2.out.c2
 have HFi := LH (fun w => gfirst_any B (by omega) b w)
 go_wp2_with fail
 refine (HFi.out _).mono ?_
 rintro e w3 ⟨rfl, hb3⟩
 have HM3 := LH (HM.out.later hb3)
 have HA3 := LH (HA2.out.below hb3)
 have HW3 := LH (HW2.out.trans (hb3.mono HW2.out.size))
 have d0 := HM3.out.cell 0 0 rfl rfl
 clear hb3 c2 HFi
 by_cases hk1 : hk0 = 1
 case neg =>
  have HNo : Hid (¬ TrimOk m b) := LH (fun h => hk1 (by have := h.1; rw [HE.out] at this; exact this))
  go_wp2_with fail
  exact HP1.out _ HNo.out (AlGo.ahead HW3.out ((AlGo.refl HA3.out).mono (by omega)))
 subst hk1
 obtain ⟨bn, hbn, hbl⟩ : ∃ bn : Nat, b = (bn : Int) ∧ 1 ≤ bn ∧ bn < B := by
  have h1 := HE.out
  unfold hdGet at h1
  split at h1
  ·have := congrArg Hd.k h1; simp at this
  ·rename_i h0
   rw [HOk.out.bm.lenL] at h0
   exact ⟨b.toNat, by omega, by omega, by omega⟩
 obtain ⟨hb1, hbB⟩ := hbl
 subst hbn
 have HL : Hid (m.bm.list.getD bn default = ⟨1, hc0, hl0⟩) := LH (by rw [← hdGet_at HOk.out.bm hb1 hbB]; exact HE.out)
 obtain ⟨cn, hcn, hc32, hl00⟩ : ∃ cn : Nat, hc0 = (cn : Int) ∧ cn < 32 ∧ hl0 = 0 := by
  have hr := of_decide_eq_true (HOk.out.bm.right bn hbB)
  rw [HL.out] at hr
  unfold HdRight at hr
  dsimp only at hr
  exact ⟨hc0.toNat, by omega, by omega, by omega⟩
 subst hcn hl00
 have hfo : firstOf (B : Int) (bn : Int) = ((512 * bn : Nat) : Int) := by unfold firstOf; rw [if_neg (by omega)]; omega
 rw [hfo]
 clear hfo
 have HBw := LH (sbetween_any HA3.out.set (by rw [HOk.out.lenU]; omega) (512 * bn) (512 * bn + 512) (by omega))
 obtain ⟨fr, hfr⟩ : ∃ fr, fr = 512 * bn := ⟨_, rfl⟩
 rw [← hfr] at HBw ⊢
 have hfr2 : Hid (((fr : Int) + 512) = ((fr + 512 : Nat) : Int)) := LH (by omega)
 have hfrl : fr ≤ 200000 := by omega
 have HFr := LH hfr
 have c3 := HA3.out.c3
 clear hfr
 go_wp2_with fail
 rw [hfr2.out]
 refine HBw.out.mono ?_
 rintro e w4 ⟨rfl, c, rfl, hcl, hciff⟩
 have HCi := LH hciff
 clear hciff HBw
 by_cases hc : c = 0
 case neg =>
  have HNo : Hid (¬ TrimOk m (bn : Int)) := LH (fun h => hc (HCi.out.2 (fun i h1 h2 => h.2 i (by have := HFr.out; omega))))
  have hcp : (0 : Int) < (c : Int) := by omega
  go_wp2_with fail
  exact HP1.out _ HNo.out (AlGo.ahead HW3.out ((AlGo.refl HA3.out).mono (by omega)))
 subst hc
 have HYes : Hid (TrimOk m (bn : Int)) := LH ⟨by rw [HE.out], fun x hx => HCi.out.1 rfl x (by have := HFr.out; omega) (by have := HFr.out; omega)⟩
 obtain ⟨hre, htr⟩ := trim_done HOk.out hB hb1 hbB hc32 HL.out (fun x hx => HYes.out.2 x (by rw [hx]))
 rw [← HFr.out] at htr
 have HRe := LH hre
 have HTr := LH htr
 have HOkN2 : Hid ((m.bm.release (bn : Int)).bm.dev.ok (N + 500000)) := LH (release_okN HOk.out.bm.clean.inv HON.out (by rw [HOk.out.bm.lenL]; omega) _)
 have HLc : Hid ((m.bm.release (bn : Int)).bm.dev.cache.length = m.bm.dev.cache.length) := LH (by rw [htr.ok.len, HOk.out.len])
 clear hre htr HCi c3
 go_upto_region 5 with fail
 have r0 := fun x => later_cell HA3.out.c4 x
 have r1 := fun x => later_cell (HM3.out.cell 0 1 rfl rfl) x
 refine wp_region_seg (C := fun w' => ∃ x : Later (w3), w' = x.val) [.fl [0, 1, 2, 3, 4, 5, 6, 7, 8], .sq [9] false] (by kernel_rfl) (by kernel_rfl) (by intro c a d v w h; cases d <;> exact h) ?_
 simp only [segs, picks, List.getElem?_cons_succ, List.getElem?_cons_zero]
 have hC1 := later_drew (w3)
 refine wpSeg_fl hC1 ?_
 repeat (first | go_big_quiet_step (fail) | quiet_step (fail))
 refine wpQuiet_nil ?_
 clear r0 r1
 have HD4 := LH (later_below hC1)
 generalize w3.drew = w4 at *
 have HA4 := LH (HA3.out.below HD4.out)
 have HW4 := LH (HW3.out.trans (HD4.out.mono HW3.out.size))
 have HRm := LH (aremove_any HA4.out (HUp.out.mono (by omega)) (by omega) cn fr (fr + 512) hc32)
 clear hC1
 refine wpSeg_last ?_
 go_wp2_with fail
 rw [hfr2.out]
 refine HRm.out.mono ?_
 rintro e w5 ⟨⟨rv, rfl⟩, hg5⟩
 obtain ⟨R5, ha5, ht5, hr5⟩ := hg5
 have HA5 := LH ha5
 have HT5 := LH ht5
 have HR5 := LH hr5
 have c0 := ha5.c0
 change w5.cell? ⟨A.a, 0, none⟩ = some (.pointer (some ⟨A.X.m, 0, none⟩)) at c0
 have HRl := LH (brelease_any (X := A.X) HA5.out.man (by omega) (by omega) (N := N) (by omega) HON.out HOk.out.bm.clean.inv (bm_smallL HOk.out.bm) (bn : Int))
 clear ha5 ht5 hr5 HRm
 generalize m.bm.release (bn : Int) = rl at *
 obtain ⟨bm', b', er⟩ := rl
 dsimp only at HRe HTr HOkN2 HLc
 obtain rfl := HRe.out
 go_wp2_with fail
 refine HRl.out.mono ?_
 rintro e w6 ⟨rfl, hm6, ht6⟩
 have HG6 := LH (AlGo.ahead HW4.out (AlGo.trans HT5.out HR5.out (HA5.out.setMan (by omega) hm6 ht6 HLc.out)))
 clear hm6 ht6 HRl c0
 dsimp only
 go_wp2_with fail
 exact HP2.out bn _ _ rfl hb1 hbB HYes.out HTr.out HOkN2.out (HG6.out.mono (by omega))
end Go.Proofs.YtpopbfagliagnaaGreat
namespace Go.Proofs.YtpopbfagliagnaaGreat
open Go.RowKit
theorem dev0_ok {B : Nat} (hB2 : 2 ≤ B) (hB : B ≤ 100) : (dev0 B).ok 201000 := (fmt_formed hB2 hB).ok
section
variable {w wr w' : World} {Q Q' : List Nat} {A : AF} {n N N' : Nat} {m m' : Al} {v : Value} {xs : List Nat} {K : MkF} {M M' : Mk}
end
end Go.Proofs.YtpopbfagliagnaaGreat
namespace Go.Proofs.YtpopbfagliagnaaGreat
open Go.RowKit Go.Maps
theorem contains_take_succ (xs : List Nat) (y k x : Nat) (hx : xs[k]? = some x) : (xs.take (k + 1)).contains y = ((xs.take k).contains y || (x == y)) := by
 have h1 := (List.getElem?_eq_some_iff.1 hx).1
 rw [List.take_succ_eq_append_getElem h1]
 have h2 : xs[k] = x := (List.getElem?_eq_some_iff.1 hx).2
 rw [h2]
 rw [Bool.eq_iff_iff]
 simp
 constructor
 ·rintro (h | h)
  ·exact .inl h
  ·exact .inr h.symm
 ·rintro (h | h)
  ·exact .inl h
  ·exact .inr h.symm
end Go.Proofs.YtpopbfagliagnaaGreat
namespace Go.Proofs.YtpopbfagliagnaaGreat
open Go.RowKit
theorem cells_step (x n : Nat) (hx : 2 ≤ x) : (n + 1) * x ≤ 512 ↔ n < 512 / x := by
 rw [← Nat.succ_le_iff, Nat.le_div_iff_mul_le (by omega)]
set_option maxHeartbeats 400000 in
theorem rccells_any (k : Int) (w : World) : Calls Tryz.prog 127 #[.int .i64 k] w fun e w' => e = .returned (.int .i64 (clsCells k : Nat)) ∧ Below w.heap.size w w' := by
 have hle := clsWords_le k
 have HC : Hid (clsCells k = 512 / clsWords k) := LH rfl
 have HP : Hid (clsWords k = 0 ∨ 2 ≤ clsWords k) := by
  apply LH
  by_cases h : 0 ≤ k ∧ k < 32
  ·exact .inr (clsWords_pos k h)
  ·left; unfold clsWords; rw [if_neg h]
 have CW := LH (rcwords_any k)
 generalize clsWords k = x at *
 by_cases h0 : x = 0
 ·subst h0
  go_enter Tryz.func127, Tryz.ntmps127
  go_wp2_with fail
  refine wp_loop_rounds 1 ?_
  rw [rounds_succ]
  go_wp2_with fail
  refine (CW.out _).mono ?_
  rintro e w1 ⟨rfl, hb⟩
  go_wp2_with fail
  go_ret
  exact ⟨ret_int (by rw [HC.out]; rfl), hb⟩
 ·have hx2 : 2 ≤ x := by rcases HP.out with h | h <;> omega
  clear h0
  go_enter Tryz.func127, Tryz.ntmps127
  go_wp2_with fail
  go_loopw [3] (fun i wr => ∃ n : Nat, n ≤ 512 ∧ i = .int .i64 n ∧ Hid (n ≤ 512 / x) ∧ Below w.heap.size w wr) (fun i _ => 512 - (intOf i).toNat)
  case atStart => exact ⟨0, by omega, rfl, LH (Nat.zero_le _), Below.refl _ _⟩
  case round =>
   obtain ⟨n, hn, rfl, hd, hb⟩ := hrel
   have HS := LH (cells_step x n hx2)
   have HD : Hid (512 / x ≤ 256) := LH (by exact Nat.div_le_div_left (a := 512) hx2 (by omega))
   have hm0 : 0 ≤ ((n : Int) + 1) * (x : Int) := Int.mul_nonneg (by omega) (by omega)
   have hm1 : ((n : Int) + 1) * (x : Int) ≤ 513 * 256 := Int.mul_le_mul (by omega) (by omega) (by omega) (by omega)
   have he : ((n : Int) + 1) * (x : Int) = (((n + 1) * x : Nat) : Int) := by simp
   have HE := LH he
   clear he
   go_wp2_with fail
   refine (CW.out _).mono ?_
   rintro e w1 ⟨rfl, hb1⟩
   have hb1' := hb.trans (hb1.mono hb.size)
   go_wp2_with fail
   refine (CW.out _).mono ?_
   rintro e w2 ⟨rfl, hb2⟩
   have hb2' := hb1'.trans (hb2.mono hb1'.size)
   clear hb1 hb2
   by_cases hc : ((n : Int) + 1) * (x : Int) ≤ 512
   ·have hd' : decide (((n : Int) + 1) * (x : Int) ≤ 512) = true := by simp [hc]
    have hlt : n < 512 / x := HS.out.1 (by have := HE.out; omega)
    have hn2 : n + 1 ≤ 512 := by have := HD.out; omega
    have HL := LH hlt
    clear hlt
    go_wp2_with fail
    exact ⟨⟨n + 1, hn2, vint (by omega), LH HL.out, hb2'⟩, by simp [intOf]; omega⟩
   ·have hd' : decide (((n : Int) + 1) * (x : Int) ≤ 512) = false := by simp [hc]
    have HL : Hid (n = 512 / x) := LH (by have h1 := hd.out; have h2 := HS.out; have h3 := HE.out; omega)
    go_wp2_with fail
    go_ret
    exact ⟨ret_int (by rw [HC.out, ← HL.out]), hb2'⟩
set_option maxHeartbeats 400000 in
theorem rosize_any (p d : Int) (w : World) : Calls Tryz.prog 88 #[.agg #[.int .i64 p, .int .i64 d]] w fun e w' => e = .returned (.int .i64 (objSize p d : Nat)) ∧ Below w.heap.size w w' := by
 have HB := LH (below_alloc w)
 by_cases h1 : p < 0
 ·have HS : Hid (objSize p d = 0) := LH (by unfold objSize; rw [if_pos (by omega)])
  go_enter Tryz.func88, Tryz.ntmps88
  go_wp2_with fail
  go_ret
  exact ⟨ret_int (by rw [HS.out]; rfl), HB.out _⟩
 by_cases h2 : 63 < p
 ·have HS : Hid (objSize p d = 0) := LH (by unfold objSize; rw [if_pos (by omega)])
  go_enter Tryz.func88, Tryz.ntmps88
  go_wp2_with fail
  go_ret
  exact ⟨ret_int (by rw [HS.out]; rfl), HB.out _⟩
 by_cases h3 : d < 0
 ·have HS : Hid (objSize p d = 0) := LH (by unfold objSize; rw [if_pos (by omega)])
  go_enter Tryz.func88, Tryz.ntmps88
  go_wp2_with fail
  go_ret
  exact ⟨ret_int (by rw [HS.out]; rfl), HB.out _⟩
 by_cases h4 : 16384 < d
 ·have HS : Hid (objSize p d = 0) := LH (by unfold objSize; rw [if_pos (by omega)])
  go_enter Tryz.func88, Tryz.ntmps88
  go_wp2_with fail
  go_ret
  exact ⟨ret_int (by rw [HS.out]; rfl), HB.out _⟩
 have HS : Hid (((objSize p d : Nat) : Int) = 1 + p + d) := LH (by unfold objSize; rw [if_neg (by omega)]; omega)
 go_enter Tryz.func88, Tryz.ntmps88
 go_wp2_with fail
 go_ret
 exact ⟨ret_int HS.out.symm, HB.out _⟩
set_option maxHeartbeats 400000 in
theorem rclass_any (p d : Int) (w : World) : Calls Tryz.prog 256 #[.agg #[.int .i64 p, .int .i64 d]] w fun e w' => e = .returned (.int .i64 (rofN (objSize p d : Nat))) ∧ Below w.heap.size w w' := by
 have HB := LH (below_alloc w)
 go_enter Tryz.func256, Tryz.ntmps256
 go_wp2_with fail
 refine (rosize_any _ _ _).mono ?_
 rintro e w1 ⟨rfl, hb1⟩
 have hb1' := (HB.out _).trans (hb1.mono (HB.out _).size)
 go_wp2_with fail
 refine (rof_any _ _).mono ?_
 rintro e w2 ⟨rfl, hb2⟩
 have hb2' := hb1'.trans (hb2.mono hb1'.size)
 go_wp2_with fail
 go_ret
 exact ⟨rfl, hb2'⟩
set_option maxHeartbeats 400000 in
theorem need_any (n : Int) (w : World) (hn : n ≤ 1000000000) : Calls Tryz.prog 312 #[.int .i64 n] w fun e w' => e = .returned (.int .i64 (upN n 512)) ∧ w = w' := by
 by_cases h : n < 1
 ·have HU : Hid (upN n 512 = 0) := LH (by unfold upN; rw [if_pos (by omega)])
  go_enter Tryz.func312, Tryz.ntmps312
  go_wp2_with fail
  go_ret
  exact ⟨ret_int HU.out.symm, rfl⟩
 ·have HU := LH (up_ref n 512 (by omega) (by omega))
  by_cases c : n % 512 = 0
  ·have c1 : (n % 512 != 0) = false := by simp [c]
   have C := LH c
   clear c
   go_enter Tryz.func312, Tryz.ntmps312
   go_wp2_with fail
   go_ret
   exact ⟨ret_int (by rw [HU.out, if_pos C.out]), rfl⟩
  ·have c1 : (n % 512 != 0) = true := by simp [c]
   have C := LH c
   clear c
   go_enter Tryz.func312, Tryz.ntmps312
   go_wp2_with fail
   go_ret
   exact ⟨ret_int (by rw [HU.out, if_neg C.out]), rfl⟩
theorem rofN_small (n : Nat) (h : small n) : rofN (n : Int) = (ofN (n : Int) : Nat) := by unfold rofN; rw [if_pos (by unfold small at h; omega)]
theorem rofN_large (n : Nat) (h : ¬ small n) : rofN (n : Int) = -1 := by unfold rofN; rw [if_neg (by unfold small at h; omega)]
set_option maxHeartbeats 400000 in
theorem roblocks_any (p d : Int) (w : World) : Calls Tryz.prog 257 #[.agg #[.int .i64 p, .int .i64 d]] w fun e w' => e = .returned (.int .i64 (objBlocks (objSize p d) : Nat)) ∧ Below w.heap.size w w' := by
 have HB := LH (below_alloc w)
 have hle := objSize_le p d
 go_enter Tryz.func257, Tryz.ntmps257
 go_wp2_with fail
 refine (rclass_any _ _ _).mono ?_
 rintro e w1 ⟨rfl, hb1⟩
 have hb1' := (HB.out _).trans (hb1.mono (HB.out _).size)
 have hc0 : w1.cell? ⟨w.heap.size, 0, none⟩ = some (.int .i64 p) := by rw [hb1.cell (p := ⟨w.heap.size, 0, none⟩) (by simp)]; exact cell_alloc_new _ _ _ _ _ rfl
 have hc1 : w1.cell? ⟨w.heap.size, 1, none⟩ = some (.int .i64 d) := by rw [hb1.cell (p := ⟨w.heap.size, 1, none⟩) (by simp)]; exact cell_alloc_new _ _ _ _ _ rfl
 by_cases h : small (objSize p d)
 ·rw [rofN_small _ h]
  have HO : Hid (objBlocks (objSize p d) = 0) := LH (by unfold objBlocks; rw [if_pos h])
  clear h hb1
  go_wp2_with fail
  go_ret
  exact ⟨ret_int (by rw [HO.out]; rfl), hb1'⟩
 ·rw [rofN_large _ h]
  have HO : Hid (((objBlocks (objSize p d) : Nat) : Int) = upN (objSize p d : Nat) 512) := LH (by unfold objBlocks upN; rw [if_neg h]; split <;> omega)
  clear h hb1
  go_wp2_with fail
  refine (rosize_any _ _ _).mono ?_
  rintro e w2 ⟨rfl, hb2⟩
  have hb2' := hb1'.trans (hb2.mono hb1'.size)
  go_wp2_with fail
  refine (need_any _ _ (by omega)).mono ?_
  rintro e w3 ⟨rfl, rfl⟩
  rw [← HO.out]
  go_wp2_with fail
  go_ret
  exact ⟨rfl, hb2'⟩
end Go.Proofs.YtpopbfagliagnaaGreat
