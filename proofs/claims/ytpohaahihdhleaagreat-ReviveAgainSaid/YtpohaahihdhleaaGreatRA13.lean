/- Parts of the proof, one behind the other: Ql, Arr, Qf, Hread, Qk. -/
import Derived.Test.YtpohaahihdhleaaGreatRA12
import Derived.OpenShut
import Derived.Lib.SmallJoins
set_option linter.unusedVariables false
namespace Go.Proofs.YtpohaahihdhleaaGreat
open Go.RowKit
theorem rwordsO_any {w : World} {v : Value} {S : Dev} {m : Nat} (hm : S.dirty.length = m) (h : RAt w v m S.ref) {N : Nat} (hf : S.fit N) (x : Nat) :
  Calls Tryz.prog 31 #[v, .int .i64 (x : Int)] w (RList 40 (objW S x).length ((objW S x).map vu64) w) := by
 have := rwords15_any hm h hf (x : Int)
 unfold objW
 rw [wordsAt_length]
 exact this
set_option maxHeartbeats 16000000 in
set_option maxRecDepth 20000 in
theorem reviveAgain_any {w : World} {I : Img} (h : I.In w) (fu : Int) (hfu : 0 ≤ fu ∧ fu ≤ 255) (ca : Option Addr) (cm cc : Nat) (cs : List Nat) (hcm : cs.length = cm) (hcs : Cells w ca (cs.map vu8)) (hcu : ∀ z ∈ cs, z < 256) (hcl : cm ≤ maxLen) :
  Calls Tryz.prog 5 #[.agg I.cs, .int .u8 fu, .slice ca cm cc] w (Gives (.bool true) w) := by
 have HP : Hid (∀ w', Below w.heap.size w w' → Gives (.bool true) w (.returned (.bool true)) w') := LH (fun w' h => ⟨rfl, h⟩)
 generalize Gives (.bool true) w = Post at *
 unfold maxLen at hcl
 have HI := LH h
 have HCh := LH hcs
 have HCu := LH hcu
 have HCm := LH hcm
 obtain ⟨ha, nh, hc, ta, nt, tc, r0, r1, r2, r3, r4, r5, r6, r7, E0, E1, ua, nu, uc, hcs0, f1, f2, f3, f4⟩ := I.form
 have HCs := LH hcs0
 rw [hcs0]
 have HM := LH (Mem.one w #[.slice ha nh hc, .slice ta nt tc, .int .i64 r0, .int .i64 r1, .int .i64 r2, .int .i64 r3, .int .i64 r4, .int .i64 r5, .int .i64 r6, .int .i64 r7, .int .u8 (E0 : Int), .int .u8 (E1 : Int), .slice ua nu uc] 28)
 clear f1 f2 f3 f4 h hcs0 hcs hcu hcm
 go_enter Tryz.func5, Tryz.ntmps5
 go_upto_region 1 with fail
 obtain ⟨q, hq⟩ : ∃ q, q = w.heap.size := ⟨_, rfl⟩
 rw [← hq] at HM ⊢
 generalize w.alloc _ = w0 at *
 have HM0 : Hid (Mem w w0 [⟨q, 28, I.cs.toList, true⟩]) := LH (by rw [HCs.out]; simpa using HM.out)
 clear hq HM
 go_wp2_with fail
 refine (awake26_any w0).mono ?_
 rintro e w1 ⟨rfl, hb1⟩
 have HM1 := LH (HM0.out.later hb1)
 clear hb1 HM0
 go_wp2_with (refine wpList_load_box aggIm HM1.out 0 rfl rfl rfl rfl rfl ?_)
 refine (few26_any (HI.out.below HM1.out.below)).mono ?_
 rintro e w2 ⟨hb2, b, rfl, hsm⟩
 have HM2 := LH (HM1.out.later hb2)
 cases b
 case false =>
  have HF := LH (HP.out w2 HM2.out.below)
  go_wp2_with fail
  exact HF.out
 have hsm' := hsm rfl
 have HSm := LH hsm'
 have hn7 := hsm'.h7
 clear hb2 hsm HM1 hsm'
 by_cases h100 : 100 < cm
 ·have h100' : (100 : Int) < (cm : Int) := by omega
  have HF := LH (HP.out w2 HM2.out.below)
  go_wp2_with fail
  exact HF.out
 have h100' : decide ((100 : Int) < (cm : Int)) = false := by simp; omega
 have hcm9 : cm ≤ 100 := by omega
 go_wp2_with (refine wpList_load_box aggIm HM2.out 0 rfl rfl rfl rfl rfl ?_)
 refine (words26_any (HI.out.below HM2.out.below) HSm.out).mono ?_
 rintro e w3 ⟨hb3, g, ws, rfl, hws, hg, hrow⟩
 obtain ⟨n, hn⟩ : ∃ n, n = 1 + I.nh := ⟨_, rfl⟩
 rw [← hn] at hws ⊢
 have hn8 : n ≤ 8 := by omega
 obtain ⟨N, hN⟩ : ∃ N, N = 512 * n := ⟨_, rfl⟩
 obtain ⟨m, hm⟩ : ∃ m, m = 64 * n := ⟨_, rfl⟩
 rw [← hN] at hws ⊢
 have hm8 : (N + 7) / 8 = m := by omega
 have hNm : ws.length = 8 * m := by rw [hws.1]; omega
 have hmb : m ≤ 512 := by omega
 have hNb : N ≤ 4096 := by omega
 obtain ⟨p1, p2⟩ := fresh_pad ws m hNm
 have hwf := (fresh_inv hNm (by omega) hws.2).wf
 have HFt := LH (fresh_fit0 hwf)
 have HCl : Hid (Clr (freshDev ws m)) := LH (fresh_clr hNm (by omega) hws.2)
 have HLv : Hid ((freshDev ws m).live) := LH (fresh_live _ _)
 have HOk : Hid ((freshDev ws m).ok 0 ∧ ((freshDev ws m).arm fu).ok 300) := LH ⟨fresh_ok _ _ _, by
  unfold Dev.ok Dev.arm freshDev
  simp
  omega⟩
 have HLd := LH (fun w' (hr : RowAt w' g 40 (ws.map vu64)) => nload_any g 0 N ws hws.1 w' (fun i v hi => by rw [Nat.zero_add]; exact hr.cell hi) (by omega) hws.2)
 have HRl := LH (fun w' (hc : Cells w' (some ⟨g, 0, none⟩) (ws.map vu64)) => rload_at (some ⟨g, 0, none⟩) N N ws hws.1 w' hc (by omega) hws.2)
 rw [hm8, p2] at HLd
 rw [hm8, p1] at HRl
 have HB3 := LH (HM2.out.below.trans (hb3.mono HM2.out.below.size))
 have HR := LH hrow
 have hSm : (freshDev ws m).dirty.length = m := List.length_replicate
 have HSl : Hid ((freshDev ws m).cache.length = 8 * m) := LH hNm
 clear hb3 hws hg hrow hn hN hm hm8 hNm p1 p2 hwf HI HSm HM2 h100 h100'
 generalize freshDev ws m = S at *
 go_wp2_with fail
 refine (HRl.out w3 HR.out.cells).mono ?_
 rintro e w4 ⟨v, rfl, hra, _, hb4⟩
 obtain ⟨D, rfl⟩ := hra.agg
 have HA4 := LH hra
 have HArr := LH hra.arr
 have HB4 := LH (HB3.out.trans (hb4.mono HB3.out.size))
 have HR4 := LH (HR.out.keep (hb4.block g HR.out.lt))
 have HMz := LH (Mem.one w4 zeroD 38)
 clear hra hb4 HRl HB3 HR
 go_upto_region 7 with (refine wpList_store_mem aggRd HMz.out 0 rfl rfl rfl rfl rfl HArr.out.1 HArr.out.1.symm HArr.out.2 ?_; intro w5 h5 ht5; have H5 := LH h5; clear h5 ht5)
 obtain ⟨q8, hq8⟩ : ∃ q, q = w4.heap.size := ⟨_, rfl⟩
 rw [← hq8] at H5 ⊢
 have HM5 : Hid (Mem w4 w5 [⟨q8, 38, D.toList, true⟩]) := LH (by simpa using H5.out)
 clear hq8 H5 HMz
 go_wp2_with fail
 refine (HLd.out w5 (HR4.out.keep (HM5.out.below.block g HR4.out.lt))).mono ?_
 rintro e w6 ⟨F1, rfl, hF1, hd6, hb6⟩
 have HO6 := LH (rvopen_any hd6 HCl.out.1 HCl.out.2 (N := 0) (by omega) HOk.out.1 (by rw [HSl.out]; omega))
 have HF1 : Hid (∀ k ∈ F1.list, w4.heap.size ≤ k) := LH (fun k hk => Nat.le_trans HM5.out.below.size (hF1 k hk))
 have HB46 : Hid (Below w4.heap.size w4 w6) := LH (HM5.out.below.trans (hb6.mono HM5.out.below.size))
 have HX6 : Hid (RowX w6 ⟨q8, 38, D.toList, true⟩ ∧ w4.heap.size ≤ q8 ∧ q8 < w5.heap.size) := LH ⟨(HM5.out.later hb6).rows _ List.mem_cons_self, HM5.out.gbase 0 rfl, HM5.out.glt 0 rfl⟩
 have HF15 := LH hF1
 have HS56 : Hid (w5.heap.size ≤ w6.heap.size) := LH hb6.size
 clear hd6 hb6 hF1
 go_wp2_with fail
 refine HO6.out.mono ?_
 intro e w7 h7
 obtain ⟨ht7, C9, le, rfl, hc9, ho9, hcase⟩ := h7.any HCl.out HLv.out
 have HB47 : Hid (Below w4.heap.size w4 w7) := LH (HB46.out.trans (ht7.below HB46.out.size (fun k hk => HF1.out k hk)))
 have HX7 : Hid (RowX w7 ⟨q8, 38, D.toList, true⟩) := LH (HX6.out.1.keep (ht7.block q8 HX6.out.1.lt (fun hm => by have := HF15.out q8 hm; have := HX6.out.2.2; omega)))
 have HS57 : Hid (w5.heap.size ≤ w7.heap.size) := LH (Nat.le_trans HS56.out ht7.size)
 have HC9 := LH hc9
 have HO9 := LH ho9
 have HCase := LH hcase
 have HMz := LH (Mem.one w7 #[.int .i64 0, .int .u64 0, .int .i64 0, .pointer none, .pointer none, .slice none 0 0] 49)
 clear h7 ht7 hc9 ho9 hcase HO6 HB46 HM5
 go_upto_region 8 with (refine wpList_store_mem aggSt HMz.out 0 rfl rfl rfl rfl rfl HC9.out HC9.out.symm HO9.out ?_; intro w8 h8 ht8; have H8 := LH h8; clear h8 ht8)
 obtain ⟨q9, hq9⟩ : ∃ q, q = w7.heap.size := ⟨_, rfl⟩
 rw [← hq9] at H8 ⊢
 have HM8 : Hid (Mem w7 w8 [⟨q9, 49, C9.toList, true⟩]) := LH (by simpa using H8.out)
 have HR8 : Hid (RowAt w8 g 40 (ws.map vu64)) := LH ((HR4.out.keep (HB47.out.block g HR4.out.lt)).keep (HM8.out.below.block g (Nat.lt_of_lt_of_le HR4.out.lt HB47.out.size)))
 clear hq9 H8 HMz
 go_wp2_with fail
 refine (HLd.out w8 HR8.out).mono ?_
 rintro e w9 ⟨F2, rfl, hF2, hd9, hb9⟩
 have HD9 := LH hd9
 have HF2 : Hid (∀ k ∈ F2.list, w8.heap.size ≤ k) := LH hF2
 have HB9 : Hid (Below w8.heap.size w8 w9) := LH hb9
 clear hF2 hd9 hb9 HLd HR8
 go_wp2_with fail
 refine (darm_any HD9.out fu).mono ?_
 rintro e w10 ⟨rfl, hd10, ht10⟩
 have HUc := LH (HCl.out.arm fu)
 have HO10 := LH (rvopen_any hd10 HUc.out.1 HUc.out.2 (N := 300) (by omega) HOk.out.2 (by show S.cache.length ≤ 102400; rw [HSl.out]; omega))
 have HB10 : Hid (Below w8.heap.size w8 w10) := LH (HB9.out.trans (ht10.below HB9.out.size (fun k hk => HF2.out k (by simp [Foot.list] at hk ⊢; simp [hk]))))
 clear hd10 ht10 HD9 HB9
 go_wp2_with fail
 refine HO10.out.mono ?_
 intro e w11 h11
 obtain ⟨V, v11, rfl, ht11, hd11, hVi, hVl, hVc⟩ := h11.left HUc.out (S := S) rfl
 have HB11 : Hid (Below w8.heap.size w8 w11) := LH (HB10.out.trans (ht11.below HB10.out.size (fun k hk => HF2.out k hk)))
 have HD11 := LH hd11
 obtain ⟨k1, k2, k3, k4, k5⟩ := crash_clr hVi cs
 have HTc := LH k1
 have HTl := LH k2
 have HTk := LH k5
 have HTn : Hid ((V.crash cs).cache.length = 8 * m) := LH (by rw [k4, hVl]; exact HSl.out)
 have HLk := LH (crash_look HCl.out HUc.out rfl hVi hVl cs hVc)
 have HCh11 : Hid (Cells w11 ca (cs.map vu8)) := LH ((((HCh.out.below HB4.out (Nat.le_refl _)).below HB47.out (Nat.le_refl _)).below HM8.out.below (Nat.le_refl _)).below HB11.out (Nat.le_refl _))
 clear h11 ht11 hd11 hVi hVl hVc k1 k2 k3 k4 k5 HO10 HB10 HUc HOk
 go_wp2_with fail
 refine (crash_any HD11.out ca cm cc cs HCm.out HCh11.out HCu.out (by omega)).mono ?_
 rintro e w12 ⟨G, rfl, hG, hd12, hb12⟩
 have HO12 := LH (rvopen_any hd12 HTc.out.1 HTc.out.2 (N := 0) (by omega) (HTk.out 0) (by rw [HTn.out]; omega))
 have HB12 : Hid (Below w8.heap.size w8 w12) := LH (HB11.out.trans (hb12.mono HB11.out.size))
 have HG : Hid (∀ k ∈ G.list, w8.heap.size ≤ k) := LH (fun k hk => Nat.le_trans HB11.out.size (hG k hk))
 generalize V.crash cs = T at *
 clear hd12 hb12 hG HD11 HB11 HCh11
 go_wp2_with fail
 refine HO12.out.mono ?_
 intro e w13 h13
 obtain ⟨ht13, C13, lf, rfl, hc13, ho13, hcase3⟩ := h13.any HTc.out HTl.out
 have HB13 : Hid (Below w8.heap.size w8 w13) := LH (HB12.out.trans (ht13.below HB12.out.size (fun k hk => HG.out k hk)))
 have HC13 := LH hc13
 have HO13 := LH ho13
 have HCase3 := LH hcase3
 have HMz := LH (Mem.one w13 #[.int .i64 0, .int .u64 0, .int .i64 0, .pointer none, .pointer none, .slice none 0 0] 49)
 have hle : le = lf := by
  rcases HLk.out with ⟨a1, a2⟩ | ⟨a1, ys, _, _, a3⟩
  ·rcases HCase.out with ⟨_, b2⟩ | ⟨b1, _⟩
   ·rcases hcase3 with ⟨_, c2⟩ | ⟨c1, _⟩
    ·rw [b2, c2, a2]
    ·exact absurd (a2.symm.trans c1) a1
   ·exact absurd b1 a1
  ·rcases HCase.out with ⟨b1, _⟩ | ⟨_, b2, _⟩
   ·exact absurd a1 b1
   ·rcases hcase3 with ⟨c1, _⟩ | ⟨_, c2, _⟩
    ·exact absurd a3.look c1
    ·rw [b2, c2]
 clear h13 ht13 hc13 ho13 hcase3 HO12 HB12
 go_upto_region 13 with (refine wpList_store_mem aggSt HMz.out 0 rfl rfl rfl rfl rfl HC13.out HC13.out.symm HO13.out ?_; intro w14 h14 ht14; have H14 := LH h14; clear h14 ht14)
 obtain ⟨q13, hq13⟩ : ∃ q, q = w13.heap.size := ⟨_, rfl⟩
 rw [← hq13] at H14 ⊢
 have HM14 : Hid (Mem w13 w14 [⟨q13, 49, C13.toList, true⟩]) := LH (by simpa using H14.out)
 subst hle
 have hle2 : (le != le) = false := by simp
 have HBw : Hid (Below w.heap.size w w14) := LH (by
  have h1 := HB13.out.trans (HM14.out.below.mono HB13.out.size)
  have h2 := HM8.out.below.trans (h1.mono HM8.out.below.size)
  have h3 := HB47.out.trans (h2.mono HB47.out.size)
  exact HB4.out.trans (h3.mono HB4.out.size))
 clear hq13 H14 HMz
 by_cases hl0 : le = 0
 case neg =>
  have hl0' : (le != 0) = true := by simpa using hl0
  have HF := LH (HP.out w14 HBw.out)
  clear hl0
  go_wp2_with fail
  exact HF.out
 subst hl0
 obtain ⟨hS0, ys, A1, nn1, g1, m1, va1, vc1, T1, hso, hys, rfl, hop1⟩ : lookE S = 0 ∧ ∃ (ys : List Nat) (A : AF) (nn g : Nat) (m : Al) (va : Option Addr) (vc : Nat) (T : Dev), ys.Pairwise (· < ·) ∧ (∀ x, x ∈ ys ↔ Rch (okN S (lookL S)) (ptrN S) (rootL S) x) ∧
   C9 = #[.int .i64 ((supR S).1 : Int), vu64 (supR S).2.1, .int .i64 ((supR S).1 : Int), valloc A, .pointer (some ⟨g, 0, none⟩), .slice va ys.length vc] ∧ Opnd S T F1 w7 A nn g m va ys := by
  rcases HCase.out with ⟨b1, b2⟩ | ⟨b1, _, b3⟩
  ·exact absurd b2.symm b1
  ·exact ⟨b1, b3⟩
 obtain ⟨ysx, hsox, hysx, hag⟩ : ∃ ys : List Nat, ys.Pairwise (· < ·) ∧ (∀ x, x ∈ ys ↔ Rch (okN S (lookL S)) (ptrN S) (rootL S) x) ∧ Again S T ys := by
  rcases HLk.out with ⟨a1, _⟩ | ⟨_, a2⟩
  ·exact absurd hS0 a1
  ·exact a2
 obtain ⟨ys3, A3, nn3, g3, m3, va3, vc3, T3, hso3, hys3, rfl, hop3⟩ : ∃ (ys : List Nat) (A : AF) (nn g : Nat) (m : Al) (va : Option Addr) (vc : Nat) (T' : Dev), ys.Pairwise (· < ·) ∧ (∀ x, x ∈ ys ↔ Rch (okN T (lookL T)) (ptrN T) (rootL T) x) ∧
   C13 = #[.int .i64 ((supR T).1 : Int), vu64 (supR T).2.1, .int .i64 ((supR T).1 : Int), valloc A, .pointer (some ⟨g, 0, none⟩), .slice va ys.length vc] ∧ Opnd T T' G w13 A nn g m va ys := by
  rcases HCase3.out with ⟨c1, _⟩ | ⟨_, _, c3⟩
  ·exact absurd hag.look c1
  ·exact c3
 have e1 : ys = ysx := lt_same hso hsox (fun x => (hys x).trans (hysx x).symm)
 subst e1
 have e3 : ys = ys3 := lt_same hso hso3 (fun x => (hys x).trans ((hag.rch x).symm.trans (hys3 x).symm))
 subst e3
 rw [hag.sup] at HC13 HO13 HM14
 obtain ⟨h0, _, _, _⟩ := lookE_zero hS0
 have hsz := supR_ok h0
 have hrr := rootsN_ok (S := S) HFt.out.wf.u64C
 have hLl : (lookL S).length = (supR S).1 := by unfold lookL; exact hds_length _ _
 have hnd : ys.Nodup := hso.imp (fun h => Nat.ne_of_lt h)
 have hyl0 : ys.length ≤ 512 * (supR S).1 := by
  refine nodup_len _ _ (fun x hx => ?_) (nodup_count hnd)
  have := (okN_lt ((hys x).1 hx).ok').2
  rw [hLl] at this; exact this
 have HYb : Hid (∀ x ∈ ys, 512 ≤ x) := LH (fun x hx => (okN_lt ((hys x).1 hx).ok').1)
 have HB814 : Hid (Below w8.heap.size w8 w14) := LH (HB13.out.trans (HM14.out.below.mono HB13.out.size))
 have HB714 : Hid (Below w7.heap.size w7 w14) := LH (HM8.out.below.trans (HB814.out.mono HM8.out.below.size))
 have HP1 := LH (hop1.below HB714.out)
 have HP3 := LH (hop3.below HM14.out.below)
 have HL3 : Hid (m3.bm.list = keepL (lookL S) ys) := LH (hop3.list.trans hag.keep)
 have HU3 : Hid (m3.used = m1.used) := LH (by rw [hop3.used, hop1.used, HTn.out, HSl.out])
 have HR3 : Hid (RootsAt w14 g3 G (rootsN S).1 (rootsN S).2.1 (rootsN S).2.2.1) := LH (by have := (hop3.below HM14.out.below).roots; rw [hag.roots] at this; exact this)
 have HHi : Hid (∀ j, 512 ≤ j → T3.cache.getD j 0 = S.cache.getD j 0) := LH (fun j hj => (hop3.high j hj).trans (hag.high j hj))
 have HT3n : Hid (T3.cache.length = 8 * m) := LH (hop3.len.trans HTn.out)
 have hal3 := (hop3.below HM14.out.below).al
 rw [hag.sup] at hal3
 have HAl3 := LH hal3
 have HA14 := LH ((HA4.out.below HB47.out (Nat.le_refl _)).below HB714.out (Nat.le_refl _))
 have HMa : Hid (Mem w w14 [⟨q8, 38, D.toList, true⟩, ⟨q9, 49, [.int .i64 ((supR S).1 : Int), vu64 (supR S).2.1, .int .i64 ((supR S).1 : Int), valloc A1, .pointer (some ⟨g1, 0, none⟩), .slice va1 ys.length vc1], true⟩, ⟨q13, 49, [.int .i64 ((supR S).1 : Int), vu64 (supR S).2.1, .int .i64 ((supR S).1 : Int), valloc A3, .pointer (some ⟨g3, 0, none⟩), .slice va3 ys.length vc3], true⟩]) := LH (by
  have k8 := HX6.out.2
  have k5 := HS57.out
  have k9 := HM8.out.gbase 0 rfl
  have k9' := HM8.out.glt 0 rfl
  have k13 := HM14.out.gbase 0 rfl
  have k4 := HB4.out.size
  have k7 := HB47.out.size
  have k13' := HB13.out.size
  refine ⟨HBw.out, fun x hx => ?_, fun x hx => ?_, ?_⟩
  ·simp only [List.mem_cons, List.not_mem_nil, or_false] at hx
   rcases hx with rfl | rfl | rfl
   ·exact HX7.out.keep (HB714.out.block q8 HX7.out.lt)
   ·exact (HM8.out.rows _ List.mem_cons_self).keep (HB814.out.block q9 k9')
   ·exact HM14.out.rows _ List.mem_cons_self
  ·simp only [List.mem_cons, List.not_mem_nil, or_false] at hx
   rcases hx with rfl | rfl | rfl
   ·show w.heap.size ≤ q8; omega
   ·show w.heap.size ≤ q9; omega
   ·show w.heap.size ≤ q13; omega
  ·simp
   omega)
 have hrl := hrr.2.1
 have HL1 := LH hop1.list
 have HAl1 := LH HP1.out.al
 have HR1 := LH HP1.out.roots
 have HSz := LH hsz
 have HLl := LH hLl
 clear hS0 hso hys hop1 hsox hysx hag hso3 hys3 hop3 h0 hsz hrr hnd HCase HCase3 HLk HB814 HB714 HM8 HM14 HB13 hal3
 obtain ⟨KL, hK⟩ : ∃ KL, KL = keepL (lookL S) ys := ⟨_, rfl⟩
 have HKl : Hid (KL.length = (supR S).1) := LH (by rw [hK, keepL_len]; exact hLl)
 rw [← hK] at HL1 HL3
 have hnb : (supR S).1 ≤ 256 := HSz.out.2.1
 generalize (supR S).1 = nb at *
 generalize (supR S).2.1 = id at *
 generalize (rootsN S).1 = ep at *
 generalize (rootsN S).2.1 = rs at *
 generalize (rootsN S).2.2.1 = ri at *
 obtain ⟨vl, hvl⟩ : ∃ l, l = ys.length := ⟨_, rfl⟩
 rw [← hvl] at hyl0 HMa
 have HVl := LH hvl
 have hvl9 : vl ≤ 1000000 := by omega
 obtain ⟨us, hus⟩ : ∃ us, us = onesL m1.used := ⟨_, rfl⟩
 obtain ⟨ul, hul⟩ : ∃ l, l = us.length := ⟨_, rfl⟩
 have HUl := LH hul
 have HUs := LH hus
 have hul9 : ul ≤ 1000000 := by
  have h1 : (onesL m1.used).length ≤ 8 * m := by
   rw [onesL_length]
   refine Nat.le_trans (count_le_len _) ?_
   rw [HP1.out.used, marksOf_len, List.length_replicate, HSl.out]
   exact Nat.le_refl _
  rw [hul, hus]
  omega
 clear hK hLl hyl0 hvl hus hul
 have p3 := HMa.out.cell 1 3 rfl rfl
 have p4 := HMa.out.cell 1 4 rfl rfl
 have p5 := HMa.out.cell 1 5 rfl rfl
 have s3 := HMa.out.cell 2 3 rfl rfl
 have s4 := HMa.out.cell 2 4 rfl rfl
 have s5 := HMa.out.cell 2 5 rfl rfl
 have t1 := HAl1.out.c0
 have t3 := HAl3.out.c0
 have u1 : w14.cell? ⟨A1.X.m, 0, none⟩ = some (.pointer (some ⟨A1.X.t, 0, none⟩)) := cell_of_row _ _ 0 _ _ _ HAl1.out.man.head
 have u3 : w14.cell? ⟨A3.X.m, 0, none⟩ = some (.pointer (some ⟨A3.X.t, 0, none⟩)) := cell_of_row _ _ 0 _ _ _ HAl3.out.man.head
 have rp3 := fun x => later_cell p3 x
 have rp4 := fun x => later_cell p4 x
 have rp5 := fun x => later_cell p5 x
 have rs3 := fun x => later_cell s3 x
 have rs4 := fun x => later_cell s4 x
 have rs5 := fun x => later_cell s5 x
 have rt1 := fun x => later_cell t1 x
 have rt3 := fun x => later_cell t3 x
 have ru1 := fun x => later_cell u1 x
 have ru3 := fun x => later_cell u3 x
 have hgd2 := gsI8
 have heq2 := fun w' => equalI8 w' rs hrl
 unfold valloc at *
 clear p3 p4 p5 s3 s4 s5 t1 t3 u1 u3
 go_upto_region 17 with fail
 refine wp_region_seg (C := fun w' => ∃ x : Later (w14), w' = x.val) [.fl [0, 1, 2, 3], .sq [4, 5, 6] false, .fl [7, 8, 10, 11], .sq [9] true, .sq [12, 13, 14, 15] false, .fl [16, 17, 19, 20], .sq [18] true, .sq [21, 22, 23, 24, 25] false, .fl [26, 27, 28, 29, 30, 31, 32, 33, 36, 37, 38, 39, 40, 41, 42, 43], .sq [34] true, .sq [35] true, .sq [44, 45, 46, 47, 48] false] (by kernel_rfl) (by kernel_rfl) (by intro c a d v w h; cases d <;> exact h) ?_
 simp only [segs, picks, List.getElem?_cons_succ, List.getElem?_cons_zero]
 have hC1 := later_drew (w14)
 refine wpSeg_fl hC1 ?_
 repeat (first | go_big_quiet_step (fail) | quiet_step (fail))
 refine wpQuiet_nil ?_
 have HBd : Hid (Below w14.heap.size w14 w14.drew) := LH (later_below hC1)
 generalize w14.drew = wd at *
 refine wpSeg_sq (fun K hK => ?_)
 go_wp2_with fail
 refine (rints_same va1 va3 vl vc1 vc3 ys HVl.out.symm (HP1.out.live.below HBd.out (Nat.le_refl _)) (HP3.out.live.below HBd.out (Nat.le_refl _)) (by omega)).mono ?_
 rintro e w15 ⟨rfl, hb15⟩
 have hC2 := later_step hC1 hb15
 have HB15 : Hid (Below w14.heap.size w14 w15) := LH (later_below hC2)
 clear hb15
 go_wp2_with fail
 refine hK _ _ (fun h => nomatch h) ?_
 clear hK K
 refine wpSeg_fl hC2 ?_
 repeat (first | go_big_quiet_step (fail) | quiet_step (fail))
 refine wpQuiet_nil ?_
 refine wpSeg_sq (fun K hK => ?_)
 go_wp2_with fail
 refine (rtlasting_any (HR1.out.below HB15.out (Nat.le_refl _)) hrl).mono ?_
 rintro e w16 ⟨rfl, hb16⟩
 unfold arrI
 have hC3 := later_step hC2 hb16
 have HB16 : Hid (Below w14.heap.size w14 w16) := LH (later_below hC3)
 clear hb16
 go_wp2_with fail
 refine hK _ _ (fun _ => hC3) ?_
 clear hK K
 refine wpSeg_sq (fun K hK => ?_)
 go_wp2_with fail
 refine (rtlasting_any (HR3.out.below HB16.out (Nat.le_refl _)) hrl).mono ?_
 rintro e w17 ⟨rfl, hb17⟩
 unfold arrI
 have hC4 := later_step hC3 hb17
 have HB17 : Hid (Below w14.heap.size w14 w17) := LH (later_below hC4)
 clear hb17
 go_wp2_with fail
 refine hK _ _ (fun h => nomatch h) ?_
 clear hK K
 refine wpSeg_fl hC4 ?_
 repeat (first | go_big_quiet_step (fail) | quiet_step (fail))
 refine wpQuiet_nil ?_
 refine wpSeg_sq (fun K hK => ?_)
 go_wp2_with fail
 refine (aobjects_any (HAl1.out.below HB17.out)).mono ?_
 intro e w18 hp
 obtain ⟨au, cu, rfl, hcu, hb18, _⟩ := hp.own
 rw [← HUs.out] at hcu ⊢
 rw [← HUl.out]
 have HCu1 := LH hcu
 have hC5 := later_step hC4 hb18
 have HB18 : Hid (Below w14.heap.size w14 w18) := LH (later_below hC5)
 clear hb18 hp hcu
 go_wp2_with fail
 refine hK _ _ (fun _ => hC5) ?_
 clear hK K
 refine wpSeg_sq (fun K hK => ?_)
 go_wp2_with fail
 refine (aobjects_any (HAl3.out.below HB18.out)).mono ?_
 intro e w19 hp
 obtain ⟨au3, cu3, rfl, hcu, hb19, _⟩ := hp.own
 rw [HU3.out, ← HUs.out] at hcu ⊢
 rw [← HUl.out]
 have HCu3 := LH hcu
 have HCu2 := LH (HCu1.out.below hb19 (Nat.le_refl _))
 have hC6 := later_step hC5 hb19
 clear hb19 hp hcu HCu1
 go_wp2_with fail
 refine (rints_same au au3 ul cu cu3 us HUl.out.symm HCu2.out HCu3.out (by omega)).mono ?_
 rintro e w20 ⟨rfl, hb20⟩
 have hC7 := later_step hC6 hb20
 have HB20 : Hid (Below w14.heap.size w14 w20) := LH (later_below hC7)
 clear hb20
 go_wp2_with fail
 refine hK _ _ (fun h => nomatch h) ?_
 clear hK K
 refine wpSeg_fl hC7 ?_
 repeat (first | go_big_quiet_step (fail) | quiet_step (fail))
 refine wpQuiet_nil ?_
 refine wpSeg_sq (fun K hK => ?_)
 go_wp2_with fail
 refine (tall_any (HAl1.out.below HB20.out).man.tab (by omega)).mono ?_
 rintro e w21 ⟨qa, ka, rfl, _, hka, hra, hb21⟩
 rw [HL1.out] at hra
 have HRa := LH hra
 have hC8 := later_step hC7 hb21
 have HB21 : Hid (Below w14.heap.size w14 w21) := LH (later_below hC8)
 clear hra hb21
 go_wp2_with fail
 refine hK _ _ (fun _ => hC8) ?_
 clear hK K
 refine wpSeg_sq (fun K hK => ?_)
 go_wp2_with fail
 refine (refs_any (some ⟨qa, 0, none⟩) nb ka KL HKl.out w21 HRa.out.cells (by omega)).mono ?_
 rintro e w22 ⟨v, rfl, ho, hb22⟩
 obtain ⟨a22, c22, rfl, hcs22⟩ := cells_of_owned ho
 have HC22 := LH hcs22
 have hC9 := later_step hC8 hb22
 have HB22 : Hid (Below w14.heap.size w14 w22) := LH (later_below hC9)
 clear hcs22 ho hb22 HRa
 go_wp2_with fail
 refine hK _ _ (fun _ => hC9) ?_
 clear hK K
 clear hC1 hC2 hC3 hC4 hC5 hC6 hC7 hC8 hC9
 refine wpSeg_last ?_
 go_wp2_with fail
 refine (tall_any (HAl3.out.below HB22.out).man.tab (by omega)).mono ?_
 rintro e w23 ⟨qb, kb, rfl, _, hkb, hrb, hb23⟩
 rw [HL3.out] at hrb
 have HRb := LH hrb
 have HC23 := LH (HC22.out.below hb23 (Nat.le_refl _))
 have HB23 := LH (HB22.out.trans (hb23.mono HB22.out.size))
 clear hrb hb23 HC22
 go_wp2_with fail
 refine (refs_any (some ⟨qb, 0, none⟩) nb kb KL HKl.out w23 HRb.out.cells (by omega)).mono ?_
 rintro e w24 ⟨v, rfl, ho, hb24⟩
 obtain ⟨a24, c24, rfl, hcs24⟩ := cells_of_owned ho
 have HC24 := LH hcs24
 have HC23' := LH (HC23.out.below hb24 (Nat.le_refl _))
 have HB24 := LH (HB23.out.trans (hb24.mono HB23.out.size))
 clear hcs24 ho hb24 HC23 HRb
 go_wp2_with fail
 refine (rsame_any a22 a24 nb nb c22 c24 KL KL HKl.out HKl.out w24 HC23'.out HC24.out (by omega) (by omega)).mono ?_
 rintro e w24' ⟨rfl, qd, hqd⟩
 have hse : sameHd KL KL = true := by simp [sameHd]
 rw [hse]
 have HB25 : Hid (Below w14.heap.size w14 w24') := LH (by rw [hqd]; exact below_drewN HB24.out qd)
 clear hse hqd
 have hdv := (HAl3.out.below HB25.out).man.dev
 rw [HP3.out.foot, HP3.out.dev] at hdv
 have HDv := LH hdv
 clear hdv
 go_wp2_with fail
 refine (dall_any HDv.out).mono ?_
 rintro e w25 ⟨v, rfl, ho, hb25⟩
 obtain ⟨av, cv, rfl, hcv⟩ := cells_of_owned ho
 have hTw := HDv.out.wf
 have hTs := HP3.out.clr.same
 have HB26 := LH (HB25.out.trans (hb25.mono HB25.out.size))
 have hl3 : T3.lasting.length = 8 * m := by rw [hTs]; exact HT3n.out
 obtain ⟨p1, p2⟩ := fresh_pad T3.lasting m hl3
 have HLd2 := rload_at av T3.cache.length cv T3.lasting (by rw [hTs]) w25 hcv (by rw [HT3n.out]; omega) hTw.u64L
 rw [HT3n.out, show (8 * m + 7) / 8 = m by omega, p1] at HLd2
 rw [HT3n.out]
 have HLd3 := LH HLd2
 have HFt2 := LH (fresh_fit0 (fresh_inv hl3 (by omega) hTw.u64L).wf)
 have hSm2 : (freshDev T3.lasting m).dirty.length = m := List.length_replicate
 have HOw : Hid (∀ x ∈ ys, objW (freshDev T3.lasting m) x = objW S x) := LH (fun x hx => objW_same (by show T3.lasting.length = _; rw [hl3, HSl.out]) (HYb.out x hx) (fun j hj => by
  show T3.lasting.getD j 0 = _
  rw [hTs]; exact HHi.out j hj))
 generalize freshDev T3.lasting m = S2 at *
 clear ho hb25 hcv hTw hTs hl3 p1 p2 HLd2 HB25 HDv
 go_wp2_with fail
 refine HLd3.out.mono ?_
 rintro e w26 ⟨v, rfl, hra, _, hb26⟩
 obtain ⟨D2, rfl⟩ := hra.agg
 have HA26 := LH hra
 have HAr2 := LH hra.arr
 have HB27 := LH (HB26.out.trans (hb26.mono HB26.out.size))
 have HMz := LH ((HMa.out.later HB27.out).alloc zeroD 38)
 clear hra hb26 HLd3 HB26
 go_upto_region 20 with (refine wpList_store_mem aggRd HMz.out 3 rfl rfl rfl rfl rfl HAr2.out.1 HAr2.out.1.symm HAr2.out.2 ?_; intro w27 h27 ht27; have H27 := LH h27; have HT27 := LH ht27; clear h27 ht27)
 obtain ⟨q15, hq15⟩ : ∃ q, q = w26.heap.size := ⟨_, rfl⟩
 have HBz : Hid (Below w26.heap.size w26 w27) := LH ((below_alloc w26 (.cells zeroD 38)).trans (HT27.out.below (by simp) (by simp)))
 rw [← hq15] at H27 ⊢
 have HMb : Hid (Mem w w27 [⟨q8, 38, D.toList, true⟩, ⟨q9, 49, [.int .i64 (nb : Int), vu64 id, .int .i64 (nb : Int), .pointer (some ⟨A1.a, 0, none⟩), .pointer (some ⟨g1, 0, none⟩), .slice va1 vl vc1], true⟩, ⟨q13, 49, [.int .i64 (nb : Int), vu64 id, .int .i64 (nb : Int), .pointer (some ⟨A3.a, 0, none⟩), .pointer (some ⟨g3, 0, none⟩), .slice va3 vl vc3], true⟩, ⟨q15, 38, D2.toList, true⟩]) := LH H27.out
 have HB28 : Hid (Below w14.heap.size w14 w27) := LH (HB27.out.trans (HBz.out.mono HB27.out.size))
 have HA27 := LH (HA26.out.below HBz.out (Nat.le_refl _))
 have HA28 := LH (HA14.out.below HB28.out (Nat.le_refl _))
 have HLv28 : Hid (Cells w27 va1 (ys.map vi)) := LH (HP1.out.live.below HB28.out (Nat.le_refl _))
 clear hq15 H27 HT27 HMz HBz HA26 HA14 HB27 HMa HP1 HP3 HAl3 HR3 HHi HB28 HAl1 HR1
 go_wp2_with fail
 go_loopw [16] (fun iv wr => ∃ i : Nat, i ≤ vl ∧ iv = .int .i64 (i : Int) ∧ Hid (Below w27.heap.size w27 wr)) (fun iv _ => vl - (intOf iv).toNat)
 case atStart => exact ⟨0, Nat.zero_le _, rfl, LH (Below.refl _ _)⟩
 case round =>
  obtain ⟨i, hi, rfl, HBr⟩ := hrel
  have HMr := LH (HMb.out.later HBr.out)
  have p5 := HMr.out.cell 1 5 rfl rfl
  by_cases hlt : i < vl
  case neg =>
   obtain rfl : i = vl := by omega
   have hlt' : decide ((i : Int) < (i : Int)) = false := by simp
   have HF := LH (HP.out wr HMr.out.below)
   clear hlt hi
   go_wp2_with fail
   exact HF.out
  have hlt' : (i : Int) < (vl : Int) := by omega
  have hil : i < ys.length := by rw [← HVl.out]; exact hlt
  obtain ⟨b1, o1, hae, _, hct⟩ := (HLv28.out.below HBr.out (Nat.le_refl _)).at (by rw [List.length_map]; omega)
  subst hae
  have y0 := hct i (vi ys[i]) (by rw [List.getElem?_map, List.getElem?_eq_getElem hil]; rfl)
  have HOx : Hid (objW S2 ys[i] = objW S ys[i]) := LH (HOw.out _ (List.getElem_mem _))
  generalize ys[i] = x at *
  have rp5 := fun x => later_cell p5 x
  have ry := fun x => later_cell y0 x
  have hld : ∀ w', (∃ x : Later wr, w' = x.val) → ∀ (i : Nat) (v : Value), D.toList[i]? = some v → w'.cell? ⟨q8, 0 + i, none⟩ = some v := by
   rintro w' ⟨x, rfl⟩ i v hi
   rw [Nat.zero_add]
   exact later_cell (HMr.out.cell 0 i rfl hi) x
  have hld2 : ∀ w', (∃ x : Later wr, w' = x.val) → ∀ (i : Nat) (v : Value), D2.toList[i]? = some v → w'.cell? ⟨q15, 0 + i, none⟩ = some v := by
   rintro w' ⟨x, rfl⟩ i v hi
   rw [Nat.zero_add]
   exact later_cell (HMr.out.cell 3 i rfl hi) x
  have hD8 := HArr.out.1
  have hD28 := HAr2.out.1
  clear hct
  go_upto_region 23 with fail
  refine wp_region_seg (C := fun w' => ∃ x : Later (wr), w' = x.val) [.fl [0, 1, 2, 3, 4, 5, 7, 8, 9, 10, 11, 12], .sq [6] true, .sq [13, 14, 15] false] (by kernel_rfl) (by kernel_rfl) (by intro c a d v w h; cases d <;> exact h) ?_
  simp only [segs, picks, List.getElem?_cons_succ, List.getElem?_cons_zero]
  have hC1 := later_drew (wr)
  refine wpSeg_fl hC1 ?_
  repeat (first | (refine wpQuiet_load_arr aggRd D hld hD8 rfl rfl rfl ?_) | (refine wpQuiet_load_arr aggRd D2 hld2 hD28 rfl rfl rfl ?_) | go_big_quiet_step (fail) | quiet_step (fail))
  refine wpQuiet_nil ?_
  have HBd : Hid (Below w27.heap.size w27 wr.drew) := LH (HBr.out.trans ((later_below hC1).mono HBr.out.size))
  generalize wr.drew = wd at *
  clear hld hld2 rp5 ry p5 y0
  refine wpSeg_sq (fun K hK => ?_)
  go_wp2_with fail
  refine (rwordsO_any hSm2 (HA27.out.below HBd.out (Nat.le_refl _)) HFt2.out x).mono ?_
  rintro e w28 ⟨v, rfl, ho, hb28⟩
  rw [HOx.out] at ho
  obtain ⟨ax, cx, rfl, hcx⟩ := cells_of_owned ho
  have HCx := LH hcx
  have hC2 := later_step hC1 hb28
  have HBe : Hid (Below w27.heap.size w27 w28) := LH (HBd.out.trans (hb28.mono HBd.out.size))
  clear ho hb28 hcx
  go_wp2_with fail
  refine hK _ _ (fun _ => hC2) ?_
  clear hK K
  clear hC1 hC2
  refine wpSeg_last ?_
  go_wp2_with fail
  refine (rwordsO_any hSm (HA28.out.below HBe.out (Nat.le_refl _)) HFt.out x).mono ?_
  rintro e w29 ⟨v, rfl, ho, hb29⟩
  obtain ⟨az, cz, rfl, hcz⟩ := cells_of_owned ho
  have HCz := LH hcz
  have HCx2 := LH (HCx.out.below hb29 (Nat.le_refl _))
  have HBf : Hid (Below w27.heap.size w27 w29) := LH (HBe.out.trans (hb29.mono HBe.out.size))
  have hol : (objW S x).length ≤ 1000000000 := objW_len HFt.out.wf.small x
  clear ho hb29 hcz HCx
  go_wp2_with fail
  refine (rsame_eq ax az (objW S x).length cx cz (objW S x) rfl w29 HCx2.out HCz.out hol).mono ?_
  rintro e w30 ⟨rfl, qe, rfl⟩
  have HBg : Hid (Below w27.heap.size w27 (w29.drewN qe)) := LH (below_drewN HBf.out qe)
  generalize w29.drewN qe = w31 at *
  go_wp2_with fail
  exact ⟨⟨i + 1, by omega, vint (by omega), HBg⟩, by simp [intOf]; omega⟩
end Go.Proofs.YtpohaahihdhleaaGreat
namespace Go.Proofs.YtpohaahihdhleaaGreat
open Go.RowKit Go.ChangeShapes Go.WideShapes
section
variable {H : Type} {enc : TypeId × Value → H} {P : Program} {w : World} {base b0 : Nat} {r : Reach} {spare : Nat → Bool} {held : Bool}
end
end Go.Proofs.YtpohaahihdhleaaGreat
namespace Go.Proofs.YtpohaahihdhleaaGreat
open Go.RowKit Go.ChangeShapes Go.WideShapes Go.Deep
section
variable {H : Type} {enc : TypeId × Value → H} {P : Program} {w : World} {base : Nat} {spare : Nat → Bool} {held : Bool}
theorem wf_u8b {x : Int} (h : (Lit.int .u8 x).wf = true) : 0 ≤ x ∧ x ≤ 255 := by
 simp [Lit.wf, IntKind.min, IntKind.max, IntKind.bits, IntKind.signed] at h
 omega
theorem byte_read {T : TypeId} {fuel : Nat} {c : Value} {z : DataW H × List MemPlace} (hT : P.underlying T = some (.int .u8)) (hz : DataW.trod enc P w base spare held fuel T [c] = some z) : ∃ x : Int, c = .int .u8 x ∧ 0 ≤ x ∧ x ≤ 255 := by
 obtain ⟨x, hx, _, hw⟩ := DataW.trod_int hT hz
 exact ⟨x, by simpa using hx, wf_u8b hw⟩
end
section
variable {H : Type} {enc : TypeId × Value → H} {w : World} {spare : Nat → Bool} {held : Bool}
theorem int_read {fuel : Nat} {t : TypeId} {k : IntKind} {v : Value} {y : DataW H × List MemPlace} (ht : Tryz.prog.underlying t = some (.int k)) (h : DataW.trod enc Tryz.prog w 0 spare held fuel t [v] = some y) : ∃ n, v = .int k n ∧ (Lit.int k n).wf = true := by
 obtain ⟨n, h1, _, h3⟩ := DataW.trod_int ht h
 exact ⟨n, by simpa using h1, h3⟩
theorem hds_read {fuel : Nat} {v : Value} {y : DataW H × List MemPlace} (h : DataW.trod enc Tryz.prog w 0 spare held fuel 22 [v] = some y) :
  ∃ (a : Option Addr) (cap : Nat) (l : List Hd), v = .slice a l.length cap ∧ Cells w a (hdCs l) ∧ l.length ≤ maxLen ∧ ∀ x ∈ l, (-9223372036854775808 ≤ x.k ∧ x.k ≤ 9223372036854775807) ∧ (-9223372036854775808 ≤ x.c ∧ x.c ≤ 9223372036854775807) ∧ (-9223372036854775808 ≤ x.l ∧ x.l ≤ 9223372036854775807) := by
 obtain ⟨a, len, cap, n, rfl, hl, hm, hc⟩ := structs_read Tryz.underlying22 Tryz.underlying107 (by kernel_rfl) (by kernel_rfl) (by decide) h
 rcases hc with rfl | ⟨b, off, rfl, hc⟩
 ·exact ⟨a, cap, [], rfl, Cells.nil _ _, Nat.zero_le _, by simp⟩
 ·have each : ∀ i, i < len → ∃ x : Hd, w.cell? ⟨b, off + i * 3, none⟩ = some (.int .i64 x.k) ∧ w.cell? ⟨b, off + i * 3 + 1, none⟩ = some (.int .i64 x.c) ∧ w.cell? ⟨b, off + i * 3 + 2, none⟩ = some (.int .i64 x.l) ∧ (-9223372036854775808 ≤ x.k ∧ x.k ≤ 9223372036854775807) ∧ (-9223372036854775808 ≤ x.c ∧ x.c ≤ 9223372036854775807) ∧ (-9223372036854775808 ≤ x.l ∧ x.l ≤ 9223372036854775807) := by
   intro i hi
   obtain ⟨u0, z0, hu0, hz0⟩ := hc i hi 0 _ rfl
   obtain ⟨u1, z1, hu1, hz1⟩ := hc i hi 1 _ rfl
   obtain ⟨u2, z2, hu2, hz2⟩ := hc i hi 2 _ rfl
   obtain ⟨n0, rfl, hw0⟩ := int_read Tryz.underlying3 hz0
   obtain ⟨n1, rfl, hw1⟩ := int_read Tryz.underlying3 hz1
   obtain ⟨n2, rfl, hw2⟩ := int_read Tryz.underlying3 hz2
   exact ⟨⟨n0, n1, n2⟩, hu0, hu1, hu2, wf_i64 hw0, wf_i64 hw1, wf_i64 hw2⟩
  obtain ⟨f, hf⟩ := choose_lt each
  refine ⟨_, cap, (List.range len).map f, by simp, .inr ⟨b, off, rfl, fun i v hi => ?_⟩, by simp; omega, fun x hx => ?_⟩
  ·have hlen : i < 3 * len := by
    have := (List.getElem?_eq_some_iff.1 hi).1
    rw [hdCs_length] at this
    simpa using this
   obtain ⟨q, r, hr, rfl⟩ : ∃ q r, r < 3 ∧ i = q * 3 + r := ⟨i / 3, i % 3, by omega, by omega⟩
   have hq : q < len := by omega
   have hg := hdCs_at ((List.range len).map f) q (by simpa using hq)
   have hfd : ((List.range len).map f).getD q default = f q := by simp [hq]
   rw [hfd] at hg
   have hfc := hf q hq
   have h0 := hg 0 _ rfl
   have h1 := hg 1 _ rfl
   have h2 := hg 2 _ rfl
   rcases (show r = 0 ∨ r = 1 ∨ r = 2 by omega) with rfl | rfl | rfl
   ·rw [h0] at hi
    cases hi
    exact hfc.1
   ·rw [h1] at hi
    cases hi
    rw [← Nat.add_assoc]
    exact hfc.2.1
   ·rw [h2] at hi
    cases hi
    rw [← Nat.add_assoc]
    exact hfc.2.2.1
  ·rw [List.mem_map] at hx
   obtain ⟨i, hi, rfl⟩ := hx
   exact (hf i (by simpa using hi)).2.2.2
end
section
variable {H : Type} {enc : TypeId × Value → H} {w : World} {b0 : Nat} {r : Reach} {spare : Nat → Bool} {held : Bool}
theorem wf_u16c {x : Int} (h : (Lit.int .u16 x).wf = true) : ∃ n : Nat, x = (n : Int) ∧ n < 65536 := by
 simp [Lit.wf, IntKind.min, IntKind.max, IntKind.bits, IntKind.signed] at h
 exact ⟨x.toNat, by omega, by omega⟩
theorem arr_read {P : Program} {base fuel n : Nat} {t e : TypeId} {us : List Value} {z : DataW H × List MemPlace} (hs : P.underlying t = some (.array n e)) (hone : P.cellsOf e = 1) (hl : us.length = n) (h : DataW.trod enc P w base spare held fuel t us = some z) :
  ∃ m : Nat, ∀ (i : Nat) (u : Value), us[i]? = some u → ∃ y, DataW.trod enc P w base spare held m e [u] = some y := by
 obtain ⟨xs, m, _, _, _, hxl, hel⟩ := DataW.trod_array hs h
 refine ⟨m, fun i u hi => ?_⟩
 have hlt : i < us.length := (List.getElem?_eq_some_iff.1 hi).1
 have h1 := hel i (by omega)
 have e1 : ((us.drop (i * P.cellsOf e)).take (P.cellsOf e)) = [u] := by
  rw [hone, Nat.mul_one, List.drop_eq_getElem_cons hlt, List.take_succ_cons, List.take_zero, (List.getElem?_eq_some_iff.1 hi).2]
 rw [e1] at h1
 exact ⟨xs[i]'(by omega), by rw [h1]; exact List.getElem?_eq_getElem (by omega)⟩
set_option maxRecDepth 20000 in
theorem thing_cells {fuel : Nat} {us : List Value} {z : DataW H × List MemPlace} (hlen : us.length = 4) (h : DataW.trod enc Tryz.prog w 0 spare held fuel 100 us = some z) : ∃ t : ThV, us = t.cs ∧ t.ok w := by
 obtain ⟨ys, n', _, _, _, hyl, hf⟩ := DataW.trod_struct Tryz.underlying100 h
 have hl4 : ys.length = 4 := hyl
 match us, hlen with
 | [u0, u1, u2, u3], _ =>
  have cu : Tryz.prog.cellsOf 98 = 1 := by kernel_rfl
  have cl : Tryz.prog.cellsOf 47 = 1 := by kernel_rfl
  have h0 := hf 0 _ rfl
  have h1 := hf 1 _ rfl
  have h2 := hf 2 _ rfl
  have h3 := hf 3 _ rfl
  rw [List.getElem?_eq_getElem (by omega)] at h0 h1 h2 h3
  have h0 : DataW.trod enc Tryz.prog w 0 spare held n' 98 (List.take (Tryz.prog.cellsOf 98) [u0, u1, u2, u3]) = some _ := h0
  have h1 : DataW.trod enc Tryz.prog w 0 spare held n' 98 (List.take (Tryz.prog.cellsOf 98) [u1, u2, u3]) = some _ := h1
  have h2 : DataW.trod enc Tryz.prog w 0 spare held n' 98 (List.take (Tryz.prog.cellsOf 98) [u2, u3]) = some _ := h2
  have h3 : DataW.trod enc Tryz.prog w 0 spare held n' 47 (List.take (Tryz.prog.cellsOf 47) [u3]) = some _ := h3
  rw [cu] at h0 h1 h2
  rw [cl] at h3
  obtain ⟨x0, rfl, k0⟩ := int_read (v := u0) Tryz.underlying98 (by simpa using h0)
  obtain ⟨x1, rfl, k1⟩ := int_read (v := u1) Tryz.underlying98 (by simpa using h1)
  obtain ⟨x2, rfl, k2⟩ := int_read (v := u2) Tryz.underlying98 (by simpa using h2)
  obtain ⟨a, n, c, ns, rfl, e2, e3, _, e5, e6⟩ := ints_read (k := .i64) (v := u3) Tryz.underlying47 Tryz.underlying3 (by kernel_rfl) (by simpa using h3)
  obtain ⟨m0, rfl, b0⟩ := wf_u16c k0
  obtain ⟨m1, rfl, b1⟩ := wf_u16c k1
  obtain ⟨m2, rfl, b2⟩ := wf_u16c k2
  subst e2
  exact ⟨⟨m0, m1, m2, a, c, ns⟩, rfl, b0, b1, b2, e3, Nat.le_trans e5 e6⟩
theorem things_read {fuel : Nat} {v : Value} {y : DataW H × List MemPlace} (h : DataW.trod enc Tryz.prog w 0 spare held fuel 23 [v] = some y) :
  ∃ (a : Option Addr) (n c : Nat) (T : List ThV), v = .slice a n c ∧ T.length = n ∧ Cells w a (recs ThV.cs T) ∧ (∀ t ∈ T, t.ok w) ∧ n ≤ maxLen := by
 obtain ⟨a, len, cap, m, rfl, hl, hm, hc⟩ := elems_read (size := 4) Tryz.underlying23 (by kernel_rfl) (by decide) h
 rcases hc with rfl | ⟨b, off, rfl, hc⟩
 ·exact ⟨a, 0, cap, [], rfl, rfl, Cells.nil _ _, by simp, Nat.zero_le _⟩
 ·obtain ⟨T, t1, t2, t3⟩ := recs_of (f := ThV.cs) (n := 4) ThV.len (by decide) (default : ThV) (w := w) (b := b) (off := off) (len := len) (ok := fun t => t.ok w) (fun i hi => by
   obtain ⟨us, z, h1, h2, h3⟩ := hc i hi
   obtain ⟨t, rfl, ht⟩ := thing_cells h1 h3
   exact ⟨t, h2, ht⟩)
  exact ⟨_, len, cap, T, rfl, t1, t2, t3, Nat.le_trans hl hm⟩
set_option maxRecDepth 20000 in
theorem img_read {v : Value} {d : DataW H} {p : List MemPlace} (hv : Value.okWide Tryz.prog w r b0 28 v) (h : DataW.Trod enc Tryz.prog w 0 spare held 28 v d p) : ∃ I : Img, v = .agg I.cs ∧ I.In w := by
 simp only [Value.okWide, Tryz.underlying28] at hv
 obtain ⟨cs, rfl, hsz, _⟩ := hv
 obtain ⟨fuel, hf0⟩ := h
 have h13 : cs.size = 13 := hsz.trans (by kernel_rfl)
 obtain ⟨cs⟩ := cs
 obtain ⟨ys, n', _, _, _, hyl, hf⟩ := DataW.trod_struct Tryz.underlying28 hf0
 have hl5 : ys.length = 5 := hyl
 match cs, h13 with
 | [u0, u1, u2, u3, u4, u5, u6, u7, u8, u9, u10, u11, u12], _ =>
  have k0 : Tryz.prog.cellsOf 22 = 1 := by kernel_rfl
  have k1 : Tryz.prog.cellsOf 23 = 1 := by kernel_rfl
  have k2 : Tryz.prog.cellsOf 24 = 8 := by kernel_rfl
  have k3 : Tryz.prog.cellsOf 25 = 2 := by kernel_rfl
  have k4 : Tryz.prog.cellsOf 26 = 1 := by kernel_rfl
  have h0 := hf 0 _ rfl
  have h1 := hf 1 _ rfl
  have h2 := hf 2 _ rfl
  have h3 := hf 3 _ rfl
  have h4 := hf 4 _ rfl
  rw [List.getElem?_eq_getElem (by omega)] at h0 h1 h2 h3 h4
  have h0 : DataW.trod enc Tryz.prog w 0 spare held n' 22 (List.take (Tryz.prog.cellsOf 22) [u0, u1, u2, u3, u4, u5, u6, u7, u8, u9, u10, u11, u12]) = some _ := h0
  have h1 : DataW.trod enc Tryz.prog w 0 spare held n' 23 (List.take (Tryz.prog.cellsOf 23) [u1, u2, u3, u4, u5, u6, u7, u8, u9, u10, u11, u12]) = some _ := h1
  have h2 : DataW.trod enc Tryz.prog w 0 spare held n' 24 (List.take (Tryz.prog.cellsOf 24) [u2, u3, u4, u5, u6, u7, u8, u9, u10, u11, u12]) = some _ := h2
  have h3 : DataW.trod enc Tryz.prog w 0 spare held n' 25 (List.take (Tryz.prog.cellsOf 25) [u10, u11, u12]) = some _ := h3
  have h4 : DataW.trod enc Tryz.prog w 0 spare held n' 26 (List.take (Tryz.prog.cellsOf 26) [u12]) = some _ := h4
  rw [k0] at h0
  rw [k1] at h1
  rw [k2] at h2
  rw [k3] at h3
  rw [k4] at h4
  obtain ⟨ha, hc, L, rfl, L2, L3, _⟩ := hds_read (v := u0) (by simpa using h0)
  obtain ⟨ta, nt, tc, T, rfl, T1, T2, T3, T4⟩ := things_read (v := u1) (by simpa using h1)
  obtain ⟨m2, r2⟩ := arr_read Tryz.underlying24 (by kernel_rfl) rfl h2
  obtain ⟨m3, r3⟩ := arr_read Tryz.underlying25 (by kernel_rfl) rfl h3
  obtain ⟨ua, nu, uc, U, rfl, U1, U2, U3, U4, U5⟩ := nats_read (k := .u16) (B := 65536) (v := u12) (fun z hz => by obtain ⟨n, rfl, hn⟩ := wf_u16c hz; omega) Tryz.underlying26 Tryz.underlying98 (by kernel_rfl) (by simpa using h4)
  obtain ⟨_, z0⟩ := r2 0 _ rfl
  obtain ⟨_, z1⟩ := r2 1 _ rfl
  obtain ⟨_, z2⟩ := r2 2 _ rfl
  obtain ⟨_, z3⟩ := r2 3 _ rfl
  obtain ⟨_, z4⟩ := r2 4 _ rfl
  obtain ⟨_, z5⟩ := r2 5 _ rfl
  obtain ⟨_, z6⟩ := r2 6 _ rfl
  obtain ⟨_, z7⟩ := r2 7 _ rfl
  obtain ⟨_, y0⟩ := r3 0 _ rfl
  obtain ⟨_, y1⟩ := r3 1 _ rfl
  obtain ⟨x0, rfl, _⟩ := int_read Tryz.underlying3 z0
  obtain ⟨x1, rfl, _⟩ := int_read Tryz.underlying3 z1
  obtain ⟨x2, rfl, _⟩ := int_read Tryz.underlying3 z2
  obtain ⟨x3, rfl, _⟩ := int_read Tryz.underlying3 z3
  obtain ⟨x4, rfl, _⟩ := int_read Tryz.underlying3 z4
  obtain ⟨x5, rfl, _⟩ := int_read Tryz.underlying3 z5
  obtain ⟨x6, rfl, _⟩ := int_read Tryz.underlying3 z6
  obtain ⟨x7, rfl, _⟩ := int_read Tryz.underlying3 z7
  obtain ⟨b0, rfl, hb0⟩ := byte_read Tryz.underlying5 y0
  obtain ⟨b1, rfl, hb1⟩ := byte_read Tryz.underlying5 y1
  obtain ⟨e0, rfl⟩ := Int.eq_ofNat_of_zero_le hb0.1
  obtain ⟨e1, rfl⟩ := Int.eq_ofNat_of_zero_le hb1.1
  have q0 : e0 < 256 := by omega
  have q1 : e1 < 256 := by omega
  exact ⟨⟨ha, L.length, hc, L, ta, nt, tc, T, x0, x1, x2, x3, x4, x5, x6, x7, e0, e1, ua, nu, uc, U⟩, rfl, rfl, T1, U1, L2, T2, T3, U2, U3, ⟨q0, q1⟩, L3, T4, Nat.le_trans U4 U5⟩
end
end Go.Proofs.YtpohaahihdhleaaGreat
