/- Parts of the proof that ReviveLooks holds. -/
import Derived.Test.YtpohaahihdhleaaGreatRL14
import Derived.OpenShut
import Derived.Lib.SmallJoins
set_option linter.unusedVariables false
set_option maxHeartbeats 16000000
set_option maxRecDepth 100000
open Go.RowKit
namespace Go.Proofs.YtpohaahihdhleaaGreat
section
theorem lt_same {x y : List Nat} (hx : x.Pairwise (· < ·)) (hy : y.Pairwise (· < ·)) (h : ∀ a, a ∈ x ↔ a ∈ y) : x = y := by
 have hp : x.Perm y := (List.perm_ext_iff_of_nodup (hx.imp (fun h => Nat.ne_of_lt h)) (hy.imp (fun h => Nat.ne_of_lt h))).2 h
 exact sorted_same (hx.imp Nat.le_of_lt) (hy.imp Nat.le_of_lt) (fun a => hp.count_eq a)
theorem fresh_pad (ws : List Nat) (m : Nat) (hl : ws.length = 8 * m) : freshR (padTo ws (8 * m)) m = (freshDev ws m).ref ∧ padTo ws (8 * m) = ws := by
 have e : padTo ws (8 * m) = ws := by unfold padTo; rw [hl, Nat.sub_self]; simp
 refine ⟨?_, e⟩
 rw [e]
 unfold freshR Dev.ref freshDev
 rw [hl]; rfl
theorem fresh_fit0 {ws : List Nat} {m : Nat} (h : (freshDev ws m).wf) : (freshDev ws m).fit 0 := by
 have e : nowD (freshDev ws m) = freshDev ws m := by unfold nowD freshDev; simp
 have := nowD_fit h 0
 rw [e] at this
 exact this
theorem stR_want {n id : Nat} {ls : Value} {D : Array Value} {ep : Nat} {rs : List Int} {i : Int} {lv : Value} (hD : D.size = 8) (hD1 : D.toList.all (·.oneCell') = true) (hr : rs.length = 8) (hls : ls.oneCell' = true) (hlv : lv.oneCell' = true) :
  ∃ E, stR n id ls D ep rs i lv = .agg E ∧ Want E n id ep rs ls lv := by
 obtain ⟨r0, r1, r2, r3, r4, r5, r6, r7, rfl⟩ := eight_ints hr
 obtain ⟨D⟩ := D
 have hD' : D.length = 8 := by simpa using hD
 obtain ⟨d0, d1, d2, d3, d4, d5, d6, d7, rfl⟩ := eightN hD'
 refine ⟨_, rfl, rfl, ?_, rfl, rfl, rfl, rfl, ?_, rfl⟩
 ·simp at hD1
  have hi : ∀ (k : IntKind) (x : Int), (Value.int k x).oneCell' = true := fun _ _ => rfl
  simp [hD1, hls, hlv, hi]
 ·intro j v hv
  match j, hv with
  | 0, hv => exact hv
  | 1, hv => exact hv
  | 2, hv => exact hv
  | 3, hv => exact hv
  | 4, hv => exact hv
  | 5, hv => exact hv
  | 6, hv => exact hv
  | 7, hv => exact hv
  | j + 8, hv => simp at hv
theorem reviveLooks_any {w : World} {I : Img} (h : I.In w) : Calls Tryz.prog 3 #[.agg I.cs] w (Gives (.bool true) w) := by
 have HP : Hid (∀ w', Below w.heap.size w w' → Gives (.bool true) w (.returned (.bool true)) w') := LH (fun w' h => ⟨rfl, h⟩)
 generalize Gives (.bool true) w = Post at *
 have HI := LH h
 obtain ⟨ha, nh, hc, ta, nt, tc, r0, r1, r2, r3, r4, r5, r6, r7, E0, E1, ua, nu, uc, hcs, f1, f2, f3, f4⟩ := I.form
 have HCs := LH hcs
 rw [hcs]
 have HM := LH (Mem.one w #[.slice ha nh hc, .slice ta nt tc, .int .i64 r0, .int .i64 r1, .int .i64 r2, .int .i64 r3, .int .i64 r4, .int .i64 r5, .int .i64 r6, .int .i64 r7, .int .u8 (E0 : Int), .int .u8 (E1 : Int), .slice ua nu uc] 28)
 clear f1 f2 f3 f4 h hcs
 go_enter Tryz.func3, Tryz.ntmps3
 go_upto_region 1 with fail
 obtain ⟨q, hq⟩ : ∃ q, q = w.heap.size := ⟨_, rfl⟩
 rw [← hq] at HM ⊢
 generalize w.alloc _ = w0 at *
 have HM0 : Hid (Mem w w0 [⟨q, 28, I.cs.toList, true⟩]) := LH (by rw [HCs.out]; simpa using HM.out)
 clear hq HM
 go_wp2_with fail
 refine (awake26_any w0).mono ?_
 rintro e w1 ⟨rfl, hb1⟩
 have HM1 := LH (HM0.out.later hb1)
 clear hb1 HM0
 go_wp2_with (refine wpList_load_box aggIm HM1.out 0 rfl rfl rfl rfl rfl ?_)
 refine (few26_any (HI.out.below HM1.out.below)).mono ?_
 rintro e w2 ⟨hb2, b, rfl, hsm⟩
 have HM2 := LH (HM1.out.later hb2)
 cases b
 case false =>
  have HF := LH (HP.out w2 HM2.out.below)
  go_wp2_with fail
  exact HF.out
 have hsm' := hsm rfl
 have HSm := LH hsm'
 have hn7 := hsm'.h7
 clear hb2 hsm HM1 hsm'
 go_wp2_with (refine wpList_load_box aggIm HM2.out 0 rfl rfl rfl rfl rfl ?_)
 refine (words26_any (HI.out.below HM2.out.below) HSm.out).mono ?_
 rintro e w3 ⟨hb3, g, ws, rfl, hws, hg, hrow⟩
 obtain ⟨n, hn⟩ : ∃ n, n = 1 + I.nh := ⟨_, rfl⟩
 rw [← hn] at hws ⊢
 have hn8 : n ≤ 8 := by omega
 obtain ⟨N, hN⟩ : ∃ N, N = 512 * n := ⟨_, rfl⟩
 obtain ⟨m, hm⟩ : ∃ m, m = 64 * n := ⟨_, rfl⟩
 rw [← hN] at hws ⊢
 have hm8 : (N + 7) / 8 = m := by omega
 have hNm : ws.length = 8 * m := by rw [hws.1]; omega
 have hmb : m ≤ 512 := by omega
 have hNb : N ≤ 4096 := by omega
 obtain ⟨p1, p2⟩ := fresh_pad ws m hNm
 have hwf := (fresh_inv hNm (by omega) hws.2).wf
 have HFt := LH (fresh_fit0 hwf)
 have HLd := LH (nload_any g 0 N ws hws.1 w3 (fun i v hi => by rw [Nat.zero_add]; exact hrow.cell hi) (by omega) hws.2)
 have HRl := LH (fun w' (hc : Cells w' (some ⟨g, 0, none⟩) (ws.map vu64)) => rload_at (some ⟨g, 0, none⟩) N N ws hws.1 w' hc (by omega) hws.2)
 rw [hm8, p2] at HLd
 rw [hm8, p1] at HRl
 have HB3 := LH (HM2.out.below.trans (hb3.mono HM2.out.below.size))
 have HR := LH hrow
 have hSm : (freshDev ws m).dirty.length = m := List.length_replicate
 have HSl : Hid ((freshDev ws m).cache.length ≤ 4096) := LH (by show ws.length ≤ 4096; omega)
 clear hb3 hws hg hrow hn hN hm hm8 hNm p1 p2 hwf HI HSm HM2
 generalize freshDev ws m = S at *
 go_wp2_with fail
 refine HLd.out.mono ?_
 rintro e w4 ⟨F, rfl, _, hd4, hb4⟩
 have HD4 := LH hd4
 have HB4 := LH (HB3.out.trans (hb4.mono HB3.out.size))
 have HR4 := LH (HR.out.keep (hb4.block g HR.out.lt))
 clear hd4 hb4 HLd HB3 HR
 go_wp2_with fail
 refine (HRl.out w4 HR4.out.cells).mono ?_
 rintro e w5 ⟨v, rfl, hra, _, hb5⟩
 obtain ⟨D, rfl⟩ := hra.agg
 have HA5 := LH hra
 have HArr := LH hra.arr
 have HD5 := LH (HD4.out.below hb5)
 have HB5 := LH (HB4.out.trans (hb5.mono HB4.out.size))
 have HMz := LH (Mem.one w5 zeroD 38)
 clear hra hb5 HRl HR4 HD4 HB4
 go_upto_region 7 with (refine wpList_store_mem aggRd HMz.out 0 rfl rfl rfl rfl rfl HArr.out.1 HArr.out.1.symm HArr.out.2 ?_; intro w6 h6 ht6; have H6 := LH h6; clear h6 ht6)
 obtain ⟨q5, hq5⟩ : ∃ q, q = w5.heap.size := ⟨_, rfl⟩
 rw [← hq5] at H6 ⊢
 have HM6 : Hid (Mem w5 w6 [⟨q5, 38, D.toList, true⟩]) := LH (by simpa using H6.out)
 have HLk := LH (look_any (HD5.out.below HM6.out.below))
 clear hq5 H6 HMz
 go_wp2_with fail
 refine HLk.out.mono ?_
 rintro e w7 ⟨hb7, hcase⟩
 have HM7 := LH (HM6.out.later hb7)
 rcases hcase with ⟨hlk, gr, lg, lc, lv, ys, rfl, hrt, _, hrow, _, hlc, hlv, hso, hys, _⟩ | ⟨hlk, rfl⟩
 case inr =>
  have HMs := LH (HM7.out.alloc #[.int .i64 0, .int .u64 0, .int .i64 0, .pointer none, .pointer none, .slice none 0 0] 49)
  obtain ⟨le, hle⟩ : ∃ le, le = lookE S := ⟨_, rfl⟩
  rw [← hle] at hlk ⊢
  have HLe := LH hle
  have HNz := LH hlk
  rw [show stZ = #[.int .i64 0, .int .u64 0, .int .i64 0, .pointer none, .pointer none, .slice none 0 0] from rfl]
  clear hb7 hle hlk HM6 HLk
  go_upto_region 8 with fail
  obtain ⟨q6, hq6⟩ : ∃ q, q = w7.heap.size := ⟨_, rfl⟩
  rw [← hq6] at HMs ⊢
  generalize w7.alloc _ = w8 at *
  have HM8 : Hid (Mem w5 w8 [⟨q5, 38, D.toList, true⟩, ⟨q6, 49, [.int .i64 0, .int .u64 0, .int .i64 0, .pointer none, .pointer none, .slice none 0 0], true⟩]) := LH HMs.out
  clear hq6 HMs HM7
  go_wp2_with (refine wpList_load_box aggRd HM8.out 0 rfl HArr.out.1 rfl rfl rfl ?_)
  refine (rlook_any hSm (HA5.out.below HM8.out.below (Nat.le_refl _)) HFt.out (by omega)).mono ?_
  rintro e w9 ⟨hb9, ⟨hz, _⟩ | ⟨_, rfl⟩⟩
  ·exact absurd (HLe.out.trans hz) HNz.out
  rw [← HLe.out]
  have HM9 := LH ((HM8.out.later hb9).alloc st26Z 59)
  have hle2 : (le != le) = false := by simp
  have hle0 : (le != 0) = true := by simpa using HNz.out
  clear hb9 HM8
  go_upto_region 9 with (refine wpList_store_mem aggS26 HM9.out 2 rfl rfl rfl rfl rfl rfl rfl rfl ?_; intro w10 h10 ht10; have H10 := LH h10; clear h10 ht10)
  obtain ⟨q9, hq9⟩ : ∃ q, q = w9.heap.size := ⟨_, rfl⟩
  rw [← hq9] at H10 ⊢
  have HM10 : Hid (Mem w5 w10 [⟨q5, 38, D.toList, true⟩, ⟨q6, 49, [.int .i64 0, .int .u64 0, .int .i64 0, .pointer none, .pointer none, .slice none 0 0], true⟩, ⟨q9, 59, st26Z.toList, true⟩]) := LH H10.out
  have HSa := LH (same3_any hSm (HD5.out.below HM10.out.below) (HA5.out.below HM10.out.below (Nat.le_refl _)))
  clear hq9 H10 HM9
  go_wp2_with (refine wpList_unguard (by rfl) ?_; refine wpList_load_box aggRd HM10.out 0 rfl HArr.out.1 rfl rfl rfl ?_)
  refine HSa.out.mono ?_
  rintro e w11 ⟨rfl, hb11⟩
  have HM11 := LH (HM10.out.later hb11)
  have c4 := HM11.out.cell 1 4 rfl rfl
  have c5 := HM11.out.cell 1 5 rfl rfl
  have HF := LH (HP.out w11 (HB5.out.trans (HM11.out.below.mono HB5.out.size)))
  clear hb11 HM10
  go_wp2_with fail
  exact HF.out
 obtain ⟨h0, _, _, _⟩ := lookE_zero hlk
 have hsz := supR_ok h0
 have hrr := rootsN_ok (S := S) HFt.out.wf.u64C
 have hnd : ys.Nodup := hso.imp (fun h => Nat.ne_of_lt h)
 have hyl0 : ys.length ≤ 512 * (supR S).1 := by
  refine nodup_len _ _ (fun x hx => ?_) (nodup_count hnd)
  have := (okN_lt ((hys x).1 hx).ok').2
  rw [lookL, hds_length] at this; exact this
 have hyl : ys.length ≤ 1000000 := by
  have := hsz.2.1
  omega
 clear hnd hyl0
 obtain ⟨va, vc, hv, hvc, _⟩ := hlv.cells
 obtain ⟨vl, hvl⟩ : ∃ l, l = ys.length := ⟨_, rfl⟩
 rw [← hvl] at hv hyl
 subst hv
 have HYs := LH hys
 have HSo := LH hso
 have HVl := LH hvl
 obtain ⟨L, hL⟩ : ∃ L, L = lookL S := ⟨_, rfl⟩
 obtain ⟨nb, hnb⟩ : ∃ x, x = (supR S).1 := ⟨_, rfl⟩
 obtain ⟨id, hid⟩ : ∃ x, x = (supR S).2.1 := ⟨_, rfl⟩
 obtain ⟨ep, hep⟩ : ∃ x, x = (rootsN S).1 := ⟨_, rfl⟩
 obtain ⟨rs, hrs⟩ : ∃ x, x = (rootsN S).2.1 := ⟨_, rfl⟩
 have HLl : Hid (L.length = nb) := LH (by rw [hL, hnb, lookL, hds_length])
 rw [← hL] at hrow
 have HLL := LH hL
 have HNB := LH hnb
 have HID := LH hid
 have HEP := LH hep
 have HRS := LH hrs
 have hrl : rs.length = 8 := by rw [hrs]; exact hrr.2.1
 have hnb256 : nb ≤ 256 := by rw [hnb]; exact hsz.2.1
 rw [← hnb] at hlc ⊢
 rw [← hid]
 rw [← hep, ← hrs] at hrt
 have HLz := LH hlk
 have HMs := LH (HM7.out.alloc #[.int .i64 (nb : Int), vu64 id, .int .i64 (nb : Int), .pointer none, .pointer (some ⟨gr, 0, none⟩), .slice va vl vc] 49)
 have hba := below_alloc w7 (.cells #[.int .i64 (nb : Int), vu64 id, .int .i64 (nb : Int), .pointer none, .pointer (some ⟨gr, 0, none⟩), .slice va vl vc] 49)
 have HRow := LH (hrow.below hba)
 have HCv := LH (hvc.below hba (Nat.le_refl _))
 have HRt := LH (hrt.below hba (Nat.le_refl _))
 clear hb7 hlk hrt hrow hlv hso hys hvc hba h0 hsz hrr hvl hL hnb hid hep hrs HM6 HLk
 unfold stV
 go_upto_region 8 with fail
 obtain ⟨q6, hq6⟩ : ∃ q, q = w7.heap.size := ⟨_, rfl⟩
 rw [← hq6] at HMs ⊢
 generalize w7.alloc _ = w8 at *
 have HM8 : Hid (Mem w5 w8 [⟨q5, 38, D.toList, true⟩, ⟨q6, 49, [.int .i64 (nb : Int), vu64 id, .int .i64 (nb : Int), .pointer none, .pointer (some ⟨gr, 0, none⟩), .slice va vl vc], true⟩]) := LH HMs.out
 clear hq6 HMs HM7
 go_wp2_with (refine wpList_load_box aggRd HM8.out 0 rfl HArr.out.1 rfl rfl rfl ?_)
 refine (rlook_any hSm (HA5.out.below HM8.out.below (Nat.le_refl _)) HFt.out (by omega)).mono ?_
 rintro e w9 ⟨hb9, ⟨_, D', lg2, lc2, lv2, ys2, hDD, rfl, hrow2, _, hlc2, hlv2, hso2, hys2, _⟩ | ⟨hz, _⟩⟩
 case inr => exact absurd HLz.out hz
 cases hDD
 have hyy : ys = ys2 := lt_same HSo.out hso2 (fun x => (HYs.out x).trans (hys2 x).symm)
 subst hyy
 obtain ⟨vb, vd, hv2, hvc2, _⟩ := hlv2.cells
 rw [← HVl.out] at hv2
 subst hv2
 rw [← HLL.out] at hrow2
 rw [← HNB.out] at hlc2 ⊢
 rw [← HID.out, ← HEP.out, ← HRS.out]
 obtain ⟨E, hE, hW⟩ := stR_want (n := nb) (id := id) (ls := .slice (some ⟨lg2, 0, none⟩) nb lc2) (D := D) (ep := ep) (rs := rs) (i := (rootsN S).2.2.1) (lv := .slice vb vl vd) HArr.out.1 HArr.out.2 hrl rfl rfl
 rw [hE]
 have HWt := LH hW
 have HM9 := LH ((HM8.out.later hb9).alloc st26Z 59)
 have HRow9 := LH (HRow.out.below hb9)
 have HCv9 := LH (HCv.out.below hb9 (Nat.le_refl _))
 have HRt9 := LH (HRt.out.below hb9 (Nat.le_refl _))
 have HRow2 := LH hrow2
 have HCv2 := LH hvc2
 clear hb9 hrow2 hlv2 hso2 hys2 hvc2 hE hW HM8 HRow HCv HRt
 go_upto_region 9 with (refine wpList_store_mem aggS26 HM9.out 2 rfl rfl rfl rfl rfl HWt.out.size HWt.out.size.symm HWt.out.one ?_; intro w10 h10 ht10; have H10 := LH h10; have HT10 := LH ht10; clear h10 ht10)
 obtain ⟨q9, hq9⟩ : ∃ q, q = w9.heap.size := ⟨_, rfl⟩
 have HB910 : Hid (Below w9.heap.size w9 w10) := LH ((below_alloc w9 (.cells st26Z 59)).trans (HT10.out.below (by simp) (by simp)))
 rw [← hq9] at H10 ⊢
 have HM10 : Hid (Mem w5 w10 [⟨q5, 38, D.toList, true⟩, ⟨q6, 49, [.int .i64 (nb : Int), vu64 id, .int .i64 (nb : Int), .pointer none, .pointer (some ⟨gr, 0, none⟩), .slice va vl vc], true⟩, ⟨q9, 59, E.toList, true⟩]) := LH H10.out
 have HSa := LH (same3_any hSm (HD5.out.below HM10.out.below) (HA5.out.below HM10.out.below (Nat.le_refl _)))
 clear hq9 H10 HT10 HM9
 go_wp2_with (refine wpList_unguard (by rfl) ?_; refine wpList_load_box aggRd HM10.out 0 rfl HArr.out.1 rfl rfl rfl ?_)
 refine HSa.out.mono ?_
 rintro e w11 ⟨rfl, hb11⟩
 have HM11 := LH (HM10.out.later hb11)
 have HB911 : Hid (Below w9.heap.size w9 w11) := LH (HB910.out.trans (hb11.mono HB910.out.size))
 have hldS : ∀ w', (∃ x : Later w11, w' = x.val) → ∀ (i : Nat) (v : Value), (#[.int .i64 (nb : Int), vu64 id, .int .i64 (nb : Int), .pointer none, .pointer (some ⟨gr, 0, none⟩), .slice va vl vc] : Array Value).toList[i]? = some v → w'.cell? ⟨q6, 0 + i, none⟩ = some v := by
  rintro w' ⟨x, rfl⟩ i v hi
  rw [Nat.zero_add]
  exact later_cell (HM11.out.cell 1 i rfl hi) x
 have hldE : ∀ w', (∃ x : Later w11, w' = x.val) → ∀ (i : Nat) (v : Value), E.toList[i]? = some v → w'.cell? ⟨q9, 0 + i, none⟩ = some v := by
  rintro w' ⟨x, rfl⟩ i v hi
  rw [Nat.zero_add]
  exact later_cell (HM11.out.cell 2 i rfl hi) x
 have c2 := HM11.out.cell 2 2 rfl HWt.out.c2
 have r2 := fun x => later_cell c2 x
 clear hb11 HM10 HSa HB910
 go_upto_region 13 with fail
 refine wp_region_seg (C := fun w' => ∃ x : Later (w11), w' = x.val) [.fl [0, 1], .sq [2, 3] false, .fl [4, 6, 7], .sq [5] true, .sq [8, 9, 10] false] (by kernel_rfl) (by kernel_rfl) (by intro c a d v w h; cases d <;> exact h) ?_
 simp only [segs, picks, List.getElem?_cons_succ, List.getElem?_cons_zero]
 have hC1 := later_drew (w11)
 refine wpSeg_fl hC1 ?_
 repeat (first | (refine wpQuiet_load_arr aggSt #[.int .i64 (nb : Int), vu64 id, .int .i64 (nb : Int), .pointer none, .pointer (some ⟨gr, 0, none⟩), .slice va vl vc] hldS rfl rfl rfl rfl ?_) | (refine wpQuiet_load_arr aggS26 E hldE HWt.out.size rfl rfl rfl ?_) | go_big_quiet_step (fail) | quiet_step (fail))
 refine wpQuiet_nil ?_
 have hbd := later_below hC1
 have HBd : Hid (Below w9.heap.size w9 w11.drew) := LH (HB911.out.trans (hbd.mono HB911.out.size))
 have HBw : Hid (Below w.heap.size w w11.drew) := LH (HB5.out.trans ((HM11.out.below.trans (hbd.mono HM11.out.below.size)).mono HB5.out.size))
 generalize w11.drew = wd at *
 clear hbd hldS hldE c2
 refine wpSeg_sq (fun K hK => ?_)
 go_wp2_with fail
 refine (is26_any HWt.out HVl.out.symm hyl (HCv9.out.below HBd.out (Nat.le_refl _)) (HCv2.out.below HBd.out (Nat.le_refl _)) (HRt9.out.below HBd.out (Nat.le_refl _)) hrl).mono ?_
 rintro e w12 ⟨rfl, hb12⟩
 have hC2 := later_step hC1 hb12
 have HB12 : Hid (Below w9.heap.size w9 w12) := LH (HBd.out.trans (hb12.mono HBd.out.size))
 have HBw2 : Hid (Below w.heap.size w w12) := LH (HBw.out.trans (hb12.mono HBw.out.size))
 clear hb12 HBd HBw
 go_wp2_with fail
 refine hK _ _ (fun h => nomatch h) ?_
 clear hK K
 refine wpSeg_fl hC2 ?_
 repeat (first | go_big_quiet_step (fail) | quiet_step (fail))
 refine wpQuiet_nil ?_
 clear r2
 refine wpSeg_sq (fun K hK => ?_)
 go_wp2_with fail
 refine (refs_any (some ⟨lg, 0, none⟩) nb lc L HLl.out w12 (HRow9.out.below HB12.out).cells (by omega)).mono ?_
 rintro e w13 ⟨v, rfl, ho, hb13⟩
 obtain ⟨a13, c13, rfl, hcs13⟩ := cells_of_owned ho
 have HC13 := LH hcs13
 have hC3 := later_step hC2 hb13
 have HB13 : Hid (Below w9.heap.size w9 w13) := LH (HB12.out.trans (hb13.mono HB12.out.size))
 have HBw3 : Hid (Below w.heap.size w w13) := LH (HBw2.out.trans (hb13.mono HBw2.out.size))
 clear hcs13 ho hb13 HB12 HBw2
 go_wp2_with fail
 refine hK _ _ (fun _ => hC3) ?_
 clear hK K
 clear hC1 hC2 hC3
 refine wpSeg_last ?_
 go_wp2_with fail
 refine (rsame_any a13 (some ⟨lg2, 0, none⟩) nb nb c13 lc2 L L HLl.out HLl.out w13 HC13.out (HRow2.out.below HB13.out).cells (by omega) (by omega)).mono ?_
 rintro e w14 ⟨rfl, q, rfl⟩
 have hse : sameHd L L = true := by simp [sameHd]
 rw [hse]
 have HFin := LH (HP.out _ (below_drewN HBw3.out q))
 clear hse
 go_wp2_with fail
 exact HFin.out
end
section
open Go.ChangeShapes Go.WideShapes
section
variable {H : Type} {enc : TypeId × Value → H} {P : Program} {w : World} {base b0 : Nat} {r : Reach} {spare : Nat → Bool} {held : Bool}
end
end
section
open Go.ChangeShapes Go.WideShapes Go.Deep
section
variable {H : Type} {enc : TypeId × Value → H} {P : Program} {w : World} {base : Nat} {spare : Nat → Bool} {held : Bool}
theorem wf_u8b {x : Int} (h : (Lit.int .u8 x).wf = true) : 0 ≤ x ∧ x ≤ 255 := by
 simp [Lit.wf, IntKind.min, IntKind.max, IntKind.bits, IntKind.signed] at h
 omega
theorem byte_read {T : TypeId} {fuel : Nat} {c : Value} {z : DataW H × List MemPlace} (hT : P.underlying T = some (.int .u8)) (hz : DataW.trod enc P w base spare held fuel T [c] = some z) : ∃ x : Int, c = .int .u8 x ∧ 0 ≤ x ∧ x ≤ 255 := by
 obtain ⟨x, hx, _, hw⟩ := DataW.trod_int hT hz
 exact ⟨x, by simpa using hx, wf_u8b hw⟩
end
section
variable {H : Type} {enc : TypeId × Value → H} {w : World} {spare : Nat → Bool} {held : Bool}
theorem int_read {fuel : Nat} {t : TypeId} {k : IntKind} {v : Value} {y : DataW H × List MemPlace} (ht : Tryz.prog.underlying t = some (.int k)) (h : DataW.trod enc Tryz.prog w 0 spare held fuel t [v] = some y) : ∃ n, v = .int k n ∧ (Lit.int k n).wf = true := by
 obtain ⟨n, h1, _, h3⟩ := DataW.trod_int ht h
 exact ⟨n, by simpa using h1, h3⟩
theorem hds_read {fuel : Nat} {v : Value} {y : DataW H × List MemPlace} (h : DataW.trod enc Tryz.prog w 0 spare held fuel 22 [v] = some y) :
  ∃ (a : Option Addr) (cap : Nat) (l : List Hd), v = .slice a l.length cap ∧ Cells w a (hdCs l) ∧ l.length ≤ maxLen ∧ ∀ x ∈ l, (-9223372036854775808 ≤ x.k ∧ x.k ≤ 9223372036854775807) ∧ (-9223372036854775808 ≤ x.c ∧ x.c ≤ 9223372036854775807) ∧ (-9223372036854775808 ≤ x.l ∧ x.l ≤ 9223372036854775807) := by
 obtain ⟨a, len, cap, n, rfl, hl, hm, hc⟩ := structs_read Tryz.underlying22 Tryz.underlying107 (by kernel_rfl) (by kernel_rfl) (by decide) h
 rcases hc with rfl | ⟨b, off, rfl, hc⟩
 ·exact ⟨a, cap, [], rfl, Cells.nil _ _, Nat.zero_le _, by simp⟩
 ·have each : ∀ i, i < len → ∃ x : Hd, w.cell? ⟨b, off + i * 3, none⟩ = some (.int .i64 x.k) ∧ w.cell? ⟨b, off + i * 3 + 1, none⟩ = some (.int .i64 x.c) ∧ w.cell? ⟨b, off + i * 3 + 2, none⟩ = some (.int .i64 x.l) ∧ (-9223372036854775808 ≤ x.k ∧ x.k ≤ 9223372036854775807) ∧ (-9223372036854775808 ≤ x.c ∧ x.c ≤ 9223372036854775807) ∧ (-9223372036854775808 ≤ x.l ∧ x.l ≤ 9223372036854775807) := by
   intro i hi
   obtain ⟨u0, z0, hu0, hz0⟩ := hc i hi 0 _ rfl
   obtain ⟨u1, z1, hu1, hz1⟩ := hc i hi 1 _ rfl
   obtain ⟨u2, z2, hu2, hz2⟩ := hc i hi 2 _ rfl
   obtain ⟨n0, rfl, hw0⟩ := int_read Tryz.underlying3 hz0
   obtain ⟨n1, rfl, hw1⟩ := int_read Tryz.underlying3 hz1
   obtain ⟨n2, rfl, hw2⟩ := int_read Tryz.underlying3 hz2
   exact ⟨⟨n0, n1, n2⟩, hu0, hu1, hu2, wf_i64 hw0, wf_i64 hw1, wf_i64 hw2⟩
  obtain ⟨f, hf⟩ := choose_lt each
  refine ⟨_, cap, (List.range len).map f, by simp, .inr ⟨b, off, rfl, fun i v hi => ?_⟩, by simp; omega, fun x hx => ?_⟩
  ·have hlen : i < 3 * len := by
    have := (List.getElem?_eq_some_iff.1 hi).1
    rw [hdCs_length] at this
    simpa using this
   obtain ⟨q, r, hr, rfl⟩ : ∃ q r, r < 3 ∧ i = q * 3 + r := ⟨i / 3, i % 3, by omega, by omega⟩
   have hq : q < len := by omega
   have hg := hdCs_at ((List.range len).map f) q (by simpa using hq)
   have hfd : ((List.range len).map f).getD q default = f q := by simp [hq]
   rw [hfd] at hg
   have hfc := hf q hq
   have h0 := hg 0 _ rfl
   have h1 := hg 1 _ rfl
   have h2 := hg 2 _ rfl
   rcases (show r = 0 ∨ r = 1 ∨ r = 2 by omega) with rfl | rfl | rfl
   ·rw [h0] at hi
    cases hi
    exact hfc.1
   ·rw [h1] at hi
    cases hi
    rw [← Nat.add_assoc]
    exact hfc.2.1
   ·rw [h2] at hi
    cases hi
    rw [← Nat.add_assoc]
    exact hfc.2.2.1
  ·rw [List.mem_map] at hx
   obtain ⟨i, hi, rfl⟩ := hx
   exact (hf i (by simpa using hi)).2.2.2
end
section
variable {H : Type} {enc : TypeId × Value → H} {w : World} {b0 : Nat} {r : Reach} {spare : Nat → Bool} {held : Bool}
theorem wf_u16c {x : Int} (h : (Lit.int .u16 x).wf = true) : ∃ n : Nat, x = (n : Int) ∧ n < 65536 := by
 simp [Lit.wf, IntKind.min, IntKind.max, IntKind.bits, IntKind.signed] at h
 exact ⟨x.toNat, by omega, by omega⟩
theorem arr_read {P : Program} {base fuel n : Nat} {t e : TypeId} {us : List Value} {z : DataW H × List MemPlace} (hs : P.underlying t = some (.array n e)) (hone : P.cellsOf e = 1) (hl : us.length = n) (h : DataW.trod enc P w base spare held fuel t us = some z) :
  ∃ m : Nat, ∀ (i : Nat) (u : Value), us[i]? = some u → ∃ y, DataW.trod enc P w base spare held m e [u] = some y := by
 obtain ⟨xs, m, _, _, _, hxl, hel⟩ := DataW.trod_array hs h
 refine ⟨m, fun i u hi => ?_⟩
 have hlt : i < us.length := (List.getElem?_eq_some_iff.1 hi).1
 have h1 := hel i (by omega)
 have e1 : ((us.drop (i * P.cellsOf e)).take (P.cellsOf e)) = [u] := by
  rw [hone, Nat.mul_one, List.drop_eq_getElem_cons hlt, List.take_succ_cons, List.take_zero, (List.getElem?_eq_some_iff.1 hi).2]
 rw [e1] at h1
 exact ⟨xs[i]'(by omega), by rw [h1]; exact List.getElem?_eq_getElem (by omega)⟩
theorem thing_cells {fuel : Nat} {us : List Value} {z : DataW H × List MemPlace} (hlen : us.length = 4) (h : DataW.trod enc Tryz.prog w 0 spare held fuel 100 us = some z) : ∃ t : ThV, us = t.cs ∧ t.ok w := by
 obtain ⟨ys, n', _, _, _, hyl, hf⟩ := DataW.trod_struct Tryz.underlying100 h
 have hl4 : ys.length = 4 := hyl
 match us, hlen with
 | [u0, u1, u2, u3], _ =>
  have cu : Tryz.prog.cellsOf 98 = 1 := by kernel_rfl
  have cl : Tryz.prog.cellsOf 47 = 1 := by kernel_rfl
  have h0 := hf 0 _ rfl
  have h1 := hf 1 _ rfl
  have h2 := hf 2 _ rfl
  have h3 := hf 3 _ rfl
  rw [List.getElem?_eq_getElem (by omega)] at h0 h1 h2 h3
  have h0 : DataW.trod enc Tryz.prog w 0 spare held n' 98 (List.take (Tryz.prog.cellsOf 98) [u0, u1, u2, u3]) = some _ := h0
  have h1 : DataW.trod enc Tryz.prog w 0 spare held n' 98 (List.take (Tryz.prog.cellsOf 98) [u1, u2, u3]) = some _ := h1
  have h2 : DataW.trod enc Tryz.prog w 0 spare held n' 98 (List.take (Tryz.prog.cellsOf 98) [u2, u3]) = some _ := h2
  have h3 : DataW.trod enc Tryz.prog w 0 spare held n' 47 (List.take (Tryz.prog.cellsOf 47) [u3]) = some _ := h3
  rw [cu] at h0 h1 h2
  rw [cl] at h3
  obtain ⟨x0, rfl, k0⟩ := int_read (v := u0) Tryz.underlying98 (by simpa using h0)
  obtain ⟨x1, rfl, k1⟩ := int_read (v := u1) Tryz.underlying98 (by simpa using h1)
  obtain ⟨x2, rfl, k2⟩ := int_read (v := u2) Tryz.underlying98 (by simpa using h2)
  obtain ⟨a, n, c, ns, rfl, e2, e3, _, e5, e6⟩ := ints_read (k := .i64) (v := u3) Tryz.underlying47 Tryz.underlying3 (by kernel_rfl) (by simpa using h3)
  obtain ⟨m0, rfl, b0⟩ := wf_u16c k0
  obtain ⟨m1, rfl, b1⟩ := wf_u16c k1
  obtain ⟨m2, rfl, b2⟩ := wf_u16c k2
  subst e2
  exact ⟨⟨m0, m1, m2, a, c, ns⟩, rfl, b0, b1, b2, e3, Nat.le_trans e5 e6⟩
theorem things_read {fuel : Nat} {v : Value} {y : DataW H × List MemPlace} (h : DataW.trod enc Tryz.prog w 0 spare held fuel 23 [v] = some y) :
  ∃ (a : Option Addr) (n c : Nat) (T : List ThV), v = .slice a n c ∧ T.length = n ∧ Cells w a (recs ThV.cs T) ∧ (∀ t ∈ T, t.ok w) ∧ n ≤ maxLen := by
 obtain ⟨a, len, cap, m, rfl, hl, hm, hc⟩ := elems_read (size := 4) Tryz.underlying23 (by kernel_rfl) (by decide) h
 rcases hc with rfl | ⟨b, off, rfl, hc⟩
 ·exact ⟨a, 0, cap, [], rfl, rfl, Cells.nil _ _, by simp, Nat.zero_le _⟩
 ·obtain ⟨T, t1, t2, t3⟩ := recs_of (f := ThV.cs) (n := 4) ThV.len (by decide) (default : ThV) (w := w) (b := b) (off := off) (len := len) (ok := fun t => t.ok w) (fun i hi => by
   obtain ⟨us, z, h1, h2, h3⟩ := hc i hi
   obtain ⟨t, rfl, ht⟩ := thing_cells h1 h3
   exact ⟨t, h2, ht⟩)
  exact ⟨_, len, cap, T, rfl, t1, t2, t3, Nat.le_trans hl hm⟩
theorem img_read {v : Value} {d : DataW H} {p : List MemPlace} (hv : Value.okWide Tryz.prog w r b0 28 v) (h : DataW.Trod enc Tryz.prog w 0 spare held 28 v d p) : ∃ I : Img, v = .agg I.cs ∧ I.In w := by
 simp only [Value.okWide, Tryz.underlying28] at hv
 obtain ⟨cs, rfl, hsz, _⟩ := hv
 obtain ⟨fuel, hf0⟩ := h
 have h13 : cs.size = 13 := hsz.trans (by kernel_rfl)
 obtain ⟨cs⟩ := cs
 obtain ⟨ys, n', _, _, _, hyl, hf⟩ := DataW.trod_struct Tryz.underlying28 hf0
 have hl5 : ys.length = 5 := hyl
 match cs, h13 with
 | [u0, u1, u2, u3, u4, u5, u6, u7, u8, u9, u10, u11, u12], _ =>
  have k0 : Tryz.prog.cellsOf 22 = 1 := by kernel_rfl
  have k1 : Tryz.prog.cellsOf 23 = 1 := by kernel_rfl
  have k2 : Tryz.prog.cellsOf 24 = 8 := by kernel_rfl
  have k3 : Tryz.prog.cellsOf 25 = 2 := by kernel_rfl
  have k4 : Tryz.prog.cellsOf 26 = 1 := by kernel_rfl
  have h0 := hf 0 _ rfl
  have h1 := hf 1 _ rfl
  have h2 := hf 2 _ rfl
  have h3 := hf 3 _ rfl
  have h4 := hf 4 _ rfl
  rw [List.getElem?_eq_getElem (by omega)] at h0 h1 h2 h3 h4
  have h0 : DataW.trod enc Tryz.prog w 0 spare held n' 22 (List.take (Tryz.prog.cellsOf 22) [u0, u1, u2, u3, u4, u5, u6, u7, u8, u9, u10, u11, u12]) = some _ := h0
  have h1 : DataW.trod enc Tryz.prog w 0 spare held n' 23 (List.take (Tryz.prog.cellsOf 23) [u1, u2, u3, u4, u5, u6, u7, u8, u9, u10, u11, u12]) = some _ := h1
  have h2 : DataW.trod enc Tryz.prog w 0 spare held n' 24 (List.take (Tryz.prog.cellsOf 24) [u2, u3, u4, u5, u6, u7, u8, u9, u10, u11, u12]) = some _ := h2
  have h3 : DataW.trod enc Tryz.prog w 0 spare held n' 25 (List.take (Tryz.prog.cellsOf 25) [u10, u11, u12]) = some _ := h3
  have h4 : DataW.trod enc Tryz.prog w 0 spare held n' 26 (List.take (Tryz.prog.cellsOf 26) [u12]) = some _ := h4
  rw [k0] at h0
  rw [k1] at h1
  rw [k2] at h2
  rw [k3] at h3
  rw [k4] at h4
  obtain ⟨ha, hc, L, rfl, L2, L3, _⟩ := hds_read (v := u0) (by simpa using h0)
  obtain ⟨ta, nt, tc, T, rfl, T1, T2, T3, T4⟩ := things_read (v := u1) (by simpa using h1)
  obtain ⟨m2, r2⟩ := arr_read Tryz.underlying24 (by kernel_rfl) rfl h2
  obtain ⟨m3, r3⟩ := arr_read Tryz.underlying25 (by kernel_rfl) rfl h3
  obtain ⟨ua, nu, uc, U, rfl, U1, U2, U3, U4, U5⟩ := nats_read (k := .u16) (B := 65536) (v := u12) (fun z hz => by obtain ⟨n, rfl, hn⟩ := wf_u16c hz; omega) Tryz.underlying26 Tryz.underlying98 (by kernel_rfl) (by simpa using h4)
  obtain ⟨_, z0⟩ := r2 0 _ rfl
  obtain ⟨_, z1⟩ := r2 1 _ rfl
  obtain ⟨_, z2⟩ := r2 2 _ rfl
  obtain ⟨_, z3⟩ := r2 3 _ rfl
  obtain ⟨_, z4⟩ := r2 4 _ rfl
  obtain ⟨_, z5⟩ := r2 5 _ rfl
  obtain ⟨_, z6⟩ := r2 6 _ rfl
  obtain ⟨_, z7⟩ := r2 7 _ rfl
  obtain ⟨_, y0⟩ := r3 0 _ rfl
  obtain ⟨_, y1⟩ := r3 1 _ rfl
  obtain ⟨x0, rfl, _⟩ := int_read Tryz.underlying3 z0
  obtain ⟨x1, rfl, _⟩ := int_read Tryz.underlying3 z1
  obtain ⟨x2, rfl, _⟩ := int_read Tryz.underlying3 z2
  obtain ⟨x3, rfl, _⟩ := int_read Tryz.underlying3 z3
  obtain ⟨x4, rfl, _⟩ := int_read Tryz.underlying3 z4
  obtain ⟨x5, rfl, _⟩ := int_read Tryz.underlying3 z5
  obtain ⟨x6, rfl, _⟩ := int_read Tryz.underlying3 z6
  obtain ⟨x7, rfl, _⟩ := int_read Tryz.underlying3 z7
  obtain ⟨b0, rfl, hb0⟩ := byte_read Tryz.underlying5 y0
  obtain ⟨b1, rfl, hb1⟩ := byte_read Tryz.underlying5 y1
  obtain ⟨e0, rfl⟩ := Int.eq_ofNat_of_zero_le hb0.1
  obtain ⟨e1, rfl⟩ := Int.eq_ofNat_of_zero_le hb1.1
  have q0 : e0 < 256 := by omega
  have q1 : e1 < 256 := by omega
  exact ⟨⟨ha, L.length, hc, L, ta, nt, tc, T, x0, x1, x2, x3, x4, x5, x6, x7, e0, e1, ua, nu, uc, U⟩, rfl, rfl, T1, U1, L2, T2, T3, U2, U3, ⟨q0, q1⟩, L3, T4, Nat.le_trans U4 U5⟩
end
end
end Go.Proofs.YtpohaahihdhleaaGreat
