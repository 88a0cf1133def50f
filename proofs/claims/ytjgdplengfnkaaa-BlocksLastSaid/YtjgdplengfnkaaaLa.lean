/- law10: few, BlocksLast. -/
import Derived.Test.YtjgdplengfnkaaaLp
namespace Go.Proofs.Ytjgdplengfnkaaa
open Go.RowKit

set_option maxHeartbeats 1000000 in
theorem few_one {w : World} {g : Nat} {blk fuse : Int} {a : Option Addr} {n cap : Nat} (h0 : w.cell? ⟨g, 0, none⟩ = some (.int .i64 blk)) (h1 : w.cell? ⟨g, 1, none⟩ = some (.slice a n cap)) (h2 : w.cell? ⟨g, 2, none⟩ = some (.int .i64 fuse)) :
    Calls Try.prog 24 #[.slice (some ⟨g, 0, none⟩) 1 1] w fun e w' => e = .returned (.bool (decide (n ≤ 20))) ∧ w = w' := by
  go_enter Try.func24, Try.ntmps24
  go_wp2_with fail
  go_loop [3] (fun i => i = .int .i64 0 ∨ (n ≤ 20 ∧ i = .int .i64 1)) (fun i => 1 - (intOf i).toNat)
  case atStart => exact .inl rfl
  case round =>
    rcases hrel with rfl | ⟨hn, rfl⟩
    · by_cases hn : n ≤ 20
      · have hn' : ¬ (20 : Int) < (n : Int) := by omega
        go_wp2_with fail
        exact ⟨.inr ⟨hn, rfl⟩, by simp [intOf]⟩
      · have hn' : (20 : Int) < (n : Int) := by omega
        go_wp2_with fail
        go_ret
        exact ⟨rfl, rfl⟩
    · have hn' : ¬ (20 : Int) < (n : Int) := by omega
      go_wp2_with fail
      go_ret
      exact ⟨rfl, rfl⟩

set_option maxHeartbeats 4000000 in
set_option maxRecDepth 100000 in
theorem blocksLast_any (x : Nat) (hx : x < 256) (blk fuse : Int) (a : Option Addr) (n cap : Nat) (l : List Hd) (hn : l.length = n) (ca : Option Addr) (m cc : Nat) (cs : List Nat) (hm : cs.length = m) (w : World)
    (hc : Cells w a (hdCs l)) (hcs : Cells w ca (cs.map vu8)) (hu : ∀ z ∈ cs, z < 256) (hnm : n ≤ maxLen) (hmm : m ≤ maxLen) (hblk : -9223372036854775808 ≤ blk ∧ blk ≤ 9223372036854775807) :
    Calls Try.prog 5 #[.int .u8 (x : Int), .agg #[.int .i64 blk, .slice a n cap, .int .i64 fuse], .slice ca m cc] w fun e w' => e = .returned (.bool true) ∧ Below w.heap.size w w' := by
  unfold maxLen at hnm hmm
  have HN := Lib.hid hn
  have HM := Lib.hid hm
  have HC := Lib.hid hc
  have HCS := Lib.hid hcs
  have HU := Lib.hid hu
  clear hn hm hc hcs hu
  go_enter Try.func5, Try.ntmps5
  go_wp2_with fail
  have hb0 := below_alloc w (.cells #[.int .i64 blk, .slice a n cap, .int .i64 fuse] 62)
  have hr0 : RowAt (w.alloc (.cells #[.int .i64 blk, .slice a n cap, .int .i64 fuse] 62)) w.heap.size 62 [.int .i64 blk, .slice a n cap, .int .i64 fuse] := ⟨_, heap_alloc_new _ _, [], rfl⟩
  refine (awake_any _).mono ?_
  rintro e w1 ⟨rfl, hb1⟩
  obtain ⟨q, hq⟩ : ∃ q, q = w.heap.size := ⟨_, rfl⟩
  have hb1' := hb0.trans (hb1.mono hb0.size)
  have hr1 := hr0.keep (hb1.block _ hr0.lt)
  rw [← hq] at hr1 ⊢
  have HQ := Lib.hid hq
  have c0 := hr1.cell (i := 0) rfl
  have c1 := hr1.cell (i := 1) rfl
  have c2 := hr1.cell (i := 2) rfl
  have HB1 := Lib.hid hb1'
  have HR1 := Lib.hid hr1
  clear hb0 hr0 hb1 hb1' hr1 hq
  have hbx := below_alloc w1 (.cells #[.int .i64 blk, .slice a n cap, .int .i64 fuse] 62)
  have HB2 := Lib.hid (HB1.out.trans (hbx.mono HB1.out.size))
  have HR2 := Lib.hid (HR1.out.keep (hbx.block _ HR1.out.lt))
  have d0 : (w1.alloc (.cells #[.int .i64 blk, .slice a n cap, .int .i64 fuse] 62)).cell? ⟨w1.heap.size, 0, none⟩ = some (.int .i64 blk) := cell_alloc_new _ _ _ 0 _ rfl
  have d1 : (w1.alloc (.cells #[.int .i64 blk, .slice a n cap, .int .i64 fuse] 62)).cell? ⟨w1.heap.size, 1, none⟩ = some (.slice a n cap) := cell_alloc_new _ _ _ 1 _ rfl
  have d2 : (w1.alloc (.cells #[.int .i64 blk, .slice a n cap, .int .i64 fuse] 62)).cell? ⟨w1.heap.size, 2, none⟩ = some (.int .i64 fuse) := cell_alloc_new _ _ _ 2 _ rfl
  have HF := Lib.hid (few_one d0 d1 d2)
  clear hbx d0 d1 d2
  go_wp2_with fail
  refine HF.out.mono ?_
  rintro e w2 ⟨rfl, rfl⟩
  clear HF c0 c1 c2 HB1 HR1
  generalize w1.alloc (.cells #[.int .i64 blk, .slice a n cap, .int .i64 fuse] 62) = w2 at *
  by_cases hn2 : 20 < n
  · have hnd : decide (n ≤ 20) = false := by simpa using hn2
    go_wp2_with fail
    go_ret
    exact ⟨rfl, HB2.out⟩
  have hn3 : n ≤ 20 := by omega
  by_cases hm2 : (100 : Int) < (m : Int)
  · go_wp2_with fail
    go_ret
    exact ⟨rfl, HB2.out⟩
  obtain ⟨B, hB⟩ : ∃ B : Nat, B = 2 + x % 9 := ⟨_, rfl⟩
  have hB2 : 2 ≤ B := by omega
  have hB10 : B ≤ 10 := by omega
  have hBx : (2 : Int) + (x : Int) % 9 = (B : Int) := by omega
  clear hB
  clear hnm hmm
  have hbg := below_alloc w2 (.cells #[.int .i64 (B : Int)] 25)
  have hcg : (w2.alloc (.cells #[.int .i64 (B : Int)] 25)).cell? ⟨w2.heap.size, 0, none⟩ = some (.int .i64 (B : Int)) := cell_alloc_new _ _ _ 0 _ rfl
  have HB3 := Lib.hid (HB2.out.trans (hbg.mono HB2.out.size))
  have HR3 := Lib.hid (HR2.out.keep (hbg.block _ HR2.out.lt))
  have hqs := HR2.out.lt
  clear hbg HB2 HR2
  go_wp2_with fail
  refine (gwords_any _ _ (by omega) (by omega)).mono ?_
  rintro e w4 ⟨rfl, hb4⟩
  generalize w2.alloc (.cells #[.int .i64 (B : Int)] 25) = w3 at *
  generalize w2.heap.size = gg at *
  have hc4 := below_cells hb4 hcg (Nat.le_refl _)
  have HB4 := Lib.hid (HB3.out.trans (hb4.mono HB3.out.size))
  have HR4 := Lib.hid (HR3.out.keep (hb4.block _ HR3.out.lt))
  clear hb4 hcg HB3 HR3
  go_wp2_with fail
  refine (new_any _ _ (by omega)).mono ?_
  rintro e w5 ⟨F, rfl, hF, hd5, hb5⟩
  have hc5 := below_cells hb5 hc4 (Nat.le_refl _)
  have HB5 := Lib.hid (HB4.out.trans (hb5.mono HB4.out.size))
  have HR5 := Lib.hid (HR4.out.keep (hb5.block _ HR4.out.lt))
  have HF : Hid (∀ k ∈ F.list, w4.heap.size ≤ k) := Lib.hid hF
  have hgl : gg < w4.heap.size := World.block_lt_of_cell? _ _ hc4
  have hql : q < w4.heap.size := HR4.out.lt
  have HW4 : Hid (w.heap.size ≤ w4.heap.size) := Lib.hid HB4.out.size
  obtain ⟨S, hS⟩ : ∃ S, S = freshDev (List.replicate (8 * ((((B : Int) * 512).toNat + 7) / 8)) 0) ((((B : Int) * 512).toNat + 7) / 8) := ⟨_, rfl⟩
  have hwl : (List.replicate (8 * ((((B : Int) * 512).toNat + 7) / 8)) 0).length = 512 * B := by simp; omega
  have HS : Hid (S.live ∧ S.ok 100 ∧ S.cache.length = 512 * B ∧ S.cache.length = 8 * S.dirty.length ∧ S.inv) := Lib.hid (by
    rw [hS]
    refine ⟨fresh_live _ _, fresh_ok _ _ _, hwl, ?_, fresh_inv ?_ ?_ ?_⟩
    · simp [freshDev]
    · simp
    · rw [hwl]; omega
    · intro z hz; simp at hz; omega)
  have HD5 : Hid (DevAt w5 F S) := Lib.hid (by rw [hS]; exact hd5)
  clear hS hwl hd5 hb5 hF hc4 HB4 HR4
  have HCl : Hid (Clean (S.fmt B) B) := Lib.hid (fmt_clean HS.out.2.2.2.2 HS.out.1 HS.out.2.1 hB2 (by rw [HS.out.2.2.1]; omega))
  have HOk : Hid (AllOk (devWord (S.fmt B)) B) := Lib.hid (fmt_ok HS.out.1 HS.out.2.1 B hB2 HS.out.2.2.2.1 (by rw [HS.out.2.2.1]; omega))
  have HHd : Hid (hds (devWord (S.fmt B)) B = List.replicate B ⟨0, 0, 0⟩) := Lib.hid (fmt_hds HS.out.1 HS.out.2.1 B hB2 HS.out.2.2.2.1 (by rw [HS.out.2.2.1]; omega))
  unfold vdev
  go_wp2_with fail
  refine (format_any HD5.out HS.out.1 HS.out.2.1 B hB2 (by omega) (by rw [HS.out.2.2.1]; omega)).mono ?_
  rintro e w6 ⟨rfl, hd6, ht6⟩
  have hc6 : w6.cell? ⟨gg, 0, none⟩ = some (.int .i64 (B : Int)) := cell_of_touch ht6 (fun hm => by have := HF.out _ hm; simp at this; omega) hc5
  have HR6 := Lib.hid (HR5.out.keep (ht6.block q HR5.out.lt (fun hm => by have := HF.out _ hm; omega)))
  have HB6 : Hid (Below w.heap.size w w6) := Lib.hid (below_touch HB5.out ht6 (fun k hk => by have := HF.out k hk; have := HW4.out; omega) (Nat.le_refl _))
  have HD6 := Lib.hid hd6
  have HS6 : Hid ((S.fmt B).ok 201000) := Lib.hid ((Dev.persist_ok (fmtTo_inv HS.out.2.2.2.2 B).wf (fmtTo_props HS.out.1 HS.out.2.1 B (by rw [HS.out.2.2.1]; omega)).2.1 _ _).mono (by omega))
  clear hd6 ht6 hc5 HB5 HD5 HR5 HS
  generalize S.fmt B = S1 at *
  go_upto_region 9 with fail
  have r0 := fun x => later_cell hc6 x
  refine wp_region_seg (C := fun w' => ∃ x : Later (w6), w' = x.val) [.fl [0, 1, 3], .sq [2] true, .sq [4, 5] false, .fl [6, 7, 8], .sq [9] false] (by kernel_rfl) (by kernel_rfl) (by intro c a d v w h; cases d <;> exact h) ?_
  simp only [segs, picks, List.getElem?_cons_succ, List.getElem?_cons_zero]
  have hC1 := later_drew (w6)
  refine wpSeg_fl hC1 ?_
  repeat (quiet_step (fail))
  refine wpQuiet_nil ?_
  refine wpSeg_sq (fun K hK => ?_)
  go_wp2_with fail
  have HCc : Hid (Cells w6.drew ca (cs.map vu8)) := Lib.hid ((HCS.out.below HB6.out (Nat.le_refl _)).below (later_below hC1) (Nat.le_refl _))
  refine (crash_any (HD6.out.below (later_below hC1)) ca m cc cs HM.out HCc.out HU.out (by omega)).mono ?_
  rintro e w7 ⟨G, rfl, hG, hd7, hb7⟩
  have hC2 := later_step hC1 hb7
  have HD7 := Lib.hid hd7
  clear hd7 hb7
  unfold vdev
  go_wp2_with fail
  refine hK _ _ (fun _ => hC2) ?_
  clear hK K
  refine wpSeg_sq (fun K hK => ?_)
  go_wp2_with fail
  refine (open_tab HD7.out B (by omega) (by omega)).mono ?_
  rintro e w8 ⟨hb8, hcase⟩
  have HCW : Hid (∀ b, 1 ≤ b → b < B → devWord (S1.crash cs) b = devWord S1 b) := Lib.hid (crash_words HCl.out cs)
  have hC3 := later_step hC2 hb8
  rcases hcase with ⟨_, p1, rfl, hp1, htab1⟩ | hcase
  case inr =>
    obtain ⟨b8, hb80, hb8B, _, hbad, rfl⟩ := hcase
    exact absurd (allOk_of HCW.out HOk.out b8 hb80 hb8B) hbad
  rw [hds_of HCW.out, HHd.out] at htab1
  have HT1 := Lib.hid htab1
  clear hb8 htab1 HCW HD7
  go_wp2_with fail
  refine hK _ _ (fun _ => hC3) ?_
  clear hK K
  refine wpSeg_fl hC3 ?_
  repeat (quiet_step (fail))
  refine wpQuiet_nil ?_
  refine wpSeg_last ?_
  go_wp2_with fail
  have hC3b := hC3
  clear r0
  have HB8 := Lib.hid (HB6.out.trans ((later_below hC3).mono HB6.out.size))
  have HR8 := Lib.hid (HR6.out.keep ((later_below hC3).block q HR6.out.lt))
  have HD8 := Lib.hid (HD6.out.below (later_below hC3))
  have hc8 := below_cells (later_below hC3) hc6 (Nat.le_refl _)
  clear hC3b hC3 hC2 hC1 HCc HB6 HR6 HD6 hc6
  have r0 := fun x => later_cell hc8 x
  have hw1 : IntKind.i64.wrap ((B : Int) - 1) = (B : Int) - 1 := IntWalk.i64_in _ (by omega)
  go_upto_region 10 with fail
  refine wp_region_seg (C := fun w' => ∃ x : Later (w8), w' = x.val) [.sq [0, 1, 2] false, .fl [3, 5, 6, 7], .sq [4] true, .sq [8, 9] false] (by kernel_rfl) (by kernel_rfl) (by intro c a d v w h; cases d <;> exact h) ?_
  simp only [segs, picks, List.getElem?_cons_succ, List.getElem?_cons_zero]
  have hC1 := later_drew (w8)
  refine wpSeg_sq (fun K hK => ?_)
  go_wp2_with fail
  refine hK _ _ (fun h => nomatch h) ?_
  clear hK K
  refine wpSeg_fl hC1 ?_
  repeat (quiet_step (fail))
  refine wpQuiet_nil ?_
  refine wpSeg_sq (fun K hK => ?_)
  go_wp2_with fail
  refine (count_any (HT1.out.below (later_below hC1)) 0 (by simp; omega) (by simp; omega)).mono ?_
  rintro e w9 ⟨rfl, rfl⟩
  have HCn : Hid (((cntKind (List.replicate B (⟨0, 0, 0⟩ : Hd)) 0 (List.replicate B (⟨0, 0, 0⟩ : Hd)).length : Nat) : Int) = (B : Int) - 1) := Lib.hid (by rw [List.length_replicate, cnt_zero B B (Nat.le_refl _)]; omega)
  rw [HCn.out]
  have hne : (((B : Int) - 1) != ((B : Int) - 1)) = false := by simp
  go_wp2_with fail
  refine hK _ _ (fun _ => hC1) ?_
  clear hK K
  refine wpSeg_last ?_
  go_wp2_with fail
  have HB9 := Lib.hid (HB8.out.trans ((later_below hC1).mono HB8.out.size))
  have HR9 := Lib.hid (HR8.out.keep ((later_below hC1).block q HR8.out.lt))
  have HD9 := Lib.hid (HD8.out.below (later_below hC1))
  have hc9 := below_cells (later_below hC1) hc8 (Nat.le_refl _)
  clear hC1 HB8 HR8 HD8 hc8 r0 HT1 HCn
  generalize w8.drew = w9 at *
  refine (open_tabG HD9.out B (by omega) (by omega)).mono ?_
  rintro e w10 ⟨hb10, hcase⟩
  rcases hcase with ⟨_, p2, g2, c2, rfl, hp2, hg2, hpg2, htab2⟩ | hcase
  case inr =>
    obtain ⟨b8, hb80, hb8B, _, hbad, rfl⟩ := hcase
    exact absurd (HOk.out b8 hb80 hb8B) hbad
  rw [HHd.out] at htab2
  have HT2 := Lib.hid htab2
  have HB10 := Lib.hid (HB9.out.trans (hb10.mono HB9.out.size))
  have HR10 := Lib.hid (HR9.out.keep (hb10.block q HR9.out.lt))
  have HD10 := Lib.hid (HD9.out.below hb10)
  have hc10 := below_cells hb10 hc9 (Nat.le_refl _)
  have HMF : Hid (∀ k ∈ F.list, k < w9.heap.size) := Lib.hid HD9.out.mem
  have HW9 : Hid (w.heap.size ≤ w9.heap.size) := Lib.hid HB9.out.size
  have hgl9 : gg < w9.heap.size := World.block_lt_of_cell? _ _ hc9
  have hql9 : q < w9.heap.size := HR9.out.lt
  have k0 := HR10.out.cell (i := 0) rfl
  have k1 := HR10.out.cell (i := 1) rfl
  clear hb10 htab2 HB9 HR9 HD9 hc9
  have HL : Hid ((List.replicate B (⟨0, 0, 0⟩ : Hd)).length = B) := Lib.hid (by simp)
  generalize List.replicate B (⟨0, 0, 0⟩ : Hd) = L0 at *
  go_wp2_with fail
  refine (tput_any HD10.out HT2.out hpg2 (fun hm => by have := HMF.out _ hm; omega) (fun hm => by have := HMF.out _ hm; omega) (N := 201000) (by omega) HS6.out (by omega) a n cap l HN.out (HC.out.below HB10.out (Nat.le_refl _)) ?_ (by omega) blk).mono ?_
  · rintro hn0 b o s rfl hm
    have hbw : b < w.heap.size := by
      rcases HC.out with h | ⟨b', o', he, h⟩
      · have := congrArg List.length h
        rw [hdCs_length, HN.out] at this
        simp at this
        omega
      · cases he
        obtain ⟨v, hv⟩ : ∃ v, (hdCs l)[0]? = some v := ⟨_, List.getElem?_eq_getElem (by rw [hdCs_length, HN.out]; omega)⟩
        exact World.block_lt_of_cell? _ _ (h 0 v hv)
    rw [List.mem_cons] at hm
    have h9 := HW9.out
    rcases hm with rfl | hm
    · omega
    · have := HF.out _ hm
      have := HW4.out
      omega
  rintro e w11 ⟨rfl, hd11, ht11, hh11⟩
  have HD11 := Lib.hid hd11
  have hgn : gg ∉ g2 :: F.list := by
    rw [List.mem_cons]
    rintro (h | h)
    · omega
    · have := HF.out _ h; omega
  have hqn : q ∉ g2 :: F.list := by
    rw [List.mem_cons]
    rintro (h | h)
    · omega
    · have := HF.out _ h; omega
  have hc11 := cell_of_touch hh11 (p := ⟨gg, 0, none⟩) hgn hc10
  have HR11 := Lib.hid (HR10.out.keep (hh11.block q HR10.out.lt hqn))
  have HB11 : Hid (Below w.heap.size w w11) := Lib.hid (below_touch HB10.out hh11 (fun k hk => by
    rw [List.mem_cons] at hk
    have := HW9.out
    rcases hk with rfl | hk
    · omega
    · have := HF.out k hk; have := HW4.out; omega) (Nat.le_refl _))
  clear hd11 ht11 hh11 HD10 HR10 HB10 hc10 HT2 k0 k1 hgn hqn
  by_cases hz : (putAll S1 L0 blk l).err = 0
  case neg =>
    have hz1 : ((putAll S1 L0 blk l).err != 0) = true := by simpa using hz
    clear hz
    go_wp2_with fail
    go_ret
    exact ⟨rfl, HB11.out⟩
  have HCl2 := Lib.hid (put_clean HCl.out HL.out hz).1
  have HWd := Lib.hid (put_words HCl.out HOk.out HL.out hz)
  have HPC := Lib.hid (put_clean HCl.out HL.out hz).2
  rw [hz]
  clear hz
  generalize (putAll S1 L0 blk l).dev = S2 at *
  go_upto_region 15 with fail
  have r0 := fun x => later_cell hc11 x
  refine wp_region_seg (C := fun w' => ∃ x : Later (w11), w' = x.val) [.fl [0, 1, 3], .sq [2] true, .sq [4, 5] false, .fl [6, 7, 8], .sq [9] false] (by kernel_rfl) (by kernel_rfl) (by intro c a d v w h; cases d <;> exact h) ?_
  simp only [segs, picks, List.getElem?_cons_succ, List.getElem?_cons_zero]
  have hC1 := later_drew (w11)
  refine wpSeg_fl hC1 ?_
  repeat (quiet_step (fail))
  refine wpQuiet_nil ?_
  refine wpSeg_sq (fun K hK => ?_)
  go_wp2_with fail
  have HCc : Hid (Cells w11.drew ca (cs.map vu8)) := Lib.hid ((HCS.out.below HB11.out (Nat.le_refl _)).below (later_below hC1) (Nat.le_refl _))
  refine (crash_any (HD11.out.below (later_below hC1)) ca m cc cs HM.out HCc.out HU.out (by omega)).mono ?_
  rintro e w12 ⟨G2, rfl, hG2, hd12, hb12⟩
  have hC2 := later_step hC1 hb12
  have HD12 := Lib.hid hd12
  clear hd12 hb12
  unfold vdev
  go_wp2_with fail
  refine hK _ _ (fun _ => hC2) ?_
  clear hK K
  refine wpSeg_sq (fun K hK => ?_)
  go_wp2_with fail
  refine (open_tab HD12.out B (by omega) (by omega)).mono ?_
  rintro e w13 ⟨hb13, hcase⟩
  have HCW : Hid (∀ b, 1 ≤ b → b < B → devWord (S2.crash cs) b = devWord S2 b) := Lib.hid (crash_words HCl2.out cs)
  have hC3 := later_step hC2 hb13
  rcases hcase with ⟨_, p3, rfl, hp3, htab3⟩ | hcase
  case inr =>
    obtain ⟨b8, hb80, hb8B, _, hbad, rfl⟩ := hcase
    exact absurd (allOk_of HCW.out HWd.out.1 b8 hb80 hb8B) hbad
  rw [hds_of HCW.out] at htab3
  have HT3 := Lib.hid htab3
  clear hb13 htab3 HCW HD12
  go_wp2_with fail
  refine hK _ _ (fun _ => hC3) ?_
  clear hK K
  refine wpSeg_fl hC3 ?_
  repeat (quiet_step (fail))
  refine wpQuiet_nil ?_
  refine wpSeg_last ?_
  go_wp2_with fail
  have HB13 := Lib.hid (HB11.out.trans ((later_below hC3).mono HB11.out.size))
  have HR13 := Lib.hid (HR11.out.keep ((later_below hC3).block q HR11.out.lt))
  clear hC3 hC2 hC1 HCc HB11 HR11 HD11 hc11 r0
  have HGet : Hid (∀ i, i < n → hdGet (hds (devWord S2) B) (blk + (i : Int)) = l.getD i default) := Lib.hid (by have := HWd.out.2; rwa [HN.out] at this)
  have HHL : Hid ((hds (devWord S2) B).length = B) := Lib.hid (hds_length _ _)
  generalize hds (devWord S2) B = hl at *
  have k0 := HR13.out.cell (i := 0) rfl
  have k1 := HR13.out.cell (i := 1) rfl
  have HBk : Hid (∀ i, i < n → 0 ≤ blk ∧ blk + (i : Int) < 1000) := Lib.hid (fun i hi => by
    obtain ⟨k, rfl, h1, h2, _⟩ := HPC.out
    have h3 := HN.out
    omega)
  go_wp2_with fail
  go_loopw [12] (fun i wr => ∃ k : Nat, k ≤ n ∧ i = .int .i64 k ∧ Below w13.heap.size w13 wr) (fun i _ => n - (intOf i).toNat)
  case atStart => exact ⟨0, Nat.zero_le _, rfl, Below.refl _ _⟩
  case round =>
    obtain ⟨k, hk, rfl, hbr⟩ := hrel
    have HBr := Lib.hid hbr
    have j0 := below_cells hbr k0 (Nat.le_refl _)
    have j1 := below_cells hbr k1 (Nat.le_refl _)
    clear hbr k0 k1
    by_cases hlt : k < n
    · have hlt' : (k : Int) < (n : Int) := by omega
      have hbk := HBk.out k hlt
      obtain ⟨x1, y1, z1, he⟩ : ∃ x y z, l.getD k default = ⟨x, y, z⟩ := ⟨_, _, _, rfl⟩
      obtain ⟨b1, o1, rfl, d0, d1, d2⟩ := hd_cells ((HC.out.below HB13.out (Nat.le_refl _)).below HBr.out (Nat.le_refl _)) (by rw [HN.out]; exact hlt) he
      have HGk := HGet.out k hlt
      rw [he] at HGk
      have HGK := Lib.hid HGk
      clear he HGk
      go_upto_region 21 with fail
      have r0 := fun x => later_cell j0 x
      have r1 := fun x => later_cell j1 x
      have r2 := fun x => later_cell d0 x
      have r3 := fun x => later_cell d1 x
      have r4 := fun x => later_cell d2 x
      have hw2 : IntKind.i64.wrap (blk + (k : Int)) = blk + (k : Int) := IntWalk.i64_in _ (by omega)
      refine wp_region_seg (C := fun w' => ∃ x : Later (wr), w' = x.val) [.fl [0, 1, 2, 3, 4, 6, 7, 8, 9, 10], .sq [5] true, .sq [11] false] (by kernel_rfl) (by kernel_rfl) (by intro c a d v w h; cases d <;> exact h) ?_
      simp only [segs, picks, List.getElem?_cons_succ, List.getElem?_cons_zero]
      have hC1 := later_drew (wr)
      refine wpSeg_fl hC1 ?_
      repeat (quiet_step (fail))
      refine wpQuiet_nil ?_
      refine wpSeg_sq (fun K hK => ?_)
      go_wp2_with fail
      refine (tget_any (HT3.out.below (HBr.out.trans ((later_below hC1).mono HBr.out.size))) (blk + (k : Int)) (by rw [HHL.out]; omega)).mono ?_
      rw [HGK.out]
      unfold Hd.val
      dsimp only
      rintro e w14 ⟨rfl, hb14⟩
      have hC2 := later_step hC1 hb14
      clear hb14
      go_wp2_with fail
      refine hK _ _ (fun _ => hC2) ?_
      clear hK K
      have heq : ∀ w', (Op.equalIn 10000 48 (.agg #[.int .i64 x1, .int .i64 y1, .int .i64 z1]) (.agg #[.int .i64 x1, .int .i64 y1, .int .i64 z1])).run Try.prog w' = .ok true w' := fun w' => equalBh w' _ _ _ _ _ _ _ (by simp)
      have hgd := gsBh
      refine wpSeg_last ?_
      go_wp2_with fail
      exact ⟨⟨k + 1, by omega, vint (by omega), HBr.out.trans ((later_below hC2).mono HBr.out.size)⟩, by simp [intOf]; omega⟩
    · obtain rfl : k = n := by omega
      have hlt' : decide ((k : Int) < (k : Int)) = false := by simp
      go_wp2_with fail
      go_ret
      exact ⟨rfl, HB13.out.trans (HBr.out.mono HB13.out.size)⟩

end Go.Proofs.Ytjgdplengfnkaaa
