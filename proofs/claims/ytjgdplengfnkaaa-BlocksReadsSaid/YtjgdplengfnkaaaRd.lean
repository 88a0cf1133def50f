/- law10.BlocksReads. -/
import Derived.Test.YtjgdplengfnkaaaRl
import Derived.Test.YtjgdplengfnkaaaMix
namespace Go.Proofs.Ytjgdplengfnkaaa
open Go.RowKit

def allW (ws : List Nat) (B : Nat) : List Nat := splice (List.replicate (512 * B) 0) 257 ws
theorem allW_length (ws : List Nat) (B : Nat) (h : 257 + ws.length ≤ 512 * B) : (allW ws B).length = 512 * B := by
  unfold allW; rw [length_splice _ _ _ (by simp; exact h)]; simp
theorem pad_self (l : List Nat) (m : Nat) (h : l.length = 8 * m) : padTo l (8 * ((l.length + 7) / 8)) = l := by
  unfold padTo; rw [show 8 * ((l.length + 7) / 8) - l.length = 0 by omega]; simp

theorem TabAt.below {w w' : World} {p B : Nat} {F : Foot} {l : List Hd} (h : TabAt w p F B l) (hb : Below w.heap.size w w') : TabAt w' p F B l := by
  obtain ⟨g, c, hp, hc, hr, hne⟩ := h.ex
  exact ⟨g, c, (hb.block p (Array.getElem?_eq_some_iff.1 hp).1).trans hp, hc, hr.keep (hb.block g hr.lt), hne⟩
theorem TabAt.lt {w : World} {p B : Nat} {F : Foot} {l : List Hd} (h : TabAt w p F B l) : p < w.heap.size := by
  obtain ⟨g, c, hp, _⟩ := h.ex
  exact (Array.getElem?_eq_some_iff.1 hp).1
theorem hds_zero (f : Nat → Nat) (B : Nat) (h : 1 ≤ B) : (hds f B).getD 0 default = ⟨0, 0, 0⟩ := by
  obtain ⟨k, rfl⟩ : ∃ k, B = k + 1 := ⟨B - 1, by omega⟩
  simp [hds, hdF, List.range_succ_eq_map]
theorem hdGet_in {l : List Hd} {j : Nat} (hj : j < l.length) (h0 : l.getD 0 default = ⟨0, 0, 0⟩) : hdGet l (j : Int) = l.getD j default := by
  unfold hdGet
  split
  · obtain rfl : j = 0 := by omega
    exact h0.symm
  · rfl
theorem first_bad {f : Nat → Nat} {b c : Nat} (h1 : AllOk f b) (h2 : (decN b (f b)).code ≠ 0) (h3 : 1 ≤ b) (k1 : AllOk f c) (k2 : (decN c (f c)).code ≠ 0) (k3 : 1 ≤ c) : b = c := by
  rcases Nat.lt_trichotomy b c with h | h | h
  · exact absurd (k1 b h3 h) h2
  · exact h
  · exact absurd (h1 c k3 h) k2

set_option maxHeartbeats 4000000 in
set_option maxRecDepth 100000 in
theorem blocksReads_any (a : Option Addr) (n cap : Nat) (ws : List Nat) (hn : ws.length = n) (block kind : Int) (w : World) (hc : Cells w a (ws.map vu64)) (hu : ∀ z ∈ ws, z < 18446744073709551616) (hmx : n ≤ maxLen) :
    Calls Try.prog 3 #[.slice a n cap, .int .i64 block, .int .i64 kind] w fun e w' => e = .returned (.bool true) ∧ Below w.heap.size w w' := by
  unfold maxLen at hmx
  have HN := Lib.hid hn
  have HC := Lib.hid hc
  have HU := Lib.hid hu
  clear hn hc hu
  by_cases h8 : 8 < n
  · have h8' : (8 : Int) < (n : Int) := by omega
    go_enter Try.func3, Try.ntmps3
    go_wp2_with fail
    refine (awake_any _).mono ?_
    rintro e w1 ⟨rfl, hb1⟩
    have HB1 := Lib.hid hb1
    clear hb1
    go_wp2_with fail
    go_ret
    exact ⟨rfl, HB1.out⟩
  obtain ⟨B, hB⟩ : ∃ B, B = n + 1 := ⟨_, rfl⟩
  have hnb : (n : Int) + 1 = (B : Int) := by omega
  by_cases h2 : B < 2
  · have h2' : (B : Int) < 2 := by omega
    have h8' : ¬ (8 : Int) < (n : Int) := by omega
    clear hB
    go_enter Try.func3, Try.ntmps3
    go_wp2_with fail
    refine (awake_any _).mono ?_
    rintro e w1 ⟨rfl, hb1⟩
    have HB1 := Lib.hid hb1
    clear hb1
    go_wp2_with fail
    go_ret
    exact ⟨rfl, HB1.out.alloc HB1.out.size _⟩
  have h2' : ¬ (B : Int) < 2 := by omega
  have h2'' : (2 : Int) ≤ (B : Int) := by omega
  have h8' : ¬ (8 : Int) < (n : Int) := by omega
  have hB9 : B ≤ 9 := by omega
  have h8d : decide ((8 : Int) < (n : Int)) = false := by simpa using h8'
  have h2d : decide ((B : Int) < 2) = false := by simpa using h2'
  obtain ⟨b, off, rfl, hcs⟩ : ∃ b off, a = some ⟨b, off, none⟩ ∧ ∀ i v, (ws.map vu64)[i]? = some v → w.cell? ⟨b, off + i, none⟩ = some v := by
    rcases HC.out with h | h
    · have := congrArg List.length h
      simp [HN.out] at this
      omega
    · exact h
  have HCS := Lib.hid hcs
  clear hcs
  have HBn := Lib.hid hB
  clear hB
  go_enter Try.func3, Try.ntmps3
  go_wp2_with fail
  refine (awake_any _).mono ?_
  rintro e w1 ⟨rfl, hb1⟩
  have HB1 := Lib.hid hb1
  have hcx : (w1.alloc (.cells #[.int .i64 (B : Int)] 25)).cell? ⟨w1.heap.size, 0, none⟩ = some (.int .i64 (B : Int)) := cell_alloc_new _ _ _ 0 _ rfl
  have hbx := below_alloc w1 (.cells #[.int .i64 (B : Int)] 25)
  have HB2 := Lib.hid (HB1.out.trans (hbx.mono HB1.out.size))
  clear hb1 hbx
  go_upto_region 9 with (at_make; refine wpList_make_len el64 (w1.heap.size + 1) (512 * B) rfl (by omega) (by omega) (by omega) (by decide) (by simp) rfl rfl rfl rfl ?_; intro w2 hown hgrow; have HR : Hid (RowAt w2 (w1.heap.size + 1) 76 (List.replicate (512 * B) (.int .u64 0))) := Lib.hid (by have := owned_row hown; simpa using this); have HG := Lib.hid (below_grown hgrow (Nat.le_refl _)); clear hown hgrow)
  have HCS2 : Hid (∀ i v, (ws.map vu64)[i]? = some v → w2.cell? ⟨b, off + i, none⟩ = some v) := Lib.hid (fun i v hi => below_cells HG.out (below_cells HB2.out (HCS.out i v hi) (Nat.le_refl _)) (Nat.le_refl _))
  have HRr : Hid (RowAt w2 (w1.heap.size + 1) 76 ((List.replicate (512 * B) 0).map vu64)) := Lib.hid (by rw [List.map_replicate]; exact HR.out)
  have HM : Hid ((ws.map vu64).length = Nat.min n (512 * B - 257)) := Lib.hid (by rw [List.length_map, HN.out]; exact (Nat.min_eq_left (by omega)).symm)
  have HFit : Hid (257 + (ws.map vu64).length ≤ ((List.replicate (512 * B) 0).map vu64).length) := Lib.hid (by simp [HN.out]; omega)
  have hc2 : w2.cell? ⟨w1.heap.size, 0, none⟩ = some (.int .i64 (B : Int)) := below_cells HG.out hcx (Nat.le_refl _)
  have h257 : 257 ≤ 512 * B := by omega
  have h257' : ¬ 512 * B = 257 := by omega
  have h257i : (257 : Int) ≤ 512 * (B : Int) := by omega
  go_upto_region 10 with ((refine wpList_copy_row (off := 257) (dLen := 512 * B - 257) (sLen := n) rfl rfl Try.underlying22 (by kernel_rfl) rfl rfl HRr.out (ws.map vu64) HM.out HCS2.out HFit.out (one_cells _) ?_); intro w3 hr3 ht3; rw [splice_map] at hr3; have HR3 := Lib.hid hr3; have HT3 := Lib.hid ht3; clear hr3 ht3)
  generalize goInt ((ws.map vu64).length : Nat) = gi
  have hlen : (allW ws B).length = 512 * B := allW_length ws B (by rw [HN.out]; omega)
  have hua : ∀ z ∈ allW ws B, z < 18446744073709551616 := splice_lt _ (by intro z hz; simp at hz; omega) HU.out
  have HRA : Hid (RowAt w3 (w1.heap.size + 1) 76 ((allW ws B).map vu64)) := Lib.hid HR3.out
  have hc3 : w3.cell? ⟨w1.heap.size, 0, none⟩ = some (.int .i64 (B : Int)) := cell_of_touch HT3.out (by simp) hc2
  have HB3 : Hid (Below w.heap.size w w3) := Lib.hid (by
    have h1 := HB2.out.trans (HG.out.mono HB2.out.size)
    exact below_touch h1 HT3.out (fun k hk => by simp at hk; have := HB1.out.size; omega) (Nat.le_refl _))
  obtain ⟨al, hal⟩ : ∃ al, al = allW ws B := ⟨_, rfl⟩
  rw [← hal] at hlen hua HRA
  have HLn := Lib.hid hlen
  have HUa := Lib.hid hua
  obtain ⟨gx, hgx⟩ : ∃ gx, gx = w1.heap.size := ⟨_, rfl⟩
  obtain ⟨ga, hga⟩ : ∃ ga, ga = w1.heap.size + 1 := ⟨_, rfl⟩
  rw [← hga] at HRA ⊢
  rw [← hgx] at hc3 ⊢
  clear hal hlen hua HR3 HT3 hc2 hcx HB2 HG HCS2 HR HRr HM HFit h257 h257' h257i HCS HB1 hgx hga HU hnb
  go_wp2_with fail
  refine (nload_any ga 0 (512 * B) al HLn.out w3 (fun i v hi => by rw [Nat.zero_add]; exact HRA.out.cell hi) (by omega) HUa.out).mono ?_
  rintro e w4 ⟨F, rfl, hF, hd4, hb4⟩
  have HRA4 := Lib.hid (HRA.out.keep (hb4.block ga HRA.out.lt))
  have hc4 := below_cells hb4 hc3 (Nat.le_refl _)
  have HPad : Hid (padTo al (8 * ((512 * B + 7) / 8)) = al ∧ (512 * B + 7) / 8 = 64 * B) := Lib.hid ⟨by have := pad_self al (64 * B) (by rw [HLn.out]; omega); rwa [HLn.out] at this, by omega⟩
  have HD4 : Hid (DevAt w4 F (freshDev al (64 * B))) := Lib.hid (by rw [HPad.out.1, HPad.out.2] at hd4; exact hd4)
  have HB4 := Lib.hid (HB3.out.trans (hb4.mono HB3.out.size))
  clear hd4 hb4 hF hc3 HB3 HRA
  go_wp2_with fail
  refine (rload_any (some ⟨ga, 0, none⟩) (512 * B) (512 * B) al HLn.out w4 HRA4.out.cells (by omega) HUa.out).mono ?_
  rintro e w5 ⟨v5, rfl, hR5, hb5⟩
  rw [HPad.out.1, HPad.out.2] at hR5
  obtain ⟨an, cn, al', cl, aw, cw, ad, cd, ap, cp, rfl, h1, h2x, h3, h4, h5⟩ := hR5.ex
  have HNow : Hid (Cells w5 an (al.map vu64)) := Lib.hid h1
  have hc5 := below_cells hb5 hc4 (Nat.le_refl _)
  have HD5 := Lib.hid (HD4.out.below hb5)
  have HB5 := Lib.hid (HB4.out.trans (hb5.mono HB4.out.size))
  clear h1 h2x h3 h4 h5 hb5 hR5 hc4 HD4 HB4 HRA4
  generalize (freshR al (64 * B)).steps = q1
  generalize (freshR al (64 * B)).fuse = q2
  generalize (freshR al (64 * B)).dead = q3
  have hgxl : gx < w5.heap.size := World.block_lt_of_cell? _ _ hc5
  have HBA := Lib.hid (below_alloc w5 (.cells #[.slice an (64 * B) cn, .slice al' (64 * B) cl, .slice aw (64 * B) cw, .slice ad (64 * B) cd, .slice ap (64 * B) cp, .int .i64 q1, .int .i64 q2, .bool q3] 31))
  have HCe : Hid (∀ i v, [Value.slice an (64 * B) cn, .slice al' (64 * B) cl, .slice aw (64 * B) cw, .slice ad (64 * B) cd, .slice ap (64 * B) cp, .int .i64 q1, .int .i64 q2, .bool q3][i]? = some v → (w5.alloc (.cells #[.slice an (64 * B) cn, .slice al' (64 * B) cl, .slice aw (64 * B) cw, .slice ad (64 * B) cd, .slice ap (64 * B) cp, .int .i64 q1, .int .i64 q2, .bool q3] 31)).cell? ⟨w5.heap.size, 0 + i, none⟩ = some v) := Lib.hid (fun i v hi => by rw [Nat.zero_add]; exact cell_alloc_new _ _ _ i v (by simpa using hi))
  go_upto_region 11 with fail
  have HD6 := Lib.hid (HD5.out.below HBA.out)
  have HN6 := Lib.hid (HNow.out.below HBA.out (Nat.le_refl _))
  have hc6 := below_cells HBA.out hc5 (Nat.le_refl _)
  have HB6 := Lib.hid (HB5.out.trans (HBA.out.mono HB5.out.size))
  generalize w5.alloc (.cells #[.slice an (64 * B) cn, .slice al' (64 * B) cl, .slice aw (64 * B) cw, .slice ad (64 * B) cd, .slice ap (64 * B) cp, .int .i64 q1, .int .i64 q2, .bool q3] 31) = w6 at *
  generalize w5.heap.size = gr at *
  clear HBA HD5 HNow hc5 HB5 hgxl
  have hB1 : 1 ≤ B := by omega
  have HFe : Hid (devWord (freshDev al (64 * B)) = fun b : Nat => peek al (256 + (b : Int))) := Lib.hid rfl
  obtain ⟨f, hf⟩ : ∃ f : Nat → Nat, f = fun b : Nat => peek al (256 + (b : Int)) := ⟨_, rfl⟩
  have HFE := Lib.hid hf
  clear hf
  have HN9 : Hid (al.length = 8 * (64 * B)) := Lib.hid (by rw [HLn.out]; omega)
  go_wp2_with fail
  refine (read_any HD6.out B hB1 (by omega)).mono ?_
  rw [HFe.out, ← HFE.out]
  rintro e w7 ⟨hb7, hcase7⟩
  have HC7 := Lib.hid hcase7
  have HCe7 : Hid (∀ i v, [Value.slice an (64 * B) cn, .slice al' (64 * B) cl, .slice aw (64 * B) cw, .slice ad (64 * B) cd, .slice ap (64 * B) cp, .int .i64 q1, .int .i64 q2, .bool q3][i]? = some v → w7.cell? ⟨gr, 0 + i, none⟩ = some v) := Lib.hid (fun i v hi => below_cells hb7 (HCe.out i v hi) (Nat.le_refl _))
  have hc7 := below_cells hb7 hc6 (Nat.le_refl _)
  have HD7 := Lib.hid (HD6.out.below hb7)
  have HN7 := Lib.hid (HN6.out.below hb7 (Nat.le_refl _))
  have HB7 := Lib.hid (HB6.out.trans (hb7.mono HB6.out.size))
  clear hcase7 hb7 hc6 HD6 HN6 HB6 HCe
  rcases HC7.out with ⟨hok, g7, c7, rfl, hg7, hgc7, hr7⟩ | ⟨b7, hb70, hb7B, hok, hbad, rfl⟩
  · have HOK := Lib.hid hok
    have HR7 := Lib.hid hr7
    clear HC7 hok hr7
    go_wp2_with (refine wpList_load_part aggRd [Value.slice an (64 * B) cn, .slice al' (64 * B) cl, .slice aw (64 * B) cw, .slice ad (64 * B) cd, .slice ap (64 * B) cp, .int .i64 q1, .int .i64 q2, .bool q3] HCe7.out rfl rfl rfl rfl ?_)
    refine (rread_any an (64 * B) cn al _ _ _ _ _ _ _ w7 HN7.out HN9.out (by omega) HUa.out B hB1 (by omega)).mono ?_
    rw [← HFE.out]
    rintro e w8 ⟨hb8, ⟨_, g8, c8, rfl, hg8, hgc8, hr8⟩ | ⟨b8, hb80, hb8B, _, hbad, rfl⟩⟩
    · have HR8 := Lib.hid hr8
      have HR78 := Lib.hid (HR7.out.keep (hb8.block g7 HR7.out.lt))
      have hc8 := below_cells hb8 hc7 (Nat.le_refl _)
      have HD8 := Lib.hid (HD7.out.below hb8)
      have HB8 := Lib.hid (HB7.out.trans (hb8.mono HB7.out.size))
      clear hb8 hr8 hc7 HD7 HB7 HN7 HCe7 HR7
      go_wp2_with fail
      refine (open_tab HD8.out B hB1 (by omega)).mono ?_
      rw [HFe.out, ← HFE.out]
      rintro e w9 ⟨hb9, ⟨_, p, rfl, hp, htab⟩ | ⟨b9, hb90, hb9B, _, hbad, rfl⟩⟩
      · have HB9 := Lib.hid (HB8.out.trans (hb9.mono HB8.out.size))
        have HT9 := Lib.hid htab
        have HR79 := Lib.hid (HR78.out.keep (hb9.block g7 HR78.out.lt))
        have HR89 := Lib.hid (HR8.out.keep (hb9.block g8 HR8.out.lt))
        clear hb9 htab HD8 HB8 hc8 HR78 HR8
        go_wp2_with fail
        refine (refs_any (some ⟨g7, 0, none⟩) B c7 (hds f B) (hds_length _ _) w9 HR79.out.cells (by omega)).mono ?_
        rintro e w10 ⟨v, rfl, ho, hb10⟩
        obtain ⟨a10, c10, rfl, hcs10⟩ := cells_of_owned ho
        have HC10 := Lib.hid hcs10
        have HB10 := Lib.hid (HB9.out.trans (hb10.mono HB9.out.size))
        have HT10 := Lib.hid (HT9.out.below hb10)
        have HR7x := Lib.hid (HR79.out.keep (hb10.block g7 HR79.out.lt))
        have HR8x := Lib.hid (HR89.out.keep (hb10.block g8 HR89.out.lt))
        clear hcs10 ho hb10 HB9 HT9 HR79 HR89
        go_wp2_with fail
        refine (rsame_any a10 (some ⟨g8, 0, none⟩) B B _ _ (hds f B) (hds f B) (hds_length _ _) (hds_length _ _) w10 HC10.out HR8x.out.cells (by omega) (by omega)).mono ?_
        rintro e w11 ⟨rfl, q, rfl⟩
        have hse : sameHd (hds f B) (hds f B) = true := by simp [sameHd]
        rw [hse]
        clear hse
        have HB11 := Lib.hid (below_drewN HB10.out q)
        have HT11 := Lib.hid (HT10.out.below (below_drewN (Below.refl _ _) q))
        have HR7y : Hid (RowAt (w10.drewN q) g7 48 (hdCs (hds f B))) := Lib.hid (HR7x.out.keep (by simp))
        have HR8y : Hid (RowAt (w10.drewN q) g8 46 (hdCs (hds f B))) := Lib.hid (HR8x.out.keep (by simp))
        clear HB10 HT10 HR7x HR8x HC10
        generalize w10.drewN q = w11 at *
        go_upto_region 19 with fail
        have HBh := Lib.hid (below_alloc w11 (.cells #[.int .i64 0, .int .i64 0, .int .i64 0] 46))
        have hrh : RowAt (w11.alloc (.cells #[.int .i64 0, .int .i64 0, .int .i64 0] 46)) w11.heap.size 46 [.int .i64 0, .int .i64 0, .int .i64 0] := ⟨_, heap_alloc_new _ _, [], rfl⟩
        have HRh := Lib.hid hrh
        have HB12 := Lib.hid (HB11.out.trans (HBh.out.mono HB11.out.size))
        have HR812 := Lib.hid (HR8y.out.keep (HBh.out.block g8 HR8y.out.lt))
        have hne8 : g8 ≠ w11.heap.size := Nat.ne_of_lt HR8y.out.lt
        have hgeq : w.heap.size ≤ w11.heap.size := HB11.out.size
        clear hrh HB11 HR8y
        generalize w11.alloc (.cells #[.int .i64 0, .int .i64 0, .int .i64 0] 46) = w12 at *
        obtain ⟨gh, hgh⟩ : ∃ gh, gh = w11.heap.size := ⟨_, rfl⟩
        have HGH := Lib.hid hgh
        rw [← hgh] at HRh hne8 hgeq ⊢
        clear hgh
        go_cut [104] from 97 (fun s wc => s = .bool (decide (0 ≤ block ∧ block < (B : Int))) ∧ wc = w12)
        case first =>
          by_cases hq0 : 0 ≤ block
          · have hq0' : decide (0 ≤ block) = true := by simpa using hq0
            by_cases hq1 : block < (B : Int)
            · have hq1' : decide (block < (B : Int)) = true := by simpa using hq1
              go_wp2_with fail
              go_meet
              exact ⟨by simp [*], rfl⟩
            · have hq1' : decide (block < (B : Int)) = false := by simpa using hq1
              go_wp2_with fail
              go_meet
              exact ⟨by simp [*], rfl⟩
          · have hq0' : decide (0 ≤ block) = false := by simpa using hq0
            go_wp2_with fail
            go_meet
            exact ⟨by simp [*], rfl⟩
        case rest =>
          obtain ⟨rfl, rfl⟩ := hcut
          have HHL : Hid ((hds f B).length = B) := Lib.hid (hds_length _ _)
          have HH0 : Hid ((hds f B).getD 0 default = ⟨0, 0, 0⟩) := Lib.hid (hds_zero f B hB1)
          generalize hds f B = hl at *
          go_upto_if 104 with fail
          go_cut [] from 97 (fun w13 => ∃ x y z, RowAt w13 gh 46 [.int .i64 x, .int .i64 y, .int .i64 z] ∧ ⟨x, y, z⟩ = hdGet hl block ∧ Touch [gh] wc w13)
          case first =>
            by_cases hq : 0 ≤ block ∧ block < (B : Int)
            · obtain ⟨hq0, hq1⟩ := hq
              have hq' : decide (0 ≤ block ∧ block < (B : Int)) = true := by simp [hq0, hq1]
              have hq2' : decide (block < (B : Int)) = true := by simp [hq1]
              obtain ⟨j, rfl⟩ := Int.eq_ofNat_of_zero_le hq0
              have hj : j < B := by omega
              obtain ⟨x, y, z, hxyz⟩ := hdGetD hl j
              obtain ⟨b2, o2, hbo, d3, d4, d5⟩ := hd_cells HR812.out.cells (by rw [HHL.out]; exact hj) hxyz
              obtain ⟨rfl, rfl⟩ : b2 = g8 ∧ o2 = 0 := by simpa [eq_comm] using hbo
              simp only [Nat.zero_add] at d3 d4 d5
              have HX := Lib.hid hxyz
              clear hxyz hbo
              have hqq : decide (0 ≤ (j : Int) ∧ (j : Int) < (B : Int)) = true := by simp [hq1]
              rw [hqq]
              clear hqq hq' hq2'
              go_wp2_with (refine wpList_store_part aggRh (g := gh) (off := 0) (cs := #[.int .i64 x, .int .i64 y, .int .i64 z]) HRh.out rfl (Nat.le_of_ble_eq_true rfl) (by intro u hu; simp at hu; rcases hu with rfl | rfl | rfl <;> rfl) rfl rfl rfl rfl ?_; intro w13 hr13 ht13; have HR13 := Lib.hid hr13; have HT13 := Lib.hid ht13; clear hr13 ht13)
              go_meet
              refine ⟨x, y, z, HR13.out, ?_, HT13.out⟩
              rw [← HX.out]
              exact (hdGet_in (l := hl) (j := j) (by rw [HHL.out]; exact hj) HH0.out).symm
            · have hq' : decide (0 ≤ block ∧ block < (B : Int)) = false := by simpa using hq
              rw [hq']
              have HQ := Lib.hid hq
              clear hq hq'
              go_wp2_with fail
              go_meet
              refine ⟨0, 0, 0, HRh.out, ?_, Touch.refl _ _⟩
              unfold hdGet
              rw [if_pos (by have := HQ.out; rw [HHL.out]; omega)]
          case rest =>
            obtain ⟨x, y, z, hr13, hxyz, ht13⟩ := hcut
            have HXY := Lib.hid hxyz
            have HRh13 := Lib.hid hr13
            have HR813 := Lib.hid (HR812.out.keep (ht13.block g8 HR812.out.lt (by simpa using hne8)))
            have HBx : Hid (Below w11.heap.size w11 wc) := Lib.hid (below_touch HBh.out ht13 (fun k hk => by simp at hk; rw [hk, HGH.out]; exact Nat.le_refl _) (Nat.le_refl _))
            have HR713 := Lib.hid (HR7y.out.keep (HBx.out.block g7 HR7y.out.lt))
            have HT13 := Lib.hid (HT11.out.below HBx.out)
            have HB13 : Hid (Below w.heap.size w wc) := Lib.hid (below_touch HB12.out ht13 (fun k hk => by simp at hk; omega) (Nat.le_refl _))
            clear hr13 hxyz ht13 HR812 HR7y HT11 HB12 HRh HH0 HBx HBh
            go_wp2_with fail
            go_loop [20, 21] (fun n i => ∃ b : Nat, 1 ≤ b ∧ b ≤ B ∧ i = .int .i64 b ∧ n = .int .i64 (cntKind hl kind b : Nat)) (fun _ i => B - (intOf i).toNat)
            case atStart => exact ⟨1, Nat.le_refl _, hB1, rfl, rfl⟩
            case round =>
              obtain ⟨b, hb1, hb2, rfl, rfl⟩ := hrel
              have hcl := cntKind_le hl kind b
              by_cases hlt : b < B
              · have hlt' : (b : Int) < (B : Int) := by omega
                have HS : Hid (cntKind hl kind (b + 1) = cntKind hl kind b + (if 1 ≤ b ∧ (hl.getD b default).k = kind then 1 else 0)) := Lib.hid rfl
                obtain ⟨hk, hcl2, hln, he⟩ := hdGetD hl b
                obtain ⟨b2, o2, hbo, d3, d4, d5⟩ := hd_cells HR813.out.cells (by rw [HHL.out]; exact hlt) he
                obtain ⟨rfl, rfl⟩ : b2 = g8 ∧ o2 = 0 := by simpa [eq_comm] using hbo
                simp only [Nat.zero_add] at d3 d4 d5
                rw [he] at HS
                clear hbo he d4 d5
                by_cases hq : hk = kind
                · have hq1 : (hk == kind) = true := by simpa using hq
                  have HQ := Lib.hid hq
                  clear hq
                  go_wp2_with fail
                  exact ⟨⟨b + 1, by omega, by omega, vint (by omega), vint (by rw [HS.out, if_pos ⟨hb1, HQ.out⟩]; omega)⟩, by simp [intOf]; omega⟩
                · have hq1 : (hk == kind) = false := by simpa using hq
                  have HQ := Lib.hid hq
                  clear hq
                  go_wp2_with fail
                  exact ⟨⟨b + 1, by omega, by omega, vint (by omega), vint (by rw [HS.out, if_neg (fun h => HQ.out h.2)]; omega)⟩, by simp [intOf]; omega⟩
              · obtain rfl : b = B := by omega
                have hlt' : decide ((b : Int) < (b : Int)) = false := by simp
                go_wp2_with fail
                have l0 : ∀ xx : Later wc, xx.val.cell? ⟨gh, 0, none⟩ = some (.int .i64 x) := later_cell (HRh13.out.cell (i := 0) rfl)
                have l1 : ∀ xx : Later wc, xx.val.cell? ⟨gh, 1, none⟩ = some (.int .i64 y) := later_cell (HRh13.out.cell (i := 1) rfl)
                have l2 : ∀ xx : Later wc, xx.val.cell? ⟨gh, 2, none⟩ = some (.int .i64 z) := later_cell (HRh13.out.cell (i := 2) rfl)
                refine wp_region_mix (C := fun w' => ∃ x : Later wc, w' = x.val) [(0, true), (1, true), (4, true), (2, true), (3, true), (5, false), (6, false), (7, true), (8, true), (10, true), (9, true), (11, false), (12, false), (13, false), (14, true), (16, true), (15, true), (17, false), (18, false), (19, false), (20, false)] (by kernel_rfl) (by kernel_rfl) (by intro c a d v w h; cases d <;> exact h) ?_
                simp only [mixList, List.getElem?_cons_succ, List.getElem?_cons_zero]
                have hC1 := later_drew wc
                repeat (refine wpMix_calm rfl hC1 ?_; quiet_step (fail); refine wpQuiet_nil ?_)
                refine wpMix_hard rfl (fun K hK => ?_)
                go_wp2_with fail
                refine (tget_any (HT13.out.below (later_below hC1)) block (by rw [HHL.out]; omega)).mono ?_
                rw [← HXY.out]
                unfold Hd.val
                dsimp only
                rintro e w14 ⟨rfl, hb14⟩
                have hC2 := later_step hC1 hb14
                clear hb14
                go_wp2_with fail
                refine hK _ _ (fun _ => hC2) ?_
                clear hK K
                repeat (refine wpMix_calm rfl hC2 ?_; quiet_step (fail); refine wpQuiet_nil ?_)
                refine wpMix_hard rfl (fun K hK => ?_)
                go_wp2_with fail
                refine (ref_any ⟨x, y, z⟩ _).mono ?_
                unfold Hd.val
                dsimp only
                rintro e w15 ⟨rfl, hb15⟩
                have hC3 := later_step hC2 hb15
                clear hb15
                go_wp2_with fail
                refine hK _ _ (fun _ => hC3) ?_
                clear hK K
                have heq : ∀ w', (Op.equalIn 10000 46 (.agg #[.int .i64 x, .int .i64 y, .int .i64 z]) (.agg #[.int .i64 x, .int .i64 y, .int .i64 z])).run Try.prog w' = .ok true w' := fun w' => equalRh w' _ _ _ _ _ _ _ (by simp)
                have hgd := gsRh
                repeat (refine wpMix_calm rfl hC3 ?_; quiet_step (fail); refine wpQuiet_nil ?_)
                refine wpMix_hard rfl (fun K hK => ?_)
                go_wp2_with fail
                refine (count_any (HT13.out.below (later_below hC3)) kind (by rw [HHL.out]; omega) (by rw [HHL.out]; omega)).mono ?_
                rw [HHL.out]
                rintro e w16 ⟨rfl, rfl⟩
                go_wp2_with fail
                refine hK _ _ (fun _ => hC3) ?_
                clear hK K
                have hcq : ((cntKind hl kind b : Nat) == (cntKind hl kind b : Nat)) = true := by simp
                repeat (refine wpMix_calm rfl hC3 ?_; quiet_step (fail); refine wpQuiet_nil ?_)
                refine wpMix_hard rfl (fun K hK => ?_)
                go_wp2_with fail
                refine (bspans_any (some ⟨g7, 0, none⟩) b c7 hl HHL.out w15 (HR713.out.keep ((later_below hC3).block g7 HR713.out.lt)).cells (by omega)).mono ?_
                rintro e w17 ⟨v, rfl, ho17, hb17⟩
                obtain ⟨a17, c17, rfl, hcs17⟩ := cells_of_owned ho17
                have HC17 := Lib.hid hcs17
                have hC4 := later_step hC3 hb17
                clear ho17 hb17 hcs17
                go_wp2_with fail
                refine hK _ _ (fun _ => hC4) ?_
                clear hK K
                repeat (refine wpMix_calm rfl hC4 ?_; quiet_step (fail); refine wpQuiet_nil ?_)
                refine wpMix_hard rfl (fun K hK => ?_)
                go_wp2_with fail
                refine (rspans_any (some ⟨g8, 0, none⟩) b c8 hl HHL.out w17 (HR813.out.keep ((later_below hC4).block g8 HR813.out.lt)).cells (by omega)).mono ?_
                rintro e w18 ⟨v, rfl, ho18, hb18⟩
                obtain ⟨a18, c18, rfl, hcs18⟩ := cells_of_owned ho18
                have HC18 := Lib.hid hcs18
                have HC178 := Lib.hid (HC17.out.below hb18 (Nat.le_refl _))
                have hC5 := later_step hC4 hb18
                clear ho18 hb18 hcs18
                go_wp2_with fail
                refine hK _ _ (fun h => nomatch h) ?_
                clear hK K
                repeat (refine wpMix_calm rfl hC5 ?_; quiet_step (fail); refine wpQuiet_nil ?_)
                refine wpMix_hard rfl (fun K hK => ?_)
                go_wp2_with fail
                have hspl : (spansOf hl).length ≤ 1000 := by
                  have := spanL_len (freeAt hl) hl.length
                  have h2 := HHL.out
                  unfold spansOf
                  omega
                refine (lspans_same _ _ _ _ _ (spansOf hl) rfl _ HC178.out HC18.out hspl).mono ?_
                rintro e w19 ⟨rfl, q9, rfl⟩
                have hC6 := later_drewN hC5 q9
                go_wp2_with fail
                refine hK _ _ (fun h => nomatch h) ?_
                clear hK K
                repeat (refine wpMix_calm rfl hC6 ?_; quiet_step (fail); refine wpQuiet_nil ?_)
                refine wpMix_nil ?_
                go_wp2_with fail
                go_ret
                exact ⟨rfl, HB13.out.trans ((later_below hC6).mono HB13.out.size)⟩
      · exact absurd (HOK.out b9 hb90 hb9B) hbad
    · exact absurd (HOK.out b8 hb80 hb8B) hbad
  · have HOK := Lib.hid hok
    have HBad := Lib.hid hbad
    clear HC7 hok hbad
    go_wp2_with (refine wpList_load_part aggRd [Value.slice an (64 * B) cn, .slice al' (64 * B) cl, .slice aw (64 * B) cw, .slice ad (64 * B) cd, .slice ap (64 * B) cp, .int .i64 q1, .int .i64 q2, .bool q3] HCe7.out rfl rfl rfl rfl ?_)
    refine (rread_any an (64 * B) cn al _ _ _ _ _ _ _ w7 HN7.out HN9.out (by omega) HUa.out B hB1 (by omega)).mono ?_
    rw [← HFE.out]
    rintro e w8 ⟨hb8, ⟨hok8, g8, c8, rfl, hg8, hgc8, hr8⟩ | ⟨b8, hb80, hb8B, hok8, hbad8, rfl⟩⟩
    · exact absurd (hok8 b7 hb70 hb7B) HBad.out
    obtain rfl : b7 = b8 := first_bad HOK.out HBad.out hb70 hok8 hbad8 hb80
    have hc8 := below_cells hb8 hc7 (Nat.le_refl _)
    have HD8 := Lib.hid (HD7.out.below hb8)
    have HB8 := Lib.hid (HB7.out.trans (hb8.mono HB7.out.size))
    clear hb8 hok8 hbad8 hc7 HD7 HB7 HN7 HCe7
    go_wp2_with fail
    refine (open_tab HD8.out B hB1 (by omega)).mono ?_
    rw [HFe.out, ← HFE.out]
    rintro e w9 ⟨hb9, ⟨hok9, p, rfl, hp, htab⟩ | ⟨b9, hb90, hb9B, _, hbad9, rfl⟩⟩
    · exact absurd (hok9 b7 hb70 hb7B) HBad.out
    have HB9 := Lib.hid (HB8.out.trans (hb9.mono HB8.out.size))
    clear hb9 hbad9 hc8 HD8 HB8
    go_wp2_with fail
    refine (refs_any none 0 0 [] rfl w9 (Cells.nil _ _) (by omega)).mono ?_
    rintro e w10 ⟨v, rfl, ho, hb10⟩
    obtain ⟨a10, c10, rfl, hcs10⟩ := cells_of_owned ho
    have HC10 := Lib.hid hcs10
    have HB10 := Lib.hid (HB9.out.trans (hb10.mono HB9.out.size))
    clear hcs10 ho hb10 HB9
    go_wp2_with fail
    refine (rsame_any a10 none 0 0 _ _ [] [] rfl rfl w10 HC10.out (Cells.nil _ _) (by omega) (by omega)).mono ?_
    rintro e w11 ⟨rfl, q, rfl⟩
    have hse : sameHd [] [] = true := rfl
    rw [hse]
    go_wp2_with fail
    go_ret
    exact ⟨rfl, below_drewN HB10.out _⟩

end Go.Proofs.Ytjgdplengfnkaaa
