/- law15.ObjectKeeps. -/
import Derived.Test.YtjgdplengfnkaaaKa
import Derived.Deep.Cut
import Derived.Deep.CutBlock
import Derived.Deep.QuietTactic
import Derived.BigQuiet
namespace Go.Proofs.Ytjgdplengfnkaaa
open Go.RowKit
set_option linter.unusedVariables false

/-- What a field is to be; the fields that were set. -/
def wantF (fs : List Nat) (p : Int) (j : Nat) : Nat := if (j : Int) < p then fs.getD j 0 % 4096 else fs.getD j 0
def wsTo (fs : List Nat) (p : Int) (L k : Nat) : List Nat := (List.range L).map fun j => if j < k then wantF fs p j else 0
theorem wsTo_length (fs : List Nat) (p : Int) (L k : Nat) : (wsTo fs p L k).length = L := by simp [wsTo]
theorem wsTo_getD (fs : List Nat) (p : Int) (L k j : Nat) (h : j < L) : (wsTo fs p L k).getD j 0 = if j < k then wantF fs p j else 0 := by
  simp [wsTo, List.getD_eq_getElem?_getD, h]
theorem wsTo_zero (fs : List Nat) (p : Int) (L : Nat) : wsTo fs p L 0 = List.replicate L 0 := by
  apply List.ext_getElem (by simp [wsTo])
  intro i h1 h2
  simp [wsTo]
theorem wsTo_succ (fs : List Nat) (p : Int) (L k : Nat) : wsTo fs p L (k + 1) = (wsTo fs p L k).set k (wantF fs p k) := by
  apply List.ext_getElem (by simp [wsTo])
  intro i h1 h2
  simp only [wsTo, List.getElem_map, List.getElem_range, List.getElem_set]
  by_cases e : k = i
  · subst e; rw [if_pos (by omega), if_pos rfl]
  · rw [if_neg e]
    by_cases c : i < k
    · rw [if_pos c, if_pos (by omega)]
    · rw [if_neg c, if_neg (by omega)]
theorem wsTo_all (fs : List Nat) (p : Int) (L k j : Nat) (h : j < L) (hk : k = L ∨ fs.length ≤ k) : (wsTo fs p L k).getD j 0 = wantF fs p j := by
  rw [wsTo_getD _ _ _ _ _ h]
  by_cases c : j < k
  · rw [if_pos c]
  · rw [if_neg c]
    have hz : fs.getD j 0 = 0 := getD_zero_of (by omega)
    unfold wantF
    rw [hz]
    split <;> rfl

set_option maxHeartbeats 4000000 in
set_option maxRecDepth 100000 in
theorem objectKeeps_any (p d : Int) (x : Nat) (hx : x < 256) (a b : Option Addr) (n m ca cb : Nat) (fs gs : List Nat) (hn : fs.length = n) (hm : gs.length = m) (w : World) (hc : Cells w a (fs.map vu64)) (hc2 : Cells w b (gs.map vu64))
    (hu : ∀ z ∈ fs, z < 18446744073709551616) (hu2 : ∀ z ∈ gs, z < 18446744073709551616) (hnm : n ≤ maxLen) (hmm : m ≤ maxLen) :
    Calls Try.prog 6 #[vob p d, .agg #[.int .u8 (x : Int)], .agg #[.slice a n ca, .slice b m cb]] w fun e w' => e = .returned (.bool true) ∧ Below w.heap.size w w' := by
  unfold maxLen at hnm hmm
  have HN := Lib.hid hn
  have HM := Lib.hid hm
  have HC := Lib.hid hc
  have HC2 := Lib.hid hc2
  have HU := Lib.hid hu
  have HU2 := Lib.hid hu2
  clear hn hm hc hc2 hu hu2
  go_enter Try.func6, Try.ntmps6
  go_wp2_with fail
  have hbA := below_alloc w (Obj.cells #[Value.int .i64 p, Value.int .i64 d] 73)
  have hrA : RowAt (w.alloc (Obj.cells #[Value.int .i64 p, Value.int .i64 d] 73)) w.heap.size 73 [.int .i64 p, .int .i64 d] := ⟨_, heap_alloc_new _ _, [], rfl⟩
  have hsA : (w.alloc (Obj.cells #[Value.int .i64 p, Value.int .i64 d] 73)).heap.size = w.heap.size + 1 := by simp
  generalize w.alloc (Obj.cells #[Value.int .i64 p, Value.int .i64 d] 73) = wA at *
  have hbB := below_alloc wA (Obj.cells #[Value.int .u8 (x : Int)] 74)
  have hrB : RowAt (wA.alloc (Obj.cells #[Value.int .u8 (x : Int)] 74)) (w.heap.size + 1) 74 [.int .u8 (x : Int)] := by rw [← hsA]; exact ⟨_, heap_alloc_new _ _, [], rfl⟩
  have hsB : (wA.alloc (Obj.cells #[Value.int .u8 (x : Int)] 74)).heap.size = w.heap.size + 1 + 1 := by simp [hsA]
  have hrA2 := hrA.keep (hbB.block _ hrA.lt)
  have hbAB := hbA.trans (hbB.mono hbA.size)
  generalize wA.alloc (Obj.cells #[Value.int .u8 (x : Int)] 74) = wB at *
  have hbC := below_alloc wB (Obj.cells #[Value.slice a n ca, Value.slice b m cb] 75)
  have hrC : RowAt (wB.alloc (Obj.cells #[Value.slice a n ca, Value.slice b m cb] 75)) (w.heap.size + 1 + 1) 75 [.slice a n ca, .slice b m cb] := by rw [← hsB]; exact ⟨_, heap_alloc_new _ _, [], rfl⟩
  have hrA3 := hrA2.keep (hbC.block _ hrA2.lt)
  have hrB3 := hrB.keep (hbC.block _ hrB.lt)
  have hbABC := hbAB.trans (hbC.mono hbAB.size)
  generalize wB.alloc (Obj.cells #[Value.slice a n ca, Value.slice b m cb] 75) = wC at *
  refine (awake15_any _).mono ?_
  rintro e w1 ⟨rfl, hb1⟩
  obtain ⟨q, hq⟩ : ∃ q, q = w.heap.size := ⟨_, rfl⟩
  have HQ := Lib.hid hq
  rw [← hq] at hrA3 hrB3 hrC ⊢
  have HRA := Lib.hid (hrA3.keep (hb1.block _ hrA3.lt))
  have HRB := Lib.hid (hrB3.keep (hb1.block _ hrB3.lt))
  have HRC := Lib.hid (hrC.keep (hb1.block _ hrC.lt))
  have HB1 := Lib.hid (hbABC.trans (hb1.mono hbABC.size))
  clear hbA hrA hsA hbB hrB hsB hrA2 hbAB hbC hrC hrA3 hrB3 hbABC hb1 hq
  have b0 := HRB.out.cell (i := 0) rfl
  have c0 := HRC.out.cell (i := 0) rfl
  have c1 := HRC.out.cell (i := 1) rfl
  have a0 := HRA.out.cell (i := 0) rfl
  have a1 := HRA.out.cell (i := 1) rfl
  go_wp2_with fail
  go_quiet (fail)
  have HB2 := Lib.hid (below_drewN HB1.out nq)
  have HRA2 : Hid (RowAt (w1.drewN nq) q 73 [.int .i64 p, .int .i64 d]) := Lib.hid (HRA.out.keep rfl)
  have HRC2 : Hid (RowAt (w1.drewN nq) (q + 1 + 1) 75 [.slice a n ca, .slice b m cb]) := Lib.hid (HRC.out.keep rfl)
  clear b0 c0 c1 a0 a1 HRA HRB HRC HB1
  generalize w1.drewN nq = w2 at *
  have c0 := HRC2.out.cell (i := 0) rfl
  have c1 := HRC2.out.cell (i := 1) rfl
  have a0 := HRA2.out.cell (i := 0) rfl
  have a1 := HRA2.out.cell (i := 1) rfl
  go_upto_region 4 with fail
  go_cut [52] from 24 (fun s wc => s = .bool (decide (p < 0 ∨ 20 < p ∨ d < 0 ∨ 100 < d ∨ 150 < n ∨ 100 < m)) ∧ wc = w2)
  case first =>
    by_cases h1 : p < 0
    · go_wp2_with fail
      go_meet
      exact ⟨by simp [h1], rfl⟩
    by_cases h2 : 20 < p
    · go_wp2_with fail
      go_meet
      exact ⟨by simp [h2], rfl⟩
    by_cases h3 : d < 0
    · go_wp2_with fail
      go_meet
      exact ⟨by simp [h3], rfl⟩
    by_cases h4 : 100 < d
    · go_wp2_with fail
      go_meet
      exact ⟨by simp [h4], rfl⟩
    by_cases h5 : (150 : Int) < (n : Int)
    · have h5n : 150 < n := by omega
      go_wp2_with fail
      go_meet
      exact ⟨by simp [h5n], rfl⟩
    by_cases h6 : (100 : Int) < (m : Int)
    · have h6n : 100 < m := by omega
      go_wp2_with fail
      go_meet
      exact ⟨by simp [h6n], rfl⟩
    have h6d : decide ((100 : Int) < (m : Int)) = false := by simpa using h6
    have h0 : ¬ (p < 0 ∨ 20 < p ∨ d < 0 ∨ 100 < d ∨ 150 < n ∨ 100 < m) := by omega
    have H0 := Lib.hid h0
    clear h0
    go_wp2_with fail
    go_meet
    exact ⟨by simp [H0.out], rfl⟩
  case rest =>
    obtain ⟨rfl, rfl⟩ := hcut
    by_cases hlim : p < 0 ∨ 20 < p ∨ d < 0 ∨ 100 < d ∨ 150 < n ∨ 100 < m
    · rw [decide_eq_true hlim]
      go_wp2_with fail
      go_ret
      exact ⟨rfl, HB2.out⟩
    rw [decide_eq_false hlim]
    obtain ⟨p, rfl⟩ := Int.eq_ofNat_of_zero_le (show 0 ≤ p by omega)
    obtain ⟨d, rfl⟩ := Int.eq_ofNat_of_zero_le (show 0 ≤ d by omega)
    have hp : p ≤ 20 := by omega
    have hd : d ≤ 100 := by omega
    have hn1 : n ≤ 150 := by omega
    have hm1 : m ≤ 100 := by omega
    clear hlim a0 a1 c0 hnm hmm
    go_wp2_with fail
    go_loopw [9, 10] (fun v i wr => ∃ k : Nat, k ≤ m ∧ i = .int .i64 k ∧ wr.ownsRow wc.heap.size 5 1 v k (((gs.take k).map (· % 256)).map vu8) ∧ Below wc.heap.size wc wr) (fun _ i _ => m - (intOf i).toNat)
    case atStart => exact ⟨0, Nat.zero_le _, rfl, ⟨rfl, .inl ⟨rfl, rfl⟩⟩, Below.refl _ _⟩
    case round =>
      obtain ⟨k, hk, rfl, ho, hb⟩ := hrel
      obtain ⟨a1, c1', rfl, hc1, hm1'⟩ := owned_form ho
      have e1 := below_cells hb c1 (Nat.le_refl _)
      have HO := Lib.hid ho
      have HB := Lib.hid hb
      clear ho hb
      clear c1
      by_cases hlt : k < m
      · have hlt' : (k : Int) < (m : Int) := by omega
        have HKL : Hid (k < gs.length) := Lib.hid (by rw [HM.out]; exact hlt)
        obtain ⟨b1, o1, rfl, _, hcs⟩ := ((HC2.out.below HB2.out (Nat.le_refl _)).below HB.out (Nat.le_refl _)).atMap 0 HKL.out
        have f0 := hcs k HKL.out
        have HS : Hid (((gs.take (k + 1)).map (· % 256)).map vu8 = ((gs.take k).map (· % 256)).map vu8 ++ [.int .u8 (((gs.getD k 0 : Nat) : Int) % 256)]) := Lib.hid (by
          rw [List.take_succ_eq_append_getElem HKL.out, List.map_append, List.map_append]
          congr 1
          simp [HKL.out])
        clear hcs
        generalize gs.getD k 0 = y at *
        have hw1 : IntKind.u8.wrap ((y : Int) % 256) = (y : Int) % 256 := IntWalk.u8_in _ (by omega)
        have hone : Hid (∀ u ∈ (#[Value.int .u8 ((y : Int) % 256)] : Array Value).toList, u.oneCell' = true) := Lib.hid (by intro u hu; simp at hu; subst hu; rfl)
        have hbase : Hid (wc.heap.size ≤ wr.heap.size) := Lib.hid HB.out.size
        have hk9 : k < 1000000000000 := by omega
        go_wp2_with (at_builtin; refine wpList_append_new (us := #[.int .u8 ((y : Int) % 256)]) el8 HO.out rfl hone.out hk9 (by decide) hbase.out rfl rfl rfl (by simp [Act.eval]) ?_; intro g6 c6 w6 ho6 hg6 hc6 hm6 hb6 hl6; have HO6 := Lib.hid ho6; have HG6 := Lib.hid hg6; clear ho6 hg6)
        refine ⟨⟨k + 1, by omega, vint (by omega), ?_, below_grownBy HB.out HO.out HG6.out (Nat.le_refl _) (Nat.le_refl _)⟩, by simp [intOf]; omega⟩
        rw [HS.out]
        simpa using HO6.out
      obtain rfl : k = m := by omega
      have hlt' : decide ((k : Int) < (k : Int)) = false := by simp
      have HCs : Hid (Cells wr a1 ((gs.map (· % 256)).map vu8)) := Lib.hid (by
        have := Cells.owned HO.out
        rwa [List.take_of_length_le (by rw [HM.out]; exact Nat.le_refl _)] at this)
      have HBE := Lib.hid (HB2.out.trans (HB.out.mono HB2.out.size))
      have HRA3 := Lib.hid (HRA2.out.keep (HB.out.block q HRA2.out.lt))
      clear HB2 HB HRA2 HRC2 HO
      obtain ⟨wE, rfl⟩ : ∃ wo : World, wo = wr := ⟨_, rfl⟩
      go_wp2_with fail
      refine (new_any 400 _ (by omega)).mono ?_
      rintro e w4 ⟨F, rfl, hF, hd4, hb4⟩
      obtain ⟨S, hS⟩ : ∃ S, S = freshDev (List.replicate (8 * (((400 : Int).toNat + 7) / 8)) 0) (((400 : Int).toNat + 7) / 8) := ⟨_, rfl⟩
      have hwl : (List.replicate (8 * (((400 : Int).toNat + 7) / 8)) 0).length = 400 := by simp
      have HS : Hid (S.live ∧ S.ok 100 ∧ S.cache.length = 400 ∧ S.inv) := Lib.hid (by
        rw [hS]
        refine ⟨fresh_live _ _, fresh_ok _ _ _, hwl, fresh_inv ?_ ?_ ?_⟩
        · simp
        · rw [hwl]; omega
        · intro z hz; simp at hz; omega)
      have HD4 : Hid (DevAt w4 F S) := Lib.hid (by rw [hS]; exact hd4)
      have hql := HRA3.out.lt
      have HB4 : Hid (Below wE.heap.size wE w4) := Lib.hid hb4
      have HF : Hid (∀ k ∈ F.list, wE.heap.size ≤ k) := Lib.hid hF
      have HWE : Hid (w.heap.size ≤ wE.heap.size) := Lib.hid HBE.out.size
      have HRAx : Hid (∀ w', Below wE.heap.size wE w' → RowAt w' q 73 [.int .i64 (p : Int), .int .i64 (d : Int)]) := Lib.hid (fun w' hb => HRA3.out.keep (hb.block q hql))
      clear hS hwl hd4 hb4 hF e1
      have hsz : objSize (p : Int) (d : Int) = p + d + 1 := by unfold objSize; rw [if_neg (by omega)]; omega
      have HSZ := Lib.hid hsz
      have HK : Hid ((S.init (x : Int) p d).err = 0 ∧ Kept (S.init (x : Int) p d).dev x p d (List.replicate (p + d) 0)) := Lib.hid (by
        have := init_kept HS.out.1 HS.out.2.2.2 x (p : Int) (d : Int) (by omega) (by rw [hsz, HS.out.2.2.1]; omega)
        rwa [hsz] at this)
      have HOk1 : Hid ((S.init (x : Int) p d).dev.ok 21000) := Lib.hid ((init_ok HS.out.2.1 _ _ _).mono (by omega))
      clear hsz
      unfold vdev
      have a0 := (HRAx.out _ HB4.out).cell (i := 0) rfl
      have a1' := (HRAx.out _ HB4.out).cell (i := 1) rfl
      go_wp2_with fail
      refine (oinit_any HD4.out (N := 100) (by omega) HS.out.2.1 x p d).mono ?_
      rintro e w5 ⟨rfl, hd5, ht5⟩
      rw [HK.out.1]
      have HKp := Lib.hid HK.out.2
      have HD5 := Lib.hid hd5
      have HB5 : Hid (Below wE.heap.size wE w5) := Lib.hid (below_touch HB4.out ht5 (fun k hk => HF.out k hk) (Nat.le_refl _))
      clear hd5 ht5 HD4 HB4 HK HS a0 a1'
      generalize (S.init (x : Int) p d).dev = S1 at *
      have a0 := (HRAx.out _ HB5.out).cell (i := 0) rfl
      have a1' := (HRAx.out _ HB5.out).cell (i := 1) rfl
      go_upto_block 2 with fail
      go_cut [12] from 77 (fun i wx => ∃ (k : Nat) (T : Dev), (k = p + d ∨ n ≤ k) ∧ k ≤ p + d ∧ DevAt wx F T ∧ Kept T x p d (wsTo fs p (p + d) k) ∧ T.ok 22000 ∧ Below wE.heap.size wE wx)
      case first =>
        go_wp2_with fail
        go_loopw [12] (fun i wx => ∃ (k : Nat), k ≤ p + d ∧ i = .int .i64 k ∧ ∃ T : Dev, DevAt wx F T ∧ Kept T x p d (wsTo fs p (p + d) k) ∧ T.ok (21000 + k) ∧ Below wE.heap.size wE wx) (fun i _ => p + d - (intOf i).toNat)
        case atStart => exact ⟨0, Nat.zero_le _, rfl, S1, HD5.out, by rw [wsTo_zero]; exact HKp.out, HOk1.out, HB5.out⟩
        case round =>
          obtain ⟨k, hk, rfl, T, hd, hkp, hok, hb⟩ := hrel
          have a0 := (HRAx.out _ hb).cell (i := 0) rfl
          have a1' := (HRAx.out _ hb).cell (i := 1) rfl
          have HD := Lib.hid hd
          have HKP := Lib.hid hkp
          have HOK := Lib.hid hok
          have HB := Lib.hid hb
          clear hd hkp hok hb
          by_cases hlt : k < p + d
          · have hlt' : (k : Int) < (p : Int) + (d : Int) := by omega
            by_cases hkn : k < n
            · have hkn' : (k : Int) < (n : Int) := by omega
              have HKL : Hid (k < fs.length) := Lib.hid (by rw [HN.out]; exact hkn)
              obtain ⟨b1, o1, rfl, _, hcs⟩ := ((HC.out.below HBE.out (Nat.le_refl _)).below HB.out (Nat.le_refl _)).atMap 0 HKL.out
              have f0 := hcs k HKL.out
              have HSU := Lib.hid (wsTo_succ fs (p : Int) (p + d) k)
              have HWF : Hid (wantF fs (p : Int) k = if (k : Int) < (p : Int) then fs.getD k 0 % 4096 else fs.getD k 0) := Lib.hid rfl
              have HYB : Hid (fs.getD k 0 < 18446744073709551616) := Lib.hid (HU.out _ (by
                rw [List.getD_eq_getElem?_getD, List.getElem?_eq_getElem HKL.out]; exact List.getElem_mem _))
              clear hcs
              generalize fs.getD k 0 = y at *
              by_cases hkp : k < p
              · have hkp' : (k : Int) < (p : Int) := by omega
                have hkp2 : decide ((p : Int) ≤ (k : Int)) = false := by simpa using hkp
                have hkp3 : decide (p ≤ k) = false := by simpa using hkp
                have HK2 := Lib.hid (HKP.out.setPtr k (y % 4096) (by omega) (by omega))
                have hye : (y : Int) % 4096 = ((y % 4096 : Nat) : Int) := by omega
                have HYE := Lib.hid hye
                have hw1 : IntKind.i64.wrap ((y : Int) % 4096) = (y : Int) % 4096 := IntWalk.i64_in _ (by omega)
                clear hye
                have HW2 : Hid (wantF fs (p : Int) k = y % 4096) := Lib.hid (by rw [HWF.out, if_pos hkp'])
                go_wp2_with fail
                refine (osetPtr_any HD.out (N := 21000 + k) (by omega) HOK.out x k ((y : Int) % 4096) (by omega)).mono ?_
                rw [HYE.out]
                rintro e w6 ⟨rfl, hd6, ht6⟩
                rw [HK2.out.1]
                have HOK6 : Hid ((T.setPtr x k ((y % 4096 : Nat) : Int)).dev.ok (21000 + (k + 1))) := Lib.hid (by rw [HK2.out.2.2]; exact Dev.store_okN HOK.out _ _)
                have HKP6 : Hid (Kept (T.setPtr x k ((y % 4096 : Nat) : Int)).dev x p d (wsTo fs p (p + d) (k + 1))) := Lib.hid (by rw [HSU.out, HW2.out]; exact HK2.out.2.1)
                have HD6 := Lib.hid hd6
                have HB6 : Hid (Below wE.heap.size wE w6) := Lib.hid (below_touch HB.out ht6 (fun k hk => HF.out k hk) (Nat.le_refl _))
                clear hd6 ht6 HD HB HK2 f0 a0 a1' hw1
                generalize (T.setPtr x k ((y % 4096 : Nat) : Int)).dev = T6 at *
                have a0 := (HRAx.out _ HB6.out).cell (i := 0) rfl
                have a1' := (HRAx.out _ HB6.out).cell (i := 1) rfl
                go_upto_region 19 with fail
                have r0 := fun x => later_cell a0 x
                refine wp_region_seg (C := fun w' => ∃ x : Later (w6), w' = x.val) [.fl [0, 1, 2], .sq [3, 4] false, .fl [5, 6, 7, 8, 9, 10, 11, 12, 13, 14, 15], .sq [16, 17, 18] false] (by kernel_rfl) (by kernel_rfl) (by intro c a d v w h; cases d <;> exact h) ?_
                simp only [segs, picks, List.getElem?_cons_succ, List.getElem?_cons_zero]
                have hC1 := later_drew (w6)
                refine wpSeg_fl hC1 ?_
                repeat (first | go_big_quiet_step (fail) | quiet_step (fail))
                refine wpQuiet_nil ?_
                refine wpSeg_sq (fun K hK => ?_)
                go_wp2_with fail
                refine hK _ _ (fun h => nomatch h) ?_
                clear hK K
                refine wpSeg_fl hC1 ?_
                repeat (first | go_big_quiet_step (fail) | quiet_step (fail))
                refine wpQuiet_nil ?_
                refine wpSeg_last ?_
                go_wp2_with fail
                exact ⟨⟨k + 1, by omega, vint (by omega), T6, HD6.out.below (later_below hC1), HKP6.out, HOK6.out, HB6.out.trans ((later_below hC1).mono HB6.out.size)⟩, by simp [intOf]; omega⟩
              · have hkp' : decide ((k : Int) < (p : Int)) = false := by simpa using hkp
                have hkp1 : decide (k < p) = false := by simpa using hkp
                have hkp2 : (p : Int) ≤ (k : Int) := by omega
                have hkp3 : p ≤ k := by omega
                have HK2 := Lib.hid (HKP.out.setData k y (by omega) (by simp [wsTo_length]; omega) HYB.out)
                have hw1 : IntKind.i64.wrap ((k : Int) - (p : Int)) = (k : Int) - (p : Int) := IntWalk.i64_in _ (by omega)
                have HW2 : Hid (wantF fs (p : Int) k = y) := Lib.hid (by rw [HWF.out, if_neg (by omega)])
                clear hkp
                go_upto_region 19 with fail
                have r0 := fun x => later_cell a0 x
                have r1 := fun x => later_cell f0 x
                refine wp_region_seg (C := fun w' => ∃ x : Later (wr), w' = x.val) [.fl [0, 1, 2], .sq [3, 4] false, .fl [5, 6, 7, 8, 9, 10, 11, 12, 13, 14, 15], .sq [16, 17, 18] false] (by kernel_rfl) (by kernel_rfl) (by intro c a d v w h; cases d <;> exact h) ?_
                simp only [segs, picks, List.getElem?_cons_succ, List.getElem?_cons_zero]
                have hC1 := later_drew (wr)
                refine wpSeg_fl hC1 ?_
                repeat (first | go_big_quiet_step (fail) | quiet_step (fail))
                refine wpQuiet_nil ?_
                refine wpSeg_sq (fun K hK => ?_)
                go_wp2_with fail
                refine hK _ _ (fun h => nomatch h) ?_
                clear hK K
                refine wpSeg_fl hC1 ?_
                repeat (first | go_big_quiet_step (fail) | quiet_step (fail))
                refine wpQuiet_nil ?_
                refine wpSeg_last ?_
                go_wp2_with fail
                have HB5' := Lib.hid (HB.out.trans ((later_below hC1).mono HB.out.size))
                refine (osetData_any (HD.out.below (later_below hC1)) (N := 21000 + k) (by omega) HOK.out x _ y HYB.out).mono ?_
                rintro e w6 ⟨rfl, hd6, ht6⟩
                rw [HK2.out.1]
                have HOK6 : Hid ((T.setData x ((k : Int) - (p : Int)) y).dev.ok (21000 + (k + 1))) := Lib.hid (by rw [HK2.out.2.2]; exact Dev.store_okN HOK.out _ _)
                have HKP6 : Hid (Kept (T.setData x ((k : Int) - (p : Int)) y).dev x p d (wsTo fs p (p + d) (k + 1))) := Lib.hid (by rw [HSU.out, HW2.out]; exact HK2.out.2.1)
                have HD6 := Lib.hid hd6
                have HB6 : Hid (Below wE.heap.size wE w6) := Lib.hid (below_touch HB5'.out ht6 (fun k hk => HF.out k hk) (Nat.le_refl _))
                clear hd6 ht6 HD HB HB5' HK2 f0 a0 a1' r0 r1 hC1 hw1
                generalize (T.setData x ((k : Int) - (p : Int)) y).dev = T6 at *
                go_wp2_with fail
                exact ⟨⟨k + 1, by omega, vint (by omega), T6, HD6.out, HKP6.out, HOK6.out, HB6.out⟩, by simp [intOf]; omega⟩
            · have hkn' : decide ((k : Int) < (n : Int)) = false := by simpa using hkn
              have hkn2 : decide (k < n) = false := by simpa using hkn
              go_wp2_with fail
              go_meet
              exact ⟨k, T, .inr (by omega), hk, HD.out, HKP.out, HOK.out.mono (by omega), HB.out⟩
          · have hlt' : decide ((k : Int) < (p : Int) + (d : Int)) = false := by simp; omega
            go_wp2_with fail
            go_meet
            exact ⟨k, T, .inl (by omega), hk, HD.out, HKP.out, HOK.out.mono (by omega), HB.out⟩
      case rest =>
        obtain ⟨k, T, hdone, hk, hd, hkp, hok, hb⟩ := hcut
        have HWD : Hid (∀ j, j < p + d → (wsTo fs p (p + d) k).getD j 0 = wantF fs p j) := Lib.hid (fun j hj => wsTo_all fs p (p + d) k j hj (by have := HN.out; omega))
        have HWL : Hid ((wsTo fs p (p + d) k).length = p + d) := Lib.hid (wsTo_length _ _ _ _)
        have HD := Lib.hid hd
        have HKP := Lib.hid hkp
        have HOK := Lib.hid hok
        have HB := Lib.hid hb
        clear hd hkp hok hb
        clear hdone hk
        generalize wsTo fs p (p + d) k = ws at *
        have HPe := Lib.hid HKP.out.persist
        have HLa := Lib.hid (HPe.out.2.1.lasts HPe.out.2.2)
        have HCr := Lib.hid (HPe.out.2.1.crash HPe.out.2.2 (gs.map (· % 256)))
        go_wp2_with fail
        refine (opersist_any HD.out (N := 22000) (by omega) HOK.out x).mono ?_
        rintro e w6 ⟨rfl, hd6, ht6⟩
        rw [HPe.out.1]
        have HD6 := Lib.hid hd6
        have HB6 : Hid (Below wE.heap.size wE w6) := Lib.hid (below_touch HB.out ht6 (fun k hk => HF.out k hk) (Nat.le_refl _))
        clear hd6 ht6 HD HB HPe HKP HOK
        generalize (T.opersist (x : Int)).dev = T2 at *
        go_wp2_with fail
        refine (olasts_any HD6.out x).mono ?_
        rintro e w7 ⟨rfl, hb7⟩
        rw [HLa.out]
        have HD7 := Lib.hid (HD6.out.below hb7)
        have HB7 := Lib.hid (HB6.out.trans (hb7.mono HB6.out.size))
        clear hb7 HD6 HB6
        go_wp2_with fail
        refine (crash_any HD7.out a1 _ c1' (gs.map (· % 256)) (by rw [List.length_map]; exact HM.out) (HCs.out.below HB7.out (Nat.le_refl _)) (by intro z hz; simp at hz; omega) (by omega)).mono ?_
        rintro e w8 ⟨G, rfl, hG, hd8, hb8⟩
        have HD8 := Lib.hid hd8
        have HB8 := Lib.hid (HB7.out.trans (hb8.mono HB7.out.size))
        clear hd8 hb8 hG HD7 HB7 HLa
        generalize T2.crash (gs.map (· % 256)) = T3 at *
        unfold vdev
        go_wp2_with fail
        refine (owords_any HD8.out x).mono ?_
        rintro e w9 ⟨hb9, hcase⟩
        obtain ⟨L1, hL1⟩ : ∃ L, L = p + d + 1 := ⟨_, rfl⟩
        have HSZ1 : Hid (objSize (p : Int) (d : Int) = L1) := Lib.hid (by rw [hL1]; exact HSZ.out)
        rw [HCr.out.headN, HSZ1.out] at hcase
        rcases hcase with ⟨_, v, rfl, ho9⟩ | ⟨h0, _⟩
        case inr => exact absurd h0 (by simp)
        obtain ⟨a9, c9, rfl, hc9, hm9⟩ := owned_form ho9
        have HB9 := Lib.hid (HB8.out.trans (hb9.mono HB8.out.size))
        have HV9 := Lib.hid (Cells.owned ho9)
        clear hb9 ho9 HD8 HB8
        have a0 := (HRAx.out _ HB9.out).cell (i := 0) rfl
        have a1' := (HRAx.out _ HB9.out).cell (i := 1) rfl
        go_wp2_with fail
        refine (osize_any p d _).mono ?_
        rintro e w10 ⟨rfl, hb10⟩
        rw [HSZ1.out]
        have HB10 := Lib.hid (HB9.out.trans (hb10.mono HB9.out.size))
        have HV10 := Lib.hid (HV9.out.below hb10 (Nat.le_refl _))
        have hne : ((L1 : Int) != (L1 : Int)) = false := by simp
        have hne2 : (L1 != L1) = false := by simp
        clear hb10 HB9 HV9 a0 a1'
        have a0 := (HRAx.out _ HB10.out).cell (i := 0) rfl
        have a1' := (HRAx.out _ HB10.out).cell (i := 1) rfl
        go_wp2_with fail
        go_loop [16] (fun i => ∃ k : Nat, k ≤ p + d ∧ i = .int .i64 k) (fun i => p + d - (intOf i).toNat)
        case atStart => exact ⟨0, Nat.zero_le _, rfl⟩
        case round =>
          obtain ⟨k, hk, rfl⟩ := hrel
          by_cases hlt : k < p + d
          · have hlt' : (k : Int) < (p : Int) + (d : Int) := by omega
            have hl1 : (1 : Int) + (k : Int) < (L1 : Int) := by omega
            have hl2 : 1 + k < L1 := by omega
            have HLW : Hid (1 + k < (wordsAt T3.cache (x : Int) L1).length) := Lib.hid (by rw [wordsAt_length]; omega)
            obtain ⟨b9, o9, rfl, _, hcs9⟩ := HV10.out.atMap 0 HLW.out
            have g0 := hcs9 (1 + k) HLW.out
            have HZ : Hid ((wordsAt T3.cache (x : Int) L1).getD (1 + k) 0 = wantF fs p k) := Lib.hid (by
              rw [← HWD.out k hlt, ← HCr.out.words k (by rw [HWL.out]; exact hlt)]
              simp only [wordsAt, List.getD_eq_getElem?_getD, List.getElem?_map, List.getElem?_range hl2, Option.map_some, Option.getD_some]
              rw [show (x : Int) + ((1 + k : Nat) : Int) = ((x + 1 + k : Nat) : Int) by omega, peek_in, List.getD_eq_getElem?_getD])
            rw [HZ.out] at g0
            clear hcs9
            have HWF : Hid (wantF fs (p : Int) k = if (k : Int) < (p : Int) then fs.getD k 0 % 4096 else fs.getD k 0) := Lib.hid rfl
            generalize wantF fs (p : Int) k = z at *
            by_cases hkn : k < n
            · have hkn' : (k : Int) < (n : Int) := by omega
              have HKL : Hid (k < fs.length) := Lib.hid (by rw [HN.out]; exact hkn)
              obtain ⟨b1, o1, rfl, _, hcs⟩ := ((HC.out.below HBE.out (Nat.le_refl _)).below HB10.out (Nat.le_refl _)).atMap 0 HKL.out
              have f0 := hcs k HKL.out
              clear hcs
              generalize fs.getD k 0 = y at *
              by_cases hkp : k < p
              · have hkp' : (k : Int) < (p : Int) := by omega
                have hzy : (z : Int) = (y : Int) % 4096 := by have := HWF.out; rw [if_pos hkp'] at this; omega
                have hne3 : ((z : Int) != (y : Int) % 4096) = false := by rw [hzy]; simp
                clear hzy
                go_wp2_with fail
                exact ⟨⟨k + 1, by omega, vint (by omega)⟩, by simp [intOf]; omega⟩
              · have hkp' : decide ((k : Int) < (p : Int)) = false := by simpa using hkp
                have hkp1 : decide (k < p) = false := by simpa using hkp
                have hzy : z = y := by have := HWF.out; rw [if_neg (by omega)] at this; exact this
                subst hzy
                have hne3 : ((z : Int) != (z : Int)) = false := by simp
                have hne4 : (z != z) = false := by simp
                go_wp2_with fail
                exact ⟨⟨k + 1, by omega, vint (by omega)⟩, by simp [intOf]; omega⟩
            · have hkn' : decide ((k : Int) < (n : Int)) = false := by simpa using hkn
              have hkn2 : decide (k < n) = false := by simpa using hkn
              have hzy : z = 0 := by
                have := HWF.out
                rw [getD_zero_of (by have := HN.out; omega)] at this
                split at this <;> exact this
              subst hzy
              by_cases hkp : k < p
              · have hkp' : (k : Int) < (p : Int) := by omega
                go_wp2_with fail
                exact ⟨⟨k + 1, by omega, vint (by omega)⟩, by simp [intOf]; omega⟩
              · have hkp' : decide ((k : Int) < (p : Int)) = false := by simpa using hkp
                have hkp1 : decide (k < p) = false := by simpa using hkp
                go_wp2_with fail
                exact ⟨⟨k + 1, by omega, vint (by omega)⟩, by simp [intOf]; omega⟩
          · have hlt' : decide ((k : Int) < (p : Int) + (d : Int)) = false := by simp; omega
            go_wp2_with fail
            go_ret
            exact ⟨rfl, HBE.out.trans (HB10.out.mono HBE.out.size)⟩

end Go.Proofs.Ytjgdplengfnkaaa
