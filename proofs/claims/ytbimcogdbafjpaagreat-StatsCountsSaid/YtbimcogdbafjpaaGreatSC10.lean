/- Parts of the proof, one behind the other: Es, Yf, Zw, Qv, Zl, Oa, St, Et, Eu, Ev, Rx, Ry, Uf, Ew, Wa. -/
import Derived.Test.YtbimcogdbafjpaaGreatSC9
import Derived.BigQuiet
import Derived.Lib.ItoaNum
import Derived.Lib.ItoaLen
import Derived.Lib.SplitLaws
import Derived.Deep.CutBlock
set_option linter.unusedVariables false
namespace Go.Proofs.YtbimcogdbafjpaaGreat
open Go.RowKit
def PlPost (S : Dev) (L : List Hd) (a : Int) (w : World) : Ending → World → Prop := fun e w' => (∃ p d : Int, e = .returned (.tuple #[vob p d, .bool (placedN S L a).isSome]) ∧ ∀ o, placedN S L a = some o → o = ⟨p, d, 0⟩) ∧ Below w.heap.size w w'
theorem headN_cases (S : Dev) (a : Int) : headN S a = ⟨0, 0, 22⟩ ∨ ∃ p d, headN S a = ⟨p, d, 0⟩ := by
 rcases headN_code S a with h | h
 ·refine .inr ⟨(headN S a).p, (headN S a).d, ?_⟩
  have := h.1
  generalize headN S a = o at *
  obtain ⟨p, d, c⟩ := o
  dsimp only at this
  rw [this]
 ·exact .inl h
set_option maxHeartbeats 4000000 in
set_option maxRecDepth 20000 in
theorem aplaced_any {w : World} {F : Foot} {S : Dev} (h : DevAt w F S) (a : Option Addr) (B cap : Nat) (L : List Hd) (hlen : L.length = B) (hc : Cells w a (hdCs L)) (hB : B ≤ 1000) (hS : S.cache.length ≤ 1000000) (x : Int) :
  Calls Tryz.prog 83 #[vdev F, vgeom (B : Int), .slice a B cap, .int .i64 x] w (PlPost S L x w) := by
 have HM := LH (Mem.two w #[.int .i64 (B : Int)] 46 #[.int .i64 0, .int .i64 0] 129)
 have HP : Hid (∀ (p d : Int) b w', b = (placedN S L x).isSome → (∀ o, placedN S L x = some o → o = ⟨p, d, 0⟩) → Below w.heap.size w w' → PlPost S L x w (.returned (.tuple #[vob p d, .bool b])) w') := LH (fun p d b w' h1 h2 h3 => by subst h1; exact ⟨⟨p, d, rfl, h2⟩, h3⟩)
 generalize PlPost S L x w = Post at *
 have HD0 := LH (h.below HM.out.below)
 have HC0 := LH (hc.below HM.out.below (Nat.le_refl _))
 have HLen := LH hlen
 have HBlk := LH (fun w => gblockOf_any B hB x w)
 clear h hc hlen
 go_enter Tryz.func83, Tryz.ntmps83
 go_upto_region 1 with fail
 obtain ⟨q, hq⟩ : ∃ q, q = w.heap.size := ⟨_, rfl⟩
 rw [← hq] at HM ⊢
 generalize (w.alloc _).alloc _ = w0 at *
 clear hq
 have c0 := HM.out.cell 0 0 rfl rfl
 by_cases hin : x < 512 ∨ 512 * (B : Int) ≤ x
 ·have HN : Hid (placedN S L x = none) := LH (by unfold placedN; rw [if_pos (by rw [HLen.out]; omega)])
  have hbb : blockOf (B : Int) x < 1 := by unfold blockOf; split <;> omega
  have HBb := LH HBlk.out
  generalize blockOf (B : Int) x = bb at *
  clear hin
  go_wp2_with fail
  refine (HBlk.out _).mono ?_
  rintro e w1 ⟨rfl, hb1⟩
  have HM1 := LH (HM.out.later hb1)
  clear hb1 c0
  go_wp2_with (refine wpList_store_mem aggOb HM1.out 1 rfl rfl rfl rfl rfl rfl rfl rfl ?_; intro w7 h7 ht7; have H7 := LH h7; clear h7 ht7)
  refine bodyPost_ret (results_cell_row2 (p := 8) (u := 9) rfl _ _ _ _ _ _ _ rfl (H7.out.exact 1 rfl) Tryz.underlying129 rfl (by kernel_rfl)) rfl ?_
  refine HP.out _ _ _ _ (by rw [HN.out]; rfl) (fun o ho => by rw [HN.out] at ho; cases ho) H7.out.below
 obtain ⟨y, hy⟩ : ∃ y : Nat, x = (y : Int) := ⟨x.toNat, by omega⟩
 subst hy
 have h1 : 512 ≤ y := by omega
 have h2 : y < 512 * B := by omega
 have hbo : blockOf (B : Int) (y : Int) = ((y / 512 : Nat) : Int) := by unfold blockOf; rw [if_neg (by omega)]; omega
 rw [hbo] at HBlk
 obtain ⟨b, hb⟩ : ∃ b, b = y / 512 := ⟨_, rfl⟩
 have hb1 : 1 ≤ b := by omega
 have hb2 : b < B := by omega
 rw [← hb] at HBlk
 have HBy := LH hb
 have HPl : Hid (placedN S L (y : Int) = if (headN S (y : Int)).code ≠ 0 then none
  else if small (objSize (headN S (y : Int)).p (headN S (y : Int)).d) then (if isCell L (ofN (objSize (headN S (y : Int)).p (headN S (y : Int)).d : Nat)) y then some (headN S (y : Int)) else none)
  else if y % 512 = 0 ∧ wholeN L b = objBlocks (objSize (headN S (y : Int)).p (headN S (y : Int)).d) then some (headN S (y : Int)) else none) := LH (by
  unfold placedN
  rw [Int.toNat_natCast, ← hb, HLen.out]
  by_cases c : (headN S (y : Int)).code ≠ 0
  ·rw [if_pos (.inr (.inr c)), if_pos c]
  ·rw [if_neg (by omega), if_neg c])
 clear hbo hin hb
 go_wp2_with fail
 refine (HBlk.out _).mono ?_
 rintro e w1 ⟨rfl, hb1'⟩
 have HM1 := LH (HM.out.later hb1')
 have HD1 := LH (HD0.out.below hb1')
 have HC1 := LH (HC0.out.below hb1' (Nat.le_refl _))
 clear hb1' c0
 go_wp2_with fail
 refine (ohead_any HD1.out (y : Int)).mono ?_
 rintro e w2 ⟨rfl, hb2'⟩
 have HM2 := LH (HM1.out.later hb2')
 have HD2 := LH (HD1.out.below hb2')
 have HC2 := LH (HC1.out.below hb2' (Nat.le_refl _))
 clear hb2'
 unfold Odec.val
 rcases headN_cases S (y : Int) with hh | ⟨p, d, hh⟩
 ·have HN : Hid (placedN S L (y : Int) = none) := LH (by rw [HPl.out, hh]; rfl)
  rw [hh]
  dsimp only
  go_upto_region 5 with fail
  have HM3 := LH (HM2.out.alloc #[.int .i64 0, .int .i64 0] 129)
  generalize w2.alloc _ = w3 at *
  go_wp2_with (refine wpList_store_mem aggOb HM3.out 1 rfl rfl rfl rfl rfl rfl rfl rfl ?_; intro w7 h7 ht7; have H7 := LH h7; clear h7 ht7)
  refine bodyPost_ret (results_cell_row2 (p := 8) (u := 9) rfl _ _ _ _ _ _ _ rfl (H7.out.exact 1 rfl) Tryz.underlying129 rfl (by kernel_rfl)) rfl ?_
  refine HP.out _ _ _ _ (by rw [HN.out]; rfl) (fun o ho => by rw [HN.out] at ho; cases ho) H7.out.below
 have HS0 : Hid (objSize p d ≠ 0) := LH (by
  have := headN_code S (y : Int)
  rw [hh] at this
  rcases this with h | h
  ·exact h.2.2.2.1
  ·injection h with _ _ h3; cases h3)
 rw [hh]
 have HPl2 : Hid (placedN S L (y : Int) = if small (objSize p d) then (if isCell L (ofN (objSize p d : Nat)) y then some ⟨p, d, 0⟩ else none)
  else if y % 512 = 0 ∧ wholeN L b = objBlocks (objSize p d) then some ⟨p, d, 0⟩ else none) := LH (by rw [HPl.out, hh, if_neg (by simp)])
 dsimp only
 clear HPl HBlk
 have HSm := LH (fun w => osmall_any p d w)
 have HBl := LH (fun w => oblocks_any p d w)
 generalize objSize p d = s at *
 go_upto_region 7 with fail
 have HB3 := LH (below_alloc w2 (Obj.cells #[.int .i64 p, .int .i64 d] 129))
 have HM3 := LH (HM2.out.alloc #[.int .i64 p, .int .i64 d] 129)
 have HC3 := LH (HC2.out.below HB3.out (Nat.le_refl _))
 obtain ⟨q3, hq3⟩ : ∃ q3, q3 = w2.heap.size := ⟨_, rfl⟩
 rw [← hq3] at HM3 ⊢
 generalize w2.alloc _ = w3 at *
 clear hq3
 obtain ⟨k, c, z, he⟩ := hdGetD L b
 obtain ⟨b1, o1, rfl, e0, e1, e2⟩ := hd_cells HC3.out (by rw [HLen.out]; exact hb2) he
 have HEb := LH he
 clear he
 have hbB : (b : Int) < (B : Int) := by omega
 go_upto_region 8 with fail
 have HB4 := LH (below_alloc w3 (Obj.cells #[.int .i64 k, .int .i64 c, .int .i64 z] 104))
 have HM4 := LH (HM3.out.alloc #[.int .i64 k, .int .i64 c, .int .i64 z] 104)
 have HC4 := LH (HC3.out.below HB4.out (Nat.le_refl _))
 obtain ⟨q4, hq4⟩ : ∃ q4, q4 = w3.heap.size := ⟨_, rfl⟩
 rw [← hq4] at HM4 ⊢
 generalize w3.alloc _ = w4 at *
 clear hq4 e0 e1 e2
 have d0 := HM4.out.cell 2 0 rfl rfl
 have d1 := HM4.out.cell 2 1 rfl rfl
 go_wp2_with fail
 refine (HSm.out _).mono ?_
 rintro e w5 ⟨rfl, hb5⟩
 have HM5 := LH (HM4.out.later hb5)
 have HC5 := LH (HC4.out.below hb5 (Nat.le_refl _))
 clear hb5 d0 d1
 have hnd := HM5.out.nd
 simp only [List.map_cons, List.map_nil, List.map_append, List.cons_append, List.nil_append, List.nodup_cons, List.mem_cons, List.not_mem_nil, or_false, not_or] at hnd
 have hn0 : q ∉ [q + 1] := by simp
 have hn2 : q3 ∉ [q + 1] := by simp; exact fun e => hnd.2.1.1 e.symm
 have hn3 : q4 ∉ [q + 1] := by simp; exact fun e => hnd.2.1.2 e.symm
 have HNs := LH (And.intro hn0 (And.intro hn2 hn3))
 clear hnd hn0 hn2 hn3
 by_cases hsm : small s
 ·have hk := ofN_lt hsm
  rw [ofV_small _ hsm]
  have HPl3 : Hid (placedN S L (y : Int) = if isCell L (ofN (s : Int)) y then some ⟨p, d, 0⟩ else none) := LH (by rw [HPl2.out, if_pos hsm])
  generalize ofN (s : Int) = kk at *
  have HIs : Hid (isCell L kk y ↔ begins kk y = true ∧ (⟨k, c, z⟩ : Hd) = ⟨1, kk, 0⟩) := LH (by
   unfold isCell begins
   rw [← HBy.out, HEb.out, decide_eq_true_eq, HLen.out]
   constructor
   ·rintro ⟨_, _, h3, h4, h5⟩; exact ⟨⟨h4, h5⟩, h3⟩
   ·rintro ⟨⟨h4, h5⟩, h3⟩; exact ⟨h1, h2, h3, h4, h5⟩)
  have HAt := LH (fun w => cat_any B hB kk y hk h1 h2 w)
  clear HPl2 hsm HSm HBl
  have c0 := HM5.out.cell 0 0 rfl rfl
  go_wp2_with fail
  refine (HAt.out _).mono ?_
  rintro e w6 ⟨⟨ax, ay, rfl⟩, hb6⟩
  have HM6 := LH (HM5.out.later hb6)
  clear hb6 c0 HAt
  go_upto_region 11 with fail
  have HM7 := LH (HM6.out.alloc #[.int .i64 ax, .int .i64 ay] 239)
  generalize w6.alloc _ = w7 at *
  have d0 := HM7.out.cell 2 0 rfl rfl
  have d1 := HM7.out.cell 2 1 rfl rfl
  have d3 := HM7.out.cell 3 0 rfl rfl
  have d4 := HM7.out.cell 3 1 rfl rfl
  have d5 := HM7.out.cell 3 2 rfl rfl
  have r0 := fun x => near_cell (L := [q + 1]) d0 HNs.out.2.1 x
  have r1 := fun x => near_cell (L := [q + 1]) d1 HNs.out.2.1 x
  have r3 := fun x => near_cell (L := [q + 1]) d3 HNs.out.2.2 x
  have r4 := fun x => near_cell (L := [q + 1]) d4 HNs.out.2.2 x
  have r5 := fun x => near_cell (L := [q + 1]) d5 HNs.out.2.2 x
  have HT0 : Hid (Touch [q + 1] w7 w7.drew) := LH (Touch.ofBelow (later_below (later_drew w7)))
  have HD0 : Hid (Below w7.heap.size w7 w7.drew) := LH (later_below (later_drew w7))
  have hC1 := near_of HT0.out
  clear d0 d1 d3 d4 d5
  have hgd := gsBh
  cases hbg : begins kk y with
  | false =>
   have HN : Hid (placedN S L (y : Int) = none) := LH (by rw [HPl3.out, if_neg (fun h => by have := (HIs.out.1 h).1; rw [hbg] at this; cases this)])
   clear hbg HPl3 HIs
   refine wp_region_seg (C := fun w' => ∃ x : Near [q + 1] w7, w' = x.val) [.fl [0, 1, 2, 3, 4, 5, 6, 7], .sq [8] true, .sq [9] false] (by kernel_rfl) (by kernel_rfl) (by intro c a d v w h; cases d <;> exact h) ?_
   simp only [segs, picks, List.getElem?_cons_succ, List.getElem?_cons_zero]
   refine wpSeg_fl hC1 ?_
   repeat (first | go_big_quiet_step (fail) | quiet_step (fail))
   refine wpQuiet_nil ?_
   refine wpSeg_sq (fun K hK => ?_)
   go_wp2_with (refine wpList_store_mem aggOb (HM7.out.later HD0.out) 1 rfl rfl rfl rfl rfl rfl rfl rfl ?_; intro w8 h8 ht8; have H8 := LH h8; have HT8 := LH (HT0.out.trans ht8); clear h8 ht8)
   have hC2 := near_of HT8.out
   go_wp2_with fail
   refine hK _ _ (fun _ => hC2) ?_
   clear hK K
   refine wpSeg_last ?_
   go_wp2_with fail
   refine bodyPost_ret (results_cell_row2 (p := 8) (u := 9) rfl _ _ _ _ _ _ _ rfl (H8.out.exact 1 rfl) Tryz.underlying129 rfl (by kernel_rfl)) rfl ?_
   refine HP.out _ _ _ _ (by rw [HN.out]; rfl) (fun o ho => by rw [HN.out] at ho; cases ho) H8.out.below
  | true =>
   by_cases hq : (⟨k, c, z⟩ : Hd) = ⟨1, kk, 0⟩
   ·have heq : ∀ w', (Op.equalIn 10000 104 (.agg #[.int .i64 k, .int .i64 c, .int .i64 z]) (.agg #[.int .i64 1, .int .i64 (kk : Int), .int .i64 0])).run Tryz.prog w' = .ok true w' := fun w' => equalBh w' _ _ _ _ _ _ _ (by rw [← hd_beq]; simp [hq])
    have HN : Hid (placedN S L (y : Int) = some ⟨p, d, 0⟩) := LH (by rw [HPl3.out, if_pos (HIs.out.2 ⟨hbg, hq⟩)])
    clear hbg HPl3 HIs hq
    refine wp_region_seg (C := fun w' => ∃ x : Near [q + 1] w7, w' = x.val) [.fl [0, 1, 2, 3, 4, 5, 6, 7], .sq [8] true, .sq [9] false] (by kernel_rfl) (by kernel_rfl) (by intro c a d v w h; cases d <;> exact h) ?_
    simp only [segs, picks, List.getElem?_cons_succ, List.getElem?_cons_zero]
    refine wpSeg_fl hC1 ?_
    repeat (first | go_big_quiet_step (fail) | quiet_step (fail))
    refine wpQuiet_nil ?_
    refine wpSeg_sq (fun K hK => ?_)
    go_wp2_with (refine wpList_store_mem aggOb (HM7.out.later HD0.out) 1 rfl rfl rfl rfl rfl rfl rfl rfl ?_; intro w8 h8 ht8; have H8 := LH h8; have HT8 := LH (HT0.out.trans ht8); clear h8 ht8)
    have hC2 := near_of HT8.out
    go_wp2_with fail
    refine hK _ _ (fun _ => hC2) ?_
    clear hK K
    refine wpSeg_last ?_
    go_wp2_with fail
    refine bodyPost_ret (results_cell_row2 (p := 8) (u := 9) rfl _ _ _ _ _ _ _ rfl (H8.out.exact 1 rfl) Tryz.underlying129 rfl (by kernel_rfl)) rfl ?_
    refine HP.out _ _ _ _ (by rw [HN.out]; rfl) (fun o ho => by rw [HN.out] at ho; cases ho; rfl) H8.out.below
   ·have heq : ∀ w', (Op.equalIn 10000 104 (.agg #[.int .i64 k, .int .i64 c, .int .i64 z]) (.agg #[.int .i64 1, .int .i64 (kk : Int), .int .i64 0])).run Tryz.prog w' = .ok false w' := fun w' => equalBh w' _ _ _ _ _ _ _ (by rw [← hd_beq]; simp [hq])
    have HN : Hid (placedN S L (y : Int) = none) := LH (by rw [HPl3.out, if_neg (fun h => hq (HIs.out.1 h).2)])
    clear hbg HPl3 HIs hq
    refine wp_region_seg (C := fun w' => ∃ x : Near [q + 1] w7, w' = x.val) [.fl [0, 1, 2, 3, 4, 5, 6, 7], .sq [8] true, .sq [9] false] (by kernel_rfl) (by kernel_rfl) (by intro c a d v w h; cases d <;> exact h) ?_
    simp only [segs, picks, List.getElem?_cons_succ, List.getElem?_cons_zero]
    refine wpSeg_fl hC1 ?_
    repeat (first | go_big_quiet_step (fail) | quiet_step (fail))
    refine wpQuiet_nil ?_
    refine wpSeg_sq (fun K hK => ?_)
    go_wp2_with (refine wpList_store_mem aggOb (HM7.out.later HD0.out) 1 rfl rfl rfl rfl rfl rfl rfl rfl ?_; intro w8 h8 ht8; have H8 := LH h8; have HT8 := LH (HT0.out.trans ht8); clear h8 ht8)
    have hC2 := near_of HT8.out
    go_wp2_with fail
    refine hK _ _ (fun _ => hC2) ?_
    clear hK K
    refine wpSeg_last ?_
    go_wp2_with fail
    refine bodyPost_ret (results_cell_row2 (p := 8) (u := 9) rfl _ _ _ _ _ _ _ rfl (H8.out.exact 1 rfl) Tryz.underlying129 rfl (by kernel_rfl)) rfl ?_
    refine HP.out _ _ _ _ (by rw [HN.out]; rfl) (fun o ho => by rw [HN.out] at ho; cases ho) H8.out.below
 rw [ofV_large _ hsm]
 have HNb : Hid (1 ≤ objBlocks s) := LH (by
  unfold objBlocks
  rw [if_neg hsm]
  have := HS0.out
  omega)
 have HPl3 : Hid (placedN S L (y : Int) = if y % 512 = 0 ∧ wholeN L b = objBlocks s then some ⟨p, d, 0⟩ else none) := LH (by rw [HPl2.out, if_neg hsm])
 clear HPl2 hsm HSm
 have HWh := LH (bwhole_any (some ⟨b1, o1, none⟩) B cap L HLen.out w5 HC5.out hB b hb2)
 go_wp2_with fail
 refine HWh.out.mono ?_
 rintro e w6 hp6
 obtain ⟨hv6, hb6⟩ := hp6
 have HM6 := LH (HM5.out.later hb6)
 clear hb6 HWh
 have c0 := HM6.out.cell 0 0 rfl rfl
 have d0 := HM6.out.cell 2 0 rfl rfl
 have d1 := HM6.out.cell 2 1 rfl rfl
 have r0 := fun x => near_cell (L := [q + 1]) d0 HNs.out.2.1 x
 have r1 := fun x => near_cell (L := [q + 1]) d1 HNs.out.2.1 x
 have r2 := fun x => near_cell (L := [q + 1]) c0 HNs.out.1 x
 have HT0 : Hid (Touch [q + 1] w6 w6.drew) := LH (Touch.ofBelow (later_below (later_drew w6)))
 have HD0 : Hid (Below w6.heap.size w6 w6.drew) := LH (later_below (later_drew w6))
 have hC1 := near_of HT0.out
 clear c0 d0 d1
 have HFi := LH (fun w => gfirstN_any B hB b hb2 w)
 obtain ⟨nb, hnb⟩ : ∃ nb, nb = objBlocks s := ⟨_, rfl⟩
 rw [← hnb] at HPl3 HNb HBl
 obtain ⟨wn, hwn⟩ : ∃ wn, wn = wholeN L b := ⟨_, rfl⟩
 rw [← hwn] at HPl3 hv6
 clear hnb hwn
 by_cases hw0 : wn = 0
 ·subst hw0
  have hv7 : e = .returned (.tuple #[.int .i64 0, .bool false]) := by rw [hv6]; rfl
  have HN : Hid (placedN S L (y : Int) = none) := LH (by rw [HPl3.out, if_neg (by have := HNb.out; omega)])
  subst hv7
  clear hv6
  go_upto_region 13 with fail
  refine wp_region_seg (C := fun w' => ∃ x : Near [q + 1] w6, w' = x.val) [.fl [0, 1, 2, 3, 4, 5], .sq [6] true, .fl [7, 8, 9, 10, 11], .sq [12] true, .fl [13, 14], .sq [15] true, .sq [16] false] (by kernel_rfl) (by kernel_rfl) (by intro c a d v w h; cases d <;> exact h) ?_
  simp only [segs, picks, List.getElem?_cons_succ, List.getElem?_cons_zero]
  refine wpSeg_fl hC1 ?_
  repeat (first | go_big_quiet_step (fail) | quiet_step (fail))
  refine wpQuiet_nil ?_
  refine wpSeg_sq (fun K hK => ?_)
  go_wp2_with fail
  go_wp2_with fail
  refine hK _ _ (fun _ => hC1) ?_
  clear hK K
  refine wpSeg_fl hC1 ?_
  repeat (first | go_big_quiet_step (fail) | quiet_step (fail))
  refine wpQuiet_nil ?_
  refine wpSeg_sq (fun K hK => ?_)
  go_wp2_with fail
  go_wp2_with fail
  refine hK _ _ (fun _ => hC1) ?_
  clear hK K
  refine wpSeg_fl hC1 ?_
  repeat (first | go_big_quiet_step (fail) | quiet_step (fail))
  refine wpQuiet_nil ?_
  refine wpSeg_sq (fun K hK => ?_)
  go_wp2_with (refine wpList_store_mem aggOb (HM6.out.later HD0.out) 1 rfl rfl rfl rfl rfl rfl rfl rfl ?_; intro w8 h8 ht8; have H8 := LH h8; have HT8 := LH (HT0.out.trans ht8); clear h8 ht8)
  have hC2 := near_of HT8.out
  go_wp2_with fail
  refine hK _ _ (fun _ => hC2) ?_
  clear hK K
  refine wpSeg_last ?_
  go_wp2_with fail
  refine bodyPost_ret (results_cell_row2 (p := 8) (u := 9) rfl _ _ _ _ _ _ _ rfl (H8.out.exact 1 rfl) Tryz.underlying129 rfl (by kernel_rfl)) rfl ?_
  refine HP.out _ _ _ _ (by rw [HN.out]; rfl) (fun o ho => by rw [HN.out] at ho; cases ho) H8.out.below
 have hv7 : e = .returned (.tuple #[.int .i64 (wn : Int), .bool true]) := by rw [hv6, decide_eq_true hw0]
 subst hv7
 clear hv6
 have hb512 : b < 1000 := by omega
 go_upto_region 13 with fail
 by_cases hy5 : y = b * 512
 case neg =>
  have hy6 : ((y : Int) == (b : Int) * 512) = false := by simp; omega
  have HN : Hid (placedN S L (y : Int) = none) := LH (by rw [HPl3.out, if_neg (by have := HBy.out; omega)])
  clear hy5
  refine wp_region_seg (C := fun w' => ∃ x : Near [q + 1] w6, w' = x.val) [.fl [0, 1, 2, 3, 4, 5], .sq [6] true, .fl [7, 8, 9, 10, 11], .sq [12] true, .fl [13, 14], .sq [15] true, .sq [16] false] (by kernel_rfl) (by kernel_rfl) (by intro c a d v w h; cases d <;> exact h) ?_
  simp only [segs, picks, List.getElem?_cons_succ, List.getElem?_cons_zero]
  refine wpSeg_fl hC1 ?_
  repeat (first | go_big_quiet_step (fail) | quiet_step (fail))
  refine wpQuiet_nil ?_
  refine wpSeg_sq (fun K hK => ?_)
  go_wp2_with fail
  refine (HFi.out _).mono ?_
  rintro e w7 ⟨rfl, hb7⟩
  have HD7 := LH (HD0.out.trans (hb7.mono HD0.out.size))
  have HT7 := LH (HT0.out.later hb7)
  have hC2 := near_of HT7.out
  clear hb7
  go_wp2_with fail
  refine hK _ _ (fun _ => hC2) ?_
  clear hK K
  refine wpSeg_fl hC2 ?_
  repeat (first | go_big_quiet_step (fail) | quiet_step (fail))
  refine wpQuiet_nil ?_
  refine wpSeg_sq (fun K hK => ?_)
  go_wp2_with fail
  go_wp2_with fail
  refine hK _ _ (fun _ => hC2) ?_
  clear hK K
  refine wpSeg_fl hC2 ?_
  repeat (first | go_big_quiet_step (fail) | quiet_step (fail))
  refine wpQuiet_nil ?_
  refine wpSeg_sq (fun K hK => ?_)
  go_wp2_with (refine wpList_store_mem aggOb (HM6.out.later HD7.out) 1 rfl rfl rfl rfl rfl rfl rfl rfl ?_; intro w8 h8 ht8; have H8 := LH h8; have HT8 := LH (HT7.out.trans ht8); clear h8 ht8)
  have hC3 := near_of HT8.out
  go_wp2_with fail
  refine hK _ _ (fun _ => hC3) ?_
  clear hK K
  refine wpSeg_last ?_
  go_wp2_with fail
  refine bodyPost_ret (results_cell_row2 (p := 8) (u := 9) rfl _ _ _ _ _ _ _ rfl (H8.out.exact 1 rfl) Tryz.underlying129 rfl (by kernel_rfl)) rfl ?_
  refine HP.out _ _ _ _ (by rw [HN.out]; rfl) (fun o ho => by rw [HN.out] at ho; cases ho) H8.out.below
 have hy6 : ((y : Int) == (b : Int) * 512) = true := by simp; omega
 have HN : Hid (placedN S L (y : Int) = if wn = nb then some ⟨p, d, 0⟩ else none) := LH (by
  rw [HPl3.out]
  by_cases c : wn = nb
  ·rw [if_pos ⟨by omega, c⟩, if_pos c]
  ·rw [if_neg (fun h => c h.2), if_neg c])
 clear hy5
 refine wp_region_seg (C := fun w' => ∃ x : Near [q + 1] w6, w' = x.val) [.fl [0, 1, 2, 3, 4, 5], .sq [6] true, .fl [7, 8, 9, 10, 11], .sq [12] true, .fl [13, 14], .sq [15] true, .sq [16] false] (by kernel_rfl) (by kernel_rfl) (by intro c a d v w h; cases d <;> exact h) ?_
 simp only [segs, picks, List.getElem?_cons_succ, List.getElem?_cons_zero]
 refine wpSeg_fl hC1 ?_
 repeat (first | go_big_quiet_step (fail) | quiet_step (fail))
 refine wpQuiet_nil ?_
 refine wpSeg_sq (fun K hK => ?_)
 go_wp2_with fail
 refine (HFi.out _).mono ?_
 rintro e w7 ⟨rfl, hb7⟩
 have HD7 := LH (HD0.out.trans (hb7.mono HD0.out.size))
 have HT7 := LH (HT0.out.later hb7)
 have hC2 := near_of HT7.out
 clear hb7
 go_wp2_with fail
 refine hK _ _ (fun _ => hC2) ?_
 clear hK K
 refine wpSeg_fl hC2 ?_
 repeat (first | go_big_quiet_step (fail) | quiet_step (fail))
 refine wpQuiet_nil ?_
 refine wpSeg_sq (fun K hK => ?_)
 go_wp2_with fail
 refine (HBl.out _).mono ?_
 rintro e w8 ⟨rfl, hb8⟩
 have HD8 := LH (HD7.out.trans (hb8.mono HD7.out.size))
 have HT8 := LH (HT7.out.later hb8)
 have hC3 := near_of HT8.out
 clear hb8
 go_wp2_with fail
 refine hK _ _ (fun _ => hC3) ?_
 clear hK K
 refine wpSeg_fl hC3 ?_
 repeat (first | go_big_quiet_step (fail) | quiet_step (fail))
 refine wpQuiet_nil ?_
 refine wpSeg_sq (fun K hK => ?_)
 go_wp2_with (refine wpList_store_mem aggOb (HM6.out.later HD8.out) 1 rfl rfl rfl rfl rfl rfl rfl rfl ?_; intro w9 h9 ht9; have H9 := LH h9; have HT9 := LH (HT8.out.trans ht9); clear h9 ht9)
 have hC4 := near_of HT9.out
 go_wp2_with fail
 refine hK _ _ (fun _ => hC4) ?_
 clear hK K
 refine wpSeg_last ?_
 go_wp2_with fail
 refine bodyPost_ret (results_cell_row2 (p := 8) (u := 9) rfl _ _ _ _ _ _ _ rfl (H9.out.exact 1 rfl) Tryz.underlying129 rfl (by kernel_rfl)) rfl ?_
 refine HP.out _ _ _ _ ?_ (fun o ho => ?_) H9.out.below
 ·rw [HN.out]
  by_cases c : wn = nb
  ·subst c; simp
  ·rw [if_neg c]; simp; omega
 ·rw [HN.out] at ho
  split at ho
  ·cases ho; rfl
  ·cases ho
set_option maxHeartbeats 2000000 in
set_option maxRecDepth 20000 in
theorem aplace_any {w : World} {A : AF} {n B : Nat} {m : Al} (h : AlAt w A n B m) (hB : B ≤ 1000) (x : Int) :
  Calls Tryz.prog 101 #[valloc A, .int .i64 x] w (PlPost m.bm.dev m.bm.list x w) := by
 have HM := LH (Mem.one w #[.int .i64 0, .int .i64 0] 129)
 have HP : Hid (∀ (p d : Int) b w', b = (placedN m.bm.dev m.bm.list x).isSome → (∀ o, placedN m.bm.dev m.bm.list x = some o → o = ⟨p, d, 0⟩) → Below w.heap.size w w' → PlPost m.bm.dev m.bm.list x w (.returned (.tuple #[vob p d, .bool b])) w') := LH (fun p d b w' h1 h2 h3 => by subst h1; exact ⟨⟨p, d, rfl, h2⟩, h3⟩)
 have HLn : Hid (m.bm.list.length = B) := LH h.man.tab.len
 have HSm : Hid (m.bm.dev.cache.length ≤ 1000000) := LH h.man.dev.small
 generalize PlPost m.bm.dev m.bm.list x w = Post at *
 have HA0 := LH (h.below HM.out.below)
 have HAh := LH h
 clear h
 go_enter Tryz.func101, Tryz.ntmps101
 go_upto_region 1 with fail
 obtain ⟨q, hq⟩ : ∃ q, q = w.heap.size := ⟨_, rfl⟩
 have HQn : Hid (∀ k ∈ A.list, k ∉ [q]) := LH (fun k hk hm => by
  have := HAh.out.mem k hk
  simp at hm
  omega)
 rw [← hq] at HM ⊢
 generalize w.alloc _ = w0 at *
 clear hq
 have c0 := HA0.out.c0
 have c1 := HA0.out.c1
 have c2 := HA0.out.c2
 have c3 := HA0.out.man.c0
 have r0 := fun x => near_cell (L := [q]) c0 (HQn.out _ (by simp [AF.list, AF.fix])) x
 have r1 := fun x => near_cell (L := [q]) c1 (HQn.out _ (by simp [AF.list, AF.fix])) x
 have r2 := fun x => near_cell (L := [q]) c2 (HQn.out _ (by simp [AF.list, AF.fix])) x
 have r3 := fun x => near_cell (L := [q]) c3 (HQn.out _ (by simp [AF.list, AF.fix, MF.list])) x
 have HT0 : Hid (Touch [q] w0 w0.drew) := LH (Touch.ofBelow (later_below (later_drew w0)))
 have HD0 : Hid (Below w0.heap.size w0 w0.drew) := LH (later_below (later_drew w0))
 have hC1 := near_of HT0.out
 clear c0 c1 c2 c3
 refine wp_region_seg (C := fun w' => ∃ x : Near [q] w0, w' = x.val) [.fl [0, 1, 2, 3, 4, 5, 6, 7, 8, 9, 10, 11, 12, 13, 14, 16], .sq [15] true, .sq [17] false, .fl [18, 19], .sq [20, 21] false] (by kernel_rfl) (by kernel_rfl) (by intro c a d v w h; cases d <;> exact h) ?_
 simp only [segs, picks, List.getElem?_cons_succ, List.getElem?_cons_zero]
 refine wpSeg_fl hC1 ?_
 repeat (first | go_big_quiet_step (fail) | quiet_step (fail))
 refine wpQuiet_nil ?_
 clear r0 r1 r2 r3
 generalize w0.drew = w1 at *
 have HA1 := LH (HA0.out.below HD0.out)
 refine wpSeg_sq (fun K hK => ?_)
 go_wp2_with fail
 refine (tall_any HA1.out.man.tab hB).mono ?_
 rintro e w2 ⟨g, cg, rfl, hg1, hg2, hrow, hb2⟩
 have HD2 := LH (HD0.out.trans (hb2.mono HD0.out.size))
 have HT2 := LH (HT0.out.later hb2)
 have hC2 := near_of HT2.out
 have HR2 := LH hrow.cells
 clear hb2 hrow
 go_wp2_with fail
 refine hK _ _ (fun _ => hC2) ?_
 clear hK K
 have HA2 := LH (HA0.out.below HD2.out)
 refine wpSeg_sq (fun K hK => ?_)
 go_wp2_with fail
 refine (aplaced_any HA2.out.man.dev _ B cg m.bm.list HLn.out HR2.out hB HSm.out x).mono ?_
 rintro e w3 ⟨⟨p, d, rfl, ho⟩, hb3⟩
 have HO := LH ho
 have HD3 := LH (HD2.out.trans (hb3.mono HD2.out.size))
 have HT3 := LH (HT2.out.later hb3)
 have hC3 := near_of HT3.out
 clear ho hb3
 go_wp2_with fail
 refine hK _ _ (fun _ => hC3) ?_
 clear hK K
 refine wpSeg_fl hC3 ?_
 repeat (first | go_big_quiet_step (fail) | quiet_step (fail))
 refine wpQuiet_nil ?_
 refine wpSeg_last ?_
 go_wp2_with (refine wpList_store_mem aggOb (HM.out.later HD3.out) 0 rfl rfl rfl rfl rfl rfl rfl rfl ?_; intro w9 h9 ht9; have H9 := LH h9; clear h9 ht9)
 refine bodyPost_ret (results_cell_row2 (p := 4) (u := 5) rfl _ _ _ _ _ _ _ rfl (H9.out.exact 0 rfl) Tryz.underlying129 rfl (by kernel_rfl)) rfl ?_
 exact HP.out _ _ _ _ rfl HO.out H9.out.below
def bmOf (S : Dev) (B : Nat) : Bm := ⟨S, hds (devWord S) B, freeL (freeAt (hds (devWord S) B)) B B⟩
def OpenBm (w : World) (F : Foot) (S : Dev) (B : Nat) : Ending → World → Prop := fun e w' => Below w.heap.size w w' ∧
  ((AllOk (devWord S) B ∧ soundN (hds (devWord S) B) B 1 = 0 ∧ ∃ (X : MF) (n : Nat), e = .returned (.tuple #[.pointer (some ⟨X.m, 0, none⟩), .int .i64 0]) ∧ X.F = F ∧ ManAt w' X n B (bmOf S B) ∧ n ≤ 1000000 ∧
      (∀ k ∈ X.list, k ∈ F.list ∨ w.heap.size ≤ k)) ∨
   (AllOk (devWord S) B ∧ soundN (hds (devWord S) B) B 1 ≠ 0 ∧ e = .returned (.tuple #[.pointer none, .int .i64 40])) ∨
   (¬ AllOk (devWord S) B ∧ e = .returned (.tuple #[.pointer none, .int .i64 21])))
theorem bspans_fill (l : List Hd) (B : Nat) (h : l.length = B) : fillR (op2s (spansOf l)) (List.replicate B false) = (freeL (freeAt l) B B, 0) := by
 unfold spansOf
 rw [h]
 exact fill_spans (freeAt l) B B (Nat.le_refl _)
set_option maxHeartbeats 4000000 in
set_option maxRecDepth 20000 in
theorem bopen_any {w : World} {F : Foot} {S : Dev} (h : DevAt w F S) (B : Nat) (hB1 : 1 ≤ B) (hB : B ≤ 1000) :
    Calls Tryz.prog 16 #[vdev F, vgeom B] w (OpenBm w F S B) := by
  have HM := LH (Mem.one w #[.int .i64 (B : Int)] 46)
  have HD := LH (h.below HM.out.below)
  have HMF := LH h.mem
  have HNF := LH h.nodup
  have HL : Hid ((hds (devWord S) B).length = B) := LH (hds_length _ _)
  have HFill := LH (bspans_fill (hds (devWord S) B) B HL.out)
  have HBm : Hid (bmOf S B = ⟨S, hds (devWord S) B, freeL (freeAt (hds (devWord S) B)) B B⟩) := LH rfl
  have HFl : Hid ((freeL (freeAt (hds (devWord S) B)) B B).length = B) := LH (freeL_len _ _ _)
  have HPE : Hid (OpenBm w F S B = fun e w' => Below w.heap.size w w' ∧
  ((AllOk (devWord S) B ∧ soundN (hds (devWord S) B) B 1 = 0 ∧ ∃ (X : MF) (n : Nat), e = .returned (.tuple #[.pointer (some ⟨X.m, 0, none⟩), .int .i64 0]) ∧ X.F = F ∧ ManAt w' X n B (bmOf S B) ∧ n ≤ 1000000 ∧
      (∀ k ∈ X.list, k ∈ F.list ∨ w.heap.size ≤ k)) ∨
   (AllOk (devWord S) B ∧ soundN (hds (devWord S) B) B 1 ≠ 0 ∧ e = .returned (.tuple #[.pointer none, .int .i64 40])) ∨
   (¬ AllOk (devWord S) B ∧ e = .returned (.tuple #[.pointer none, .int .i64 21])))) := LH rfl
  generalize hP : OpenBm w F S B = Post at *
  clear h hP
  go_enter Tryz.func16, Tryz.ntmps16
  go_upto_region 1 with fail
  generalize hw0 : w.alloc _ = w0 at *
  clear hw0
  obtain ⟨q, hq⟩ : ∃ q, q = w.heap.size := ⟨_, rfl⟩
  rw [← hq] at HM ⊢
  have HQ := LH hq
  clear hq
  have c0 := HM.out.cell 0 0 rfl rfl
  unfold vdev at *
  go_wp2_with fail
  refine (open_tabG HD.out B hB1 hB).mono ?_
  rintro e w1 ⟨hb1, ⟨hok, p, g, cc, rfl, hp, hg, hpg, htab⟩ | ⟨b, hb0, hbB, hok, hbad, rfl⟩⟩
  case inr =>
    have HE : Hid (¬ AllOk (devWord S) B) := LH (fun h => hbad (h b hb0 hbB))
    have HB1 := LH (HM.out.later hb1)
    clear hok hbad hb1
    go_wp2_with fail
    rw [HPE.out]
    exact ⟨HB1.out.below, .inr (.inr ⟨HE.out, rfl⟩)⟩
  have HM1 := LH (HM.out.later hb1)
  have HD1 := LH (HD.out.below hb1)
  have HT1 := LH htab
  have HOK := LH hok
  have HG : Hid (w0.heap.size ≤ p ∧ w0.heap.size ≤ g ∧ p ≠ g) := LH ⟨hp, hg, hpg⟩
  have HW0 : Hid (w.heap.size + 1 ≤ w0.heap.size) := LH (by have := HM.out.glt 0 rfl; have := HQ.out; omega)
  clear hb1 htab hok hp hg hpg c0 HM HD
  generalize hds (devWord S) B = L at *
  go_wp2_with fail
  refine (tall_any HT1.out hB).mono ?_
  rintro e w2 ⟨a2, k2, rfl, hq2, hk2, hr2, hb2⟩
  have HM2 := LH (HM1.out.later hb2)
  have HD2 := LH (HD1.out.below hb2)
  have HT2 := LH (HT1.out.keep (hb2.block p HT1.out.lt.1) (hb2.block g HT1.out.lt.2))
  have HR2 := LH hr2
  clear hq2 hk2 hr2 hb2 HM1 HD1 HT1
  go_wp2_with fail
  refine (bsound_any _ B k2 L HL.out w2 HR2.out.cells hB).mono ?_
  rintro e w3 ⟨rfl, hb3⟩
  rw [HL.out]
  have HM3 := LH (HM2.out.later hb3)
  have HD3 := LH (HD2.out.below hb3)
  have HT3 := LH (HT2.out.keep (hb3.block p HT2.out.lt.1) (hb3.block g HT2.out.lt.2))
  clear hb3 HM2 HD2 HT2 HR2
  obtain ⟨sn, hsn⟩ : ∃ sn, sn = soundN L B 1 := ⟨_, rfl⟩
  rw [← hsn] at HPE ⊢
  clear hsn
  by_cases hs : sn = 0
  case neg =>
    have hs' : decide (sn = 0) = false := by simpa using hs
    rw [hs']
    have HS := LH hs
    clear hs hs'
    go_wp2_with fail
    rw [HPE.out]
    exact ⟨HM3.out.below, .inr (.inl ⟨HOK.out, HS.out, rfl⟩)⟩
  have hs' : decide (sn = 0) = true := by simpa using hs
  rw [hs']
  have HS := LH hs
  clear hs hs'
  have c0 := HM3.out.cell 0 0 rfl rfl
  go_upto_region 7 with fail
  have r0 := fun x => later_cell c0 x
  clear c0
  refine wp_region_seg (C := fun w' => ∃ x : Later (w3), w' = x.val) [.fl [0, 1, 2], .sq [3] true, .sq [4, 5] false, .fl [6, 7, 8], .sq [9] false] (by kernel_rfl) (by kernel_rfl) (by intro c a d v w h; cases d <;> exact h) ?_
  simp only [segs, picks, List.getElem?_cons_succ, List.getElem?_cons_zero]
  have hC1 := later_drew (w3)
  refine wpSeg_fl hC1 ?_
  repeat (first | go_big_quiet_step (fail) | quiet_step (fail))
  refine wpQuiet_nil ?_
  refine wpSeg_sq (fun K hK => ?_)
  go_wp2_with fail
  refine (tspans_any ((HT3.out.keep ((later_below hC1).block p HT3.out.lt.1) ((later_below hC1).block g HT3.out.lt.2)).at HG.out.2.2) (by rw [HL.out]; exact hB)).mono ?_
  rintro e w4 ⟨v, rfl, ho4, hb4⟩
  have hC2 := later_step hC1 hb4
  obtain ⟨a4, c4, rfl, _, hm4⟩ := owned_form ho4
  have HC4 : Hid (Cells w4 a4 (recs Op2.cs (op2s (spansOf L)))) := LH (by rw [op2s_cs]; exact Cells.owned2 ho4)
  have HSl : Hid ((op2s (spansOf L)).length = (spansOf L).length) := LH (by simp [op2s])
  have HSl2 : Hid ((spansOf L).length ≤ 1000000) := LH (by
    have := spanL_len (freeAt L) L.length
    unfold spansOf
    rw [HL.out] at this ⊢
    omega)
  generalize (spansOf L).length = nl at *
  clear ho4 hb4 hm4
  go_wp2_with fail
  refine hK _ _ (fun _ => hC2) ?_
  clear hK K
  refine wpSeg_sq (fun K hK => ?_)
  go_wp2_with fail
  refine (ifill_any (B : Int) (by omega) a4 nl c4 (op2s (spansOf L)) HSl.out _ HC4.out HSl2.out).mono ?_
  rw [show (B : Int).toNat = B from rfl, HFill.out]
  rintro e w5 ⟨hb5, ⟨_, T, kk, rfl, hix, hkk, hT⟩ | ⟨hne, _⟩⟩
  case inr => exact absurd rfl hne
  have hC3 := later_step hC2 hb5
  have HIx := LH hix
  have HTt := LH hT
  have HW4 : Hid (w3.heap.size ≤ w4.heap.size) := LH ((later_below hC2).size)
  clear hix hT hb5 HC4 HSl HSl2
  go_wp2_with fail
  refine hK _ _ (fun _ => hC3) ?_
  clear hK K
  refine wpSeg_fl hC3 ?_
  repeat (first | go_big_quiet_step (fail) | quiet_step (fail))
  refine wpQuiet_nil ?_
  have HM5 := LH (HM3.out.later (later_below hC3))
  have HD5 := LH (HD3.out.below (later_below hC3))
  have HT5 := LH (HT3.out.keep ((later_below hC3).block p HT3.out.lt.1) ((later_below hC3).block g HT3.out.lt.2))
  have HFl3 : Hid (∀ k ∈ F.list, k < w.heap.size) := HMF
  have HT3l : Hid (p < w3.heap.size ∧ g < w3.heap.size) := LH HT3.out.lt
  have c0 := HM5.out.cell 0 0 rfl rfl
  clear hC1 hC2 hC3 r0 HM3 HD3 HT3
  refine wpSeg_last ?_
  go_wp2_with fail
  rw [HPE.out]
  have hbx := below_alloc w5 (.cells #[.pointer (some ⟨p, 0, none⟩), .pointer (some ⟨T.p, 0, none⟩), .int .i64 (B : Int)] 70)
  have hTl := HIx.out.mem
  have hsz := HW4.out
  obtain ⟨hG1, hG2, hG3⟩ := HG.out
  have hW0 := HW0.out
  have h3 := HT3l.out
  have hw05 : w0.heap.size ≤ w5.heap.size := by have := HT5.out.lt; omega
  refine ⟨HM5.out.below.trans (hbx.mono HM5.out.below.size), .inl ⟨HOK.out, HS.out, ⟨w5.heap.size, p, g, cc, F, T⟩, kk, rfl, rfl, ?_, hkk, ?_⟩⟩
  · rw [HBm.out]
    refine ⟨heap_alloc_new _ _, HT5.out.keep (hbx.block p HT5.out.lt.1) (hbx.block g HT5.out.lt.2), HD5.out.below hbx, HIx.out.below hbx, HFl.out, ?_⟩
    obtain ⟨M, E, hmp, _⟩ := HIx.out
    have e1 := hmp.ne1
    have e2 := hmp.ne2
    have e3 := hmp.ne3
    have t1 := HTt.out T.p (by simp [Tri.list])
    have t2 := HTt.out T.s (by simp [Tri.list])
    have t3 := HTt.out T.e (by simp [Tri.list])
    have l1 := hTl T.p (by simp [Tri.list])
    have l2 := hTl T.s (by simp [Tri.list])
    have l3 := hTl T.e (by simp [Tri.list])
    have lp := HT5.out.lt
    have hF : ∀ k, w.heap.size ≤ k → k ∉ F.list := fun k hk hm => by have := HFl3.out k hm; omega
    simp only [MF.list, List.nodup_cons, List.mem_cons, not_or]
    refine ⟨⟨by omega, by omega, by omega, by omega, by omega, hF _ (by omega)⟩, ⟨by omega, by omega, by omega, by omega, hF _ (by omega)⟩, ⟨by omega, e1, e2, hF _ (by omega)⟩, ⟨by omega, by omega, hF _ (by omega)⟩, ⟨e3, hF _ (by omega)⟩, hF _ (by omega), HNF.out⟩
  · intro k hk
    have t1 := HTt.out T.p (by simp [Tri.list])
    have t2 := HTt.out T.s (by simp [Tri.list])
    have t3 := HTt.out T.e (by simp [Tri.list])
    simp only [MF.list, List.mem_cons] at hk
    rcases hk with rfl | rfl | rfl | rfl | rfl | rfl | hk
    · right; omega
    · right; omega
    · right; omega
    · right; omega
    · right; omega
    · right; omega
    · exact .inl hk
theorem fmtTo_dirty {S : Dev} (hS : ∀ l, S.dirty.getD l false = false) (hD : S.cache.length = 8 * S.dirty.length) : ∀ k l, (∀ b, 1 ≤ b → b < k → (256 + b) / 8 ≠ l) → (S.fmtTo k).dirty.getD l false = false
 | 0, l, _ => hS l
 | k + 1, l, h => by
  have ih := fmtTo_dirty hS hD k l (fun b h1 h2 => h b h1 (by omega))
  unfold Dev.fmtTo
  split
  ·exact hS l
  ·rename_i hk
   unfold Dev.store
   by_cases c : (((256 + k : Nat) : Int)) < 0 ∨ (((S.fmtTo k).cache.length : Nat) : Int) ≤ ((256 + k : Nat) : Int)
   ·rw [if_pos c]; exact ih
   ·rw [if_neg c]
    split
    ·rw [(S.fmtTo k).step_rest.2.2.2.1]; exact ih
    ·show ((S.fmtTo k).step.dirty.set (((256 + k : Nat) : Int).toNat / 8) true).getD l false = false
     rw [(S.fmtTo k).step_rest.2.2.2.1, List.getD_eq_getElem?_getD, List.getElem?_set_ne (by have := h k (by omega) (by omega); omega), ← List.getD_eq_getElem?_getD]
     exact ih
structure Formed (S : Dev) (B : Nat) : Prop where
 inv : S.inv
 live : S.live
 ok : S.ok 201000
 len : S.cache.length = 512 * B
 dlen : S.dirty.length = 64 * B
 last : S.lasting = S.cache
 dirty : S.dirty = List.replicate (64 * B) false
 pending : S.pending = List.replicate (64 * B) false
 clean : Clean S B
 allOk : AllOk (devWord S) B
 hds : hds (devWord S) B = List.replicate B ⟨0, 0, 0⟩
 word : ∀ b, 1 ≤ b → b < B → devWord S b = encN b 0 0 0
theorem fmt_formed {B : Nat} (hB2 : 2 ≤ B) (hB : B ≤ 100) : Formed ((freshDev (List.replicate (512 * B) 0) (64 * B)).fmt B) B := by
 obtain ⟨S, hS⟩ : ∃ S, S = freshDev (List.replicate (512 * B) 0) (64 * B) := ⟨_, rfl⟩
 rw [← hS]
 have hl : S.cache.length = 512 * B := by rw [hS]; simp [freshDev]
 have hd : S.dirty.length = 64 * B := by rw [hS]; simp [freshDev]
 have hi : S.inv := by rw [hS]; exact fresh_inv (by simp; omega) (by simp; omega) (fun z hz => by simp at hz; omega)
 have hv : S.live := by rw [hS]; exact fresh_live _ _
 have ho : S.ok 100 := by rw [hS]; exact fresh_ok _ _ _
 have hf : ∀ l, S.dirty.getD l false = false := fun l => by
  rw [hS]; unfold freshDev; simp only [List.getD_eq_getElem?_getD, List.getElem?_replicate]; split <;> rfl
 obtain ⟨p1, p2, p3, p5, p4⟩ := fmtTo_props hv ho B (by rw [hl]; omega)
 have hti := fmtTo_inv hi B
 have he := (p1.persist 257 (B - 1) (by omega) (by rw [p3, p5]; exact hi.wf.lenD) (by rw [p3, hl]; omega)).1
 obtain ⟨q1, q2, q3, q4, q5⟩ := Dev.persist_clean hti 257 (B - 1) (by omega) he
 have hfm : S.fmt B = ((S.fmtTo B).persist ((257 : Nat) : Int) ((B - 1 : Nat) : Int)).dev := by unfold Dev.fmt; rw [show ((B : Int) - 1) = ((B - 1 : Nat) : Int) by omega]; rfl
 rw [← hfm] at q1 q3 q4 q5
 have hinv : (S.fmt B).inv := by rw [hfm]; exact Dev.persist_inv hti _ _
 have hdl : (S.fmt B).dirty.length = 64 * B := by rw [q3, p5, hd]
 have hdirty : ∀ l, (S.fmt B).dirty.getD l false = false := by
  intro l
  by_cases c : ∃ b, 1 ≤ b ∧ b < B ∧ (256 + b) / 8 = l
  ·obtain ⟨b, b1, b2, rfl⟩ := c
   exact q4 (256 + b) (by omega) (by omega)
  ·exact q5 l (fmtTo_dirty hf hi.wf.lenD B l (fun b b1 b2 e => c ⟨b, b1, b2, e⟩))
 have hrep : ∀ n l, (List.replicate n false).getD l false = false := fun n l => by simp only [List.getD_eq_getElem?_getD, List.getElem?_replicate]; split <;> rfl
 refine ⟨hinv, ?_, ?_, by rw [q1, p3, hl], hdl, ?_, ?_, ?_, fmt_clean hi hv ho hB2 (by rw [hl]; omega), fmt_ok hv ho B hB2 hi.wf.lenD (by rw [hl]; omega), fmt_hds hv ho B hB2 hi.wf.lenD (by rw [hl]; omega), fmt_words hv ho B hB2 hi.wf.lenD (by rw [hl]; omega)⟩
 ·rw [hfm]; exact p1.persist_live 257 (B - 1) (by omega) (by rw [p3, p5]; exact hi.wf.lenD) (by rw [p3, hl]; omega)
 ·exact (Dev.persist_ok hti.wf p2 _ _).mono (by omega)
 ·exact nat_ext (hinv.wf.lenL) (fun i => hinv.sound i (hdirty _))
 ·exact bool_ext (by rw [hdl]; simp) (fun l => by rw [hdirty, hrep])
 ·refine bool_ext (by rw [hinv.wf.lenP, hdl]; simp) (fun l => ?_)
  rw [hrep]
  cases hp : (S.fmt B).pending.getD l false with
  | false => rfl
  | true => have := hinv.pend l hp; rw [hdirty] at this; cases this
theorem sound_zero (B : Nat) : ∀ f b, soundN (List.replicate B ⟨0, 0, 0⟩) f b = 0
 | 0, _ => rfl
 | f + 1, b => by
  have hz : (List.replicate B (⟨0, 0, 0⟩ : Hd)).getD b default = ⟨0, 0, 0⟩ := by
   simp only [List.getD_eq_getElem?_getD, List.getElem?_replicate]; split <;> rfl
  rw [soundN, hz, sound_zero B f (b + 1)]
  split
  ·rfl
  ·rw [if_neg (by decide), if_neg (by decide)]
theorem Formed.bm {S : Dev} {B : Nat} (h : Formed S B) (hB : 2 ≤ B) : BmOk B (bmOf S B) := by
 have hz : ∀ b, (List.replicate B (⟨0, 0, 0⟩ : Hd)).getD b default = ⟨0, 0, 0⟩ := fun b => by
  simp only [List.getD_eq_getElem?_getD, List.getElem?_replicate]; split <;> rfl
 unfold bmOf
 rw [h.hds]
 refine ⟨by simp, freeL_len _ _ _, h.clean, fun b _ => by dsimp only; rw [hz]; decide, fun b h1 h2 => ?_, fun b => ?_, fun b h1 h2 hk => ?_⟩
 ·dsimp only
  rw [hz]
  have := h.word b h1 h2
  unfold devWord at this
  rw [show (256 + (b : Int)) = ((256 + b : Nat) : Int) by omega, peek_in] at this
  exact this
 ·dsimp only
  rw [freeL_fb, hz]
  unfold freeAt
  rw [hz]
  constructor
  ·rintro ⟨_, h2, h3, _⟩; exact ⟨h2, h3, rfl⟩
  ·rintro ⟨h2, h3, _⟩; exact ⟨h3, h2, h3, rfl⟩
 ·dsimp only at hk; rw [hz] at hk; cases hk
section
variable {P : Program} {C : World → Prop} {ops : Array Oper} {rest : List Oper} {o : Oper} {a : Act}
theorem wpQuiet_load_arr {Q : Act → Prop} {ty : TypeId} {zs : Array Value} (A : Agg P ty zs) {p : Operand} {g off : Nat} (D : Array Value) (hc : ∀ w, C w → ∀ i v, D.toList[i]? = some v → w.cell? ⟨g, off + i, none⟩ = some v) (hs : D.size = zs.size)
  (hgd : o.guard = none) (ho : o.op = .load ty p) (hp : a.eval p = .pointer (some ⟨g, off, none⟩))
  (hK : wpQuiet P ops C Q rest (a.put o.dst (.agg D))) : wpQuiet P ops C Q (o :: rest) a := by
 have hw : Region.wanted o (yielded ops a.tmps) = true := by simp [Region.wanted, hgd]
 unfold wpQuiet
 rw [if_pos hw]
 refine ⟨_, fun w hC => ?_, hK⟩
 obtain ⟨d, hu, hd⟩ := A.desc
 have hl : (loadCells ⟨g, off, none⟩ D.toList.length).run P w = .ok D.toList.toArray w := run_loadCells_list (P := P) w ⟨g, off, none⟩ D.toList (fun j v hv => by rw [add_none]; exact hc w hC j v hv)
 rw [Array.length_toList, Array.toArray_toList] at hl
 have hagg : (isAgg ty).run P w = .ok true w := by
  unfold isAgg
  rw [Sem.run_bind, run_underlying hu w]
  cases d <;> simp_all
 have hsz := A.size
 have hr : (loadVar ty ⟨g, off, none⟩).run P w = .ok (.agg D) w := by
  cases hq : P.info? ty with
  | none => simp [hq] at hsz
  | some inf =>
   have e : inf.size = D.size := by simp [hq] at hsz; rw [hsz, hs]
   simp [loadVar, hagg, sizeOf, typeInfo, hq, e, hl]
 have hr2 : (Instr.loadAt ty (.pointer (some ⟨g, off, none⟩))).run P w = .ok (.agg D) w := by
  simp only [Instr.loadAt, Instr.sureAddr, Sem.run_bind, Sem.run_pure, Result.andThen]
  exact hr
 unfold Oper.quietAt
 simp only [execOp, ho, hp]
 simp only [Sem.run_bind, hr2, Result.andThen, Sem.run_pure, Oper.quietUpon, and_self]
theorem wpQuiet_load_arrw {Q : Act → Prop} {ty : TypeId} {zs : Array Value} (A : Agg P ty zs) {p : Operand} {g off : Nat} (D : Array Value) (hc : ∀ w, C w → ∀ i v, D.toList[i]? = some v → w.cell? ⟨g, off + i, none⟩ = some v) (hs : D.size = zs.size)
  (hw : Region.wanted o (yielded ops a.tmps) = true) (ho : o.op = .load ty p) (hp : a.eval p = .pointer (some ⟨g, off, none⟩))
  (hK : wpQuiet P ops C Q rest (a.put o.dst (.agg D))) : wpQuiet P ops C Q (o :: rest) a := by
 unfold wpQuiet
 rw [if_pos hw]
 refine ⟨_, fun w hC => ?_, hK⟩
 obtain ⟨d, hu, hd⟩ := A.desc
 have hl : (loadCells ⟨g, off, none⟩ D.toList.length).run P w = .ok D.toList.toArray w := run_loadCells_list (P := P) w ⟨g, off, none⟩ D.toList (fun j v hv => by rw [add_none]; exact hc w hC j v hv)
 rw [Array.length_toList, Array.toArray_toList] at hl
 have hagg : (isAgg ty).run P w = .ok true w := by
  unfold isAgg
  rw [Sem.run_bind, run_underlying hu w]
  cases d <;> simp_all
 have hsz := A.size
 have hr : (loadVar ty ⟨g, off, none⟩).run P w = .ok (.agg D) w := by
  cases hq : P.info? ty with
  | none => simp [hq] at hsz
  | some inf =>
   have e : inf.size = D.size := by simp [hq] at hsz; rw [hsz, hs]
   simp [loadVar, hagg, sizeOf, typeInfo, hq, e, hl]
 have hr2 : (Instr.loadAt ty (.pointer (some ⟨g, off, none⟩))).run P w = .ok (.agg D) w := by
  simp only [Instr.loadAt, Instr.sureAddr, Sem.run_bind, Sem.run_pure, Result.andThen]
  exact hr
 unfold Oper.quietAt
 simp only [execOp, ho, hp]
 simp only [Sem.run_bind, hr2, Result.andThen, Sem.run_pure, Oper.quietUpon, and_self]
variable {Q : Exit → Act → World → Prop} {w W : World} {L : List Ent}
end
theorem RAt.arr {w : World} {D : Array Value} {m : Nat} {R : RDev} (h : RAt w (.agg D) m R) : D.size = 8 ∧ D.toList.all (·.oneCell') = true := by
 obtain ⟨an, cn, al, cl, aw, cw, ad, cd, ap, cp, he, _⟩ := h.ex
 cases he
 exact ⟨rfl, rfl⟩
theorem RAt.agg {w : World} {v : Value} {m : Nat} {R : RDev} (h : RAt w v m R) : ∃ D, v = .agg D := by
 obtain ⟨an, cn, al, cl, aw, cw, ad, cd, ap, cp, he, _⟩ := h.ex
 exact ⟨_, he⟩
abbrev vworld (A : AF) (L : Value) : Value := .agg #[valloc A, vdev A.X.F, L]
def zeroW : Array Value := #[.pointer none, .pointer none, .slice none 0 0]
theorem aggW : Agg Tryz.prog 74 zeroW := ⟨⟨_, Tryz.underlying74, rfl⟩, by kernel_rfl⟩
def dev0 (B : Nat) : Dev := (freshDev (List.replicate (512 * B) 0) (64 * B)).fmt B
def al0 (B : Nat) : Al := ⟨bmOf (dev0 B) B, List.replicate (512 * B) false, FL.empty⟩
theorem al0_list {B : Nat} (hB2 : 2 ≤ B) (hB : B ≤ 100) : (al0 B).bm.list = List.replicate B ⟨0, 0, 0⟩ := (fmt_formed hB2 hB).hds
def BegunPost (B : Nat) (w : World) : Ending → World → Prop := fun e w' => ∃ (A : AF) (n : Nat), e = .returned (.tuple #[vworld A (.slice none 0 0), .bool true]) ∧ AlAt w' A n B (al0 B) ∧ n ≤ 1000000 ∧ (∀ k ∈ A.list, w.heap.size ≤ k) ∧ Below w.heap.size w w'
theorem free_small {B : Nat} (b : Nat) : (hdGet (List.replicate B (⟨0, 0, 0⟩ : Hd)) (b : Int)) = ⟨0, 0, 0⟩ := by
 unfold hdGet
 split
 ·rfl
 ·simp only [List.getD_eq_getElem?_getD, List.getElem?_replicate]; split <;> rfl
set_option maxHeartbeats 8000000 in
set_option maxRecDepth 100000 in
theorem begun20_any (B : Nat) (hB2 : 2 ≤ B) (hB : B ≤ 100) (w : World) : Calls Tryz.prog 110 #[.int .i64 (B : Int)] w (BegunPost B w) := by
 generalize hP : BegunPost B w = Post
 have HP := LH hP
 clear hP
 have HM := LH (Mem.two w zeroW 74 #[.int .i64 (B : Int)] 46)
 have HFo : Hid (Formed (dev0 B) B) := LH (fmt_formed hB2 hB)
 go_enter Tryz.func110, Tryz.ntmps110
 go_upto_region 2 with fail
 rw [show (#[.pointer none, .pointer none, .slice none 0 0] : Array Value) = zeroW from rfl]
 generalize (w.alloc _).alloc _ = w0 at *
 obtain ⟨q, hq⟩ : ∃ q, q = w.heap.size := ⟨_, rfl⟩
 rw [← hq] at HM ⊢
 have HQ := LH hq
 clear hq
 have c0 := HM.out.cell 1 0 rfl rfl
 go_wp2_with fail
 refine (gwords_any _ _ (by omega) (by omega)).mono ?_
 rintro e w1 ⟨rfl, hb1⟩
 have HM1 := LH (HM.out.later hb1)
 clear hb1 HM c0
 go_wp2_with fail
 refine (new_any ((B : Int) * 512) _ (by omega)).mono ?_
 rintro e w2 ⟨F, rfl, hF, hd2, hb2⟩
 have hfd : freshDev (List.replicate (8 * ((((B : Int) * 512).toNat + 7) / 8)) 0) ((((B : Int) * 512).toNat + 7) / 8) = freshDev (List.replicate (512 * B) 0) (64 * B) := by
  have h1 : (((B : Int) * 512).toNat + 7) / 8 = 64 * B := by omega
  rw [h1, show 8 * (64 * B) = 512 * B by omega]
 rw [hfd] at hd2
 clear hfd
 obtain ⟨S, hS⟩ : ∃ S, S = freshDev (List.replicate (512 * B) 0) (64 * B) := ⟨_, rfl⟩
 have hlv : S.live := by rw [hS]; exact fresh_live _ _
 have hok : S.ok 100 := by rw [hS]; exact fresh_ok _ _ _
 have hSl : S.cache.length = 512 * B := by rw [hS]; simp [freshDev]
 rw [← hS] at hd2
 have HS0 : Hid (S.fmt B = dev0 B) := LH (by rw [hS]; rfl)
 have HD2 := LH hd2
 have HM2 := LH (HM1.out.later hb2)
 have HF := LH (fun k hk => Nat.le_trans HM1.out.below.size (hF k hk))
 have HF1 := LH (fun k (hk : k ∈ F.list) => Nat.lt_of_lt_of_le (HM1.out.glt 0 rfl) (hF k hk))
 have HF2 := LH (fun k (hk : k ∈ F.list) => Nat.lt_of_lt_of_le (HM1.out.glt 1 rfl) (hF k hk))
 have HLv : Hid (S.live ∧ S.ok 100 ∧ 256 + B ≤ S.cache.length) := LH ⟨hlv, hok, by omega⟩
 clear hd2 hb2 hF hS hlv hok hSl HM1
 unfold vdev
 have c0 := HM2.out.cell 1 0 rfl rfl
 go_wp2_with fail
 refine (format_any HD2.out HLv.out.1 HLv.out.2.1 B hB2 (by omega) HLv.out.2.2).mono ?_
 rintro e w3 ⟨rfl, hd3, ht3⟩
 rw [HS0.out] at hd3
 have HD3 := LH hd3
 have HM3 : Hid (Mem w w3 [⟨q, 74, zeroW.toList, true⟩, ⟨q + 1, 46, [.int .i64 (B : Int)], true⟩]) := LH (by
  have hr := HM2.out.rows
  refine ⟨below_touched HM2.out.below ht3 (fun k hk => HF.out k hk) (Nat.le_refl _), fun x hx => (hr x hx).keep (ht3.block _ (HM2.out.lt x hx) (fun hk => ?_)), HM2.out.base, HM2.out.nd⟩
  simp only [List.mem_cons, List.not_mem_nil, or_false] at hx
  rcases hx with rfl | rfl
  ·exact Nat.lt_irrefl _ (HF1.out _ hk)
  ·exact Nat.lt_irrefl _ (HF2.out _ hk))
 clear hd3 ht3 HM2 HD2 c0 HLv HS0
 have c0 := HM3.out.cell 1 0 rfl rfl
 go_wp2_with fail
 refine (bopen_any HD3.out B (by omega) (by omega)).mono ?_
 rintro e w4 ⟨hb4, ⟨_, _, X, n, rfl, hXF, hm4, hn4, hX4⟩ | ⟨_, hbad, _⟩ | ⟨hbad, _⟩⟩
 case inr.inr => exact absurd HFo.out.allOk hbad
 case inr.inl => exact absurd (by rw [HFo.out.hds]; exact sound_zero B B 1) hbad
 subst hXF
 have HM4 := LH (HM3.out.later hb4)
 have HA4 := LH hm4
 have HXn : Hid (∀ k ∈ X.list, w.heap.size ≤ k ∧ k ≠ q ∧ k ≠ q + 1) := LH (fun k hk => by
  have h1 := HM3.out.glt 0 rfl
  have h2 := HM3.out.glt 1 rfl
  have h3 := HM3.out.below.size
  rcases hX4 k hk with h | h
  ·refine ⟨HF.out k h, fun e => ?_, fun e => ?_⟩
   ·have := HF1.out k h; omega
   ·have := HF2.out k h; omega
  ·exact ⟨Nat.le_trans h3 h, by omega, by omega⟩)
 clear hb4 hm4 hX4 HM3 HD3 c0 HF HF1 HF2
 have HNo : Hid (∀ b : Nat, b < B → (hdGet (bmOf (dev0 B) B).list (b : Int)).k ≠ 1) := LH (fun b _ => by
  have e : (bmOf (dev0 B) B).list = List.replicate B ⟨0, 0, 0⟩ := HFo.out.hds
  rw [e, free_small]; decide)
 have HDl : Hid ((bmOf (dev0 B) B).dev.cache.length = 512 * B) := LH HFo.out.len
 go_wp2_with fail
 refine (anew_free HA4.out (by omega) (by rw [HDl.out]; omega) HNo.out).mono ?_
 rintro e w5 ⟨A, rfl, hAX, ha5, hb5, hA5⟩
 rw [HDl.out] at ha5
 have HA5 : Hid (AlAt w5 A n B (al0 B)) := LH ha5
 have HM5 := LH (HM4.out.later hb5)
 have HAn : Hid (∀ k ∈ A.list, w.heap.size ≤ k ∧ k ≠ q ∧ k ≠ q + 1) := LH (fun k hk => by
  have h1 := HM4.out.glt 0 rfl
  have h2 := HM4.out.glt 1 rfl
  have h3 := HM4.out.below.size
  rcases hA5 k hk with h | h
  ·exact HXn.out k h
  ·exact ⟨Nat.le_trans h3 h, by omega, by omega⟩)
 have HAX := LH hAX
 clear ha5 hb5 hA5 hAX HM4 HA4 HNo HDl
 go_upto_region 9 with fail
 have hAq : A.a ∉ [q] := by have := (HAn.out A.a (by simp [AF.list, AF.fix])).2.1; simpa using this
 have hAm : A.X.m ∉ [q] := by have := (HAn.out A.X.m (by simp [AF.list, AF.fix, MF.list])).2.1; simpa using this
 have HC0 : ∃ x : Near [q] w5, w5.drew = x.val := near_of (Touch.ofBelow (later_below (later_drew w5)))
 have r0 := fun x => near_cell (L := [q]) HA5.out.c0 hAq x
 refine wp_region_seg (C := fun w' => ∃ x : Near [q] w5, w' = x.val) [.fl [0, 1, 2, 3, 4, 5, 6, 7, 8, 9, 10, 11, 12, 13, 14, 15], .sq [16] true, .sq [17] false] (by kernel_rfl) (by kernel_rfl) (by intro c a d v w h; cases d <;> exact h) ?_
 simp only [segs, picks, List.getElem?_cons_succ, List.getElem?_cons_zero]
 refine wpSeg_fl HC0 ?_
 repeat (first | go_big_quiet_step (fail) | quiet_step (fail))
 refine wpQuiet_nil ?_
 have HM6 := LH (HM5.out.later (later_below (later_drew w5)))
 refine wpSeg_sq (fun K hK => ?_)
 go_wp2_with (refine wpList_store_mem aggW HM6.out 0 rfl rfl rfl rfl rfl rfl rfl rfl ?_; intro w6 h6 ht6; have H6 := LH h6; have HT6 := LH ht6; clear h6 ht6)
 have HC1 : ∃ x : Near [q] w5, w6 = x.val := near_of ((Touch.ofBelow (later_below (later_drew w5))).trans HT6.out)
 go_wp2_with fail
 refine hK _ _ (fun _ => HC1) ?_
 clear hK K
 refine wpSeg_last ?_
 go_wp2_with fail
 refine bodyPost_ret (results_cell_row2 (p := 2) (u := 3) rfl _ _ _ _ _ _ _ rfl (H6.out.exact 0 rfl) Tryz.underlying74 rfl (by kernel_rfl)) rfl ?_
 rw [← HP.out]
 have hAe := HAX.out
 subst hAe
 refine ⟨A, n, rfl, ?_, hn4, fun k hk => (HAn.out k hk).1, H6.out.below⟩
 exact (HA5.out.below (later_below (later_drew w5))).keep (fun k hk => HT6.out.block k (Nat.lt_of_lt_of_le (HA5.out.mem k hk) (later_below (later_drew w5)).size) (by have := (HAn.out k hk).2.1; simpa using this))
end Go.Proofs.YtbimcogdbafjpaaGreat
namespace Go.Proofs.YtbimcogdbafjpaaGreat
open Go.Lib
def over (n d : Int) : Bool := decide (n > 922337203685477580) || decide (n < -922337203685477580) || (decide (n = 922337203685477580) && decide (d > 7)) || (decide (n = -922337203685477580) && decide (d < -8))
end Go.Proofs.YtbimcogdbafjpaaGreat
namespace Go.Proofs.YtbimcogdbafjpaaGreat
open Go.RowKit
open Go.Lib (decDigits itoa nDigits)
def Gives (v : Value) (w : World) : Ending → World → Prop := fun e w' => e = .returned v ∧ Below w.heap.size w w'
structure WAt (w : World) (A : AF) (n B : Nat) (m : Al) (v : Value) (xs : List Nat) : Prop where
 al : AlAt w A n B m
 own : OwnI w v xs
 apart : ∀ b, rowOf v = some b → b ∉ A.list
theorem WAt.below {w w' : World} {A : AF} {n B : Nat} {m : Al} {v : Value} {xs : List Nat} (h : WAt w A n B m v xs) (hb : Below w.heap.size w w') : WAt w' A n B m v xs :=
 ⟨h.al.below hb, h.own.keep (fun b hb' => hb.block b (h.own.lt b hb')), h.apart⟩
theorem WAt.mono {w : World} {A : AF} {n n' B : Nat} {m : Al} {v : Value} {xs : List Nat} (h : WAt w A n B m v xs) (hn : n ≤ n') : WAt w A n' B m v xs := ⟨h.al.mono hn, h.own, h.apart⟩
def WGo (w w' : World) (A : AF) (n B : Nat) (m : Al) (v : Value) (xs : List Nat) : Prop := ∃ R', WAt w' (A.re R') n B m v xs ∧ Touch A.hot w w' ∧ ∀ b ∈ R', b ∈ A.R ∨ w.heap.size ≤ b
theorem WGo.refl {w : World} {A : AF} {n B : Nat} {m : Al} {v : Value} {xs : List Nat} (h : WAt w A n B m v xs) : WGo w w A n B m v xs := ⟨A.R, h, Touch.refl _ _, fun _ h => .inl h⟩
theorem WGo.ahead {w w0 w1 : World} {A : AF} {n B : Nat} {m : Al} {v : Value} {xs : List Nat} (hb : Below w.heap.size w w0) (h : WGo w0 w1 A n B m v xs) : WGo w w1 A n B m v xs := by
 obtain ⟨R', h1, h2, h3⟩ := h
 exact ⟨R', h1, (Touch.ofBelow hb).trans h2, fun b hb' => (h3 b hb').imp id (fun c => Nat.le_trans hb.size c)⟩
theorem AF.hot_list {A : AF} {k : Nat} (h : k ∈ A.hot) : k ∈ A.list := by
 simp only [AF.hot, AF.list, AF.fix, List.mem_append, List.mem_cons] at h ⊢
 rcases h with h | h | h
 ·exact .inl (.inr (.inl (MF.hot_sub h)))
 ·exact .inl (.inr (.inr h))
 ·exact .inr h
theorem AF.re_list {A : AF} {R : List Nat} {k : Nat} (h : k ∈ (A.re R).list) : k ∈ A.list ∨ k ∈ R := by
 simp only [AF.re, AF.list, AF.fix, List.mem_append, List.mem_cons] at h ⊢
 rcases h with h | h
 ·exact .inl (.inl h)
 ·exact .inr h
theorem WAt.al' {w w' : World} {A : AF} {n n' B : Nat} {m m' : Al} {v : Value} {xs : List Nat} (h : WAt w A n B m v xs) (hg : AlGo w w' A n' B m') : WGo w w' A n' B m' v xs := by
 obtain ⟨R', g1, g2, g3⟩ := hg
 refine ⟨R', ⟨g1, h.own.keep (fun b hb => g2.block b (h.own.lt b hb) (fun hm => h.apart b hb (AF.hot_list hm))), fun b hb hm => ?_⟩, g2, g3⟩
 rcases AF.re_list hm with c | c
 ·exact h.apart b hb c
 ·rcases g3 b c with c | c
  ·exact h.apart b hb (by simp [AF.list, c])
  ·have := h.own.lt b hb; omega
theorem al0_ok {B : Nat} (hB2 : 2 ≤ B) (hB : B ≤ 100) : AlOk B (al0 B) := by
 have hf := fmt_formed hB2 hB
 have hl := al0_list hB2 hB
 have hbm : BmOk B (al0 B).bm := hf.bm hB2
 have hu : ∀ a, (List.replicate (512 * B) false).getD a false = false := fun a => by
  simp only [List.getD_eq_getElem?_getD, List.getElem?_replicate]; split <;> rfl
 refine ⟨hbm, hf.live, hf.len, by simp [al0], fun a ha => ?_, fun k a hk => ?_⟩
 ·have := hu a
  unfold al0 at ha
  dsimp only at ha
  rw [this] at ha; cases ha
 ·have h0 : (al0 B).fl.cnt k a = 0 := by unfold al0 FL.cnt FL.empty; simp
  rw [h0, if_neg]
  rintro ⟨hc, _⟩
  have := isCell_kind hc
  rw [hl] at this
  simp only [List.getD_eq_getElem?_getD, List.getElem?_replicate] at this
  split at this <;> cases this
def pickN (xs : List Nat) (i : Int) : Nat := if i < 0 ∨ xs = [] then 0 else xs.getD (i.toNat % xs.length) 0
theorem pickN_mem {xs : List Nat} {i : Int} (h : pickN xs i ≠ 0) : pickN xs i ∈ xs := by
 unfold pickN at h ⊢
 by_cases c : i < 0 ∨ xs = []
 ·rw [if_pos c] at h; exact absurd rfl h
 ·rw [if_neg c] at h ⊢
  have hl : 0 < xs.length := List.length_pos_iff.2 (fun e => c (.inr e))
  have := Nat.mod_lt i.toNat hl
  rw [List.getD_eq_getElem?_getD, List.getElem?_eq_getElem this]
  exact List.getElem_mem _
set_option maxHeartbeats 2000000 in
set_option maxRecDepth 20000 in
theorem wpick_any {w : World} (x y v : Value) (xs : List Nat) (ho : OwnI w v xs) (hl : xs.length ≤ 1000000) (i : Int) :
  Calls Tryz.prog 115 #[.agg #[x, y, v], .int .i64 i] w (Gives (.int .i64 (pickN xs i : Nat)) w) := by
 obtain ⟨a, c, rfl, hc, _⟩ := ho.cells
 have HP : Hid (∀ z w', z = ((pickN xs i : Nat) : Int) → Below w.heap.size w w' → Gives (.int .i64 (pickN xs i : Nat)) w (.returned (.int .i64 z)) w') := LH (fun z w' h1 h2 => by subst h1; exact ⟨rfl, h2⟩)
 have HPk : Hid (pickN xs i = if i < 0 ∨ xs = [] then 0 else xs.getD (i.toNat % xs.length) 0) := LH rfl
 generalize Gives (.int .i64 (pickN xs i : Nat)) w = Post at *
 generalize pickN xs i = pk at *
 have HB := LH (below_alloc w (Obj.cells #[x, y, .slice a xs.length c] 74))
 have c2 : (w.alloc (Obj.cells #[x, y, .slice a xs.length c] 74)).cell? ⟨w.heap.size, 2, none⟩ = some (.slice a xs.length c) := cell_alloc_new _ _ _ 2 _ rfl
 have HC := LH (hc.below HB.out (Nat.le_refl _))
 clear ho hc
 obtain ⟨l, hl'⟩ : ∃ l, l = xs.length := ⟨_, rfl⟩
 rw [← hl'] at c2 HB HC hl ⊢
 have HL := LH hl'
 clear hl'
 go_enter Tryz.func115, Tryz.ntmps115
 go_upto_region 1 with fail
 generalize w.alloc _ = w0 at *
 by_cases hi : i < 0
 ·have HE : Hid (0 = (pk : Int)) := LH (by rw [HPk.out, if_pos (.inl hi)]; rfl)
  go_wp2_with fail
  exact HP.out _ _ HE.out HB.out
 have hi0 : 0 ≤ i := by omega
 by_cases hx : l = 0
 ·subst hx
  have HE : Hid (0 = (pk : Int)) := LH (by rw [HPk.out, if_pos (.inr (List.length_eq_zero_iff.1 HL.out.symm))]; rfl)
  go_wp2_with fail
  exact HP.out _ _ HE.out HB.out
 have hx0 : ((l : Int) == 0) = false := by simpa using hx
 obtain ⟨j, rfl⟩ := Int.eq_ofNat_of_zero_le hi0
 have hjl : j % l < l := Nat.mod_lt _ (by omega)
 have HE : Hid (pk = xs.getD (j % l) 0) := LH (by rw [HPk.out, if_neg (by rintro (h | h); exact hi h; exact hx (by rw [HL.out, h]; rfl)), HL.out]; rfl)
 have hcx : ∃ b off, a = some ⟨b, off, none⟩ ∧ w0.cell? ⟨b, off + j % l, none⟩ = some (.int .i64 ((xs.getD (j % l) 0 : Nat) : Int)) := by
  rcases HC.out with h | ⟨b, off, e, h⟩
  ·exfalso
   have := congrArg List.length h
   rw [List.length_map, ← HL.out] at this
   exact hx (by simpa using this)
  ·refine ⟨b, off, e, h _ _ ?_⟩
   rw [List.getElem?_map, List.getElem?_eq_getElem (by rw [← HL.out]; exact hjl), List.getD_eq_getElem?_getD, List.getElem?_eq_getElem (by rw [← HL.out]; exact hjl)]
   rfl
 obtain ⟨b, off, rfl, hcx⟩ := hcx
 rw [← HE.out] at hcx
 have hjm : (j : Int).tmod (l : Int) = ((j % l : Nat) : Int) := by rw [Int.tmod_eq_emod_of_nonneg (by omega)]; rfl
 have HE' := LH HE.out
 generalize j % l = jm at *
 go_upto_region 3 with fail
 have r0 := fun x => later_cell c2 x
 have r1 := fun x => later_cell hcx x
 clear c2 hcx
 refine wp_region_later (by kernel_rfl) (by kernel_rfl) ?_
 repeat (quiet_step (fail))
 refine wpQuiet_nil ?_
 rintro w5 ⟨x5, hx5⟩
 have HB5 := LH (HB.out.trans ((show Below w0.heap.size w0 w5 by rw [hx5]; exact x5.below).mono HB.out.size))
 clear hx5 r0 r1
 go_wp2_with fail
 exact HP.out _ _ rfl HB5.out
def clampI (x hi : Int) : Int := min (max x 0) hi
theorem clamp_size (p d : Int) : objSize (clampI p 8) (clampI d 12) ≠ 0 ∧ objSize (clampI p 8) (clampI d 12) ≤ 21 := by
 unfold clampI objSize
 split <;> omega
theorem WGo.mine {w w0 w1 w6 : World} {A : AF} {n B : Nat} {m : Al} {v v' : Value} {xs xs' : List Nat} {Q : List Nat} (hb : Below w.heap.size w w0) (hA : ∀ k ∈ A.list, k < w.heap.size) (hg : WGo w0 w1 A n B m v xs)
  (ht : Touch Q w1 w6) (hQ : ∀ k ∈ Q, w.heap.size ≤ k ∧ k < w0.heap.size) (ho : OwnI w6 v' xs') (hr : ∀ b, rowOf v' = some b → b < w.heap.size ∧ b ∉ A.list ∨ w1.heap.size ≤ b) : WGo w w6 A n B m v' xs' := by
 obtain ⟨R1, h1, h2, h3⟩ := hg
 have hl : ∀ k ∈ (A.re R1).list, k ∉ Q := fun k hk hq => by
  have h4 := hQ k hq
  rcases AF.re_list hk with c | c
  ·have := hA k c; omega
  ·rcases h3 k c with c | c
   ·have := hA k (by simp [AF.list, c]); omega
   ·omega
 refine ⟨R1, ⟨h1.al.keep (fun k hk => ht.block k (h1.al.mem k hk) (hl k hk)), ho, fun b hb' hm => ?_⟩, ((Touch.ofBelow hb).trans h2).own ht (fun k hk => .inl (hQ k hk).1), fun b hb' => (h3 b hb').imp id (fun c => Nat.le_trans hb.size c)⟩
 rcases hr b hb' with ⟨c1, c2⟩ | c
 ·rcases AF.re_list hm with d | d
  ·exact c2 d
  ·rcases h3 b d with d | d
   ·exact c2 (by simp [AF.list, d])
   ·have := hb.size; omega
 ·have := h1.al.mem b hm; omega
def MakePost (w : World) (A : AF) (n B : Nat) (m : Al) (v : Value) (xs : List Nat) (p d : Int) : Ending → World → Prop := fun e w' => ∃ (m' : Al) (v' : Value) (xs' : List Nat),
 e = .returned (.tuple #[vworld A v', .bool true]) ∧ WGo w w' A (n + 6) B m' v' xs' ∧ ((∃ a, Made B m m' a p d ∧ xs' = xs ++ [a]) ∨ (m' = m ∧ xs' = xs ∧ v' = v ∧ NoRoom m (objSize p d))) ∧ (∀ b, rowOf v' = some b → rowOf v = some b ∨ w.heap.size ≤ b) ∧ m' = (m.alloc 0 p d).al
set_option maxHeartbeats 4000000 in
set_option maxRecDepth 20000 in
theorem wmake_any {w : World} {A : AF} {n B : Nat} {m : Al} {v : Value} {xs : List Nat} (h : WAt w A n B m v xs) (hok : AlOk B m) (hB2 : 2 ≤ B) (hB : B ≤ 200) (hn : n < 900000000000) {N : Nat} (hN : N ≤ 900000000) (ho : m.bm.dev.ok N) (hl : xs.length ≤ 1000000) (p d : Int) :
  Calls Tryz.prog 111 #[vworld A v, .int .i64 p, .int .i64 d] w (MakePost w A n B m v xs (clampI p 8) (clampI d 12)) := by
 have HMem := LH (Mem.two w #[valloc A, vdev A.X.F, v] 74 #[.pointer none, .pointer none, .slice none 0 0] 74)
 have HW0 := LH (h.below HMem.out.below)
 have HB0 := LH HMem.out.below
 have HOk := LH hok
 have HCs := LH (clamp_size p d)
 have HP : Hid (∀ (m' : Al) (v' : Value) (xs' : List Nat) w', WGo w w' A (n + 6) B m' v' xs' → ((∃ a, Made B m m' a (clampI p 8) (clampI d 12) ∧ xs' = xs ++ [a]) ∨ (m' = m ∧ xs' = xs ∧ v' = v ∧ NoRoom m (objSize (clampI p 8) (clampI d 12)))) → (∀ b, rowOf v' = some b → rowOf v = some b ∨ w.heap.size ≤ b) → m' = (m.alloc 0 (clampI p 8) (clampI d 12)).al → MakePost w A n B m v xs (clampI p 8) (clampI d 12) (.returned (.tuple #[vworld A v', .bool true])) w') := LH (fun m' v' xs' w' h1 h2 h3 h4 => ⟨m', v', xs', rfl, h1, h2, h3, h4⟩)
 generalize MakePost w A n B m v xs (clampI p 8) (clampI d 12) = Post at *
 obtain ⟨p1, hp1⟩ : ∃ p1, max p 0 = p1 := ⟨_, rfl⟩
 obtain ⟨p2, hp2⟩ : ∃ p2, min p1 8 = p2 := ⟨_, rfl⟩
 obtain ⟨d1, hd1⟩ : ∃ d1, max d 0 = d1 := ⟨_, rfl⟩
 obtain ⟨d2, hd2⟩ : ∃ d2, min d1 12 = d2 := ⟨_, rfl⟩
 have ep : clampI p 8 = p2 := by unfold clampI; rw [hp1, hp2]
 have ed : clampI d 12 = d2 := by unfold clampI; rw [hd1, hd2]
 rw [ep, ed] at HP HCs
 have hAll := fun w' (h : AlAt w' A n B m) => aalloc_any h hok (by omega) hB hn hN ho 0 p2 d2
 have HAll := LH hAll
 have HDone : Hid ((∃ m' a, m.alloc 0 p2 d2 = ⟨m', ((a : Nat) : Int), 0⟩ ∧ Made B m m' a p2 d2) ∨ (m.alloc 0 p2 d2 = ⟨m, 0, 4⟩ ∧ NoRoom m (objSize p2 d2))) := LH (alloc_done hok hB (Int.le_refl _) (by decide) HCs.out.1 (by have := HCs.out.2; omega))
 have HV := LH h
 obtain ⟨sa, sc, rfl, hcs, _⟩ := h.own.cells
 have HCl := LH hcs
 obtain ⟨l, hl'⟩ : ∃ l, l = xs.length := ⟨_, rfl⟩
 rw [← hl'] at HMem HW0 HB0 HP HV hl ⊢
 have HL := LH hl'
 clear h hok ho hAll ep ed hcs hl'
 go_enter Tryz.func111, Tryz.ntmps111
 go_upto_region 1 with fail
 obtain ⟨q, hq⟩ : ∃ q, q = w.heap.size := ⟨_, rfl⟩
 rw [← hq] at HMem ⊢
 have HQ := LH hq
 generalize (w.alloc _).alloc _ = w0 at *
 clear hq
 have c0 := HMem.out.cell 0 0 rfl rfl
 go_wp2_with fail
 refine (HAll.out _ HW0.out.al).mono ?_
 rintro e w1 ⟨rfl, hg1⟩
 have HWg := LH (HW0.out.al' hg1)
 have HMr : Hid (MemR w.heap.size w1 [⟨q, 74, [valloc A, vdev A.X.F, .slice sa l sc], true⟩, ⟨q + 1, 74, [.pointer none, .pointer none, .slice none 0 0], true⟩]) := LH (by
  obtain ⟨_, _, ht, _⟩ := hg1
  refine HMem.out.r.apart ht (fun x hx hm => ?_)
  have h1 := HV.out.al.mem x.g (AF.hot_list hm)
  have h2 := HMem.out.base x hx
  omega)
 clear hg1 HAll
 rcases HDone.out with ⟨m', a, e, hm⟩ | ⟨e, hnr⟩
 ·have HAe : Hid (m' = (m.alloc 0 p2 d2).al) := LH (by rw [e])
  rw [e] at HWg ⊢
  dsimp only at HWg ⊢
  have HMade := LH hm
  have ha0 : (0 : Int) < (a : Int) := by have := hm.lo; omega
  clear e hm HDone
  obtain ⟨R1, hw1, ht1, hr1⟩ := HWg.out
  have HW1 := LH hw1
  have HT1 := LH ht1
  have HR1 := LH hr1
  clear hw1 ht1 hr1
  have HO1 : Hid (OwnI (w1.alloc (.cells #[] 3)) (.slice (some ⟨w1.heap.size, 0, none⟩) 0 0) []) :=
   LH (.inl ⟨rfl, .inr ⟨w1.heap.size, 0, #[], rfl, Nat.zero_le _, heap_alloc_new w1 _, Nat.le_refl _, Nat.zero_le _, rfl, rfl⟩⟩)
  have HB1 := LH (below_alloc w1 (.cells #[] 3))
  have HC1 : Hid (Cells (w1.alloc (.cells #[] 3)) sa (xs.map vi)) := LH (by
   obtain ⟨a', c', e', hc', _⟩ := HW1.out.own.cells
   injection e' with e1 e2 e3
   subst e1
   exact hc'.below HB1.out (Nat.le_refl _))
  have HN1 : Hid (([] : List Nat).length + l ≤ 1000000000000) := LH (by simp; omega)
  have HMr1 := LH (HMr.out.later HB1.out)
  have c2 := HMr1.out.cell 0 2 rfl rfl
  have HN3 : Hid (([] ++ xs).length + 1 ≤ 1000000000000) := LH (by simp; have := HL.out; omega)
  have HR1n : Hid (∀ b, rowOf (.slice (some ⟨w1.heap.size, 0, none⟩) 0 0) = some b → w1.heap.size ≤ b) := LH (fun b hb => by
   have : rowOf (.slice (some ⟨w1.heap.size, 0, none⟩) 0 0) = none := rfl
   rw [this] at hb; cases hb)
  go_wp2_with (first
   | (refine wpList_load_r aggW HMr5.out 0 rfl rfl rfl rfl rfl ?_)
   | (refine wpList_store_r aggW HMr5.out 1 rfl rfl rfl rfl rfl rfl rfl rfl ?_; intro w6 h6 ht6; have H6 := LH h6; have HT6 := LH ht6; clear h6 ht6)
   | (at_builtin; refine wpList_append_newI (m := l) (B := w1.heap.size) HO1.out (Below.refl _ _) HR1n.out HB1.out.size HC1.out HL.out.symm HN1.out rfl rfl rfl rfl ?_; intro v2 w2 ho2 hb2 hr2; have HO2 := LH ho2; have HB2 := LH (HB1.out.trans hb2); have HR2 := LH hr2; clear ho2 hb2 hr2)
   | (at_builtin; refine wpList_append_newI (m := 1) (ys := [a]) (B := w1.heap.size) HO2.out (below_alloc _ _) HR2.out (Nat.le_trans HB2.out.size (below_alloc _ _).size) (RowAt.cells ⟨_, heap_alloc_new _ _, [], rfl⟩) rfl HN3.out rfl rfl rfl rfl ?_; intro v4 w4 ho4 hb4 hr4; have HO4 := LH ho4; have HB4 := LH ((HB2.out.trans ((below_alloc _ _).mono HB2.out.size)).trans hb4); have HR4 := LH hr4; clear ho4 hb4 hr4; have HMr4 := LH (HMr.out.later HB4.out); have cx := HMr4.out.cell 0 2 rfl rfl; have fx := HMr4.out.frozen 0 2 rfl; obtain ⟨a4, c4, e4, _⟩ := HO4.out.cells; generalize ([] ++ xs ++ [a]).length = l4 at e4; subst e4; have HMr5 := LH (HMr4.out.set 0 2 (.slice a4 l4 c4) rfl (Nat.lt_succ_self 2))))
  have HT5 : Hid (Touch [q, q + 1] w1 w6) := LH ((((Touch.ofBelow HB4.out).trans (Touch.setCell ⟨q, 2, none⟩ (by simp) _)).trans (HT6.out.wide (by simp))))
  have HO6 : Hid (OwnI w6 (.slice a4 l4 c4) (xs ++ [a])) := LH (by
   have h1 : ([] ++ xs ++ [a]) = xs ++ [a] := by simp
   rw [← h1]
   refine HO4.out.keep (fun b hb => ?_)
   have h2 := HR4.out b hb
   have h3 := HO4.out.lt b hb
   have h4 := HMr.out.glt 0 rfl
   have h5 := HMr.out.glt 1 rfl
   refine (HT6.out.block b (by simpa using h3) (by simp; omega)).trans (Below.heap_setCell _ _ _ b (fun e => ?_))
   have : b = q := e
   omega)
  refine bodyPost_ret (results_cell_row2 (p := 6) (u := 7) rfl _ _ _ _ _ _ _ rfl (H6.out.exact 1 rfl) Tryz.underlying74 rfl (by kernel_rfl)) rfl ?_
  refine HP.out m' _ (xs ++ [a]) w6 (WGo.mine HB0.out HV.out.al.mem HWg.out HT5.out (fun k hk => ?_) HO6.out (fun b hb => .inr (HR4.out b hb))) (.inl ⟨a, HMade.out, rfl⟩) (fun b hb => .inr (Nat.le_trans HB0.out.size (Nat.le_trans HT1.out.size (HR4.out b hb)))) HAe.out
  have h4 := HMem.out.glt 0 rfl
  have h5 := HMem.out.glt 1 rfl
  have h6 := HQ.out
  simp only [List.mem_cons, List.not_mem_nil, or_false] at hk
  rcases hk with rfl | rfl <;> omega
 ·have HAe : Hid (m = (m.alloc 0 p2 d2).al) := LH (by rw [e])
  have HNr := LH hnr
  rw [e] at HWg ⊢
  dsimp only at HWg ⊢
  clear e hnr HDone
  go_wp2_with (first
   | (refine wpList_load_r aggW HMr.out 0 rfl rfl rfl rfl rfl ?_)
   | (refine wpList_store_r aggW HMr.out 1 rfl rfl rfl rfl rfl rfl rfl rfl ?_; intro w6 h6 ht6; have H6 := LH h6; have HT6 := LH ht6; clear h6 ht6))
  have HO6 : Hid (OwnI w6 (.slice sa l sc) xs) := LH (by
   refine HV.out.own.keep (fun b hb => ?_)
   have h1 := HV.out.own.lt b hb
   obtain ⟨R1, _, h2, _⟩ := HWg.out
   have h3 := HQ.out
   have h4 := HMem.out.glt 0 rfl
   have h5 := HMem.out.glt 1 rfl
   refine ((HT6.out.block b (Nat.lt_of_lt_of_le (by omega) h2.size) (by simp; omega)).trans (h2.block b (by omega) (fun hm => HV.out.apart b hb (AF.hot_list hm)))).trans (HB0.out.block b h1))
  refine bodyPost_ret (results_cell_row2 (p := 6) (u := 7) rfl _ _ _ _ _ _ _ rfl (H6.out.exact 1 rfl) Tryz.underlying74 rfl (by kernel_rfl)) rfl ?_
  refine HP.out m _ xs w6 (WGo.mine HB0.out HV.out.al.mem HWg.out HT6.out (fun k hk => ?_) HO6.out (fun b hb => .inl ⟨HV.out.own.lt b hb, HV.out.apart b hb⟩)) (.inr ⟨rfl, rfl, rfl, HNr.out⟩) (fun b hb => .inl hb) HAe.out
  have h4 := HMem.out.glt 0 rfl
  have h5 := HMem.out.glt 1 rfl
  have h6 := HQ.out
  simp only [List.mem_cons, List.not_mem_nil, or_false] at hk
  omega
def Al.lead (m : Al) (xs : List Nat) (i p t : Int) : Al := if pickN xs i = 0 then m else ⟨⟨(m.bm.dev.setPtr (pickN xs i : Nat) p (pickN xs t : Nat)).dev, m.bm.list, m.bm.free⟩, m.used, m.fl⟩
theorem setPtr_clen (S : Dev) (a i x : Int) : (S.setPtr a i x).dev.cache.length = S.cache.length := by
 unfold Dev.setPtr
 split
 ·rfl
 ·split
  ·rfl
  ·exact store_clen _ _ _
set_option maxHeartbeats 4000000 in
set_option maxRecDepth 20000 in
theorem wlead_any {w : World} {A : AF} {n B : Nat} {m : Al} {v : Value} {xs : List Nat} (h : WAt w A n B m v xs) {N : Nat} (hN : N ≤ 900000000) (ho : m.bm.dev.ok N) (hl : xs.length ≤ 1000000) (hx : ∀ x ∈ xs, x ≤ 1000000) (i p t : Int) :
  Calls Tryz.prog 112 #[vworld A v, .int .i64 i, .int .i64 p, .int .i64 t] w fun e w' => e = .returned (.tuple #[]) ∧ WGo w w' A n B (m.lead xs i p t) v xs := by
 have HMem := LH (Mem.one w #[valloc A, vdev A.X.F, v] 74)
 have HW0 := LH (h.below HMem.out.below)
 have HB0 := LH HMem.out.below
 have HOk := LH ho
 have hle : ∀ j, (pickN xs j) ≤ 1000000 := fun j => by
  by_cases c : pickN xs j = 0
  ·omega
  ·exact hx _ (pickN_mem c)
 have HP1 := LH (fun w' (ho : OwnI w' v xs) => wpick_any (valloc A) (vdev A.X.F) v xs ho hl i)
 have HP2 := LH (fun w' (ho : OwnI w' v xs) => wpick_any (valloc A) (vdev A.X.F) v xs ho hl t)
 have HL : Hid (m.lead xs i p t = if pickN xs i = 0 then m else ⟨⟨(m.bm.dev.setPtr (pickN xs i : Nat) p (pickN xs t : Nat)).dev, m.bm.list, m.bm.free⟩, m.used, m.fl⟩) := LH rfl
 have h1 := hle i
 have h2 := hle t
 have HHi := LH h
 generalize m.lead xs i p t = m' at *
 generalize pickN xs i = pi at *
 generalize pickN xs t = pt at *
 have HP : Hid (∀ w', WGo w w' A n B m' v xs → (fun e w' => e = Ending.returned (.tuple #[]) ∧ WGo w w' A n B m' v xs) (.returned (.tuple #[])) w') := LH (fun w' h => ⟨rfl, h⟩)
 generalize (fun e w' => e = Ending.returned (.tuple #[]) ∧ WGo w w' A n B m' v xs) = Post at *
 clear h ho hle hx
 go_enter Tryz.func112, Tryz.ntmps112
 go_upto_region 1 with fail
 obtain ⟨q, hq⟩ : ∃ q, q = w.heap.size := ⟨_, rfl⟩
 rw [← hq] at HMem ⊢
 generalize w.alloc _ = w0 at *
 clear hq
 go_wp2_with (refine wpList_load_mem aggW HMem.out 0 rfl rfl rfl rfl rfl ?_)
 refine (HP1.out _ HW0.out.own).mono ?_
 rintro e w1 ⟨rfl, hb1⟩
 have HM1 := LH (HMem.out.later hb1)
 have HW1 := LH (HW0.out.below hb1)
 clear hb1
 by_cases hp : pi = 0
 ·subst hp
  have HE : Hid (m' = m) := LH (by rw [HL.out, if_pos rfl])
  go_wp2_with fail
  go_end0
  refine HP.out _ ?_
  rw [HE.out]
  exact WGo.ahead HM1.out.below (WGo.refl HW1.out)
 have hp0 : (0 : Int) < (pi : Int) := by omega
 have HE : Hid (m' = ⟨⟨(m.bm.dev.setPtr (pi : Nat) p (pt : Nat)).dev, m.bm.list, m.bm.free⟩, m.used, m.fl⟩) := LH (by rw [HL.out, if_neg hp])
 clear HL
 go_upto_region 3 with fail
 have c0 := HM1.out.cell 0 0 rfl rfl
 have c1 := HM1.out.cell 0 1 rfl rfl
 have c2 := HM1.out.cell 0 2 rfl rfl
 have r0 := fun x => later_cell c0 x
 have r1 := fun x => later_cell c1 x
 have r2 := fun x => later_cell c2 x
 refine wp_region_seg (C := fun w' => ∃ x : Later (w1), w' = x.val) [.fl [0, 1, 2, 3, 4, 5], .sq [6] true, .sq [7] false] (by kernel_rfl) (by kernel_rfl) (by intro c a d v w h; cases d <;> exact h) ?_
 simp only [segs, picks, List.getElem?_cons_succ, List.getElem?_cons_zero]
 have hC1 := later_drew (w1)
 refine wpSeg_fl hC1 ?_
 repeat (first | go_big_quiet_step (fail) | quiet_step (fail))
 refine wpQuiet_nil ?_
 have HW2 := LH (HW1.out.below (later_below hC1))
 have HM2 := LH (HM1.out.later (later_below hC1))
 clear c0 c1 c2 r0 r1 r2
 generalize w1.drew = w2 at *
 refine wpSeg_sq (fun K hK => ?_)
 go_wp2_with fail
 refine (HP2.out _ HW2.out.own).mono ?_
 rintro e w3 ⟨rfl, hb3⟩
 have HW3 := LH (HW2.out.below hb3)
 have HM3 := LH (HM2.out.later hb3)
 have hC2 := later_step hC1 hb3
 clear hb3
 go_wp2_with fail
 refine hK _ _ (fun _ => hC2) ?_
 clear hK K
 refine wpSeg_last ?_
 go_wp2_with fail
 refine (osetPtr_any HW3.out.al.man.dev (N := N) (by omega) HOk.out _ _ _ (by omega)).mono ?_
 rintro e w4 ⟨rfl, hd4, ht4⟩
 obtain ⟨hm4, ht4'⟩ := HW3.out.al.man.setDev hd4 ht4
 have HG4 : Hid (WGo w3 w4 A n B m' v xs) := LH (by
  rw [HE.out]
  exact HW3.out.al' (HW3.out.al.setMan (Nat.le_refl _) hm4 ht4' (setPtr_clen _ _ _ _)))
 clear hd4 ht4 hm4 ht4'
 go_wp2_with fail
 go_end0
 exact HP.out _ (WGo.ahead HM3.out.below HG4.out)
theorem aggRo : Agg Tryz.prog 38 #[.int .i64 0, .int .i64 0] := ⟨⟨_, Tryz.underlying38, rfl⟩, by kernel_rfl⟩
set_option maxHeartbeats 1000000 in
theorem rsize8_any (p d : Int) (w : World) : Calls Tryz.prog 66 #[vob p d] w fun e w' => e = .returned (.int .i64 (objSize p d : Nat)) ∧ Below w.heap.size w w' := by
 have HM := LH (Mem.one w #[.int .i64 p, .int .i64 d] 38)
 have HS : Hid (objSize p d = if p < 0 ∨ 63 < p ∨ d < 0 ∨ 16384 < d then 0 else (1 + p + d).toNat) := LH rfl
 generalize objSize p d = n at *
 go_enter Tryz.func66, Tryz.ntmps66
 go_upto_region 1 with fail
 generalize w.alloc _ = w0 at *
 have c0 := HM.out.cell 0 0 rfl rfl
 have c1 := HM.out.cell 0 1 rfl rfl
 by_cases h1 : p < 0
 ·have HV : Hid (n = 0) := LH (by rw [HS.out, if_pos (.inl h1)])
  go_wp2_with fail
  go_ret
  exact ⟨by rw [HV.out]; rfl, HM.out.below⟩
 by_cases h2 : 63 < p
 ·have HV : Hid (n = 0) := LH (by rw [HS.out, if_pos (.inr (.inl h2))])
  go_wp2_with fail
  go_ret
  exact ⟨by rw [HV.out]; rfl, HM.out.below⟩
 by_cases h3 : d < 0
 ·have HV : Hid (n = 0) := LH (by rw [HS.out, if_pos (.inr (.inr (.inl h3)))])
  go_wp2_with fail
  go_ret
  exact ⟨by rw [HV.out]; rfl, HM.out.below⟩
 by_cases h4 : 16384 < d
 ·have HV : Hid (n = 0) := LH (by rw [HS.out, if_pos (.inr (.inr (.inr h4)))])
  go_wp2_with fail
  go_ret
  exact ⟨by rw [HV.out]; rfl, HM.out.below⟩
 have HV : Hid ((n : Int) = 1 + p + d) := LH (by rw [HS.out, if_neg (by omega)]; omega)
 go_wp2_with fail
 go_ret
 exact ⟨ret_int HV.out.symm, HM.out.below⟩
set_option maxHeartbeats 1000000 in
theorem rencode8_any (p d a : Int) (w : World) : Calls Tryz.prog 219 #[vob p d, .int .i64 a] w fun e w' => e = .returned (vu64 (oencN a p d)) ∧ Below w.heap.size w w' := by
 have HM := LH (Mem.one w #[.int .i64 p, .int .i64 d] 38)
 have HE : Hid (oencN a p d = if objSize p d = 0 then 0 else sealN (obN p d) (pl a)) := LH rfl
 generalize oencN a p d = y at *
 go_enter Tryz.func219, Tryz.ntmps219
 go_upto_region 1 with fail
 generalize w.alloc _ = w0 at *
 go_wp2_with (refine wpList_load_mem aggRo HM.out 0 rfl rfl rfl rfl rfl ?_)
 refine (rsize8_any p d _).mono ?_
 rintro e w1 ⟨rfl, hb1⟩
 have HM1 := LH (HM.out.later hb1)
 clear hb1 HM
 by_cases hr : objSize p d = 0
 ·have HV : Hid (y = 0) := LH (by rw [HE.out, if_pos hr])
  rw [hr]
  clear hr
  go_wp2_with fail
  go_ret
  exact ⟨ret_int (by rw [HV.out]; rfl), HM1.out.below⟩
 ·have HV : Hid (y = sealN (obN p d) (pl a)) := LH (by rw [HE.out, if_neg hr])
  have hn := obN_lt hr
  obtain ⟨⟨p0, p1⟩, d0, d1⟩ := obj_small hr
  have HN : Hid (165 + 256 * p + 16384 * d = (obN p d : Int)) := LH (by unfold obN; omega)
  have hz : (((objSize p d : Nat) : Int) == 0) = false := by simp; omega
  have c0 := HM1.out.cell 0 0 rfl rfl
  have c1 := HM1.out.cell 0 1 rfl rfl
  generalize objSize p d = sz at *
  generalize obN p d = n at *
  clear hr
  have hw : IntKind.u32.wrap (165 + 256 * p + 16384 * d) = 165 + 256 * p + 16384 * d := IntWalk.u32_in _ (by omega)
  go_wp2_with fail
  rw [HN.out]
  refine (rseal_any n _ hn _).mono ?_
  rintro e w2 ⟨rfl, hb2⟩
  rw [← HV.out]
  go_wp2_with fail
  go_ret
  exact ⟨rfl, (HM1.out.later hb2).below⟩
set_option maxHeartbeats 1000000 in
theorem rdecode8_any (a : Int) (x : Nat) (hx : x < 18446744073709551616) (w : World) :
  Calls Tryz.prog 175 #[.int .i64 a, vu64 x] w fun e w' => e = .returned (odecN a x).val ∧ Below w.heap.size w w' := by
 have HM := LH (Mem.one w #[.int .i64 0, .int .i64 0] 38)
 have HOS : Hid ((odecN a x).code = 0 → objSize (odecN a x).p (odecN a x).d ≠ 0) := LH (fun h => (odec_size h).1)
 go_enter Tryz.func175, Tryz.ntmps175
 go_upto_region 1 with fail
 generalize w.alloc _ = w0 at *
 go_wp2_with fail
 refine (ropen_any x _ hx _).mono ?_
 rintro e w1 ⟨rfl, hbo⟩
 have HM1 := LH (HM.out.later hbo)
 clear hbo HM
 cases ho : openN x (pl a) with
 | none =>
  have HV := LH (odecN_none ho)
  clear ho
  simp only [openV]
  go_wp2_with (refine wpList_store_mem aggRo HM1.out 0 rfl rfl rfl rfl rfl rfl rfl rfl ?_; intro w9 h9 _; have H9 := LH h9; clear h9)
  refine bodyPost_ret (results_cell_row2 (p := 4) (u := 5) rfl _ _ _ _ _ _ _ rfl (H9.out.exact 0 rfl) Tryz.underlying38 rfl (by kernel_rfl)) rfl ⟨by rw [HV.out]; rfl, H9.out.below⟩
 | some n =>
  obtain ⟨hn, -⟩ := openN_some ho
  have HK := LH (odecN_ok ho)
  have HL := LH (odecN_bad ho)
  have HD := LH (odecN_some ho)
  have HDS : Hid (odecS a x n = if oencN a (n / 256 % 64 : Nat) (n / 16384 % 32768 : Nat) = x then ⟨(n / 256 % 64 : Nat), (n / 16384 % 32768 : Nat), 0⟩ else ⟨0, 0, 26⟩) := LH rfl
  clear ho
  simp only [openV]
  have h64 : n / 256 % 64 < 64 := by omega
  have h6 : n / 16384 % 32768 < 32768 := by omega
  have hmod1 : (n : Int) / 256 % 64 = ((n / 256 % 64 : Nat) : Int) := by omega
  have hmod2 : (n : Int) / 16384 % 32768 = ((n / 16384 % 32768 : Nat) : Int) := by omega
  have HM1' := LH (HM1.out.alloc #[.int .i64 ((n : Int) / 256 % 64), .int .i64 ((n : Int) / 16384 % 32768)] 38)
  have HMOD1 := LH hmod1
  have HMOD2 := LH hmod2
  clear hmod1 hmod2
  go_upto_region 5 with fail
  rw [HMOD1.out, HMOD2.out] at HM1' ⊢
  clear HMOD1 HMOD2
  generalize n / 256 % 64 = k at *
  generalize n / 16384 % 32768 = l at *
  generalize w1.alloc _ = w2 at *
  generalize w1.heap.size = g at *
  clear HM1
  go_wp2_with (refine wpList_load_mem aggRo HM1'.out 1 rfl rfl rfl rfl rfl ?_)
  refine (rsize8_any k l _).mono ?_
  rintro e w3 ⟨rfl, hb3⟩
  have HM3 := LH (HM1'.out.later hb3)
  clear hb3 HM1'
  by_cases hyx : oencN a k l = x
  ·have HV := LH (HK.out hyx)
   have hsz : objSize (k : Int) (l : Int) ≠ 0 := by
    have h1 := HOS.out
    rw [HD.out, HDS.out, if_pos hyx] at h1
    exact h1 rfl
   have hz : (((objSize (k : Int) (l : Int) : Nat) : Int) == 0) = false := by simp; omega
   generalize objSize (k : Int) (l : Int) = sz at *
   clear hsz
   have HYX := LH hyx
   clear hyx
   have c0 := HM3.out.cell 1 0 rfl rfl
   have c1 := HM3.out.cell 1 1 rfl rfl
   go_wp2_with fail
   clear c0 c1
   refine (rencode8_any k l a _).mono ?_
   rintro e w4 ⟨rfl, hb4⟩
   rw [HYX.out]
   have HM4 := LH (HM3.out.later hb4)
   clear hb4 HM3
   go_wp2_with (first | (refine wpList_load_mem aggRo HM4.out 1 rfl rfl rfl rfl rfl ?_) | (refine wpList_store_mem aggRo HM4.out 0 rfl rfl rfl rfl rfl rfl rfl rfl ?_; intro w9 h9 _; have H9 := LH h9; clear h9))
   refine bodyPost_ret (results_cell_row2 (p := 4) (u := 5) rfl _ _ _ _ _ _ _ rfl (H9.out.exact 0 rfl) Tryz.underlying38 rfl (by kernel_rfl)) rfl ⟨by rw [HV.out]; rfl, H9.out.below⟩
  ·have HV := LH (HL.out hyx)
   by_cases hsz : objSize (k : Int) (l : Int) = 0
   ·rw [hsz]
    clear hsz
    go_wp2_with (first | (refine wpList_load_mem aggRo HM3.out 1 rfl rfl rfl rfl rfl ?_) | (refine wpList_store_mem aggRo HM3.out 0 rfl rfl rfl rfl rfl rfl rfl rfl ?_; intro w9 h9 _; have H9 := LH h9; clear h9))
    refine bodyPost_ret (results_cell_row2 (p := 4) (u := 5) rfl _ _ _ _ _ _ _ rfl (H9.out.exact 0 rfl) Tryz.underlying38 rfl (by kernel_rfl)) rfl ⟨by rw [HV.out]; rfl, H9.out.below⟩
   have hz : (((objSize (k : Int) (l : Int) : Nat) : Int) == 0) = false := by simp; omega
   generalize objSize (k : Int) (l : Int) = sz at *
   clear hsz
   have HYX := LH hyx
   clear hyx
   have c0 := HM3.out.cell 1 0 rfl rfl
   have c1 := HM3.out.cell 1 1 rfl rfl
   go_wp2_with fail
   clear c0 c1
   refine (rencode8_any k l a _).mono ?_
   rintro e w4 ⟨rfl, hb4⟩
   have HM4 := LH (HM3.out.later hb4)
   clear hb4 HM3
   have hne : ¬ ((oencN a (k : Int) (l : Int) : Int) = (x : Int)) := by have := HYX.out; omega
   have hne2 : ((oencN a (k : Int) (l : Int) : Int) != (x : Int)) = true := by simp; have := HYX.out; omega
   generalize oencN a (k : Int) (l : Int) = y at *
   go_wp2_with (first | (refine wpList_load_mem aggRo HM4.out 1 rfl rfl rfl rfl rfl ?_) | (refine wpList_store_mem aggRo HM4.out 0 rfl rfl rfl rfl rfl rfl rfl rfl ?_; intro w9 h9 _; have H9 := LH h9; clear h9))
   refine bodyPost_ret (results_cell_row2 (p := 4) (u := 5) rfl _ _ _ _ _ _ _ rfl (H9.out.exact 0 rfl) Tryz.underlying38 rfl (by kernel_rfl)) rfl ⟨by rw [HV.out]; rfl, H9.out.below⟩
def headV (o : Odec) : Value := .tuple #[vob o.p o.d, .bool (decide (o.code = 0))]
set_option maxHeartbeats 4000000 in
set_option maxRecDepth 100000 in
theorem rhead15_any {w : World} {v : Value} {S : Dev} {m : Nat} (hm : S.dirty.length = m) (h : RAt w v m S.ref) {N : Nat} (hf : S.fit N) (a : Int) :
  Calls Tryz.prog 106 #[v, .int .i64 a] w fun e w' => e = .returned (headV (headN S a)) ∧ Below w.heap.size w w' := by
 subst hm
 obtain ⟨an, cn, al, cl, aw, cw, ad, cd, ap, cp, m, sv, fz, dd, rfl, ho, hdl, hm8, hsv, hfz⟩ := ropen h hf
 have HV : Hid (headN S a = if a < 0 ∨ (S.cache.length : Int) ≤ a then ⟨0, 0, 22⟩ else
  if (odecN a (peek S.cache a)).code ≠ 0 ∨ (S.cache.length : Int) - a < (objSize (odecN a (peek S.cache a)).p (odecN a (peek S.cache a)).d : Nat) then ⟨0, 0, 22⟩ else ⟨(odecN a (peek S.cache a)).p, (odecN a (peek S.cache a)).d, 0⟩) := LH rfl
 generalize headN S a = R at *
 have HPk := LH (peek_lt hf.wf.u64C a)
 have HO := LH ho
 have HCL := LH ho.cl
 clear h hf ho hdl
 have HM := LH (Mem.two w #[.slice an m cn, .slice al m cl, .slice aw m cw, .slice ad m cd, .slice ap m cp, .int .i64 sv, .int .i64 fz, .bool dd] 59 #[.int .i64 0, .int .i64 0] 38)
 go_enter Tryz.func106, Tryz.ntmps106
 go_upto_region 1 with fail
 generalize (w.alloc _).alloc _ = w0 at *
 have c0 := HM.out.cell 0 0 rfl rfl
 by_cases h1 : a < 0
 ·have HR : Hid (R = ⟨0, 0, 22⟩) := LH (by rw [HV.out, if_pos (.inl h1)])
  go_wp2_with (refine wpList_store_mem aggRo HM.out 1 rfl rfl rfl rfl rfl rfl rfl rfl ?_; intro w9 h9 _; have H9 := LH h9; clear h9)
  exact bodyPost_ret (results_cell_row2 (p := 4) (u := 5) rfl _ _ _ _ _ _ _ rfl (H9.out.exact 1 rfl) Tryz.underlying38 rfl (by kernel_rfl)) rfl ⟨by rw [HR.out]; rfl, H9.out.below⟩
 by_cases h2 : 8 * (m : Int) ≤ a
 ·have HR : Hid (R = ⟨0, 0, 22⟩) := LH (by rw [HV.out, if_pos (.inr (by rw [HCL.out]; omega))])
  go_wp2_with (refine wpList_store_mem aggRo HM.out 1 rfl rfl rfl rfl rfl rfl rfl rfl ?_; intro w9 h9 _; have H9 := LH h9; clear h9)
  exact bodyPost_ret (results_cell_row2 (p := 4) (u := 5) rfl _ _ _ _ _ _ _ rfl (H9.out.exact 1 rfl) Tryz.underlying38 rfl (by kernel_rfl)) rfl ⟨by rw [HR.out]; rfl, H9.out.below⟩
 have HV2 : Hid (R = if (odecN a (peek S.cache a)).code ≠ 0 ∨ 8 * (m : Int) - a < (objSize (odecN a (peek S.cache a)).p (odecN a (peek S.cache a)).d : Nat) then ⟨0, 0, 22⟩ else ⟨(odecN a (peek S.cache a)).p, (odecN a (peek S.cache a)).d, 0⟩) := LH (by
  rw [HV.out, if_neg (by rw [HCL.out]; omega), show (S.cache.length : Int) = 8 * (m : Int) by rw [HCL.out]; omega])
 clear HV
 go_wp2_with fail
 refine (rget_any an m cn S.cache _ (HO.out.k1.below HM.out.below (Nat.le_refl _)) HCL.out (by omega) a).mono ?_
 rintro e w1 ⟨rfl, rfl⟩
 generalize peek S.cache a = x at *
 go_wp2_with fail
 refine (rdecode8_any a x HPk.out _).mono ?_
 rintro e w1 ⟨rfl, hb1⟩
 have HM1 := LH (HM.out.later hb1)
 generalize odecN a x = o at *
 obtain ⟨p, d, c⟩ := o
 unfold Odec.val
 dsimp only at HV2 ⊢
 have HM2 := LH (HM1.out.alloc #[.int .i64 p, .int .i64 d] 38)
 clear hb1 HM c0 HM1
 go_upto_region 4 with fail
 generalize w1.alloc _ = w2 at *
 generalize w1.heap.size = g at *
 by_cases hc : c = 0
 ·subst hc
  have c0 := HM2.out.cell 0 0 rfl rfl
  have d0 := HM2.out.cell 2 0 rfl rfl
  have d1 := HM2.out.cell 2 1 rfl rfl
  have r0 := fun x => later_cell c0 x
  have r1 := fun x => later_cell d0 x
  have r2 := fun x => later_cell d1 x
  have hw : IntKind.i64.wrap (8 * (m : Int) - a) = 8 * (m : Int) - a := IntWalk.i64_in _ (by omega)
  refine wp_region_seg (C := fun w' => ∃ x : Later (w2), w' = x.val) [.sq [0, 1, 2] false, .fl [3, 5, 6, 7, 8, 9, 10], .sq [4] true, .sq [11, 12] false] (by kernel_rfl) (by kernel_rfl) (by intro c a d v w h; cases d <;> exact h) ?_
  simp only [segs, picks, List.getElem?_cons_succ, List.getElem?_cons_zero]
  have hC1 := later_drew (w2)
  refine wpSeg_sq (fun K hK => ?_)
  go_wp2_with fail
  refine hK _ _ (fun h => nomatch h) ?_
  clear hK K
  refine wpSeg_fl hC1 ?_
  repeat (first | go_big_quiet_step (fail) | quiet_step (fail))
  refine wpQuiet_nil ?_
  refine wpSeg_sq (fun K hK => ?_)
  go_wp2_with fail
  have HM3 := LH (HM2.out.later (later_below hC1))
  refine (rsize8_any p d _).mono ?_
  rintro e w3 ⟨rfl, hb3⟩
  have hC2 := later_step hC1 hb3
  have HM4 := LH (HM3.out.later hb3)
  clear hb3 HM3
  go_wp2_with fail
  refine hK _ _ (fun _ => hC2) ?_
  clear hK K
  clear HM2 c0 d0 d1 r0 r1 r2 hC1 hC2
  generalize objSize p d = sz at *
  by_cases h3 : 8 * (m : Int) - a < (sz : Int)
  ·have HR : Hid (R = ⟨0, 0, 22⟩) := LH (by rw [HV2.out, if_pos (.inr h3)])
   refine wpSeg_last ?_
   go_wp2_with (refine wpList_store_mem aggRo HM4.out 1 rfl rfl rfl rfl rfl rfl rfl rfl ?_; intro w9 h9 _; have H9 := LH h9; clear h9)
   exact bodyPost_ret (results_cell_row2 (p := 4) (u := 5) rfl _ _ _ _ _ _ _ rfl (H9.out.exact 1 rfl) Tryz.underlying38 rfl (by kernel_rfl)) rfl ⟨by rw [HR.out]; rfl, H9.out.below⟩
  ·have HR : Hid (R = ⟨p, d, 0⟩) := LH (by rw [HV2.out, if_neg (by simp; omega)])
   refine wpSeg_last ?_
   go_wp2_with (first | (refine wpList_load_mem aggRo HM4.out 2 rfl rfl rfl rfl rfl ?_) | (refine wpList_store_mem aggRo HM4.out 1 rfl rfl rfl rfl rfl rfl rfl rfl ?_; intro w9 h9 _; have H9 := LH h9; clear h9))
   exact bodyPost_ret (results_cell_row2 (p := 4) (u := 5) rfl _ _ _ _ _ _ _ rfl (H9.out.exact 1 rfl) Tryz.underlying38 rfl (by kernel_rfl)) rfl ⟨by rw [HR.out]; rfl, H9.out.below⟩
 ·have HR : Hid (R = ⟨0, 0, 22⟩) := LH (by rw [HV2.out, if_pos (.inl hc)])
  have hc1 : (c != 0) = true := by simpa using hc
  clear hc
  refine wp_region_seg (C := fun w' => ∃ x : Later (w2), w' = x.val) [.sq [0, 1, 2] false, .fl [3, 5, 6, 7, 8, 9, 10], .sq [4] true, .sq [11, 12] false] (by kernel_rfl) (by kernel_rfl) (by intro c a d v w h; cases d <;> exact h) ?_
  simp only [segs, picks, List.getElem?_cons_succ, List.getElem?_cons_zero]
  have hC1 := later_drew (w2)
  refine wpSeg_sq (fun K hK => ?_)
  go_wp2_with fail
  refine hK _ _ (fun h => nomatch h) ?_
  clear hK K
  refine wpSeg_fl hC1 ?_
  repeat (first | go_big_quiet_step (fail) | quiet_step (fail))
  refine wpQuiet_nil ?_
  refine wpSeg_sq (fun K hK => ?_)
  go_wp2_with fail
  go_wp2_with fail
  refine hK _ _ (fun _ => hC1) ?_
  clear hK K
  have HM4 := LH (HM2.out.later (later_below hC1))
  clear HM2 hC1
  refine wpSeg_last ?_
  go_wp2_with (refine wpList_store_mem aggRo HM4.out 1 rfl rfl rfl rfl rfl rfl rfl rfl ?_; intro w9 h9 _; have H9 := LH h9; clear h9)
  exact bodyPost_ret (results_cell_row2 (p := 4) (u := 5) rfl _ _ _ _ _ _ _ rfl (H9.out.exact 1 rfl) Tryz.underlying38 rfl (by kernel_rfl)) rfl ⟨by rw [HR.out]; rfl, H9.out.below⟩
def capP (x : Nat) : Nat := if 1099511627776 < x then 1099511627776 else x
theorem capP_le (x : Nat) : capP x ≤ 1099511627776 := by unfold capP; split <;> omega
set_option maxHeartbeats 1000000 in
theorem optrG_any {w : World} {F : Foot} {S : Dev} (h : DevAt w F S) (a i : Int) :
  Calls Tryz.prog 221 #[vdev F, .int .i64 a, .int .i64 i] w fun e w' => e = .returned (.tuple #[.int .i64 ((if (placeN S a i false).code = 0 then capP (peek S.cache (placeN S a i false).at_) else 0 : Nat) : Int), .int .i64 (placeN S a i false).code]) ∧ Below w.heap.size w w' := by
 have HD := LH h
 clear h
 obtain ⟨pn, hpn⟩ : ∃ pn, pn = placeN S a i false := ⟨_, rfl⟩
 rw [← hpn]
 have HPN := LH hpn
 clear hpn
 generalize hR : (if pn.code = 0 then capP (peek S.cache pn.at_) else 0 : Nat) = R
 have HR := LH hR
 clear hR
 go_enter Tryz.func221, Tryz.ntmps221
 go_wp2_with fail
 refine (ofield_any HD.out a i false).mono ?_
 rw [← HPN.out]
 rintro e w1 ⟨rfl, hb1⟩
 clear HPN
 obtain ⟨q, c⟩ := pn
 dsimp only at HR ⊢
 have HB := LH hb1
 have HD1 := LH (HD.out.below hb1)
 clear hb1 HD
 by_cases hc : c = 0
 ·subst hc
  go_wp2_with fail
  refine (dget_any HD1.out q).mono ?_
  rintro e w2 ⟨rfl, rfl⟩
  rw [if_pos trivial] at HR
  generalize peek S.cache q = x at *
  by_cases hx : 1099511627776 < x
  ·have HV : Hid (R = 1099511627776) := LH (by rw [← HR.out]; unfold capP; rw [if_pos hx])
   have hmin : min (x : Int) 1099511627776 = 1099511627776 := Int.min_eq_right (by omega)
   go_wp2_with fail
   go_ret2
   exact ⟨by rw [HV.out]; rfl, HB.out⟩
  ·have HV : Hid (R = x) := LH (by rw [← HR.out]; unfold capP; rw [if_neg hx])
   have hmin : min (x : Int) 1099511627776 = (x : Int) := Int.min_eq_left (by omega)
   go_wp2_with fail
   go_ret2
   exact ⟨by rw [HV.out]; rfl, HB.out⟩
 ·have hc1 : (c != 0) = true := by simpa using hc
  have HV : Hid (R = 0) := LH (by rw [← HR.out, if_neg hc])
  clear hc
  go_wp2_with fail
  go_ret2
  exact ⟨by rw [HV.out]; rfl, HB.out⟩
def ptrL (S : Dev) (a : Int) (k : Nat) : List Nat := (List.range k).map fun i : Nat => capP (peek S.cache (a + 1 + (i : Int)))
theorem ptrL_succ (S : Dev) (a : Int) (k : Nat) : ptrL S a (k + 1) = ptrL S a k ++ [capP (peek S.cache (a + 1 + (k : Int)))] := by simp [ptrL, List.range_succ]
theorem ptrL_length (S : Dev) (a : Int) (k : Nat) : (ptrL S a k).length = k := by simp [ptrL]
def PtrsPost (S : Dev) (a : Int) (w : World) : Ending → World → Prop := fun e w' => Below w.heap.size w w' ∧
      (((headN S a).code = 0 ∧ ∃ v, e = .returned (.tuple #[v, .int .i64 0]) ∧ w'.ownsRow w.heap.size 3 1 v (headN S a).p.toNat ((ptrL S a (headN S a).p.toNat).map vi)) ∨
       ((headN S a).code = 22 ∧ e = .returned (.tuple #[.slice none 0 0, .int .i64 22])))
set_option maxHeartbeats 1000000 in
set_option maxRecDepth 20000 in
theorem optrs_any {w : World} {F : Foot} {S : Dev} (h : DevAt w F S) (a : Int) :
  Calls Tryz.prog 178 #[vdev F, .int .i64 a] w (PtrsPost S a w) := by
 generalize hP : PtrsPost S a w = Post
 have HP := LH hP
 clear hP
 have HSm := LH (head_small h.small (a := a))
 have HD := LH h
 have HPl : Hid (∀ i, placeN S a i false = if (headN S a).code ≠ 0 then ⟨0, 22⟩ else if false = true then (if 0 ≤ i ∧ i < (headN S a).d then ⟨a + (1 + (headN S a).p + i), 0⟩ else ⟨0, 7⟩) else (if 0 ≤ i ∧ i < (headN S a).p then ⟨a + (1 + i), 0⟩ else ⟨0, 7⟩)) := LH (fun i => rfl)
 clear h
 go_enter Tryz.func178, Tryz.ntmps178
 go_wp2_with fail
 refine (ohead_any HD.out a).mono ?_
 rintro e w1 ⟨rfl, hb1⟩
 have hC22 := headN_code2 S a
 generalize hX : headN S a = x at *
 have HX := LH hX
 clear hX
 obtain ⟨p, d, c⟩ := x
 unfold Odec.val
 dsimp only at HSm HPl hC22 ⊢
 have HM := LH (((Mem.start w).later hb1).alloc #[.int .i64 p, .int .i64 d] 129)
 clear hb1
 go_upto_region 2 with fail
 generalize w1.alloc _ = w2 at *
 generalize w1.heap.size = g at *
 have c0 := HM.out.cell 0 0 rfl rfl
 by_cases hc : c = 0
 ·subst hc
  obtain ⟨ha, ⟨hp0, hp1⟩, _⟩ := HSm.out rfl
  obtain ⟨n, rfl⟩ := Int.eq_ofNat_of_zero_le hp0
  have HPk : Hid (∀ k : Nat, k < n → placeN S a (k : Int) false = ⟨a + (1 + (k : Int)), 0⟩) := LH (fun k hk => by rw [HPl.out, if_neg (by simp), if_neg (by simp), if_pos (by omega)])
  clear hC22 HSm HPl
  go_wp2_with fail
  go_loopw [8, 23] (fun v i wr => ∃ k : Nat, k ≤ n ∧ i = .int .i64 k ∧ wr.ownsRow w2.heap.size 3 1 v k ((ptrL S a k).map vi) ∧ Below w2.heap.size w2 wr) (fun _ i _ => n - (intOf i).toNat)
  case atStart => exact ⟨0, Nat.zero_le _, rfl, ⟨rfl, .inl ⟨rfl, rfl⟩⟩, Below.refl _ _⟩
  case round =>
   obtain ⟨k, hk, rfl, ho, hb⟩ := hrel
   obtain ⟨a1, c1, rfl, hc1, hm1⟩ := owned_form ho
   have HO := LH ho
   have HB := LH hb
   clear ho hb
   by_cases hlt : k < n
   ·have hlt' : (k : Int) < (n : Int) := by omega
    have HS := LH (ptrL_succ S a k)
    go_wp2_with fail
    refine (optrG_any ((HD.out.below HM.out.below).below HB.out) a k).mono ?_
    rw [HPk.out k hlt]
    rintro e w3 ⟨rfl, hb3⟩
    rw [if_pos rfl]
    dsimp only
    rw [show a + (1 + (k : Int)) = a + 1 + (k : Int) by omega]
    generalize capP (peek S.cache (a + 1 + (k : Int))) = y at *
    have HO3 := LH (owned_below HO.out hb3 (Nat.le_refl _))
    have HB3 := LH (HB.out.trans (hb3.mono HB.out.size))
    have hone : Hid (∀ u ∈ (#[vi y] : Array Value).toList, u.oneCell' = true) := LH (by intro u hu; simp at hu; subst hu; rfl)
    have hbase : Hid (w2.heap.size ≤ w3.heap.size) := LH HB3.out.size
    have hk9 : k < 1000000000000 := by omega
    clear hb3 HO HB
    go_wp2_with (at_builtin; refine wpList_append_new (us := #[vi y]) elInt HO3.out rfl hone.out hk9 (by decide) hbase.out rfl rfl rfl (by simp [Act.eval]) ?_; intro g6 c6 w6 ho6 hg6 hc6 hm6 hb6 hl6; have HO6 := LH ho6; have HG6 := LH hg6; clear ho6 hg6)
    refine ⟨⟨k + 1, by omega, vint (by omega), ?_, below_grownBy HB3.out HO3.out HG6.out (Nat.le_refl _) (Nat.le_refl _)⟩, by simp [intOf]; omega⟩
    rw [HS.out]
    simpa using HO6.out
   ·obtain rfl : k = n := by omega
    have hlt' : decide ((k : Int) < (k : Int)) = false := by simp
    go_wp2_with fail
    rw [← HP.out]
    refine ⟨(HM.out.later HB.out).below, .inl ⟨by rw [HX.out], _, rfl, ?_⟩⟩
    rw [HX.out]
    exact owned_base HO.out HM.out.below.size
 ·have hc2 : c = 22 := hC22.elim (fun h => absurd h hc) id
  subst hc2
  clear hc hC22
  go_wp2_with fail
  rw [← HP.out]
  exact ⟨HM.out.below, .inr ⟨by rw [HX.out], rfl⟩⟩
def nowD (S : Dev) : Dev := freshDev S.cache S.dirty.length
theorem nowD_fit {S : Dev} (h : S.wf) (N : Nat) : (nowD S).fit N :=
 ⟨⟨rfl, by simp [nowD, freshDev], by simp [nowD, freshDev], by simp [nowD, freshDev, h.lenD], h.small, h.u64C, h.u64C, fun z hz => by simp [nowD, freshDev] at hz; omega⟩, fresh_ok _ _ _, fun h => by cases h⟩
theorem nowD_ref {S : Dev} (h : S.wf) : freshR S.cache S.dirty.length = (nowD S).ref := by
 unfold freshR Dev.ref nowD freshDev
 rw [h.lenD]; rfl
def NowPost (S : Dev) (w : World) : Ending → World → Prop := fun e w' => ∃ v, e = .returned v ∧ RAt w' v S.dirty.length (nowD S).ref ∧ (∀ b, RIn v b → w.heap.size ≤ b) ∧ Below w.heap.size w w'
set_option maxHeartbeats 4000000 in
set_option maxRecDepth 20000 in
theorem wnow_any {w : World} {F : Foot} {S : Dev} (h : DevAt w F S) (x v : Value) (hL : S.cache.length ≤ 8192) :
  Calls Tryz.prog 27 #[.agg #[x, vdev F, v]] w (NowPost S w) := by
 have HMem := LH (Mem.two w #[x, vdev F, v] 74 zeroD 59)
 have HD0 := LH (h.below HMem.out.below)
 have HWf := LH h.wf
 have HP : Hid (∀ v w', RAt w' v S.dirty.length (nowD S).ref → (∀ b, RIn v b → w.heap.size ≤ b) → Below w.heap.size w w' → NowPost S w (.returned v) w') := LH (fun v w' h1 h2 h3 => ⟨v, rfl, h1, h2, h3⟩)
 generalize NowPost S w = Post at *
 obtain ⟨l, hl⟩ : ∃ l, l = S.cache.length := ⟨_, rfl⟩
 rw [← hl] at hL
 have HL := LH hl
 clear h hl
 go_enter Tryz.func27, Tryz.ntmps27
 go_upto_region 1 with fail
 rw [show (#[.slice none 0 0, .slice none 0 0, .slice none 0 0, .slice none 0 0, .slice none 0 0, .int .i64 0, .int .i64 0, .bool false] : Array Value) = zeroD from rfl]
 obtain ⟨q, hq⟩ : ∃ q, q = w.heap.size := ⟨_, rfl⟩
 rw [← hq] at HMem ⊢
 have HQ := LH hq
 generalize (w.alloc _).alloc _ = w0 at *
 clear hq
 go_wp2_with fail
 go_loopw [3, 4] (fun v i wr => ∃ k : Nat, k ≤ l ∧ i = .int .i64 (k : Int) ∧ Hid (wr.ownsRow w0.heap.size 113 1 v k ((S.cache.take k).map vu64)) ∧ Hid (Below w0.heap.size w0 wr)) (fun _ i _ => l - (intOf i).toNat)
 case atStart => exact ⟨0, Nat.zero_le _, rfl, LH ⟨rfl, .inl ⟨rfl, rfl⟩⟩, LH (Below.refl _ _)⟩
 case round =>
  obtain ⟨k, hk, rfl, HO, HB⟩ := hrel
  obtain ⟨a1, c1, rfl, hc1, hm1⟩ := owned_form HO.out
  have HM1 := LH (HMem.out.later HB.out)
  have HD1 := LH (HD0.out.below HB.out)
  have e1 := HM1.out.cell 0 1 rfl rfl
  by_cases hlt : k < l
  ·have hlt' : (k : Int) < (l : Int) := by omega
   have hlt2 : (k : Int) < 8192 := by omega
   have HLn := LH (dlen_any HD1.out)
   rw [← HL.out] at HLn
   have HGet := LH (dget_any HD1.out (k : Int))
   rw [peek_in] at HGet
   have HS : Hid ((S.cache.take (k + 1)).map vu64 = (S.cache.take k).map vu64 ++ [vu64 (S.cache.getD k 0)]) := LH (by
    have : k < S.cache.length := by rw [← HL.out]; exact hlt
    rw [List.take_succ_eq_append_getElem this, List.map_append, List.getD_eq_getElem?_getD, List.getElem?_eq_getElem this]; rfl)
   generalize S.cache.getD k 0 = y at *
   have hone : Hid (∀ u ∈ (#[vu64 y] : Array Value).toList, u.oneCell' = true) := LH (by intro u hu; simp at hu; subst hu; rfl)
   have hbase : Hid (w0.heap.size ≤ wr.heap.size) := LH HB.out.size
   have hk9 : k < 1000000000000 := by omega
   go_wp2_with fail
   refine HLn.out.mono ?_
   rintro e w3 ⟨rfl, rfl⟩
   go_wp2_with fail
   refine HGet.out.mono ?_
   rintro e w4 ⟨rfl, rfl⟩
   go_wp2_with (at_builtin; refine wpList_append_new (us := #[vu64 y]) el64 HO.out rfl hone.out hk9 (by decide) hbase.out rfl rfl rfl (by simp [Act.eval]) ?_; intro g6 c6 w6 ho6 hg6 hc6 hm6 hb6 hl6; have HO6 := LH ho6; have HG6 := LH hg6; clear ho6 hg6)
   go_roundw
   case rel =>
    refine ⟨k + 1, by omega, vint (by omega), LH ?_, LH (below_grownBy HB.out HO.out HG6.out (Nat.le_refl _) (Nat.le_refl _))⟩
    rw [HS.out]
    simpa using HO6.out
   case measure => simp [intOf]; omega
  ·obtain rfl : k = l := by omega
   have hlt' : ¬ (k : Int) < (k : Int) := by omega
   have HLn := LH (dlen_any HD1.out)
   rw [← HL.out] at HLn
   go_wp2_with fail
   refine HLn.out.mono ?_
   rintro e w3 ⟨rfl, rfl⟩
   have HC := LH (Cells.owned HO.out)
   have hll : S.cache.take k = S.cache := by rw [HL.out, List.take_length]
   rw [hll] at HC
   go_wp2_with fail
   refine (rload_at a1 k c1 S.cache HL.out.symm wr HC.out (by omega) HWf.out.u64C).mono ?_
   rintro e w6 ⟨v6, rfl, hra6, hloc6, hb6⟩
   have h8 := HWf.out.lenD
   have hlo := HL.out
   rw [show (k + 7) / 8 = S.dirty.length by omega, show padTo S.cache (8 * S.dirty.length) = S.cache by unfold padTo; rw [show 8 * S.dirty.length - S.cache.length = 0 by omega]; simp, nowD_ref HWf.out] at hra6
   obtain ⟨an, cn, al, cl, aw, cw, ad, cd, ap, cp, rfl, hex⟩ := hra6.ex
   have HRA := LH hra6
   have HM6 := LH (HM1.out.later hb6)
   have HLoc : Hid (∀ b, RIn (.agg #[.slice an S.dirty.length cn, .slice al S.dirty.length cl, .slice aw S.dirty.length cw, .slice ad S.dirty.length cd, .slice ap S.dirty.length cp, .int .i64 (nowD S).ref.steps, .int .i64 (nowD S).ref.fuse, .bool (nowD S).ref.dead]) b → wr.heap.size ≤ b) := LH (by
    rintro b ⟨cs, hcs, i, x, n, c, hi, rfl⟩
    exact hloc6 cs hcs i x n c hi)
   have HWr := LH (show q + 2 ≤ wr.heap.size by have := HM1.out.glt 0 rfl; have := HM1.out.glt 1 rfl; omega)
   clear hra6 hloc6 hb6 hex hll h8 hlo
   generalize (nowD S).ref.steps = st at *
   generalize (nowD S).ref.fuse = fz at *
   generalize (nowD S).ref.dead = dd at *
   go_wp2_with (refine wpList_store_mem aggRd HM6.out 1 rfl rfl rfl rfl rfl rfl rfl rfl ?_; intro w8 h8 ht8; have H8 := LH h8; have HT8 := LH ht8; clear h8 ht8)
   refine bodyPost_ret (results_cell_row rfl _ _ _ _ _ _ _ rfl (H8.out.exact 1 rfl) Tryz.underlying59 rfl (by kernel_rfl)) rfl ?_
   refine HP.out _ _ (HRA.out.touch HT8.out (.inr (fun b hb hm => ?_))) (fun b hb => ?_) H8.out.below
   ·have := HLoc.out b hb
    have := HWr.out
    simp at hm; omega
   ·have := HLoc.out b hb
    have := HWr.out
    have := HQ.out
    omega
end Go.Proofs.YtbimcogdbafjpaaGreat
namespace Go.Proofs.YtbimcogdbafjpaaGreat
section
variable {ok : Nat → Prop} {P : Nat → List Nat} {f seen rest : List Nat}
end
structure Mk where
 ms : List Bool
 sc : List Bool
 st : List Nat
 most : Nat
 miss : Nat
 again : Bool
 cur : Nat
theorem getD_true_lt {l : List Bool} {a : Nat} (h : l.getD a false = true) : a < l.length := by
 apply Classical.byContradiction
 intro c
 rw [List.getD_eq_getElem?_getD, List.getElem?_eq_none (by omega)] at h
 cases h
section
variable {U : List Bool} {P : Nat → List Nat} {M : Mk}
end
end Go.Proofs.YtbimcogdbafjpaaGreat
