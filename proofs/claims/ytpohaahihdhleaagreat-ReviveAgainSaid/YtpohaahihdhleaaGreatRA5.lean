/- Parts of the proof, one behind the other: Lk, Ll, Lm, Ln, Mr, Lo, Lq, Lh, Lr, Lt, Lu. -/
import Derived.Test.YtpohaahihdhleaaGreatRA4
set_option linter.unusedVariables false
namespace Go.Proofs.YtpohaahihdhleaaGreat
open Go.RowKit
theorem equal16 (w : World) (xs ys : List Nat) (hx : xs.length = 16) (hy : ys.length = 16) : (Op.equalIn 10000 113 (.agg (xs.map vu64).toArray) (.agg (ys.map vu64).toArray)).run Tryz.prog w = .ok (decide (xs = ys)) w := by
 obtain ⟨i, hi⟩ := Option.isSome_iff_exists.1 infoU64
 have hn : ∀ l : List Nat, l.map vu64 = (l.map (fun n : Nat => (n : Int))).map (Value.int .u64) := by intro l; simp
 rw [show (10000 : Nat) = 9999 + 1 from rfl, run_equalIn_array w 9999 _ _ Tryz.underlying113 hi, cellsU64, show (9999 : Nat) = 9998 + 1 from rfl, hn xs, hn ys]
 obtain ⟨b, hb, hiff⟩ := run_eqItems_ints Tryz.underlying40 9998 w (xs.map (fun n : Nat => (n : Int))) (ys.map (fun n : Nat => (n : Int))) (List.range 16) (fun i hi => by simp at hi; simp; omega)
 rw [hb]
 have : b = decide (xs = ys) := by
  rw [Bool.eq_iff_iff, hiff, decide_eq_true_iff]
  constructor
  ·intro h
   apply List.ext_getElem (by rw [hx, hy])
   intro i h1 h2
   have := h i (by simp; omega)
   simp [h1, h2] at this
   omega
  ·rintro rfl; simp
 rw [this]
theorem sixteen_list {ws : List Nat} (h : ws.length = 16) : ∃ a0 a1 a2 a3 a4 a5 a6 a7 a8 a9 a10 a11 a12 a13 a14 a15, ws = [a0, a1, a2, a3, a4, a5, a6, a7, a8, a9, a10, a11, a12, a13, a14, a15] := by
 match ws, h with
 | [a0, a1, a2, a3, a4, a5, a6, a7, a8, a9, a10, a11, a12, a13, a14, a15], _ => exact ⟨a0, a1, a2, a3, a4, a5, a6, a7, a8, a9, a10, a11, a12, a13, a14, a15, rfl⟩
def capN (n : Nat) : Nat := min n 1099511627776
def slotRs (ws : List Nat) : List Int := [((capN (ws.getD 1 0) : Nat) : Int), ((capN (ws.getD 2 0) : Nat) : Int), ((capN (ws.getD 3 0) : Nat) : Int), ((capN (ws.getD 4 0) : Nat) : Int), ((capN (ws.getD 9 0) : Nat) : Int), ((capN (ws.getD 10 0) : Nat) : Int), ((capN (ws.getD 11 0) : Nat) : Int), ((capN (ws.getD 12 0) : Nat) : Int)]
def slotD (ws : List Nat) : Nat × List Int × Int :=
 if ws.getD 7 0 ≠ wordsN (ws.take 7) then (0, [0, 0, 0, 0, 0, 0, 0, 0], 25) else
 if ws.getD 15 0 ≠ wordsN ((ws.drop 8).take 7) then (0, [0, 0, 0, 0, 0, 0, 0, 0], 25) else
 if slotR (ws.getD 0 0) (slotRs ws) = true ∧ slotW (ws.getD 0 0) (slotRs ws) = ws then (ws.getD 0 0, slotRs ws, 0) else (0, [0, 0, 0, 0, 0, 0, 0, 0], 26)
def rowZ (f : Nat → Nat) (i : Nat) : List Value := (List.range 8).map (fun k => .int .i64 (if k < i then (f k : Int) else 0))
theorem rowZ_len (f : Nat → Nat) (i : Nat) : (rowZ f i).length = 8 := by simp [rowZ]
theorem rowZ_set (f : Nat → Nat) {i : Nat} (hi : i < 8) : (rowZ f i).set i (.int .i64 (f i : Int)) = rowZ f (i + 1) := by
 unfold rowZ
 apply List.ext_getElem?
 intro k
 rw [List.getElem?_set]
 simp only [List.getElem?_map, List.length_map, List.length_range]
 by_cases e : i = k
 ·subst e
  rw [if_pos rfl, if_pos hi, List.getElem?_eq_getElem (by simpa using hi), List.getElem_range]
  simp
 ·rw [if_neg e]
  by_cases h : k < 8
  ·rw [List.getElem?_eq_getElem (by simpa using h), List.getElem_range]
   by_cases h2 : k < i
   ·simp [h2, show k < i + 1 by omega]
   ·simp [h2, show ¬ k < i + 1 by omega]
  ·rw [List.getElem?_eq_none (by simp; omega)]; rfl
def SlD (r : Nat × List Int × Int) (w : World) : Ending → World → Prop := fun e w' => e = .returned (.tuple #[slotVal r.1 r.2.1, .int .i64 r.2.2]) ∧ Below w.heap.size w w'
set_option maxHeartbeats 8000000 in
set_option maxRecDepth 100000 in
theorem sldecode_any (ws : List Nat) (hl : ws.length = 16) (hu : ∀ z ∈ ws, z < 18446744073709551616) (w : World) :
  Calls Tryz.prog 140 #[arrW ws] w (SlD (slotD ws) w) := by
 have HP : Hid (∀ (n : Nat) (rs : List Int) (e : Int) w', (n, rs, e) = slotD ws → Below w.heap.size w w' → SlD (slotD ws) w (.returned (.tuple #[slotVal n rs, .int .i64 e])) w') := LH (fun n id e w' h1 h2 => by rw [← h1]; exact ⟨rfl, h2⟩)
 generalize hPo : SlD (slotD ws) w = Post at *
 clear hPo
 have hr' : ∀ i, ws.getD i 0 < 18446744073709551616 := fun i => by
  rw [List.getD_eq_getElem?_getD]
  cases h : ws[i]? with
  | none => simp
  | some x => exact hu x (List.mem_of_getElem? h)
 obtain ⟨a0, a1, a2, a3, a4, a5, a6, a7, a8, a9, a10, a11, a12, a13, a14, a15, rfl⟩ := sixteen_list hl
 obtain ⟨rs, hrs⟩ : ∃ rs, rs = slotRs [a0, a1, a2, a3, a4, a5, a6, a7, a8, a9, a10, a11, a12, a13, a14, a15] := ⟨_, rfl⟩
 have HRs : Hid (rs = [capN a1, capN a2, capN a3, capN a4, capN a9, capN a10, capN a11, capN a12].map (fun n : Nat => (n : Int))) := LH hrs
 have HU := LH hu
 have h0 : a0 < 18446744073709551616 := hr' 0
 have h1 : a1 < 18446744073709551616 := hr' 1
 have h2 : a2 < 18446744073709551616 := hr' 2
 have h3 : a3 < 18446744073709551616 := hr' 3
 have h4 : a4 < 18446744073709551616 := hr' 4
 have h5 : a5 < 18446744073709551616 := hr' 5
 have h6 : a6 < 18446744073709551616 := hr' 6
 have h7 : a7 < 18446744073709551616 := hr' 7
 have h8 : a8 < 18446744073709551616 := hr' 8
 have h9 : a9 < 18446744073709551616 := hr' 9
 have h10 : a10 < 18446744073709551616 := hr' 10
 have h11 : a11 < 18446744073709551616 := hr' 11
 have h12 : a12 < 18446744073709551616 := hr' 12
 have h13 : a13 < 18446744073709551616 := hr' 13
 have h14 : a14 < 18446744073709551616 := hr' 14
 have h15 : a15 < 18446744073709551616 := hr' 15
 have HD : Hid (slotD [a0, a1, a2, a3, a4, a5, a6, a7, a8, a9, a10, a11, a12, a13, a14, a15] = if a7 ≠ wordsN [a0, a1, a2, a3, a4, a5, a6] then (0, [0, 0, 0, 0, 0, 0, 0, 0], 25) else if a15 ≠ wordsN [a8, a9, a10, a11, a12, a13, a14] then (0, [0, 0, 0, 0, 0, 0, 0, 0], 25) else if slotR a0 rs = true ∧ slotW a0 rs = [a0, a1, a2, a3, a4, a5, a6, a7, a8, a9, a10, a11, a12, a13, a14, a15] then (a0, rs, 0) else (0, [0, 0, 0, 0, 0, 0, 0, 0], 26)) := LH (by rw [hrs]; rfl)
 rw [HD.out] at HP
 clear hu hl hrs hr' HD
 rw [show arrW [a0, a1, a2, a3, a4, a5, a6, a7, a8, a9, a10, a11, a12, a13, a14, a15] = .agg #[vu64 a0, vu64 a1, vu64 a2, vu64 a3, vu64 a4, vu64 a5, vu64 a6, vu64 a7, vu64 a8, vu64 a9, vu64 a10, vu64 a11, vu64 a12, vu64 a13, vu64 a14, vu64 a15] from rfl]
 have HM := LH (Mem.two w #[vu64 a0, vu64 a1, vu64 a2, vu64 a3, vu64 a4, vu64 a5, vu64 a6, vu64 a7, vu64 a8, vu64 a9, vu64 a10, vu64 a11, vu64 a12, vu64 a13, vu64 a14, vu64 a15] 113 #[.int .u64 0, .int .i64 0, .int .i64 0, .int .i64 0, .int .i64 0, .int .i64 0, .int .i64 0, .int .i64 0, .int .i64 0] 154)
 go_enter Tryz.func140, Tryz.ntmps140
 go_upto_region 1 with fail
 obtain ⟨q1, hq1⟩ : ∃ q, q = w.heap.size := ⟨_, rfl⟩
 obtain ⟨q2, hq2⟩ : ∃ q, q = w.heap.size + 1 := ⟨_, rfl⟩
 rw [← hq2, ← hq1] at HM ⊢
 generalize (w.alloc _).alloc _ = w1 at *
 clear hq1 hq2
 have HM1 : Hid (Mem w w1 [⟨q1, 113, [a0, a1, a2, a3, a4, a5, a6, a7, a8, a9, a10, a11, a12, a13, a14, a15].map vu64, true⟩, ⟨q2, 154, [.int .u64 0, .int .i64 0, .int .i64 0, .int .i64 0, .int .i64 0, .int .i64 0, .int .i64 0, .int .i64 0, .int .i64 0], true⟩]) := LH (by simpa using HM.out)
 clear HM
 go_wp2_with fail
 go_loopw [8] (fun iv wr => ∃ n : Nat, n ≤ 2 ∧ iv = .int .i64 (n : Int) ∧ Hid (1 ≤ n → a7 = wordsN [a0, a1, a2, a3, a4, a5, a6]) ∧ Hid (2 ≤ n → a15 = wordsN [a8, a9, a10, a11, a12, a13, a14]) ∧ Hid (Mem w wr [⟨q1, 113, [a0, a1, a2, a3, a4, a5, a6, a7, a8, a9, a10, a11, a12, a13, a14, a15].map vu64, true⟩, ⟨q2, 154, [.int .u64 0, .int .i64 0, .int .i64 0, .int .i64 0, .int .i64 0, .int .i64 0, .int .i64 0, .int .i64 0, .int .i64 0], true⟩])) (fun iv _ => 2 - (intOf iv).toNat)
 case atStart => exact ⟨0, by omega, rfl, LH (fun h => by omega), LH (fun h => by omega), HM1⟩
 case round =>
  obtain ⟨n, hn, rfl, H7, H15, HM⟩ := hrel
  rcases (by omega : n = 0 ∨ n = 1 ∨ n = 2) with rfl | rfl | rfl
  ·rw [show ((0 : Nat) : Int) = 0 from rfl]
   have d7 := HM.out.cell 0 7 rfl rfl
   go_upto_region 5 with fail
   have r7 := fun x => later_cell d7 x
   clear d7
   refine wp_region_seg (C := fun w' => ∃ x : Later (wr), w' = x.val) [.fl [0, 1, 2, 3, 4], .sq [5] true, .fl [6], .sq [7] false] (by kernel_rfl) (by kernel_rfl) (by intro c a d v w h; cases d <;> exact h) ?_
   simp only [segs, picks, List.getElem?_cons_succ, List.getElem?_cons_zero]
   have hC1 := later_drew (wr)
   refine wpSeg_fl hC1 ?_
   repeat (first | go_big_quiet_step (fail) | quiet_step (fail))
   refine wpQuiet_nil ?_
   have HMa := LH (HM.out.later (later_below hC1))
   clear r7
   refine wpSeg_sq (fun K hK => ?_)
   go_wp2_with fail
   refine (crcWords_any (some ⟨q1, 0, none⟩) 16 [a0, a1, a2, a3, a4, a5, a6] rfl _ (by simpa using (((HMa.out.at 0 rfl).cells).drop 0).take 7) (fun z hz => HU.out z (List.mem_of_mem_take (List.mem_of_mem_drop (l := List.take 7 [a0, a1, a2, a3, a4, a5, a6, a7, a8, a9, a10, a11, a12, a13, a14, a15]) (i := 0) (by simpa using hz)))) (by simp)).mono ?_
   rintro e w2 ⟨rfl, hb2⟩
   have hC2 := later_step hC1 hb2
   have HM2 := LH (HMa.out.later hb2)
   have hlt := wordsN_lt [a0, a1, a2, a3, a4, a5, a6]
   obtain ⟨cr, hcr⟩ : ∃ cr, cr = wordsN [a0, a1, a2, a3, a4, a5, a6] := ⟨_, rfl⟩
   rw [← hcr] at hlt ⊢
   have HCr := LH hcr
   clear hb2 hcr HMa
   go_wp2_with fail
   refine hK _ _ (fun _ => hC2) ?_
   clear hK K
   refine wpSeg_fl hC2 ?_
   repeat (first | go_big_quiet_step (fail) | quiet_step (fail))
   refine wpQuiet_nil ?_
   clear hC1 hC2
   by_cases e7 : a7 = cr
   case neg =>
    have e7' : ((a7 : Int) == (cr : Int)) = false := by rw [beq_eq_false_iff_ne]; omega
    have HF := LH (fun w' h => HP.out 0 [0, 0, 0, 0, 0, 0, 0, 0] 25 w' (by rw [if_pos (by rw [← HCr.out]; exact e7)]) h)
    clear e7
    refine wpSeg_last ?_
    go_wp2_with (refine wpList_store_mem aggSl HM2.out 1 rfl rfl rfl rfl rfl rfl rfl rfl ?_; intro w6 h6 ht6; have H6 := LH h6; clear h6 ht6)
    refine bodyPost_ret (results_cell_row2 (p := 2) (u := 3) rfl _ _ _ _ _ _ _ rfl (H6.out.exact 1 rfl) Tryz.underlying154 rfl (by kernel_rfl)) rfl ?_
    exact HF.out _ H6.out.below
   have e7' : ((a7 : Int) == (cr : Int)) = true := by rw [beq_iff_eq, e7]
   have HE7 : Hid (a7 = wordsN [a0, a1, a2, a3, a4, a5, a6]) := LH (by rw [← HCr.out]; exact e7)
   clear e7
   refine wpSeg_last ?_
   go_wp2_with fail
   exact ⟨⟨1, by omega, rfl, LH (fun _ => HE7.out), LH (fun h => by omega), HM2⟩, by simp [intOf]⟩
  ·rw [show ((1 : Nat) : Int) = 1 from rfl]
   have d7 := HM.out.cell 0 15 rfl rfl
   go_upto_region 5 with fail
   have r7 := fun x => later_cell d7 x
   clear d7
   refine wp_region_seg (C := fun w' => ∃ x : Later (wr), w' = x.val) [.fl [0, 1, 2, 3, 4], .sq [5] true, .fl [6], .sq [7] false] (by kernel_rfl) (by kernel_rfl) (by intro c a d v w h; cases d <;> exact h) ?_
   simp only [segs, picks, List.getElem?_cons_succ, List.getElem?_cons_zero]
   have hC1 := later_drew (wr)
   refine wpSeg_fl hC1 ?_
   repeat (first | go_big_quiet_step (fail) | quiet_step (fail))
   refine wpQuiet_nil ?_
   have HMa := LH (HM.out.later (later_below hC1))
   clear r7
   refine wpSeg_sq (fun K hK => ?_)
   go_wp2_with fail
   refine (crcWords_any (some ⟨q1, 8, none⟩) 8 [a8, a9, a10, a11, a12, a13, a14] rfl _ (by simpa using (((HMa.out.at 0 rfl).cells).drop 8).take 7) (fun z hz => HU.out z (List.mem_of_mem_take (List.mem_of_mem_drop (l := List.take 15 [a0, a1, a2, a3, a4, a5, a6, a7, a8, a9, a10, a11, a12, a13, a14, a15]) (i := 8) (by simpa using hz)))) (by simp)).mono ?_
   rintro e w2 ⟨rfl, hb2⟩
   have hC2 := later_step hC1 hb2
   have HM2 := LH (HMa.out.later hb2)
   have hlt := wordsN_lt [a8, a9, a10, a11, a12, a13, a14]
   obtain ⟨cr, hcr⟩ : ∃ cr, cr = wordsN [a8, a9, a10, a11, a12, a13, a14] := ⟨_, rfl⟩
   rw [← hcr] at hlt ⊢
   have HCr := LH hcr
   clear hb2 hcr HMa
   go_wp2_with fail
   refine hK _ _ (fun _ => hC2) ?_
   clear hK K
   refine wpSeg_fl hC2 ?_
   repeat (first | go_big_quiet_step (fail) | quiet_step (fail))
   refine wpQuiet_nil ?_
   clear hC1 hC2
   by_cases e7 : a15 = cr
   case neg =>
    have e7' : ((a15 : Int) == (cr : Int)) = false := by rw [beq_eq_false_iff_ne]; omega
    have HH7 := LH (H7.out (by omega))
    have HF := LH (fun w' h => HP.out 0 [0, 0, 0, 0, 0, 0, 0, 0] 25 w' (by rw [if_neg (by rw [← HH7.out]; simp), if_pos (by rw [← HCr.out]; exact e7)]) h)
    clear e7
    refine wpSeg_last ?_
    go_wp2_with (refine wpList_store_mem aggSl HM2.out 1 rfl rfl rfl rfl rfl rfl rfl rfl ?_; intro w6 h6 ht6; have H6 := LH h6; clear h6 ht6)
    refine bodyPost_ret (results_cell_row2 (p := 2) (u := 3) rfl _ _ _ _ _ _ _ rfl (H6.out.exact 1 rfl) Tryz.underlying154 rfl (by kernel_rfl)) rfl ?_
    exact HF.out _ H6.out.below
   have e7' : ((a15 : Int) == (cr : Int)) = true := by rw [beq_iff_eq, e7]
   have HE7 : Hid (a15 = wordsN [a8, a9, a10, a11, a12, a13, a14]) := LH (by rw [← HCr.out]; exact e7)
   clear e7
   refine wpSeg_last ?_
   go_wp2_with fail
   exact ⟨⟨2, by omega, rfl, LH (fun _ => H7.out (by omega)), LH (fun _ => HE7.out), HM2⟩, by simp [intOf]⟩
  ·rw [show ((2 : Nat) : Int) = 2 from rfl]
   have H7 := LH (H7.out (by omega))
   have H15 := LH (H15.out (by omega))
   have HP2 : Hid (∀ (n : Nat) (rs' : List Int) (e : Int) w', (n, rs', e) = (if slotR a0 rs = true ∧ slotW a0 rs = [a0, a1, a2, a3, a4, a5, a6, a7, a8, a9, a10, a11, a12, a13, a14, a15] then (a0, rs, 0) else (0, [0, 0, 0, 0, 0, 0, 0, 0], 26)) → Below w.heap.size w w' → Post (.returned (.tuple #[slotVal n rs', .int .i64 e])) w') := LH (fun n rs' e w' h1 h2 => HP.out n rs' e w' (by rw [if_neg (show ¬ (a7 ≠ wordsN [a0, a1, a2, a3, a4, a5, a6]) from fun e => e H7.out), if_neg (show ¬ (a15 ≠ wordsN [a8, a9, a10, a11, a12, a13, a14]) from fun e => e H15.out)]; exact h1) h2)
   clear H7 H15 HP
   obtain ⟨f, hf⟩ : ∃ f : Nat → Nat, f = fun k => [capN a1, capN a2, capN a3, capN a4, capN a9, capN a10, capN a11, capN a12].getD k 0 := ⟨_, rfl⟩
   have f0 : f 0 = capN a1 := by rw [hf]; rfl
   have f1 : f 1 = capN a2 := by rw [hf]; rfl
   have f2 : f 2 = capN a3 := by rw [hf]; rfl
   have f3 : f 3 = capN a4 := by rw [hf]; rfl
   have f4 : f 4 = capN a9 := by rw [hf]; rfl
   have f5 : f 5 = capN a10 := by rw [hf]; rfl
   have f6 : f 6 = capN a11 := by rw [hf]; rfl
   have f7 : f 7 = capN a12 := by rw [hf]; rfl
   have HAll : Hid (rowZ f 8 = rs.map (Value.int .i64)) := LH (by rw [HRs.out, hf]; rfl)
   have HLr : Hid (rs.length = 8) := LH (by rw [HRs.out]; rfl)
   clear hf HRs
   have e0 := HM.out.cell 0 0 rfl rfl
   have HM2 : Hid (Mem w (wr.alloc (.cells #[vu64 a0, .int .i64 0, .int .i64 0, .int .i64 0, .int .i64 0, .int .i64 0, .int .i64 0, .int .i64 0, .int .i64 0] 154)) [⟨q1, 113, [a0, a1, a2, a3, a4, a5, a6, a7, a8, a9, a10, a11, a12, a13, a14, a15].map vu64, true⟩, ⟨q2, 154, [.int .u64 0, .int .i64 0, .int .i64 0, .int .i64 0, .int .i64 0, .int .i64 0, .int .i64 0, .int .i64 0, .int .i64 0], true⟩, ⟨wr.heap.size, 154, vu64 a0 :: rowZ f 0, true⟩]) := LH (HM.out.alloc #[vu64 a0, .int .i64 0, .int .i64 0, .int .i64 0, .int .i64 0, .int .i64 0, .int .i64 0, .int .i64 0, .int .i64 0] 154)
   go_upto_region 9 with fail
   obtain ⟨q4, hq4⟩ : ∃ q, q = wr.heap.size := ⟨_, rfl⟩
   rw [← hq4] at HM2 ⊢
   generalize wr.alloc _ = wa at *
   clear hq4 e0 HM
   go_wp2_with fail
   go_loopw [30] (fun iv wr => ∃ i : Nat, i ≤ 8 ∧ iv = .int .i64 (i : Int) ∧ Hid (Mem w wr [⟨q1, 113, [a0, a1, a2, a3, a4, a5, a6, a7, a8, a9, a10, a11, a12, a13, a14, a15].map vu64, true⟩, ⟨q2, 154, [.int .u64 0, .int .i64 0, .int .i64 0, .int .i64 0, .int .i64 0, .int .i64 0, .int .i64 0, .int .i64 0, .int .i64 0], true⟩, ⟨q4, 154, vu64 a0 :: rowZ f i, true⟩])) (fun iv _ => 8 - (intOf iv).toNat)
   case atStart => exact ⟨0, by omega, rfl, HM2⟩
   case round =>
    obtain ⟨i, hi, rfl, HM⟩ := hrel
    rcases (by omega : i = 0 ∨ i = 1 ∨ i = 2 ∨ i = 3 ∨ i = 4 ∨ i = 5 ∨ i = 6 ∨ i = 7 ∨ i = 8) with rfl | rfl | rfl | rfl | rfl | rfl | rfl | rfl | rfl
    ·rw [show ((0 : Nat) : Int) = 0 from rfl]
     have c1 := HM.out.cell 0 1 rfl rfl
     obtain ⟨m, hm⟩ : ∃ m : Nat, m = capN a1 := ⟨_, rfl⟩
     have hmn : (if (1099511627776 : Int) < (a1 : Int) then 1099511627776 else (a1 : Int)) = (m : Int) := by rw [hm]; unfold capN; omega
     have hmz : min (a1 : Int) 1099511627776 = (m : Int) := by rw [hm]; unfold capN; omega
     have hm9 : m ≤ 1099511627776 := by rw [hm]; unfold capN; omega
     obtain ⟨u, hu⟩ : ∃ u, (vu64 a0 :: rowZ f 0)[1]? = some u := ⟨_, List.getElem?_eq_getElem (by rw [List.length_cons, rowZ_len]; omega)⟩
     have c2 : wr.cell? ⟨q4, 1, none⟩ = some u := HM.out.cell 2 1 rfl hu
     have k2 := HM.out.frozen 2 1 rfl
     have HS : Hid (Mem w (wr.setCell ⟨q4, 1, none⟩ (.int .i64 (m : Int))) [⟨q1, 113, [a0, a1, a2, a3, a4, a5, a6, a7, a8, a9, a10, a11, a12, a13, a14, a15].map vu64, true⟩, ⟨q2, 154, [.int .u64 0, .int .i64 0, .int .i64 0, .int .i64 0, .int .i64 0, .int .i64 0, .int .i64 0, .int .i64 0, .int .i64 0], true⟩, ⟨q4, 154, vu64 a0 :: rowZ f 1, true⟩]) := LH (by
      have := HM.out.set 2 1 (.int .i64 (m : Int)) rfl (by rw [List.length_cons, rowZ_len]; omega)
      rw [← rowZ_set f (by omega : 0 < 8), f0, ← hm]
      exact this)
     clear hu hm
     go_wp2_with fail
     exact ⟨⟨1, by omega, rfl, HS⟩, by simp [intOf]⟩
    ·rw [show ((1 : Nat) : Int) = 1 from rfl]
     have c1 := HM.out.cell 0 2 rfl rfl
     obtain ⟨m, hm⟩ : ∃ m : Nat, m = capN a2 := ⟨_, rfl⟩
     have hmn : (if (1099511627776 : Int) < (a2 : Int) then 1099511627776 else (a2 : Int)) = (m : Int) := by rw [hm]; unfold capN; omega
     have hmz : min (a2 : Int) 1099511627776 = (m : Int) := by rw [hm]; unfold capN; omega
     have hm9 : m ≤ 1099511627776 := by rw [hm]; unfold capN; omega
     obtain ⟨u, hu⟩ : ∃ u, (vu64 a0 :: rowZ f 1)[2]? = some u := ⟨_, List.getElem?_eq_getElem (by rw [List.length_cons, rowZ_len]; omega)⟩
     have c2 : wr.cell? ⟨q4, 2, none⟩ = some u := HM.out.cell 2 2 rfl hu
     have k2 := HM.out.frozen 2 2 rfl
     have HS : Hid (Mem w (wr.setCell ⟨q4, 2, none⟩ (.int .i64 (m : Int))) [⟨q1, 113, [a0, a1, a2, a3, a4, a5, a6, a7, a8, a9, a10, a11, a12, a13, a14, a15].map vu64, true⟩, ⟨q2, 154, [.int .u64 0, .int .i64 0, .int .i64 0, .int .i64 0, .int .i64 0, .int .i64 0, .int .i64 0, .int .i64 0, .int .i64 0], true⟩, ⟨q4, 154, vu64 a0 :: rowZ f 2, true⟩]) := LH (by
      have := HM.out.set 2 2 (.int .i64 (m : Int)) rfl (by rw [List.length_cons, rowZ_len]; omega)
      rw [← rowZ_set f (by omega : 1 < 8), f1, ← hm]
      exact this)
     clear hu hm
     go_wp2_with fail
     exact ⟨⟨2, by omega, rfl, HS⟩, by simp [intOf]⟩
    ·rw [show ((2 : Nat) : Int) = 2 from rfl]
     have c1 := HM.out.cell 0 3 rfl rfl
     obtain ⟨m, hm⟩ : ∃ m : Nat, m = capN a3 := ⟨_, rfl⟩
     have hmn : (if (1099511627776 : Int) < (a3 : Int) then 1099511627776 else (a3 : Int)) = (m : Int) := by rw [hm]; unfold capN; omega
     have hmz : min (a3 : Int) 1099511627776 = (m : Int) := by rw [hm]; unfold capN; omega
     have hm9 : m ≤ 1099511627776 := by rw [hm]; unfold capN; omega
     obtain ⟨u, hu⟩ : ∃ u, (vu64 a0 :: rowZ f 2)[3]? = some u := ⟨_, List.getElem?_eq_getElem (by rw [List.length_cons, rowZ_len]; omega)⟩
     have c2 : wr.cell? ⟨q4, 3, none⟩ = some u := HM.out.cell 2 3 rfl hu
     have k2 := HM.out.frozen 2 3 rfl
     have HS : Hid (Mem w (wr.setCell ⟨q4, 3, none⟩ (.int .i64 (m : Int))) [⟨q1, 113, [a0, a1, a2, a3, a4, a5, a6, a7, a8, a9, a10, a11, a12, a13, a14, a15].map vu64, true⟩, ⟨q2, 154, [.int .u64 0, .int .i64 0, .int .i64 0, .int .i64 0, .int .i64 0, .int .i64 0, .int .i64 0, .int .i64 0, .int .i64 0], true⟩, ⟨q4, 154, vu64 a0 :: rowZ f 3, true⟩]) := LH (by
      have := HM.out.set 2 3 (.int .i64 (m : Int)) rfl (by rw [List.length_cons, rowZ_len]; omega)
      rw [← rowZ_set f (by omega : 2 < 8), f2, ← hm]
      exact this)
     clear hu hm
     go_wp2_with fail
     exact ⟨⟨3, by omega, rfl, HS⟩, by simp [intOf]⟩
    ·rw [show ((3 : Nat) : Int) = 3 from rfl]
     have c1 := HM.out.cell 0 4 rfl rfl
     obtain ⟨m, hm⟩ : ∃ m : Nat, m = capN a4 := ⟨_, rfl⟩
     have hmn : (if (1099511627776 : Int) < (a4 : Int) then 1099511627776 else (a4 : Int)) = (m : Int) := by rw [hm]; unfold capN; omega
     have hmz : min (a4 : Int) 1099511627776 = (m : Int) := by rw [hm]; unfold capN; omega
     have hm9 : m ≤ 1099511627776 := by rw [hm]; unfold capN; omega
     obtain ⟨u, hu⟩ : ∃ u, (vu64 a0 :: rowZ f 3)[4]? = some u := ⟨_, List.getElem?_eq_getElem (by rw [List.length_cons, rowZ_len]; omega)⟩
     have c2 : wr.cell? ⟨q4, 4, none⟩ = some u := HM.out.cell 2 4 rfl hu
     have k2 := HM.out.frozen 2 4 rfl
     have HS : Hid (Mem w (wr.setCell ⟨q4, 4, none⟩ (.int .i64 (m : Int))) [⟨q1, 113, [a0, a1, a2, a3, a4, a5, a6, a7, a8, a9, a10, a11, a12, a13, a14, a15].map vu64, true⟩, ⟨q2, 154, [.int .u64 0, .int .i64 0, .int .i64 0, .int .i64 0, .int .i64 0, .int .i64 0, .int .i64 0, .int .i64 0, .int .i64 0], true⟩, ⟨q4, 154, vu64 a0 :: rowZ f 4, true⟩]) := LH (by
      have := HM.out.set 2 4 (.int .i64 (m : Int)) rfl (by rw [List.length_cons, rowZ_len]; omega)
      rw [← rowZ_set f (by omega : 3 < 8), f3, ← hm]
      exact this)
     clear hu hm
     go_wp2_with fail
     exact ⟨⟨4, by omega, rfl, HS⟩, by simp [intOf]⟩
    ·rw [show ((4 : Nat) : Int) = 4 from rfl]
     have c1 := HM.out.cell 0 9 rfl rfl
     obtain ⟨m, hm⟩ : ∃ m : Nat, m = capN a9 := ⟨_, rfl⟩
     have hmn : (if (1099511627776 : Int) < (a9 : Int) then 1099511627776 else (a9 : Int)) = (m : Int) := by rw [hm]; unfold capN; omega
     have hmz : min (a9 : Int) 1099511627776 = (m : Int) := by rw [hm]; unfold capN; omega
     have hm9 : m ≤ 1099511627776 := by rw [hm]; unfold capN; omega
     obtain ⟨u, hu⟩ : ∃ u, (vu64 a0 :: rowZ f 4)[5]? = some u := ⟨_, List.getElem?_eq_getElem (by rw [List.length_cons, rowZ_len]; omega)⟩
     have c2 : wr.cell? ⟨q4, 5, none⟩ = some u := HM.out.cell 2 5 rfl hu
     have k2 := HM.out.frozen 2 5 rfl
     have HS : Hid (Mem w (wr.setCell ⟨q4, 5, none⟩ (.int .i64 (m : Int))) [⟨q1, 113, [a0, a1, a2, a3, a4, a5, a6, a7, a8, a9, a10, a11, a12, a13, a14, a15].map vu64, true⟩, ⟨q2, 154, [.int .u64 0, .int .i64 0, .int .i64 0, .int .i64 0, .int .i64 0, .int .i64 0, .int .i64 0, .int .i64 0, .int .i64 0], true⟩, ⟨q4, 154, vu64 a0 :: rowZ f 5, true⟩]) := LH (by
      have := HM.out.set 2 5 (.int .i64 (m : Int)) rfl (by rw [List.length_cons, rowZ_len]; omega)
      rw [← rowZ_set f (by omega : 4 < 8), f4, ← hm]
      exact this)
     clear hu hm
     go_wp2_with fail
     exact ⟨⟨5, by omega, rfl, HS⟩, by simp [intOf]⟩
    ·rw [show ((5 : Nat) : Int) = 5 from rfl]
     have c1 := HM.out.cell 0 10 rfl rfl
     obtain ⟨m, hm⟩ : ∃ m : Nat, m = capN a10 := ⟨_, rfl⟩
     have hmn : (if (1099511627776 : Int) < (a10 : Int) then 1099511627776 else (a10 : Int)) = (m : Int) := by rw [hm]; unfold capN; omega
     have hmz : min (a10 : Int) 1099511627776 = (m : Int) := by rw [hm]; unfold capN; omega
     have hm9 : m ≤ 1099511627776 := by rw [hm]; unfold capN; omega
     obtain ⟨u, hu⟩ : ∃ u, (vu64 a0 :: rowZ f 5)[6]? = some u := ⟨_, List.getElem?_eq_getElem (by rw [List.length_cons, rowZ_len]; omega)⟩
     have c2 : wr.cell? ⟨q4, 6, none⟩ = some u := HM.out.cell 2 6 rfl hu
     have k2 := HM.out.frozen 2 6 rfl
     have HS : Hid (Mem w (wr.setCell ⟨q4, 6, none⟩ (.int .i64 (m : Int))) [⟨q1, 113, [a0, a1, a2, a3, a4, a5, a6, a7, a8, a9, a10, a11, a12, a13, a14, a15].map vu64, true⟩, ⟨q2, 154, [.int .u64 0, .int .i64 0, .int .i64 0, .int .i64 0, .int .i64 0, .int .i64 0, .int .i64 0, .int .i64 0, .int .i64 0], true⟩, ⟨q4, 154, vu64 a0 :: rowZ f 6, true⟩]) := LH (by
      have := HM.out.set 2 6 (.int .i64 (m : Int)) rfl (by rw [List.length_cons, rowZ_len]; omega)
      rw [← rowZ_set f (by omega : 5 < 8), f5, ← hm]
      exact this)
     clear hu hm
     go_wp2_with fail
     exact ⟨⟨6, by omega, rfl, HS⟩, by simp [intOf]⟩
    ·rw [show ((6 : Nat) : Int) = 6 from rfl]
     have c1 := HM.out.cell 0 11 rfl rfl
     obtain ⟨m, hm⟩ : ∃ m : Nat, m = capN a11 := ⟨_, rfl⟩
     have hmn : (if (1099511627776 : Int) < (a11 : Int) then 1099511627776 else (a11 : Int)) = (m : Int) := by rw [hm]; unfold capN; omega
     have hmz : min (a11 : Int) 1099511627776 = (m : Int) := by rw [hm]; unfold capN; omega
     have hm9 : m ≤ 1099511627776 := by rw [hm]; unfold capN; omega
     obtain ⟨u, hu⟩ : ∃ u, (vu64 a0 :: rowZ f 6)[7]? = some u := ⟨_, List.getElem?_eq_getElem (by rw [List.length_cons, rowZ_len]; omega)⟩
     have c2 : wr.cell? ⟨q4, 7, none⟩ = some u := HM.out.cell 2 7 rfl hu
     have k2 := HM.out.frozen 2 7 rfl
     have HS : Hid (Mem w (wr.setCell ⟨q4, 7, none⟩ (.int .i64 (m : Int))) [⟨q1, 113, [a0, a1, a2, a3, a4, a5, a6, a7, a8, a9, a10, a11, a12, a13, a14, a15].map vu64, true⟩, ⟨q2, 154, [.int .u64 0, .int .i64 0, .int .i64 0, .int .i64 0, .int .i64 0, .int .i64 0, .int .i64 0, .int .i64 0, .int .i64 0], true⟩, ⟨q4, 154, vu64 a0 :: rowZ f 7, true⟩]) := LH (by
      have := HM.out.set 2 7 (.int .i64 (m : Int)) rfl (by rw [List.length_cons, rowZ_len]; omega)
      rw [← rowZ_set f (by omega : 6 < 8), f6, ← hm]
      exact this)
     clear hu hm
     go_wp2_with fail
     exact ⟨⟨7, by omega, rfl, HS⟩, by simp [intOf]⟩
    ·rw [show ((7 : Nat) : Int) = 7 from rfl]
     have c1 := HM.out.cell 0 12 rfl rfl
     obtain ⟨m, hm⟩ : ∃ m : Nat, m = capN a12 := ⟨_, rfl⟩
     have hmn : (if (1099511627776 : Int) < (a12 : Int) then 1099511627776 else (a12 : Int)) = (m : Int) := by rw [hm]; unfold capN; omega
     have hmz : min (a12 : Int) 1099511627776 = (m : Int) := by rw [hm]; unfold capN; omega
     have hm9 : m ≤ 1099511627776 := by rw [hm]; unfold capN; omega
     obtain ⟨u, hu⟩ : ∃ u, (vu64 a0 :: rowZ f 7)[8]? = some u := ⟨_, List.getElem?_eq_getElem (by rw [List.length_cons, rowZ_len]; omega)⟩
     have c2 : wr.cell? ⟨q4, 8, none⟩ = some u := HM.out.cell 2 8 rfl hu
     have k2 := HM.out.frozen 2 8 rfl
     have HS : Hid (Mem w (wr.setCell ⟨q4, 8, none⟩ (.int .i64 (m : Int))) [⟨q1, 113, [a0, a1, a2, a3, a4, a5, a6, a7, a8, a9, a10, a11, a12, a13, a14, a15].map vu64, true⟩, ⟨q2, 154, [.int .u64 0, .int .i64 0, .int .i64 0, .int .i64 0, .int .i64 0, .int .i64 0, .int .i64 0, .int .i64 0, .int .i64 0], true⟩, ⟨q4, 154, vu64 a0 :: rowZ f 8, true⟩]) := LH (by
      have := HM.out.set 2 8 (.int .i64 (m : Int)) rfl (by rw [List.length_cons, rowZ_len]; omega)
      rw [← rowZ_set f (by omega : 7 < 8), f7, ← hm]
      exact this)
     clear hu hm
     go_wp2_with fail
     exact ⟨⟨8, by omega, rfl, HS⟩, by simp [intOf]⟩
    ·rw [show ((8 : Nat) : Int) = 8 from rfl]
     rw [HAll.out] at HM
     clear f0 f1 f2 f3 f4 f5 f6 f7 HAll
     obtain ⟨r0, r1, r2, r3, r4, r5, r6, r7, rfl⟩ := eight_ints HLr.out
     rw [show [r0, r1, r2, r3, r4, r5, r6, r7].map (Value.int .i64) = [.int .i64 r0, .int .i64 r1, .int .i64 r2, .int .i64 r3, .int .i64 r4, .int .i64 r5, .int .i64 r6, .int .i64 r7] from rfl] at HM
     have HRt := LH (fun w => slright_any a0 [r0, r1, r2, r3, r4, r5, r6, r7] rfl h0 w)
     have HEn := LH (fun w => slencode_any a0 [r0, r1, r2, r3, r4, r5, r6, r7] rfl h0 w)
     have hsv : slotVal a0 [r0, r1, r2, r3, r4, r5, r6, r7] = .agg #[vu64 a0, .int .i64 r0, .int .i64 r1, .int .i64 r2, .int .i64 r3, .int .i64 r4, .int .i64 r5, .int .i64 r6, .int .i64 r7] := rfl
     rw [hsv] at HRt HEn
     obtain ⟨sw, hsw⟩ : ∃ sw, sw = slotW a0 [r0, r1, r2, r3, r4, r5, r6, r7] := ⟨_, rfl⟩
     have hlw : sw.length = 16 := by rw [hsw]; exact slotW_len _ _
     unfold SlPost at HEn
     rw [← hsw] at HEn HP2
     clear hsv HLr hsw
     obtain ⟨b0, b1, b2, b3, b4, b5, b6, b7, b8, b9, b10, b11, b12, b13, b14, b15, rfl⟩ := sixteen_list hlw
     clear hlw
     rw [show arrW [b0, b1, b2, b3, b4, b5, b6, b7, b8, b9, b10, b11, b12, b13, b14, b15] = .agg #[vu64 b0, vu64 b1, vu64 b2, vu64 b3, vu64 b4, vu64 b5, vu64 b6, vu64 b7, vu64 b8, vu64 b9, vu64 b10, vu64 b11, vu64 b12, vu64 b13, vu64 b14, vu64 b15] from rfl] at HEn
     have e0 := HM.out.cell 2 0 rfl rfl
     have e1 := HM.out.cell 2 1 rfl rfl
     have e2 := HM.out.cell 2 2 rfl rfl
     have e3 := HM.out.cell 2 3 rfl rfl
     have e4 := HM.out.cell 2 4 rfl rfl
     have e5 := HM.out.cell 2 5 rfl rfl
     have e6 := HM.out.cell 2 6 rfl rfl
     have e7 := HM.out.cell 2 7 rfl rfl
     have e8 := HM.out.cell 2 8 rfl rfl
     have g0 := HM.out.cell 0 0 rfl rfl
     have g1 := HM.out.cell 0 1 rfl rfl
     have g2 := HM.out.cell 0 2 rfl rfl
     have g3 := HM.out.cell 0 3 rfl rfl
     have g4 := HM.out.cell 0 4 rfl rfl
     have g5 := HM.out.cell 0 5 rfl rfl
     have g6 := HM.out.cell 0 6 rfl rfl
     have g7 := HM.out.cell 0 7 rfl rfl
     have g8 := HM.out.cell 0 8 rfl rfl
     have g9 := HM.out.cell 0 9 rfl rfl
     have g10 := HM.out.cell 0 10 rfl rfl
     have g11 := HM.out.cell 0 11 rfl rfl
     have g12 := HM.out.cell 0 12 rfl rfl
     have g13 := HM.out.cell 0 13 rfl rfl
     have g14 := HM.out.cell 0 14 rfl rfl
     have g15 := HM.out.cell 0 15 rfl rfl
     go_upto_region 14 with fail
     have re0 := fun x => later_cell e0 x
     have re1 := fun x => later_cell e1 x
     have re2 := fun x => later_cell e2 x
     have re3 := fun x => later_cell e3 x
     have re4 := fun x => later_cell e4 x
     have re5 := fun x => later_cell e5 x
     have re6 := fun x => later_cell e6 x
     have re7 := fun x => later_cell e7 x
     have re8 := fun x => later_cell e8 x
     have rg0 := fun x => later_cell g0 x
     have rg1 := fun x => later_cell g1 x
     have rg2 := fun x => later_cell g2 x
     have rg3 := fun x => later_cell g3 x
     have rg4 := fun x => later_cell g4 x
     have rg5 := fun x => later_cell g5 x
     have rg6 := fun x => later_cell g6 x
     have rg7 := fun x => later_cell g7 x
     have rg8 := fun x => later_cell g8 x
     have rg9 := fun x => later_cell g9 x
     have rg10 := fun x => later_cell g10 x
     have rg11 := fun x => later_cell g11 x
     have rg12 := fun x => later_cell g12 x
     have rg13 := fun x => later_cell g13 x
     have rg14 := fun x => later_cell g14 x
     have rg15 := fun x => later_cell g15 x
     by_cases hr : slotR a0 [r0, r1, r2, r3, r4, r5, r6, r7] = true
     case neg =>
      have hrf : slotR a0 [r0, r1, r2, r3, r4, r5, r6, r7] = false := by simpa using hr
      rw [hrf] at HRt
      have HF := LH (fun w' h => HP2.out 0 [0, 0, 0, 0, 0, 0, 0, 0] 26 w' (by rw [if_neg (fun hh => hr hh.1)]) h)
      clear hr re0 re1 re2 re3 re4 re5 re6 re7 re8 rg0 rg1 rg2 rg3 rg4 rg5 rg6 rg7 rg8 rg9 rg10 rg11 rg12 rg13 rg14 rg15 g0 g1 g2 g3 g4 g5 g6 g7 g8 g9 g10 g11 g12 g13 g14 g15
      refine wp_region_seg (C := fun w' => ∃ x : Later (wr), w' = x.val) [.sq [0, 1, 2, 3] false, .fl [4, 6], .sq [5] true, .sq [7, 8] false] (by kernel_rfl) (by kernel_rfl) (by intro c a d v w h; cases d <;> exact h) ?_
      simp only [segs, picks, List.getElem?_cons_succ, List.getElem?_cons_zero]
      have hC1 := later_drew (wr)
      refine wpSeg_sq (fun K hK => ?_)
      go_wp2_with fail
      refine (HRt.out _).mono ?_
      rintro e w5 ⟨rfl, hb5⟩
      have hC2 := later_step hC1 hb5
      have HM5 := LH (HM.out.later (later_below hC2))
      clear hb5 e0 e1 e2 e3 e4 e5 e6 e7 e8
      go_wp2_with fail
      refine hK _ _ (fun h => nomatch h) ?_
      clear hK K
      refine wpSeg_fl hC2 ?_
      repeat (first | go_big_quiet_step (fail) | quiet_step (fail))
      refine wpQuiet_nil ?_
      refine wpSeg_sq (fun K hK => ?_)
      go_wp2_with fail
      go_wp2_with fail
      refine hK _ _ (fun _ => hC2) ?_
      clear hK K
      clear hC1 hC2
      refine wpSeg_last ?_
      go_wp2_with (refine wpList_store_mem aggSl HM5.out 1 rfl rfl rfl rfl rfl rfl rfl rfl ?_; intro w6 h6 ht6; have H6 := LH h6; clear h6 ht6)
      refine bodyPost_ret (results_cell_row2 (p := 2) (u := 3) rfl _ _ _ _ _ _ _ rfl (H6.out.exact 1 rfl) Tryz.underlying154 rfl (by kernel_rfl)) rfl ?_
      exact HF.out _ H6.out.below
     rw [hr] at HRt
     have heq : ∀ w', (Op.equalIn 10000 113 (.agg #[vu64 b0, vu64 b1, vu64 b2, vu64 b3, vu64 b4, vu64 b5, vu64 b6, vu64 b7, vu64 b8, vu64 b9, vu64 b10, vu64 b11, vu64 b12, vu64 b13, vu64 b14, vu64 b15]) (.agg #[vu64 a0, vu64 a1, vu64 a2, vu64 a3, vu64 a4, vu64 a5, vu64 a6, vu64 a7, vu64 a8, vu64 a9, vu64 a10, vu64 a11, vu64 a12, vu64 a13, vu64 a14, vu64 a15])).run Tryz.prog w' = .ok (decide ([b0, b1, b2, b3, b4, b5, b6, b7, b8, b9, b10, b11, b12, b13, b14, b15] = [a0, a1, a2, a3, a4, a5, a6, a7, a8, a9, a10, a11, a12, a13, a14, a15])) w' := fun w' => equal16 w' [b0, b1, b2, b3, b4, b5, b6, b7, b8, b9, b10, b11, b12, b13, b14, b15] [a0, a1, a2, a3, a4, a5, a6, a7, a8, a9, a10, a11, a12, a13, a14, a15] rfl rfl
     clear g0 g1 g2 g3 g4 g5 g6 g7 g8 g9 g10 g11 g12 g13 g14 g15
     refine wp_region_seg (C := fun w' => ∃ x : Later (wr), w' = x.val) [.sq [0, 1, 2, 3] false, .fl [4, 6], .sq [5] true, .sq [7, 8] false] (by kernel_rfl) (by kernel_rfl) (by intro c a d v w h; cases d <;> exact h) ?_
     simp only [segs, picks, List.getElem?_cons_succ, List.getElem?_cons_zero]
     have hC1 := later_drew (wr)
     refine wpSeg_sq (fun K hK => ?_)
     go_wp2_with fail
     refine (HRt.out _).mono ?_
     rintro e w5 ⟨rfl, hb5⟩
     have hC2 := later_step hC1 hb5
     clear hb5 e0 e1 e2 e3 e4 e5 e6 e7 e8
     go_wp2_with fail
     refine hK _ _ (fun h => nomatch h) ?_
     clear hK K
     refine wpSeg_fl hC2 ?_
     repeat (first | go_big_quiet_step (fail) | quiet_step (fail))
     refine wpQuiet_nil ?_
     clear re0 re1 re2 re3 re4 re5 re6 re7 re8 rg0 rg1 rg2 rg3 rg4 rg5 rg6 rg7 rg8 rg9 rg10 rg11 rg12 rg13 rg14 rg15
     refine wpSeg_sq (fun K hK => ?_)
     go_wp2_with fail
     refine (HEn.out _).mono ?_
     rintro e w6 ⟨rfl, hb6⟩
     have hC3 := later_step hC2 hb6
     have HM6 := LH (HM.out.later (later_below hC3))
     clear hb6
     go_wp2_with fail
     refine hK _ _ (fun _ => hC3) ?_
     clear hK K
     clear hC1 hC2 hC3
     by_cases hs : [b0, b1, b2, b3, b4, b5, b6, b7, b8, b9, b10, b11, b12, b13, b14, b15] = [a0, a1, a2, a3, a4, a5, a6, a7, a8, a9, a10, a11, a12, a13, a14, a15]
     ·rw [decide_eq_true hs] at heq
      have HF2 := LH (fun w' h => HP2.out a0 [r0, r1, r2, r3, r4, r5, r6, r7] 0 w' (by rw [if_pos ⟨hr, hs⟩]) h)
      clear hs hr
      refine wpSeg_last ?_
      go_wp2_with (first | (refine wpList_load_mem aggSl HM6.out 2 rfl rfl rfl rfl rfl ?_) | (refine wpList_store_mem aggSl HM6.out 1 rfl rfl rfl rfl rfl rfl rfl rfl ?_; intro w6 h6 ht6; have H6 := LH h6; clear h6 ht6))
      refine bodyPost_ret (results_cell_row2 (p := 2) (u := 3) rfl _ _ _ _ _ _ _ rfl (H6.out.exact 1 rfl) Tryz.underlying154 rfl (by kernel_rfl)) rfl ?_
      exact HF2.out _ H6.out.below
     ·rw [decide_eq_false hs] at heq
      have HF2 := LH (fun w' h => HP2.out 0 [0, 0, 0, 0, 0, 0, 0, 0] 26 w' (by rw [if_neg (fun hh => hs hh.2)]) h)
      clear hs hr
      refine wpSeg_last ?_
      go_wp2_with (refine wpList_store_mem aggSl HM6.out 1 rfl rfl rfl rfl rfl rfl rfl rfl ?_; intro w6 h6 ht6; have H6 := LH h6; clear h6 ht6)
      refine bodyPost_ret (results_cell_row2 (p := 2) (u := 3) rfl _ _ _ _ _ _ _ rfl (H6.out.exact 1 rfl) Tryz.underlying154 rfl (by kernel_rfl)) rfl ?_
      exact HF2.out _ H6.out.below
theorem results_sl3 {P : Program} {fn : Func} {p s u : Tmp} {ty : TypeId} (h : fn.results = #[.cell p ty, .tmp s, .tmp u]) (tmps : Array Value) (w : World) (g : Nat) (t : TypeId) (cs : Array Value) (fr : Nat × Nat) (d : TypeDesc)
  (hp : tmps.getD p undef = .pointer (some ⟨g, 0, none⟩)) (hg : w.heap[g]? = some (.cells cs t fr))
  (hu : P.underlying ty = some d) (hd : (match d with | .struct _ | .array _ _ => true | _ => false) = true) (hi : (P.info? ty).map (·.size) = some cs.size) :
  (results fn tmps).run P w = .ok (.tuple #[.agg cs, tmps.getD s undef, tmps.getD u undef]) w := by
 have hp' : tmps[p]?.getD undef = .pointer (some ⟨g, 0, none⟩) := by simpa using hp
 simp [results, h, hp', asAddr, run_loadVar_row w g t ty cs fr d hg hu hd hi]
theorem slotD_ok (ws : List Nat) (hu : ∀ z ∈ ws, z < 18446744073709551616) : (slotD ws).1 < 18446744073709551616 ∧ (slotD ws).2.1.length = 8 ∧ 0 ≤ (slotD ws).2.2 ∧ (slotD ws).2.2 ≤ 100 := by
 have h0 : ws.getD 0 0 < 18446744073709551616 := by
  rw [List.getD_eq_getElem?_getD]
  cases h : ws[0]? with
  | none => simp
  | some x => exact hu x (List.mem_of_getElem? h)
 unfold slotD
 split
 ·simp
 ·split
  ·simp
  ·split
   ·exact ⟨h0, rfl, by simp, by simp⟩
   ·simp
def slotC (x y : Nat × List Int × Int) : Nat × List Int × Int × Bool :=
 if x.2.2 = 0 ∧ (y.2.2 ≠ 0 ∨ y.1 ≤ x.1) then (x.1, x.2.1, 0, true) else
 if y.2.2 = 0 then (y.1, y.2.1, 1, true) else (0, [0, 0, 0, 0, 0, 0, 0, 0], 0, false)
def SlC (r : Nat × List Int × Int × Bool) (w : World) : Ending → World → Prop := fun e w' => e = .returned (.tuple #[slotVal r.1 r.2.1, .int .i64 r.2.2.1, .bool r.2.2.2]) ∧ Below w.heap.size w w'
set_option maxHeartbeats 8000000 in
set_option maxRecDepth 100000 in
theorem slchoose_any (as1 bs1 : List Nat) (hla : as1.length = 16) (hlb : bs1.length = 16) (hua : ∀ z ∈ as1, z < 18446744073709551616) (hub : ∀ z ∈ bs1, z < 18446744073709551616) (w : World) :
  Calls Tryz.prog 91 #[arrW as1, arrW bs1] w (SlC (slotC (slotD as1) (slotD bs1)) w) := by
 obtain ⟨⟨ex, rx, cx⟩, hx⟩ : ∃ r, r = slotD as1 := ⟨_, rfl⟩
 obtain ⟨⟨ey, ry, cy⟩, hy⟩ : ∃ r, r = slotD bs1 := ⟨_, rfl⟩
 have ox := slotD_ok as1 hua
 have oy := slotD_ok bs1 hub
 have HDa := LH (fun w => sldecode_any as1 hla hua w)
 have HDb := LH (fun w => sldecode_any bs1 hlb hub w)
 rw [← hx] at ox HDa ⊢
 rw [← hy] at oy HDb ⊢
 obtain ⟨hex, hrx, hcx0, hcx1⟩ := ox
 obtain ⟨hey, hry, hcy0, hcy1⟩ := oy
 simp only [] at hex hrx hcx0 hcx1 hey hry hcy0 hcy1
 clear hx hy hua hub
 have HP : Hid (∀ (n : Nat) (rs : List Int) (i : Int) (b : Bool) w', (n, rs, i, b) = slotC (ex, rx, cx) (ey, ry, cy) → Below w.heap.size w w' → SlC (slotC (ex, rx, cx) (ey, ry, cy)) w (.returned (.tuple #[slotVal n rs, .int .i64 i, .bool b])) w') := LH (fun n id i b w' h1 h2 => by rw [← h1]; exact ⟨rfl, h2⟩)
 generalize hPo : SlC (slotC (ex, rx, cx) (ey, ry, cy)) w = Post at *
 clear hPo
 have HX : Hid (∀ w', cx = 0 → (cy ≠ 0 ∨ ey ≤ ex) → Below w.heap.size w w' → Post (.returned (.tuple #[slotVal ex rx, .int .i64 0, .bool true])) w') := LH (fun w' h1 h2 h3 => HP.out _ _ _ _ w' (by unfold slotC; rw [if_pos ⟨h1, h2⟩]) h3)
 have HY : Hid (∀ w', ¬ (cx = 0 ∧ (cy ≠ 0 ∨ ey ≤ ex)) → cy = 0 → Below w.heap.size w w' → Post (.returned (.tuple #[slotVal ey ry, .int .i64 1, .bool true])) w') := LH (fun w' h1 h2 h3 => HP.out _ _ _ _ w' (by unfold slotC; rw [if_neg h1, if_pos h2]) h3)
 have HZ : Hid (∀ w', ¬ (cx = 0 ∧ (cy ≠ 0 ∨ ey ≤ ex)) → cy ≠ 0 → Below w.heap.size w w' → Post (.returned (.tuple #[slotVal 0 [0, 0, 0, 0, 0, 0, 0, 0], .int .i64 0, .bool false])) w') := LH (fun w' h1 h2 h3 => HP.out _ _ _ _ w' (by unfold slotC; rw [if_neg h1, if_neg h2]) h3)
 clear HP
 obtain ⟨x0, x1, x2, x3, x4, x5, x6, x7, rfl⟩ := eight_ints hrx
 obtain ⟨y0, y1, y2, y3, y4, y5, y6, y7, rfl⟩ := eight_ints hry
 obtain ⟨a0, a1, a2, a3, a4, a5, a6, a7, a8, a9, a10, a11, a12, a13, a14, a15, rfl⟩ := sixteen_list hla
 obtain ⟨b0, b1, b2, b3, b4, b5, b6, b7, b8, b9, b10, b11, b12, b13, b14, b15, rfl⟩ := sixteen_list hlb
 clear hrx hry hla hlb
 rw [show arrW [a0, a1, a2, a3, a4, a5, a6, a7, a8, a9, a10, a11, a12, a13, a14, a15] = .agg #[vu64 a0, vu64 a1, vu64 a2, vu64 a3, vu64 a4, vu64 a5, vu64 a6, vu64 a7, vu64 a8, vu64 a9, vu64 a10, vu64 a11, vu64 a12, vu64 a13, vu64 a14, vu64 a15] from rfl] at HDa ⊢
 rw [show arrW [b0, b1, b2, b3, b4, b5, b6, b7, b8, b9, b10, b11, b12, b13, b14, b15] = .agg #[vu64 b0, vu64 b1, vu64 b2, vu64 b3, vu64 b4, vu64 b5, vu64 b6, vu64 b7, vu64 b8, vu64 b9, vu64 b10, vu64 b11, vu64 b12, vu64 b13, vu64 b14, vu64 b15] from rfl] at HDb ⊢
 unfold SlD at HDa HDb
 rw [show slotVal (ex, [x0, x1, x2, x3, x4, x5, x6, x7], cx).1 (ex, [x0, x1, x2, x3, x4, x5, x6, x7], cx).2.1 = .agg #[vu64 ex, .int .i64 x0, .int .i64 x1, .int .i64 x2, .int .i64 x3, .int .i64 x4, .int .i64 x5, .int .i64 x6, .int .i64 x7] from rfl] at HDa
 rw [show slotVal (ey, [y0, y1, y2, y3, y4, y5, y6, y7], cy).1 (ey, [y0, y1, y2, y3, y4, y5, y6, y7], cy).2.1 = .agg #[vu64 ey, .int .i64 y0, .int .i64 y1, .int .i64 y2, .int .i64 y3, .int .i64 y4, .int .i64 y5, .int .i64 y6, .int .i64 y7] from rfl] at HDb
 rw [show slotVal ex [x0, x1, x2, x3, x4, x5, x6, x7] = .agg #[vu64 ex, .int .i64 x0, .int .i64 x1, .int .i64 x2, .int .i64 x3, .int .i64 x4, .int .i64 x5, .int .i64 x6, .int .i64 x7] from rfl] at HX
 rw [show slotVal ey [y0, y1, y2, y3, y4, y5, y6, y7] = .agg #[vu64 ey, .int .i64 y0, .int .i64 y1, .int .i64 y2, .int .i64 y3, .int .i64 y4, .int .i64 y5, .int .i64 y6, .int .i64 y7] from rfl] at HY
 rw [show slotVal 0 [0, 0, 0, 0, 0, 0, 0, 0] = .agg #[.int .u64 0, .int .i64 0, .int .i64 0, .int .i64 0, .int .i64 0, .int .i64 0, .int .i64 0, .int .i64 0, .int .i64 0] from rfl] at HZ
 have HM := LH ((Mem.two w #[vu64 a0, vu64 a1, vu64 a2, vu64 a3, vu64 a4, vu64 a5, vu64 a6, vu64 a7, vu64 a8, vu64 a9, vu64 a10, vu64 a11, vu64 a12, vu64 a13, vu64 a14, vu64 a15] 113 #[vu64 b0, vu64 b1, vu64 b2, vu64 b3, vu64 b4, vu64 b5, vu64 b6, vu64 b7, vu64 b8, vu64 b9, vu64 b10, vu64 b11, vu64 b12, vu64 b13, vu64 b14, vu64 b15] 113).alloc #[.int .u64 0, .int .i64 0, .int .i64 0, .int .i64 0, .int .i64 0, .int .i64 0, .int .i64 0, .int .i64 0, .int .i64 0] 154)
 go_enter Tryz.func91, Tryz.ntmps91
 go_upto_region 1 with fail
 obtain ⟨q1, hq1⟩ : ∃ q, q = w.heap.size := ⟨_, rfl⟩
 obtain ⟨q2, hq2⟩ : ∃ q, q = w.heap.size + 1 := ⟨_, rfl⟩
 obtain ⟨q3, hq3⟩ : ∃ q, q = w.heap.size + 1 + 1 := ⟨_, rfl⟩
 simp only [World.size_alloc] at HM
 rw [← hq3, ← hq2, ← hq1] at HM ⊢
 generalize ((w.alloc _).alloc _).alloc _ = w1 at *
 clear hq1 hq2 hq3
 have HM1 : Hid (Mem w w1 [⟨q1, 113, [vu64 a0, vu64 a1, vu64 a2, vu64 a3, vu64 a4, vu64 a5, vu64 a6, vu64 a7, vu64 a8, vu64 a9, vu64 a10, vu64 a11, vu64 a12, vu64 a13, vu64 a14, vu64 a15], true⟩, ⟨q2, 113, [vu64 b0, vu64 b1, vu64 b2, vu64 b3, vu64 b4, vu64 b5, vu64 b6, vu64 b7, vu64 b8, vu64 b9, vu64 b10, vu64 b11, vu64 b12, vu64 b13, vu64 b14, vu64 b15], true⟩, ⟨q3, 154, [.int .u64 0, .int .i64 0, .int .i64 0, .int .i64 0, .int .i64 0, .int .i64 0, .int .i64 0, .int .i64 0, .int .i64 0], true⟩]) := LH (by simpa using HM.out)
 clear HM
 go_wp2_with (refine wpList_load_mem agg16 HM1.out 0 rfl rfl rfl rfl rfl ?_)
 refine (HDa.out _).mono ?_
 rintro e w2 ⟨rfl, hb2⟩
 have HM2 := LH (HM1.out.later hb2)
 have HM3 := LH (HM2.out.alloc #[vu64 ex, .int .i64 x0, .int .i64 x1, .int .i64 x2, .int .i64 x3, .int .i64 x4, .int .i64 x5, .int .i64 x6, .int .i64 x7] 154)
 clear hb2 HM1
 go_upto_region 2 with fail
 obtain ⟨q5, hq5⟩ : ∃ q, q = w2.heap.size := ⟨_, rfl⟩
 rw [← hq5] at HM3 ⊢
 generalize w2.alloc _ = w3 at *
 clear hq5 HM2
 have HM3' : Hid (Mem w w3 [⟨q1, 113, [vu64 a0, vu64 a1, vu64 a2, vu64 a3, vu64 a4, vu64 a5, vu64 a6, vu64 a7, vu64 a8, vu64 a9, vu64 a10, vu64 a11, vu64 a12, vu64 a13, vu64 a14, vu64 a15], true⟩, ⟨q2, 113, [vu64 b0, vu64 b1, vu64 b2, vu64 b3, vu64 b4, vu64 b5, vu64 b6, vu64 b7, vu64 b8, vu64 b9, vu64 b10, vu64 b11, vu64 b12, vu64 b13, vu64 b14, vu64 b15], true⟩, ⟨q3, 154, [.int .u64 0, .int .i64 0, .int .i64 0, .int .i64 0, .int .i64 0, .int .i64 0, .int .i64 0, .int .i64 0, .int .i64 0], true⟩, ⟨q5, 154, [vu64 ex, .int .i64 x0, .int .i64 x1, .int .i64 x2, .int .i64 x3, .int .i64 x4, .int .i64 x5, .int .i64 x6, .int .i64 x7], true⟩]) := LH (by simpa using HM3.out)
 clear HM3
 go_wp2_with (refine wpList_load_mem agg16 HM3'.out 1 rfl rfl rfl rfl rfl ?_)
 refine (HDb.out _).mono ?_
 rintro e w4 ⟨rfl, hb4⟩
 have HM4 := LH (HM3'.out.later hb4)
 have HM5 := LH (HM4.out.alloc #[vu64 ey, .int .i64 y0, .int .i64 y1, .int .i64 y2, .int .i64 y3, .int .i64 y4, .int .i64 y5, .int .i64 y6, .int .i64 y7] 154)
 clear hb4 HM3'
 go_upto_region 3 with fail
 obtain ⟨q6, hq6⟩ : ∃ q, q = w4.heap.size := ⟨_, rfl⟩
 rw [← hq6] at HM5 ⊢
 generalize w4.alloc _ = w5 at *
 clear hq6 HM4
 have HM6 : Hid (Mem w w5 [⟨q1, 113, [vu64 a0, vu64 a1, vu64 a2, vu64 a3, vu64 a4, vu64 a5, vu64 a6, vu64 a7, vu64 a8, vu64 a9, vu64 a10, vu64 a11, vu64 a12, vu64 a13, vu64 a14, vu64 a15], true⟩, ⟨q2, 113, [vu64 b0, vu64 b1, vu64 b2, vu64 b3, vu64 b4, vu64 b5, vu64 b6, vu64 b7, vu64 b8, vu64 b9, vu64 b10, vu64 b11, vu64 b12, vu64 b13, vu64 b14, vu64 b15], true⟩, ⟨q3, 154, [.int .u64 0, .int .i64 0, .int .i64 0, .int .i64 0, .int .i64 0, .int .i64 0, .int .i64 0, .int .i64 0, .int .i64 0], true⟩, ⟨q5, 154, [vu64 ex, .int .i64 x0, .int .i64 x1, .int .i64 x2, .int .i64 x3, .int .i64 x4, .int .i64 x5, .int .i64 x6, .int .i64 x7], true⟩, ⟨q6, 154, [vu64 ey, .int .i64 y0, .int .i64 y1, .int .i64 y2, .int .i64 y3, .int .i64 y4, .int .i64 y5, .int .i64 y6, .int .i64 y7], true⟩]) := LH (by simpa using HM5.out)
 clear HM5
 have cx0 := HM6.out.cell 3 0 rfl rfl
 have cy0 := HM6.out.cell 4 0 rfl rfl
 by_cases hx : cx = 0
 ·by_cases hy : cy = 0
  ·by_cases hg : ey ≤ ex
   ·have HF := LH (fun w' h => HX.out w' hx (.inr hg) h)
    subst hx hy
    have hgd : decide ((ey : Int) ≤ (ex : Int)) = true := by simp; exact hg
    go_wp2_with (first | (refine wpList_load_mem aggSl HM6.out 3 rfl rfl rfl rfl rfl ?_) | (refine wpList_store_mem aggSl HM6.out 2 rfl rfl rfl rfl rfl rfl rfl rfl ?_; intro w6 h6 ht6; have H6 := LH h6; clear h6 ht6))
    refine bodyPost_ret (results_sl3 (p := 4) (s := 5) (u := 6) rfl _ _ _ _ _ _ _ rfl (H6.out.exact 2 rfl) Tryz.underlying154 rfl (by kernel_rfl)) rfl ?_
    exact HF.out _ H6.out.below
   ·have HF := LH (fun w' h => HY.out w' (fun hh => hh.2.elim (fun h => h hy) hg) hy h)
    subst hx hy
    have hgd : decide ((ey : Int) ≤ (ex : Int)) = false := by simp; omega
    go_wp2_with (first | (refine wpList_load_mem aggSl HM6.out 4 rfl rfl rfl rfl rfl ?_) | (refine wpList_store_mem aggSl HM6.out 2 rfl rfl rfl rfl rfl rfl rfl rfl ?_; intro w6 h6 ht6; have H6 := LH h6; clear h6 ht6))
    refine bodyPost_ret (results_sl3 (p := 4) (s := 5) (u := 6) rfl _ _ _ _ _ _ _ rfl (H6.out.exact 2 rfl) Tryz.underlying154 rfl (by kernel_rfl)) rfl ?_
    exact HF.out _ H6.out.below
  ·have HF := LH (fun w' h => HX.out w' hx (.inl hy) h)
   subst hx
   have e1 : (cy == 0) = false := by rw [beq_eq_false_iff_ne]; exact hy
   have e2 : (cy != 0) = true := by rw [bne_iff_ne]; exact hy
   clear hy
   go_wp2_with (first | (refine wpList_load_mem aggSl HM6.out 3 rfl rfl rfl rfl rfl ?_) | (refine wpList_store_mem aggSl HM6.out 2 rfl rfl rfl rfl rfl rfl rfl rfl ?_; intro w6 h6 ht6; have H6 := LH h6; clear h6 ht6))
   refine bodyPost_ret (results_sl3 (p := 4) (s := 5) (u := 6) rfl _ _ _ _ _ _ _ rfl (H6.out.exact 2 rfl) Tryz.underlying154 rfl (by kernel_rfl)) rfl ?_
   exact HF.out _ H6.out.below
 ·have e3 : (cx == 0) = false := by rw [beq_eq_false_iff_ne]; exact hx
  by_cases hy : cy = 0
  ·have HF := LH (fun w' h => HY.out w' (fun hh => hx hh.1) hy h)
   subst hy
   clear hx
   go_wp2_with (first | (refine wpList_load_mem aggSl HM6.out 4 rfl rfl rfl rfl rfl ?_) | (refine wpList_store_mem aggSl HM6.out 2 rfl rfl rfl rfl rfl rfl rfl rfl ?_; intro w6 h6 ht6; have H6 := LH h6; clear h6 ht6))
   refine bodyPost_ret (results_sl3 (p := 4) (s := 5) (u := 6) rfl _ _ _ _ _ _ _ rfl (H6.out.exact 2 rfl) Tryz.underlying154 rfl (by kernel_rfl)) rfl ?_
   exact HF.out _ H6.out.below
  ·have HF := LH (fun w' h => HZ.out w' (fun hh => hx hh.1) hy h)
   have e1 : (cy == 0) = false := by rw [beq_eq_false_iff_ne]; exact hy
   clear hx hy
   go_wp2_with (first | (refine wpList_store_mem aggSl HM6.out 2 rfl rfl rfl rfl rfl rfl rfl rfl ?_; intro w6 h6 ht6; have H6 := LH h6; clear h6 ht6))
   refine bodyPost_ret (results_sl3 (p := 4) (s := 5) (u := 6) rfl _ _ _ _ _ _ _ rfl (H6.out.exact 2 rfl) Tryz.underlying154 rfl (by kernel_rfl)) rfl ?_
   exact HF.out _ H6.out.below
theorem owns_le {w : World} {B B' e size n : Nat} {v : Value} {xs : List Value} (h : w.ownsRow B e size v n xs) (hB : B' ≤ B) : w.ownsRow B' e size v n xs := by
 refine ⟨h.1, ?_⟩
 rcases h.2 with hn | ⟨g, cap, cur, rfl, h1, r⟩
 ·exact .inl hn
 ·exact .inr ⟨g, cap, cur, rfl, Nat.le_trans hB h1, r⟩
def lnP (ep : Nat) (ns : List Nat) (n k : Nat) : List Nat := ep :: (List.range k).map (fun j => ns.getD (4 * n + j) 0)
theorem lnP_next (ep : Nat) (ns : List Nat) (n k : Nat) : lnP ep ns n (k + 1) = lnP ep ns n k ++ [ns.getD (4 * n + k) 0] := by
 unfold lnP
 rw [List.range_succ, List.map_append]; rfl
theorem slotH_lt {ep : Nat} {ns : List Nat} {n : Nat} (hep : ep < 18446744073709551616) (hn : n ≤ 1) (hs : ∀ r ∈ ns, r < 131072) : ∀ z ∈ slotH ep ns n, z < 18446744073709551616 := by
 have hg : ∀ i, ns.getD i 0 < 131072 := fun i => by
  rw [List.getD_eq_getElem?_getD]
  cases h : ns[i]? with
  | none => simp
  | some x => exact hs x (List.mem_of_getElem? h)
 intro z hz
 unfold slotH at hz
 simp only [List.mem_cons, List.not_mem_nil, or_false] at hz
 have h0 := hg (4 * n)
 have h1 := hg (4 * n + 1)
 have h2 := hg (4 * n + 2)
 have h3 := hg (4 * n + 3)
 rcases hz with rfl | rfl | rfl | rfl | rfl | rfl | rfl <;> omega
def LnPost (ep : Nat) (ns : List Nat) (n : Nat) (w : World) : Ending → World → Prop := fun e w' => ∃ v, e = .returned v ∧ w'.ownsRow w.heap.size 40 1 v 8 ((slotLn ep ns n).map vu64) ∧ Below w.heap.size w w'
set_option maxHeartbeats 4000000 in
set_option maxRecDepth 100000 in
theorem rline_any (ep : Nat) (ns : List Nat) (n : Nat) (hl : ns.length = 8) (hn : n ≤ 1) (hep : ep < 18446744073709551616) (hs : ∀ r ∈ ns, r < 131072) (w : World) :
  Calls Tryz.prog 86 #[slotVal ep (ns.map (fun n : Nat => (n : Int))), .int .i64 (n : Int)] w (LnPost ep ns n w) := by
 have HP : Hid (∀ v w', w'.ownsRow w.heap.size 40 1 v 8 ((slotLn ep ns n).map vu64) → Below w.heap.size w w' → LnPost ep ns n w (.returned v) w') := LH (fun v w' h1 h2 => ⟨v, rfl, h1, h2⟩)
 generalize LnPost ep ns n w = Post at *
 have HHl := LH (slotH_lt hep hn hs)
 have HM := LH (Mem.one w (vu64 ep :: (ns.map (fun n : Nat => (n : Int))).map (Value.int .i64)).toArray 55)
 unfold slotVal
 have HNs : Hid (∀ k, k < 8 → ns.getD k 0 < 131072 ∧ (vu64 ep :: (ns.map (fun n : Nat => (n : Int))).map (Value.int .i64))[1 + k]? = some (.int .i64 ((ns.getD k 0 : Nat) : Int))) := LH (fun k hk => by
  have hk' : k < ns.length := by omega
  refine ⟨?_, ?_⟩
  ·rw [List.getD_eq_getElem?_getD, List.getElem?_eq_getElem hk']; exact hs _ (List.getElem_mem hk')
  ·rw [show 1 + k = k + 1 from by omega, List.getElem?_cons_succ]
   simp [List.getD_eq_getElem?_getD, List.getElem?_eq_getElem hk'])
 generalize hvs : (vu64 ep :: (ns.map (fun n : Nat => (n : Int))).map (Value.int .i64)) = vs at *
 have HV0 : Hid (vs[0]? = some (vu64 ep)) := LH (by rw [← hvs]; rfl)
 clear hvs hl hs
 go_enter Tryz.func86, Tryz.ntmps86
 go_upto_region 1 with fail
 obtain ⟨q, hq⟩ : ∃ q, q = w.heap.size := ⟨_, rfl⟩
 rw [← hq] at HM ⊢
 generalize w.alloc _ = w1 at *
 have HQ := LH hq
 clear hq
 have c0 : w1.cell? ⟨q, 0, none⟩ = some (vu64 ep) := HM.out.cell 0 0 rfl HV0.out
 have HO1 : Hid ((w1.alloc (.cells #[vu64 ep] 40)).ownsRow w1.heap.size 40 1 (.slice (some ⟨w1.heap.size, 0, none⟩) 1 1) 1 ((lnP ep ns n 0).map vu64)) :=
  LH ⟨rfl, .inr ⟨w1.heap.size, 1, #[vu64 ep], rfl, Nat.le_refl _, heap_alloc_new w1 _, Nat.le_refl _, (by decide), rfl, rfl⟩⟩
 have HB1 := LH (below_alloc w1 (.cells #[vu64 ep] 40))
 go_wp2_with fail
 go_loopw [5, 6] (fun v iv wr => ∃ k : Nat, k ≤ 4 ∧ iv = .int .i64 (k : Int) ∧ Hid (wr.ownsRow w1.heap.size 40 1 v (k + 1) ((lnP ep ns n k).map vu64)) ∧ Hid (Below w1.heap.size w1 wr)) (fun _ iv _ => 4 - (intOf iv).toNat)
 case atStart => exact ⟨0, by omega, rfl, HO1, HB1⟩
 case round =>
  obtain ⟨k, hk, rfl, HO, HB⟩ := hrel
  by_cases hlt : k < 4
  ·obtain ⟨hx, hxc⟩ := HNs.out (4 * n + k) (by omega)
   have c1 : wr.cell? ⟨q, 1 + (4 * n + k), none⟩ = some (.int .i64 ((ns.getD (4 * n + k) 0 : Nat) : Int)) := by
    rw [HB.out.cell (p := ⟨q, _, none⟩) (HM.out.glt 0 rfl)]
    exact HM.out.cell 0 _ rfl hxc
   clear hxc
   have HNx := LH (lnP_next ep ns n k)
   generalize ns.getD (4 * n + k) 0 = x at *
   have hlt' : (k : Int) < 4 := by omega
   have hsz := LH HB.out.size
   have hk9 : k + 1 < 1000000000000 := by omega
   go_wp2_with (at_builtin; refine wpList_append_one el64 HO.out rfl hk9 (by decide) hsz.out rfl rfl rfl rfl ?_; intro v' w2 ho2 hg2 _; have HO2 := LH ho2; have HG2 := LH hg2; clear ho2 hg2)
   refine ⟨⟨k + 1, by omega, vint (by omega), LH ?_, LH (below_grownBy HB.out HO.out HG2.out (Nat.le_refl _) (Nat.le_refl _))⟩, by simp [intOf]; omega⟩
   rw [HNx.out, List.map_append]
   exact HO2.out
  ·have hk4 : k = 4 := by omega
   subst hk4
   rw [show ((4 : Nat) : Int) = 4 from rfl]
   have HBa := LH (HB.out.trans ((below_alloc wr (.cells #[.int .u64 (n : Int), .int .u64 0] 40)).mono HB.out.size))
   have HOa := LH (HO.out.alloc (.cells #[.int .u64 (n : Int), .int .u64 0] 40))
   have HCa : Hid (Cells (wr.alloc (.cells #[.int .u64 (n : Int), .int .u64 0] 40)) (some ⟨wr.heap.size, 0, none⟩) [vu64 n, vu64 0]) := LH (RowAt.cells ⟨_, heap_alloc_new _ _, [], rfl⟩)
   have h1c : ∀ u ∈ [vu64 n, vu64 0], u.oneCell' = true := by intro u hu; simp only [List.mem_cons, List.not_mem_nil, or_false] at hu; rcases hu with rfl | rfl <;> rfl
   have H1c := LH h1c
   clear h1c
   have hba := LH HBa.out.size
   go_upto_region 7 with (at_builtin; refine wpList_append_cells (m := 2) (ys := [vu64 n, vu64 0]) el64 HOa.out HCa.out rfl H1c.out (by decide) (by decide) hba.out rfl rfl rfl rfl ?_; intro v2 w2 ho2 hg2 hv2; have HO2 := LH ho2; have HG2 := LH hg2; have HV2 := LH hv2; clear ho2 hg2 hv2)
   have HH : Hid ((lnP ep ns n 4).map vu64 ++ [vu64 n, vu64 0] = (slotH ep ns n).map vu64) := LH rfl
   have HO3 := HO2.out
   rw [HH.out] at HO3
   obtain ⟨g, c, rfl, h3, h4, h5, h6⟩ := owned_new HO3 (fun e => by have := (HV2.out e).2; simp at this)
   have HO4 := LH HO3
   have HB2 : Hid (Below w1.heap.size w1 w2) := LH (below_grownBy HBa.out HOa.out HG2.out (Nat.le_refl _) (Nat.le_refl _))
   have HC2 : Hid (Cells w2 (some ⟨g, 0, none⟩) ((slotH ep ns n).map vu64)) := LH h6.cells
   clear HO3 h3 h4 h5 h6 HV2 HO2 HOa HCa HBa HO HB HG2 hba
   go_wp2_with fail
   refine (rcrcWords_any (some ⟨g, 0, none⟩) c (slotH ep ns n) rfl w2 HC2.out HHl.out (by simp [slotH])).mono ?_
   rintro e w5 ⟨rfl, hb5⟩
   have hlt := wordsN_lt (slotH ep ns n)
   have HS : Hid ((slotLn ep ns n).map vu64 = (slotH ep ns n).map vu64 ++ [vu64 (wordsN (slotH ep ns n))]) := LH (by unfold slotLn; rw [List.map_append]; rfl)
   generalize wordsN (slotH ep ns n) = cr at *
   have HO5 := LH (owned_below HO4.out hb5 (Nat.le_refl _))
   have HB5 := LH (HB2.out.trans (hb5.mono HB2.out.size))
   have hb9 := LH HB5.out.size
   clear hb5
   go_wp2_with (at_builtin; refine wpList_append_one el64 HO5.out rfl (by decide) (by decide) hb9.out rfl rfl rfl rfl ?_; intro v' w6 ho6 hg6 _; have HO6 := LH ho6; have HG6 := LH hg6; clear ho6 hg6)
   have HB6 := LH (below_grownBy HB5.out HO5.out HG6.out (Nat.le_refl _) (Nat.le_refl _))
   have h9 := HO6.out
   rw [← HS.out] at h9
   exact HP.out _ _ (owns_le h9 (by rw [← HQ.out]; exact Nat.le_of_lt (HM.out.glt 0 rfl))) (HM.out.below.trans (HB6.out.mono HM.out.below.size))
theorem aggSr : Agg Tryz.prog 55 #[.int .u64 0, .int .i64 0, .int .i64 0, .int .i64 0, .int .i64 0, .int .i64 0, .int .i64 0, .int .i64 0, .int .i64 0] := ⟨⟨_, Tryz.underlying55, rfl⟩, by kernel_rfl⟩
theorem slotE_len (ep : Nat) (ns : List Nat) : (slotE ep ns).length = 16 := rfl
set_option maxHeartbeats 8000000 in
set_option maxRecDepth 100000 in
theorem rslencode_any (ep : Nat) (rs : List Int) (hl : rs.length = 8) (hep : ep < 18446744073709551616) (w : World) :
  Calls Tryz.prog 41 #[slotVal ep rs] w (SlPost ep rs w) := by
 have HP : Hid (∀ w', Below w.heap.size w w' → SlPost ep rs w (.returned (arrW (slotW ep rs))) w') := LH (fun w' h => ⟨rfl, h⟩)
 generalize hPo : SlPost ep rs w = Post at *
 clear hPo
 have HRt := LH (fun w => rslright_any ep rs hl hep w)
 have HNat := LH (fun (h : slotR ep rs = true) => slotR_nat h)
 have HWd : Hid (slotW ep rs = if slotR ep rs = true then slotE ep (rs.map Int.toNat) else List.replicate 16 0) := LH rfl
 obtain ⟨a0, a1, a2, a3, a4, a5, a6, a7, rfl⟩ := eight_ints hl
 have hsv : slotVal ep [a0, a1, a2, a3, a4, a5, a6, a7] = .agg #[vu64 ep, .int .i64 a0, .int .i64 a1, .int .i64 a2, .int .i64 a3, .int .i64 a4, .int .i64 a5, .int .i64 a6, .int .i64 a7] := rfl
 rw [hsv]
 rw [hsv] at HRt
 have HM := LH ((Mem.two w #[vu64 ep, .int .i64 a0, .int .i64 a1, .int .i64 a2, .int .i64 a3, .int .i64 a4, .int .i64 a5, .int .i64 a6, .int .i64 a7] 55 #[.int .u64 0, .int .u64 0, .int .u64 0, .int .u64 0, .int .u64 0, .int .u64 0, .int .u64 0, .int .u64 0, .int .u64 0, .int .u64 0, .int .u64 0, .int .u64 0, .int .u64 0, .int .u64 0, .int .u64 0, .int .u64 0] 113).alloc #[.int .u64 0, .int .u64 0, .int .u64 0, .int .u64 0, .int .u64 0, .int .u64 0, .int .u64 0, .int .u64 0, .int .u64 0, .int .u64 0, .int .u64 0, .int .u64 0, .int .u64 0, .int .u64 0, .int .u64 0, .int .u64 0] 113)
 clear hsv hl
 go_enter Tryz.func41, Tryz.ntmps41
 go_upto_region 2 with fail
 obtain ⟨q1, hq1⟩ : ∃ q, q = w.heap.size := ⟨_, rfl⟩
 obtain ⟨q2, hq2⟩ : ∃ q, q = w.heap.size + 1 := ⟨_, rfl⟩
 obtain ⟨q3, hq3⟩ : ∃ q, q = w.heap.size + 1 + 1 := ⟨_, rfl⟩
 simp only [World.size_alloc] at HM
 rw [← hq3, ← hq2, ← hq1] at HM ⊢
 generalize ((w.alloc _).alloc _).alloc _ = w1 at *
 clear hq1 hq2 hq3
 have HM0 : Hid (Mem w w1 [⟨q1, 55, [vu64 ep, .int .i64 a0, .int .i64 a1, .int .i64 a2, .int .i64 a3, .int .i64 a4, .int .i64 a5, .int .i64 a6, .int .i64 a7], true⟩, ⟨q2, 113, (List.replicate 16 0).map vu64, true⟩, ⟨q3, 113, (List.replicate 16 0).map vu64, true⟩]) := LH HM.out
 clear HM
 go_wp2_with (refine wpList_load_mem aggSr HM0.out 0 rfl rfl rfl rfl rfl ?_)
 refine (HRt.out w1).mono ?_
 rintro e w2 ⟨rfl, hb2⟩
 have HM2 := LH (HM0.out.later hb2)
 clear hb2 HM0
 by_cases hr : slotR ep [a0, a1, a2, a3, a4, a5, a6, a7] = true
 case neg =>
  have hrf : slotR ep [a0, a1, a2, a3, a4, a5, a6, a7] = false := by simpa using hr
  rw [hrf]
  have HF := LH (fun w' h => HP.out w' h)
  rw [HWd.out, if_neg hr] at HF
  clear hr
  go_wp2_with (first
   | (refine wpList_load_mem agg16 HM2.out 2 rfl rfl rfl rfl rfl ?_)
   | (refine wpList_store_mem agg16 HM2.out 1 rfl rfl rfl rfl rfl rfl rfl rfl ?_; intro w6 h6 ht6; have H6 := LH h6; clear h6 ht6))
  refine bodyPost_ret (results_cell_row (p := 2) rfl _ _ _ _ _ _ _ rfl (H6.out.exact 1 rfl) Tryz.underlying113 rfl (by kernel_rfl)) rfl ?_
  exact HF.out _ H6.out.below
 rw [hr]
 have HF := LH (fun w' h => HP.out w' h)
 rw [HWd.out, if_pos hr] at HF
 obtain ⟨n0, rfl, hn0⟩ := HNat.out hr a0 (by simp)
 obtain ⟨n1, rfl, hn1⟩ := HNat.out hr a1 (by simp)
 obtain ⟨n2, rfl, hn2⟩ := HNat.out hr a2 (by simp)
 obtain ⟨n3, rfl, hn3⟩ := HNat.out hr a3 (by simp)
 obtain ⟨n4, rfl, hn4⟩ := HNat.out hr a4 (by simp)
 obtain ⟨n5, rfl, hn5⟩ := HNat.out hr a5 (by simp)
 obtain ⟨n6, rfl, hn6⟩ := HNat.out hr a6 (by simp)
 obtain ⟨n7, rfl, hn7⟩ := HNat.out hr a7 (by simp)
 rw [show [(n0 : Int), n1, n2, n3, n4, n5, n6, n7].map Int.toNat = [n0, n1, n2, n3, n4, n5, n6, n7] from rfl] at HF
 obtain ⟨ns, hns⟩ : ∃ ns, ns = [n0, n1, n2, n3, n4, n5, n6, n7] := ⟨_, rfl⟩
 have hlt : ∀ r ∈ ns, r < 131072 := by
  intro r h
  rw [hns] at h
  simp only [List.mem_cons, List.not_mem_nil, or_false] at h
  rcases h with rfl | rfl | rfl | rfl | rfl | rfl | rfl | rfl <;> assumption
 have HL0 := LH (fun w => rline_any ep ns 0 (by rw [hns]; rfl) (by decide) hep hlt w)
 have HL1 := LH (fun w => rline_any ep ns 1 (by rw [hns]; rfl) (by decide) hep hlt w)
 have hsv : slotVal ep (ns.map (fun n : Nat => (n : Int))) = .agg #[vu64 ep, .int .i64 (n0 : Int), .int .i64 (n1 : Int), .int .i64 (n2 : Int), .int .i64 (n3 : Int), .int .i64 (n4 : Int), .int .i64 (n5 : Int), .int .i64 (n6 : Int), .int .i64 (n7 : Int)] := by rw [hns]; rfl
 rw [hsv] at HL0 HL1
 rw [← hns] at HF
 have hel := slotE_len ep ns
 have HEa : Hid ((slotLn ep ns 0).map vu64 ++ (slotLn ep ns 1).map vu64 = (slotE ep ns).map vu64) := LH (by unfold slotE; rw [List.map_append])
 generalize slotE ep ns = sE at *
 obtain ⟨f, hf⟩ : ∃ f : Nat → Nat, f = fun k => sE.getD k 0 := ⟨_, rfl⟩
 have HEl : Hid (sE.length = 16) := LH hel
 have HAll : Hid (rowN 16 f 16 = sE) := LH (by
  rw [rowN_all, hf]
  apply List.ext_getElem (by simp [hel])
  intro i h1 h2
  simp [List.getD_eq_getElem?_getD, h2])
 have HAt : Hid (∀ i, i < 16 → (sE.map vu64)[i]? = some (vu64 (f i))) := LH (fun i hi => by
  rw [hf, List.getElem?_map, List.getElem?_eq_getElem (by omega)]
  simp [List.getD_eq_getElem?_getD, show i < sE.length by omega])
 clear hf hel hsv hns hlt hr HWd HNat
 have e0 := HM2.out.cell 0 0 rfl rfl
 have e1 := HM2.out.cell 0 1 rfl rfl
 have e2 := HM2.out.cell 0 2 rfl rfl
 have e3 := HM2.out.cell 0 3 rfl rfl
 have e4 := HM2.out.cell 0 4 rfl rfl
 have e5 := HM2.out.cell 0 5 rfl rfl
 have e6 := HM2.out.cell 0 6 rfl rfl
 have e7 := HM2.out.cell 0 7 rfl rfl
 have e8 := HM2.out.cell 0 8 rfl rfl
 go_upto_region 3 with fail
 have re0 := fun x => later_cell e0 x
 have re1 := fun x => later_cell e1 x
 have re2 := fun x => later_cell e2 x
 have re3 := fun x => later_cell e3 x
 have re4 := fun x => later_cell e4 x
 have re5 := fun x => later_cell e5 x
 have re6 := fun x => later_cell e6 x
 have re7 := fun x => later_cell e7 x
 have re8 := fun x => later_cell e8 x
 refine wp_region_seg (C := fun w' => ∃ x : Later (w2), w' = x.val) [.fl [0, 2], .sq [1] true, .sq [3, 4, 5] false] (by kernel_rfl) (by kernel_rfl) (by intro c a d v w h; cases d <;> exact h) ?_
 simp only [segs, picks, List.getElem?_cons_succ, List.getElem?_cons_zero]
 have hC1 := later_drew (w2)
 refine wpSeg_fl hC1 ?_
 repeat (first | go_big_quiet_step (fail) | quiet_step (fail))
 refine wpQuiet_nil ?_
 clear re0 re1 re2 re3 re4 re5 re6 re7 re8 e0 e1 e2 e3 e4 e5 e6 e7 e8
 refine wpSeg_sq (fun K hK => ?_)
 go_wp2_with fail
 refine (HL0.out _).mono ?_
 rintro e w5 ⟨v0, rfl, ho0, hb5⟩
 have hC2 := later_step hC1 hb5
 have HO0 : Hid (w5.ownsRow w2.heap.size 40 1 v0 8 ((slotLn ep ns 0).map vu64)) := LH (owns_le ho0 (later_below hC1).size)
 have HMa := LH (HM2.out.later (later_below hC2))
 have HBa := LH (later_below hC2)
 clear hb5 ho0
 go_wp2_with fail
 refine hK _ _ (fun _ => hC2) ?_
 clear hK K
 clear hC1 hC2
 refine wpSeg_last ?_
 go_wp2_with fail
 refine (HL1.out _).mono ?_
 rintro e w6 ⟨v1, rfl, ho1, hb6⟩
 obtain ⟨a1, c1, rfl, _, _⟩ := owned_form ho1
 have HO1 := LH (owned_below HO0.out hb6 (Nat.le_refl _))
 have HC1 := LH (Cells.owned ho1)
 have HBb := LH (HBa.out.trans (hb6.mono HBa.out.size))
 have hsz := LH HBb.out.size
 have H1c : Hid (∀ u ∈ (slotLn ep ns 1).map vu64, u.oneCell' = true) := LH (one_cells _)
 clear hb6 ho1 HMa HO0 HBa
 go_wp2_with (at_builtin; refine wpList_append_cells (m := 8) el64 HO1.out HC1.out rfl H1c.out (by decide) (by decide) hsz.out rfl rfl rfl rfl ?_; intro v2 w7 ho2 hg2 hv2; have HO2 := LH ho2; have HG2 := LH hg2; have HV2 := LH hv2; clear ho2 hg2 hv2)
 have ho9 := HO2.out
 rw [HEa.out] at ho9
 obtain ⟨g, c, rfl, h3, h4, h5, h6⟩ := owned_new ho9 (fun e => by have := (HV2.out e).2; simp at this)
 have HB7 : Hid (Below w2.heap.size w2 w7) := LH (below_grownBy HBb.out HO1.out HG2.out (Nat.le_refl _) (Nat.le_refl _))
 have HM7 : Hid (Mem w w7 [⟨q1, 55, [vu64 ep, .int .i64 (n0 : Int), .int .i64 (n1 : Int), .int .i64 (n2 : Int), .int .i64 (n3 : Int), .int .i64 (n4 : Int), .int .i64 (n5 : Int), .int .i64 (n6 : Int), .int .i64 (n7 : Int)], true⟩, ⟨q2, 113, (List.replicate 16 0).map vu64, true⟩, ⟨q3, 113, (List.replicate 16 0).map vu64, true⟩, ⟨g, 40, sE.map vu64, false⟩]) := LH (HM2.out.row HB7.out h6 h3)
 rw [← rowN_none 16 f] at HM7
 clear ho9 h3 h4 h5 h6 HB7 HG2 HV2 HO2 hsz HBb HO1 HC1 H1c HM2
 have hL : (slotLn ep ns 0).length = 8 := rfl
 clear hL
 rw [show 8 + 8 = 16 from rfl]
 go_wp2_with fail
 go_loopw [5] (fun iv wr => ∃ i : Nat, i ≤ 16 ∧ iv = .int .i64 (i : Int) ∧ Hid (Mem w wr [⟨q1, 55, [vu64 ep, .int .i64 (n0 : Int), .int .i64 (n1 : Int), .int .i64 (n2 : Int), .int .i64 (n3 : Int), .int .i64 (n4 : Int), .int .i64 (n5 : Int), .int .i64 (n6 : Int), .int .i64 (n7 : Int)], true⟩, ⟨q2, 113, (rowN 16 f 0).map vu64, true⟩, ⟨q3, 113, (rowN 16 f i).map vu64, true⟩, ⟨g, 40, sE.map vu64, false⟩])) (fun iv _ => 16 - (intOf iv).toNat)
 case atStart => exact ⟨0, by omega, rfl, HM7⟩
 case round =>
  obtain ⟨i, hi, rfl, HM⟩ := hrel
  by_cases hlt : i < 16
  ·have hlt' : (i : Int) < 16 := by omega
   have c1 : wr.cell? ⟨g, i, none⟩ = some (vu64 (f i)) := HM.out.cell 3 i rfl (HAt.out i hlt)
   obtain ⟨u, hu⟩ : ∃ u, ((rowN 16 f i).map vu64)[i]? = some u := ⟨_, List.getElem?_eq_getElem (by rw [List.length_map, rowN_len]; exact hlt)⟩
   have c0 : wr.cell? ⟨q3, i, none⟩ = some u := HM.out.cell 2 i rfl hu
   have f0 := HM.out.frozen 2 i rfl
   have HS : Hid (Mem w (wr.setCell ⟨q3, i, none⟩ (vu64 (f i))) [⟨q1, 55, [vu64 ep, .int .i64 (n0 : Int), .int .i64 (n1 : Int), .int .i64 (n2 : Int), .int .i64 (n3 : Int), .int .i64 (n4 : Int), .int .i64 (n5 : Int), .int .i64 (n6 : Int), .int .i64 (n7 : Int)], true⟩, ⟨q2, 113, (rowN 16 f 0).map vu64, true⟩, ⟨q3, 113, (rowN 16 f (i + 1)).map vu64, true⟩, ⟨g, 40, sE.map vu64, false⟩]) := LH (by
    have := HM.out.set 2 i (vu64 (f i)) rfl (by rw [List.length_map, rowN_len]; exact hlt)
    rw [← rowN_set f hlt, List.map_set]
    exact this)
   clear hu
   go_wp2_with fail
   exact ⟨⟨i + 1, by omega, vint (by omega), HS⟩, by simp [intOf]; omega⟩
  ·have hi8 : i = 16 := by omega
   have hltd : decide ((i : Int) < 16) = false := by simp; omega
   rw [hi8, HAll.out] at HM
   clear hi8
   rw [rowN_none] at HM
   have hel := HEl.out
   have HEl2 := LH (show ((sE.map vu64).toArray).size = 16 by simpa using hel)
   clear hel
   go_wp2_with (first
    | (refine wpList_load_mem agg16 HM.out 2 rfl rfl rfl rfl (by rw [List.length_map, HEl.out]; rfl) ?_)
    | (refine wpList_store_mem agg16 HM.out 1 rfl rfl rfl rfl rfl (by rw [HEl2.out]; rfl) (by simp [HEl.out, rowN_len]) (by simp [Value.oneCell']) ?_; intro w6 h6 ht6; have H6 := LH h6; clear h6 ht6))
   refine bodyPost_ret (results_cell_row (p := 2) rfl _ _ _ _ _ _ _ rfl (H6.out.exact 1 rfl) Tryz.underlying113 rfl (by rw [HEl2.out]; kernel_rfl)) rfl ?_
   exact HF.out _ H6.out.below
structure MemR (B : Nat) (W : World) (L : List Ent) : Prop where
 rows : ∀ x ∈ L, RowX W x
 base : ∀ x ∈ L, B ≤ x.g
 nd : (L.map Ent.g).Nodup
 size : B ≤ W.heap.size
theorem Mem.r {w W : World} {L : List Ent} (h : Mem w W L) : MemR w.heap.size W L := ⟨h.rows, h.base, h.nd, h.below.size⟩
theorem MemR.lt {B : Nat} {W : World} {L : List Ent} (h : MemR B W L) : ∀ x ∈ L, x.g < W.heap.size := fun x hx => (h.rows x hx).lt
theorem MemR.later {B : Nat} {W W' : World} {L : List Ent} (h : MemR B W L) (hb : Below W.heap.size W W') : MemR B W' L :=
 ⟨fun x hx => (h.rows x hx).keep (hb.block _ (h.lt x hx)), h.base, h.nd, Nat.le_trans h.size hb.size⟩
theorem MemR.touch {B : Nat} {W W' : World} {L : List Ent} (h : MemR B W L) {X : List Nat} (ht : Touch X W W') (hX : ∀ k ∈ X, k < B) : MemR B W' L :=
 ⟨fun x hx => (h.rows x hx).keep (ht.block _ (h.lt x hx) (fun hm => by have := hX _ hm; have := h.base x hx; omega)), h.base, h.nd, Nat.le_trans h.size ht.size⟩
theorem near_of {X : List Nat} {w W : World} (h : Touch X w W) : ∃ x : Near X w, W = x.val := ⟨⟨W, h.size, h.block⟩, rfl⟩
theorem MemR.at {B : Nat} {W : World} {L : List Ent} (h : MemR B W L) (k : Nat) {g e : Nat} {vs : List Value} {ex : Bool} (hk : L[k]? = some ⟨g, e, vs, ex⟩) : RowAt W g e vs := (h.rows _ (List.mem_of_getElem? hk)).row
theorem MemR.exact {B : Nat} {W : World} {L : List Ent} (h : MemR B W L) (k : Nat) {g e : Nat} {vs : List Value} (hk : L[k]? = some ⟨g, e, vs, true⟩) : W.heap[g]? = some (.cells vs.toArray e (0, 0)) := (h.rows _ (List.mem_of_getElem? hk)).exact
theorem MemR.cell {B : Nat} {W : World} {L : List Ent} (h : MemR B W L) (k i : Nat) {g e : Nat} {vs : List Value} {ex : Bool} {v : Value} (hk : L[k]? = some ⟨g, e, vs, ex⟩) (hi : vs[i]? = some v) : W.cell? ⟨g, i, none⟩ = some v := (h.at k hk).cell hi
theorem MemR.frozen {B : Nat} {W : World} {L : List Ent} (h : MemR B W L) (k i : Nat) {g e : Nat} {vs : List Value} {ex : Bool} (hk : L[k]? = some ⟨g, e, vs, ex⟩) : W.frozen? ⟨g, i, none⟩ = false := (h.at k hk).frozen i
theorem MemR.glt {B : Nat} {W : World} {L : List Ent} (h : MemR B W L) (k : Nat) {g e : Nat} {vs : List Value} {ex : Bool} (hk : L[k]? = some ⟨g, e, vs, ex⟩) : g < W.heap.size := (h.at k hk).lt
theorem MemR.gbase {B : Nat} {W : World} {L : List Ent} (h : MemR B W L) (k : Nat) {g e : Nat} {vs : List Value} {ex : Bool} (hk : L[k]? = some ⟨g, e, vs, ex⟩) : B ≤ g := h.base _ (List.mem_of_getElem? hk)
theorem MemR.upd {B : Nat} {W W' : World} {L : List Ent} (h : MemR B W L) (k : Nat) {x y : Ent} (hk : L[k]? = some x) (hg : y.g = x.g) (ht : Touch [x.g] W W') (hy : RowX W' y) : MemR B W' (L.set k y) := by
 have hx := List.mem_of_getElem? hk
 have hkl : k < L.length := (List.getElem?_eq_some_iff.1 hk).1
 have hmap : (L.set k y).map Ent.g = L.map Ent.g := by
  rw [List.map_set]
  apply List.ext_getElem?
  intro i
  rw [List.getElem?_set]
  split
  ·rename_i e
   subst e
   simp [hkl, hg]
   have := (List.getElem?_eq_some_iff.1 hk).2
   rw [this]
  ·rfl
 refine ⟨fun z hz => ?_, fun z hz => ?_, by rw [hmap]; exact h.nd, Nat.le_trans h.size ht.size⟩
 ·obtain ⟨j, hj, rfl⟩ := List.mem_iff_getElem.1 hz
  rw [List.getElem_set] at hz ⊢
  split
  ·exact hy
  ·rename_i hne
   have hj' : j < L.length := by simpa using hj
   refine (h.rows _ (List.getElem_mem hj')).keep (ht.block _ (h.lt _ (List.getElem_mem hj')) ?_)
   simp
   intro e
   have e1 : (L.map Ent.g)[j]'(by simpa using hj') = (L.map Ent.g)[k]'(by simpa using hkl) := by
    simp [e, (List.getElem?_eq_some_iff.1 hk).2]
   exact hne (((List.getElem_inj h.nd).1 e1).symm)
 ·obtain ⟨j, hj, rfl⟩ := List.mem_iff_getElem.1 hz
  rw [List.getElem_set]
  split
  ·rw [hg]; exact h.base x hx
  ·exact h.base _ (List.getElem_mem _)
theorem MemR.set {B : Nat} {W : World} {L : List Ent} (h : MemR B W L) (k i : Nat) (v : Value) {g e : Nat} {vs : List Value} {ex : Bool} (hk : L[k]? = some ⟨g, e, vs, ex⟩) (hi : i < vs.length) : MemR B (W.setCell ⟨g, i, none⟩ v) (L.set k ⟨g, e, vs.set i v, ex⟩) := by
 refine h.upd k hk rfl (Touch.setCell _ (by simp) _) ?_
 obtain ⟨xs, h1, more, h2, h3⟩ := h.rows _ (List.mem_of_getElem? hk)
 dsimp only at h1 h2 h3
 refine ⟨_, heap_setCell_same W g i xs e v h1, more, ?_, h3⟩
 dsimp only
 rw [Array.toList_setIfInBounds, h2, List.set_append_left _ _ hi]
theorem Touch.own {X : List Nat} {w W W' : World} (h : Touch X w W) {Y : List Nat} (ht : Touch Y W W') (hY : ∀ k ∈ Y, w.heap.size ≤ k ∨ k ∈ X) : Touch X w W' :=
 ⟨ht.os.trans h.os, ht.tape.trans h.tape, ht.output.trans h.output, Nat.le_trans h.size ht.size, fun k hk hn => (ht.block k (Nat.lt_of_lt_of_le hk h.size) (fun hm => (hY k hm).elim (fun h => by omega) hn)).trans (h.block k hk hn)⟩
theorem Touch.later {X : List Nat} {w W W' : World} (h : Touch X w W) (hb : Below W.heap.size W W') : Touch X w W' := h.trans (Touch.ofBelow hb)
section
variable {P : Program} {B : Nat} {W : World} {ops : Array Oper} {rest : List Oper} {o : Oper} {a : Act} {Q : Exit → Act → World → Prop} {L : List Ent}
theorem wpList_load_r {ty : TypeId} {zs : Array Value} (A : Agg P ty zs) (h : MemR B W L) (k : Nat) {p : Operand} {g e : Nat} {vs : List Value} {ex : Bool}
  (hgd : o.guard = none) (ho : o.op = .load ty p) (hp : a.eval p = .pointer (some ⟨g, 0, none⟩)) (hk : L[k]? = some ⟨g, e, vs, ex⟩) (hs : vs.length = zs.size)
  (hK : wpList P ops Q rest (a.put o.dst (.agg vs.toArray)) W) : wpList P ops Q (o :: rest) a W :=
 wpList_load_part A vs (fun i v hi => by rw [Nat.zero_add]; exact h.cell k i hk hi) hs hgd ho hp hK
theorem wpList_store_r {ty : TypeId} {zs : Array Value} (A : Agg P ty zs) (h : MemR B W L) (k : Nat) {p x : Operand} {g e : Nat} {vs : List Value} {cs : Array Value}
  (hgd : o.guard = none) (ho : o.op = .store ty p x) (hp : a.eval p = .pointer (some ⟨g, 0, none⟩)) (hx : a.eval x = .agg cs) (hk : L[k]? = some ⟨g, e, vs, true⟩) (hs : cs.size = zs.size) (hv : vs.length = cs.size) (h1 : cs.toList.all (·.oneCell') = true)
  (hK : ∀ W', MemR B W' (L.set k ⟨g, e, cs.toList, true⟩) → Touch [g] W W' → wpList P ops Q rest (a.put o.dst undef) W') : wpList P ops Q (o :: rest) a W := by
 refine wpList_store_row A (h.exact k hk) hs (by simpa using hv) (by rw [← Array.all_toList]; exact h1) hgd ho hp hx ?_
 intro W' hg hgr hsz
 have ht : Touch [g] W W' := ⟨hgr.os, hgr.tape, hgr.output, hgr.size, fun j hj hn => hgr.block j hj (fun e => hn (by simp at e; simp [e]))⟩
 exact hK W' (h.upd k hk rfl ht ⟨cs, hg, [], by simp, fun _ => rfl⟩) ht
end
def supR (S : Dev) : Nat × Nat × Int := if (supD (dwordsAt S 0 8)).2.2 ≠ 0 ∨ 512 * (supD (dwordsAt S 0 8)).1 ≠ S.cache.length then (0, 0, 20) else supD (dwordsAt S 0 8)
theorem supD_small (ws : List Nat) : (supD ws).1 ≤ 256 := by
 unfold supD
 split
 ·show 0 ≤ 256; omega
 ·split
  ·show 0 ≤ 256; omega
  ·split
   ·next h => exact h.2.1
   ·show 0 ≤ 256; omega
set_option maxHeartbeats 2000000 in
set_option maxRecDepth 100000 in
theorem sread_any {w : World} {F : Foot} {S : Dev} (h : DevAt w F S) :
  Calls Tryz.prog 44 #[vdev F] w (SdPost (supR S) w) := by
 have HP : Hid (∀ (n id : Nat) (e : Int) w', (n, id, e) = supR S → Below w.heap.size w w' → SdPost (supR S) w (.returned (.tuple #[.agg #[.int .i64 (n : Int), vu64 id], .int .i64 e])) w') := LH (fun n id e w' h1 h2 => by rw [← h1]; exact ⟨rfl, h2⟩)
 generalize hPo : SdPost (supR S) w = Post at *
 clear hPo
 have HM := LH (Mem.one w #[.int .i64 0, .int .u64 0] 42)
 have HD := LH (h.below HM.out.below)
 have hcl := h.small
 have HSm := supD_small (dwordsAt S 0 8)
 have HDc := LH (fun w => sdecode_any (dwordsAt S 0 8) (dwordsAt_len S 0 8) (dwordsAt_lt h.u64C 0 8) w)
 have HR : Hid (supR S = if (supD (dwordsAt S 0 8)).2.2 ≠ 0 ∨ 512 * (supD (dwordsAt S 0 8)).1 ≠ S.cache.length then (0, 0, 20) else supD (dwordsAt S 0 8)) := LH rfl
 generalize supD (dwordsAt S 0 8) = t at *
 obtain ⟨n, id, e⟩ := t
 dsimp only at HSm HR
 clear h
 go_enter Tryz.func44, Tryz.ntmps44
 go_upto_region 1 with fail
 obtain ⟨q2, hq2⟩ : ∃ q, q = w.heap.size := ⟨_, rfl⟩
 rw [← hq2] at HM ⊢
 generalize w.alloc _ = w1 at *
 clear hq2
 go_wp2_with fail
 refine (sline_any HD.out).mono ?_
 rintro e2 w2 ⟨rfl, hb2⟩
 have HM2 := LH (HM.out.later hb2)
 have HD2 := LH (HD.out.below hb2)
 clear hb2
 go_wp2_with fail
 refine (HDc.out w2).mono ?_
 rintro e2 w3 ⟨rfl, hb3⟩
 dsimp only
 have HM3 := LH ((HM2.out.later hb3).alloc #[.int .i64 (n : Int), vu64 id] 42)
 have HD3 := LH ((HD2.out.below hb3).below (below_alloc w3 (.cells #[.int .i64 (n : Int), vu64 id] 42)))
 clear hb3 HM2 HD2 HM HD
 go_upto_region 2 with fail
 obtain ⟨q4, hq4⟩ : ∃ q, q = w3.heap.size := ⟨_, rfl⟩
 rw [← hq4] at HM3 ⊢
 generalize w3.alloc _ = w4 at *
 clear hq4
 have c0 := HM3.out.cell 1 0 rfl rfl
 by_cases he : e = 0
 case neg =>
  have he' : (e != 0) = true := by simpa using he
  have HF := LH (fun w' h => HP.out 0 0 20 w' (by rw [HR.out, if_pos (.inl he)]) h)
  clear he
  go_wp2_with (refine wpList_store_mem aggSu HM3.out 0 rfl rfl rfl rfl rfl rfl rfl rfl ?_; intro w6 h6 ht6; have H6 := LH h6; clear h6 ht6)
  refine bodyPost_ret (results_cell_row2 (p := 2) (u := 3) rfl _ _ _ _ _ _ _ rfl (H6.out.exact 0 rfl) Tryz.underlying42 rfl (by kernel_rfl)) rfl ?_
  exact HF.out _ H6.out.below
 subst he
 go_wp2_with fail
 refine (gwords_any (n : Int) w4 (by omega) (by omega)).mono ?_
 rintro e2 w5 ⟨rfl, hb5⟩
 have HM5 := LH (HM3.out.later hb5)
 have HD5 := LH (HD3.out.below hb5)
 have hnI : (n : Int) * 512 = ((512 * n : Nat) : Int) := by omega
 rw [hnI]
 obtain ⟨N, hN⟩ : ∃ N, N = 512 * n := ⟨_, rfl⟩
 rw [← hN] at HR ⊢
 obtain ⟨l, hl⟩ : ∃ l, l = S.cache.length := ⟨_, rfl⟩
 rw [← hl] at HR
 have HLn := LH hl
 clear hb5 hnI hN c0 hl
 go_wp2_with fail
 refine (dlen_any HD5.out).mono ?_
 rintro e2 w6 ⟨rfl, rfl⟩
 rw [← HLn.out]
 by_cases hc : N = l
 case neg =>
  have hc' : ((N : Int) == (l : Int)) = false := by rw [beq_eq_false_iff_ne]; omega
  have HF := LH (fun w' h => HP.out 0 0 20 w' (by rw [HR.out, if_pos (.inr hc)]) h)
  clear hc
  go_wp2_with (refine wpList_store_mem aggSu HM5.out 0 rfl rfl rfl rfl rfl rfl rfl rfl ?_; intro w6 h6 ht6; have H6 := LH h6; clear h6 ht6)
  refine bodyPost_ret (results_cell_row2 (p := 2) (u := 3) rfl _ _ _ _ _ _ _ rfl (H6.out.exact 0 rfl) Tryz.underlying42 rfl (by kernel_rfl)) rfl ?_
  exact HF.out _ H6.out.below
 have HF := LH (fun w' h => HP.out n id 0 w' (by rw [HR.out, if_neg (by rintro (h | h); exact h rfl; exact h hc)]) h)
 subst hc
 go_wp2_with (first
  | (refine wpList_load_mem aggSu HM5.out 1 rfl rfl rfl rfl rfl ?_)
  | (refine wpList_store_mem aggSu HM5.out 0 rfl rfl rfl rfl rfl rfl rfl rfl ?_; intro w6 h6 ht6; have H6 := LH h6; clear h6 ht6))
 refine bodyPost_ret (results_cell_row2 (p := 2) (u := 3) rfl _ _ _ _ _ _ _ rfl (H6.out.exact 0 rfl) Tryz.underlying42 rfl (by kernel_rfl)) rfl ?_
 exact HF.out _ H6.out.below
theorem slotAt_any (i : Nat) (hi : i ≤ 1) (w : World) :
  Calls Tryz.prog 141 #[.int .i64 (i : Int)] w fun e w' => e = .returned (.int .i64 ((64 + 64 * i : Nat) : Int)) ∧ w = w' := by
 rcases (by omega : i = 0 ∨ i = 1) with rfl | rfl
 ·have hb : bits .and .i64 0 1 = 0 := by decide
  rw [show ((0 : Nat) : Int) = 0 from rfl]
  go_enter Tryz.func141, Tryz.ntmps141
  go_wp2_with fail
  go_ret
  exact ⟨rfl, rfl⟩
 ·have hb : bits .and .i64 1 1 = 1 := by decide
  rw [show ((1 : Nat) : Int) = 1 from rfl]
  go_enter Tryz.func141, Tryz.ntmps141
  go_wp2_with fail
  go_ret
  exact ⟨rfl, rfl⟩
set_option maxHeartbeats 4000000 in
set_option maxRecDepth 20000 in
theorem rtread_any {w : World} {F : Foot} {S : Dev} (h : DevAt w F S) (i : Nat) (hi : i ≤ 1) :
  Calls Tryz.prog 92 #[vdev F, .int .i64 (i : Int)] w fun e w' => e = .returned (arrW (dwordsAt S (64 + 64 * i) 16)) ∧ Below w.heap.size w w' := by
 obtain ⟨a, ha⟩ : ∃ a, a = 64 + 64 * i := ⟨_, rfl⟩
 have hsl := slotAt_any i hi
 rw [← ha] at hsl ⊢
 have HSl := LH hsl
 have ha1 : a ≤ 128 := by omega
 have HP : Hid (∀ w', Below w.heap.size w w' → (fun e w' => e = Ending.returned (arrW (dwordsAt S a 16)) ∧ Below w.heap.size w w') (.returned (arrW (dwordsAt S a 16))) w') := LH (fun w' h => ⟨rfl, h⟩)
 generalize (fun e w' => e = Ending.returned (arrW (dwordsAt S a 16)) ∧ Below w.heap.size w w') = Post at *
 obtain ⟨f, hf⟩ : ∃ f : Nat → Nat, f = fun k => peek S.cache ((a + k : Nat) : Int) := ⟨_, rfl⟩
 have HAll : Hid (dwordsAt S a 16 = rowN 16 f 16) := LH (by rw [rowN_all, hf]; rfl)
 have HG : Hid (∀ (k : Nat) w', Below w.heap.size w w' → Calls Tryz.prog 59 #[vdev F, .int .i64 ((a : Int) + (k : Int))] w' (fun e w2 => e = .returned (vu64 (f k)) ∧ w' = w2)) := LH (fun k w' hb => by
  rw [hf]
  have := dget_any (h.below hb) ((a : Int) + (k : Int))
  simpa using this)
 have HM := LH (Mem.two w ((rowN 16 f 0).map vu64).toArray 113 ((rowN 16 f 0).map vu64).toArray 113)
 clear h hf hsl ha
 go_enter Tryz.func92, Tryz.ntmps92
 go_upto_region 2 with fail
 rw [show (#[.int .u64 0, .int .u64 0, .int .u64 0, .int .u64 0, .int .u64 0, .int .u64 0, .int .u64 0, .int .u64 0, .int .u64 0, .int .u64 0, .int .u64 0, .int .u64 0, .int .u64 0, .int .u64 0, .int .u64 0, .int .u64 0] : Array Value) = ((rowN 16 f 0).map vu64).toArray from rfl]
 obtain ⟨q2, hq2⟩ : ∃ q, q = w.heap.size := ⟨_, rfl⟩
 obtain ⟨q3, hq3⟩ : ∃ q, q = w.heap.size + 1 := ⟨_, rfl⟩
 rw [← hq3, ← hq2] at HM ⊢
 generalize (w.alloc _).alloc _ = w1 at *
 clear hq2 hq3
 have HM0 : Hid (Mem w w1 [⟨q2, 113, (rowN 16 f 0).map vu64, true⟩, ⟨q3, 113, (rowN 16 f 0).map vu64, true⟩]) := LH (by simpa using HM.out)
 clear HM
 go_wp2_with fail
 go_loopw [7] (fun iv wr => ∃ k : Nat, k ≤ 16 ∧ iv = .int .i64 (k : Int) ∧ Hid (Mem w wr [⟨q2, 113, (rowN 16 f 0).map vu64, true⟩, ⟨q3, 113, (rowN 16 f k).map vu64, true⟩])) (fun iv _ => 16 - (intOf iv).toNat)
 case atStart => exact ⟨0, by omega, rfl, HM0⟩
 case round =>
  obtain ⟨k, hk, rfl, HM⟩ := hrel
  by_cases hlt : k < 16
  ·have hlt' : (k : Int) < 16 := by omega
   obtain ⟨u, hu⟩ : ∃ u, ((rowN 16 f k).map vu64)[k]? = some u := ⟨_, List.getElem?_eq_getElem (by rw [List.length_map, rowN_len]; exact hlt)⟩
   have HS : Hid (Mem w (wr.setCell ⟨q3, k, none⟩ (vu64 (f k))) [⟨q2, 113, (rowN 16 f 0).map vu64, true⟩, ⟨q3, 113, (rowN 16 f (k + 1)).map vu64, true⟩]) := LH (by
    have := HM.out.set 1 k (vu64 (f k)) rfl (by rw [List.length_map, rowN_len]; exact hlt)
    rw [← rowN_set f hlt, List.map_set]
    exact this)
   have c0 : wr.cell? ⟨q3, k, none⟩ = some u := HM.out.cell 1 k rfl hu
   have f0 := HM.out.frozen 1 k rfl
   have HGk := LH (HG.out k wr HM.out.below)
   clear hu
   go_wp2_with fail
   refine (HSl.out _).mono ?_
   rintro e w2 ⟨rfl, rfl⟩
   go_wp2_with fail
   refine HGk.out.mono ?_
   rintro e w2 ⟨rfl, rfl⟩
   go_wp2_with fail
   exact ⟨⟨k + 1, by omega, vint (by omega), HS⟩, by simp [intOf]; omega⟩
  ·have hi8 : k = 16 := by omega
   have hltd : decide ((k : Int) < 16) = false := by simp; omega
   rw [hi8, ← HAll.out] at HM
   clear hi8
   go_wp2_with (first
    | (refine wpList_load_mem agg16 HM.out 1 rfl rfl rfl rfl (by rw [List.length_map, dwordsAt_len]; rfl) ?_)
    | (refine wpList_store_mem agg16 HM.out 0 rfl rfl rfl rfl rfl (by simp [dwordsAt_len]) (by simp [dwordsAt_len, rowN_len]) (by simp [Value.oneCell']) ?_; intro w6 h6 ht6; have H6 := LH h6; clear h6 ht6))
   refine bodyPost_ret (results_cell_row (p := 4) rfl _ _ _ _ _ _ _ rfl (H6.out.exact 0 rfl) Tryz.underlying113 rfl (by kernel_rfl)) rfl ?_
   exact HP.out _ H6.out.below
theorem aggI8 : Agg Tryz.prog 24 #[.int .i64 0, .int .i64 0, .int .i64 0, .int .i64 0, .int .i64 0, .int .i64 0, .int .i64 0, .int .i64 0] := ⟨⟨_, Tryz.underlying24, rfl⟩, by kernel_rfl⟩
def arrI (rs : List Int) : Value := .agg (rs.map (Value.int .i64)).toArray
theorem slotC_ok (x y : Nat × List Int × Int) (hx : x.1 < 18446744073709551616 ∧ x.2.1.length = 8) (hy : y.1 < 18446744073709551616 ∧ y.2.1.length = 8) :
  (slotC x y).1 < 18446744073709551616 ∧ (slotC x y).2.1.length = 8 ∧ (slotC x y).2.2.1 ≤ 1 ∧ 0 ≤ (slotC x y).2.2.1 := by
 unfold slotC
 split
 ·exact ⟨hx.1, hx.2, by simp, by simp⟩
 ·split
  ·exact ⟨hy.1, hy.2, by simp, by simp⟩
  ·exact ⟨by simp, rfl, by simp, by simp⟩
def rootsN (S : Dev) : Nat × List Int × Int × Bool := slotC (slotD (dwordsAt S 64 16)) (slotD (dwordsAt S 128 16))
theorem rootsN_ok {S : Dev} (hu : ∀ z ∈ S.cache, z < 18446744073709551616) : (rootsN S).1 < 18446744073709551616 ∧ (rootsN S).2.1.length = 8 ∧ (rootsN S).2.2.1 ≤ 1 ∧ 0 ≤ (rootsN S).2.2.1 := by
 have ha := slotD_ok (dwordsAt S 64 16) (dwordsAt_lt hu 64 16)
 have hb := slotD_ok (dwordsAt S 128 16) (dwordsAt_lt hu 128 16)
 exact slotC_ok _ _ ⟨ha.1, ha.2.1⟩ ⟨hb.1, hb.2.1⟩
def rootC (F : Foot) (n : Nat) (rs : List Int) (i : Int) : List Value := vdev F :: vu64 n :: (rs.map (Value.int .i64) ++ .int .i64 i :: rs.map (Value.int .i64))
def RootsAt (w : World) (g : Nat) (F : Foot) (n : Nat) (rs : List Int) (i : Int) : Prop := w.heap[g]? = some (.cells (rootC F n rs i).toArray 156 (0, 0))
theorem RootsAt.below {w w' : World} {g n : Nat} {F : Foot} {rs : List Int} {i : Int} {B : Nat} (h : RootsAt w g F n rs i) (hb : Below B w w') (hB : w.heap.size ≤ B) : RootsAt w' g F n rs i := by
 have hlt : g < w.heap.size := by
  rcases Nat.lt_or_ge g w.heap.size with c | c
  ·exact c
  ·unfold RootsAt at h
   rw [Array.getElem?_eq_none c] at h
   cases h
 exact (hb.block g (Nat.lt_of_lt_of_le hlt hB)).trans h
theorem RootsAt.row {w : World} {g n : Nat} {F : Foot} {rs : List Int} {i : Int} (h : RootsAt w g F n rs i) : RowAt w g 156 (rootC F n rs i) := ⟨_, h, [], by simp⟩
def RtPost (F : Foot) (r : Nat × List Int × Int × Bool) (w : World) : Ending → World → Prop := fun e w' => Below w.heap.size w w' ∧
  ((r.2.2.2 = true ∧ ∃ g, e = .returned (.tuple #[.pointer (some ⟨g, 0, none⟩), .int .i64 0]) ∧ w.heap.size ≤ g ∧ RootsAt w' g F r.1 r.2.1 r.2.2.1) ∨
   (r.2.2.2 = false ∧ e = .returned (.tuple #[.pointer none, .int .i64 23])))
set_option maxHeartbeats 4000000 in
set_option maxRecDepth 20000 in
theorem rtopen_any {w : World} {F : Foot} {S : Dev} (h : DevAt w F S) :
  Calls Tryz.prog 46 #[vdev F] w (RtPost F (rootsN S) w) := by
 have HRd := LH (fun (i : Nat) hi w' (hb : Below w.heap.size w w') => rtread_any (h.below hb) i hi)
 have hC := slchoose_any (dwordsAt S 64 16) (dwordsAt S 128 16) (dwordsAt_len _ _ _) (dwordsAt_len _ _ _) (dwordsAt_lt h.u64C 64 16) (dwordsAt_lt h.u64C 128 16)
 have hok := rootsN_ok h.u64C
 obtain ⟨⟨n, rs, i, b⟩, hX⟩ : ∃ X, X = rootsN S := ⟨_, rfl⟩
 rw [show slotC (slotD (dwordsAt S 64 16)) (slotD (dwordsAt S 128 16)) = (n, rs, i, b) from hX.symm] at hC
 rw [← hX] at hok ⊢
 obtain ⟨hn, hl, hi1, hi0⟩ := hok
 simp only [] at hn hl hi1 hi0
 have HA := LH (HRd.out 0 (by omega))
 have HB := LH (HRd.out 1 (by omega))
 simp only [Nat.mul_zero, Nat.mul_one, Nat.add_zero, Nat.reduceAdd] at HA HB
 rw [show ((0 : Nat) : Int) = 0 from rfl] at HA
 rw [show ((1 : Nat) : Int) = 1 from rfl] at HB
 obtain ⟨xs, hxs⟩ : ∃ xs, xs = dwordsAt S 64 16 := ⟨_, rfl⟩
 obtain ⟨ys, hys⟩ : ∃ ys, ys = dwordsAt S 128 16 := ⟨_, rfl⟩
 rw [← hxs] at HA hC
 rw [← hys] at HB hC
 obtain ⟨xa, hxa⟩ : ∃ x, x = arrW xs := ⟨_, rfl⟩
 obtain ⟨ya, hya⟩ : ∃ x, x = arrW ys := ⟨_, rfl⟩
 rw [← hxa] at HA hC
 rw [← hya] at HB hC
 have HC := LH hC
 have HY : Hid (∀ g w', b = true → Below w.heap.size w w' → w.heap.size ≤ g → RootsAt w' g F n rs i → RtPost F (n, rs, i, b) w (.returned (.tuple #[.pointer (some ⟨g, 0, none⟩), .int .i64 0])) w') := LH (fun g w' h1 h2 h3 h4 => ⟨h2, .inl ⟨h1, g, rfl, h3, h4⟩⟩)
 have HN : Hid (∀ w', b = false → Below w.heap.size w w' → RtPost F (n, rs, i, b) w (.returned (.tuple #[.pointer none, .int .i64 23])) w') := LH (fun w' h1 h2 => ⟨h2, .inr ⟨h1, rfl⟩⟩)
 generalize RtPost F (n, rs, i, b) w = Post at *
 clear hX HRd hC hxs hys hxa hya h
 obtain ⟨r0, r1, r2, r3, r4, r5, r6, r7, rfl⟩ := eight_ints hl
 clear hl
 unfold SlC at HC
 rw [show slotVal (n, [r0, r1, r2, r3, r4, r5, r6, r7], i, b).1 (n, [r0, r1, r2, r3, r4, r5, r6, r7], i, b).2.1 = .agg #[vu64 n, .int .i64 r0, .int .i64 r1, .int .i64 r2, .int .i64 r3, .int .i64 r4, .int .i64 r5, .int .i64 r6, .int .i64 r7] from rfl] at HC
 dsimp only at HC
 go_enter Tryz.func46, Tryz.ntmps46
 go_wp2_with fail
 refine (HA.out w (Below.refl _ _)).mono ?_
 rintro e w1 ⟨rfl, hb1⟩
 have HB1 := LH hb1
 clear hb1
 go_wp2_with fail
 refine (HB.out w1 HB1.out).mono ?_
 rintro e w2 ⟨rfl, hb2⟩
 have HB2 := LH (HB1.out.trans (hb2.mono HB1.out.size))
 clear hb2
 go_wp2_with fail
 refine (HC.out w2).mono ?_
 rintro e w3 ⟨rfl, hb3⟩
 have HB3 := LH (HB2.out.trans (hb3.mono HB2.out.size))
 clear hb3
 have HM := LH (((Mem.start w).later HB3.out).alloc #[vu64 n, .int .i64 r0, .int .i64 r1, .int .i64 r2, .int .i64 r3, .int .i64 r4, .int .i64 r5, .int .i64 r6, .int .i64 r7] 154)
 go_upto_region 2 with fail
 obtain ⟨q, hq⟩ : ∃ q, q = w3.heap.size := ⟨_, rfl⟩
 rw [← hq] at HM ⊢
 generalize w3.alloc _ = w4 at *
 clear hq HB1 HB2 HB3
 have HM4 : Hid (Mem w w4 [⟨q, 154, [vu64 n, .int .i64 r0, .int .i64 r1, .int .i64 r2, .int .i64 r3, .int .i64 r4, .int .i64 r5, .int .i64 r6, .int .i64 r7], true⟩]) := LH (by simpa using HM.out)
 clear HM
 cases b
 case false =>
  go_wp2_with fail
  exact HN.out _ (by simp) HM4.out.below
 have HM5 := LH (HM4.out.alloc #[vdev F, vu64 n, .int .i64 r0, .int .i64 r1, .int .i64 r2, .int .i64 r3, .int .i64 r4, .int .i64 r5, .int .i64 r6, .int .i64 r7, .int .i64 i, .int .i64 r0, .int .i64 r1, .int .i64 r2, .int .i64 r3, .int .i64 r4, .int .i64 r5, .int .i64 r6, .int .i64 r7] 156)
 go_wp2_with (first
  | (refine wpList_load_mem aggSl HM4.out 0 rfl rfl rfl rfl rfl ?_)
  | (refine wpList_load_part aggI8 [.int .i64 r0, .int .i64 r1, .int .i64 r2, .int .i64 r3, .int .i64 r4, .int .i64 r5, .int .i64 r6, .int .i64 r7] (g := q) (off := 1) (fun j v hv => HM4.out.cell 0 (1 + j) rfl (by rw [Nat.add_comm]; exact hv)) rfl rfl rfl rfl ?_))
 exact HY.out _ _ (by simp) HM5.out.below (HM5.out.gbase 1 rfl) (HM5.out.exact 1 rfl)
set_option maxHeartbeats 4000000 in
theorem rtlasting_any {w : World} {g n : Nat} {F : Foot} {rs : List Int} {i : Int} (h : RootsAt w g F n rs i) (hl : rs.length = 8) :
  Calls Tryz.prog 26 #[.pointer (some ⟨g, 0, none⟩)] w fun e w' => e = .returned (arrI rs) ∧ Below w.heap.size w w' := by
 obtain ⟨r0, r1, r2, r3, r4, r5, r6, r7, rfl⟩ := eight_ints hl
 have HP : Hid (∀ w', Below w.heap.size w w' → (fun e w' => e = Ending.returned (arrI [r0, r1, r2, r3, r4, r5, r6, r7]) ∧ Below w.heap.size w w') (.returned (.agg #[.int .i64 r0, .int .i64 r1, .int .i64 r2, .int .i64 r3, .int .i64 r4, .int .i64 r5, .int .i64 r6, .int .i64 r7])) w') := LH (fun w' h => ⟨rfl, h⟩)
 generalize (fun e w' => e = Ending.returned (arrI [r0, r1, r2, r3, r4, r5, r6, r7]) ∧ Below w.heap.size w w') = Post at *
 have HM := LH (Mem.one w #[.int .i64 0, .int .i64 0, .int .i64 0, .int .i64 0, .int .i64 0, .int .i64 0, .int .i64 0, .int .i64 0] 24)
 have HC : Hid (∀ (j : Nat) v, [Value.int .i64 r0, .int .i64 r1, .int .i64 r2, .int .i64 r3, .int .i64 r4, .int .i64 r5, .int .i64 r6, .int .i64 r7][j]? = some v → (w.alloc (.cells #[.int .i64 0, .int .i64 0, .int .i64 0, .int .i64 0, .int .i64 0, .int .i64 0, .int .i64 0, .int .i64 0] 24)).cell? ⟨g, 2 + j, none⟩ = some v) := LH (fun j v hv => by
  refine (h.below (below_alloc _ _) (Nat.le_refl _)).row.cell ?_
  have hj : j < 8 := by
   rcases Nat.lt_or_ge j 8 with c | c
   ·exact c
   ·rw [List.getElem?_eq_none (by simpa using c)] at hv
    cases hv
  rcases (by omega : j = 0 ∨ j = 1 ∨ j = 2 ∨ j = 3 ∨ j = 4 ∨ j = 5 ∨ j = 6 ∨ j = 7) with rfl | rfl | rfl | rfl | rfl | rfl | rfl | rfl <;> exact hv)
 clear h hl
 go_enter Tryz.func26, Tryz.ntmps26
 go_wp2_with (first
  | (refine wpList_load_part aggI8 [.int .i64 r0, .int .i64 r1, .int .i64 r2, .int .i64 r3, .int .i64 r4, .int .i64 r5, .int .i64 r6, .int .i64 r7] (g := g) (off := 2) HC.out rfl rfl rfl rfl ?_)
  | (refine wpList_store_mem aggI8 HM.out 0 rfl rfl rfl rfl rfl rfl rfl rfl ?_; intro w6 h6 ht6; have H6 := LH h6; clear h6 ht6))
 refine bodyPost_ret (results_cell_row (p := 2) rfl _ _ _ _ _ _ _ rfl (H6.out.exact 0 rfl) Tryz.underlying24 rfl (by kernel_rfl)) rfl ?_
 exact HP.out _ H6.out.below
def Dev.stores (S : Dev) : List (Nat × Nat) → Done
 | [] => ⟨S, 0⟩
 | p :: l => if S.storeE (p.1 : Int) ≠ 0 then ⟨S.store (p.1 : Int) p.2, S.storeE (p.1 : Int)⟩ else (S.store (p.1 : Int) p.2).stores l
def Done.bind (r : Done) (f : Dev → Done) : Done := if r.err ≠ 0 then r else f r.dev
theorem stores_cons (S : Dev) (i x : Nat) (l : List (Nat × Nat)) : S.stores ((i, x) :: l) = if S.storeE (i : Int) ≠ 0 then ⟨S.store (i : Int) x, S.storeE (i : Int)⟩ else (S.store (i : Int) x).stores l := rfl
theorem stores_ok : ∀ {S : Dev} {N : Nat} (_ : S.ok N) (l : List (Nat × Nat)), (S.stores l).dev.ok (N + l.length)
 | S, N, h, [] => h
 | S, N, h, (i, x) :: l => by
  rw [stores_cons]
  have h1 := Dev.store_okN h (i : Int) x
  split
  ·exact h1.mono (by simp)
  ·exact (stores_ok h1 l).mono (by simp; omega)
theorem Done.bind_ok (r : Dev) (f : Dev → Done) : (Done.mk r 0).bind f = f r := by unfold Done.bind; rw [if_neg (by simp)]
theorem Done.bind_err (r : Dev) {e : Int} (h : e ≠ 0) (f : Dev → Done) : (Done.mk r e).bind f = ⟨r, e⟩ := by unfold Done.bind; rw [if_pos h]
def DonePost (r : Done) (F : Foot) (w : World) : Ending → World → Prop := fun e w' => e = .returned (.int .i64 r.err) ∧ DevAt w' F r.dev ∧ Touch F.list w w'
def upL (a : Nat) (g : Nat → Nat) (k n : Nat) : List (Nat × Nat) := (List.range' k (n - k)).map (fun j => (a + j, g j))
theorem upL_cons (a : Nat) (g : Nat → Nat) {k n : Nat} (h : k < n) : upL a g k n = (a + k, g k) :: upL a g (k + 1) n := by
 unfold upL
 rw [show n - k = (n - (k + 1)) + 1 by omega, List.range'_succ]
 rfl
theorem upL_nil (a : Nat) (g : Nat → Nat) {k n : Nat} (h : n ≤ k) : upL a g k n = [] := by
 unfold upL
 rw [show n - k = 0 by omega]
 rfl
theorem upL_len (a : Nat) (g : Nat → Nat) (k n : Nat) : (upL a g k n).length = n - k := by unfold upL; simp
def Dev.writeSuper (S : Dev) (n id : Nat) : Done :=
 if 2 ≤ n ∧ n ≤ 256 ∧ 512 * n = S.cache.length then (S.stores (upL 0 (fun k => (supN n id).getD k 0) 0 8)).bind (fun S => S.persist 0 8) else ⟨S, 26⟩
theorem supN_lt {n id : Nat} (hn : n < 18446744073709551616) (hid : id < 18446744073709551616) (k : Nat) : (supN n id).getD k 0 < 18446744073709551616 := by
 rw [List.getD_eq_getElem?_getD]
 cases h : (supN n id)[k]? with
 | none => simp
 | some x =>
  have hm := List.mem_of_getElem? h
  have hw := wordsN_lt (supH n id)
  simp only [supN, List.mem_cons, List.not_mem_nil, or_false] at hm
  have hg : magicN < 18446744073709551616 := by decide
  show x < _
  rcases hm with rfl | rfl | rfl | rfl | rfl | rfl | rfl | rfl <;> omega
set_option maxHeartbeats 4000000 in
set_option maxRecDepth 20000 in
theorem swrite_any {w : World} {F : Foot} {S : Dev} (h : DevAt w F S) {N : Nat} (hN : N ≤ 900000000) (ho : S.ok N) (n id : Nat) (hn : n ≤ 1000000000) (hid : id < 18446744073709551616) :
  Calls Tryz.prog 66 #[vdev F, .agg #[.int .i64 (n : Int), vu64 id]] w (DonePost (S.writeSuper n id) F w) := by
 have HP : Hid (∀ (D : Done) w', D = S.writeSuper n id → DevAt w' F D.dev → Touch F.list w w' → DonePost (S.writeSuper n id) F w (.returned (.int .i64 D.err)) w') := LH (fun D w' h1 h2 h3 => by rw [← h1]; exact ⟨rfl, h2, h3⟩)
 generalize DonePost (S.writeSuper n id) F w = Post at *
 have HEn := LH (sencode_any n id (by omega) hid)
 have HLt := LH (supN_lt (n := n) (by omega) hid)
 obtain ⟨f, hf⟩ : ∃ f : Nat → Nat, f = fun k => (supN n id).getD k 0 := ⟨_, rfl⟩
 have HW : Hid (S.writeSuper n id = if 2 ≤ n ∧ n ≤ 256 ∧ 512 * n = S.cache.length then (S.stores (upL 0 f 0 8)).bind (fun S => S.persist 0 8) else ⟨S, 26⟩) := LH (by rw [hf]; rfl)
 have HAr : Hid (arrW (supN n id) = .agg #[vu64 (f 0), vu64 (f 1), vu64 (f 2), vu64 (f 3), vu64 (f 4), vu64 (f 5), vu64 (f 6), vu64 (f 7)]) := LH (by rw [hf]; rfl)
 have HF : Hid (∀ k, f k < 18446744073709551616) := LH (fun k => by rw [hf]; exact HLt.out k)
 unfold SupPost at HEn
 rw [HAr.out] at HEn
 have HD := LH h
 have HO := LH ho
 have HB0 := LH h.mem
 clear hf HLt HAr h ho
 have HM := LH ((Mem.two w #[.int .i64 (n : Int), vu64 id] 42 #[.int .i64 (n : Int)] 44))
 go_enter Tryz.func66, Tryz.ntmps66
 go_upto_region 2 with fail
 obtain ⟨q1, hq1⟩ : ∃ q, q = w.heap.size := ⟨_, rfl⟩
 obtain ⟨q2, hq2⟩ : ∃ q, q = w.heap.size + 1 := ⟨_, rfl⟩
 rw [← hq2, ← hq1] at HM ⊢
 generalize (w.alloc _).alloc _ = w1 at *
 clear hq1 hq2
 have HM1 : Hid (Mem w w1 [⟨q1, 42, [.int .i64 (n : Int), vu64 id], true⟩, ⟨q2, 44, [.int .i64 (n : Int)], true⟩]) := LH (by simpa using HM.out)
 clear HM
 have c0 := HM1.out.cell 1 0 rfl rfl
 go_wp2_with fail
 refine (gright_any (n : Int) w1).mono ?_
 rintro e w2 ⟨rfl, hb2⟩
 have HM2 := LH (HM1.out.later hb2)
 clear hb2 c0 HM1
 by_cases hr : 2 ≤ n ∧ n ≤ 256
 case neg =>
  have hr' : decide ((2 : Int) ≤ (n : Int) ∧ (n : Int) ≤ 256) = false := by rw [decide_eq_false_iff_not]; omega
  rw [hr']
  have HF2 := LH (fun w' h1 h2 => HP.out ⟨S, 26⟩ w' (by rw [HW.out, if_neg (fun hh => hr ⟨hh.1, hh.2.1⟩)]) h1 h2)
  clear hr hr'
  go_wp2_with fail
  exact HF2.out _ (HD.out.below HM2.out.below) (Touch.ofBelow HM2.out.below)
 have hr' : decide ((2 : Int) ≤ (n : Int) ∧ (n : Int) ≤ 256) = true := by rw [decide_eq_true_iff]; omega
 rw [hr']
 clear hr'
 have c0 := HM2.out.cell 1 0 rfl rfl
 go_wp2_with fail
 refine (gwords_any (n : Int) w2 (by omega) (by omega)).mono ?_
 rintro e w3 ⟨rfl, hb3⟩
 have HM3 := LH (HM2.out.later hb3)
 have hnI : (n : Int) * 512 = ((512 * n : Nat) : Int) := by omega
 rw [hnI]
 obtain ⟨K, hK⟩ : ∃ K, K = 512 * n := ⟨_, rfl⟩
 rw [← hK] at HW ⊢
 obtain ⟨l, hl⟩ : ∃ l, l = S.cache.length := ⟨_, rfl⟩
 rw [← hl] at HW
 have HLn := LH hl
 clear hb3 hnI hK hl c0 HM2
 go_wp2_with fail
 refine (dlen_any (HD.out.below HM3.out.below)).mono ?_
 rintro e w4 ⟨rfl, rfl⟩
 rw [← HLn.out]
 by_cases hc : K = l
 case neg =>
  have hc' : ((K : Int) == (l : Int)) = false := by rw [beq_eq_false_iff_ne]; omega
  have hc'' : ((K : Int) != (l : Int)) = true := by rw [bne_iff_ne]; omega
  have HF2 := LH (fun w' h1 h2 => HP.out ⟨S, 26⟩ w' (by rw [HW.out, if_neg (fun hh => hc hh.2.2)]) h1 h2)
  clear hc
  go_wp2_with fail
  exact HF2.out _ (HD.out.below HM3.out.below) (Touch.ofBelow HM3.out.below)
 have HF2 := LH (fun (D : Done) w' (h1 : D = (S.stores (upL 0 f 0 8)).bind (fun S => S.persist 0 8)) h2 h3 => HP.out D w' (by rw [HW.out, if_pos ⟨hr.1, hr.2, hc⟩, h1]) h2 h3)
 subst hc
 clear HP HW hr HLn
 have c0 := HM3.out.cell 0 0 rfl rfl
 have c1 := HM3.out.cell 0 1 rfl rfl
 go_upto_region 4 with fail
 go_wp2_with fail
 refine (HEn.out _).mono ?_
 rintro e w5 ⟨rfl, hb5⟩
 have HB5 := LH (HM3.out.below.trans (hb5.mono HM3.out.below.size))
 have HD5 := LH (HD.out.below HB5.out)
 clear hb5 c0 c1 HM3 HEn HD
 obtain ⟨A, hA⟩ : ∃ A : Array Value, A = #[vu64 (f 0), vu64 (f 1), vu64 (f 2), vu64 (f 3), vu64 (f 4), vu64 (f 5), vu64 (f 6), vu64 (f 7)] := ⟨_, rfl⟩
 rw [← hA]
 have HA : Hid (∀ k, k < 8 → A[k]? = some (vu64 (f k))) := LH (fun k hk => by
  rw [hA]
  rcases (by omega : k = 0 ∨ k = 1 ∨ k = 2 ∨ k = 3 ∨ k = 4 ∨ k = 5 ∨ k = 6 ∨ k = 7) with rfl | rfl | rfl | rfl | rfl | rfl | rfl | rfl <;> rfl)
 clear hA
 go_wp2_with fail
 go_loopw [24] (fun iv wr => ∃ (k : Nat) (T : Dev), k ≤ 8 ∧ iv = .int .i64 (k : Int) ∧ Hid (DevAt wr F T) ∧ Hid (Touch F.list w wr) ∧ Hid (T.ok (N + k)) ∧ Hid (T.stores (upL 0 f k 8) = S.stores (upL 0 f 0 8))) (fun iv _ => 8 - (intOf iv).toNat)
 case atStart => exact ⟨0, S, by omega, rfl, HD5, LH (Touch.ofBelow HB5.out), HO, LH rfl⟩
 case round =>
  obtain ⟨k, T, hk, rfl, HDr, HTr, HOr, HSt⟩ := hrel
  by_cases hlt : k < 8
  ·have hlt' : (k : Int) < 8 := by omega
   have HEq := LH (upL_cons 0 f hlt)
   rw [HEq.out, Nat.zero_add] at HSt
   have HSc := LH (stores_cons T k (f k) (upL 0 f (k + 1) 8))
   have HSt2 := LH (HSc.out.symm.trans HSt.out)
   clear HEq HSc HSt
   have hz : (0 : Int) + (k : Int) = (k : Int) := by omega
   go_wp2_with (refine wpList_index_arr k Tryz.underlying101 Tryz.underlying40 rfl (by kernel_rfl) rfl hlt (HA.out k hlt) rfl rfl rfl rfl ?_)
   refine (store_any HDr.out (N := N + k) (by omega) HOr.out (k : Int) (f k) (HF.out k)).mono ?_
   rintro e w6 ⟨rfl, hd6, ht6⟩
   have HD6 := LH hd6
   have HT6 := LH (HTr.out.trans ht6)
   have HO6 := LH (Dev.store_okN HOr.out (k : Int) (f k))
   clear hd6 ht6
   by_cases he : T.storeE (k : Int) = 0
   ·have HSt3 := LH (by rw [if_neg (by simp [he])] at HSt2; exact HSt2.out)
    rw [he]
    generalize T.store (k : Int) (f k) = T' at *
    clear he HSt2 HDr HTr HOr
    go_wp2_with fail
    exact ⟨⟨k + 1, T', by omega, vint (by omega), HD6, HT6, LH (HO6.out.mono (by omega)), HSt3⟩, by simp [intOf]; omega⟩
   ·have HSt3 := LH (by rw [if_pos he] at HSt2; exact HSt2.out)
    obtain ⟨er, her⟩ : ∃ er, er = T.storeE (k : Int) := ⟨_, rfl⟩
    have her1 : -9223372036854775808 ≤ er ∧ er ≤ 9223372036854775807 := by
     rw [her]; unfold Dev.storeE; split
     ·omega
     ·split <;> omega
    rw [← her] at he HSt3 ⊢
    have he' : (er != 0) = true := by simpa using he
    generalize T.store (k : Int) (f k) = T' at *
    have HF3 := LH (fun w' => HF2.out ⟨T', er⟩ w' (by rw [← HSt3.out, Done.bind_err _ he]))
    clear he her HSt2 HDr HTr HOr HSt3
    go_wp2_with fail
    exact HF3.out _ HD6.out HT6.out
  ·have hi8 : k = 8 := by omega
   have hltd : decide ((k : Int) < 8) = false := by simp; omega
   have HSt2 : Hid (S.stores (upL 0 f 0 8) = ⟨T, 0⟩) := LH (by rw [← HSt.out, upL_nil _ _ (by omega)]; rfl)
   clear HSt
   go_wp2_with fail
   refine (persist_any HDr.out (N := N + k) (by omega) HOr.out 0 8 (by omega) (by omega)).mono ?_
   rintro e w6 ⟨rfl, hd6, ht6⟩
   have HF3 := LH (fun w' => HF2.out (T.persist 0 8) w' (by rw [HSt2.out, Done.bind_ok]))
   have HT6 := LH (HTr.out.trans ht6)
   have HD6 := LH hd6
   clear hd6 ht6
   generalize T.persist 0 8 = D at *
   go_wp2_with fail
   exact HF3.out _ HD6.out HT6.out
end Go.Proofs.YtpohaahihdhleaaGreat
