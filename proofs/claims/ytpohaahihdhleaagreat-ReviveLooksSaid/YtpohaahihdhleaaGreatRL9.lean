/- Parts of the proof that ReviveLooks holds. -/
import Derived.Test.YtpohaahihdhleaaGreatRL8
set_option linter.unusedVariables false
set_option maxHeartbeats 16000000
set_option maxRecDepth 100000
namespace Go.Proofs.YtpohaahihdhleaaGreat
open Go.RowKit
def arrW (ws : List Nat) : Value := .agg (ws.map vu64).toArray
def magicN : Nat := 8390047168116913201
def supH (n id : Nat) : List Nat := [magicN, 1, n, id, 0, 0, 0]
def supN (n id : Nat) : List Nat := [magicN, 1, n, id, 0, 0, 0, wordsN (supH n id)]
theorem agg8 : Agg Tryz.prog 101 #[.int .u64 0, .int .u64 0, .int .u64 0, .int .u64 0, .int .u64 0, .int .u64 0, .int .u64 0, .int .u64 0] := ⟨⟨_, Tryz.underlying101, rfl⟩, by kernel_rfl⟩
theorem row_front {w : World} {g e : Nat} {xs ys : List Value} (h : RowAt w g e (xs ++ ys)) : Cells w (some ⟨g, 0, none⟩) xs :=
 .inr ⟨g, 0, rfl, fun i v hi => by
  rw [Nat.zero_add]
  exact h.cell (by rw [List.getElem?_append_left (List.getElem?_eq_some_iff.1 hi).1]; exact hi)⟩
theorem supH_lt {n id : Nat} (hn : n < 18446744073709551616) (hid : id < 18446744073709551616) : ∀ z ∈ supH n id, z < 18446744073709551616 := by
 intro z hz
 unfold supH magicN at hz
 simp only [List.mem_cons, List.not_mem_nil, or_false] at hz
 omega
def SupPost (n id : Nat) (w : World) : Ending → World → Prop := fun e w' => e = .returned (arrW (supN n id)) ∧ Below w.heap.size w w'
theorem sencode_any (n id : Nat) (hn : n ≤ 4000000000000000000) (hid : id < 18446744073709551616) (w : World) :
  Calls Tryz.prog 108 #[.agg #[.int .i64 (n : Int), vu64 id]] w (SupPost n id w) := by
 have HP : Hid (∀ w', Below w.heap.size w w' → SupPost n id w (.returned (.agg ((supN n id).map vu64).toArray)) w') := LH (fun w' h => ⟨rfl, h⟩)
 generalize SupPost n id w = Post at *
 have HM := LH (((Mem.one w #[.int .i64 (n : Int), vu64 id] 42).alloc #[.int .u64 0, .int .u64 0, .int .u64 0, .int .u64 0, .int .u64 0, .int .u64 0, .int .u64 0, .int .u64 0] 101).alloc #[vu64 magicN, vu64 1, vu64 n, vu64 id, vu64 0, vu64 0, vu64 0, vu64 0] 101)
 have d0 := (Mem.two w #[.int .i64 (n : Int), vu64 id] 42 #[.int .u64 0, .int .u64 0, .int .u64 0, .int .u64 0, .int .u64 0, .int .u64 0, .int .u64 0, .int .u64 0] 101).cell 0 0 rfl rfl
 have d1 := (Mem.two w #[.int .i64 (n : Int), vu64 id] 42 #[.int .u64 0, .int .u64 0, .int .u64 0, .int .u64 0, .int .u64 0, .int .u64 0, .int .u64 0, .int .u64 0] 101).cell 0 1 rfl rfl
 go_enter Tryz.func108, Tryz.ntmps108
 go_upto_region 2 with fail
 clear d0 d1
 obtain ⟨q1, hq1⟩ : ∃ q, q = w.heap.size := ⟨_, rfl⟩
 obtain ⟨q2, hq2⟩ : ∃ q, q = w.heap.size + 1 := ⟨_, rfl⟩
 obtain ⟨q3, hq3⟩ : ∃ q, q = w.heap.size + 1 + 1 := ⟨_, rfl⟩
 have HM0 : Hid (Mem w (((w.alloc (.cells #[.int .i64 (n : Int), vu64 id] 42)).alloc (.cells #[.int .u64 0, .int .u64 0, .int .u64 0, .int .u64 0, .int .u64 0, .int .u64 0, .int .u64 0, .int .u64 0] 101)).alloc (.cells #[.int .u64 8390047168116913201, .int .u64 1, .int .u64 (n : Int), .int .u64 (id : Int), .int .u64 0, .int .u64 0, .int .u64 0, .int .u64 0] 101)) [⟨q1, 42, [.int .i64 (n : Int), vu64 id], true⟩, ⟨q2, 101, (List.replicate 8 0).map vu64, true⟩, ⟨q3, 101, (supH n id).map vu64 ++ [vu64 0], true⟩]) := LH (by
  have := HM.out
  simp only [World.size_alloc] at this
  rw [hq1, hq2, hq3]
  exact this)
 rw [← hq3, ← hq2, ← hq1]
 obtain ⟨w1, hw1⟩ : ∃ w1, w1 = (((w.alloc (.cells #[.int .i64 (n : Int), vu64 id] 42)).alloc (.cells #[.int .u64 0, .int .u64 0, .int .u64 0, .int .u64 0, .int .u64 0, .int .u64 0, .int .u64 0, .int .u64 0] 101)).alloc (.cells #[.int .u64 8390047168116913201, .int .u64 1, .int .u64 (n : Int), .int .u64 (id : Int), .int .u64 0, .int .u64 0, .int .u64 0, .int .u64 0] 101)) := ⟨_, rfl⟩
 rw [← hw1] at HM0 ⊢
 clear hq1 hq2 hq3 HM hw1
 go_wp2_with fail
 refine (crcWords_any (some ⟨q3, 0, none⟩) 8 (supH n id) rfl w1 (row_front (HM0.out.at 2 rfl)) (supH_lt (by omega) hid) (by simp [supH])).mono ?_
 rintro e w2 ⟨rfl, hb2⟩
 have HM2 := LH (HM0.out.later hb2)
 have hlt := wordsN_lt (supH n id)
 have HS : Hid (supN n id = supH n id ++ [wordsN (supH n id)]) := LH rfl
 generalize wordsN (supH n id) = cr at *
 have c7 : w2.cell? ⟨q3, 7, none⟩ = some (vu64 0) := HM2.out.cell 2 7 rfl rfl
 have f7 := HM2.out.frozen 2 7 rfl
 have HM3 : Hid (Mem w (w2.setCell ⟨q3, 7, none⟩ (.int .u64 (cr : Int))) [⟨q1, 42, [.int .i64 (n : Int), vu64 id], true⟩, ⟨q2, 101, (List.replicate 8 0).map vu64, true⟩, ⟨q3, 101, (supN n id).map vu64, true⟩]) := LH (by
  have := HM2.out.set 2 7 (.int .u64 (cr : Int)) rfl (by simp [supH])
  rw [HS.out]
  exact this)
 clear hb2 HM0
 go_upto_region 3 with fail
 generalize w2.setCell _ _ = w3 at *
 clear c7 f7 HM2
 go_wp2_with (first
  | (refine wpList_load_mem agg8 HM3.out 2 rfl rfl rfl rfl rfl ?_)
  | (refine wpList_store_mem agg8 HM3.out 1 rfl rfl rfl rfl rfl rfl rfl rfl ?_; intro w6 h6 ht6; have H6 := LH h6; clear h6 ht6))
 exact bodyPost_ret (results_cell_row (p := 2) rfl _ _ _ _ _ _ _ rfl (H6.out.exact 1 rfl) Tryz.underlying101 rfl (by kernel_rfl)) rfl (HP.out _ H6.out.below)
theorem rsencode_any (n id : Nat) (hn : n ≤ 4000000000000000000) (hid : id < 18446744073709551616) (w : World) :
  Calls Tryz.prog 35 #[.int .i64 (n : Int), vu64 id] w (SupPost n id w) := by
 have HP : Hid (∀ w', Below w.heap.size w w' → SupPost n id w (.returned (.agg ((supN n id).map vu64).toArray)) w') := LH (fun w' h => ⟨rfl, h⟩)
 generalize SupPost n id w = Post at *
 have HM := LH (Mem.two w #[.int .u64 0, .int .u64 0, .int .u64 0, .int .u64 0, .int .u64 0, .int .u64 0, .int .u64 0, .int .u64 0] 101 #[vu64 magicN, vu64 1, vu64 n, vu64 id, vu64 0, vu64 0, vu64 0, vu64 0] 101)
 go_enter Tryz.func35, Tryz.ntmps35
 go_upto_region 2 with fail
 obtain ⟨q2, hq2⟩ : ∃ q, q = w.heap.size := ⟨_, rfl⟩
 obtain ⟨q3, hq3⟩ : ∃ q, q = w.heap.size + 1 := ⟨_, rfl⟩
 have HM0 : Hid (Mem w ((w.alloc (.cells #[.int .u64 0, .int .u64 0, .int .u64 0, .int .u64 0, .int .u64 0, .int .u64 0, .int .u64 0, .int .u64 0] 101)).alloc (.cells #[.int .u64 8390047168116913201, .int .u64 1, .int .u64 (n : Int), .int .u64 (id : Int), .int .u64 0, .int .u64 0, .int .u64 0, .int .u64 0] 101)) [⟨q2, 101, (List.replicate 8 0).map vu64, true⟩, ⟨q3, 101, (supH n id).map vu64 ++ [vu64 0], true⟩]) := LH (by
  rw [hq2, hq3]
  exact HM.out)
 rw [← hq3, ← hq2]
 obtain ⟨w1, hw1⟩ : ∃ w1, w1 = ((w.alloc (.cells #[.int .u64 0, .int .u64 0, .int .u64 0, .int .u64 0, .int .u64 0, .int .u64 0, .int .u64 0, .int .u64 0] 101)).alloc (.cells #[.int .u64 8390047168116913201, .int .u64 1, .int .u64 (n : Int), .int .u64 (id : Int), .int .u64 0, .int .u64 0, .int .u64 0, .int .u64 0] 101)) := ⟨_, rfl⟩
 rw [← hw1] at HM0 ⊢
 clear hq2 hq3 HM hw1
 go_wp2_with fail
 refine (rcrcWords_any (some ⟨q3, 0, none⟩) 8 (supH n id) rfl w1 (row_front (HM0.out.at 1 rfl)) (supH_lt (by omega) hid) (by simp [supH])).mono ?_
 rintro e w2 ⟨rfl, hb2⟩
 have HM2 := LH (HM0.out.later hb2)
 have hlt := wordsN_lt (supH n id)
 have HS : Hid (supN n id = supH n id ++ [wordsN (supH n id)]) := LH rfl
 generalize wordsN (supH n id) = cr at *
 have c7 : w2.cell? ⟨q3, 7, none⟩ = some (vu64 0) := HM2.out.cell 1 7 rfl rfl
 have f7 := HM2.out.frozen 1 7 rfl
 have HM3 : Hid (Mem w (w2.setCell ⟨q3, 7, none⟩ (.int .u64 (cr : Int))) [⟨q2, 101, (List.replicate 8 0).map vu64, true⟩, ⟨q3, 101, (supN n id).map vu64, true⟩]) := LH (by
  have := HM2.out.set 1 7 (.int .u64 (cr : Int)) rfl (by simp [supH])
  rw [HS.out]
  exact this)
 clear hb2 HM0
 go_upto_region 3 with fail
 generalize w2.setCell _ _ = w3 at *
 clear c7 f7 HM2
 go_wp2_with (first
  | (refine wpList_load_mem agg8 HM3.out 1 rfl rfl rfl rfl rfl ?_)
  | (refine wpList_store_mem agg8 HM3.out 0 rfl rfl rfl rfl rfl rfl rfl rfl ?_; intro w6 h6 ht6; have H6 := LH h6; clear h6 ht6))
 exact bodyPost_ret (results_cell_row (p := 4) rfl _ _ _ _ _ _ _ rfl (H6.out.exact 0 rfl) Tryz.underlying101 rfl (by kernel_rfl)) rfl (HP.out _ H6.out.below)
def supD (ws : List Nat) : Nat × Nat × Int :=
 if ws.getD 0 0 ≠ magicN then (0, 0, 24)
 else if ws.getD 7 0 ≠ wordsN (ws.take 7) then (0, 0, 25)
 else if 2 ≤ ws.getD 2 0 ∧ ws.getD 2 0 ≤ 256 ∧ supN (ws.getD 2 0) (ws.getD 3 0) = ws then (ws.getD 2 0, ws.getD 3 0, 0) else (0, 0, 26)
theorem equal8 (w : World) (xs ys : List Nat) (hx : xs.length = 8) (hy : ys.length = 8) : (Op.equalIn 10000 101 (.agg (xs.map vu64).toArray) (.agg (ys.map vu64).toArray)).run Tryz.prog w = .ok (decide (xs = ys)) w := by
 obtain ⟨i, hi⟩ := Option.isSome_iff_exists.1 infoU64
 have hn : ∀ l : List Nat, l.map vu64 = (l.map (fun n : Nat => (n : Int))).map (Value.int .u64) := by intro l; simp
 rw [show (10000 : Nat) = 9999 + 1 from rfl, run_equalIn_array w 9999 _ _ Tryz.underlying101 hi, cellsU64, show (9999 : Nat) = 9998 + 1 from rfl, hn xs, hn ys]
 obtain ⟨b, hb, hiff⟩ := run_eqItems_ints Tryz.underlying40 9998 w (xs.map (fun n : Nat => (n : Int))) (ys.map (fun n : Nat => (n : Int))) (List.range 8) (fun i hi => by simp at hi; simp; omega)
 rw [hb]
 have : b = decide (xs = ys) := by
  rw [Bool.eq_iff_iff, hiff, decide_eq_true_iff]
  constructor
  ·intro h
   apply List.ext_getElem (by rw [hx, hy])
   intro i h1 h2
   have := h i (by simp; omega)
   simp [h1, h2] at this
   omega
  ·rintro rfl; simp
 rw [this]
def rtI (r : Int) : Bool := decide (0 ≤ r ∧ r < 131072)
def slotR (ep : Nat) (rs : List Int) : Bool := rs.all rtI && decide (0 < ep)
theorem eight_ints {rs : List Int} (h : rs.length = 8) : ∃ a0 a1 a2 a3 a4 a5 a6 a7, rs = [a0, a1, a2, a3, a4, a5, a6, a7] := by
 match rs, h with
 | [a0, a1, a2, a3, a4, a5, a6, a7], _ => exact ⟨a0, a1, a2, a3, a4, a5, a6, a7, rfl⟩
def slotVal (ep : Nat) (rs : List Int) : Value := .agg (vu64 ep :: rs.map (Value.int .i64)).toArray
theorem all_bad {rs : List Int} {i : Nat} {r : Int} (hi : rs[i]? = some r) (h : rtI r = false) : rs.all rtI = false := by
 rw [List.all_eq_false]
 exact ⟨r, List.mem_of_getElem? hi, by rw [h]; decide⟩
theorem all_next {rs : List Int} {i : Nat} {r : Int} (h : (rs.take i).all rtI = true) (hi : rs[i]? = some r) (hr : rtI r = true) : (rs.take (i + 1)).all rtI = true := by
 rw [List.take_add_one, hi, List.all_append, h]
 simp [hr]
theorem slright_any (ep : Nat) (rs : List Int) (hl : rs.length = 8) (hep : ep < 18446744073709551616) (w : World) :
  Calls Tryz.prog 172 #[slotVal ep rs] w fun e w' => e = .returned (.bool (slotR ep rs)) ∧ Below w.heap.size w w' := by
 have HP : Hid (∀ b w', b = slotR ep rs → Below w.heap.size w w' → (fun e w' => e = Ending.returned (.bool (slotR ep rs)) ∧ Below w.heap.size w w') (.returned (.bool b)) w') := LH (fun b w' h1 h2 => by subst h1; exact ⟨rfl, h2⟩)
 generalize hPo : (fun e w' => e = Ending.returned (.bool (slotR ep rs)) ∧ Below w.heap.size w w') = Post at *
 clear hPo
 obtain ⟨a0, a1, a2, a3, a4, a5, a6, a7, rfl⟩ := eight_ints hl
 obtain ⟨rs, hrs⟩ : ∃ rs, rs = [a0, a1, a2, a3, a4, a5, a6, a7] := ⟨_, rfl⟩
 rw [← hrs] at HP
 have HRs := LH hrs
 have HBad : Hid (∀ (i : Nat) r, [a0, a1, a2, a3, a4, a5, a6, a7][i]? = some r → rtI r = false → false = slotR ep rs) := LH (fun i r h1 h2 => by
  unfold slotR; rw [hrs, all_bad h1 h2]; rfl)
 have HNx : Hid (∀ (i : Nat) r, [a0, a1, a2, a3, a4, a5, a6, a7][i]? = some r → (rs.take i).all rtI = true → rtI r = true → (rs.take (i + 1)).all rtI = true) := LH (fun i r h1 h2 h3 => all_next h2 (by rw [hrs]; exact h1) h3)
 clear hrs hl
 rw [show slotVal ep [a0, a1, a2, a3, a4, a5, a6, a7] = .agg #[vu64 ep, .int .i64 a0, .int .i64 a1, .int .i64 a2, .int .i64 a3, .int .i64 a4, .int .i64 a5, .int .i64 a6, .int .i64 a7] from rfl]
 have HM := LH (Mem.one w #[vu64 ep, .int .i64 a0, .int .i64 a1, .int .i64 a2, .int .i64 a3, .int .i64 a4, .int .i64 a5, .int .i64 a6, .int .i64 a7] 154)
 go_enter Tryz.func172, Tryz.ntmps172
 go_upto_region 1 with fail
 obtain ⟨q, hq⟩ : ∃ q, q = w.heap.size := ⟨_, rfl⟩
 rw [← hq] at HM ⊢
 generalize w.alloc _ = w1 at *
 clear hq
 have d0 := HM.out.cell 0 0 rfl rfl
 have d1 := HM.out.cell 0 1 rfl rfl
 have d2 := HM.out.cell 0 2 rfl rfl
 have d3 := HM.out.cell 0 3 rfl rfl
 have d4 := HM.out.cell 0 4 rfl rfl
 have d5 := HM.out.cell 0 5 rfl rfl
 have d6 := HM.out.cell 0 6 rfl rfl
 have d7 := HM.out.cell 0 7 rfl rfl
 have d8 := HM.out.cell 0 8 rfl rfl
 go_wp2_with fail
 go_loopw [7] (fun iv wr => ∃ i : Nat, i ≤ 8 ∧ iv = .int .i64 (i : Int) ∧ Hid ((rs.take i).all rtI = true) ∧ wr = w1) (fun iv _ => 8 - (intOf iv).toNat)
 case atStart => exact ⟨0, by omega, rfl, LH rfl, rfl⟩
 case round =>
  obtain ⟨i, hi, rfl, HA, rfl⟩ := hrel
  by_cases hlt : i < 8
  ·obtain ⟨r, hr⟩ : ∃ r, [a0, a1, a2, a3, a4, a5, a6, a7][i]? = some r := ⟨_, List.getElem?_eq_getElem (by simpa using hlt)⟩
   have HBi := LH (HBad.out i r hr)
   have HNi := LH (HNx.out i r hr HA.out)
   have hlt' : (i : Int) < 8 := by omega
   have HV : Hid ((#[Value.int .i64 a0, .int .i64 a1, .int .i64 a2, .int .i64 a3, .int .i64 a4, .int .i64 a5, .int .i64 a6, .int .i64 a7] : Array Value)[i]? = some (.int .i64 r)) := LH (by
    have : ([a0, a1, a2, a3, a4, a5, a6, a7].map (Value.int .i64))[i]? = some (.int .i64 r) := by rw [List.getElem?_map, hr]; rfl
    rw [← this]; simp)
   by_cases h1 : r < 0
   ·have HF := LH (HP.out false wr (HBi.out (by unfold rtI; rw [decide_eq_false]; omega)) HM.out.below)
    clear hr
    go_wp2_with (refine wpList_index_arr i Tryz.underlying24 Tryz.underlying3 rfl (by kernel_rfl) (by omega) (by omega) HV.out rfl rfl rfl rfl ?_)
    exact HF.out
   ·have h1' : decide (r < 0) = false := by simp; omega
    by_cases h2 : 131072 ≤ r
    ·have HF := LH (HP.out false wr (HBi.out (by unfold rtI; rw [decide_eq_false]; omega)) HM.out.below)
     clear hr h1
     go_wp2_with (refine wpList_index_arr i Tryz.underlying24 Tryz.underlying3 rfl (by kernel_rfl) (by omega) (by omega) HV.out rfl rfl rfl rfl ?_)
     exact HF.out
    ·have h2' : decide (131072 ≤ r) = false := by simp; omega
     have HN := LH (HNi.out (by unfold rtI; rw [decide_eq_true]; omega))
     clear hr h1 h2
     go_wp2_with (refine wpList_index_arr i Tryz.underlying24 Tryz.underlying3 rfl (by kernel_rfl) (by omega) (by omega) HV.out rfl rfl rfl rfl ?_)
     exact ⟨⟨i + 1, by omega, vint (by omega), HN, trivial⟩, by simp [intOf]; omega⟩
  ·have hi8 : i = 8 := by omega
   have hltd : decide ((i : Int) < 8) = false := by simp; omega
   have HF := LH (fun b (hb : b = decide (0 < ep)) => HP.out b wr (by
    have h9 := HA.out
    rw [hi8, List.take_of_length_le (by rw [HRs.out]; simp)] at h9
    unfold slotR; rw [h9, hb]; rfl) HM.out.below)
   clear hi8
   by_cases h0 : 0 < ep
   ·have h0' : (0 : Int) < (ep : Int) := by omega
    go_wp2_with fail
    exact HF.out true (by simp [h0])
   ·have h0' : decide ((0 : Int) < (ep : Int)) = false := by simp; omega
    go_wp2_with fail
    exact HF.out false (by simp [h0])
theorem rslright_any (ep : Nat) (rs : List Int) (hl : rs.length = 8) (hep : ep < 18446744073709551616) (w : World) :
  Calls Tryz.prog 85 #[slotVal ep rs] w fun e w' => e = .returned (.bool (slotR ep rs)) ∧ Below w.heap.size w w' := by
 have HP : Hid (∀ b w', b = slotR ep rs → Below w.heap.size w w' → (fun e w' => e = Ending.returned (.bool (slotR ep rs)) ∧ Below w.heap.size w w') (.returned (.bool b)) w') := LH (fun b w' h1 h2 => by subst h1; exact ⟨rfl, h2⟩)
 generalize hPo : (fun e w' => e = Ending.returned (.bool (slotR ep rs)) ∧ Below w.heap.size w w') = Post at *
 clear hPo
 obtain ⟨a0, a1, a2, a3, a4, a5, a6, a7, rfl⟩ := eight_ints hl
 obtain ⟨rs, hrs⟩ : ∃ rs, rs = [a0, a1, a2, a3, a4, a5, a6, a7] := ⟨_, rfl⟩
 rw [← hrs] at HP
 have HRs := LH hrs
 have HBad : Hid (∀ (i : Nat) r, [a0, a1, a2, a3, a4, a5, a6, a7][i]? = some r → rtI r = false → false = slotR ep rs) := LH (fun i r h1 h2 => by
  unfold slotR; rw [hrs, all_bad h1 h2]; rfl)
 have HNx : Hid (∀ (i : Nat) r, [a0, a1, a2, a3, a4, a5, a6, a7][i]? = some r → (rs.take i).all rtI = true → rtI r = true → (rs.take (i + 1)).all rtI = true) := LH (fun i r h1 h2 h3 => all_next h2 (by rw [hrs]; exact h1) h3)
 clear hrs hl
 rw [show slotVal ep [a0, a1, a2, a3, a4, a5, a6, a7] = .agg #[vu64 ep, .int .i64 a0, .int .i64 a1, .int .i64 a2, .int .i64 a3, .int .i64 a4, .int .i64 a5, .int .i64 a6, .int .i64 a7] from rfl]
 have HM := LH (Mem.one w #[vu64 ep, .int .i64 a0, .int .i64 a1, .int .i64 a2, .int .i64 a3, .int .i64 a4, .int .i64 a5, .int .i64 a6, .int .i64 a7] 55)
 go_enter Tryz.func85, Tryz.ntmps85
 go_upto_region 1 with fail
 obtain ⟨q, hq⟩ : ∃ q, q = w.heap.size := ⟨_, rfl⟩
 rw [← hq] at HM ⊢
 generalize w.alloc _ = w1 at *
 clear hq
 have d0 := HM.out.cell 0 0 rfl rfl
 go_wp2_with fail
 go_loopw [3] (fun iv wr => ∃ i : Nat, i ≤ 8 ∧ iv = .int .i64 (i : Int) ∧ Hid ((rs.take i).all rtI = true) ∧ wr = w1) (fun iv _ => 8 - (intOf iv).toNat)
 case atStart => exact ⟨0, by omega, rfl, LH rfl, rfl⟩
 case round =>
  obtain ⟨i, hi, rfl, HA, rfl⟩ := hrel
  by_cases hlt : i < 8
  ·obtain ⟨r, hr⟩ : ∃ r, [a0, a1, a2, a3, a4, a5, a6, a7][i]? = some r := ⟨_, List.getElem?_eq_getElem (by simpa using hlt)⟩
   have HBi := LH (HBad.out i r hr)
   have HNi := LH (HNx.out i r hr HA.out)
   have hlt' : (i : Int) < 8 := by omega
   have e1 : wr.cell? ⟨q, 1 + i, none⟩ = some (.int .i64 r) := HM.out.cell 0 (1 + i) rfl (by
    have : ([a0, a1, a2, a3, a4, a5, a6, a7].map (Value.int .i64))[i]? = some (.int .i64 r) := by rw [List.getElem?_map, hr]; rfl
    rw [← this, Nat.add_comm]
    show (vu64 ep :: [a0, a1, a2, a3, a4, a5, a6, a7].map (Value.int .i64))[i + 1]? = _
    rw [List.getElem?_cons_succ])
   by_cases h1 : r < 0
   ·have HF := LH (HP.out false wr (HBi.out (by unfold rtI; rw [decide_eq_false]; omega)) HM.out.below)
    clear hr
    go_wp2_with fail
    exact HF.out
   ·have h1' : decide (r < 0) = false := by simp; omega
    by_cases h2 : 131071 < r
    ·have HF := LH (HP.out false wr (HBi.out (by unfold rtI; rw [decide_eq_false]; omega)) HM.out.below)
     clear hr h1
     go_wp2_with fail
     exact HF.out
    ·have h2' : decide (131071 < r) = false := by simp; omega
     have HN := LH (HNi.out (by unfold rtI; rw [decide_eq_true]; omega))
     clear hr h1 h2
     go_wp2_with fail
     exact ⟨⟨i + 1, by omega, vint (by omega), HN, trivial⟩, by simp [intOf]; omega⟩
  ·have hi8 : i = 8 := by omega
   have hltd : decide ((i : Int) < 8) = false := by simp; omega
   have HF := LH (fun b (hb : b = decide (0 < ep)) => HP.out b wr (by
    have h9 := HA.out
    rw [hi8, List.take_of_length_le (by rw [HRs.out]; simp)] at h9
    unfold slotR; rw [h9, hb]; rfl) HM.out.below)
   clear hi8
   by_cases h0 : 0 < ep
   ·have h0' : (0 : Int) < (ep : Int) := by omega
    go_wp2_with fail
    exact HF.out true (by simp [h0])
   ·have h0' : decide ((0 : Int) < (ep : Int)) = false := by simp; omega
    go_wp2_with fail
    exact HF.out false (by simp [h0])
theorem gright_any (n : Int) (w : World) : Calls Tryz.prog 62 #[.agg #[.int .i64 n]] w fun e w' => e = .returned (.bool (decide (2 ≤ n ∧ n ≤ 256))) ∧ Below w.heap.size w w' := by
 have HM := LH (Mem.one w #[.int .i64 n] 44)
 have HP : Hid (∀ b w', b = decide (2 ≤ n ∧ n ≤ 256) → Below w.heap.size w w' → (fun e w' => e = Ending.returned (.bool (decide (2 ≤ n ∧ n ≤ 256))) ∧ Below w.heap.size w w') (.returned (.bool b)) w') := LH (fun b w' h1 h2 => by subst h1; exact ⟨rfl, h2⟩)
 generalize (fun e w' => e = Ending.returned (.bool (decide (2 ≤ n ∧ n ≤ 256))) ∧ Below w.heap.size w w') = Post at *
 go_enter Tryz.func62, Tryz.ntmps62
 go_upto_region 1 with fail
 obtain ⟨q, hq⟩ : ∃ q, q = w.heap.size := ⟨_, rfl⟩
 rw [← hq] at HM ⊢
 generalize w.alloc _ = w1 at *
 clear hq
 have d0 := HM.out.cell 0 0 rfl rfl
 by_cases h2 : 2 ≤ n
 ·by_cases h3 : n ≤ 256
  ·have HF := LH (HP.out true w1 (by simp [h2, h3]) HM.out.below)
   go_wp2_with fail
   exact HF.out
  ·have h3' : decide (n ≤ 256) = false := by simp; omega
   have HF := LH (HP.out false w1 (by simp; omega) HM.out.below)
   clear h3
   go_wp2_with fail
   exact HF.out
 ·have h2' : decide (2 ≤ n) = false := by simp; omega
  have HF := LH (HP.out false w1 (by simp; omega) HM.out.below)
  clear h2
  go_wp2_with fail
  exact HF.out
def SdPost (t : Nat × Nat × Int) (w : World) : Ending → World → Prop := fun e w' => e = .returned (.tuple #[.agg #[.int .i64 (t.1 : Int), vu64 t.2.1], .int .i64 t.2.2]) ∧ Below w.heap.size w w'
theorem eight_list {ws : List Nat} (h : ws.length = 8) : ∃ a0 a1 a2 a3 a4 a5 a6 a7, ws = [a0, a1, a2, a3, a4, a5, a6, a7] := by
 match ws, h with
 | [a0, a1, a2, a3, a4, a5, a6, a7], _ => exact ⟨a0, a1, a2, a3, a4, a5, a6, a7, rfl⟩
theorem aggSu : Agg Tryz.prog 42 #[.int .i64 0, .int .u64 0] := ⟨⟨_, Tryz.underlying42, rfl⟩, by kernel_rfl⟩
theorem sdecode_any (ws : List Nat) (hl : ws.length = 8) (hu : ∀ z ∈ ws, z < 18446744073709551616) (w : World) :
  Calls Tryz.prog 87 #[arrW ws] w (SdPost (supD ws) w) := by
 have HP : Hid (∀ (n id : Nat) (e : Int) w', (n, id, e) = supD ws → Below w.heap.size w w' → SdPost (supD ws) w (.returned (.tuple #[.agg #[.int .i64 (n : Int), vu64 id], .int .i64 e])) w') := LH (fun n id e w' h1 h2 => by rw [← h1]; exact ⟨rfl, h2⟩)
 generalize hPo : SdPost (supD ws) w = Post at *
 clear hPo
 obtain ⟨a0, a1, a2, a3, a4, a5, a6, a7, rfl⟩ := eight_list hl
 have h0 := hu a0 (by simp)
 have h2 := hu a2 (by simp)
 have h3 := hu a3 (by simp)
 have HU := LH hu
 have HD : Hid (supD [a0, a1, a2, a3, a4, a5, a6, a7] = if a0 ≠ magicN then (0, 0, 24) else if a7 ≠ wordsN [a0, a1, a2, a3, a4, a5, a6] then (0, 0, 25) else if 2 ≤ a2 ∧ a2 ≤ 256 ∧ supN a2 a3 = [a0, a1, a2, a3, a4, a5, a6, a7] then (a2, a3, 0) else (0, 0, 26)) := LH rfl
 clear hu hl
 rw [show arrW [a0, a1, a2, a3, a4, a5, a6, a7] = .agg #[vu64 a0, vu64 a1, vu64 a2, vu64 a3, vu64 a4, vu64 a5, vu64 a6, vu64 a7] from rfl]
 have HM := LH (Mem.two w #[vu64 a0, vu64 a1, vu64 a2, vu64 a3, vu64 a4, vu64 a5, vu64 a6, vu64 a7] 101 #[.int .i64 0, .int .u64 0] 42)
 go_enter Tryz.func87, Tryz.ntmps87
 go_upto_region 1 with fail
 obtain ⟨q1, hq1⟩ : ∃ q, q = w.heap.size := ⟨_, rfl⟩
 obtain ⟨q2, hq2⟩ : ∃ q, q = w.heap.size + 1 := ⟨_, rfl⟩
 rw [← hq2, ← hq1] at HM ⊢
 generalize (w.alloc _).alloc _ = w1 at *
 clear hq1 hq2
 have d0 := HM.out.cell 0 0 rfl rfl
 have d7 := HM.out.cell 0 7 rfl rfl
 by_cases e0 : a0 = magicN
 case neg =>
  have e0' : ((a0 : Int) == 8390047168116913201) = false := by rw [beq_eq_false_iff_ne]; unfold magicN at e0; omega
  have HF := LH (fun w' h => HP.out 0 0 24 w' (by rw [HD.out, if_pos e0]) h)
  clear e0
  go_wp2_with (refine wpList_store_mem aggSu HM.out 1 rfl rfl rfl rfl rfl rfl rfl rfl ?_; intro w6 h6 ht6; have H6 := LH h6; clear h6 ht6)
  refine bodyPost_ret (results_cell_row2 (p := 2) (u := 3) rfl _ _ _ _ _ _ _ rfl (H6.out.exact 1 rfl) Tryz.underlying42 rfl (by kernel_rfl)) rfl ?_
  exact HF.out _ H6.out.below
 have e0' : ((a0 : Int) == 8390047168116913201) = true := by rw [beq_iff_eq, e0]; rfl
 have HE0 := LH e0
 clear e0
 go_upto_region 3 with fail
 have r7 := fun x => later_cell d7 x
 clear d7 d0
 refine wp_region_seg (C := fun w' => ∃ x : Later (w1), w' = x.val) [.fl [0, 1, 2], .sq [3] true, .fl [4], .sq [5, 6] false] (by kernel_rfl) (by kernel_rfl) (by intro c a d v w h; cases d <;> exact h) ?_
 simp only [segs, picks, List.getElem?_cons_succ, List.getElem?_cons_zero]
 have hC1 := later_drew (w1)
 refine wpSeg_fl hC1 ?_
 repeat (first | go_big_quiet_step (fail) | quiet_step (fail))
 refine wpQuiet_nil ?_
 have HM1 := LH (HM.out.later (later_below hC1))
 clear r7
 refine wpSeg_sq (fun K hK => ?_)
 go_wp2_with fail
 refine (crcWords_any (some ⟨q1, 0, none⟩) 8 [a0, a1, a2, a3, a4, a5, a6] rfl _ (row_front (xs := [vu64 a0, vu64 a1, vu64 a2, vu64 a3, vu64 a4, vu64 a5, vu64 a6]) (ys := [vu64 a7]) (HM1.out.at 0 rfl)) (fun z hz => HU.out z (by simp only [List.mem_cons, List.not_mem_nil, or_false] at hz ⊢; omega)) (by simp)).mono ?_
 rintro e w2 ⟨rfl, hb2⟩
 have hC2 := later_step hC1 hb2
 have HM2 := LH (HM1.out.later hb2)
 have hlt := wordsN_lt [a0, a1, a2, a3, a4, a5, a6]
 have HW : Hid (wordsN [a0, a1, a2, a3, a4, a5, a6] = wordsN [a0, a1, a2, a3, a4, a5, a6]) := LH rfl
 obtain ⟨cr, hcr⟩ : ∃ cr, cr = wordsN [a0, a1, a2, a3, a4, a5, a6] := ⟨_, rfl⟩
 rw [← hcr] at hlt ⊢
 have HCr := LH hcr
 clear hb2 HW hcr HM1
 go_wp2_with fail
 refine hK _ _ (fun _ => hC2) ?_
 clear hK K
 refine wpSeg_fl hC2 ?_
 repeat (first | go_big_quiet_step (fail) | quiet_step (fail))
 refine wpQuiet_nil ?_
 clear hC1 hC2
 by_cases e7 : a7 = cr
 case neg =>
  have e7' : ((a7 : Int) == (cr : Int)) = false := by rw [beq_eq_false_iff_ne]; omega
  have HF := LH (fun w' h => HP.out 0 0 25 w' (by rw [HD.out, if_neg (by rw [HE0.out]; simp), if_pos (by rw [← HCr.out]; exact e7)]) h)
  clear e7
  refine wpSeg_last ?_
  go_wp2_with (refine wpList_store_mem aggSu HM2.out 1 rfl rfl rfl rfl rfl rfl rfl rfl ?_; intro w6 h6 ht6; have H6 := LH h6; clear h6 ht6)
  refine bodyPost_ret (results_cell_row2 (p := 2) (u := 3) rfl _ _ _ _ _ _ _ rfl (H6.out.exact 1 rfl) Tryz.underlying42 rfl (by kernel_rfl)) rfl ?_
  exact HF.out _ H6.out.below
 have e7' : ((a7 : Int) == (cr : Int)) = true := by rw [beq_iff_eq, e7]
 have HE7 := LH e7
 have d2 := HM2.out.cell 0 2 rfl rfl
 have d3 := HM2.out.cell 0 3 rfl rfl
 have HF := LH (fun (h9 : ¬ (2 ≤ a2 ∧ a2 ≤ 256)) w' h => HP.out 0 0 26 w' (by rw [HD.out, if_neg (by rw [HE0.out]; simp), if_neg (by rw [HE7.out, HCr.out]; simp), if_neg (fun hh => h9 ⟨hh.1, hh.2.1⟩)]) h)
 clear e7
 by_cases hA : a2 ≤ 1073741824
 case neg =>
  have hmn : min (a2 : Int) 1073741824 = 1073741824 := by omega
  have hA' : ¬ (a2 : Int) ≤ 1073741824 := by omega
  have HF := LH (HF.out (by omega))
  have hrd : decide (2 ≤ (1073741824 : Int) ∧ (1073741824 : Int) ≤ 256) = false := by decide
  have HM3 := LH (HM2.out.alloc #[.int .i64 1073741824, vu64 a3] 42)
  refine wpSeg_last ?_
  go_wp2_with fail
  go_upto_region 6 with fail
  obtain ⟨q4, hq4⟩ : ∃ q, q = w2.heap.size := ⟨_, rfl⟩
  rw [← hq4] at HM3 ⊢
  generalize w2.alloc _ = wc at *
  clear hq4 d2 d3 HM2
  have c0 := HM3.out.cell 2 0 rfl rfl
  have c1 := HM3.out.cell 2 1 rfl rfl
  refine wp_region_seg (C := fun w' => ∃ x : Later (wc), w' = x.val) [.sq [0, 1, 2, 3, 4, 5] false, .fl [6, 8], .sq [7] true, .sq [9, 10] false] (by kernel_rfl) (by kernel_rfl) (by intro c a d v w h; cases d <;> exact h) ?_
  simp only [segs, picks, List.getElem?_cons_succ, List.getElem?_cons_zero]
  have hC1 := later_drew (wc)
  refine wpSeg_sq (fun K hK => ?_)
  go_wp2_with fail
  refine (gright_any 1073741824 _).mono ?_
  rintro e w5 ⟨rfl, hb5⟩
  rw [hrd]
  have hC2 := later_step hC1 hb5
  have HM5 := LH (HM3.out.later (later_below hC2))
  clear hb5 c0 c1
  go_wp2_with fail
  refine hK _ _ (fun h => nomatch h) ?_
  clear hK K
  refine wpSeg_fl hC2 ?_
  repeat (first | go_big_quiet_step (fail) | quiet_step (fail))
  refine wpQuiet_nil ?_
  refine wpSeg_sq (fun K hK => ?_)
  go_wp2_with fail
  go_wp2_with fail
  refine hK _ _ (fun _ => hC2) ?_
  clear hK K
  clear hC1 hC2
  refine wpSeg_last ?_
  go_wp2_with (refine wpList_store_mem aggSu HM5.out 1 rfl rfl rfl rfl rfl rfl rfl rfl ?_; intro w6 h6 ht6; have H6 := LH h6; clear h6 ht6)
  refine bodyPost_ret (results_cell_row2 (p := 2) (u := 3) rfl _ _ _ _ _ _ _ rfl (H6.out.exact 1 rfl) Tryz.underlying42 rfl (by kernel_rfl)) rfl ?_
  exact HF.out _ H6.out.below
 have hmn : min (a2 : Int) 1073741824 = (a2 : Int) := by omega
 have hA' : (a2 : Int) ≤ 1073741824 := by omega
 have HM3 := LH (HM2.out.alloc #[.int .i64 (a2 : Int), vu64 a3] 42)
 refine wpSeg_last ?_
 go_wp2_with fail
 go_upto_region 6 with fail
 obtain ⟨q4, hq4⟩ : ∃ q, q = w2.heap.size := ⟨_, rfl⟩
 rw [← hq4] at HM3 ⊢
 generalize w2.alloc _ = wc at *
 clear hq4 d2 d3 HM2
 have c0 := HM3.out.cell 2 0 rfl rfl
 have c1 := HM3.out.cell 2 1 rfl rfl
 by_cases hr : 2 ≤ a2 ∧ a2 ≤ 256
 case neg =>
  have HF := LH (HF.out hr)
  have hrd : decide (2 ≤ (a2 : Int) ∧ (a2 : Int) ≤ 256) = false := by simp; omega
  clear hr
  refine wp_region_seg (C := fun w' => ∃ x : Later (wc), w' = x.val) [.sq [0, 1, 2, 3, 4, 5] false, .fl [6, 8], .sq [7] true, .sq [9, 10] false] (by kernel_rfl) (by kernel_rfl) (by intro c a d v w h; cases d <;> exact h) ?_
  simp only [segs, picks, List.getElem?_cons_succ, List.getElem?_cons_zero]
  have hC1 := later_drew (wc)
  refine wpSeg_sq (fun K hK => ?_)
  go_wp2_with fail
  refine (gright_any (a2 : Int) _).mono ?_
  rintro e w5 ⟨rfl, hb5⟩
  rw [hrd]
  have hC2 := later_step hC1 hb5
  have HM5 := LH (HM3.out.later (later_below hC2))
  clear hb5 c0 c1
  go_wp2_with fail
  refine hK _ _ (fun h => nomatch h) ?_
  clear hK K
  refine wpSeg_fl hC2 ?_
  repeat (first | go_big_quiet_step (fail) | quiet_step (fail))
  refine wpQuiet_nil ?_
  refine wpSeg_sq (fun K hK => ?_)
  go_wp2_with fail
  go_wp2_with fail
  refine hK _ _ (fun _ => hC2) ?_
  clear hK K
  clear hC1 hC2
  refine wpSeg_last ?_
  go_wp2_with (refine wpList_store_mem aggSu HM5.out 1 rfl rfl rfl rfl rfl rfl rfl rfl ?_; intro w6 h6 ht6; have H6 := LH h6; clear h6 ht6)
  refine bodyPost_ret (results_cell_row2 (p := 2) (u := 3) rfl _ _ _ _ _ _ _ rfl (H6.out.exact 1 rfl) Tryz.underlying42 rfl (by kernel_rfl)) rfl ?_
  exact HF.out _ H6.out.below
 have hrd : decide (2 ≤ (a2 : Int) ∧ (a2 : Int) ≤ 256) = true := by simp; omega
 have HSe := LH (fun w => sencode_any a2 a3 (by omega) h3 w)
 have b0 := HM3.out.cell 0 0 rfl rfl
 have b1 := HM3.out.cell 0 1 rfl rfl
 have b2 := HM3.out.cell 0 2 rfl rfl
 have b3 := HM3.out.cell 0 3 rfl rfl
 have b4 := HM3.out.cell 0 4 rfl rfl
 have b5 := HM3.out.cell 0 5 rfl rfl
 have b6 := HM3.out.cell 0 6 rfl rfl
 have b7 := HM3.out.cell 0 7 rfl rfl
 have r0 := fun x => later_cell b0 x
 have r1 := fun x => later_cell b1 x
 have r2 := fun x => later_cell b2 x
 have r3 := fun x => later_cell b3 x
 have r4 := fun x => later_cell b4 x
 have r5 := fun x => later_cell b5 x
 have r6 := fun x => later_cell b6 x
 have r7 := fun x => later_cell b7 x
 have rc0 := fun x => later_cell c0 x
 have rc1 := fun x => later_cell c1 x
 refine wp_region_seg (C := fun w' => ∃ x : Later (wc), w' = x.val) [.sq [0, 1, 2, 3, 4, 5] false, .fl [6, 8], .sq [7] true, .sq [9, 10] false] (by kernel_rfl) (by kernel_rfl) (by intro c a d v w h; cases d <;> exact h) ?_
 simp only [segs, picks, List.getElem?_cons_succ, List.getElem?_cons_zero]
 have hC1 := later_drew (wc)
 refine wpSeg_sq (fun K hK => ?_)
 go_wp2_with fail
 refine (gright_any (a2 : Int) _).mono ?_
 rintro e w5 ⟨rfl, hb5⟩
 rw [hrd]
 have hC2 := later_step hC1 hb5
 clear hb5 c0 c1 b0 b1 b2 b3 b4 b5 b6 b7
 go_wp2_with fail
 refine hK _ _ (fun h => nomatch h) ?_
 clear hK K
 refine wpSeg_fl hC2 ?_
 repeat (first | go_big_quiet_step (fail) | quiet_step (fail))
 refine wpQuiet_nil ?_
 clear r0 r1 r2 r3 r4 r5 r6 r7 rc0 rc1
 refine wpSeg_sq (fun K hK => ?_)
 go_wp2_with fail
 refine (HSe.out _).mono ?_
 rintro e w6 ⟨rfl, hb6⟩
 have hC3 := later_step hC2 hb6
 have HM6 := LH (HM3.out.later (later_below hC3))
 clear hb6
 go_wp2_with fail
 refine hK _ _ (fun _ => hC3) ?_
 clear hK K
 clear hC1 hC2 hC3
 have HSN : Hid (supN a2 a3 = [magicN, 1, a2, a3, 0, 0, 0, wordsN (supH a2 a3)]) := LH rfl
 rw [show arrW (supN a2 a3) = .agg #[vu64 magicN, vu64 1, vu64 a2, vu64 a3, vu64 0, vu64 0, vu64 0, vu64 (wordsN (supH a2 a3))] from rfl]
 have heq : ∀ w', (Op.equalIn 10000 101 (.agg #[vu64 magicN, vu64 1, vu64 a2, vu64 a3, vu64 0, vu64 0, vu64 0, vu64 (wordsN (supH a2 a3))]) (.agg #[vu64 a0, vu64 a1, vu64 a2, vu64 a3, vu64 a4, vu64 a5, vu64 a6, vu64 a7])).run Tryz.prog w' = .ok (decide (supN a2 a3 = [a0, a1, a2, a3, a4, a5, a6, a7])) w' := fun w' => equal8 w' (supN a2 a3) [a0, a1, a2, a3, a4, a5, a6, a7] rfl rfl
 by_cases hs : supN a2 a3 = [a0, a1, a2, a3, a4, a5, a6, a7]
 ·rw [decide_eq_true hs] at heq
  have HF2 := LH (fun w' h => HP.out a2 a3 0 w' (by rw [HD.out, if_neg (by rw [HE0.out]; simp), if_neg (by rw [HE7.out, HCr.out]; simp), if_pos ⟨hr.1, hr.2, hs⟩]) h)
  generalize wordsN (supH a2 a3) = sc at *
  generalize magicN = mg at *
  clear hs hr
  refine wpSeg_last ?_
  go_wp2_with (first | (refine wpList_load_mem aggSu HM6.out 2 rfl rfl rfl rfl rfl ?_) | (refine wpList_store_mem aggSu HM6.out 1 rfl rfl rfl rfl rfl rfl rfl rfl ?_; intro w6 h6 ht6; have H6 := LH h6; clear h6 ht6))
  refine bodyPost_ret (results_cell_row2 (p := 2) (u := 3) rfl _ _ _ _ _ _ _ rfl (H6.out.exact 1 rfl) Tryz.underlying42 rfl (by kernel_rfl)) rfl ?_
  exact HF2.out _ H6.out.below
 ·rw [decide_eq_false hs] at heq
  have HF2 := LH (fun w' h => HP.out 0 0 26 w' (by rw [HD.out, if_neg (by rw [HE0.out]; simp), if_neg (by rw [HE7.out, HCr.out]; simp), if_neg (fun hh => hs hh.2.2)]) h)
  generalize wordsN (supH a2 a3) = sc at *
  generalize magicN = mg at *
  clear hs hr
  refine wpSeg_last ?_
  go_wp2_with (refine wpList_store_mem aggSu HM6.out 1 rfl rfl rfl rfl rfl rfl rfl rfl ?_; intro w6 h6 ht6; have H6 := LH h6; clear h6 ht6)
  refine bodyPost_ret (results_cell_row2 (p := 2) (u := 3) rfl _ _ _ _ _ _ _ rfl (H6.out.exact 1 rfl) Tryz.underlying42 rfl (by kernel_rfl)) rfl ?_
  exact HF2.out _ H6.out.below
def RsdPost (t : Nat × Nat × Int) (w : World) : Ending → World → Prop := fun e w' => e = .returned (.tuple #[.int .i64 (t.1 : Int), vu64 t.2.1, .int .i64 t.2.2]) ∧ Below w.heap.size w w'
theorem rsdecode_any (ws : List Nat) (hl : ws.length = 8) (hu : ∀ z ∈ ws, z < 18446744073709551616) (w : World) :
  Calls Tryz.prog 49 #[arrW ws] w (RsdPost (supD ws) w) := by
 have HP : Hid (∀ (n id : Nat) (e : Int) w', (n, id, e) = supD ws → Below w.heap.size w w' → RsdPost (supD ws) w (.returned (.tuple #[.int .i64 (n : Int), vu64 id, .int .i64 e])) w') := LH (fun n id e w' h1 h2 => by rw [← h1]; exact ⟨rfl, h2⟩)
 generalize hPo : RsdPost (supD ws) w = Post at *
 clear hPo
 obtain ⟨a0, a1, a2, a3, a4, a5, a6, a7, rfl⟩ := eight_list hl
 have h0 := hu a0 (by simp)
 have h3 := hu a3 (by simp)
 have HU := LH hu
 have HD : Hid (supD [a0, a1, a2, a3, a4, a5, a6, a7] = if a0 ≠ magicN then (0, 0, 24) else if a7 ≠ wordsN [a0, a1, a2, a3, a4, a5, a6] then (0, 0, 25) else if 2 ≤ a2 ∧ a2 ≤ 256 ∧ supN a2 a3 = [a0, a1, a2, a3, a4, a5, a6, a7] then (a2, a3, 0) else (0, 0, 26)) := LH rfl
 clear hu hl
 rw [show arrW [a0, a1, a2, a3, a4, a5, a6, a7] = .agg #[vu64 a0, vu64 a1, vu64 a2, vu64 a3, vu64 a4, vu64 a5, vu64 a6, vu64 a7] from rfl]
 have HM := LH (Mem.one w #[vu64 a0, vu64 a1, vu64 a2, vu64 a3, vu64 a4, vu64 a5, vu64 a6, vu64 a7] 101)
 go_enter Tryz.func49, Tryz.ntmps49
 go_upto_region 1 with fail
 obtain ⟨q1, hq1⟩ : ∃ q, q = w.heap.size := ⟨_, rfl⟩
 rw [← hq1] at HM ⊢
 generalize w.alloc _ = w1 at *
 clear hq1
 have d0 := HM.out.cell 0 0 rfl rfl
 have d7 := HM.out.cell 0 7 rfl rfl
 by_cases e0 : a0 = magicN
 case neg =>
  have e0' : ((a0 : Int) == 8390047168116913201) = false := by rw [beq_eq_false_iff_ne]; unfold magicN at e0; omega
  have HF := LH (HP.out 0 0 24 w1 (by rw [HD.out, if_pos e0]) HM.out.below)
  clear e0
  go_wp2_with fail
  go_ret3
  exact HF.out
 have e0' : ((a0 : Int) == 8390047168116913201) = true := by rw [beq_iff_eq, e0]; rfl
 have HE0 := LH e0
 clear e0
 go_upto_region 3 with fail
 have r7 := fun x => later_cell d7 x
 clear d7 d0
 refine wp_region_seg (C := fun w' => ∃ x : Later (w1), w' = x.val) [.fl [0, 1, 2], .sq [3] true, .fl [4], .sq [5] false] (by kernel_rfl) (by kernel_rfl) (by intro c a d v w h; cases d <;> exact h) ?_
 simp only [segs, picks, List.getElem?_cons_succ, List.getElem?_cons_zero]
 have hC1 := later_drew (w1)
 refine wpSeg_fl hC1 ?_
 repeat (first | go_big_quiet_step (fail) | quiet_step (fail))
 refine wpQuiet_nil ?_
 have HM1 := LH (HM.out.later (later_below hC1))
 clear r7
 refine wpSeg_sq (fun K hK => ?_)
 go_wp2_with fail
 refine (rcrcWords_any (some ⟨q1, 0, none⟩) 8 [a0, a1, a2, a3, a4, a5, a6] rfl _ (row_front (xs := [vu64 a0, vu64 a1, vu64 a2, vu64 a3, vu64 a4, vu64 a5, vu64 a6]) (ys := [vu64 a7]) (HM1.out.at 0 rfl)) (fun z hz => HU.out z (by simp only [List.mem_cons, List.not_mem_nil, or_false] at hz ⊢; omega)) (by simp)).mono ?_
 rintro e w2 ⟨rfl, hb2⟩
 have hC2 := later_step hC1 hb2
 have HM2 := LH (HM1.out.later hb2)
 have hlt := wordsN_lt [a0, a1, a2, a3, a4, a5, a6]
 obtain ⟨cr, hcr⟩ : ∃ cr, cr = wordsN [a0, a1, a2, a3, a4, a5, a6] := ⟨_, rfl⟩
 rw [← hcr] at hlt ⊢
 have HCr := LH hcr
 clear hb2 hcr HM1
 go_wp2_with fail
 refine hK _ _ (fun _ => hC2) ?_
 clear hK K
 refine wpSeg_fl hC2 ?_
 repeat (first | go_big_quiet_step (fail) | quiet_step (fail))
 refine wpQuiet_nil ?_
 clear hC1 hC2
 by_cases e7 : a7 = cr
 case neg =>
  have e7' : ((a7 : Int) == (cr : Int)) = false := by rw [beq_eq_false_iff_ne]; omega
  have HF := LH (HP.out 0 0 25 w2 (by rw [HD.out, if_neg (by rw [HE0.out]; simp), if_pos (by rw [← HCr.out]; exact e7)]) HM2.out.below)
  clear e7
  refine wpSeg_last ?_
  go_wp2_with fail
  go_ret3
  exact HF.out
 have e7' : ((a7 : Int) == (cr : Int)) = true := by rw [beq_iff_eq, e7]
 have HE7 := LH e7
 clear e7
 have HD2 : Hid (supD [a0, a1, a2, a3, a4, a5, a6, a7] = if 2 ≤ a2 ∧ a2 ≤ 256 ∧ supN a2 a3 = [a0, a1, a2, a3, a4, a5, a6, a7] then (a2, a3, 0) else (0, 0, 26)) := LH (by rw [HD.out, if_neg (by rw [HE0.out]; simp), if_neg (by rw [HE7.out, HCr.out]; simp)])
 refine wpSeg_last ?_
 go_wp2_with fail
 rw [show ((a7 : Int) != (cr : Int)) = false by rw [bne, e7']; rfl]
 go_loopw [5] (fun iv wr => ∃ b : Nat, 2 ≤ b ∧ b ≤ 257 ∧ iv = .int .i64 (b : Int) ∧ Hid (∀ j, 2 ≤ j → j < b → supN j a3 ≠ [a0, a1, a2, a3, a4, a5, a6, a7]) ∧ Hid (Below w2.heap.size w2 wr)) (fun iv _ => 257 - (intOf iv).toNat)
 case atStart => exact ⟨2, by omega, by omega, rfl, LH (fun j h1 h2 => by omega), LH (Below.refl _ _)⟩
 case round =>
  obtain ⟨b, hb2, hb257, rfl, HNo, HB⟩ := hrel
  by_cases hlt2 : b ≤ 256
  ·have hlt' : (b : Int) ≤ 256 := by omega
   have HMr := LH (HM2.out.later HB.out)
   have b0 := HMr.out.cell 0 0 rfl rfl
   have b1 := HMr.out.cell 0 1 rfl rfl
   have b2 := HMr.out.cell 0 2 rfl rfl
   have b3 := HMr.out.cell 0 3 rfl rfl
   have b4 := HMr.out.cell 0 4 rfl rfl
   have b5 := HMr.out.cell 0 5 rfl rfl
   have b6 := HMr.out.cell 0 6 rfl rfl
   have b7 := HMr.out.cell 0 7 rfl rfl
   go_upto_region 8 with fail
   have r0 := fun x => later_cell b0 x
   have r1 := fun x => later_cell b1 x
   have r2 := fun x => later_cell b2 x
   have r3 := fun x => later_cell b3 x
   have r4 := fun x => later_cell b4 x
   have r5 := fun x => later_cell b5 x
   have r6 := fun x => later_cell b6 x
   have r7 := fun x => later_cell b7 x
   clear b0 b1 b2 b3 b4 b5 b6 b7
   refine wp_region_seg (C := fun w' => ∃ x : Later (wr), w' = x.val) [.fl [0, 1, 2, 4], .sq [3] true, .sq [5] false] (by kernel_rfl) (by kernel_rfl) (by intro c a d v w h; cases d <;> exact h) ?_
   simp only [segs, picks, List.getElem?_cons_succ, List.getElem?_cons_zero]
   have hC1 := later_drew (wr)
   refine wpSeg_fl hC1 ?_
   repeat (first | go_big_quiet_step (fail) | quiet_step (fail))
   refine wpQuiet_nil ?_
   clear r0 r1 r2 r3 r4 r5 r6 r7
   refine wpSeg_sq (fun K hK => ?_)
   go_wp2_with fail
   refine (rsencode_any b a3 (by omega) h3 _).mono ?_
   rintro e w5 ⟨rfl, hb5⟩
   have hC2 := later_step hC1 hb5
   have HM5 := LH (HMr.out.later (later_below hC2))
   have HB5 := LH (HB.out.trans ((later_below hC2).mono HB.out.size))
   clear hb5
   go_wp2_with fail
   refine hK _ _ (fun _ => hC2) ?_
   clear hK K
   clear hC1 hC2
   have c3 := HM5.out.cell 0 3 rfl rfl
   rw [show arrW (supN b a3) = .agg #[vu64 magicN, vu64 1, vu64 b, vu64 a3, vu64 0, vu64 0, vu64 0, vu64 (wordsN (supH b a3))] from rfl]
   have heq : ∀ w', (Op.equalIn 10000 101 (.agg #[vu64 magicN, vu64 1, vu64 b, vu64 a3, vu64 0, vu64 0, vu64 0, vu64 (wordsN (supH b a3))]) (.agg #[vu64 a0, vu64 a1, vu64 a2, vu64 a3, vu64 a4, vu64 a5, vu64 a6, vu64 a7])).run Tryz.prog w' = .ok (decide (supN b a3 = [a0, a1, a2, a3, a4, a5, a6, a7])) w' := fun w' => equal8 w' (supN b a3) [a0, a1, a2, a3, a4, a5, a6, a7] rfl rfl
   by_cases hs : supN b a3 = [a0, a1, a2, a3, a4, a5, a6, a7]
   ·rw [decide_eq_true hs] at heq
    have hba : b = a2 := by
     have : (supN b a3).getD 2 0 = [a0, a1, a2, a3, a4, a5, a6, a7].getD 2 0 := by rw [hs]
     exact this
    subst hba
    have HF := LH (fun w' h => HP.out b a3 0 w' (by rw [HD2.out, if_pos ⟨by omega, by omega, hs⟩]) h)
    have HBz := LH (HM2.out.below.trans (HB5.out.mono HM2.out.below.size))
    generalize wordsN (supH b a3) = sc at *
    generalize magicN = mg at *
    clear hs
    refine wpSeg_last ?_
    go_wp2_with fail
    go_upto_region 9 with fail
    have r3 := fun x => later_cell c3 x
    refine wp_region_seg (C := fun w' => ∃ x : Later (w5), w' = x.val) [.fl [0, 1, 2, 3], .sq [4, 5] false] (by kernel_rfl) (by kernel_rfl) (by intro c a d v w h; cases d <;> exact h) ?_
    simp only [segs, picks, List.getElem?_cons_succ, List.getElem?_cons_zero]
    have hC3 := later_drew (w5)
    refine wpSeg_fl hC3 ?_
    repeat (first | go_big_quiet_step (fail) | quiet_step (fail))
    refine wpQuiet_nil ?_
    have HBd := LH (HBz.out.trans ((later_below hC3).mono HBz.out.size))
    refine wpSeg_last ?_
    go_wp2_with fail
    go_ret3
    exact HF.out _ HBd.out
   ·rw [decide_eq_false hs] at heq
    have HNo5 : Hid (∀ j, 2 ≤ j → j < b + 1 → supN j a3 ≠ [a0, a1, a2, a3, a4, a5, a6, a7]) := LH (fun j h1 h2 => by
     by_cases e : j = b
     ·subst e; exact hs
     ·exact HNo.out j h1 (by omega))
    generalize wordsN (supH b a3) = sc at *
    generalize magicN = mg at *
    clear hs c3
    refine wpSeg_last ?_
    go_wp2_with fail
    refine ⟨⟨b + 1, by omega, by omega, vint (by omega), HNo5, HB5⟩, ?_⟩
    simp [intOf]; omega
  ·have hlt' : ¬ (b : Int) ≤ 256 := by omega
   have hltd : decide ((b : Int) ≤ 256) = false := by simp; omega
   have HF := LH (HP.out 0 0 26 wr (by rw [HD2.out, if_neg (fun hh => HNo.out a2 hh.1 (by omega) hh.2.2)]) (HM2.out.below.trans (HB.out.mono HM2.out.below.size)))
   go_wp2_with fail
   go_ret3
   exact HF.out
def rowN (n : Nat) (f : Nat → Nat) (i : Nat) : List Nat := (List.range n).map (fun k => if k < i then f k else 0)
theorem rowN_len (n : Nat) (f : Nat → Nat) (i : Nat) : (rowN n f i).length = n := by simp [rowN]
theorem rowN_at (n : Nat) (f : Nat → Nat) (i k : Nat) : (rowN n f i)[k]? = if k < n then some (if k < i then f k else 0) else none := by
 unfold rowN
 rw [List.getElem?_map]
 by_cases h : k < n
 ·rw [if_pos h, List.getElem?_eq_getElem (by simpa using h), List.getElem_range]; rfl
 ·rw [if_neg h, List.getElem?_eq_none (by simp; omega)]; rfl
theorem rowN_set {n : Nat} (f : Nat → Nat) {i : Nat} (hi : i < n) : (rowN n f i).set i (f i) = rowN n f (i + 1) := by
 apply List.ext_getElem?
 intro k
 rw [List.getElem?_set, rowN_at, rowN_at, rowN_len]
 by_cases e : i = k
 ·subst e
  rw [if_pos rfl, if_pos hi, if_pos hi, if_pos (by omega)]
 ·rw [if_neg e]
  by_cases h : k < n
  ·rw [if_pos h, if_pos h]
   by_cases h2 : k < i
   ·rw [if_pos h2, if_pos (by omega)]
   ·rw [if_neg h2, if_neg (by omega)]
  ·rw [if_neg h, if_neg h]
theorem rowN_all (n : Nat) (f : Nat → Nat) : rowN n f n = (List.range n).map f := by
 unfold rowN
 exact List.map_congr_left (fun k hk => by rw [if_pos (List.mem_range.1 hk)])
theorem rowN_none (n : Nat) (f : Nat → Nat) : rowN n f 0 = List.replicate n 0 := by
 apply List.ext_getElem?
 intro k
 rw [rowN_at, List.getElem?_replicate]
 by_cases h : k < n
 ·rw [if_pos h, if_pos h, if_neg (by omega)]
 ·rw [if_neg h, if_neg h]
def dwordsAt (S : Dev) (a n : Nat) : List Nat := (List.range n).map (fun k => peek S.cache ((a + k : Nat) : Int))
theorem peek_u64 {l : List Nat} (hu : ∀ z ∈ l, z < 18446744073709551616) (i : Int) : peek l i < 18446744073709551616 := by
 unfold peek
 split
 ·rw [List.getD_eq_getElem?_getD]
  cases h : l[i.toNat]? with
  | none => simp
  | some x => exact hu x (List.mem_of_getElem? h)
 ·omega
theorem dwordsAt_lt {S : Dev} (hu : ∀ z ∈ S.cache, z < 18446744073709551616) (a n : Nat) : ∀ z ∈ dwordsAt S a n, z < 18446744073709551616 := by
 intro z hz
 obtain ⟨k, _, rfl⟩ := List.mem_map.1 hz
 exact peek_u64 hu _
theorem dwordsAt_len (S : Dev) (a n : Nat) : (dwordsAt S a n).length = n := by simp [dwordsAt]
theorem sline_any {w : World} {F : Foot} {S : Dev} (h : DevAt w F S) :
  Calls Tryz.prog 88 #[vdev F] w fun e w' => e = .returned (arrW (dwordsAt S 0 8)) ∧ Below w.heap.size w w' := by
 have HP : Hid (∀ w', Below w.heap.size w w' → (fun e w' => e = Ending.returned (arrW (dwordsAt S 0 8)) ∧ Below w.heap.size w w') (.returned (arrW (dwordsAt S 0 8))) w') := LH (fun w' h => ⟨rfl, h⟩)
 generalize (fun e w' => e = Ending.returned (arrW (dwordsAt S 0 8)) ∧ Below w.heap.size w w') = Post at *
 obtain ⟨f, hf⟩ : ∃ f : Nat → Nat, f = fun k => peek S.cache ((0 + k : Nat) : Int) := ⟨_, rfl⟩
 have HAll : Hid (dwordsAt S 0 8 = rowN 8 f 8) := LH (by rw [rowN_all, hf]; rfl)
 have HDv := LH h
 have HG : Hid (∀ (k : Nat) w', Below w.heap.size w w' → Calls Tryz.prog 59 #[vdev F, .int .i64 (k : Int)] w' (fun e w2 => e = .returned (vu64 (f k)) ∧ w' = w2)) := LH (fun k w' hb => by
  rw [hf]
  have := dget_any (h.below hb) (k : Int)
  simpa using this)
 have HM := LH (Mem.two w ((rowN 8 f 0).map vu64).toArray 101 ((rowN 8 f 0).map vu64).toArray 101)
 clear h hf
 go_enter Tryz.func88, Tryz.ntmps88
 go_upto_region 2 with fail
 rw [show (#[.int .u64 0, .int .u64 0, .int .u64 0, .int .u64 0, .int .u64 0, .int .u64 0, .int .u64 0, .int .u64 0] : Array Value) = ((rowN 8 f 0).map vu64).toArray from rfl]
 obtain ⟨q2, hq2⟩ : ∃ q, q = w.heap.size := ⟨_, rfl⟩
 obtain ⟨q3, hq3⟩ : ∃ q, q = w.heap.size + 1 := ⟨_, rfl⟩
 rw [← hq3, ← hq2] at HM ⊢
 generalize (w.alloc _).alloc _ = w1 at *
 clear hq2 hq3
 have HM0 : Hid (Mem w w1 [⟨q2, 101, (rowN 8 f 0).map vu64, true⟩, ⟨q3, 101, (rowN 8 f 0).map vu64, true⟩]) := LH (by simpa using HM.out)
 clear HM
 go_wp2_with fail
 go_loopw [5] (fun iv wr => ∃ i : Nat, i ≤ 8 ∧ iv = .int .i64 (i : Int) ∧ Hid (Mem w wr [⟨q2, 101, (rowN 8 f 0).map vu64, true⟩, ⟨q3, 101, (rowN 8 f i).map vu64, true⟩])) (fun iv _ => 8 - (intOf iv).toNat)
 case atStart => exact ⟨0, by omega, rfl, HM0⟩
 case round =>
  obtain ⟨i, hi, rfl, HM⟩ := hrel
  by_cases hlt : i < 8
  ·have hlt' : (i : Int) < 8 := by omega
   have hz : (0 : Int) + (i : Int) = (i : Int) := by omega
   obtain ⟨u, hu⟩ : ∃ u, ((rowN 8 f i).map vu64)[i]? = some u := ⟨_, List.getElem?_eq_getElem (by rw [List.length_map, rowN_len]; exact hlt)⟩
   have HS : Hid (Mem w (wr.setCell ⟨q3, i, none⟩ (vu64 (f i))) [⟨q2, 101, (rowN 8 f 0).map vu64, true⟩, ⟨q3, 101, (rowN 8 f (i + 1)).map vu64, true⟩]) := LH (by
    have := HM.out.set 1 i (vu64 (f i)) rfl (by rw [List.length_map, rowN_len]; exact hlt)
    rw [← rowN_set f hlt, List.map_set]
    exact this)
   have c0 : wr.cell? ⟨q3, i, none⟩ = some u := HM.out.cell 1 i rfl hu
   have f0 := HM.out.frozen 1 i rfl
   have HGk := LH (HG.out i wr HM.out.below)
   clear hu
   go_wp2_with fail
   refine HGk.out.mono ?_
   rintro e w2 ⟨rfl, rfl⟩
   go_wp2_with fail
   exact ⟨⟨i + 1, by omega, vint (by omega), HS⟩, by simp [intOf]; omega⟩
  ·have hi8 : i = 8 := by omega
   have hltd : decide ((i : Int) < 8) = false := by simp; omega
   rw [hi8, ← HAll.out] at HM
   clear hi8
   go_wp2_with (first
    | (refine wpList_load_mem agg8 HM.out 1 rfl rfl rfl rfl (by rw [List.length_map, dwordsAt_len]; rfl) ?_)
    | (refine wpList_store_mem agg8 HM.out 0 rfl rfl rfl rfl rfl (by simp [dwordsAt_len]) (by simp [dwordsAt_len, rowN_len]) (by simp [Value.oneCell']) ?_; intro w6 h6 ht6; have H6 := LH h6; clear h6 ht6))
   refine bodyPost_ret (results_cell_row (p := 2) rfl _ _ _ _ _ _ _ rfl (H6.out.exact 0 rfl) Tryz.underlying101 rfl (by kernel_rfl)) rfl ?_
   exact HP.out _ H6.out.below
theorem rowN_skip {n : Nat} (f : Nat → Nat) {i : Nat} (hi : i < n) (h : f i = 0) : rowN n f (i + 1) = rowN n f i := by
 apply List.ext_getElem?
 intro k
 rw [rowN_at, rowN_at]
 by_cases e : k = i
 ·subst e
  rw [if_pos hi, if_pos hi, if_pos (by omega), if_neg (by omega), h]
 ·by_cases h1 : k < i
  ·rw [if_pos h1, if_pos (by omega : k < i + 1)]
  ·rw [if_neg h1, if_neg (by omega : ¬ k < i + 1)]
theorem aggSl : Agg Tryz.prog 154 #[.int .u64 0, .int .i64 0, .int .i64 0, .int .i64 0, .int .i64 0, .int .i64 0, .int .i64 0, .int .i64 0, .int .i64 0] := ⟨⟨_, Tryz.underlying154, rfl⟩, by kernel_rfl⟩
def slotH (ep : Nat) (ns : List Nat) (n : Nat) : List Nat := [ep, ns.getD (4 * n) 0, ns.getD (4 * n + 1) 0, ns.getD (4 * n + 2) 0, ns.getD (4 * n + 3) 0, n, 0]
def slotLn (ep : Nat) (ns : List Nat) (n : Nat) : List Nat := slotH ep ns n ++ [wordsN (slotH ep ns n)]
def slotE (ep : Nat) (ns : List Nat) : List Nat := slotLn ep ns 0 ++ slotLn ep ns 1
def slotW (ep : Nat) (rs : List Int) : List Nat := if slotR ep rs = true then slotE ep (rs.map Int.toNat) else List.replicate 16 0
theorem agg16 : Agg Tryz.prog 113 #[.int .u64 0, .int .u64 0, .int .u64 0, .int .u64 0, .int .u64 0, .int .u64 0, .int .u64 0, .int .u64 0, .int .u64 0, .int .u64 0, .int .u64 0, .int .u64 0, .int .u64 0, .int .u64 0, .int .u64 0, .int .u64 0] := ⟨⟨_, Tryz.underlying113, rfl⟩, by kernel_rfl⟩
theorem slotR_nat {rs : List Int} {ep : Nat} (h : slotR ep rs = true) : ∀ r ∈ rs, ∃ n : Nat, r = (n : Int) ∧ n < 131072 := fun r hr => by
 unfold slotR at h
 rw [Bool.and_eq_true, List.all_eq_true] at h
 have h1 := of_decide_eq_true (h.1 r hr)
 exact ⟨r.toNat, by omega, by omega⟩
theorem slotW_len (ep : Nat) (rs : List Int) : (slotW ep rs).length = 16 := by
 unfold slotW
 split
 ·rfl
 ·simp
def SlPost (ep : Nat) (rs : List Int) (w : World) : Ending → World → Prop := fun e w' => e = .returned (arrW (slotW ep rs)) ∧ Below w.heap.size w w'
theorem slencode_any (ep : Nat) (rs : List Int) (hl : rs.length = 8) (hep : ep < 18446744073709551616) (w : World) :
  Calls Tryz.prog 155 #[slotVal ep rs] w (SlPost ep rs w) := by
 have HP : Hid (∀ w', Below w.heap.size w w' → SlPost ep rs w (.returned (arrW (slotW ep rs))) w') := LH (fun w' h => ⟨rfl, h⟩)
 generalize hPo : SlPost ep rs w = Post at *
 clear hPo
 have HRt := LH (fun w => slright_any ep rs hl hep w)
 have HNat := LH (fun (h : slotR ep rs = true) => slotR_nat h)
 have HWd : Hid (slotW ep rs = if slotR ep rs = true then slotE ep (rs.map Int.toNat) else List.replicate 16 0) := LH rfl
 obtain ⟨a0, a1, a2, a3, a4, a5, a6, a7, rfl⟩ := eight_ints hl
 have hsv : slotVal ep [a0, a1, a2, a3, a4, a5, a6, a7] = .agg #[vu64 ep, .int .i64 a0, .int .i64 a1, .int .i64 a2, .int .i64 a3, .int .i64 a4, .int .i64 a5, .int .i64 a6, .int .i64 a7] := rfl
 rw [hsv]
 rw [hsv] at HRt
 have HM := LH ((Mem.two w #[vu64 ep, .int .i64 a0, .int .i64 a1, .int .i64 a2, .int .i64 a3, .int .i64 a4, .int .i64 a5, .int .i64 a6, .int .i64 a7] 154 #[.int .u64 0, .int .u64 0, .int .u64 0, .int .u64 0, .int .u64 0, .int .u64 0, .int .u64 0, .int .u64 0, .int .u64 0, .int .u64 0, .int .u64 0, .int .u64 0, .int .u64 0, .int .u64 0, .int .u64 0, .int .u64 0] 113).alloc #[.int .u64 0, .int .u64 0, .int .u64 0, .int .u64 0, .int .u64 0, .int .u64 0, .int .u64 0, .int .u64 0, .int .u64 0, .int .u64 0, .int .u64 0, .int .u64 0, .int .u64 0, .int .u64 0, .int .u64 0, .int .u64 0] 113)
 clear hsv hl
 go_enter Tryz.func155, Tryz.ntmps155
 go_upto_region 2 with fail
 obtain ⟨q1, hq1⟩ : ∃ q, q = w.heap.size := ⟨_, rfl⟩
 obtain ⟨q2, hq2⟩ : ∃ q, q = w.heap.size + 1 := ⟨_, rfl⟩
 obtain ⟨q3, hq3⟩ : ∃ q, q = w.heap.size + 1 + 1 := ⟨_, rfl⟩
 have HM0 : Hid (Mem w (((w.alloc (.cells #[vu64 ep, .int .i64 a0, .int .i64 a1, .int .i64 a2, .int .i64 a3, .int .i64 a4, .int .i64 a5, .int .i64 a6, .int .i64 a7] 154)).alloc (.cells #[.int .u64 0, .int .u64 0, .int .u64 0, .int .u64 0, .int .u64 0, .int .u64 0, .int .u64 0, .int .u64 0, .int .u64 0, .int .u64 0, .int .u64 0, .int .u64 0, .int .u64 0, .int .u64 0, .int .u64 0, .int .u64 0] 113)).alloc (.cells #[.int .u64 0, .int .u64 0, .int .u64 0, .int .u64 0, .int .u64 0, .int .u64 0, .int .u64 0, .int .u64 0, .int .u64 0, .int .u64 0, .int .u64 0, .int .u64 0, .int .u64 0, .int .u64 0, .int .u64 0, .int .u64 0] 113)) [⟨q1, 154, [vu64 ep, .int .i64 a0, .int .i64 a1, .int .i64 a2, .int .i64 a3, .int .i64 a4, .int .i64 a5, .int .i64 a6, .int .i64 a7], true⟩, ⟨q2, 113, (List.replicate 16 0).map vu64, true⟩, ⟨q3, 113, (List.replicate 16 0).map vu64, true⟩]) := LH (by
  have := HM.out
  simp only [World.size_alloc] at this
  rw [hq1, hq2, hq3]
  exact this)
 rw [← hq3, ← hq2, ← hq1]
 clear HM
 obtain ⟨w1, hw1⟩ : ∃ w1, w1 = (((w.alloc (.cells #[vu64 ep, .int .i64 a0, .int .i64 a1, .int .i64 a2, .int .i64 a3, .int .i64 a4, .int .i64 a5, .int .i64 a6, .int .i64 a7] 154)).alloc (.cells #[.int .u64 0, .int .u64 0, .int .u64 0, .int .u64 0, .int .u64 0, .int .u64 0, .int .u64 0, .int .u64 0, .int .u64 0, .int .u64 0, .int .u64 0, .int .u64 0, .int .u64 0, .int .u64 0, .int .u64 0, .int .u64 0] 113)).alloc (.cells #[.int .u64 0, .int .u64 0, .int .u64 0, .int .u64 0, .int .u64 0, .int .u64 0, .int .u64 0, .int .u64 0, .int .u64 0, .int .u64 0, .int .u64 0, .int .u64 0, .int .u64 0, .int .u64 0, .int .u64 0, .int .u64 0] 113)) := ⟨_, rfl⟩
 rw [← hw1] at HM0 ⊢
 clear hq1 hq2 hq3 hw1
 go_wp2_with (refine wpList_load_mem aggSl HM0.out 0 rfl rfl rfl rfl rfl ?_)
 refine (HRt.out w1).mono ?_
 rintro e w2 ⟨rfl, hb2⟩
 have HM2 := LH (HM0.out.later hb2)
 clear hb2 HM0
 by_cases hr : slotR ep [a0, a1, a2, a3, a4, a5, a6, a7] = true
 case neg =>
  have hrf : slotR ep [a0, a1, a2, a3, a4, a5, a6, a7] = false := by simpa using hr
  rw [hrf]
  have HF := LH (fun w' h => HP.out w' h)
  rw [HWd.out, if_neg hr] at HF
  clear hr
  go_wp2_with (first
   | (refine wpList_load_mem agg16 HM2.out 2 rfl rfl rfl rfl rfl ?_)
   | (refine wpList_store_mem agg16 HM2.out 1 rfl rfl rfl rfl rfl rfl rfl rfl ?_; intro w6 h6 ht6; have H6 := LH h6; clear h6 ht6))
  refine bodyPost_ret (results_cell_row (p := 2) rfl _ _ _ _ _ _ _ rfl (H6.out.exact 1 rfl) Tryz.underlying113 rfl (by kernel_rfl)) rfl ?_
  exact HF.out _ H6.out.below
 rw [hr]
 have HF := LH (fun w' h => HP.out w' h)
 rw [HWd.out, if_pos hr] at HF
 obtain ⟨n0, rfl, hn0⟩ := HNat.out hr a0 (by simp)
 obtain ⟨n1, rfl, hn1⟩ := HNat.out hr a1 (by simp)
 obtain ⟨n2, rfl, hn2⟩ := HNat.out hr a2 (by simp)
 obtain ⟨n3, rfl, hn3⟩ := HNat.out hr a3 (by simp)
 obtain ⟨n4, rfl, hn4⟩ := HNat.out hr a4 (by simp)
 obtain ⟨n5, rfl, hn5⟩ := HNat.out hr a5 (by simp)
 obtain ⟨n6, rfl, hn6⟩ := HNat.out hr a6 (by simp)
 obtain ⟨n7, rfl, hn7⟩ := HNat.out hr a7 (by simp)
 rw [show [(n0 : Int), n1, n2, n3, n4, n5, n6, n7].map Int.toNat = [n0, n1, n2, n3, n4, n5, n6, n7] from rfl] at HF
 obtain ⟨f, hf⟩ : ∃ f : Nat → Nat, f = fun k => (slotE ep [n0, n1, n2, n3, n4, n5, n6, n7]).getD k 0 := ⟨_, rfl⟩
 have HAll : Hid (rowN 16 f 16 = slotE ep [n0, n1, n2, n3, n4, n5, n6, n7]) := LH (by rw [rowN_all, hf]; rfl)
 obtain ⟨s0, hs0⟩ : ∃ s, s = wordsN (slotH ep [n0, n1, n2, n3, n4, n5, n6, n7] 0) := ⟨_, rfl⟩
 obtain ⟨s1, hs1⟩ : ∃ s, s = wordsN (slotH ep [n0, n1, n2, n3, n4, n5, n6, n7] 1) := ⟨_, rfl⟩
 have f0 : f 0 = ep := by rw [hf]; rfl
 have f1 : f 1 = n0 := by rw [hf]; rfl
 have f2 : f 2 = n1 := by rw [hf]; rfl
 have f3 : f 3 = n2 := by rw [hf]; rfl
 have f4 : f 4 = n3 := by rw [hf]; rfl
 have f5 : f 5 = 0 := by rw [hf]; rfl
 have f6 : f 6 = 0 := by rw [hf]; rfl
 have f7 : f 7 = s0 := by rw [hf, hs0]; rfl
 have f8 : f 8 = ep := by rw [hf]; rfl
 have f9 : f 9 = n4 := by rw [hf]; rfl
 have f10 : f 10 = n5 := by rw [hf]; rfl
 have f11 : f 11 = n6 := by rw [hf]; rfl
 have f12 : f 12 = n7 := by rw [hf]; rfl
 have f13 : f 13 = 1 := by rw [hf]; rfl
 have f14 : f 14 = 0 := by rw [hf]; rfl
 have f15 : f 15 = s1 := by rw [hf, hs1]; rfl
 have hl0 : s0 < 4294967296 := by rw [hs0]; exact wordsN_lt _
 have hl1 : s1 < 4294967296 := by rw [hs1]; exact wordsN_lt _
 have HC0 := LH (fun (a : Option Addr) (cap : Nat) (w' : World) (h : Cells w' a ((slotH ep [n0, n1, n2, n3, n4, n5, n6, n7] 0).map vu64)) => crcWords_any a cap (slotH ep [n0, n1, n2, n3, n4, n5, n6, n7] 0) (n := 7) rfl w' h (by intro z hz; simp only [slotH, List.mem_cons, List.not_mem_nil, or_false] at hz; rcases hz with rfl | rfl | rfl | rfl | rfl | rfl | rfl <;> (try simp) <;> omega) (by simp [slotH]))
 have HC1 := LH (fun (a : Option Addr) (cap : Nat) (w' : World) (h : Cells w' a ((slotH ep [n0, n1, n2, n3, n4, n5, n6, n7] 1).map vu64)) => crcWords_any a cap (slotH ep [n0, n1, n2, n3, n4, n5, n6, n7] 1) (n := 7) rfl w' h (by intro z hz; simp only [slotH, List.mem_cons, List.not_mem_nil, or_false] at hz; rcases hz with rfl | rfl | rfl | rfl | rfl | rfl | rfl <;> (try simp) <;> omega) (by simp [slotH]))
 rw [← hs0] at HC0
 rw [← hs1] at HC1
 have HM3 : Hid (Mem w w2 [⟨q1, 154, [vu64 ep, .int .i64 (n0 : Int), .int .i64 (n1 : Int), .int .i64 (n2 : Int), .int .i64 (n3 : Int), .int .i64 (n4 : Int), .int .i64 (n5 : Int), .int .i64 (n6 : Int), .int .i64 (n7 : Int)], true⟩, ⟨q2, 113, (List.replicate 16 0).map vu64, true⟩, ⟨q3, 113, (rowN 16 f (0)).map vu64, true⟩]) := LH (by rw [rowN_none]; exact HM2.out)
 clear hf hs0 hs1 HM2 HNat HWd hr
 go_wp2_with fail
 go_loopw [11] (fun iv wr => ∃ n : Nat, n ≤ 2 ∧ iv = .int .i64 (n : Int) ∧ Hid (Mem w wr [⟨q1, 154, [vu64 ep, .int .i64 (n0 : Int), .int .i64 (n1 : Int), .int .i64 (n2 : Int), .int .i64 (n3 : Int), .int .i64 (n4 : Int), .int .i64 (n5 : Int), .int .i64 (n6 : Int), .int .i64 (n7 : Int)], true⟩, ⟨q2, 113, (List.replicate 16 0).map vu64, true⟩, ⟨q3, 113, (rowN 16 f (8 * n)).map vu64, true⟩])) (fun iv _ => 2 - (intOf iv).toNat)
 case atStart => exact ⟨0, by omega, rfl, HM3⟩
 case round =>
  obtain ⟨n, hn, rfl, HM⟩ := hrel
  rcases (by omega : n = 0 ∨ n = 1 ∨ n = 2) with rfl | rfl | rfl
  ·rw [show ((0 : Nat) : Int) = 0 from rfl]
   rw [show (8 * 0) = 0 from rfl] at HM
   have e0 := HM.out.cell 0 0 rfl rfl
   obtain ⟨u, hu⟩ : ∃ u, ((rowN 16 f 0).map vu64)[0]? = some u := ⟨_, List.getElem?_eq_getElem (by rw [List.length_map, rowN_len]; omega)⟩
   have c0 : wr.cell? ⟨q3, 0, none⟩ = some u := HM.out.cell 2 0 rfl hu
   have k0 := HM.out.frozen 2 0 rfl
   have HS : Hid (Mem w (wr.setCell ⟨q3, 0, none⟩ (vu64 ep)) [⟨q1, 154, [vu64 ep, .int .i64 (n0 : Int), .int .i64 (n1 : Int), .int .i64 (n2 : Int), .int .i64 (n3 : Int), .int .i64 (n4 : Int), .int .i64 (n5 : Int), .int .i64 (n6 : Int), .int .i64 (n7 : Int)], true⟩, ⟨q2, 113, (List.replicate 16 0).map vu64, true⟩, ⟨q3, 113, (rowN 16 f (1)).map vu64, true⟩]) := LH (by
     have := HM.out.set 2 0 (vu64 (f 0)) rfl (by rw [List.length_map, rowN_len]; omega)
     rw [← List.map_set, rowN_set f (by omega : 0 < 16), f0] at this
     exact this)
   clear hu
   go_wp2_with fail
   go_loopw [24] (fun iv wx => ∃ i : Nat, i ≤ 4 ∧ iv = .int .i64 (i : Int) ∧ Hid (Mem w wx [⟨q1, 154, [vu64 ep, .int .i64 (n0 : Int), .int .i64 (n1 : Int), .int .i64 (n2 : Int), .int .i64 (n3 : Int), .int .i64 (n4 : Int), .int .i64 (n5 : Int), .int .i64 (n6 : Int), .int .i64 (n7 : Int)], true⟩, ⟨q2, 113, (List.replicate 16 0).map vu64, true⟩, ⟨q3, 113, (rowN 16 f (1 + i)).map vu64, true⟩])) (fun iv _ => 4 - (intOf iv).toNat)
   case atStart => exact ⟨0, by omega, rfl, HS⟩
   case round =>
    obtain ⟨i, hi, rfl, HMi⟩ := hrel
    rcases (by omega : i = 0 ∨ i = 1 ∨ i = 2 ∨ i = 3 ∨ i = 4) with rfl | rfl | rfl | rfl | rfl
    ·rw [show ((0 : Nat) : Int) = 0 from rfl]
     rw [show 1 + 0 = 1 from rfl] at HMi
     have e1 := HMi.out.cell 0 1 rfl rfl
     obtain ⟨u1, hu⟩ : ∃ u, ((rowN 16 f 1).map vu64)[1]? = some u := ⟨_, List.getElem?_eq_getElem (by rw [List.length_map, rowN_len]; omega)⟩
     have c1 : wr.cell? ⟨q3, 1, none⟩ = some u1 := HMi.out.cell 2 1 rfl hu
     have k1 := HMi.out.frozen 2 1 rfl
     have HT : Hid (Mem w (wr.setCell ⟨q3, 1, none⟩ (vu64 n0)) [⟨q1, 154, [vu64 ep, .int .i64 (n0 : Int), .int .i64 (n1 : Int), .int .i64 (n2 : Int), .int .i64 (n3 : Int), .int .i64 (n4 : Int), .int .i64 (n5 : Int), .int .i64 (n6 : Int), .int .i64 (n7 : Int)], true⟩, ⟨q2, 113, (List.replicate 16 0).map vu64, true⟩, ⟨q3, 113, (rowN 16 f (2)).map vu64, true⟩]) := LH (by
      have := HMi.out.set 2 1 (vu64 (f 1)) rfl (by rw [List.length_map, rowN_len]; omega)
      rw [← List.map_set, rowN_set f (by omega : 1 < 16), f1] at this
      exact this)
     clear hu
     go_wp2_with fail
     exact ⟨⟨1, by omega, rfl, HT⟩, by simp [intOf]⟩
    ·rw [show ((1 : Nat) : Int) = 1 from rfl]
     rw [show 1 + 1 = 2 from rfl] at HMi
     have e1 := HMi.out.cell 0 2 rfl rfl
     obtain ⟨u1, hu⟩ : ∃ u, ((rowN 16 f 2).map vu64)[2]? = some u := ⟨_, List.getElem?_eq_getElem (by rw [List.length_map, rowN_len]; omega)⟩
     have c1 : wr.cell? ⟨q3, 2, none⟩ = some u1 := HMi.out.cell 2 2 rfl hu
     have k1 := HMi.out.frozen 2 2 rfl
     have HT : Hid (Mem w (wr.setCell ⟨q3, 2, none⟩ (vu64 n1)) [⟨q1, 154, [vu64 ep, .int .i64 (n0 : Int), .int .i64 (n1 : Int), .int .i64 (n2 : Int), .int .i64 (n3 : Int), .int .i64 (n4 : Int), .int .i64 (n5 : Int), .int .i64 (n6 : Int), .int .i64 (n7 : Int)], true⟩, ⟨q2, 113, (List.replicate 16 0).map vu64, true⟩, ⟨q3, 113, (rowN 16 f (3)).map vu64, true⟩]) := LH (by
      have := HMi.out.set 2 2 (vu64 (f 2)) rfl (by rw [List.length_map, rowN_len]; omega)
      rw [← List.map_set, rowN_set f (by omega : 2 < 16), f2] at this
      exact this)
     clear hu
     go_wp2_with fail
     exact ⟨⟨2, by omega, rfl, HT⟩, by simp [intOf]⟩
    ·rw [show ((2 : Nat) : Int) = 2 from rfl]
     rw [show 1 + 2 = 3 from rfl] at HMi
     have e1 := HMi.out.cell 0 3 rfl rfl
     obtain ⟨u1, hu⟩ : ∃ u, ((rowN 16 f 3).map vu64)[3]? = some u := ⟨_, List.getElem?_eq_getElem (by rw [List.length_map, rowN_len]; omega)⟩
     have c1 : wr.cell? ⟨q3, 3, none⟩ = some u1 := HMi.out.cell 2 3 rfl hu
     have k1 := HMi.out.frozen 2 3 rfl
     have HT : Hid (Mem w (wr.setCell ⟨q3, 3, none⟩ (vu64 n2)) [⟨q1, 154, [vu64 ep, .int .i64 (n0 : Int), .int .i64 (n1 : Int), .int .i64 (n2 : Int), .int .i64 (n3 : Int), .int .i64 (n4 : Int), .int .i64 (n5 : Int), .int .i64 (n6 : Int), .int .i64 (n7 : Int)], true⟩, ⟨q2, 113, (List.replicate 16 0).map vu64, true⟩, ⟨q3, 113, (rowN 16 f (4)).map vu64, true⟩]) := LH (by
      have := HMi.out.set 2 3 (vu64 (f 3)) rfl (by rw [List.length_map, rowN_len]; omega)
      rw [← List.map_set, rowN_set f (by omega : 3 < 16), f3] at this
      exact this)
     clear hu
     go_wp2_with fail
     exact ⟨⟨3, by omega, rfl, HT⟩, by simp [intOf]⟩
    ·rw [show ((3 : Nat) : Int) = 3 from rfl]
     rw [show 1 + 3 = 4 from rfl] at HMi
     have e1 := HMi.out.cell 0 4 rfl rfl
     obtain ⟨u1, hu⟩ : ∃ u, ((rowN 16 f 4).map vu64)[4]? = some u := ⟨_, List.getElem?_eq_getElem (by rw [List.length_map, rowN_len]; omega)⟩
     have c1 : wr.cell? ⟨q3, 4, none⟩ = some u1 := HMi.out.cell 2 4 rfl hu
     have k1 := HMi.out.frozen 2 4 rfl
     have HT : Hid (Mem w (wr.setCell ⟨q3, 4, none⟩ (vu64 n3)) [⟨q1, 154, [vu64 ep, .int .i64 (n0 : Int), .int .i64 (n1 : Int), .int .i64 (n2 : Int), .int .i64 (n3 : Int), .int .i64 (n4 : Int), .int .i64 (n5 : Int), .int .i64 (n6 : Int), .int .i64 (n7 : Int)], true⟩, ⟨q2, 113, (List.replicate 16 0).map vu64, true⟩, ⟨q3, 113, (rowN 16 f (5)).map vu64, true⟩]) := LH (by
      have := HMi.out.set 2 4 (vu64 (f 4)) rfl (by rw [List.length_map, rowN_len]; omega)
      rw [← List.map_set, rowN_set f (by omega : 4 < 16), f4] at this
      exact this)
     clear hu
     go_wp2_with fail
     exact ⟨⟨4, by omega, rfl, HT⟩, by simp [intOf]⟩
    ·rw [show ((4 : Nat) : Int) = 4 from rfl]
     rw [show 1 + 4 = 5 from rfl] at HMi
     obtain ⟨u1, hu⟩ : ∃ u, ((rowN 16 f 5).map vu64)[5]? = some u := ⟨_, List.getElem?_eq_getElem (by rw [List.length_map, rowN_len]; omega)⟩
     have c1 : wr.cell? ⟨q3, 5, none⟩ = some u1 := HMi.out.cell 2 5 rfl hu
     have k1 := HMi.out.frozen 2 5 rfl
     have HT : Hid (Mem w (wr.setCell ⟨q3, 5, none⟩ (vu64 0)) [⟨q1, 154, [vu64 ep, .int .i64 (n0 : Int), .int .i64 (n1 : Int), .int .i64 (n2 : Int), .int .i64 (n3 : Int), .int .i64 (n4 : Int), .int .i64 (n5 : Int), .int .i64 (n6 : Int), .int .i64 (n7 : Int)], true⟩, ⟨q2, 113, (List.replicate 16 0).map vu64, true⟩, ⟨q3, 113, (rowN 16 f (7)).map vu64, true⟩]) := LH (by
      have := HMi.out.set 2 5 (vu64 (f 5)) rfl (by rw [List.length_map, rowN_len]; omega)
      rw [← List.map_set, rowN_set f (by omega : 5 < 16), f5, show 5 + 1 = 6 from rfl, ← rowN_skip f (by omega : 6 < 16) f6] at this
      exact this)
     clear hu
     go_upto_region 15 with fail
     generalize wr.setCell ⟨q3, 5, none⟩ (vu64 0) = wy at *
     have HCe : Hid (Cells wy (some ⟨q3, 0, none⟩) ((slotH ep [n0, n1, n2, n3, n4, n5, n6, n7] 0).map vu64)) := LH (by
      have := (((HT.out.at 2 rfl).cells).drop 0).take 7
      have h2 : ((rowN 16 f 7).drop 0).take 7 = slotH ep [n0, n1, n2, n3, n4, n5, n6, n7] 0 := by
       simp [rowN, List.range, List.range.loop, slotH, f0, f1, f2, f3, f4, f5, f6]
      rw [← List.map_drop, ← List.map_take, h2] at this
      simpa using this)
     have HCc := LH (HC0.out _ 16 wy HCe.out)
     go_wp2_with fail
     refine HCc.out.mono ?_
     rintro e w5 ⟨rfl, hb5⟩
     have HM5 := LH (HT.out.later hb5)
     obtain ⟨u2, hu⟩ : ∃ u, ((rowN 16 f 7).map vu64)[7]? = some u := ⟨_, List.getElem?_eq_getElem (by rw [List.length_map, rowN_len]; omega)⟩
     have c2 : w5.cell? ⟨q3, 7, none⟩ = some u2 := HM5.out.cell 2 7 rfl hu
     have k2 := HM5.out.frozen 2 7 rfl
     have HS5 : Hid (Mem w (w5.setCell ⟨q3, 7, none⟩ (vu64 s0)) [⟨q1, 154, [vu64 ep, .int .i64 (n0 : Int), .int .i64 (n1 : Int), .int .i64 (n2 : Int), .int .i64 (n3 : Int), .int .i64 (n4 : Int), .int .i64 (n5 : Int), .int .i64 (n6 : Int), .int .i64 (n7 : Int)], true⟩, ⟨q2, 113, (List.replicate 16 0).map vu64, true⟩, ⟨q3, 113, (rowN 16 f (8)).map vu64, true⟩]) := LH (by
      have := HM5.out.set 2 7 (vu64 (f 7)) rfl (by rw [List.length_map, rowN_len]; omega)
      rw [← List.map_set, rowN_set f (by omega : 7 < 16), f7] at this
      exact this)
     clear hu hb5
     go_wp2_with fail
     exact ⟨⟨1, by omega, rfl, HS5⟩, by simp [intOf]⟩
  ·rw [show ((1 : Nat) : Int) = 1 from rfl]
   rw [show (8 * 1) = 8 from rfl] at HM
   have e0 := HM.out.cell 0 0 rfl rfl
   obtain ⟨u, hu⟩ : ∃ u, ((rowN 16 f 8).map vu64)[8]? = some u := ⟨_, List.getElem?_eq_getElem (by rw [List.length_map, rowN_len]; omega)⟩
   have c0 : wr.cell? ⟨q3, 8, none⟩ = some u := HM.out.cell 2 8 rfl hu
   have k0 := HM.out.frozen 2 8 rfl
   have HS : Hid (Mem w (wr.setCell ⟨q3, 8, none⟩ (vu64 ep)) [⟨q1, 154, [vu64 ep, .int .i64 (n0 : Int), .int .i64 (n1 : Int), .int .i64 (n2 : Int), .int .i64 (n3 : Int), .int .i64 (n4 : Int), .int .i64 (n5 : Int), .int .i64 (n6 : Int), .int .i64 (n7 : Int)], true⟩, ⟨q2, 113, (List.replicate 16 0).map vu64, true⟩, ⟨q3, 113, (rowN 16 f (9)).map vu64, true⟩]) := LH (by
     have := HM.out.set 2 8 (vu64 (f 8)) rfl (by rw [List.length_map, rowN_len]; omega)
     rw [← List.map_set, rowN_set f (by omega : 8 < 16), f8] at this
     exact this)
   clear hu
   go_wp2_with fail
   go_loopw [24] (fun iv wx => ∃ i : Nat, i ≤ 4 ∧ iv = .int .i64 (i : Int) ∧ Hid (Mem w wx [⟨q1, 154, [vu64 ep, .int .i64 (n0 : Int), .int .i64 (n1 : Int), .int .i64 (n2 : Int), .int .i64 (n3 : Int), .int .i64 (n4 : Int), .int .i64 (n5 : Int), .int .i64 (n6 : Int), .int .i64 (n7 : Int)], true⟩, ⟨q2, 113, (List.replicate 16 0).map vu64, true⟩, ⟨q3, 113, (rowN 16 f (9 + i)).map vu64, true⟩])) (fun iv _ => 4 - (intOf iv).toNat)
   case atStart => exact ⟨0, by omega, rfl, HS⟩
   case round =>
    obtain ⟨i, hi, rfl, HMi⟩ := hrel
    rcases (by omega : i = 0 ∨ i = 1 ∨ i = 2 ∨ i = 3 ∨ i = 4) with rfl | rfl | rfl | rfl | rfl
    ·rw [show ((0 : Nat) : Int) = 0 from rfl]
     rw [show 9 + 0 = 9 from rfl] at HMi
     have e1 := HMi.out.cell 0 5 rfl rfl
     obtain ⟨u1, hu⟩ : ∃ u, ((rowN 16 f 9).map vu64)[9]? = some u := ⟨_, List.getElem?_eq_getElem (by rw [List.length_map, rowN_len]; omega)⟩
     have c1 : wr.cell? ⟨q3, 9, none⟩ = some u1 := HMi.out.cell 2 9 rfl hu
     have k1 := HMi.out.frozen 2 9 rfl
     have HT : Hid (Mem w (wr.setCell ⟨q3, 9, none⟩ (vu64 n4)) [⟨q1, 154, [vu64 ep, .int .i64 (n0 : Int), .int .i64 (n1 : Int), .int .i64 (n2 : Int), .int .i64 (n3 : Int), .int .i64 (n4 : Int), .int .i64 (n5 : Int), .int .i64 (n6 : Int), .int .i64 (n7 : Int)], true⟩, ⟨q2, 113, (List.replicate 16 0).map vu64, true⟩, ⟨q3, 113, (rowN 16 f (10)).map vu64, true⟩]) := LH (by
      have := HMi.out.set 2 9 (vu64 (f 9)) rfl (by rw [List.length_map, rowN_len]; omega)
      rw [← List.map_set, rowN_set f (by omega : 9 < 16), f9] at this
      exact this)
     clear hu
     go_wp2_with fail
     exact ⟨⟨1, by omega, rfl, HT⟩, by simp [intOf]⟩
    ·rw [show ((1 : Nat) : Int) = 1 from rfl]
     rw [show 9 + 1 = 10 from rfl] at HMi
     have e1 := HMi.out.cell 0 6 rfl rfl
     obtain ⟨u1, hu⟩ : ∃ u, ((rowN 16 f 10).map vu64)[10]? = some u := ⟨_, List.getElem?_eq_getElem (by rw [List.length_map, rowN_len]; omega)⟩
     have c1 : wr.cell? ⟨q3, 10, none⟩ = some u1 := HMi.out.cell 2 10 rfl hu
     have k1 := HMi.out.frozen 2 10 rfl
     have HT : Hid (Mem w (wr.setCell ⟨q3, 10, none⟩ (vu64 n5)) [⟨q1, 154, [vu64 ep, .int .i64 (n0 : Int), .int .i64 (n1 : Int), .int .i64 (n2 : Int), .int .i64 (n3 : Int), .int .i64 (n4 : Int), .int .i64 (n5 : Int), .int .i64 (n6 : Int), .int .i64 (n7 : Int)], true⟩, ⟨q2, 113, (List.replicate 16 0).map vu64, true⟩, ⟨q3, 113, (rowN 16 f (11)).map vu64, true⟩]) := LH (by
      have := HMi.out.set 2 10 (vu64 (f 10)) rfl (by rw [List.length_map, rowN_len]; omega)
      rw [← List.map_set, rowN_set f (by omega : 10 < 16), f10] at this
      exact this)
     clear hu
     go_wp2_with fail
     exact ⟨⟨2, by omega, rfl, HT⟩, by simp [intOf]⟩
    ·rw [show ((2 : Nat) : Int) = 2 from rfl]
     rw [show 9 + 2 = 11 from rfl] at HMi
     have e1 := HMi.out.cell 0 7 rfl rfl
     obtain ⟨u1, hu⟩ : ∃ u, ((rowN 16 f 11).map vu64)[11]? = some u := ⟨_, List.getElem?_eq_getElem (by rw [List.length_map, rowN_len]; omega)⟩
     have c1 : wr.cell? ⟨q3, 11, none⟩ = some u1 := HMi.out.cell 2 11 rfl hu
     have k1 := HMi.out.frozen 2 11 rfl
     have HT : Hid (Mem w (wr.setCell ⟨q3, 11, none⟩ (vu64 n6)) [⟨q1, 154, [vu64 ep, .int .i64 (n0 : Int), .int .i64 (n1 : Int), .int .i64 (n2 : Int), .int .i64 (n3 : Int), .int .i64 (n4 : Int), .int .i64 (n5 : Int), .int .i64 (n6 : Int), .int .i64 (n7 : Int)], true⟩, ⟨q2, 113, (List.replicate 16 0).map vu64, true⟩, ⟨q3, 113, (rowN 16 f (12)).map vu64, true⟩]) := LH (by
      have := HMi.out.set 2 11 (vu64 (f 11)) rfl (by rw [List.length_map, rowN_len]; omega)
      rw [← List.map_set, rowN_set f (by omega : 11 < 16), f11] at this
      exact this)
     clear hu
     go_wp2_with fail
     exact ⟨⟨3, by omega, rfl, HT⟩, by simp [intOf]⟩
    ·rw [show ((3 : Nat) : Int) = 3 from rfl]
     rw [show 9 + 3 = 12 from rfl] at HMi
     have e1 := HMi.out.cell 0 8 rfl rfl
     obtain ⟨u1, hu⟩ : ∃ u, ((rowN 16 f 12).map vu64)[12]? = some u := ⟨_, List.getElem?_eq_getElem (by rw [List.length_map, rowN_len]; omega)⟩
     have c1 : wr.cell? ⟨q3, 12, none⟩ = some u1 := HMi.out.cell 2 12 rfl hu
     have k1 := HMi.out.frozen 2 12 rfl
     have HT : Hid (Mem w (wr.setCell ⟨q3, 12, none⟩ (vu64 n7)) [⟨q1, 154, [vu64 ep, .int .i64 (n0 : Int), .int .i64 (n1 : Int), .int .i64 (n2 : Int), .int .i64 (n3 : Int), .int .i64 (n4 : Int), .int .i64 (n5 : Int), .int .i64 (n6 : Int), .int .i64 (n7 : Int)], true⟩, ⟨q2, 113, (List.replicate 16 0).map vu64, true⟩, ⟨q3, 113, (rowN 16 f (13)).map vu64, true⟩]) := LH (by
      have := HMi.out.set 2 12 (vu64 (f 12)) rfl (by rw [List.length_map, rowN_len]; omega)
      rw [← List.map_set, rowN_set f (by omega : 12 < 16), f12] at this
      exact this)
     clear hu
     go_wp2_with fail
     exact ⟨⟨4, by omega, rfl, HT⟩, by simp [intOf]⟩
    ·rw [show ((4 : Nat) : Int) = 4 from rfl]
     rw [show 9 + 4 = 13 from rfl] at HMi
     obtain ⟨u1, hu⟩ : ∃ u, ((rowN 16 f 13).map vu64)[13]? = some u := ⟨_, List.getElem?_eq_getElem (by rw [List.length_map, rowN_len]; omega)⟩
     have c1 : wr.cell? ⟨q3, 13, none⟩ = some u1 := HMi.out.cell 2 13 rfl hu
     have k1 := HMi.out.frozen 2 13 rfl
     have HT : Hid (Mem w (wr.setCell ⟨q3, 13, none⟩ (vu64 1)) [⟨q1, 154, [vu64 ep, .int .i64 (n0 : Int), .int .i64 (n1 : Int), .int .i64 (n2 : Int), .int .i64 (n3 : Int), .int .i64 (n4 : Int), .int .i64 (n5 : Int), .int .i64 (n6 : Int), .int .i64 (n7 : Int)], true⟩, ⟨q2, 113, (List.replicate 16 0).map vu64, true⟩, ⟨q3, 113, (rowN 16 f (15)).map vu64, true⟩]) := LH (by
      have := HMi.out.set 2 13 (vu64 (f 13)) rfl (by rw [List.length_map, rowN_len]; omega)
      rw [← List.map_set, rowN_set f (by omega : 13 < 16), f13, show 13 + 1 = 14 from rfl, ← rowN_skip f (by omega : 14 < 16) f14] at this
      exact this)
     clear hu
     go_upto_region 15 with fail
     generalize wr.setCell ⟨q3, 13, none⟩ (vu64 1) = wy at *
     have HCe : Hid (Cells wy (some ⟨q3, 8, none⟩) ((slotH ep [n0, n1, n2, n3, n4, n5, n6, n7] 1).map vu64)) := LH (by
      have := (((HT.out.at 2 rfl).cells).drop 8).take 7
      have h2 : ((rowN 16 f 15).drop 8).take 7 = slotH ep [n0, n1, n2, n3, n4, n5, n6, n7] 1 := by
       simp [rowN, List.range, List.range.loop, slotH, f8, f9, f10, f11, f12, f13, f14]
      rw [← List.map_drop, ← List.map_take, h2] at this
      simpa using this)
     have HCc := LH (HC1.out _ 8 wy HCe.out)
     go_wp2_with fail
     refine HCc.out.mono ?_
     rintro e w5 ⟨rfl, hb5⟩
     have HM5 := LH (HT.out.later hb5)
     obtain ⟨u2, hu⟩ : ∃ u, ((rowN 16 f 15).map vu64)[15]? = some u := ⟨_, List.getElem?_eq_getElem (by rw [List.length_map, rowN_len]; omega)⟩
     have c2 : w5.cell? ⟨q3, 15, none⟩ = some u2 := HM5.out.cell 2 15 rfl hu
     have k2 := HM5.out.frozen 2 15 rfl
     have HS5 : Hid (Mem w (w5.setCell ⟨q3, 15, none⟩ (vu64 s1)) [⟨q1, 154, [vu64 ep, .int .i64 (n0 : Int), .int .i64 (n1 : Int), .int .i64 (n2 : Int), .int .i64 (n3 : Int), .int .i64 (n4 : Int), .int .i64 (n5 : Int), .int .i64 (n6 : Int), .int .i64 (n7 : Int)], true⟩, ⟨q2, 113, (List.replicate 16 0).map vu64, true⟩, ⟨q3, 113, (rowN 16 f (16)).map vu64, true⟩]) := LH (by
      have := HM5.out.set 2 15 (vu64 (f 15)) rfl (by rw [List.length_map, rowN_len]; omega)
      rw [← List.map_set, rowN_set f (by omega : 15 < 16), f15] at this
      exact this)
     clear hu hb5
     go_wp2_with fail
     exact ⟨⟨2, by omega, rfl, HS5⟩, by simp [intOf]⟩
  ·rw [show ((2 : Nat) : Int) = 2 from rfl]
   rw [show (8 * 2) = 16 from rfl, HAll.out] at HM
   go_wp2_with (first
    | (refine wpList_load_mem agg16 HM.out 2 rfl rfl rfl rfl rfl ?_)
    | (refine wpList_store_mem agg16 HM.out 1 rfl rfl rfl rfl rfl rfl rfl rfl ?_; intro w6 h6 ht6; have H6 := LH h6; clear h6 ht6))
   refine bodyPost_ret (results_cell_row (p := 2) rfl _ _ _ _ _ _ _ rfl (H6.out.exact 1 rfl) Tryz.underlying113 rfl (by kernel_rfl)) rfl ?_
   exact HF.out _ H6.out.below
theorem equal16 (w : World) (xs ys : List Nat) (hx : xs.length = 16) (hy : ys.length = 16) : (Op.equalIn 10000 113 (.agg (xs.map vu64).toArray) (.agg (ys.map vu64).toArray)).run Tryz.prog w = .ok (decide (xs = ys)) w := by
 obtain ⟨i, hi⟩ := Option.isSome_iff_exists.1 infoU64
 have hn : ∀ l : List Nat, l.map vu64 = (l.map (fun n : Nat => (n : Int))).map (Value.int .u64) := by intro l; simp
 rw [show (10000 : Nat) = 9999 + 1 from rfl, run_equalIn_array w 9999 _ _ Tryz.underlying113 hi, cellsU64, show (9999 : Nat) = 9998 + 1 from rfl, hn xs, hn ys]
 obtain ⟨b, hb, hiff⟩ := run_eqItems_ints Tryz.underlying40 9998 w (xs.map (fun n : Nat => (n : Int))) (ys.map (fun n : Nat => (n : Int))) (List.range 16) (fun i hi => by simp at hi; simp; omega)
 rw [hb]
 have : b = decide (xs = ys) := by
  rw [Bool.eq_iff_iff, hiff, decide_eq_true_iff]
  constructor
  ·intro h
   apply List.ext_getElem (by rw [hx, hy])
   intro i h1 h2
   have := h i (by simp; omega)
   simp [h1, h2] at this
   omega
  ·rintro rfl; simp
 rw [this]
theorem sixteen_list {ws : List Nat} (h : ws.length = 16) : ∃ a0 a1 a2 a3 a4 a5 a6 a7 a8 a9 a10 a11 a12 a13 a14 a15, ws = [a0, a1, a2, a3, a4, a5, a6, a7, a8, a9, a10, a11, a12, a13, a14, a15] := by
 match ws, h with
 | [a0, a1, a2, a3, a4, a5, a6, a7, a8, a9, a10, a11, a12, a13, a14, a15], _ => exact ⟨a0, a1, a2, a3, a4, a5, a6, a7, a8, a9, a10, a11, a12, a13, a14, a15, rfl⟩
def capN (n : Nat) : Nat := min n 1099511627776
def slotRs (ws : List Nat) : List Int := [((capN (ws.getD 1 0) : Nat) : Int), ((capN (ws.getD 2 0) : Nat) : Int), ((capN (ws.getD 3 0) : Nat) : Int), ((capN (ws.getD 4 0) : Nat) : Int), ((capN (ws.getD 9 0) : Nat) : Int), ((capN (ws.getD 10 0) : Nat) : Int), ((capN (ws.getD 11 0) : Nat) : Int), ((capN (ws.getD 12 0) : Nat) : Int)]
def slotD (ws : List Nat) : Nat × List Int × Int :=
 if ws.getD 7 0 ≠ wordsN (ws.take 7) then (0, [0, 0, 0, 0, 0, 0, 0, 0], 25) else
 if ws.getD 15 0 ≠ wordsN ((ws.drop 8).take 7) then (0, [0, 0, 0, 0, 0, 0, 0, 0], 25) else
 if slotR (ws.getD 0 0) (slotRs ws) = true ∧ slotW (ws.getD 0 0) (slotRs ws) = ws then (ws.getD 0 0, slotRs ws, 0) else (0, [0, 0, 0, 0, 0, 0, 0, 0], 26)
def rowZ (f : Nat → Nat) (i : Nat) : List Value := (List.range 8).map (fun k => .int .i64 (if k < i then (f k : Int) else 0))
theorem rowZ_len (f : Nat → Nat) (i : Nat) : (rowZ f i).length = 8 := by simp [rowZ]
theorem rowZ_set (f : Nat → Nat) {i : Nat} (hi : i < 8) : (rowZ f i).set i (.int .i64 (f i : Int)) = rowZ f (i + 1) := by
 unfold rowZ
 apply List.ext_getElem?
 intro k
 rw [List.getElem?_set]
 simp only [List.getElem?_map, List.length_map, List.length_range]
 by_cases e : i = k
 ·subst e
  rw [if_pos rfl, if_pos hi, List.getElem?_eq_getElem (by simpa using hi), List.getElem_range]
  simp
 ·rw [if_neg e]
  by_cases h : k < 8
  ·rw [List.getElem?_eq_getElem (by simpa using h), List.getElem_range]
   by_cases h2 : k < i
   ·simp [h2, show k < i + 1 by omega]
   ·simp [h2, show ¬ k < i + 1 by omega]
  ·rw [List.getElem?_eq_none (by simp; omega)]; rfl
def SlD (r : Nat × List Int × Int) (w : World) : Ending → World → Prop := fun e w' => e = .returned (.tuple #[slotVal r.1 r.2.1, .int .i64 r.2.2]) ∧ Below w.heap.size w w'
theorem sldecode_any (ws : List Nat) (hl : ws.length = 16) (hu : ∀ z ∈ ws, z < 18446744073709551616) (w : World) :
  Calls Tryz.prog 140 #[arrW ws] w (SlD (slotD ws) w) := by
 have HP : Hid (∀ (n : Nat) (rs : List Int) (e : Int) w', (n, rs, e) = slotD ws → Below w.heap.size w w' → SlD (slotD ws) w (.returned (.tuple #[slotVal n rs, .int .i64 e])) w') := LH (fun n id e w' h1 h2 => by rw [← h1]; exact ⟨rfl, h2⟩)
 generalize hPo : SlD (slotD ws) w = Post at *
 clear hPo
 have hr' : ∀ i, ws.getD i 0 < 18446744073709551616 := fun i => by
  rw [List.getD_eq_getElem?_getD]
  cases h : ws[i]? with
  | none => simp
  | some x => exact hu x (List.mem_of_getElem? h)
 obtain ⟨a0, a1, a2, a3, a4, a5, a6, a7, a8, a9, a10, a11, a12, a13, a14, a15, rfl⟩ := sixteen_list hl
 obtain ⟨rs, hrs⟩ : ∃ rs, rs = slotRs [a0, a1, a2, a3, a4, a5, a6, a7, a8, a9, a10, a11, a12, a13, a14, a15] := ⟨_, rfl⟩
 have HRs : Hid (rs = [capN a1, capN a2, capN a3, capN a4, capN a9, capN a10, capN a11, capN a12].map (fun n : Nat => (n : Int))) := LH hrs
 have HU := LH hu
 have h0 : a0 < 18446744073709551616 := hr' 0
 have h1 : a1 < 18446744073709551616 := hr' 1
 have h2 : a2 < 18446744073709551616 := hr' 2
 have h3 : a3 < 18446744073709551616 := hr' 3
 have h4 : a4 < 18446744073709551616 := hr' 4
 have h5 : a5 < 18446744073709551616 := hr' 5
 have h6 : a6 < 18446744073709551616 := hr' 6
 have h7 : a7 < 18446744073709551616 := hr' 7
 have h8 : a8 < 18446744073709551616 := hr' 8
 have h9 : a9 < 18446744073709551616 := hr' 9
 have h10 : a10 < 18446744073709551616 := hr' 10
 have h11 : a11 < 18446744073709551616 := hr' 11
 have h12 : a12 < 18446744073709551616 := hr' 12
 have h13 : a13 < 18446744073709551616 := hr' 13
 have h14 : a14 < 18446744073709551616 := hr' 14
 have h15 : a15 < 18446744073709551616 := hr' 15
 have HD : Hid (slotD [a0, a1, a2, a3, a4, a5, a6, a7, a8, a9, a10, a11, a12, a13, a14, a15] = if a7 ≠ wordsN [a0, a1, a2, a3, a4, a5, a6] then (0, [0, 0, 0, 0, 0, 0, 0, 0], 25) else if a15 ≠ wordsN [a8, a9, a10, a11, a12, a13, a14] then (0, [0, 0, 0, 0, 0, 0, 0, 0], 25) else if slotR a0 rs = true ∧ slotW a0 rs = [a0, a1, a2, a3, a4, a5, a6, a7, a8, a9, a10, a11, a12, a13, a14, a15] then (a0, rs, 0) else (0, [0, 0, 0, 0, 0, 0, 0, 0], 26)) := LH (by rw [hrs]; rfl)
 rw [HD.out] at HP
 clear hu hl hrs hr' HD
 rw [show arrW [a0, a1, a2, a3, a4, a5, a6, a7, a8, a9, a10, a11, a12, a13, a14, a15] = .agg #[vu64 a0, vu64 a1, vu64 a2, vu64 a3, vu64 a4, vu64 a5, vu64 a6, vu64 a7, vu64 a8, vu64 a9, vu64 a10, vu64 a11, vu64 a12, vu64 a13, vu64 a14, vu64 a15] from rfl]
 have HM := LH (Mem.two w #[vu64 a0, vu64 a1, vu64 a2, vu64 a3, vu64 a4, vu64 a5, vu64 a6, vu64 a7, vu64 a8, vu64 a9, vu64 a10, vu64 a11, vu64 a12, vu64 a13, vu64 a14, vu64 a15] 113 #[.int .u64 0, .int .i64 0, .int .i64 0, .int .i64 0, .int .i64 0, .int .i64 0, .int .i64 0, .int .i64 0, .int .i64 0] 154)
 go_enter Tryz.func140, Tryz.ntmps140
 go_upto_region 1 with fail
 obtain ⟨q1, hq1⟩ : ∃ q, q = w.heap.size := ⟨_, rfl⟩
 obtain ⟨q2, hq2⟩ : ∃ q, q = w.heap.size + 1 := ⟨_, rfl⟩
 rw [← hq2, ← hq1] at HM ⊢
 generalize (w.alloc _).alloc _ = w1 at *
 clear hq1 hq2
 have HM1 : Hid (Mem w w1 [⟨q1, 113, [a0, a1, a2, a3, a4, a5, a6, a7, a8, a9, a10, a11, a12, a13, a14, a15].map vu64, true⟩, ⟨q2, 154, [.int .u64 0, .int .i64 0, .int .i64 0, .int .i64 0, .int .i64 0, .int .i64 0, .int .i64 0, .int .i64 0, .int .i64 0], true⟩]) := LH (by simpa using HM.out)
 clear HM
 go_wp2_with fail
 go_loopw [8] (fun iv wr => ∃ n : Nat, n ≤ 2 ∧ iv = .int .i64 (n : Int) ∧ Hid (1 ≤ n → a7 = wordsN [a0, a1, a2, a3, a4, a5, a6]) ∧ Hid (2 ≤ n → a15 = wordsN [a8, a9, a10, a11, a12, a13, a14]) ∧ Hid (Mem w wr [⟨q1, 113, [a0, a1, a2, a3, a4, a5, a6, a7, a8, a9, a10, a11, a12, a13, a14, a15].map vu64, true⟩, ⟨q2, 154, [.int .u64 0, .int .i64 0, .int .i64 0, .int .i64 0, .int .i64 0, .int .i64 0, .int .i64 0, .int .i64 0, .int .i64 0], true⟩])) (fun iv _ => 2 - (intOf iv).toNat)
 case atStart => exact ⟨0, by omega, rfl, LH (fun h => by omega), LH (fun h => by omega), HM1⟩
 case round =>
  obtain ⟨n, hn, rfl, H7, H15, HM⟩ := hrel
  rcases (by omega : n = 0 ∨ n = 1 ∨ n = 2) with rfl | rfl | rfl
  ·rw [show ((0 : Nat) : Int) = 0 from rfl]
   have d7 := HM.out.cell 0 7 rfl rfl
   go_upto_region 5 with fail
   have r7 := fun x => later_cell d7 x
   clear d7
   refine wp_region_seg (C := fun w' => ∃ x : Later (wr), w' = x.val) [.fl [0, 1, 2, 3, 4], .sq [5] true, .fl [6], .sq [7] false] (by kernel_rfl) (by kernel_rfl) (by intro c a d v w h; cases d <;> exact h) ?_
   simp only [segs, picks, List.getElem?_cons_succ, List.getElem?_cons_zero]
   have hC1 := later_drew (wr)
   refine wpSeg_fl hC1 ?_
   repeat (first | go_big_quiet_step (fail) | quiet_step (fail))
   refine wpQuiet_nil ?_
   have HMa := LH (HM.out.later (later_below hC1))
   clear r7
   refine wpSeg_sq (fun K hK => ?_)
   go_wp2_with fail
   refine (crcWords_any (some ⟨q1, 0, none⟩) 16 [a0, a1, a2, a3, a4, a5, a6] rfl _ (by simpa using (((HMa.out.at 0 rfl).cells).drop 0).take 7) (fun z hz => HU.out z (List.mem_of_mem_take (List.mem_of_mem_drop (l := List.take 7 [a0, a1, a2, a3, a4, a5, a6, a7, a8, a9, a10, a11, a12, a13, a14, a15]) (i := 0) (by simpa using hz)))) (by simp)).mono ?_
   rintro e w2 ⟨rfl, hb2⟩
   have hC2 := later_step hC1 hb2
   have HM2 := LH (HMa.out.later hb2)
   have hlt := wordsN_lt [a0, a1, a2, a3, a4, a5, a6]
   obtain ⟨cr, hcr⟩ : ∃ cr, cr = wordsN [a0, a1, a2, a3, a4, a5, a6] := ⟨_, rfl⟩
   rw [← hcr] at hlt ⊢
   have HCr := LH hcr
   clear hb2 hcr HMa
   go_wp2_with fail
   refine hK _ _ (fun _ => hC2) ?_
   clear hK K
   refine wpSeg_fl hC2 ?_
   repeat (first | go_big_quiet_step (fail) | quiet_step (fail))
   refine wpQuiet_nil ?_
   clear hC1 hC2
   by_cases e7 : a7 = cr
   case neg =>
    have e7' : ((a7 : Int) == (cr : Int)) = false := by rw [beq_eq_false_iff_ne]; omega
    have HF := LH (fun w' h => HP.out 0 [0, 0, 0, 0, 0, 0, 0, 0] 25 w' (by rw [if_pos (by rw [← HCr.out]; exact e7)]) h)
    clear e7
    refine wpSeg_last ?_
    go_wp2_with (refine wpList_store_mem aggSl HM2.out 1 rfl rfl rfl rfl rfl rfl rfl rfl ?_; intro w6 h6 ht6; have H6 := LH h6; clear h6 ht6)
    refine bodyPost_ret (results_cell_row2 (p := 2) (u := 3) rfl _ _ _ _ _ _ _ rfl (H6.out.exact 1 rfl) Tryz.underlying154 rfl (by kernel_rfl)) rfl ?_
    exact HF.out _ H6.out.below
   have e7' : ((a7 : Int) == (cr : Int)) = true := by rw [beq_iff_eq, e7]
   have HE7 : Hid (a7 = wordsN [a0, a1, a2, a3, a4, a5, a6]) := LH (by rw [← HCr.out]; exact e7)
   clear e7
   refine wpSeg_last ?_
   go_wp2_with fail
   exact ⟨⟨1, by omega, rfl, LH (fun _ => HE7.out), LH (fun h => by omega), HM2⟩, by simp [intOf]⟩
  ·rw [show ((1 : Nat) : Int) = 1 from rfl]
   have d7 := HM.out.cell 0 15 rfl rfl
   go_upto_region 5 with fail
   have r7 := fun x => later_cell d7 x
   clear d7
   refine wp_region_seg (C := fun w' => ∃ x : Later (wr), w' = x.val) [.fl [0, 1, 2, 3, 4], .sq [5] true, .fl [6], .sq [7] false] (by kernel_rfl) (by kernel_rfl) (by intro c a d v w h; cases d <;> exact h) ?_
   simp only [segs, picks, List.getElem?_cons_succ, List.getElem?_cons_zero]
   have hC1 := later_drew (wr)
   refine wpSeg_fl hC1 ?_
   repeat (first | go_big_quiet_step (fail) | quiet_step (fail))
   refine wpQuiet_nil ?_
   have HMa := LH (HM.out.later (later_below hC1))
   clear r7
   refine wpSeg_sq (fun K hK => ?_)
   go_wp2_with fail
   refine (crcWords_any (some ⟨q1, 8, none⟩) 8 [a8, a9, a10, a11, a12, a13, a14] rfl _ (by simpa using (((HMa.out.at 0 rfl).cells).drop 8).take 7) (fun z hz => HU.out z (List.mem_of_mem_take (List.mem_of_mem_drop (l := List.take 15 [a0, a1, a2, a3, a4, a5, a6, a7, a8, a9, a10, a11, a12, a13, a14, a15]) (i := 8) (by simpa using hz)))) (by simp)).mono ?_
   rintro e w2 ⟨rfl, hb2⟩
   have hC2 := later_step hC1 hb2
   have HM2 := LH (HMa.out.later hb2)
   have hlt := wordsN_lt [a8, a9, a10, a11, a12, a13, a14]
   obtain ⟨cr, hcr⟩ : ∃ cr, cr = wordsN [a8, a9, a10, a11, a12, a13, a14] := ⟨_, rfl⟩
   rw [← hcr] at hlt ⊢
   have HCr := LH hcr
   clear hb2 hcr HMa
   go_wp2_with fail
   refine hK _ _ (fun _ => hC2) ?_
   clear hK K
   refine wpSeg_fl hC2 ?_
   repeat (first | go_big_quiet_step (fail) | quiet_step (fail))
   refine wpQuiet_nil ?_
   clear hC1 hC2
   by_cases e7 : a15 = cr
   case neg =>
    have e7' : ((a15 : Int) == (cr : Int)) = false := by rw [beq_eq_false_iff_ne]; omega
    have HH7 := LH (H7.out (by omega))
    have HF := LH (fun w' h => HP.out 0 [0, 0, 0, 0, 0, 0, 0, 0] 25 w' (by rw [if_neg (by rw [← HH7.out]; simp), if_pos (by rw [← HCr.out]; exact e7)]) h)
    clear e7
    refine wpSeg_last ?_
    go_wp2_with (refine wpList_store_mem aggSl HM2.out 1 rfl rfl rfl rfl rfl rfl rfl rfl ?_; intro w6 h6 ht6; have H6 := LH h6; clear h6 ht6)
    refine bodyPost_ret (results_cell_row2 (p := 2) (u := 3) rfl _ _ _ _ _ _ _ rfl (H6.out.exact 1 rfl) Tryz.underlying154 rfl (by kernel_rfl)) rfl ?_
    exact HF.out _ H6.out.below
   have e7' : ((a15 : Int) == (cr : Int)) = true := by rw [beq_iff_eq, e7]
   have HE7 : Hid (a15 = wordsN [a8, a9, a10, a11, a12, a13, a14]) := LH (by rw [← HCr.out]; exact e7)
   clear e7
   refine wpSeg_last ?_
   go_wp2_with fail
   exact ⟨⟨2, by omega, rfl, LH (fun _ => H7.out (by omega)), LH (fun _ => HE7.out), HM2⟩, by simp [intOf]⟩
  ·rw [show ((2 : Nat) : Int) = 2 from rfl]
   have H7 := LH (H7.out (by omega))
   have H15 := LH (H15.out (by omega))
   have HP2 : Hid (∀ (n : Nat) (rs' : List Int) (e : Int) w', (n, rs', e) = (if slotR a0 rs = true ∧ slotW a0 rs = [a0, a1, a2, a3, a4, a5, a6, a7, a8, a9, a10, a11, a12, a13, a14, a15] then (a0, rs, 0) else (0, [0, 0, 0, 0, 0, 0, 0, 0], 26)) → Below w.heap.size w w' → Post (.returned (.tuple #[slotVal n rs', .int .i64 e])) w') := LH (fun n rs' e w' h1 h2 => HP.out n rs' e w' (by rw [if_neg (show ¬ (a7 ≠ wordsN [a0, a1, a2, a3, a4, a5, a6]) from fun e => e H7.out), if_neg (show ¬ (a15 ≠ wordsN [a8, a9, a10, a11, a12, a13, a14]) from fun e => e H15.out)]; exact h1) h2)
   clear H7 H15 HP
   obtain ⟨f, hf⟩ : ∃ f : Nat → Nat, f = fun k => [capN a1, capN a2, capN a3, capN a4, capN a9, capN a10, capN a11, capN a12].getD k 0 := ⟨_, rfl⟩
   have f0 : f 0 = capN a1 := by rw [hf]; rfl
   have f1 : f 1 = capN a2 := by rw [hf]; rfl
   have f2 : f 2 = capN a3 := by rw [hf]; rfl
   have f3 : f 3 = capN a4 := by rw [hf]; rfl
   have f4 : f 4 = capN a9 := by rw [hf]; rfl
   have f5 : f 5 = capN a10 := by rw [hf]; rfl
   have f6 : f 6 = capN a11 := by rw [hf]; rfl
   have f7 : f 7 = capN a12 := by rw [hf]; rfl
   have HAll : Hid (rowZ f 8 = rs.map (Value.int .i64)) := LH (by rw [HRs.out, hf]; rfl)
   have HLr : Hid (rs.length = 8) := LH (by rw [HRs.out]; rfl)
   clear hf HRs
   have e0 := HM.out.cell 0 0 rfl rfl
   have HM2 : Hid (Mem w (wr.alloc (.cells #[vu64 a0, .int .i64 0, .int .i64 0, .int .i64 0, .int .i64 0, .int .i64 0, .int .i64 0, .int .i64 0, .int .i64 0] 154)) [⟨q1, 113, [a0, a1, a2, a3, a4, a5, a6, a7, a8, a9, a10, a11, a12, a13, a14, a15].map vu64, true⟩, ⟨q2, 154, [.int .u64 0, .int .i64 0, .int .i64 0, .int .i64 0, .int .i64 0, .int .i64 0, .int .i64 0, .int .i64 0, .int .i64 0], true⟩, ⟨wr.heap.size, 154, vu64 a0 :: rowZ f 0, true⟩]) := LH (HM.out.alloc #[vu64 a0, .int .i64 0, .int .i64 0, .int .i64 0, .int .i64 0, .int .i64 0, .int .i64 0, .int .i64 0, .int .i64 0] 154)
   go_upto_region 9 with fail
   obtain ⟨q4, hq4⟩ : ∃ q, q = wr.heap.size := ⟨_, rfl⟩
   rw [← hq4] at HM2 ⊢
   generalize wr.alloc _ = wa at *
   clear hq4 e0 HM
   go_wp2_with fail
   go_loopw [30] (fun iv wr => ∃ i : Nat, i ≤ 8 ∧ iv = .int .i64 (i : Int) ∧ Hid (Mem w wr [⟨q1, 113, [a0, a1, a2, a3, a4, a5, a6, a7, a8, a9, a10, a11, a12, a13, a14, a15].map vu64, true⟩, ⟨q2, 154, [.int .u64 0, .int .i64 0, .int .i64 0, .int .i64 0, .int .i64 0, .int .i64 0, .int .i64 0, .int .i64 0, .int .i64 0], true⟩, ⟨q4, 154, vu64 a0 :: rowZ f i, true⟩])) (fun iv _ => 8 - (intOf iv).toNat)
   case atStart => exact ⟨0, by omega, rfl, HM2⟩
   case round =>
    obtain ⟨i, hi, rfl, HM⟩ := hrel
    rcases (by omega : i = 0 ∨ i = 1 ∨ i = 2 ∨ i = 3 ∨ i = 4 ∨ i = 5 ∨ i = 6 ∨ i = 7 ∨ i = 8) with rfl | rfl | rfl | rfl | rfl | rfl | rfl | rfl | rfl
    ·rw [show ((0 : Nat) : Int) = 0 from rfl]
     have c1 := HM.out.cell 0 1 rfl rfl
     obtain ⟨m, hm⟩ : ∃ m : Nat, m = capN a1 := ⟨_, rfl⟩
     have hmn : (if (1099511627776 : Int) < (a1 : Int) then 1099511627776 else (a1 : Int)) = (m : Int) := by rw [hm]; unfold capN; omega
     have hmz : min (a1 : Int) 1099511627776 = (m : Int) := by rw [hm]; unfold capN; omega
     have hm9 : m ≤ 1099511627776 := by rw [hm]; unfold capN; omega
     obtain ⟨u, hu⟩ : ∃ u, (vu64 a0 :: rowZ f 0)[1]? = some u := ⟨_, List.getElem?_eq_getElem (by rw [List.length_cons, rowZ_len]; omega)⟩
     have c2 : wr.cell? ⟨q4, 1, none⟩ = some u := HM.out.cell 2 1 rfl hu
     have k2 := HM.out.frozen 2 1 rfl
     have HS : Hid (Mem w (wr.setCell ⟨q4, 1, none⟩ (.int .i64 (m : Int))) [⟨q1, 113, [a0, a1, a2, a3, a4, a5, a6, a7, a8, a9, a10, a11, a12, a13, a14, a15].map vu64, true⟩, ⟨q2, 154, [.int .u64 0, .int .i64 0, .int .i64 0, .int .i64 0, .int .i64 0, .int .i64 0, .int .i64 0, .int .i64 0, .int .i64 0], true⟩, ⟨q4, 154, vu64 a0 :: rowZ f 1, true⟩]) := LH (by
      have := HM.out.set 2 1 (.int .i64 (m : Int)) rfl (by rw [List.length_cons, rowZ_len]; omega)
      rw [← rowZ_set f (by omega : 0 < 8), f0, ← hm]
      exact this)
     clear hu hm
     go_wp2_with fail
     exact ⟨⟨1, by omega, rfl, HS⟩, by simp [intOf]⟩
    ·rw [show ((1 : Nat) : Int) = 1 from rfl]
     have c1 := HM.out.cell 0 2 rfl rfl
     obtain ⟨m, hm⟩ : ∃ m : Nat, m = capN a2 := ⟨_, rfl⟩
     have hmn : (if (1099511627776 : Int) < (a2 : Int) then 1099511627776 else (a2 : Int)) = (m : Int) := by rw [hm]; unfold capN; omega
     have hmz : min (a2 : Int) 1099511627776 = (m : Int) := by rw [hm]; unfold capN; omega
     have hm9 : m ≤ 1099511627776 := by rw [hm]; unfold capN; omega
     obtain ⟨u, hu⟩ : ∃ u, (vu64 a0 :: rowZ f 1)[2]? = some u := ⟨_, List.getElem?_eq_getElem (by rw [List.length_cons, rowZ_len]; omega)⟩
     have c2 : wr.cell? ⟨q4, 2, none⟩ = some u := HM.out.cell 2 2 rfl hu
     have k2 := HM.out.frozen 2 2 rfl
     have HS : Hid (Mem w (wr.setCell ⟨q4, 2, none⟩ (.int .i64 (m : Int))) [⟨q1, 113, [a0, a1, a2, a3, a4, a5, a6, a7, a8, a9, a10, a11, a12, a13, a14, a15].map vu64, true⟩, ⟨q2, 154, [.int .u64 0, .int .i64 0, .int .i64 0, .int .i64 0, .int .i64 0, .int .i64 0, .int .i64 0, .int .i64 0, .int .i64 0], true⟩, ⟨q4, 154, vu64 a0 :: rowZ f 2, true⟩]) := LH (by
      have := HM.out.set 2 2 (.int .i64 (m : Int)) rfl (by rw [List.length_cons, rowZ_len]; omega)
      rw [← rowZ_set f (by omega : 1 < 8), f1, ← hm]
      exact this)
     clear hu hm
     go_wp2_with fail
     exact ⟨⟨2, by omega, rfl, HS⟩, by simp [intOf]⟩
    ·rw [show ((2 : Nat) : Int) = 2 from rfl]
     have c1 := HM.out.cell 0 3 rfl rfl
     obtain ⟨m, hm⟩ : ∃ m : Nat, m = capN a3 := ⟨_, rfl⟩
     have hmn : (if (1099511627776 : Int) < (a3 : Int) then 1099511627776 else (a3 : Int)) = (m : Int) := by rw [hm]; unfold capN; omega
     have hmz : min (a3 : Int) 1099511627776 = (m : Int) := by rw [hm]; unfold capN; omega
     have hm9 : m ≤ 1099511627776 := by rw [hm]; unfold capN; omega
     obtain ⟨u, hu⟩ : ∃ u, (vu64 a0 :: rowZ f 2)[3]? = some u := ⟨_, List.getElem?_eq_getElem (by rw [List.length_cons, rowZ_len]; omega)⟩
     have c2 : wr.cell? ⟨q4, 3, none⟩ = some u := HM.out.cell 2 3 rfl hu
     have k2 := HM.out.frozen 2 3 rfl
     have HS : Hid (Mem w (wr.setCell ⟨q4, 3, none⟩ (.int .i64 (m : Int))) [⟨q1, 113, [a0, a1, a2, a3, a4, a5, a6, a7, a8, a9, a10, a11, a12, a13, a14, a15].map vu64, true⟩, ⟨q2, 154, [.int .u64 0, .int .i64 0, .int .i64 0, .int .i64 0, .int .i64 0, .int .i64 0, .int .i64 0, .int .i64 0, .int .i64 0], true⟩, ⟨q4, 154, vu64 a0 :: rowZ f 3, true⟩]) := LH (by
      have := HM.out.set 2 3 (.int .i64 (m : Int)) rfl (by rw [List.length_cons, rowZ_len]; omega)
      rw [← rowZ_set f (by omega : 2 < 8), f2, ← hm]
      exact this)
     clear hu hm
     go_wp2_with fail
     exact ⟨⟨3, by omega, rfl, HS⟩, by simp [intOf]⟩
    ·rw [show ((3 : Nat) : Int) = 3 from rfl]
     have c1 := HM.out.cell 0 4 rfl rfl
     obtain ⟨m, hm⟩ : ∃ m : Nat, m = capN a4 := ⟨_, rfl⟩
     have hmn : (if (1099511627776 : Int) < (a4 : Int) then 1099511627776 else (a4 : Int)) = (m : Int) := by rw [hm]; unfold capN; omega
     have hmz : min (a4 : Int) 1099511627776 = (m : Int) := by rw [hm]; unfold capN; omega
     have hm9 : m ≤ 1099511627776 := by rw [hm]; unfold capN; omega
     obtain ⟨u, hu⟩ : ∃ u, (vu64 a0 :: rowZ f 3)[4]? = some u := ⟨_, List.getElem?_eq_getElem (by rw [List.length_cons, rowZ_len]; omega)⟩
     have c2 : wr.cell? ⟨q4, 4, none⟩ = some u := HM.out.cell 2 4 rfl hu
     have k2 := HM.out.frozen 2 4 rfl
     have HS : Hid (Mem w (wr.setCell ⟨q4, 4, none⟩ (.int .i64 (m : Int))) [⟨q1, 113, [a0, a1, a2, a3, a4, a5, a6, a7, a8, a9, a10, a11, a12, a13, a14, a15].map vu64, true⟩, ⟨q2, 154, [.int .u64 0, .int .i64 0, .int .i64 0, .int .i64 0, .int .i64 0, .int .i64 0, .int .i64 0, .int .i64 0, .int .i64 0], true⟩, ⟨q4, 154, vu64 a0 :: rowZ f 4, true⟩]) := LH (by
      have := HM.out.set 2 4 (.int .i64 (m : Int)) rfl (by rw [List.length_cons, rowZ_len]; omega)
      rw [← rowZ_set f (by omega : 3 < 8), f3, ← hm]
      exact this)
     clear hu hm
     go_wp2_with fail
     exact ⟨⟨4, by omega, rfl, HS⟩, by simp [intOf]⟩
    ·rw [show ((4 : Nat) : Int) = 4 from rfl]
     have c1 := HM.out.cell 0 9 rfl rfl
     obtain ⟨m, hm⟩ : ∃ m : Nat, m = capN a9 := ⟨_, rfl⟩
     have hmn : (if (1099511627776 : Int) < (a9 : Int) then 1099511627776 else (a9 : Int)) = (m : Int) := by rw [hm]; unfold capN; omega
     have hmz : min (a9 : Int) 1099511627776 = (m : Int) := by rw [hm]; unfold capN; omega
     have hm9 : m ≤ 1099511627776 := by rw [hm]; unfold capN; omega
     obtain ⟨u, hu⟩ : ∃ u, (vu64 a0 :: rowZ f 4)[5]? = some u := ⟨_, List.getElem?_eq_getElem (by rw [List.length_cons, rowZ_len]; omega)⟩
     have c2 : wr.cell? ⟨q4, 5, none⟩ = some u := HM.out.cell 2 5 rfl hu
     have k2 := HM.out.frozen 2 5 rfl
     have HS : Hid (Mem w (wr.setCell ⟨q4, 5, none⟩ (.int .i64 (m : Int))) [⟨q1, 113, [a0, a1, a2, a3, a4, a5, a6, a7, a8, a9, a10, a11, a12, a13, a14, a15].map vu64, true⟩, ⟨q2, 154, [.int .u64 0, .int .i64 0, .int .i64 0, .int .i64 0, .int .i64 0, .int .i64 0, .int .i64 0, .int .i64 0, .int .i64 0], true⟩, ⟨q4, 154, vu64 a0 :: rowZ f 5, true⟩]) := LH (by
      have := HM.out.set 2 5 (.int .i64 (m : Int)) rfl (by rw [List.length_cons, rowZ_len]; omega)
      rw [← rowZ_set f (by omega : 4 < 8), f4, ← hm]
      exact this)
     clear hu hm
     go_wp2_with fail
     exact ⟨⟨5, by omega, rfl, HS⟩, by simp [intOf]⟩
    ·rw [show ((5 : Nat) : Int) = 5 from rfl]
     have c1 := HM.out.cell 0 10 rfl rfl
     obtain ⟨m, hm⟩ : ∃ m : Nat, m = capN a10 := ⟨_, rfl⟩
     have hmn : (if (1099511627776 : Int) < (a10 : Int) then 1099511627776 else (a10 : Int)) = (m : Int) := by rw [hm]; unfold capN; omega
     have hmz : min (a10 : Int) 1099511627776 = (m : Int) := by rw [hm]; unfold capN; omega
     have hm9 : m ≤ 1099511627776 := by rw [hm]; unfold capN; omega
     obtain ⟨u, hu⟩ : ∃ u, (vu64 a0 :: rowZ f 5)[6]? = some u := ⟨_, List.getElem?_eq_getElem (by rw [List.length_cons, rowZ_len]; omega)⟩
     have c2 : wr.cell? ⟨q4, 6, none⟩ = some u := HM.out.cell 2 6 rfl hu
     have k2 := HM.out.frozen 2 6 rfl
     have HS : Hid (Mem w (wr.setCell ⟨q4, 6, none⟩ (.int .i64 (m : Int))) [⟨q1, 113, [a0, a1, a2, a3, a4, a5, a6, a7, a8, a9, a10, a11, a12, a13, a14, a15].map vu64, true⟩, ⟨q2, 154, [.int .u64 0, .int .i64 0, .int .i64 0, .int .i64 0, .int .i64 0, .int .i64 0, .int .i64 0, .int .i64 0, .int .i64 0], true⟩, ⟨q4, 154, vu64 a0 :: rowZ f 6, true⟩]) := LH (by
      have := HM.out.set 2 6 (.int .i64 (m : Int)) rfl (by rw [List.length_cons, rowZ_len]; omega)
      rw [← rowZ_set f (by omega : 5 < 8), f5, ← hm]
      exact this)
     clear hu hm
     go_wp2_with fail
     exact ⟨⟨6, by omega, rfl, HS⟩, by simp [intOf]⟩
    ·rw [show ((6 : Nat) : Int) = 6 from rfl]
     have c1 := HM.out.cell 0 11 rfl rfl
     obtain ⟨m, hm⟩ : ∃ m : Nat, m = capN a11 := ⟨_, rfl⟩
     have hmn : (if (1099511627776 : Int) < (a11 : Int) then 1099511627776 else (a11 : Int)) = (m : Int) := by rw [hm]; unfold capN; omega
     have hmz : min (a11 : Int) 1099511627776 = (m : Int) := by rw [hm]; unfold capN; omega
     have hm9 : m ≤ 1099511627776 := by rw [hm]; unfold capN; omega
     obtain ⟨u, hu⟩ : ∃ u, (vu64 a0 :: rowZ f 6)[7]? = some u := ⟨_, List.getElem?_eq_getElem (by rw [List.length_cons, rowZ_len]; omega)⟩
     have c2 : wr.cell? ⟨q4, 7, none⟩ = some u := HM.out.cell 2 7 rfl hu
     have k2 := HM.out.frozen 2 7 rfl
     have HS : Hid (Mem w (wr.setCell ⟨q4, 7, none⟩ (.int .i64 (m : Int))) [⟨q1, 113, [a0, a1, a2, a3, a4, a5, a6, a7, a8, a9, a10, a11, a12, a13, a14, a15].map vu64, true⟩, ⟨q2, 154, [.int .u64 0, .int .i64 0, .int .i64 0, .int .i64 0, .int .i64 0, .int .i64 0, .int .i64 0, .int .i64 0, .int .i64 0], true⟩, ⟨q4, 154, vu64 a0 :: rowZ f 7, true⟩]) := LH (by
      have := HM.out.set 2 7 (.int .i64 (m : Int)) rfl (by rw [List.length_cons, rowZ_len]; omega)
      rw [← rowZ_set f (by omega : 6 < 8), f6, ← hm]
      exact this)
     clear hu hm
     go_wp2_with fail
     exact ⟨⟨7, by omega, rfl, HS⟩, by simp [intOf]⟩
    ·rw [show ((7 : Nat) : Int) = 7 from rfl]
     have c1 := HM.out.cell 0 12 rfl rfl
     obtain ⟨m, hm⟩ : ∃ m : Nat, m = capN a12 := ⟨_, rfl⟩
     have hmn : (if (1099511627776 : Int) < (a12 : Int) then 1099511627776 else (a12 : Int)) = (m : Int) := by rw [hm]; unfold capN; omega
     have hmz : min (a12 : Int) 1099511627776 = (m : Int) := by rw [hm]; unfold capN; omega
     have hm9 : m ≤ 1099511627776 := by rw [hm]; unfold capN; omega
     obtain ⟨u, hu⟩ : ∃ u, (vu64 a0 :: rowZ f 7)[8]? = some u := ⟨_, List.getElem?_eq_getElem (by rw [List.length_cons, rowZ_len]; omega)⟩
     have c2 : wr.cell? ⟨q4, 8, none⟩ = some u := HM.out.cell 2 8 rfl hu
     have k2 := HM.out.frozen 2 8 rfl
     have HS : Hid (Mem w (wr.setCell ⟨q4, 8, none⟩ (.int .i64 (m : Int))) [⟨q1, 113, [a0, a1, a2, a3, a4, a5, a6, a7, a8, a9, a10, a11, a12, a13, a14, a15].map vu64, true⟩, ⟨q2, 154, [.int .u64 0, .int .i64 0, .int .i64 0, .int .i64 0, .int .i64 0, .int .i64 0, .int .i64 0, .int .i64 0, .int .i64 0], true⟩, ⟨q4, 154, vu64 a0 :: rowZ f 8, true⟩]) := LH (by
      have := HM.out.set 2 8 (.int .i64 (m : Int)) rfl (by rw [List.length_cons, rowZ_len]; omega)
      rw [← rowZ_set f (by omega : 7 < 8), f7, ← hm]
      exact this)
     clear hu hm
     go_wp2_with fail
     exact ⟨⟨8, by omega, rfl, HS⟩, by simp [intOf]⟩
    ·rw [show ((8 : Nat) : Int) = 8 from rfl]
     rw [HAll.out] at HM
     clear f0 f1 f2 f3 f4 f5 f6 f7 HAll
     obtain ⟨r0, r1, r2, r3, r4, r5, r6, r7, rfl⟩ := eight_ints HLr.out
     rw [show [r0, r1, r2, r3, r4, r5, r6, r7].map (Value.int .i64) = [.int .i64 r0, .int .i64 r1, .int .i64 r2, .int .i64 r3, .int .i64 r4, .int .i64 r5, .int .i64 r6, .int .i64 r7] from rfl] at HM
     have HRt := LH (fun w => slright_any a0 [r0, r1, r2, r3, r4, r5, r6, r7] rfl h0 w)
     have HEn := LH (fun w => slencode_any a0 [r0, r1, r2, r3, r4, r5, r6, r7] rfl h0 w)
     have hsv : slotVal a0 [r0, r1, r2, r3, r4, r5, r6, r7] = .agg #[vu64 a0, .int .i64 r0, .int .i64 r1, .int .i64 r2, .int .i64 r3, .int .i64 r4, .int .i64 r5, .int .i64 r6, .int .i64 r7] := rfl
     rw [hsv] at HRt HEn
     obtain ⟨sw, hsw⟩ : ∃ sw, sw = slotW a0 [r0, r1, r2, r3, r4, r5, r6, r7] := ⟨_, rfl⟩
     have hlw : sw.length = 16 := by rw [hsw]; exact slotW_len _ _
     unfold SlPost at HEn
     rw [← hsw] at HEn HP2
     clear hsv HLr hsw
     obtain ⟨b0, b1, b2, b3, b4, b5, b6, b7, b8, b9, b10, b11, b12, b13, b14, b15, rfl⟩ := sixteen_list hlw
     clear hlw
     rw [show arrW [b0, b1, b2, b3, b4, b5, b6, b7, b8, b9, b10, b11, b12, b13, b14, b15] = .agg #[vu64 b0, vu64 b1, vu64 b2, vu64 b3, vu64 b4, vu64 b5, vu64 b6, vu64 b7, vu64 b8, vu64 b9, vu64 b10, vu64 b11, vu64 b12, vu64 b13, vu64 b14, vu64 b15] from rfl] at HEn
     have e0 := HM.out.cell 2 0 rfl rfl
     have e1 := HM.out.cell 2 1 rfl rfl
     have e2 := HM.out.cell 2 2 rfl rfl
     have e3 := HM.out.cell 2 3 rfl rfl
     have e4 := HM.out.cell 2 4 rfl rfl
     have e5 := HM.out.cell 2 5 rfl rfl
     have e6 := HM.out.cell 2 6 rfl rfl
     have e7 := HM.out.cell 2 7 rfl rfl
     have e8 := HM.out.cell 2 8 rfl rfl
     have g0 := HM.out.cell 0 0 rfl rfl
     have g1 := HM.out.cell 0 1 rfl rfl
     have g2 := HM.out.cell 0 2 rfl rfl
     have g3 := HM.out.cell 0 3 rfl rfl
     have g4 := HM.out.cell 0 4 rfl rfl
     have g5 := HM.out.cell 0 5 rfl rfl
     have g6 := HM.out.cell 0 6 rfl rfl
     have g7 := HM.out.cell 0 7 rfl rfl
     have g8 := HM.out.cell 0 8 rfl rfl
     have g9 := HM.out.cell 0 9 rfl rfl
     have g10 := HM.out.cell 0 10 rfl rfl
     have g11 := HM.out.cell 0 11 rfl rfl
     have g12 := HM.out.cell 0 12 rfl rfl
     have g13 := HM.out.cell 0 13 rfl rfl
     have g14 := HM.out.cell 0 14 rfl rfl
     have g15 := HM.out.cell 0 15 rfl rfl
     go_upto_region 14 with fail
     have re0 := fun x => later_cell e0 x
     have re1 := fun x => later_cell e1 x
     have re2 := fun x => later_cell e2 x
     have re3 := fun x => later_cell e3 x
     have re4 := fun x => later_cell e4 x
     have re5 := fun x => later_cell e5 x
     have re6 := fun x => later_cell e6 x
     have re7 := fun x => later_cell e7 x
     have re8 := fun x => later_cell e8 x
     have rg0 := fun x => later_cell g0 x
     have rg1 := fun x => later_cell g1 x
     have rg2 := fun x => later_cell g2 x
     have rg3 := fun x => later_cell g3 x
     have rg4 := fun x => later_cell g4 x
     have rg5 := fun x => later_cell g5 x
     have rg6 := fun x => later_cell g6 x
     have rg7 := fun x => later_cell g7 x
     have rg8 := fun x => later_cell g8 x
     have rg9 := fun x => later_cell g9 x
     have rg10 := fun x => later_cell g10 x
     have rg11 := fun x => later_cell g11 x
     have rg12 := fun x => later_cell g12 x
     have rg13 := fun x => later_cell g13 x
     have rg14 := fun x => later_cell g14 x
     have rg15 := fun x => later_cell g15 x
     by_cases hr : slotR a0 [r0, r1, r2, r3, r4, r5, r6, r7] = true
     case neg =>
      have hrf : slotR a0 [r0, r1, r2, r3, r4, r5, r6, r7] = false := by simpa using hr
      rw [hrf] at HRt
      have HF := LH (fun w' h => HP2.out 0 [0, 0, 0, 0, 0, 0, 0, 0] 26 w' (by rw [if_neg (fun hh => hr hh.1)]) h)
      clear hr re0 re1 re2 re3 re4 re5 re6 re7 re8 rg0 rg1 rg2 rg3 rg4 rg5 rg6 rg7 rg8 rg9 rg10 rg11 rg12 rg13 rg14 rg15 g0 g1 g2 g3 g4 g5 g6 g7 g8 g9 g10 g11 g12 g13 g14 g15
      refine wp_region_seg (C := fun w' => ∃ x : Later (wr), w' = x.val) [.sq [0, 1, 2, 3] false, .fl [4, 6], .sq [5] true, .sq [7, 8] false] (by kernel_rfl) (by kernel_rfl) (by intro c a d v w h; cases d <;> exact h) ?_
      simp only [segs, picks, List.getElem?_cons_succ, List.getElem?_cons_zero]
      have hC1 := later_drew (wr)
      refine wpSeg_sq (fun K hK => ?_)
      go_wp2_with fail
      refine (HRt.out _).mono ?_
      rintro e w5 ⟨rfl, hb5⟩
      have hC2 := later_step hC1 hb5
      have HM5 := LH (HM.out.later (later_below hC2))
      clear hb5 e0 e1 e2 e3 e4 e5 e6 e7 e8
      go_wp2_with fail
      refine hK _ _ (fun h => nomatch h) ?_
      clear hK K
      refine wpSeg_fl hC2 ?_
      repeat (first | go_big_quiet_step (fail) | quiet_step (fail))
      refine wpQuiet_nil ?_
      refine wpSeg_sq (fun K hK => ?_)
      go_wp2_with fail
      go_wp2_with fail
      refine hK _ _ (fun _ => hC2) ?_
      clear hK K
      clear hC1 hC2
      refine wpSeg_last ?_
      go_wp2_with (refine wpList_store_mem aggSl HM5.out 1 rfl rfl rfl rfl rfl rfl rfl rfl ?_; intro w6 h6 ht6; have H6 := LH h6; clear h6 ht6)
      refine bodyPost_ret (results_cell_row2 (p := 2) (u := 3) rfl _ _ _ _ _ _ _ rfl (H6.out.exact 1 rfl) Tryz.underlying154 rfl (by kernel_rfl)) rfl ?_
      exact HF.out _ H6.out.below
     rw [hr] at HRt
     have heq : ∀ w', (Op.equalIn 10000 113 (.agg #[vu64 b0, vu64 b1, vu64 b2, vu64 b3, vu64 b4, vu64 b5, vu64 b6, vu64 b7, vu64 b8, vu64 b9, vu64 b10, vu64 b11, vu64 b12, vu64 b13, vu64 b14, vu64 b15]) (.agg #[vu64 a0, vu64 a1, vu64 a2, vu64 a3, vu64 a4, vu64 a5, vu64 a6, vu64 a7, vu64 a8, vu64 a9, vu64 a10, vu64 a11, vu64 a12, vu64 a13, vu64 a14, vu64 a15])).run Tryz.prog w' = .ok (decide ([b0, b1, b2, b3, b4, b5, b6, b7, b8, b9, b10, b11, b12, b13, b14, b15] = [a0, a1, a2, a3, a4, a5, a6, a7, a8, a9, a10, a11, a12, a13, a14, a15])) w' := fun w' => equal16 w' [b0, b1, b2, b3, b4, b5, b6, b7, b8, b9, b10, b11, b12, b13, b14, b15] [a0, a1, a2, a3, a4, a5, a6, a7, a8, a9, a10, a11, a12, a13, a14, a15] rfl rfl
     clear g0 g1 g2 g3 g4 g5 g6 g7 g8 g9 g10 g11 g12 g13 g14 g15
     refine wp_region_seg (C := fun w' => ∃ x : Later (wr), w' = x.val) [.sq [0, 1, 2, 3] false, .fl [4, 6], .sq [5] true, .sq [7, 8] false] (by kernel_rfl) (by kernel_rfl) (by intro c a d v w h; cases d <;> exact h) ?_
     simp only [segs, picks, List.getElem?_cons_succ, List.getElem?_cons_zero]
     have hC1 := later_drew (wr)
     refine wpSeg_sq (fun K hK => ?_)
     go_wp2_with fail
     refine (HRt.out _).mono ?_
     rintro e w5 ⟨rfl, hb5⟩
     have hC2 := later_step hC1 hb5
     clear hb5 e0 e1 e2 e3 e4 e5 e6 e7 e8
     go_wp2_with fail
     refine hK _ _ (fun h => nomatch h) ?_
     clear hK K
     refine wpSeg_fl hC2 ?_
     repeat (first | go_big_quiet_step (fail) | quiet_step (fail))
     refine wpQuiet_nil ?_
     clear re0 re1 re2 re3 re4 re5 re6 re7 re8 rg0 rg1 rg2 rg3 rg4 rg5 rg6 rg7 rg8 rg9 rg10 rg11 rg12 rg13 rg14 rg15
     refine wpSeg_sq (fun K hK => ?_)
     go_wp2_with fail
     refine (HEn.out _).mono ?_
     rintro e w6 ⟨rfl, hb6⟩
     have hC3 := later_step hC2 hb6
     have HM6 := LH (HM.out.later (later_below hC3))
     clear hb6
     go_wp2_with fail
     refine hK _ _ (fun _ => hC3) ?_
     clear hK K
     clear hC1 hC2 hC3
     by_cases hs : [b0, b1, b2, b3, b4, b5, b6, b7, b8, b9, b10, b11, b12, b13, b14, b15] = [a0, a1, a2, a3, a4, a5, a6, a7, a8, a9, a10, a11, a12, a13, a14, a15]
     ·rw [decide_eq_true hs] at heq
      have HF2 := LH (fun w' h => HP2.out a0 [r0, r1, r2, r3, r4, r5, r6, r7] 0 w' (by rw [if_pos ⟨hr, hs⟩]) h)
      clear hs hr
      refine wpSeg_last ?_
      go_wp2_with (first | (refine wpList_load_mem aggSl HM6.out 2 rfl rfl rfl rfl rfl ?_) | (refine wpList_store_mem aggSl HM6.out 1 rfl rfl rfl rfl rfl rfl rfl rfl ?_; intro w6 h6 ht6; have H6 := LH h6; clear h6 ht6))
      refine bodyPost_ret (results_cell_row2 (p := 2) (u := 3) rfl _ _ _ _ _ _ _ rfl (H6.out.exact 1 rfl) Tryz.underlying154 rfl (by kernel_rfl)) rfl ?_
      exact HF2.out _ H6.out.below
     ·rw [decide_eq_false hs] at heq
      have HF2 := LH (fun w' h => HP2.out 0 [0, 0, 0, 0, 0, 0, 0, 0] 26 w' (by rw [if_neg (fun hh => hs hh.2)]) h)
      clear hs hr
      refine wpSeg_last ?_
      go_wp2_with (refine wpList_store_mem aggSl HM6.out 1 rfl rfl rfl rfl rfl rfl rfl rfl ?_; intro w6 h6 ht6; have H6 := LH h6; clear h6 ht6)
      refine bodyPost_ret (results_cell_row2 (p := 2) (u := 3) rfl _ _ _ _ _ _ _ rfl (H6.out.exact 1 rfl) Tryz.underlying154 rfl (by kernel_rfl)) rfl ?_
      exact HF2.out _ H6.out.below
end Go.Proofs.YtpohaahihdhleaaGreat
