/- Parts of the proof, one behind the other: Ef, K, Cz, L, Eg, Tr, Eh, Ei, Ej, HdD, Rk, Bo, Sa, Sc, Sp, Sq, Fm, Pu. -/
import Derived.Test.YtbimcogdbafjpaaGreatSS3
import Derived.Deep.Cut
import Derived.Deep.QuietTactic
import Derived.BigQuiet
import Derived.WalkKit
set_option linter.unusedVariables false
namespace Go.Proofs.YtbimcogdbafjpaaGreat
open Go.RowKit Go.Maps
theorem nat_contains (xs : List Nat) (a : Nat) : (xs.map fun x : Nat => (x : Int)).contains (a : Int) = xs.contains a := by
 rw [Bool.eq_iff_iff, List.contains_iff_mem, List.contains_iff_mem, List.mem_map]
 constructor
 ·rintro ⟨x, hx, e⟩
  have : x = a := by omega
  rw [← this]; exact hx
 ·intro h; exact ⟨a, h, rfl⟩
theorem contains_any {w : World} (a : Option Addr) (n c : Nat) (xs : List Nat) (hn : xs.length = n) (hc : Cells w a (xs.map vi)) (h9 : xs.length ≤ 1000000000000) (x : Nat) :
  Calls Tryz.prog 235 #[.slice a n c, .int .i64 (x : Int)] w (Same1 (.bool (xs.contains x)) w) := by
 subst hn
 cases xs with
 | nil =>
  refine (Any.slices_Contains_int_empty Tryz.lays107 a c (x : Int) w).mono ?_
  rintro e w' ⟨rfl, rfl⟩
  exact ⟨rfl, rfl⟩
 | cons y ys =>
  rcases hc with h | ⟨b, off, rfl, hc⟩
  ·cases h
  ·refine (Any.slices_Contains_int Tryz.lays107 b off (y :: ys).length c ((y :: ys).map fun x : Nat => (x : Int)) (x : Int) w (by simp) (by omega) (fun j hj => ?_)).mono ?_
   ·refine hc j _ ?_
    rw [List.length_map] at hj
    simp only [List.getElem?_map, List.getElem?_eq_getElem hj, Option.map_some, List.getD_eq_getElem?_getD, Option.getD_some]
   ·rintro e w' ⟨rfl, rfl⟩
    refine ⟨?_, rfl⟩
    rw [List.take_of_length_le (by simp), nat_contains]
theorem FreeIn.lt {w : World} {f mb n : Nat} {V : Nat → Value} {S : FL} (h : FreeIn w f mb n V S) {k : Nat} (hk : k < 32) : ((List.range 32).map V ++ [Value.map (some mb)]).toArray[k]? = some (V k) := by
 rw [List.getElem?_toArray, List.getElem?_append_left (by simpa using hk)]
 simp [hk]
theorem FreeIn.g {w : World} {f mb n : Nat} {V : Nat → Value} {S : FL} (h : FreeIn w f mb n V S) {k : Nat} (hk : k < 32) : w.cell? ⟨f, k, none⟩ = some (V k) :=
 (cell_of_row _ _ k _ _ _ h.head).trans (h.lt hk)
theorem FreeIn.m {w : World} {f mb n : Nat} {V : Nat → Value} {S : FL} (h : FreeIn w f mb n V S) : w.cell? ⟨f, 32, none⟩ = some (.map (some mb)) :=
 (cell_of_row _ _ 32 _ _ _ h.head).trans (by rw [List.getElem?_toArray, List.getElem?_append_right (by simp)]; simp)
abbrev vfree (f : Nat) : Value := .pointer (some ⟨f, 0, none⟩)
theorem zero_ints (w : World) : (zeroValue 35).run Tryz.prog w = .ok (.slice none 0 0) w := Tryz.zeroValue35 w
def FL.hasTo (S : FL) (k a : Nat) : Nat → Bool
 | 0 => (S.g k).contains a
 | i + 1 => S.hasTo k a i || (S.c i k).contains a
theorem FL.hasTo_all (S : FL) (k a : Nat) : S.hasTo k a 4 = S.has k a := rfl
theorem FL.hasTo_false {S : FL} {k a : Nat} : ∀ {i j : Nat}, S.hasTo k a i = true → i ≤ j → S.hasTo k a j = true
  | i, 0, h, hj => by obtain rfl : i = 0 := by omega
                      exact h
  | i, j + 1, h, hj => by
    by_cases e : i = j + 1
    · subst e; exact h
    · unfold FL.hasTo
      rw [FL.hasTo_false h (by omega)]; rfl
theorem wf_small (k : Nat) (h : k < 1000) : (Lit.int .i64 (k : Int)).wf = true := by
 exact WalkArith.wf_i64 (by omega)
set_option maxHeartbeats 2000000 in
set_option maxRecDepth 20000 in
theorem fhas_any {w : World} {f mb n : Nat} {R : List Nat} {S : FL} (h : FreeAt w f mb n R S) (hL : ∀ i, i < 160 → (S.at i).length ≤ 1000000) (k a : Nat) (hk : k < 32) :
  Calls Tryz.prog 202 #[vfree f, .int .i64 (k : Int), .int .i64 (a : Int)] w (Same1 (.bool (S.has k a)) w) := by
 obtain ⟨V, hi, _⟩ := h
 obtain ⟨M, hm, hv⟩ := hi.map
 have HI := LH hi
 have HM := LH hm
 have HV := LH hv
 have HL := LH hL
 have c32 := hi.m
 have ck := hi.g hk
 obtain ⟨ag, cg, eg, hcg, _, _⟩ := (hi.rows k (by omega)).cells
 rw [S.at_g hk] at eg hcg
 rw [eg] at ck
 have HCg := LH hcg
 have HLg : Hid ((S.g k).length ≤ 1000000) := LH (by have := hL k (by omega); rwa [S.at_g hk] at this)
 have HP : Hid (∀ b, b = S.has k a → Same1 (.bool (S.has k a)) w (.returned (.bool b)) w) := LH (by rintro b rfl; exact ⟨rfl, rfl⟩)
 generalize Same1 (.bool (S.has k a)) w = Post at *
 have hlen : (S.g k).length = (S.g k).length := rfl
 obtain ⟨lg, hlg⟩ : ∃ lg, lg = (S.g k).length := ⟨_, rfl⟩
 rw [← hlg] at ck
 have HLe := LH hlg
 clear hi hm hv hL eg hcg hlen hlg
 go_enter Tryz.func202, Tryz.ntmps202
 go_wp2_with fail
 refine (cright_any _ _).mono ?_
 rintro e w1 ⟨rfl, rfl⟩
 rw [decide_eq_true (show (0 : Int) ≤ (k : Int) ∧ (k : Int) < 32 by omega)]
 go_wp2_with fail
 refine (contains_any ag lg cg (S.g k) HLe.out.symm HCg.out (by have := HLg.out; omega) a).mono ?_
 rintro e w1 ⟨rfl, rfl⟩
 cases hg0 : (S.g k).contains a with
 | true =>
  have HB : Hid (true = S.has k a) := LH (by rw [← FL.hasTo_all]; exact (FL.hasTo_false (i := 0) hg0 (by omega)).symm)
  clear hg0
  go_wp2_with fail
  exact HP.out _ HB.out
 | false =>
  have H0 : Hid (S.hasTo k a 0 = false) := LH hg0
  clear hg0
  go_wp2_with fail
  go_loop [19] (fun iv => ∃ i : Nat, i ≤ 4 ∧ iv = .int .i64 (i : Int) ∧ Hid (S.hasTo k a i = false)) (fun iv => 4 - (intOf iv).toNat)
  case atStart => exact ⟨0, by omega, rfl, H0⟩
  case round =>
   clear H0
   obtain ⟨i, hi4, rfl, HT⟩ := hrel
   by_cases hlt : i < 4
   ·obtain ⟨ac, cc, ec, hcc, _, _⟩ := (HI.out.rows (slotI i k) (by unfold slotI; omega)).cells
    rw [S.at_c i hk] at ec hcc
    have hlc := HL.out (slotI i k) (by unfold slotI; omega)
    rw [S.at_c i hk] at hlc
    have HVi := HV.out i k hlt hk
    have HCc := LH hcc
    have HLc := LH hlc
    have HStep : Hid (S.hasTo k a (i + 1) = (S.hasTo k a i || (S.c i k).contains a)) := LH rfl
    rw [ec] at HVi
    have HVi := LH HVi
    obtain ⟨lc, hlcx⟩ : ∃ lc, lc = (S.c i k).length := ⟨_, rfl⟩
    rw [← hlcx] at HVi
    have HLx := LH hlcx
    clear ec hcc hlc hlcx
    have hkey := key_slot (i : Int) (k : Int) (wf_small i (by omega)) (wf_small k (by omega))
    go_wp2_with (refine wpList_vlook rfl _ _ 252 rfl 288 35 keyed_slot Tryz.underlying252 _ (zero_ints _) mb n M rfl HM.out _ _ rfl hkey ?_; rw [HVi.out])
    refine (contains_any ac lc cc (S.c i k) HLx.out.symm HCc.out (by have := HLc.out; omega) a).mono ?_
    rintro e w1 ⟨rfl, rfl⟩
    cases hc0 : (S.c i k).contains a with
    | true =>
     have HB : Hid (true = S.has k a) := LH (by rw [← FL.hasTo_all]; exact (FL.hasTo_false (i := i + 1) (by rw [HStep.out, hc0]; simp) (by omega)).symm)
     clear hc0
     go_wp2_with fail
     exact HP.out _ HB.out
    | false =>
     have HT2 : Hid (S.hasTo k a (i + 1) = false) := LH (by rw [HStep.out, hc0, HT.out]; rfl)
     clear hc0
     go_wp2_with fail
     go_round
     case rel => exact ⟨i + 1, by omega, vint (by omega), HT2⟩
     case measure => simp [intOf]; omega
   ·obtain rfl : i = 4 := by omega
    have HB : Hid (false = S.has k a) := LH (by rw [← FL.hasTo_all]; exact HT.out.symm)
    go_wp2_with fail
    exact HP.out _ HB.out
end Go.Proofs.YtbimcogdbafjpaaGreat
namespace Go.Proofs.YtbimcogdbafjpaaGreat
open Go.RowKit
def sizesL : List Nat := [2, 3, 4, 5, 6, 7, 8, 10, 12, 14, 16, 18, 20, 24, 28, 32, 36, 40, 46, 51, 56, 64, 73, 85, 92, 102, 113, 128, 146, 170, 204, 256]
def clsWords (k : Int) : Nat := if 0 ≤ k ∧ k < 32 then sizesL.getD k.toNat 0 else 0
def zeros32 : Array Value := (List.replicate 32 (Value.int .i64 0)).toArray
theorem agg32 : Agg Tryz.prog 280 zeros32 := ⟨⟨_, Tryz.underlying280, rfl⟩, by kernel_rfl⟩
def sizesV : Array Value := (sizesL.map (fun n : Nat => Value.int .i64 (n : Int))).toArray
theorem sizesV_one : sizesV.all (·.oneCell') = true := by simp [sizesV, sizesL, Value.oneCell']
set_option maxHeartbeats 400000 in
theorem sizes_any (w : World) : Calls Tryz.prog 195 #[] w fun e w' => e = .returned (.agg sizesV) ∧ Below w.heap.size w w' := by
 go_enter Tryz.func195, Tryz.ntmps195
 go_wp2_with (first
  | (refine wpList_alloc_agg agg32 rfl rfl ?_; intro w1 hg1 hgr1 hs1)
  | (refine wpList_store_row (cs := sizesV) agg32 hg1 rfl rfl sizesV_one rfl rfl rfl rfl ?_; intro w2 hg2 hgr2 hs2))
 refine bodyPost_ret (v := .agg sizesV) ?_ rfl ⟨rfl, ?_⟩
 ·exact results_cell_row rfl _ _ _ _ _ _ _ rfl hg2 Tryz.underlying280 rfl (by kernel_rfl)
 ·exact (below_grown hgr1 (Nat.le_refl _)).grown hgr2 (by omega) (fun k e => by cases e; omega)
set_option maxHeartbeats 400000 in
theorem cwords_any (k : Int) (w : World) : Calls Tryz.prog 141 #[.int .i64 k] w fun e w' => e = .returned (.int .i64 (clsWords k : Nat)) ∧ Below w.heap.size w w' := by
 by_cases h : 0 ≤ k ∧ k < 32
 ·have HW : Hid (clsWords k = sizesL.getD k.toNat 0) := LH (by unfold clsWords; rw [if_pos h])
  have H := LH h
  obtain ⟨h1, h2⟩ := h
  go_enter Tryz.func141, Tryz.ntmps141
  go_wp2_with fail
  refine (cright_any _ _).mono ?_
  rintro e w1 ⟨rfl, rfl⟩
  rw [decide_eq_true H.out]
  go_wp2_with fail
  refine (sizes_any _).mono ?_
  rintro e w1 ⟨rfl, hb⟩
  have hv : sizesV[k.toNat]? = some (Value.int .i64 (sizesL.getD k.toNat 0 : Nat)) := by
   obtain ⟨j, rfl⟩ := Int.eq_ofNat_of_zero_le h1
   have hj : j < sizesL.length := by show j < 32; omega
   simp only [Int.toNat_natCast, sizesV, List.getElem?_toArray, List.getElem?_map, List.getElem?_eq_getElem hj, Option.map_some, List.getD_eq_getElem?_getD, Option.getD_some]
  have HV := LH hv
  clear hv
  go_wp2_with (refine wpList_index_arr k.toNat Tryz.underlying280 Tryz.underlying3 rfl (by kernel_rfl) (by omega) (by omega) HV.out rfl rfl rfl rfl ?_)
  go_ret
  exact ⟨ret_int (by rw [HW.out, List.getD_eq_getElem?_getD]), hb⟩
 ·have HW : Hid (clsWords k = 0) := LH (by unfold clsWords; rw [if_neg h])
  have H := LH h
  clear h
  go_enter Tryz.func141, Tryz.ntmps141
  go_wp2_with fail
  refine (cright_any _ _).mono ?_
  rintro e w1 ⟨rfl, rfl⟩
  rw [decide_eq_false H.out]
  go_wp2_with fail
  go_ret
  exact ⟨ret_int (by rw [HW.out]; rfl), Below.refl _ _⟩
def ofN (n : Int) : Nat := sizesL.findIdx (fun s : Nat => decide (n ≤ (s : Int)))
theorem ofN_eq (n : Int) (k : Nat) (hk : k < 32) (h1 : n ≤ (sizesL.getD k 0 : Nat)) (h2 : ∀ j, j < k → ((sizesL.getD j 0 : Nat) : Int) < n) : ofN n = k := by
 have hl : k < sizesL.length := hk
 unfold ofN
 rw [List.findIdx_eq hl]
 have g : ∀ j (hj : j < sizesL.length), sizesL.getD j 0 = sizesL[j] := fun j hj => by simp [hj]
 refine ⟨by rw [← g k hl]; simpa using h1, fun j hj => ?_⟩
 rw [← g j (by omega)]
 have := h2 j hj
 simp only [decide_eq_false_iff_not]
 omega
theorem sizes_mono : ∀ i j : Nat, i ≤ j → j < 32 → sizesL.getD i 0 ≤ sizesL.getD j 0 := by
 have h : ∀ j : Fin 32, ∀ i : Fin 32, i ≤ j → sizesL.getD i.val 0 ≤ sizesL.getD j.val 0 := by decide
 intro i j hij hj
 exact h ⟨j, hj⟩ ⟨i, by omega⟩ hij
theorem clsWords_nat (k : Nat) (h : k < 32) : clsWords (k : Int) = sizesL.getD k 0 := by
 unfold clsWords; rw [if_pos (by omega)]; rfl
theorem clsWords_le (k : Int) : clsWords k ≤ 256 := by
 unfold clsWords
 split
 ·have h := sizes_mono k.toNat 31 (by omega) (by omega)
  have e : sizesL.getD 31 0 = 256 := rfl
  rw [e] at h
  exact h
 ·omega
theorem clsWords_pos (k : Int) (h : 0 ≤ k ∧ k < 32) : 2 ≤ clsWords k := by
 unfold clsWords
 rw [if_pos h]
 have h := sizes_mono 0 k.toNat (by omega) (by omega)
 have e : sizesL.getD 0 0 = 2 := rfl
 rw [e] at h
 exact h
set_option maxHeartbeats 400000 in
theorem cmost_any (w : World) : Calls Tryz.prog 223 #[] w fun e w' => e = .returned (.int .i64 256) ∧ Below w.heap.size w w' := by
 go_enter Tryz.func223, Tryz.ntmps223
 go_wp2_with fail
 refine (cwords_any _ _).mono ?_
 rintro e w1 ⟨rfl, hb⟩
 have e : ((clsWords 31 : Nat) : Int) = 256 := by decide
 rw [e]
 go_wp2_with fail
 go_ret
 exact ⟨rfl, hb⟩
def ofV (n : Int) : Value := if 1 ≤ n ∧ n ≤ 256 then .tuple #[.int .i64 (ofN n : Nat), .bool true] else .tuple #[.int .i64 0, .bool false]
set_option maxHeartbeats 400000 in
theorem cof_any (n : Int) (w : World) : Calls Tryz.prog 180 #[.int .i64 n] w fun e w' => e = .returned (ofV n) ∧ Below w.heap.size w w' := by
 by_cases h1 : n < 1
 ·have HV : Hid (ofV n = .tuple #[.int .i64 0, .bool false]) := LH (by unfold ofV; rw [if_neg (by omega)])
  go_enter Tryz.func180, Tryz.ntmps180
  go_wp2_with fail
  go_ret2
  exact ⟨by rw [HV.out]; rfl, Below.refl _ _⟩
 by_cases h2 : 256 < n
 ·have HV : Hid (ofV n = .tuple #[.int .i64 0, .bool false]) := LH (by unfold ofV; rw [if_neg (by omega)])
  go_enter Tryz.func180, Tryz.ntmps180
  go_wp2_with fail
  refine (cmost_any _).mono ?_
  rintro e w1 ⟨rfl, hb⟩
  go_wp2_with fail
  go_ret2
  exact ⟨by rw [HV.out]; rfl, hb⟩
 have HV : Hid (ofV n = .tuple #[.int .i64 (ofN n : Nat), .bool true]) := LH (by unfold ofV; rw [if_pos (by omega)])
 go_enter Tryz.func180, Tryz.ntmps180
 go_wp2_with fail
 refine (cmost_any _).mono ?_
 rintro e w1 ⟨rfl, hb⟩
 go_wp2_with fail
 go_loopw [4, 5] (fun lo hi wr => ∃ i j : Nat, i ≤ j ∧ j ≤ 31 ∧ lo = .int .i64 i ∧ hi = .int .i64 j ∧ Hid (∀ t, t < i → ((sizesL.getD t 0 : Nat) : Int) < n) ∧ Hid (n ≤ (sizesL.getD j 0 : Nat)) ∧ Below w.heap.size w wr)
  (fun lo hi _ => (intOf hi).toNat - (intOf lo).toNat)
 case atStart => exact ⟨0, 31, by omega, by omega, rfl, rfl, LH (fun t ht => by omega), LH (by show n ≤ 256; omega), hb⟩
 case round =>
  obtain ⟨i, j, hij, hj, rfl, rfl, hlo, hhi, hb⟩ := hrel
  by_cases hlt : i < j
  ·have hm : (i + j) / 2 < 32 := by omega
   have HC := LH (clsWords_nat ((i + j) / 2) hm)
   go_wp2_with fail
   refine (cwords_any _ _).mono ?_
   rintro e w2 ⟨rfl, hb2⟩
   have hb3 := hb.trans (hb2.mono hb.size)
   rw [show ((i : Int) + (j : Int)) / 2 = (((i + j) / 2 : Nat) : Int) by omega] at *
   rw [HC.out]
   obtain ⟨x, hx⟩ : ∃ x, x = sizesL.getD ((i + j) / 2) 0 := ⟨_, rfl⟩
   rw [← hx]
   have HX := LH hx
   clear hx
   by_cases hc : n ≤ (x : Int)
   ·go_wp2_with fail
    refine ⟨⟨i, (i + j) / 2, by omega, by omega, rfl, rfl, hlo, LH (by rw [← HX.out]; exact hc), hb3⟩, by simp [intOf]; omega⟩
   ·go_wp2_with fail
    refine ⟨⟨(i + j) / 2 + 1, j, by omega, by omega, vint (by omega), rfl, LH (fun t ht => ?_), hhi, hb3⟩, by simp [intOf]; omega⟩
    have h1 := sizes_mono t ((i + j) / 2) (by omega) hm
    rw [← HX.out] at h1
    omega
  ·obtain rfl : i = j := by omega
   have HO := LH (ofN_eq n i (by omega) hhi.out hlo.out)
   go_wp2_with fail
   go_ret2
   exact ⟨by rw [HV.out, HO.out]; rfl, hb⟩
def objSize (p d : Int) : Nat := if p < 0 ∨ 63 < p ∨ d < 0 ∨ 16384 < d then 0 else (1 + p + d).toNat
theorem objSize_le (p d : Int) : objSize p d ≤ 16448 := by unfold objSize; split <;> omega
def csizeV (p d : Int) : Value := if objSize p d = 0 then .tuple #[.int .i64 0, .int .i64 5] else .tuple #[.int .i64 (objSize p d : Nat), .int .i64 0]
set_option maxHeartbeats 400000 in
theorem csize_any (p d : Int) (w : World) : Calls Tryz.prog 181 #[.int .i64 p, .int .i64 d] w fun e w' => e = .returned (csizeV p d) ∧ w = w' := by
 by_cases h : p < 0 ∨ 63 < p ∨ d < 0 ∨ 16384 < d
 ·have HS : Hid (csizeV p d = .tuple #[.int .i64 0, .int .i64 5]) := LH (by unfold csizeV; rw [if_pos (by unfold objSize; rw [if_pos h])])
  rcases h with h | h | h | h
  ·go_enter Tryz.func181, Tryz.ntmps181
   go_wp2_with fail
   go_ret2
   exact ⟨by rw [HS.out]; rfl, rfl⟩
  ·have h' : ¬ p < 0 := by omega
   go_enter Tryz.func181, Tryz.ntmps181
   go_wp2_with fail
   go_ret2
   exact ⟨by rw [HS.out]; rfl, rfl⟩
  ·by_cases h1 : p < 0
   ·go_enter Tryz.func181, Tryz.ntmps181
    go_wp2_with fail
    go_ret2
    exact ⟨by rw [HS.out]; rfl, rfl⟩
   by_cases h2 : 63 < p
   ·go_enter Tryz.func181, Tryz.ntmps181
    go_wp2_with fail
    go_ret2
    exact ⟨by rw [HS.out]; rfl, rfl⟩
   go_enter Tryz.func181, Tryz.ntmps181
   go_wp2_with fail
   go_ret2
   exact ⟨by rw [HS.out]; rfl, rfl⟩
  ·have h3 : ¬ d < 0 := by omega
   by_cases h1 : p < 0
   ·go_enter Tryz.func181, Tryz.ntmps181
    go_wp2_with fail
    go_ret2
    exact ⟨by rw [HS.out]; rfl, rfl⟩
   by_cases h2 : 63 < p
   ·go_enter Tryz.func181, Tryz.ntmps181
    go_wp2_with fail
    go_ret2
    exact ⟨by rw [HS.out]; rfl, rfl⟩
   go_enter Tryz.func181, Tryz.ntmps181
   go_wp2_with fail
   go_ret2
   exact ⟨by rw [HS.out]; rfl, rfl⟩
 ·have HS : Hid (csizeV p d = .tuple #[.int .i64 (1 + p + d), .int .i64 0]) := by
   have h1 : ((objSize p d : Nat) : Int) = 1 + p + d := by unfold objSize; rw [if_neg h]; omega
   apply LH
   unfold csizeV
   rw [if_neg (by omega), h1]
  have h1 : ¬ p < 0 := by omega
  have h2 : ¬ 63 < p := by omega
  have h3 : ¬ d < 0 := by omega
  have h4 : ¬ 16384 < d := by omega
  clear h
  go_enter Tryz.func181, Tryz.ntmps181
  go_wp2_with fail
  go_ret2
  exact ⟨by rw [HS.out]; rfl, rfl⟩
set_option maxHeartbeats 400000 in
theorem osize_any (p d : Int) (w : World) : Calls Tryz.prog 118 #[.agg #[.int .i64 p, .int .i64 d]] w fun e w' => e = .returned (.int .i64 (objSize p d : Nat)) ∧ Below w.heap.size w w' := by
 have hb : ∀ o, Below w.heap.size w (w.alloc o) := fun o => (Below.refl _ _).alloc (Nat.le_refl _) o
 have HB := LH hb
 clear hb
 go_enter Tryz.func118, Tryz.ntmps118
 go_wp2_with fail
 refine (csize_any _ _ _).mono ?_
 rintro e w1 ⟨rfl, rfl⟩
 by_cases h : objSize p d = 0
 ·have HV : Hid (csizeV p d = .tuple #[.int .i64 0, .int .i64 5]) := LH (by unfold csizeV; rw [if_pos h])
  rw [HV.out]
  have H := LH h
  clear h
  go_wp2_with fail
  go_ret
  exact ⟨ret_int (by rw [H.out]; rfl), HB.out _⟩
 ·have HV : Hid (csizeV p d = .tuple #[.int .i64 (objSize p d : Nat), .int .i64 0]) := LH (by unfold csizeV; rw [if_neg h])
  rw [HV.out]
  clear h
  go_wp2_with fail
  go_ret
  exact ⟨rfl, HB.out _⟩
set_option maxHeartbeats 400000 in
theorem osmall_any (p d : Int) (w : World) : Calls Tryz.prog 117 #[.agg #[.int .i64 p, .int .i64 d]] w fun e w' => e = .returned (ofV (objSize p d : Nat)) ∧ Below w.heap.size w w' := by
 have hb : ∀ o, Below w.heap.size w (w.alloc o) := fun o => (Below.refl _ _).alloc (Nat.le_refl _) o
 have HB := LH hb
 clear hb
 go_enter Tryz.func117, Tryz.ntmps117
 go_wp2_with fail
 refine (osize_any _ _ _).mono ?_
 rintro e w1 ⟨rfl, hb1⟩
 have hb1' := (HB.out _).trans (hb1.mono (HB.out _).size)
 go_wp2_with fail
 refine (cof_any _ _).mono ?_
 rintro e w2 ⟨rfl, hb2⟩
 have hb2' := hb1'.trans (hb2.mono hb1'.size)
 by_cases h : 1 ≤ ((objSize p d : Nat) : Int) ∧ ((objSize p d : Nat) : Int) ≤ 256
 ·have HV : Hid (ofV (objSize p d : Nat) = .tuple #[.int .i64 (ofN (objSize p d : Nat) : Nat), .bool true]) := LH (by unfold ofV; rw [if_pos h])
  rw [HV.out]
  clear h hb1 hb2 hb1'
  go_wp2_with fail
  go_ret2
  exact ⟨by rw [HV.out]; rfl, hb2'⟩
 ·have HV : Hid (ofV (objSize p d : Nat) = .tuple #[.int .i64 0, .bool false]) := LH (by unfold ofV; rw [if_neg h])
  rw [HV.out]
  clear h hb1 hb2 hb1'
  go_wp2_with fail
  go_ret2
  exact ⟨by rw [HV.out]; rfl, hb2'⟩
def small (n : Nat) : Prop := 1 ≤ n ∧ n ≤ 256
instance (n : Nat) : Decidable (small n) := by unfold small; infer_instance
theorem ofV_small (n : Nat) (h : small n) : ofV (n : Int) = .tuple #[.int .i64 (ofN (n : Int) : Nat), .bool true] := by
 unfold ofV; rw [if_pos (by unfold small at h; omega)]
theorem ofV_large (n : Nat) (h : ¬ small n) : ofV (n : Int) = .tuple #[.int .i64 0, .bool false] := by
 unfold ofV; rw [if_neg (by unfold small at h; omega)]
def objBlocks (n : Nat) : Nat := if small n then 0 else (n + 511) / 512
set_option maxHeartbeats 400000 in
theorem oblocks_any (p d : Int) (w : World) : Calls Tryz.prog 120 #[.agg #[.int .i64 p, .int .i64 d]] w fun e w' => e = .returned (.int .i64 (objBlocks (objSize p d) : Nat)) ∧ Below w.heap.size w w' := by
 have hb : ∀ o, Below w.heap.size w (w.alloc o) := fun o => (Below.refl _ _).alloc (Nat.le_refl _) o
 have HB := LH hb
 clear hb
 have hle := objSize_le p d
 go_enter Tryz.func120, Tryz.ntmps120
 go_wp2_with fail
 refine (osmall_any _ _ _).mono ?_
 rintro e w1 ⟨rfl, hb1⟩
 have hb1' := (HB.out _).trans (hb1.mono (HB.out _).size)
 have hc0 : w1.cell? ⟨w.heap.size, 0, none⟩ = some (.int .i64 p) := by rw [hb1.cell (p := ⟨w.heap.size, 0, none⟩) (by simp)]; exact cell_alloc_new _ _ _ _ _ rfl
 have hc1 : w1.cell? ⟨w.heap.size, 1, none⟩ = some (.int .i64 d) := by rw [hb1.cell (p := ⟨w.heap.size, 1, none⟩) (by simp)]; exact cell_alloc_new _ _ _ _ _ rfl
 by_cases h : small (objSize p d)
 ·rw [ofV_small _ h]
  have HO : Hid (objBlocks (objSize p d) = 0) := LH (by unfold objBlocks; rw [if_pos h])
  clear h hb1
  go_wp2_with fail
  go_ret
  exact ⟨ret_int (by rw [HO.out]; rfl), hb1'⟩
 ·rw [ofV_large _ h]
  have HO : Hid (((objBlocks (objSize p d) : Nat) : Int) = upN (objSize p d : Nat) 512) := LH (by unfold objBlocks upN; rw [if_neg h]; split <;> omega)
  clear h hb1
  go_wp2_with fail
  refine (osize_any _ _ _).mono ?_
  rintro e w2 ⟨rfl, hb2⟩
  have hb2' := hb1'.trans (hb2.mono hb1'.size)
  go_wp2_with fail
  refine (up_any _ _ _ (by omega) (by omega)).mono ?_
  rintro e w3 ⟨rfl, rfl⟩
  rw [← HO.out]
  go_wp2_with fail
  go_ret
  exact ⟨rfl, hb2'⟩
def clsCells (k : Int) : Nat := 512 / clsWords k
set_option maxHeartbeats 400000 in
theorem ccells_any (k : Int) (w : World) : Calls Tryz.prog 119 #[.int .i64 k] w fun e w' => e = .returned (.int .i64 (clsCells k : Nat)) ∧ Below w.heap.size w w' := by
 by_cases h : 0 ≤ k ∧ k < 32
 ·have hp := clsWords_pos k h
  have HC : Hid (((clsCells k : Nat) : Int) = 512 / ((clsWords k : Nat) : Int)) := LH (by simp [clsCells])
  have H := LH h
  clear h
  go_enter Tryz.func119, Tryz.ntmps119
  go_wp2_with fail
  refine (cright_any _ _).mono ?_
  rintro e w1 ⟨rfl, rfl⟩
  rw [decide_eq_true H.out]
  go_wp2_with fail
  refine (cwords_any _ _).mono ?_
  rintro e w1 ⟨rfl, hb⟩
  have hle := clsWords_le k
  generalize clsWords k = x at *
  have hx0 : ((x : Int) == 0) = false := by rw [beq_eq_false_iff_ne]; omega
  go_wp2_with fail
  go_ret
  exact ⟨ret_int (by rw [HC.out]), hb⟩
 ·have HC : Hid (clsCells k = 0) := LH (by unfold clsCells clsWords; rw [if_neg h])
  have H := LH h
  clear h
  go_enter Tryz.func119, Tryz.ntmps119
  go_wp2_with fail
  refine (cright_any _ _).mono ?_
  rintro e w1 ⟨rfl, rfl⟩
  rw [decide_eq_false H.out]
  go_wp2_with fail
  go_ret
  exact ⟨ret_int (by rw [HC.out]; rfl), Below.refl _ _⟩
theorem el_int : Elem Tryz.prog 35 3 (.int .i64 0) 1 8 := Elem.mk' Tryz.underlying35 (by kernel_rfl) rfl (by decide)
end Go.Proofs.YtbimcogdbafjpaaGreat
namespace Go.Proofs.YtbimcogdbafjpaaGreat
open Go.RowKit Go.Maps
theorem grown_drew_alloc (w : World) (o : Obj) (row : Option Nat) : w.grownBy (w.drew.alloc o) row := ⟨rfl, rfl, rfl, by simp, fun k hk _ => (below_alloc w.drew o).block k hk⟩
theorem grown_self (w : World) (row : Option Nat) : w.grownBy w row := ⟨rfl, rfl, rfl, Nat.le_refl _, fun _ _ _ => rfl⟩
theorem vi_one (xs : List Nat) : ∀ u ∈ xs.map vi, u.oneCell' = true := by
 intro u hu
 obtain ⟨x, _, rfl⟩ := List.mem_map.1 hu
 rfl
theorem rowOf_new (g n c : Nat) : ∀ b, rowOf (.slice (some ⟨g, 0, none⟩) n c) = some b → b = g := by
 intro b hb
 have hb2 : (if c = 0 then none else some g) = some b := hb
 by_cases h : c = 0
 ·rw [if_pos h] at hb2; cases hb2
 ·rw [if_neg h] at hb2; cases hb2; rfl
theorem run_append_ownI {w : World} {v : Value} {xs ys : List Nat} {a : Option Addr} {m c : Nat} (ty : TypeId) (h : OwnI w v xs) (hy : Cells w a (ys.map vi)) (hm : ys.length = m) (hn : xs.length + m ≤ 1000000000000) :
  ∃ v' w', (Builtin.append_ #[35, 35] ty #[v, .slice a m c]).run Tryz.prog w = .ok v' w' ∧ OwnI w' v' (xs ++ ys) ∧ w.grownBy w' (rowOf v) ∧ ∀ b, rowOf v' = some b → rowOf v = some b ∨ b = w.heap.size := by
 obtain ⟨i, i1, i2, i3, i4⟩ := el_int.info
 have hby : (xs.length + m) * i.bytes ≤ 140737488355328 := by rw [i4]; omega
 have h63 : xs.length + m ≤ maxLen := by unfold maxLen; omega
 by_cases hm0 : m = 0
 ·have hys : ys = [] := List.length_eq_zero_iff.1 (by omega)
  subst hm0 hys
  refine ⟨v, w, ?_, by simpa using h, grown_self _ _, fun b hb => .inl hb⟩
  rcases h with h | ⟨p, rfl, rfl⟩
  ·cases a with
   | none => exact run_append_owned_none' el_int.under i1 h
   | some d =>
    rcases h.2 with ⟨rfl, h0⟩ | ⟨g, cap, cur, rfl, hb, hg, h1, h2, h3, h4⟩
    ·simp [Builtin.append_, run_underlying el_int.under, sizeOf, typeInfo, i1, Builtin.lenOf, Builtin.firstCells, loadCells, loadCellsFrom]
    ·simp [Builtin.append_, run_underlying el_int.under, sizeOf, typeInfo, i1, Builtin.lenOf, Builtin.firstCells, loadCells, loadCellsFrom, storeCells, h1]
  ·cases a with
   | none => simp [Builtin.append_, run_underlying el_int.under, sizeOf, typeInfo, i1, Builtin.lenOf, Builtin.firstCells, storeCells]
   | some d => simp [Builtin.append_, run_underlying el_int.under, sizeOf, typeInfo, i1, Builtin.lenOf, Builtin.firstCells, loadCells, loadCellsFrom, storeCells]
 ·rcases hy with h0 | ⟨b, off, rfl, hyc⟩
  ·exfalso
   have := congrArg List.length h0
   simp at this
   rw [this] at hm; simp at hm; omega
  have hyc' : ∀ j u, (ys.map vi)[j]? = some u → w.cell? ((⟨b, off, none⟩ : Addr).add j) = some u := fun j u hj => by
   rw [add_none]; exact hyc j u hj
  have hl : (ys.map vi).length = m * 1 := by simp [hm]
  have hl' : (ys.map vi).length = m * i.size := by rw [i3]; exact hl
  have nilcase := run_append_own (P := Tryz.prog) (w := w) 0 35 ty 3 i _ 1 i.bytes el_int.under i1 i2 i3 rfl el_int.cells (by decide) (.slice none 0 0) 0 [] (World.ownsRow_nil w 0 3 1) ⟨b, off, none⟩ m c (ys.map vi) hl hyc' (vi_one ys) (by unfold maxLen at h63 ⊢; omega) (by rw [i4]; omega) (Nat.zero_le _)
  have hnr := run_append_nil (P := Tryz.prog) w 35 ty 3 i _ el_int.under i1 i2 ⟨b, off, none⟩ m c (ys.map vi) hl' hyc' (by omega) (by omega) (by rw [i4]; omega)
  obtain ⟨v1, w1, r1, o1, g1, n1⟩ := nilcase
  have hv1 : v1 = .slice (some ⟨w.heap.size, 0, none⟩) m (grownCap w m 0 3) ∧ w1 = w.drew.alloc (.cells ((ys.map vi).toArray ++ Builtin.zeroCells (Value.int .i64 0).cells (grownCap w m 0 3 - m)) 3) := by
   rw [hnr] at r1
   have e := r1
   injection e with e1 e2
   exact ⟨e1.symm, e2.symm⟩
  rcases h with h | ⟨p, rfl, rfl⟩
  ·rcases h.2 with ⟨rfl, h0⟩ | ⟨g, cap, cur, rfl, hb, hg, h1, h2, h3, h4⟩
   ·have hx : xs = [] := List.length_eq_zero_iff.1 h0
    subst hx
    refine ⟨v1, w1, r1, .inl ?_, ?_, fun b' hb' => .inr ?_⟩
    ·simpa [hm] using o1
    ·rw [hv1.2]; exact grown_drew_alloc _ _ _
    ·rw [hv1.1] at hb'; exact rowOf_new _ _ _ _ hb'
   ·obtain ⟨v2, w2, r2, o2, g2, n2⟩ := run_append_own (P := Tryz.prog) (w := w) 0 35 ty 3 i _ 1 i.bytes el_int.under i1 i2 i3 rfl el_int.cells (by decide) (.slice (some ⟨g, 0, none⟩) xs.length cap) xs.length (xs.map vi) h ⟨b, off, none⟩ m c (ys.map vi) hl hyc' (vi_one ys) h63 hby (Nat.zero_le _)
    have ho2 : OwnI w2 v2 (xs ++ ys) := .inl (by rw [List.length_append, List.map_append, hm]; exact o2)
    by_cases hroom : xs.length + m ≤ cap
    ·have hr := run_append_room (P := Tryz.prog) w 35 ty 3 i el_int.under i1 g xs.length cap cur hg ⟨b, off, none⟩ m c (ys.map vi) hl' hyc' (vi_one ys) hroom (by rw [i3, List.length_map, h3, hm]; omega)
     rw [hr] at r2
     have e := r2
     injection e with e1 e2
     have hcap : cap ≠ 0 := by omega
     refine ⟨v2, w2, by rw [hr, e1, e2], ho2, ?_, fun b' hb' => .inl ?_⟩
     ·have : rowOf (.slice (some ⟨g, 0, none⟩) xs.length cap) = some g := by show (if cap = 0 then none else some g) = some g; rw [if_neg hcap]
      rw [this]; exact g2
     ·rw [← e1] at hb'
      exact hb'
    ·have hr := run_append_grow (P := Tryz.prog) w 35 ty 3 i _ el_int.under i1 i2 ⟨g, 0, none⟩ xs.length cap (xs.map vi) (by simp [i3]) (fun j u hj => by
      have hc : RowAt w g 3 (xs.map vi) := ⟨cur, hg, cur.toList.drop (xs.length * 1), by rw [← h4, List.take_append_drop]⟩
      rw [add_none, Nat.zero_add]; exact hc.cell hj) ⟨b, off, none⟩ m c (ys.map vi) hl' hyc' (by omega) (by omega) (growslice_fits (by omega) hby)
     rw [hr] at r2
     have e := r2
     injection e with e1 e2
     refine ⟨v2, w2, by rw [hr, e1, e2], ho2, ?_, fun b' hb' => .inr ?_⟩
     ·rw [← e2]; exact grown_drew_alloc _ _ _
     ·rw [← e1] at hb'; exact rowOf_new _ _ _ _ hb'
  ·have hr := run_append_grow (P := Tryz.prog) w 35 ty 3 i _ el_int.under i1 i2 p 0 0 [] (by simp) (fun j u hj => by simp at hj) ⟨b, off, none⟩ m c (ys.map vi) hl' hyc' (by omega) (by omega) (growslice_fits (by omega) (by simpa using hby))
   refine ⟨v1, w1, ?_, .inl (by simpa [hm] using o1), ?_, fun b' hb' => .inr ?_⟩
   ·rw [hr, hv1.1, hv1.2]
    simp
   ·rw [hv1.2]; exact grown_drew_alloc _ _ _
   ·rw [hv1.1] at hb'; exact rowOf_new _ _ _ _ hb'
section
variable {w : World} {ops : Array Oper} {rest : List Oper} {o : Oper} {act : Act} {Q : Exit → Act → World → Prop}
theorem wpList_append_ownI {s x : Operand} {v : Value} {xs ys : List Nat} {a : Option Addr} {m c : Nat} (h : OwnI w v xs) (hy : Cells w a (ys.map vi)) (hm : ys.length = m) (hn : xs.length + m ≤ 1000000000000)
  (hgd : o.guard = none) (ho : o.op = .call { callee := .builtin .append, args := #[s, x], argTypes := #[35, 35] })
  (hs : act.eval s = v) (hx : act.eval x = .slice a m c)
  (hK : ∀ v' w', OwnI w' v' (xs ++ ys) → w.grownBy w' (rowOf v) → (∀ b, rowOf v' = some b → rowOf v = some b ∨ b = w.heap.size) → wpList Tryz.prog ops Q rest (act.put o.dst v') w') :
  wpList Tryz.prog ops Q (o :: rest) act w := by
 obtain ⟨v', w', hr, h1, h2, h3⟩ := run_append_ownI (c := c) o.type h hy hm hn
 refine wpList_plain hgd fun K hK' => ?_
 unfold Oper.wp
 simp [execOp, ho, resolve, invoke, builtin, hs, hx, hr, Result.andThen]
 exact hK' _ _ (hK v' w' h1 h2 h3)
theorem wpList_append_newI {s x : Operand} {wa : World} {v : Value} {xs ys : List Nat} {a : Option Addr} {m c B : Nat} (h : OwnI wa v xs) (hb : Below wa.heap.size wa w) (hrow : ∀ b, rowOf v = some b → B ≤ b) (hB : B ≤ w.heap.size) (hy : Cells w a (ys.map vi)) (hm : ys.length = m) (hn : xs.length + m ≤ 1000000000000)
  (hgd : o.guard = none) (ho : o.op = .call { callee := .builtin .append, args := #[s, x], argTypes := #[35, 35] })
  (hs : act.eval s = v) (hx : act.eval x = .slice a m c)
  (hK : ∀ v' w', OwnI w' v' (xs ++ ys) → Below B w w' → (∀ b, rowOf v' = some b → B ≤ b) → wpList Tryz.prog ops Q rest (act.put o.dst v') w') :
  wpList Tryz.prog ops Q (o :: rest) act w := by
 refine wpList_append_ownI (h.keep (fun b hb' => hb.block b (h.lt b hb'))) hy hm hn hgd ho hs hx fun v' w' h1 h2 h3 => hK v' w' h1 ?_ ?_
 ·exact ⟨h2.os, h2.tape, h2.output, h2.size, fun k hk => h2.block k (by omega) (fun e => by have := hrow k e.symm; omega)⟩
 ·intro b hb'
  rcases h3 b hb' with c | c
  ·exact hrow b c
  ·omega
end
theorem OwnI.cut {w : World} {xs : List Nat} {a : Option Addr} {c : Nat} (h : OwnI w (.slice a xs.length c) xs) {n : Nat} (hn : n ≤ xs.length) : OwnI w (.slice a n c) (xs.take n) := by
 have hl : (xs.take n).length = n := by rw [List.length_take]; omega
 rcases h with h | ⟨p, h, rfl⟩
 ·rcases h.2 with ⟨e, h0⟩ | ⟨g, cap, cur, e, hb, hg, h1, h2, h3, h4⟩
  ·have hx : xs = [] := List.length_eq_zero_iff.1 h0
   subst hx
   cases e
   obtain rfl : n = 0 := by simpa using hn
   exact .inl ⟨rfl, .inl ⟨rfl, rfl⟩⟩
  ·cases e
   refine .inl ⟨by simp, .inr ⟨g, c, cur, by rw [hl], hb, hg, by rw [hl]; omega, h2, h3, ?_⟩⟩
   rw [hl, List.map_take, ← h4, List.take_take]
   congr 1; omega
 ·cases h
  obtain rfl : n = 0 := by simpa using hn
  exact .inr ⟨p, rfl, rfl⟩
theorem OwnI.cutN {w : World} {xs : List Nat} {a : Option Addr} {c l : Nat} (h : OwnI w (.slice a l c) xs) (hl : l = xs.length) {n : Nat} (hn : n ≤ l) : OwnI w (.slice a n c) (xs.take n) := by
 subst hl; exact h.cut hn
theorem rowOf_cut (a : Option Addr) (n m c : Nat) : rowOf (.slice a n c) = rowOf (.slice a m c) := by cases a <;> rfl
end Go.Proofs.YtbimcogdbafjpaaGreat
namespace Go.Proofs.YtbimcogdbafjpaaGreat
open Go.RowKit
section
variable {P : Program} {ops : Array Oper} {md : Region.Mode} {C : World → Prop} {Q : Exit → Act → World → Prop}
end
end Go.Proofs.YtbimcogdbafjpaaGreat
namespace Go.Proofs.YtbimcogdbafjpaaGreat
open Go.RowKit Go.Maps
structure Step1 (w w' : World) (f mb n : Nat) (V : Nat → Value) (S S' : FL) (i : Nat) (v : Value) (xs : List Nat) : Prop where
 head : w'.heap[f]? = some (.cells ((List.range 32).map (fun j => if j = i then v else V j) ++ [Value.map (some mb)]).toArray 255 (0, 0))
 map : ∃ M, VMap Tryz.prog 288 w' mb n M ∧ ∀ m k : Nat, m < 4 → k < 32 → (M (pairKey m k)).getD (.slice none 0 0) = if slotI m k = i then v else V (slotI m k)
 own : OwnI w' v xs
 row : ∀ b, rowOf v = some b → rowOf (V i) = some b ∨ w.heap.size ≤ b
 rest : ∀ b, b < w.heap.size → b ≠ f → b ≠ mb → rowOf (V i) ≠ some b → w'.heap[b]? = w.heap[b]?
 size : w.heap.size ≤ w'.heap.size
 lists : ∀ j, j < 160 → S'.at j = if j = i then xs else S.at j
theorem FreeIn.step {w w' : World} {f mb n n' : Nat} {R : List Nat} {V : Nat → Value} {S S' : FL} {i : Nat} {v : Value} {xs : List Nat} (h : FreeIn w f mb n V S) (hi : i < 160)
  (h1 : f ∈ R) (h2 : mb ∈ R) (h3 : ∀ b ∈ R, b < w.heap.size) (h4 : ∀ j, j < 160 → ∀ b, rowOf (V j) = some b → b ∈ R) (t : Step1 w w' f mb n' V S S' i v xs) :
  FreeIn w' f mb n' (fun j => if j = i then v else V j) S' ∧ FreeAt w' f mb n' (R ++ (rowOf v).toList) S' := by
 obtain ⟨M, hm, hv⟩ := t.map
 have hfl := h3 f h1
 have hml := h3 mb h2
 have hnew : ∀ b, rowOf v = some b → b < w'.heap.size := t.own.lt
 have key : FreeIn w' f mb n' (fun j => if j = i then v else V j) S' := by
  refine ⟨t.head, ⟨M, hm, hv⟩, fun j hj => ?_, fun j k hj hk hne b hb => ?_, fun j hj => ?_, h.ne⟩
  ·rw [t.lists j hj]
   by_cases e : j = i
   ·rw [if_pos e, if_pos e]; exact t.own
   ·rw [if_neg e, if_neg e]
    refine (h.rows j hj).keep fun b hb => t.rest b (h3 b (h4 j hj b hb)) (fun e2 => (h.neF j hj).1 (e2 ▸ hb)) (fun e2 => (h.neF j hj).2 (e2 ▸ hb)) (h.apart j i hj hi e b hb)
  ·by_cases e1 : j = i
   ·rw [if_pos e1] at hb
    rw [if_neg (fun c => hne (e1.trans c.symm))]
    rcases t.row b hb with hb | hb
    ·exact fun c => h.apart i k hi hk (fun c => hne (e1.trans c)) b hb c
    ·exact fun c => by have := h3 b (h4 k hk b c); omega
   ·rw [if_neg e1] at hb
    by_cases e2 : k = i
    ·rw [if_pos e2]
     intro c
     rcases t.row b c with c | c
     ·exact h.apart j i hj hi e1 b hb c
     ·have := h3 b (h4 j hj b hb); omega
    ·rw [if_neg e2]
     exact h.apart j k hj hk hne b hb
  ·by_cases e : j = i
   ·rw [if_pos e]
    refine ⟨fun c => ?_, fun c => ?_⟩
    ·rcases t.row f c with c | c
     ·exact (h.neF i hi).1 c
     ·omega
    ·rcases t.row mb c with c | c
     ·exact (h.neF i hi).2 c
     ·omega
   ·rw [if_neg e]; exact h.neF j hj
 refine ⟨key, _, key, List.mem_append_left _ h1, List.mem_append_left _ h2, fun b hb => ?_, fun j hj b hb => ?_⟩
 ·rcases List.mem_append.1 hb with hb | hb
  ·exact Nat.lt_of_lt_of_le (h3 b hb) t.size
  ·exact hnew b (by simpa using hb)
 ·by_cases e : j = i
  ·rw [if_pos e] at hb
   exact List.mem_append_right _ (by simp [hb])
  ·rw [if_neg e] at hb
   exact List.mem_append_left _ (h4 j hj b hb)
structure FreeV (w : World) (f mb n : Nat) (V : Nat → Value) (R : List Nat) (S : FL) : Prop where
 inn : FreeIn w f mb n V S
 f : f ∈ R
 mb : mb ∈ R
 lt : ∀ b ∈ R, b < w.heap.size
 rows : ∀ j, j < 160 → ∀ b, rowOf (V j) = some b → b ∈ R
theorem FreeV.at {w : World} {f mb n : Nat} {V : Nat → Value} {R : List Nat} {S : FL} (h : FreeV w f mb n V R S) : FreeAt w f mb n R S := ⟨V, h.inn, h.f, h.mb, h.lt, h.rows⟩
theorem FreeAt.v {w : World} {f mb n : Nat} {R : List Nat} {S : FL} (h : FreeAt w f mb n R S) : ∃ V, FreeV w f mb n V R S := by
 obtain ⟨V, h1, h2, h3, h4, h5⟩ := h
 exact ⟨V, h1, h2, h3, h4, h5⟩
theorem FreeV.below {w w' : World} {f mb n : Nat} {V : Nat → Value} {R : List Nat} {S : FL} (h : FreeV w f mb n V R S) (hb : Below w.heap.size w w') : FreeV w' f mb n V R S := by
 have hk : ∀ k ∈ R, w'.heap[k]? = w.heap[k]? := fun k hk => hb.block k (h.lt k hk)
 obtain ⟨M, hm, hv⟩ := h.inn.map
 exact ⟨⟨(hk f h.f).trans h.inn.head, ⟨M, hm.block (hk mb h.mb), hv⟩, fun i hi' => (h.inn.rows i hi').keep fun b hb => hk b (h.rows i hi' b hb), h.inn.apart, h.inn.neF, h.inn.ne⟩, h.f, h.mb, fun b hb' => Nat.lt_of_lt_of_le (h.lt b hb') hb.size, h.rows⟩
theorem FreeV.step {w w' : World} {f mb n n' : Nat} {R : List Nat} {V : Nat → Value} {S S' : FL} {i : Nat} {v : Value} {xs : List Nat} (h : FreeV w f mb n V R S) (hi : i < 160) (t : Step1 w w' f mb n' V S S' i v xs) :
  FreeV w' f mb n' (fun j => if j = i then v else V j) (R ++ (rowOf v).toList) S' := by
 obtain ⟨k1, k2⟩ := h.inn.step hi h.f h.mb h.lt h.rows t
 refine ⟨k1, List.mem_append_left _ h.f, List.mem_append_left _ h.mb, k2.mem, fun j hj b hb => ?_⟩
 by_cases e : j = i
 ·rw [if_pos e] at hb
  exact List.mem_append_right _ (by simp [hb])
 ·rw [if_neg e] at hb
  exact List.mem_append_left _ (h.rows j hj b hb)
def FreeGo (w w' : World) (f mb n : Nat) (R : List Nat) (S : FL) : Prop := ∃ R', FreeAt w' f mb n R' S ∧ Touch R w w' ∧ ∀ b ∈ R', b ∈ R ∨ w.heap.size ≤ b
theorem FreeGo.refl {w : World} {f mb n : Nat} {R : List Nat} {S : FL} (h : FreeAt w f mb n R S) : FreeGo w w f mb n R S := ⟨R, h, Touch.refl _ _, fun _ h => .inl h⟩
theorem FreeGo.later {w w1 w2 : World} {f mb n : Nat} {R : List Nat} {S : FL} (h : FreeGo w w1 f mb n R S) (hb : Below w1.heap.size w1 w2) : FreeGo w w2 f mb n R S := by
 obtain ⟨R', h1, h2, h3⟩ := h
 exact ⟨R', h1.below hb, h2.later hb, h3⟩
theorem FreeGo.mono {w w1 : World} {f mb n n' : Nat} {R : List Nat} {S : FL} (h : FreeGo w w1 f mb n R S) (hn : n ≤ n') : FreeGo w w1 f mb n' R S := by
 obtain ⟨R', h1, h2, h3⟩ := h
 exact ⟨R', h1.mono hn, h2, h3⟩
theorem Touch.join {R R' : List Nat} {w w1 w2 : World} (h : Touch R w w1) (k : Touch R' w1 w2) (hR : ∀ b ∈ R', b ∈ R ∨ w.heap.size ≤ b) : Touch R w w2 :=
 h.own k (fun b hb => (hR b hb).symm)
theorem FreeGo.trans {w w1 w2 : World} {f mb n : Nat} {R R1 : List Nat} {S : FL} (h1 : Touch R w w1) (h2 : ∀ b ∈ R1, b ∈ R ∨ w.heap.size ≤ b) (h : FreeGo w1 w2 f mb n R1 S) : FreeGo w w2 f mb n R S := by
 obtain ⟨R', g1, g2, g3⟩ := h
 refine ⟨R', g1, h1.join g2 h2, fun b hb => ?_⟩
 rcases g3 b hb with c | c
 ·exact h2 b c
 ·exact .inr (Nat.le_trans h1.size c)
theorem Step1.go {w w' : World} {f mb n n' : Nat} {R : List Nat} {V : Nat → Value} {S S' : FL} {i : Nat} {v : Value} {xs : List Nat} (h : FreeIn w f mb n V S) (hi : i < 160)
  (h1 : f ∈ R) (h2 : mb ∈ R) (h3 : ∀ b ∈ R, b < w.heap.size) (h4 : ∀ j, j < 160 → ∀ b, rowOf (V j) = some b → b ∈ R) (t : Step1 w w' f mb n' V S S' i v xs) (ht : w'.os = w.os ∧ w'.tape = w.tape ∧ w'.output = w.output) :
  FreeGo w w' f mb n' R S' := by
 refine ⟨_, (h.step hi h1 h2 h3 h4 t).2, ⟨ht.1, ht.2.1, ht.2.2, t.size, fun b hb hn => t.rest b hb (fun e => hn (e ▸ h1)) (fun e => hn (e ▸ h2)) (fun e => hn (h4 i hi b e))⟩, fun b hb => ?_⟩
 rcases List.mem_append.1 hb with hb | hb
 ·exact .inl hb
 ·rcases t.row b (by simpa using hb) with c | c
  ·exact .inl (h4 i hi b c)
  ·exact .inr c
theorem Step1.touch {w w' : World} {f mb n n' : Nat} {R : List Nat} {V : Nat → Value} {S S' : FL} {i : Nat} {v : Value} {xs : List Nat} (h : FreeV w f mb n V R S) (hi : i < 160) (t : Step1 w w' f mb n' V S S' i v xs) (ht : w'.os = w.os ∧ w'.tape = w.tape ∧ w'.output = w.output) :
  Touch R w w' ∧ ∀ b ∈ R ++ (rowOf v).toList, b ∈ R ∨ w.heap.size ≤ b := by
 refine ⟨⟨ht.1, ht.2.1, ht.2.2, t.size, fun b hb hn => t.rest b hb (fun e => hn (e ▸ h.f)) (fun e => hn (e ▸ h.mb)) (fun e => hn (h.rows i hi b e))⟩, fun b hb => ?_⟩
 rcases List.mem_append.1 hb with hb | hb
 ·exact .inl hb
 ·rcases t.row b (by simpa using hb) with c | c
  ·exact .inl (h.rows i hi b c)
  ·exact .inr c
theorem FreeGo.more {w w1 w' : World} {f mb n n' : Nat} {R R1 : List Nat} {V : Nat → Value} {S S' : FL} {i : Nat} {v : Value} {xs : List Nat} (h0 : Touch R w w1) (h2 : ∀ b ∈ R1, b ∈ R ∨ w.heap.size ≤ b) (h : FreeV w1 f mb n V R1 S) (hi : i < 160) (t : Step1 w1 w' f mb n' V S S' i v xs) (ht : w'.os = w1.os ∧ w'.tape = w1.tape ∧ w'.output = w1.output) :
  FreeGo w w' f mb n' R S' := by
 obtain ⟨g1, g2⟩ := t.touch h hi ht
 refine ⟨_, (h.step hi t).at, h0.join g1 h2, fun b hb => ?_⟩
 rcases g2 b hb with c | c
 ·exact h2 b c
 ·exact .inr (Nat.le_trans h0.size c)
theorem step_g {w wd w1 : World} {f mb n : Nat} {R : List Nat} {V : Nat → Value} {S : FL} {k : Nat} {v : Value} {xs : List Nat} (hi : FreeIn w f mb n V S) (hk : k < 32)
  (h1 : f ∈ R) (h2 : mb ∈ R) (h3 : ∀ b ∈ R, b < w.heap.size) (hd : Below w.heap.size w wd) (hg : wd.grownBy w1 (rowOf (V k))) (hv : OwnI w1 v xs) (hrow : ∀ b, rowOf v = some b → rowOf (V k) = some b ∨ w.heap.size ≤ b) :
  Step1 w (w1.setCell ⟨f, k, none⟩ v) f mb n V S (S.setG k xs) k v xs := by
 have hfl := h3 f h1
 have hml := h3 mb h2
 obtain ⟨M, hm, hvv⟩ := hi.map
 have hb : ∀ b, b < w.heap.size → rowOf (V k) ≠ some b → w1.heap[b]? = w.heap[b]? := fun b hb hn => (hg.block b (Nat.lt_of_lt_of_le hb hd.size) (fun e => hn e.symm)).trans (hd.block b hb)
 have hf1 := (hb f hfl (hi.neF k (by omega)).1).trans hi.head
 have hne : ∀ b, rowOf v = some b → b ≠ f := fun b hb e => by
  subst e
  rcases hrow b hb with c | c
  ·exact (hi.neF k (by omega)).1 c
  ·omega
 refine ⟨?_, ⟨M, (hm.block ?_), fun m j hm4 hj => ?_⟩, hv.keep (fun b hb => Below.heap_setCell _ _ _ _ (hne b hb)), hrow, fun b hbl h5 h6 h7 => ?_, ?_, fun j hj => ?_⟩
 ·rw [heap_setCell_same w1 f k _ _ _ hf1]
  congr 2
  apply Array.ext'
  rw [Array.toList_setIfInBounds]
  simp only
  apply List.ext_getElem?
  intro t
  rw [List.getElem?_set]
  by_cases e : k = t
  ·subst e
   rw [if_pos rfl, if_pos (by simp; omega), List.getElem?_append_left (by simpa using hk)]
   simp [hk]
  ·rw [if_neg e]
   by_cases ht : t < 32
   ·rw [List.getElem?_append_left (by simpa using ht), List.getElem?_append_left (by simpa using ht)]
    have : ¬ t = k := fun c => e c.symm
    simp [ht, this]
   ·rw [List.getElem?_append_right (by simpa using ht), List.getElem?_append_right (by simpa using ht)]
    simp
 ·rw [Below.heap_setCell _ _ _ _ (fun e => hi.ne e.symm)]
  exact hb mb hml (hi.neF k (by omega)).2
 ·rw [hvv m j hm4 hj, if_neg (by unfold slotI; omega)]
 ·rw [Below.heap_setCell _ _ _ _ h5]
  exact hb b hbl h7
 ·have := hg.size; have := hd.size; simp; omega
 ·unfold FL.at
  simp only [FL.setG_g, FL.setG_c]
  by_cases e : j < 32
  ·rw [if_pos e, if_pos e]
  ·rw [if_neg e, if_neg e, if_neg (by omega)]
set_option maxHeartbeats 1000000 in
set_option maxRecDepth 20000 in
theorem fown_any {w : World} {f mb n : Nat} {R : List Nat} {S : FL} (h : FreeAt w f mb n R S) (m k : Nat) (hm4 : m < 4) (hk : k < 32) :
  Calls Tryz.prog 229 #[vfree f, .int .i64 (m : Int), .int .i64 (k : Int)] w (Same1 (.int .i64 ((S.c m k).length : Int)) w) := by
 obtain ⟨V, hi, _⟩ := h
 obtain ⟨M, hm, hv⟩ := hi.map
 have HM := LH hm
 have c32 := hi.m
 obtain ⟨ac, cc, ec, hcc, _, _⟩ := (hi.rows (slotI m k) (by unfold slotI; omega)).cells
 rw [S.at_c m hk] at ec
 have HVi := hv m k hm4 hk
 rw [ec] at HVi
 have HVi := LH HVi
 have hkey := key_slot (m : Int) (k : Int) (wf_small m (by omega)) (wf_small k (by omega))
 clear hi hm hv ec hcc
 generalize (S.c m k).length = l at *
 go_enter Tryz.func229, Tryz.ntmps229
 go_wp2_with (refine wpList_vlook rfl _ _ 252 rfl 288 35 keyed_slot Tryz.underlying252 _ (zero_ints _) mb n M rfl HM.out _ _ rfl hkey ?_; rw [HVi.out])
 go_ret
 exact ⟨rfl, rfl⟩
def FL.upto (S : FL) (N : Nat) : Prop := ∀ i, i < 160 → (S.at i).length ≤ N
theorem FL.upto.mono {S : FL} {N M : Nat} (h : S.upto N) (hN : N ≤ M) : S.upto M := fun i hi => Nat.le_trans (h i hi) hN
theorem FL.pushed_upto {S : FL} {N : Nat} (h : S.upto N) (k a : Nat) : (S.pushed k a).upto (N + 1) := by
 intro i hi
 have := h i hi
 unfold FL.pushed
 split
 ·omega
 ·unfold FL.at at this ⊢
  simp only [FL.setG_g, FL.setG_c]
  by_cases e : i < 32
  ·rw [if_pos e] at this ⊢
   split
   ·rename_i e2; subst e2; simp; omega
   ·omega
  ·rw [if_neg e] at this ⊢; omega
theorem grown_touchO {w w' : World} {row : Option Nat} (h : w.grownBy w' row) : Touch row.toList w w' :=
 ⟨h.os, h.tape, h.output, h.size, fun k hk hn => h.block k hk (fun e => hn (by rw [← e]; simp))⟩
def Pushed (w : World) (f mb n : Nat) (R : List Nat) (S : FL) (k a : Nat) : Ending → World → Prop := fun e w' => e = .returned (.int .i64 (if S.has k a then 41 else 0)) ∧ FreeGo w w' f mb n R (S.pushed k a)
set_option maxHeartbeats 2000000 in
set_option maxRecDepth 20000 in
theorem fpush_any {w : World} {f mb n : Nat} {R : List Nat} {S : FL} (h : FreeAt w f mb n R S) (hL : S.upto 1000000) (k a : Nat) (hk : k < 32) :
  Calls Tryz.prog 159 #[vfree f, .int .i64 (k : Int), .int .i64 (a : Int)] w (Pushed w f mb n R S k a) := by
 have HF := LH h
 have HHas := LH (fhas_any h hL k a hk)
 have HP : Hid (∀ x w', x = (if S.has k a then 41 else 0) → FreeGo w w' f mb n R (S.pushed k a) → Pushed w f mb n R S k a (.returned (.int .i64 x)) w') := LH (fun x w' h1 h2 => by subst h1; exact ⟨rfl, h2⟩)
 generalize Pushed w f mb n R S k a = Post at *
 obtain ⟨V, hi, h1, h2, h3, h4⟩ := h
 have HI := LH hi
 have HR1 := LH h1
 have HR2 := LH h2
 have HR3 := LH h3
 have HR4 := LH h4
 have ck := hi.g hk
 have HOwn := LH (hi.rows k (by omega))
 have HLk : Hid ((S.g k).length ≤ 1000000) := LH (by have := hL k (by omega); rwa [S.at_g hk] at this)
 clear hi h1 h2 h3 h4 hL
 go_enter Tryz.func159, Tryz.ntmps159
 go_wp2_with fail
 refine (cright_any _ _).mono ?_
 rintro e w1 ⟨rfl, rfl⟩
 rw [decide_eq_true (show (0 : Int) ≤ (k : Int) ∧ (k : Int) < 32 by omega)]
 go_wp2_with fail
 refine HHas.out.mono ?_
 rintro e w1 ⟨rfl, rfl⟩
 cases hh : S.has k a with
 | true =>
  have HE : Hid (41 = (if S.has k a then (41 : Int) else 0) ∧ FreeGo w w f mb n R (S.pushed k a)) := LH ⟨by rw [hh]; rfl, by unfold FL.pushed; rw [hh]; exact FreeGo.refl HF.out⟩
  clear hh
  go_wp2_with fail
  exact HP.out _ _ HE.out.1 HE.out.2
 | false =>
  have HE : Hid (0 = (if S.has k a then (41 : Int) else 0) ∧ S.pushed k a = S.setG k (S.g k ++ [a])) := LH ⟨by rw [hh]; rfl, by unfold FL.pushed; rw [hh]; rfl⟩
  clear hh
  go_upto_region 5 with fail
  have hfn : f ∉ (rowOf (V k)).toList := fun hm => (HI.out.neF k (by omega)).1 (by simpa using hm)
  have r0 := fun x => near_cell (L := (rowOf (V k)).toList) ck hfn x
  clear ck hfn
  have hC1 : ∃ x : Near (rowOf (V k)).toList w, w.drew = x.val := near_of (Touch.ofBelow (later_below (later_drew w)))
  have HD0 : Hid (Below w.heap.size w w.drew) := LH (later_below (later_drew w))
  refine wp_region_seg (C := fun w' => ∃ x : Near (rowOf (V k)).toList w, w' = x.val) [.fl [0, 1, 2, 3, 4, 5, 6, 7, 8, 11, 12], .sq [9] true, .sq [10] true, .sq [13, 14] false] (by kernel_rfl) (by kernel_rfl) (by intro c a d v w h; cases d <;> exact h) ?_
  simp only [segs, picks, List.getElem?_cons_succ, List.getElem?_cons_zero]
  refine wpSeg_fl hC1 ?_
  repeat (first | go_big_quiet_step (fail) | quiet_step (fail))
  refine wpQuiet_nil ?_
  clear r0
  generalize w.drew = wd at *
  refine wpSeg_sq (fun K hK => ?_)
  go_wp2_with fail
  have hbn := below_alloc wd (.cells #[.int .i64 (a : Int)] 3)
  have HB2 : Hid (Below w.heap.size w (wd.alloc (.cells #[.int .i64 (a : Int)] 3))) := LH (HD0.out.trans (hbn.mono HD0.out.size))
  have hC2 : ∃ x : Near (rowOf (V k)).toList w, wd.alloc (.cells #[.int .i64 (a : Int)] 3) = x.val := near_of (Touch.ofBelow HB2.out)
  have HC2 : Hid (Cells (wd.alloc (.cells #[.int .i64 (a : Int)] 3)) (some ⟨wd.heap.size, 0, none⟩) ([a].map vi)) := LH (RowAt.cells ⟨_, heap_alloc_new _ _, [], rfl⟩)
  clear hbn
  go_wp2_with fail
  refine hK _ _ (fun _ => hC2) ?_
  clear hK K
  obtain ⟨q, hq⟩ : ∃ q, q = wd.heap.size := ⟨_, rfl⟩
  rw [← hq] at HC2 ⊢
  clear hq
  generalize wd.alloc _ = we at *
  have HOe : Hid (OwnI we (V k) (S.g k)) := LH (by rw [← S.at_g hk]; exact HOwn.out.keep (fun b hb => HB2.out.block b (HR3.out b (HR4.out k (by omega) b hb))))
  have HN1 : Hid ((S.g k).length + 1 ≤ 1000000000000) := LH (by have := HLk.out; omega)
  refine wpSeg_sq (fun K hK => ?_)
  go_wp2_with (refine wpList_append_ownI (m := 1) HOe.out HC2.out rfl HN1.out rfl rfl rfl rfl ?_; intro v' w1 ho hg hr; have HO1 := LH ho; have HG1 := LH hg; have HR := LH hr; clear ho hg hr)
  have HT1 : Hid (Touch (rowOf (V k)).toList w w1) := LH ((Touch.ofBelow HB2.out).trans (grown_touchO HG1.out))
  have hC3 := near_of HT1.out
  go_wp2_with fail
  refine hK _ _ (fun _ => hC3) ?_
  clear hK K
  have hst := step_g HI.out hk HR1.out HR2.out HR3.out HB2.out HG1.out HO1.out (fun b hb => by
   rcases HR.out b hb with c | c
   ·exact .inl c
   ·exact .inr (by rw [c]; exact HB2.out.size))
  have HGo : Hid (FreeGo w (w1.setCell ⟨f, k, none⟩ v') f mb n R (S.pushed k a)) := LH (by
   rw [HE.out.2]
   exact hst.go HI.out (by omega) HR1.out HR2.out HR3.out HR4.out ⟨HG1.out.os.trans HB2.out.os, HG1.out.tape.trans HB2.out.tape, HG1.out.output.trans HB2.out.output⟩)
  have HE0 := LH HE.out.1
  have HF1 : Hid (w1.heap[f]? = some (.cells ((List.range 32).map V ++ [Value.map (some mb)]).toArray 255 (0, 0))) := LH (by
   have := (HG1.out.block f (Nat.lt_of_lt_of_le (HR3.out f HR1.out) HB2.out.size) (fun e => (HI.out.neF k (by omega)).1 e.symm)).trans (HB2.out.block f (HR3.out f HR1.out))
   exact this.trans HI.out.head)
  have fr : w1.frozen? ⟨f, k, none⟩ = false := frozen_of_row _ _ _ _ _ HF1.out
  have ck1 : w1.cell? ⟨f, k, none⟩ = some (V k) := (cell_of_row _ _ k _ _ _ HF1.out).trans (HI.out.lt hk)
  obtain ⟨a', c', e', _⟩ := HO1.out.cells
  obtain ⟨l', hl'⟩ : ∃ l', l' = (S.g k ++ [a]).length := ⟨_, rfl⟩
  rw [← hl'] at e'
  subst e'
  clear hst hl'
  refine wpSeg_last ?_
  go_wp2_with fail
  generalize w1.setCell _ _ = w2 at *
  go_wp2_with fail
  exact HP.out _ _ HE0.out HGo.out
def NewI (w : World) (xs : List Nat) : Ending → World → Prop := fun e w' => ∃ v, e = .returned v ∧ OwnI w' v xs ∧ (∀ b, rowOf v = some b → w.heap.size ≤ b) ∧ Below w.heap.size w w'
set_option maxHeartbeats 1000000 in
set_option maxRecDepth 20000 in
theorem cloneI_any {w : World} (a : Option Addr) (n c : Nat) (xs : List Nat) (hn : xs.length = n) (hc : Cells w a (xs.map vi)) (h9 : xs.length ≤ 1000000) (hnil : a = none → c = 0) :
  Calls Tryz.prog 204 #[.slice a n c] w (NewI w xs) := by
 subst hn
 cases a with
 | none =>
  have hx : xs = [] := by
   rcases hc with h | ⟨_, _, h, _⟩
   ·simpa using h
   ·cases h
  subst hx
  obtain rfl := hnil rfl
  have hnl := fun w' => Lib.run_eql_slice_nil_nil (P := Tryz.prog) w' (t := 35) 0 0 Tryz.underlying35
  go_enter Tryz.func204, Tryz.ntmps204
  go_wp2_with fail
  go_ret
  exact ⟨.slice none 0 0, rfl, OwnI.nil _, fun b hb => (by cases hb), Below.refl _ _⟩
 | some d =>
  have HC0 := LH hc
  have HO : Hid (OwnI (w.alloc (.cells #[] 3)) (.slice (some ⟨w.heap.size, 0, none⟩) 0 0) []) :=
   LH (.inl ⟨rfl, .inr ⟨w.heap.size, 0, #[], rfl, Nat.zero_le _, heap_alloc_new w _, Nat.le_refl _, Nat.zero_le _, rfl, rfl⟩⟩)
  have HB := LH (below_alloc w (.cells #[] 3))
  have HC : Hid (Cells (w.alloc (.cells #[] 3)) (some d) (xs.map vi)) := LH (by
   rcases hc with h | ⟨b, off, e, h⟩
   ·exact .inl h
   ·exact .inr ⟨b, off, e, fun i v hi => by
     have := h i v hi
     rw [HB.out.cell (World.block_lt_of_cell? _ _ this)]; exact this⟩)
  have HN : Hid (([] : List Nat).length + xs.length ≤ 1000000000000) := LH (by simp; omega)
  have hnl := fun w' => Lib.run_eql_slice_some_nil (P := Tryz.prog) w' (t := 35) d xs.length c Tryz.underlying35
  obtain ⟨l, hl⟩ : ∃ l, l = xs.length := ⟨_, rfl⟩
  rw [← hl] at HN hnl ⊢
  have HL := LH hl.symm
  clear hc hl h9 hnil
  go_enter Tryz.func204, Tryz.ntmps204
  go_wp2_with (at_builtin; refine wpList_append_ownI (m := l) HO.out HC.out HL.out HN.out rfl rfl rfl rfl ?_; intro v' w2 ho hg hr; have HO2 := LH ho; have HG2 := LH hg; have HR2 := LH hr; clear ho hg hr)
  go_ret
  refine ⟨_, rfl, by simpa using HO2.out, fun b hb => ?_, ?_⟩
  ·rcases HR2.out b hb with h | h
   ·have : rowOf (.slice (some ⟨w.heap.size, 0, none⟩) 0 0) = none := rfl
    rw [this] at h; cases h
   ·rw [h]; exact HB.out.size
  ·have hg : World.grownBy _ w2 none := HG2.out
   exact HB.out.trans ((below_grown hg (Nat.le_refl _)).mono HB.out.size)
end Go.Proofs.YtbimcogdbafjpaaGreat
namespace Go.Proofs.YtbimcogdbafjpaaGreat
open Go.RowKit
theorem peek_in (l : List Nat) (j : Nat) : peek l (j : Int) = l.getD j 0 := by unfold peek; rw [if_pos (by omega)]; rfl
structure TabAt (w : World) (p : Nat) (F : Foot) (B : Nat) (l : List Hd) : Prop where
 ex : ∃ g c, w.heap[p]? = some (.cells #[vdev F, .int .i64 (B : Int), .slice (some ⟨g, 0, none⟩) l.length c] 190 (0, 0)) ∧ l.length ≤ c ∧ RowAt w g 104 (hdCs l) ∧ p ≠ g
def Hd.val (h : Hd) : Value := .agg #[.int .i64 h.k, .int .i64 h.c, .int .i64 h.l]
def hdGet (l : List Hd) (b : Int) : Hd := if b < 1 ∨ (l.length : Int) ≤ b then ⟨0, 0, 0⟩ else l.getD b.toNat default
set_option maxHeartbeats 1000000 in
theorem tget_any {w : World} {p B : Nat} {F : Foot} {l : List Hd} (h : TabAt w p F B l) (b : Int) (hl : l.length ≤ 1000) :
  Calls Tryz.prog 45 #[.pointer (some ⟨p, 0, none⟩), .int .i64 b] w fun e w' => e = .returned (hdGet l b).val ∧ Below w.heap.size w w' := by
 obtain ⟨g, c, hp, hc, hr, hne⟩ := h.ex
 have c2 : w.cell? ⟨p, 2, none⟩ = some (.slice (some ⟨g, 0, none⟩) l.length c) := cell_of_row _ _ 2 _ _ _ hp
 have hpl : p < w.heap.size := (Array.getElem?_eq_some_iff.1 hp).1
 have hgl := hr.lt
 by_cases h1 : b < 1
 ·have HE : Hid (hdGet l b = ⟨0, 0, 0⟩) := LH (by unfold hdGet; rw [if_pos (.inl h1)])
  clear hp hr h
  go_enter Tryz.func45, Tryz.ntmps45
  go_wp2_with fail
  exact bodyPost_ret (v := .agg #[.int .i64 0, .int .i64 0, .int .i64 0]) (by simp [results, Tryz.results45, go_sem]) rfl ⟨by rw [HE.out]; rfl, below_alloc _ _⟩
 by_cases h2 : (l.length : Int) ≤ b
 ·have HE : Hid (hdGet l b = ⟨0, 0, 0⟩) := LH (by unfold hdGet; rw [if_pos (.inr h2)])
  clear hp hr h
  go_enter Tryz.func45, Tryz.ntmps45
  go_wp2_with fail
  exact bodyPost_ret (v := .agg #[.int .i64 0, .int .i64 0, .int .i64 0]) (by simp [results, Tryz.results45, go_sem]) rfl ⟨by rw [HE.out]; rfl, below_alloc _ _⟩
 obtain ⟨j, rfl⟩ := Int.eq_ofNat_of_zero_le (show 0 ≤ b by omega)
 have hj : j < l.length := by omega
 have HE : Hid (hdGet l (j : Int) = l.getD j default) := LH (by unfold hdGet; rw [if_neg (by omega)]; rfl)
 have HA := hdCs_at l j hj
 generalize l.getD j default = hd at *
 obtain ⟨hk, hcl, hln⟩ := hd
 have d0 : w.cell? ⟨g, j * 3, none⟩ = some (.int .i64 hk) := hr.cell (HA 0 _ rfl)
 have d1 : w.cell? ⟨g, j * 3 + 1, none⟩ = some (.int .i64 hcl) := hr.cell (HA 1 _ rfl)
 have d2 : w.cell? ⟨g, j * 3 + 2, none⟩ = some (.int .i64 hln) := hr.cell (HA 2 _ rfl)
 clear hp hr h HA
 go_enter Tryz.func45, Tryz.ntmps45
 go_wp2_with fail
 exact bodyPost_ret (v := .agg #[.int .i64 hk, .int .i64 hcl, .int .i64 hln]) (by simp [results, Tryz.results45, go_sem]) rfl ⟨by rw [HE.out]; rfl, below_alloc _ _⟩
theorem hdGetD (l : List Hd) (j : Nat) : ∃ k c n, l.getD j default = ⟨k, c, n⟩ := ⟨_, _, _, rfl⟩
theorem fsBh : (Tryz.prog.fieldsOf 104) = #[{ name := "Kind", type := 3, offset := 0, embedded := false, tag := "", pkgPath := "", byteOffset := 0 },
        { name := "Class", type := 3, offset := 1, embedded := false, tag := "", pkgPath := "", byteOffset := 8 },
        { name := "Len", type := 3, offset := 2, embedded := false, tag := "", pkgPath := "", byteOffset := 16 }] := by kernel_rfl
theorem usBh : Tryz.prog.underlying 104 = some (.struct (Tryz.prog.fieldsOf 104)) := by kernel_rfl
theorem ssBh : Tryz.prog.stoodInHeld 104 = false := by kernel_rfl
theorem gsBh : Tryz.prog.eqGuardType Tryz.prog.depth 104 = false := by kernel_rfl
theorem equalBh (w : World) (a b c a' b' c' : Int) (r : Bool) (hr : r = ((a == a') && (b == b') && (c == c'))) : (Op.equalIn 10000 104 (.agg #[.int .i64 a, .int .i64 b, .int .i64 c]) (.agg #[.int .i64 a', .int .i64 b', .int .i64 c'])).run Tryz.prog w = .ok r w := by
 rw [hr, show (10000 : Nat) = 9999 + 1 from rfl, run_equalIn_agg w 9999 104 _ _ usBh ssBh, fsBh]
 by_cases h1 : a = a' <;> by_cases h2 : b = b' <;> by_cases h3 : c = c' <;> simp [Op.eqFields, go_sem, h1, h2, h3, Tryz.underlying3, part]
theorem hd_beq (k c n k' c' n' : Int) : decide ((⟨k, c, n⟩ : Hd) = ⟨k', c', n'⟩) = ((k == k') && (c == c') && (n == n')) := by
 rw [Bool.eq_iff_iff]; simp [Hd.mk.injEq, and_assoc]
theorem hd_cells {w : World} {a : Option Addr} {l : List Hd} (h : Cells w a (hdCs l)) {j : Nat} (hj : j < l.length) {k c n : Int} (he : l.getD j default = ⟨k, c, n⟩) :
  ∃ b off, a = some ⟨b, off, none⟩ ∧ w.cell? ⟨b, off + j * 3, none⟩ = some (.int .i64 k) ∧ w.cell? ⟨b, off + j * 3 + 1, none⟩ = some (.int .i64 c) ∧ w.cell? ⟨b, off + j * 3 + 2, none⟩ = some (.int .i64 n) := by
 have HA := hdCs_at l j hj
 rw [he] at HA
 rcases h with h | ⟨b, off, rfl, h⟩
 ·have := congrArg List.length h
  rw [hdCs_length] at this
  simp only [List.length_nil] at this
  omega
 ·exact ⟨b, off, rfl, h _ _ (HA 0 _ rfl), h _ _ (HA 1 _ rfl), h _ _ (HA 2 _ rfl)⟩
abbrev Sp := Nat × Nat
def spCs (l : List Sp) : List Value := l.flatMap fun s => [.int .i64 s.1, .int .i64 s.2]
theorem spCs_length (l : List Sp) : (spCs l).length = 2 * l.length := by
 induction l with
 | nil => rfl
 | cons h l ih => simp only [spCs, List.flatMap_cons, List.length_append, List.length_cons] at *; rw [ih]; simp; omega
theorem spCs_append (l m : List Sp) : spCs (l ++ m) = spCs l ++ spCs m := by simp [spCs]
theorem spCs_last (l : List Sp) (s n : Nat) : (spCs (l ++ [(s, n)]))[l.length * 2]? = some (.int .i64 (s : Int)) ∧ (spCs (l ++ [(s, n)]))[l.length * 2 + 1]? = some (.int .i64 (n : Int)) := by
 have hl := spCs_length l
 rw [spCs_append]
 constructor
 ·rw [List.getElem?_append_right (by omega), show l.length * 2 - (spCs l).length = 0 by omega]; rfl
 ·rw [List.getElem?_append_right (by omega), show l.length * 2 + 1 - (spCs l).length = 1 by omega]; rfl
theorem spCs_bump (l : List Sp) (s n m : Nat) : (spCs (l ++ [(s, n)])).set (l.length * 2 + 1) (.int .i64 (m : Int)) = spCs (l ++ [(s, m)]) := by
 have hl := spCs_length l
 rw [spCs_append, spCs_append, List.set_append_right _ _ (by omega), show l.length * 2 + 1 - (spCs l).length = 1 by omega]
 rfl
def bump (l : List Sp) : List Sp := match l.getLast? with
 | none => l
 | some s => l.dropLast ++ [(s.1, s.2 + 1)]
theorem bump_last (l : List Sp) (s n : Nat) : bump (l ++ [(s, n)]) = l ++ [(s, n + 1)] := by simp [bump]
def spanL (ks : Nat → Bool) : Nat → List Sp
 | 0 => []
 | b + 1 => if b = 0 ∨ ks b = false then spanL ks b else if 1 < b ∧ ks (b - 1) = true then bump (spanL ks b) else spanL ks b ++ [(b, 1)]
theorem spanL_last (ks : Nat → Bool) (b : Nat) (hb : 1 ≤ b) : if 1 < b ∧ ks (b - 1) = true then ∃ l s n, spanL ks b = l ++ [(s, n)] ∧ s + n = b ∧ l.length < b else (spanL ks b = [] ∨ ∃ l s n, spanL ks b = l ++ [(s, n)] ∧ s + n < b ∧ l.length < b) := by
 induction b with
 | zero => omega
 | succ b ih =>
  by_cases h0 : b = 0
  ·subst h0; rw [if_neg (by omega)]; left; rfl
  have ih := ih (by omega)
  rw [Nat.add_sub_cancel]
  by_cases hk : ks b = true
  ·rw [if_pos ⟨by omega, hk⟩]
   by_cases hp : 1 < b ∧ ks (b - 1) = true
   ·rw [if_pos hp] at ih
    obtain ⟨l, s, n, h1, h2, h3⟩ := ih
    refine ⟨l, s, n + 1, ?_, by omega, by omega⟩
    rw [spanL, if_neg (by simp [h0, hk]), if_pos hp, h1, bump_last]
   ·rw [if_neg hp] at ih
    refine ⟨spanL ks b, b, 1, ?_, rfl, ?_⟩
    ·rw [spanL, if_neg (by simp [h0, hk]), if_neg hp]
    ·rcases ih with h | ⟨l, s, n, h1, h2, h3⟩
     ·rw [h]; simp
     ·rw [h1]; simp; omega
  ·have hk' : ks b = false := by simpa using hk
   rw [if_neg (by simp [hk'])]
   have he : spanL ks (b + 1) = spanL ks b := by rw [spanL, if_pos (.inr hk')]
   rw [he]
   split at ih
   ·obtain ⟨l, s, n, h1, h2, h3⟩ := ih
    exact .inr ⟨l, s, n, h1, by omega, by omega⟩
   ·rcases ih with h | ⟨l, s, n, h1, h2, h3⟩
    ·exact .inl h
    ·exact .inr ⟨l, s, n, h1, by omega, by omega⟩
theorem spanL_len (ks : Nat → Bool) (b : Nat) : (spanL ks b).length ≤ b := by
 induction b with
 | zero => simp [spanL]
 | succ b ih =>
  unfold spanL
  split
  ·omega
  ·split
   ·unfold bump
    split
    ·omega
    ·simp; omega
   ·simp; omega
def freeAt (l : List Hd) (b : Nat) : Bool := (l.getD b default).k == 0
def spansOf (l : List Hd) : List Sp := spanL (freeAt l) l.length
theorem elBs : Elem Tryz.prog 178 232 (.agg #[.int .i64 0, .int .i64 0]) 2 16 := Elem.mk' Tryz.underlying178 (by kernel_rfl) rfl (by decide)
def SpansPost (t : Nat) (l : List Sp) (w : World) : Ending → World → Prop := fun e w' => ∃ v, e = .returned v ∧ w'.ownsRow w.heap.size t 2 v l.length (spCs l) ∧ Below w.heap.size w w'
theorem span_round (ks : Nat → Bool) (b : Nat) (hb : 1 ≤ b) :
  (ks b = false ∧ spanL ks (b + 1) = spanL ks b) ∨
  (ks b = true ∧ 1 < b ∧ ks (b - 1) = true ∧ ∃ l s n, spanL ks b = l ++ [(s, n)] ∧ s + n = b ∧ spanL ks (b + 1) = l ++ [(s, n + 1)]) ∨
  (ks b = true ∧ ¬ (1 < b ∧ ks (b - 1) = true) ∧ spanL ks b = [] ∧ spanL ks (b + 1) = [(b, 1)]) ∨
  (ks b = true ∧ ¬ (1 < b ∧ ks (b - 1) = true) ∧ ∃ l s n, spanL ks b = l ++ [(s, n)] ∧ s + n < b ∧ spanL ks (b + 1) = l ++ [(s, n)] ++ [(b, 1)]) := by
 have h := spanL_last ks b hb
 by_cases hk : ks b = true
 ·by_cases hp : 1 < b ∧ ks (b - 1) = true
  ·rw [if_pos hp] at h
   obtain ⟨l, s, n, h1, h2, h3⟩ := h
   exact .inr (.inl ⟨hk, hp.1, hp.2, l, s, n, h1, h2, by rw [spanL, if_neg (by simp [hk]; omega), if_pos hp, h1, bump_last]⟩)
  ·rw [if_neg hp] at h
   have e : spanL ks (b + 1) = spanL ks b ++ [(b, 1)] := by rw [spanL, if_neg (by simp [hk]; omega), if_neg hp]
   rcases h with h | ⟨l, s, n, h1, h2, h3⟩
   ·exact .inr (.inr (.inl ⟨hk, hp, h, by rw [e, h]; rfl⟩))
   ·exact .inr (.inr (.inr ⟨hk, hp, l, s, n, h1, h2, by rw [e, h1]⟩))
 ·have hk' : ks b = false := by simpa using hk
  exact .inl ⟨hk', by rw [spanL, if_pos (.inr hk')]⟩
theorem hd_kind {w : World} {a : Option Addr} {l : List Hd} (h : Cells w a (hdCs l)) {j : Nat} (hj : j < l.length) :
  ∃ b off, a = some ⟨b, off, none⟩ ∧ ∃ k, freeAt l j = (k == 0) ∧ w.cell? ⟨b, off + j * 3, none⟩ = some (.int .i64 k) := by
 obtain ⟨k, c, n, he⟩ := hdGetD l j
 obtain ⟨b, off, rfl, h0, _, _⟩ := hd_cells h hj he
 exact ⟨b, off, rfl, k, by unfold freeAt; rw [he], h0⟩
set_option maxHeartbeats 2000000 in
set_option maxRecDepth 20000 in
theorem bspans_any (a : Option Addr) (n cap : Nat) (l : List Hd) (hn : l.length = n) (w : World) (hc : Cells w a (hdCs l)) (hl : n ≤ 1000) :
  Calls Tryz.prog 172 #[.slice a n cap] w (SpansPost 232 (spansOf l) w) := by
 have HN := LH hn
 have HC := LH hc
 generalize hP : SpansPost 232 (spansOf l) w = Post
 have HP := LH hP
 clear hn hc hP
 go_enter Tryz.func172, Tryz.ntmps172
 go_wp2_with fail
 go_loopw [3, 4] (fun v i wr => ∃ b : Nat, 1 ≤ b ∧ (b ≤ n ∨ b = 1) ∧ i = .int .i64 b ∧ wr.ownsRow w.heap.size 232 2 v (spanL (freeAt l) b).length (spCs (spanL (freeAt l) b)) ∧ Below w.heap.size w wr) (fun _ i _ => n - (intOf i).toNat)
 case atStart => exact ⟨1, Nat.le_refl _, .inr rfl, rfl, ⟨rfl, .inl ⟨rfl, rfl⟩⟩, Below.refl _ _⟩
 case round =>
  obtain ⟨b, hb1, hbn, rfl, ho, hb⟩ := hrel
  by_cases hlt : b < n
  ·have hlt' : (b : Int) < (n : Int) := by omega
   have HB := LH hb
   obtain ⟨bl, off, rfl, kd, hfk, d0⟩ := hd_kind (HC.out.below hb (Nat.le_refl _)) (j := b) (by rw [HN.out]; exact hlt)
   have hr := span_round (freeAt l) b hb1
   rw [hfk] at hr
   have HLb := LH (spanL_len (freeAt l) b)
   clear hfk hbn hb
   rcases hr with ⟨hk, hs⟩ | ⟨hk, h1b, hk2, pl, s, m, hs1, hs2, hs3⟩ | ⟨hk, hp, hs1, hs3⟩ | ⟨hk, hp, pl, s, m, hs1, hs2, hs3⟩
   ·have hk1 : (kd != 0) = true := by simpa using hk
    obtain ⟨a1, c1, rfl, hc1, hm1⟩ := owned_form ho
    have HO : Hid (wr.ownsRow w.heap.size 232 2 (.slice a1 (spanL (freeAt l) b).length c1) (spanL (freeAt l) (b + 1)).length (spCs (spanL (freeAt l) (b + 1)))) := LH (by rw [hs]; exact ho)
    clear ho hs hk HLb
    go_wp2_with fail
    exact ⟨⟨b + 1, by omega, by omega, vint (by omega), HO.out, HB.out⟩, by simp [intOf]; omega⟩
   ·have hk1 : (kd != 0) = false := by simpa using hk
    rw [hs1] at ho
    obtain ⟨L, hL⟩ : ∃ L, L = pl.length := ⟨_, rfl⟩
    rw [show (pl ++ [(s, m)]).length = L + 1 by simp [hL]] at ho
    obtain ⟨g, c1, rfl, hc1, hm1, hg1, hg2⟩ := owned_some ho (by omega)
    have hr := owned_row ho
    have hla := spCs_last pl s m
    rw [← hL] at hla
    have e0 : wr.cell? ⟨g, L * 2, none⟩ = some (.int .i64 (s : Int)) := hr.cell hla.1
    have e1 : wr.cell? ⟨g, L * 2 + 1, none⟩ = some (.int .i64 (m : Int)) := hr.cell hla.2
    have f1 : wr.frozen? ⟨g, L * 2 + 1, none⟩ = false := hr.frozen _
    have hsm : ((s : Int) + (m : Int) == (b : Int)) = true := by simp; omega
    have HL := LH hL
    have HS3 := LH hs3
    have HO1 := LH ho
    have hsb : (s : Int) ≤ 1000 := by omega
    have hmb : (m : Int) ≤ 1000 := by omega
    have hLb : L < 1000 := by have := HLb.out; rw [hs1] at this; simp [← hL] at this; omega
    clear ho hs1 hs2 hs3 hL hla hr hk hk2 HLb
    have hw1 : IntKind.i64.wrap (L : Int) = L := IntWalk.i64_in _ (by omega)
    have hw2 : IntKind.i64.wrap ((s : Int) + (m : Int)) = s + m := IntWalk.i64_in _ (by omega)
    go_wp2_with fail
    go_quiet (fail)
    clear hw1 hw2
    have HO2 : Hid ((wr.drewN nq).ownsRow w.heap.size 232 2 (.slice (some ⟨g, 0, none⟩) (L + 1) c1) (L + 1) (spCs (pl ++ [(s, m)]))) := LH HO1.out
    go_wp2_with fail
    refine ⟨⟨b + 1, by omega, by omega, vint (by omega), ?_, ?_⟩, by simp [intOf]; omega⟩
    ·rw [HS3.out, ← show ((m + 1 : Nat) : Int) = (m : Int) + 1 from rfl, ← spCs_bump pl s m (m + 1), show (pl ++ [(s, m + 1)] : List Sp).length = L + 1 by simp [HL.out], ← HL.out]
     exact (HO2.out.stored (L * 2 + 1) _).1
    ·exact below_grownBy (below_drewN HB.out _) HO2.out (HO2.out.stored (L * 2 + 1) _).2 (Nat.le_refl _) (Nat.le_refl _)
   ·have hk1 : (kd != 0) = false := by simpa using hk
    rw [hs1] at ho
    obtain ⟨a1, c1, rfl, hc1, hm1⟩ := owned_form ho
    have HO := LH ho
    have HS3 := LH hs3
    have hone : Hid (∀ u ∈ (#[Value.int .i64 (b : Int), Value.int .i64 1] : Array Value).toList, u.oneCell' = true) := LH (by intro u hu; simp at hu; rcases hu with rfl | rfl <;> rfl)
    clear ho hs1 hs3 hk hp HLb
    go_wp2_with fail
    go_quiet (fail)
    have HO1 : Hid ((wr.drewN nq).ownsRow w.heap.size 232 2 (.slice a1 0 c1) 0 []) := LH HO.out
    have hbase : Hid (w.heap.size ≤ (wr.drewN nq).heap.size) := LH HB.out.size
    go_wp2_with (at_builtin; refine wpList_append_new (us := #[.int .i64 (b : Int), .int .i64 1]) elBs HO1.out rfl hone.out (by omega) (by decide) hbase.out rfl rfl rfl (by simp [Act.eval]) ?_; intro g6 c6 w6 ho6 hg6 hc6 hm6 hb6 hl6; have HO6 := LH ho6; have HG6 := LH hg6; clear ho6 hg6)
    refine ⟨⟨b + 1, by omega, by omega, vint (by omega), ?_, below_grownBy (below_drewN HB.out _) HO1.out HG6.out (Nat.le_refl _) (Nat.le_refl _)⟩, by simp [intOf]; omega⟩
    rw [HS3.out]
    exact HO6.out
   ·have hk1 : (kd != 0) = false := by simpa using hk
    rw [hs1] at ho
    obtain ⟨L, hL⟩ : ∃ L, L = pl.length := ⟨_, rfl⟩
    rw [show (pl ++ [(s, m)]).length = L + 1 by simp [hL]] at ho
    obtain ⟨g, c1, rfl, hc1, hm1, hg1, hg2⟩ := owned_some ho (by omega)
    have hr := owned_row ho
    have hla := spCs_last pl s m
    rw [← hL] at hla
    have e0 : wr.cell? ⟨g, L * 2, none⟩ = some (.int .i64 (s : Int)) := hr.cell hla.1
    have e1 : wr.cell? ⟨g, L * 2 + 1, none⟩ = some (.int .i64 (m : Int)) := hr.cell hla.2
    have hsm : ((s : Int) + (m : Int) == (b : Int)) = false := by simp; omega
    have HL := LH hL
    have HS3 := LH hs3
    have HO := LH ho
    have hsb : (s : Int) ≤ 1000 := by omega
    have hmb : (m : Int) ≤ 1000 := by omega
    have hone : Hid (∀ u ∈ (#[Value.int .i64 (b : Int), Value.int .i64 1] : Array Value).toList, u.oneCell' = true) := LH (by intro u hu; simp at hu; rcases hu with rfl | rfl <;> rfl)
    have hLb : L < 1000 := by have := HLb.out; rw [hs1] at this; simp [← hL] at this; omega
    have hL9 : L + 1 < 1000000000000 := by omega
    clear ho hs1 hs2 hs3 hL hla hr hk hp HLb
    have hw1 : IntKind.i64.wrap (L : Int) = L := IntWalk.i64_in _ (by omega)
    have hw2 : IntKind.i64.wrap ((s : Int) + (m : Int)) = s + m := IntWalk.i64_in _ (by omega)
    go_wp2_with fail
    go_quiet (fail)
    clear hw1 hw2
    have HO1 : Hid ((wr.drewN nq).ownsRow w.heap.size 232 2 (.slice (some ⟨g, 0, none⟩) (L + 1) c1) (L + 1) (spCs (pl ++ [(s, m)]))) := LH HO.out
    have hbase : Hid (w.heap.size ≤ (wr.drewN nq).heap.size) := LH HB.out.size
    go_wp2_with (at_builtin; refine wpList_append_new (us := #[.int .i64 (b : Int), .int .i64 1]) elBs HO1.out rfl hone.out hL9 (by decide) hbase.out rfl rfl rfl (by simp [Act.eval]) ?_; intro g6 c6 w6 ho6 hg6 hc6 hm6 hb6 hl6; have HO6 := LH ho6; have HG6 := LH hg6; clear ho6 hg6)
    refine ⟨⟨b + 1, by omega, by omega, vint (by omega), ?_, below_grownBy (below_drewN HB.out _) HO1.out HG6.out (Nat.le_refl _) (Nat.le_refl _)⟩, by simp [intOf]; omega⟩
    rw [HS3.out, spCs_append, show (pl ++ [(s, m)] ++ [(b, 1)] : List Sp).length = L + 1 + 1 by simp [HL.out]]
    exact HO6.out
  ·have hlt' : decide (b < n) = false := by simp; omega
   have hlt2 : n ≤ b := by omega
   obtain ⟨a1, c1, rfl, hc1, hm1⟩ := owned_form ho
   have HE : Hid (spansOf l = spanL (freeAt l) b) := LH (by
    unfold spansOf; rw [HN.out]
    rcases hbn with h | h
    ·rw [show n = b by omega]
    ·by_cases h0 : n = 0
     ·rw [h0, h]; rfl
     ·rw [show n = b by omega])
   have HO := LH ho
   have HB := LH hb
   clear ho hb
   go_wp2_with fail
   rw [← HP.out]
   refine ⟨_, rfl, ?_, HB.out⟩
   rw [HE.out]
   exact HO.out
theorem dec_enc (b k c l : Int) (h : hdRight k c l = true) : decN b (encN b k c l) = ⟨k, c, l, 0⟩ := by
 have hr : HdRight k c l := by simpa [hdRight] using h
 obtain ⟨n, hn⟩ : ∃ n, n = hdN k c l := ⟨_, rfl⟩
 have hn2 : (n : Int) = k + 4 * c + 256 * l := by rw [hn]; unfold hdN; unfold HdRight at hr; omega
 have hlt : n < 4294967296 := by unfold HdRight at hr; omega
 have he : encN b k c l = sealN n (pl (256 + b)) := by unfold encN; rw [if_pos h, hn]
 have hm : sealN n (pl (256 + b)) % 4294967296 = n := by
  unfold sealN
  rw [Nat.mul_comm, Nat.mul_add_mod, Nat.mod_eq_of_lt hlt]
 have ho : openN (encN b k c l) (pl (256 + b)) = some n := by
  unfold openN; rw [he, hm, if_pos rfl]
 have e1 : ((n % 4 : Nat) : Int) = k := by unfold HdRight at hr; omega
 have e2 : ((n / 4 % 64 : Nat) : Int) = c := by unfold HdRight at hr; omega
 have e3 : ((n / 256 % 65536 : Nat) : Int) = l := by unfold HdRight at hr; omega
 rw [decN_some ho]
 unfold decS
 rw [e1, e2, e3, if_pos rfl, if_pos h]
def Dev.live (S : Dev) : Prop := S.dead = false ∧ S.armed = false
theorem Dev.live.stop {S : Dev} (h : S.live) : S.stop = false := by unfold Dev.stop; rw [h.1, h.2]; rfl
theorem Dev.live.step {S : Dev} (h : S.live) : S.step.live := by unfold Dev.step; rw [h.stop]; exact h
theorem Dev.live.store {S : Dev} (h : S.live) (i : Int) (x : Nat) : (S.store i x).live := by
 unfold Dev.store
 split
 ·exact h
 ·rw [h.stop]; exact h.step
theorem Dev.live.store_ok {S : Dev} (h : S.live) (i : Nat) (x : Nat) (hi : i < S.cache.length) : S.storeE i = 0 ∧ (S.store i x).cache = S.cache.set i x := by
 constructor
 ·unfold Dev.storeE; rw [if_neg (by omega), h.stop]; rfl
 ·unfold Dev.store; rw [if_neg (by omega), h.stop]
  simp only [Bool.false_eq_true, if_false, Dev.put, (Dev.step_rest S).2.1, Int.toNat_natCast]
theorem Dev.store_okN {S : Dev} {N : Nat} (h : S.ok N) (i : Int) (x : Nat) : (S.store i x).ok (N + 1) := by
 unfold Dev.store
 split
 ·exact h.mono (by omega)
 ·split
  ·exact Dev.step_ok h
  ·exact (Dev.step_ok h : S.step.ok (N + 1))
def Dev.fmtTo (S : Dev) : Nat → Dev
 | 0 => S
 | k + 1 => if k = 0 then S else (S.fmtTo k).store ((256 + k : Nat) : Int) (encN k 0 0 0)
theorem fmtTo_props {S : Dev} (h : S.live) {N : Nat} (ho : S.ok N) (k : Nat) (hk : 256 + k ≤ S.cache.length) : (S.fmtTo k).live ∧ (S.fmtTo k).ok (N + k) ∧ (S.fmtTo k).cache.length = S.cache.length ∧ (S.fmtTo k).dirty.length = S.dirty.length ∧ (∀ b, 1 ≤ b → b < k → (S.fmtTo k).cache.getD (256 + b) 0 = encN b 0 0 0) := by
 induction k with
 | zero => exact ⟨h, ho, rfl, rfl, fun b h1 h2 => by omega⟩
 | succ k ih =>
  obtain ⟨i1, i2, i3, i5, i4⟩ := ih (by omega)
  unfold Dev.fmtTo
  split
  ·exact ⟨h, ho.mono (by omega), rfl, rfl, fun b h1 h2 => by omega⟩
  ·have hs := i1.store_ok (256 + k) (encN k 0 0 0) (by omega)
   refine ⟨i1.store _ _, Dev.store_okN i2 _ _, by rw [hs.2, List.length_set, i3], ?_, fun b h1 h2 => ?_⟩
   ·rw [← i5]
    unfold Dev.store
    split
    ·rfl
    ·split
     ·rw [(Dev.step_rest _).2.2.2.1]
     ·simp [Dev.put, (Dev.step_rest _).2.2.2.1]
   ·rw [hs.2]
    by_cases e : b = k
    ·subst e; rw [List.getD_eq_getElem?_getD, List.getElem?_set_self (by omega)]; rfl
    ·rw [List.getD_eq_getElem?_getD, List.getElem?_set_ne (by omega), ← List.getD_eq_getElem?_getD]
     exact i4 b h1 (by omega)
theorem Dev.live.flush {S : Dev} (h : S.live) (j : Int) : (S.flush j).live := by
 unfold Dev.flush
 split
 ·exact h
 ·rw [h.stop]
  simp only [Bool.false_eq_true, if_false]
  unfold Dev.hold
  split
  ·exact h.step
  ·exact h.step
theorem Dev.live.flushE {S : Dev} (h : S.live) (j : Nat) (hj : j < S.dirty.length) : S.flushE j = 0 := by unfold Dev.flushE; rw [if_neg (by omega), h.stop]; rfl
theorem Dev.live.flushRun {S : Dev} (h : S.live) (a : Nat) : ∀ m, a + m ≤ S.dirty.length → (S.flushRun a m).err = 0 ∧ (S.flushRun a m).dev.live ∧ (S.flushRun a m).dev.cache = S.cache ∧ (S.flushRun a m).dev.dirty = S.dirty := by
 intro m
 induction m with
 | zero => intro _; exact ⟨rfl, h, rfl, rfl⟩
 | succ m ih =>
  intro hm
  obtain ⟨i1, i2, i3, i4⟩ := ih (by omega)
  unfold Dev.flushRun
  rw [if_neg (by rw [i1]; simp)]
  refine ⟨i2.flushE _ (by rw [i4]; omega), i2.flush _, ?_, ?_⟩
  ·exact (Dev.flush_len _ _).1.trans i3
  ·exact (Dev.flush_len _ _).2.trans i4
theorem Dev.live.persist {S : Dev} (h : S.live) (p n : Nat) (hn : 0 < n) (hd : S.cache.length = 8 * S.dirty.length) (hp : p + n ≤ S.cache.length) : (S.persist p n).err = 0 ∧ (S.persist p n).dev.cache = S.cache := by
 unfold Dev.persist
 rw [if_neg (by omega), if_pos (by omega)]
 unfold Dev.persistN
 obtain ⟨i1, i2, i3, i4⟩ := h.flushRun ((p : Int) / 8).toNat (((p : Int) + (n : Int) - 1) / 8 - (p : Int) / 8 + 1).toNat (by omega)
 rw [if_neg (by rw [i1]; simp)]
 constructor
 ·show Dev.fenceE _ = 0
  unfold Dev.fenceE; rw [i2.stop]; rfl
 ·show (Dev.fence _).cache = _
  unfold Dev.fence; rw [i2.stop]
  simp only [Bool.false_eq_true, if_false]
  rw [(fenceTo_len _ _).2.1, (Dev.step_rest _).2.1, i3]
def Dev.fmt (S : Dev) (B : Nat) : Dev := ((S.fmtTo B).persist 257 ((B : Int) - 1)).dev
set_option maxHeartbeats 2000000 in
set_option maxRecDepth 100000 in
theorem format_any {w : World} {F : Foot} {S : Dev} (h : DevAt w F S) (hv : S.live) (ho : S.ok 100) (B : Nat) (hB2 : 2 ≤ B) (hB : B ≤ 1000) (hlen : 256 + B ≤ S.cache.length) :
  Calls Tryz.prog 87 #[vdev F, vgeom B] w fun e w' => e = .returned (.int .i64 0) ∧ DevAt w' F (S.fmt B) ∧ Touch F.list w w' := by
 have hbx := below_alloc w (.cells #[.int .i64 (B : Int)] 46)
 have hcx : (w.alloc (.cells #[.int .i64 (B : Int)] 46)).cell? ⟨w.heap.size, 0, none⟩ = some (.int .i64 (B : Int)) := cell_alloc_new _ _ _ 0 _ rfl
 have HD := LH (h.below hbx)
 have HT : Hid (Touch F.list w (w.alloc (.cells #[.int .i64 (B : Int)] 46))) := LH (Touch.ofBelow hbx)
 have HF : Hid (∀ k ∈ F.list, k < w.heap.size) := LH h.mem
 have HP := LH (fun k hk => fmtTo_props hv ho k (Nat.le_trans (show 256 + k ≤ 256 + B by exact Nat.add_le_add_left hk _) hlen))
 have HL := LH h.lenD
 clear h hbx hv ho
 go_enter Tryz.func87, Tryz.ntmps87
 go_wp2_with fail
 go_loopw [5] (fun i wr => ∃ b : Nat, 1 ≤ b ∧ b ≤ B ∧ i = .int .i64 b ∧ DevAt wr F (S.fmtTo b) ∧ Touch F.list w wr ∧ wr.cell? ⟨w.heap.size, 0, none⟩ = some (.int .i64 (B : Int))) (fun i _ => B - (intOf i).toNat)
 case atStart => exact ⟨1, Nat.le_refl _, by omega, rfl, HD.out, HT.out, hcx⟩
 case round =>
  obtain ⟨b, hb1, hb2, rfl, hd, ht, hc⟩ := hrel
  have HDr := LH hd
  have HTr := LH ht
  clear hd ht hcx
  by_cases hlt : b < B
  ·have hlt' : (b : Int) < (B : Int) := by omega
   go_wp2_with fail
   refine (gheader_any _ _ _ (by omega)).mono ?_
   rintro e w1 ⟨rfl, hb1'⟩
   have HH : Hid (hdAt (B : Int) (b : Int) = 256 + (b : Int)) := LH (by unfold hdAt; rw [if_neg (by omega)])
   rw [HH.out]
   have hc1 := below_cells hb1' hc (Nat.le_refl _)
   have HD1 := LH (HDr.out.below hb1')
   have HT1 : Hid (Touch F.list w w1) := LH (HTr.out.trans (Touch.ofBelow hb1'))
   clear hb1' hc HDr HTr
   go_wp2_with fail
   refine (bencode_any (b : Int) 0 0 0 (by omega) (by omega) _).mono ?_
   rintro e w2 ⟨rfl, hb2'⟩
   have hc2 := below_cells hb2' hc1 (Nat.le_refl _)
   have HD2 := LH (HD1.out.below hb2')
   have HT2 : Hid (Touch F.list w w2) := LH (HT1.out.trans (Touch.ofBelow hb2'))
   clear hb2' hc1 HD1 HT1
   go_wp2_with fail
   refine (store_any HD2.out (N := 100 + b) (by omega) (HP.out b hb2).2.1 _ _ (encN_lt _ _ _ _)).mono ?_
   rintro e w3 ⟨rfl, hd3, ht3⟩
   have HE : Hid ((S.fmtTo b).storeE (256 + (b : Int)) = 0) := LH ((HP.out b hb2).1.store_ok (256 + b) 0 (by rw [(HP.out b hb2).2.2.1]; omega)).1
   rw [HE.out]
   have hc3 : w3.cell? ⟨w.heap.size, 0, none⟩ = some (.int .i64 (B : Int)) := cell_of_touch ht3 (fun hm => by have := HF.out _ hm; simp at this) hc2
   have HD3 : Hid (DevAt w3 F (S.fmtTo (b + 1))) := LH (by unfold Dev.fmtTo; rw [if_neg (by omega)]; exact hd3)
   have HT3 : Hid (Touch F.list w w3) := LH (HT2.out.trans ht3)
   clear hd3 ht3 hc2 HD2 HT2
   go_wp2_with fail
   exact ⟨⟨b + 1, by omega, by omega, vint (by omega), HD3.out, HT3.out, hc3⟩, by simp [intOf]; omega⟩
  ·obtain rfl : b = B := by omega
   have hlt' : decide ((b : Int) < (b : Int)) = false := by simp
   have hw1 : IntKind.i64.wrap ((b : Int) - 1) = (b : Int) - 1 := IntWalk.i64_in _ (by omega)
   go_wp2_with fail
   have hcl : ∀ x : Later wr, x.val.cell? ⟨w.heap.size, 0, none⟩ = some (.int .i64 (b : Int)) := fun x => later_cell hc x
   refine wp_region_later_tail 6 ?hn ?hm ?hB ?_
   case hn => exact Nat.le_of_ble_eq_true rfl
   case hm => kernel_rfl
   case hB => kernel_rfl
   simp only [List.take_succ_cons, List.take_zero, List.drop_succ_cons, List.drop_zero]
   repeat (quiet_step ((rename_i x; exact calls_later (gheader_any _ _ _ (by omega)))))
   refine wpQuiet_nil ?_
   rintro w5 ⟨x, hx5⟩
   have hd5 := HDr.out.below x.below
   have ht5 : Touch F.list w x.val := HTr.out.trans (Touch.ofBelow x.below)
   rw [← hx5] at hd5 ht5
   have HD5 := LH hd5
   have HT5 := LH ht5
   have HH : Hid (hdAt (b : Int) 1 = 257) := LH (by unfold hdAt; rw [if_neg (by omega)]; rfl)
   rw [HH.out]
   clear hx5 x HDr HTr hd5 ht5 hw1
   have HQ : Hid (((S.fmtTo b).persist 257 ((b : Int) - 1)).err = 0) := LH (by
    have := ((HP.out b (Nat.le_refl _)).1.persist 257 (b - 1) (by omega) (by rw [(HP.out b (Nat.le_refl _)).2.2.1, (HP.out b (Nat.le_refl _)).2.2.2.1]; exact HL.out) (by rw [(HP.out b (Nat.le_refl _)).2.2.1]; omega)).1
    rw [show ((b - 1 : Nat) : Int) = (b : Int) - 1 by omega] at this
    exact this)
   go_wp2_with fail
   refine (persist_any HD5.out (N := 100 + b) (by omega) (HP.out b (Nat.le_refl _)).2.1 _ _ (by omega) (by omega)).mono ?_
   rintro e w6 ⟨rfl, hd6, ht6⟩
   rw [HQ.out]
   have HD6 := LH hd6
   have HT6 : Hid (Touch F.list w w6) := LH (HT5.out.trans ht6)
   clear hd6 ht6
   go_wp2_with fail
   go_ret
   exact ⟨rfl, HD6.out, HT6.out⟩
theorem Touch.wide {L M : List Nat} {w w' : World} (h : Touch L w w') (hs : ∀ b ∈ L, b ∈ M) : Touch M w w' := ⟨h.os, h.tape, h.output, h.size, fun k hk hn => h.block k hk (fun hm => hn (hs k hm))⟩
structure TabG (w : World) (p g c : Nat) (F : Foot) (B : Nat) (l : List Hd) : Prop where
 head : w.heap[p]? = some (.cells #[vdev F, .int .i64 (B : Int), .slice (some ⟨g, 0, none⟩) B c] 190 (0, 0))
 len : l.length = B
 cap : B ≤ c
 row : RowAt w g 104 (hdCs l)
theorem TabG.at {w : World} {p g c B : Nat} {F : Foot} {l : List Hd} (h : TabG w p g c F B l) (hne : p ≠ g) : TabAt w p F B l := ⟨g, c, by rw [h.len]; exact h.head, by rw [h.len]; exact h.cap, h.row, hne⟩
theorem TabG.keep {w w' : World} {p g c B : Nat} {F : Foot} {l : List Hd} (h : TabG w p g c F B l) (h1 : w'.heap[p]? = w.heap[p]?) (h2 : w'.heap[g]? = w.heap[g]?) : TabG w' p g c F B l :=
 ⟨h1.trans h.head, h.len, h.cap, h.row.keep h2⟩
theorem TabG.lt {w : World} {p g c B : Nat} {F : Foot} {l : List Hd} (h : TabG w p g c F B l) : p < w.heap.size ∧ g < w.heap.size := ⟨(Array.getElem?_eq_some_iff.1 h.head).1, h.row.lt⟩
theorem TabG.touch {w w' : World} {p g c B : Nat} {F : Foot} {l : List Hd} (h : TabG w p g c F B l) {L : List Nat} (ht : Touch L w w') (h1 : p ∉ L) (h2 : g ∉ L) : TabG w' p g c F B l :=
 h.keep (ht.block p h.lt.1 h1) (ht.block g h.lt.2 h2)
def OpenPostG (f : Nat → Nat) (F : Foot) (B : Nat) (w : World) : Ending → World → Prop := fun en w' => Below w.heap.size w w' ∧
  ((AllOk f B ∧ ∃ p g c, en = .returned (.tuple #[.pointer (some ⟨p, 0, none⟩), .int .i64 0]) ∧ w.heap.size ≤ p ∧ w.heap.size ≤ g ∧ p ≠ g ∧ TabG w' p g c F B (hds f B)) ∨
   (∃ b : Nat, 1 ≤ b ∧ b < B ∧ AllOk f b ∧ (decN b (f b)).code ≠ 0 ∧ en = .returned (.tuple #[.pointer none, .int .i64 21])))
set_option maxHeartbeats 1000000 in
set_option maxRecDepth 100000 in
theorem open_tabG {w : World} {F : Foot} {S : Dev} (h : DevAt w F S) (B : Nat) (hB1 : 1 ≤ B) (hB : B ≤ 1000) :
  Calls Tryz.prog 94 #[vdev F, vgeom B] w (OpenPostG (devWord S) F B w) := by
 have hbx := below_alloc w (.cells #[.int .i64 (B : Int)] 46)
 have HD := LH (h.below hbx)
 have HB := LH hbx
 have hcx : (w.alloc (.cells #[.int .i64 (B : Int)] 46)).cell? ⟨w.heap.size, 0, none⟩ = some (.int .i64 (B : Int)) := cell_alloc_new _ _ _ 0 _ rfl
 generalize hP : OpenPostG (devWord S) F B w = Post
 have HPE := LH hP
 clear h hP hbx
 go_enter Tryz.func94, Tryz.ntmps94
 go_wp2_with fail
 refine (read_any HD.out B hB1 hB).mono ?_
 rintro e w1 ⟨hb1, ⟨hok, g, c, rfl, hg, hgc, hr⟩ | ⟨b, hb0, hbB, hok, hbad, rfl⟩⟩
 ·have hcx1 : w1.cell? ⟨w.heap.size, 0, none⟩ = some (.int .i64 (B : Int)) := below_cells hb1 hcx (Nat.le_refl _)
  have HB1 := LH (HB.out.trans (hb1.mono HB.out.size))
  have HOK := LH hok
  have HR := LH hr
  have hgl := hr.lt
  clear hcx hok hr hb1 HD
  go_wp2_with fail
  rw [← HPE.out]
  refine ⟨HB1.out.alloc HB1.out.size _, .inl ⟨HOK.out, w1.heap.size, g, c, rfl, HB1.out.size, by simp at hg; omega, by omega, ⟨?_, hds_length _ _, hgc, HR.out.keep (Below.heap_alloc _ _ _ hgl)⟩⟩⟩
  rw [heap_alloc_new]
 ·have HB1 := LH (HB.out.trans (hb1.mono HB.out.size))
  have HOK := LH hok
  have HBad := LH hbad
  clear hok hbad hb1 HD
  go_wp2_with fail
  rw [← HPE.out]
  exact ⟨HB1.out, .inr ⟨b, hb0, hbB, HOK.out, HBad.out, rfl⟩⟩
theorem hdCs_set (l : List Hd) (i : Nat) (h : Hd) (hi : i < l.length) : splice (hdCs l) (i * 3) h.cs = hdCs (l.set i h) := by
 have e : l = l.take i ++ l[i] :: l.drop (i + 1) := by rw [List.getElem_cons_drop, List.take_append_drop]
 have h1 : (l.take i).length = i := by simp; omega
 have h2 : l.set i h = l.take i ++ h :: l.drop (i + 1) := List.set_eq_take_append_cons_drop ▸ by rw [if_pos hi]
 rw [h2]
 conv => lhs; rw [e]
 have h3 : (hdCs (l.take i)).length = i * 3 := by rw [hdCs_length, h1]; omega
 unfold splice
 rw [show l.take i ++ l[i] :: l.drop (i + 1) = l.take i ++ ([l[i]] ++ l.drop (i + 1)) by simp, hdCs_append, hdCs_append]
 rw [show l.take i ++ h :: l.drop (i + 1) = l.take i ++ ([h] ++ l.drop (i + 1)) by simp, hdCs_append, hdCs_append]
 have h4 : (hdCs [l[i]]).length = 3 := by simp [hdCs, Hd.cs]
 have h5 : h.cs.length = 3 := by simp [Hd.cs]
 rw [List.take_append_of_le_length (by omega), List.take_of_length_le (by omega), List.drop_append, List.drop_of_length_le (by omega), h3, h5, show i * 3 + 3 - i * 3 = 3 by omega,
  List.drop_append, List.drop_of_length_le (by omega), h4]
 simp [hdCs]
structure PutR where
 dev : Dev
 list : List Hd
 err : Int
def putStep (r : PutR) (b : Nat) (h : Hd) : PutR :=
 if r.err ≠ 0 then r else
  ⟨r.dev.store (256 + (b : Int)) (encN b h.k h.c h.l), if r.dev.storeE (256 + (b : Int)) = 0 then r.list.set b h else r.list, r.dev.storeE (256 + (b : Int))⟩
def putTo (S : Dev) (L : List Hd) (b : Nat) (l : List Hd) : Nat → PutR
 | 0 => ⟨S, L, 0⟩
 | i + 1 => putStep (putTo S L b l i) (b + i) (l.getD i default)
def allRight (l : List Hd) (k : Nat) : Prop := ∀ i, i < k → hdRight (l.getD i default).k (l.getD i default).c (l.getD i default).l = true
instance (l : List Hd) (k : Nat) : Decidable (allRight l k) := Nat.decidableBallLT k _
def putIn (S : Dev) (L : List Hd) (b : Nat) (l : List Hd) : PutR :=
 if (putTo S L b l l.length).err ≠ 0 then putTo S L b l l.length else
  ⟨((putTo S L b l l.length).dev.persist (256 + (b : Int)) l.length).dev, (putTo S L b l l.length).list, ((putTo S L b l l.length).dev.persist (256 + (b : Int)) l.length).err⟩
def putAll (S : Dev) (L : List Hd) (b : Int) (l : List Hd) : PutR :=
 if b < 1 ∨ (L.length : Int) < b ∨ (L.length : Int) - b < (l.length : Int) ∨ ¬ allRight l l.length then ⟨S, L, 1⟩
 else if l.length = 0 then ⟨S, L, 0⟩ else putIn S L b.toNat l
theorem putTo_stays (S : Dev) (L : List Hd) (b : Nat) (l : List Hd) (i : Nat) (h : (putTo S L b l i).err ≠ 0) : ∀ k, i ≤ k → putTo S L b l k = putTo S L b l i
  | 0, hk => by obtain rfl : i = 0 := by omega
                rfl
  | k + 1, hk => by
    by_cases e : i = k + 1
    · rw [e]
    · have := putTo_stays S L b l i h k (by omega)
      rw [putTo, this, putStep, if_pos h]
theorem putTo_len (S : Dev) (L : List Hd) (b : Nat) (l : List Hd) : ∀ i, (putTo S L b l i).list.length = L.length
 | 0 => rfl
 | i + 1 => by
  have := putTo_len S L b l i
  unfold putTo putStep
  split
  ·exact this
  ·dsimp only
   split
   ·rw [List.length_set]; exact this
   ·exact this
theorem putTo_ok {S : Dev} {N : Nat} (h : S.ok N) (L : List Hd) (b : Nat) (l : List Hd) : ∀ i, (putTo S L b l i).dev.ok (N + i)
 | 0 => h
 | i + 1 => by
  have := putTo_ok h L b l i
  unfold putTo putStep
  split
  ·exact this.mono (by omega)
  ·exact Dev.store_okN this _ _
theorem putAll_in (S : Dev) {L : List Hd} {b : Nat} {l : List Hd} (h1 : 1 ≤ b) (h2 : b + l.length ≤ L.length) (h3 : allRight l l.length) : putAll S L b l = if l.length = 0 then ⟨S, L, 0⟩ else putIn S L b l := by
 unfold putAll
 rw [if_neg]
 ·rfl
 ·rintro (h | h | h | h)
  ·omega
  ·omega
  ·omega
  ·exact h h3
set_option maxHeartbeats 2000000 in
set_option maxRecDepth 100000 in
theorem tput_any {w : World} {p g c B : Nat} {F : Foot} {S : Dev} {L : List Hd} (h : DevAt w F S) (ht : TabG w p g c F B L) (hpg : p ≠ g) (hpF : p ∉ F.list) (hgF : g ∉ F.list) {N : Nat} (hN : N ≤ 1000000000) (ho : S.ok N) (hB : B ≤ 1000)
  (a : Option Addr) (n cap : Nat) (l : List Hd) (hn : l.length = n) (hc : Cells w a (hdCs l)) (hap : 0 < n → ∀ b o s, a = some ⟨b, o, s⟩ → b ∉ g :: F.list) (hnm : n ≤ 2 ^ 63 - 1) (b : Int) :
  Calls Tryz.prog 201 #[.pointer (some ⟨p, 0, none⟩), .int .i64 b, .slice a n cap] w fun e w' => e = .returned (.int .i64 (putAll S L b l).err) ∧ DevAt w' F (putAll S L b l).dev ∧ TabG w' p g c F B (putAll S L b l).list ∧ Touch (g :: F.list) w w' := by
 have c2 : w.cell? ⟨p, 2, none⟩ = some (.slice (some ⟨g, 0, none⟩) B c) := cell_of_row _ _ 2 _ _ _ ht.head
 have HD := LH h
 have HT := LH ht
 have HLB := LH ht.len
 have HN := LH hn
 have HC := LH hc
 have HAP := LH hap
 clear hn hc hap
 clear h ht
 by_cases h1 : b < 1
 ·have HE : Hid (putAll S L b l = ⟨S, L, 1⟩) := LH (by unfold putAll; rw [if_pos (.inl h1)])
  go_enter Tryz.func201, Tryz.ntmps201
  go_wp2_with fail
  go_ret
  rw [HE.out]
  exact ⟨rfl, HD.out, HT.out, Touch.refl _ _⟩
 by_cases h2 : (B : Int) < b
 ·have HE : Hid (putAll S L b l = ⟨S, L, 1⟩) := LH (by unfold putAll; rw [if_pos (.inr (.inl (by rw [HLB.out]; exact h2)))])
  go_enter Tryz.func201, Tryz.ntmps201
  go_wp2_with fail
  go_ret
  rw [HE.out]
  exact ⟨rfl, HD.out, HT.out, Touch.refl _ _⟩
 obtain ⟨j, rfl⟩ := Int.eq_ofNat_of_zero_le (show 0 ≤ b by omega)
 by_cases h3 : (B : Int) - (j : Int) < (n : Int)
 ·have HE : Hid (putAll S L j l = ⟨S, L, 1⟩) := LH (by unfold putAll; rw [if_pos (.inr (.inr (.inl (by rw [HLB.out, HN.out]; exact h3))))])
  have hw1 : IntKind.i64.wrap ((B : Int) - (j : Int)) = (B : Int) - (j : Int) := IntWalk.i64_in _ (by omega)
  go_enter Tryz.func201, Tryz.ntmps201
  go_wp2_with fail
  go_ret
  rw [HE.out]
  exact ⟨rfl, HD.out, HT.out, Touch.refl _ _⟩
 have hj1 : 1 ≤ j := by omega
 have hjn : j + n ≤ B := by omega
 have hw1 : IntKind.i64.wrap ((B : Int) - (j : Int)) = (B : Int) - (j : Int) := IntWalk.i64_in _ (by omega)
 have hn3 : n ≤ 1000 := by omega
 clear hnm
 go_enter Tryz.func201, Tryz.ntmps201
 go_wp2_with fail
 go_loopw [37] (fun i wr => ∃ k : Nat, k ≤ n ∧ i = .int .i64 k ∧ allRight l k ∧ Below w.heap.size w wr) (fun i _ => n - (intOf i).toNat)
 case atStart => exact ⟨0, Nat.zero_le _, rfl, fun i hi => absurd hi (Nat.not_lt_zero _), Below.refl _ _⟩
 case round =>
  obtain ⟨k, hk, rfl, har, hb⟩ := hrel
  have HAR := LH har
  have HB := LH hb
  clear har hb
  by_cases hlt : k < n
  ·have hlt' : (k : Int) < (n : Int) := by omega
   have HAS : Hid (hdRight (l.getD k default).k (l.getD k default).c (l.getD k default).l = true → allRight l (k + 1)) := LH (fun hr i hi => by
    by_cases e : i = k
    ·subst e; exact hr
    ·exact HAR.out i (by omega))
   have HNA : Hid (hdRight (l.getD k default).k (l.getD k default).c (l.getD k default).l ≠ true → ¬ allRight l l.length) := LH (fun hr h => hr (h k (by rw [HN.out]; exact hlt)))
   obtain ⟨x, y, z, he⟩ : ∃ x y z, l.getD k default = ⟨x, y, z⟩ := ⟨_, _, _, rfl⟩
   rw [he] at HAS HNA
   obtain ⟨b1, o1, rfl, d0, d1, d2⟩ := hd_cells (HC.out.below HB.out (Nat.le_refl _)) (by rw [HN.out]; exact hlt) he
   clear he
   go_wp2_with fail
   refine (bright_any x y z _).mono ?_
   rintro e w1 ⟨rfl, hb1⟩
   have HB1 := LH ((HB.out.alloc HB.out.size _).trans (hb1.mono (by simp; have := HB.out.size; omega)))
   clear hb1
   cases hrt : hdRight x y z
   ·have HE : Hid (putAll S L j l = ⟨S, L, 1⟩) := LH (by unfold putAll; rw [if_pos (.inr (.inr (.inr (HNA.out (by rw [hrt]; simp)))))])
    clear hrt
    go_wp2_with fail
    go_ret
    rw [HE.out]
    exact ⟨rfl, HD.out.below HB1.out, HT.out.keep (HB1.out.block p HT.out.lt.1) (HB1.out.block g HT.out.lt.2), Touch.ofBelow HB1.out⟩
   ·have HAR1 := LH (HAS.out hrt)
    clear hrt
    go_wp2_with fail
    exact ⟨⟨k + 1, by omega, vint (by omega), HAR1.out, HB1.out⟩, by simp [intOf]; omega⟩
  ·obtain rfl : k = n := by omega
   have hlt' : decide ((k : Int) < (k : Int)) = false := by simp
   have HAR2 : Hid (allRight l l.length) := LH (by rw [HN.out]; exact HAR.out)
   by_cases hk0 : k = 0
   ·subst hk0
    have HE : Hid (putAll S L j l = ⟨S, L, 0⟩) := LH (by rw [putAll_in S hj1 (by rw [HLB.out, HN.out]; exact hjn) HAR2.out, if_pos HN.out])
    go_wp2_with fail
    go_ret
    rw [HE.out]
    exact ⟨rfl, HD.out.below HB.out, HT.out.keep (HB.out.block p HT.out.lt.1) (HB.out.block g HT.out.lt.2), Touch.ofBelow HB.out⟩
   have HE : Hid (putAll S L j l = putIn S L j l) := LH (by rw [putAll_in S hj1 (by rw [HLB.out, HN.out]; exact hjn) HAR2.out, if_neg (by rw [HN.out]; exact hk0)])
   have hk0' : ((k : Int) == 0) = false := by simp; omega
   have hmemF : ∀ q ∈ F.list, q < w.heap.size := HD.out.mem
   have hltT := HT.out.lt
   have HMF := LH hmemF
   clear hmemF
   go_wp2_with fail
   go_loopw [50] (fun i wr => ∃ m : Nat, m ≤ k ∧ i = .int .i64 m ∧ (putTo S L j l m).err = 0 ∧ DevAt wr F (putTo S L j l m).dev ∧ TabG wr p g c F B (putTo S L j l m).list ∧ Touch (g :: F.list) w wr) (fun i _ => k - (intOf i).toNat)
   case atStart => exact ⟨0, Nat.zero_le _, rfl, rfl, HD.out.below HB.out, HT.out.keep (HB.out.block p HT.out.lt.1) (HB.out.block g HT.out.lt.2), Touch.ofBelow HB.out⟩
   case round =>
    obtain ⟨m, hm, rfl, he0, hd0, ht0, htt⟩ := hrel
    have HOk := LH (putTo_ok ho L j l m)
    have HST : Hid (putTo S L j l (m + 1) = putStep (putTo S L j l m) (j + m) (l.getD m default)) := LH rfl
    have HLn := LH (putTo_len S L j l m)
    have HFin : Hid (putIn S L j l = if (putTo S L j l k).err ≠ 0 then putTo S L j l k else ⟨((putTo S L j l k).dev.persist (256 + (j : Int)) k).dev, (putTo S L j l k).list, ((putTo S L j l k).dev.persist (256 + (j : Int)) k).err⟩) := LH (by unfold putIn; rw [HN.out])
    have HStay := LH (putTo_stays S L j l (m + 1))
    have c0 : wr.cell? ⟨p, 0, none⟩ = some (vdev F) := cell_of_row _ _ 0 _ _ _ ht0.head
    have c1 : wr.cell? ⟨p, 1, none⟩ = some (.int .i64 (B : Int)) := cell_of_row _ _ 1 _ _ _ ht0.head
    have c2r : wr.cell? ⟨p, 2, none⟩ = some (.slice (some ⟨g, 0, none⟩) B c) := cell_of_row _ _ 2 _ _ _ ht0.head
    have hpl := ht0.lt
    generalize hR : putTo S L j l m = R at *
    have HRR := LH hR
    clear hR
    have HE0 := LH he0
    have HD0 := LH hd0
    have HT0 := LH ht0
    have HTT := LH htt
    clear he0 hd0 ht0 htt
    by_cases hmk : m < k
    ·have hmk' : (m : Int) < (k : Int) := by omega
     obtain ⟨x, y, z, he⟩ : ∃ x y z, l.getD m default = ⟨x, y, z⟩ := ⟨_, _, _, rfl⟩
     rw [he] at HST
     obtain ⟨b1, o1, rfl, d0, d1, d2⟩ := hd_cells HC.out (by rw [HN.out]; exact hmk) he
     have hnb : b1 ∉ g :: F.list := HAP.out (by omega) _ _ _ rfl
     have f0 := cell_of_touch HTT.out hnb d0
     have f1 := cell_of_touch HTT.out hnb d1
     have f2 := cell_of_touch HTT.out hnb d2
     clear he d0 d1 d2 hnb
     go_upto_region 14 with fail
     have hbx := below_alloc wr (.cells #[.int .i64 x, .int .i64 y, .int .i64 z] 104)
     have hqr : RowAt (wr.alloc (.cells #[.int .i64 x, .int .i64 y, .int .i64 z] 104)) wr.heap.size 104 [.int .i64 x, .int .i64 y, .int .i64 z] := ⟨_, heap_alloc_new _ _, [], rfl⟩
     have HD1 := LH (HD0.out.below hbx)
     have HT1 : Hid (TabG (wr.alloc (.cells #[.int .i64 x, .int .i64 y, .int .i64 z] 104)) p g c F B R.list) := LH (HT0.out.keep (hbx.block p HT0.out.lt.1) (hbx.block g HT0.out.lt.2))
     have HTT1 : Hid (Touch (g :: F.list) w (wr.alloc (.cells #[.int .i64 x, .int .i64 y, .int .i64 z] 104))) := LH (HTT.out.trans (Touch.ofBelow hbx))
     have k0 := below_cells hbx c0 (Nat.le_refl _)
     have k1 := below_cells hbx c1 (Nat.le_refl _)
     have HQR := LH hqr
     have hqF : wr.heap.size ∉ F.list := fun hm => by have := HD0.out.mem _ hm; omega
     have hqg : wr.heap.size ≠ g := by omega
     clear hbx hqr HD0 HT0 HTT c0 c1 c2r hpl f0 f1 f2
     generalize wr.alloc (.cells #[.int .i64 x, .int .i64 y, .int .i64 z] 104) = w1 at *
     generalize wr.heap.size = q at *
     have r0 := fun x => later_cell k0 x
     have r1 := fun x => later_cell k1 x
     have r2 := fun x => later_cell (HQR.out.cell (i := 0) rfl) x
     have r3 := fun x => later_cell (HQR.out.cell (i := 1) rfl) x
     have r4 := fun x => later_cell (HQR.out.cell (i := 2) rfl) x
     clear k0 k1
     have hw2 : IntKind.i64.wrap ((j : Int) + (m : Int)) = (j : Int) + (m : Int) := IntWalk.i64_in _ (by omega)
     refine wp_region_seg (C := fun w' => ∃ x : Later (w1), w' = x.val) [.fl [0, 1, 2, 3, 4, 5, 6, 7, 8, 9, 10, 12, 13, 14, 15], .sq [11] true, .sq [16] true, .sq [17, 18] false] (by kernel_rfl) (by kernel_rfl) (by intro c a d v w h; cases d <;> exact h) ?_
     simp only [segs, picks, List.getElem?_cons_succ, List.getElem?_cons_zero]
     have hC1 := later_drew (w1)
     refine wpSeg_fl hC1 ?_
     repeat (first | go_big_quiet_step (fail) | quiet_step (fail))
     refine wpQuiet_nil ?_
     refine wpSeg_sq (fun K hK => ?_)
     go_wp2_with fail
     refine (gheader_any _ _ _ (by omega)).mono ?_
     rintro e w2 ⟨rfl, hb2⟩
     have HH : Hid (hdAt (B : Int) ((j : Int) + (m : Int)) = 256 + ((j + m : Nat) : Int)) := LH (by unfold hdAt; rw [if_neg (by omega)]; omega)
     rw [HH.out]
     have hC2 := later_step hC1 hb2
     clear hb2
     go_wp2_with fail
     refine hK _ _ (fun _ => hC2) ?_
     clear hK K
     refine wpSeg_sq (fun K hK => ?_)
     go_wp2_with fail
     refine (bencode_any _ x y z (by omega) (by omega) _).mono ?_
     rintro e w3 ⟨rfl, hb3⟩
     have hC3 := later_step hC2 hb3
     clear hb3
     have HJM : Hid ((j : Int) + (m : Int) = ((j + m : Nat) : Int)) := LH (by omega)
     rw [HJM.out]
     go_wp2_with fail
     refine hK _ _ (fun _ => hC3) ?_
     clear hK K
     refine wpSeg_last ?_
     go_wp2_with fail
     have HD3 := LH (HD1.out.below (later_below hC3))
     refine (store_any HD3.out (N := N + m) (by omega) HOk.out _ _ (encN_lt _ _ _ _)).mono ?_
     rintro e w4 ⟨rfl, hd4, ht4⟩
     have HPS : Hid (putTo S L j l (m + 1) = ⟨R.dev.store (256 + ((j : Int) + (m : Int))) (encN ((j : Int) + (m : Int)) x y z), if R.dev.storeE (256 + ((j : Int) + (m : Int))) = 0 then R.list.set (j + m) ⟨x, y, z⟩ else R.list, R.dev.storeE (256 + ((j : Int) + (m : Int)))⟩) := LH (by
      rw [HST.out, putStep, if_neg (by rw [HE0.out]; simp)]; simp only [Int.natCast_add])
     generalize R.dev.store (256 + ((j : Int) + (m : Int))) (encN ((j : Int) + (m : Int)) x y z) = S4 at *
     generalize R.dev.storeE (256 + ((j : Int) + (m : Int))) = E4 at *
     have HT4 : Hid (TabG w4 p g c F B R.list) := LH ((HT1.out.keep ((later_below hC3).block p HT1.out.lt.1) ((later_below hC3).block g HT1.out.lt.2)).touch ht4 hpF hgF)
     have HTT4 : Hid (Touch (g :: F.list) w w4) := LH (HTT1.out.trans ((Touch.ofBelow (later_below hC3)).trans (ht4.wide (fun b hb => List.mem_cons_of_mem _ hb))))
     have HQ4 := LH ((HQR.out.keep ((later_below hC3).block q HQR.out.lt)).keep (ht4.block q (HQR.out.keep ((later_below hC3).block q HQR.out.lt)).lt hqF))
     have HD4 := LH hd4
     clear hd4 ht4 HD3 HT1 HTT1 HQR HD1 hC3 hC2 hC1 r0 r1 r2 r3 r4
     by_cases hz : E4 = 0
     ·subst hz
      have HPT : Hid (putTo S L j l (m + 1) = ⟨S4, R.list.set (j + m) ⟨x, y, z⟩, 0⟩) := LH (by rw [HPS.out, if_pos rfl])
      go_upto_region 17 with fail
      have r0 : ∀ y : Later w4, y.val.cell? ⟨p, 2, none⟩ = some (.slice (some ⟨g, 0, none⟩) B c) := later_cell (cell_of_row _ _ 2 _ _ _ HT4.out.head)
      have r2 := fun x => later_cell (HQ4.out.cell (i := 0) rfl) x
      have r3 := fun x => later_cell (HQ4.out.cell (i := 1) rfl) x
      have r4 := fun x => later_cell (HQ4.out.cell (i := 2) rfl) x
      have hjm : (j : Int) + (m : Int) < (B : Int) := by omega
      have hjm0 : ¬ (j : Int) + (m : Int) < 0 := by omega
      have HR5 : Hid (RowAt w4.drew g 104 (hdCs R.list)) := LH (HT4.out.row.keep rfl)
      have HFit : Hid ((j + m) * 3 + #[Value.int .i64 x, .int .i64 y, .int .i64 z].size ≤ (hdCs R.list).length) := LH (by rw [hdCs_length, HT4.out.len]; simp; omega)
      refine wp_region_seg (C := fun w' => ∃ x : Later (w4), w' = x.val) [.fl [0, 1, 2, 3, 4, 5, 6, 7], .sq [8, 9] false] (by kernel_rfl) (by kernel_rfl) (by intro c a d v w h; cases d <;> exact h) ?_
      simp only [segs, picks, List.getElem?_cons_succ, List.getElem?_cons_zero]
      have hC5 := later_drew (w4)
      refine wpSeg_fl hC5 ?_
      repeat (first | go_big_quiet_step (fail) | quiet_step (fail))
      refine wpQuiet_nil ?_
      refine wpSeg_last ?_
      go_wp2_with (refine wpList_store_part aggHd (g := g) (off := (j + m) * 3) (cs := #[.int .i64 x, .int .i64 y, .int .i64 z]) HR5.out rfl HFit.out (by intro u hu; simp at hu; rcases hu with rfl | rfl | rfl <;> rfl) rfl rfl rfl rfl ?_; intro w5 hr5 ht5; have HR6 := LH hr5; have HT6 := LH ht5; clear hr5 ht5)
      have HT5d : Touch [g] w4 w5 := (Touch.ofBelow (later_below hC5)).trans HT6.out
      refine ⟨⟨m + 1, by omega, vint (by omega), by rw [HPT.out], ?_, ?_, ?_⟩, by simp [intOf]; omega⟩
      ·rw [HPT.out]
       exact HD4.out.keep (fun b hb => HT5d.block b (HD4.out.mem b hb) (by simp; rintro rfl; exact hgF hb))
      ·rw [HPT.out]
       refine ⟨(HT5d.block p HT4.out.lt.1 (by simpa using hpg)).trans HT4.out.head, by rw [List.length_set]; exact HT4.out.len, HT4.out.cap, ?_⟩
       have := HR6.out
       rw [← hdCs_set R.list (j + m) ⟨x, y, z⟩ (by rw [HT4.out.len]; omega)]
       exact this
      ·exact HTT4.out.trans (HT5d.wide (by simp))
     ·have hz1 : (E4 != 0) = true := by simpa using hz
      have HPT : Hid (putAll S L j l = ⟨S4, R.list, E4⟩) := LH (by
       have h1 := HPS.out
       rw [if_neg hz] at h1
       have h2 := HStay.out (by rw [h1]; exact hz) k hmk
       rw [HE.out, HFin.out, h2, h1, if_pos hz])
      go_wp2_with fail
      go_ret
      rw [HPT.out]
      exact ⟨rfl, HD4.out, HT4.out, HTT4.out⟩
    ·obtain rfl : m = k := by omega
     have hlt2 : decide ((m : Int) < (m : Int)) = false := by simp
     go_upto_region 19 with fail
     have r0 := fun x => later_cell c0 x
     have r1 := fun x => later_cell c1 x
     have HPF : Hid (putAll S L j l = ⟨(R.dev.persist (256 + (j : Int)) (m : Int)).dev, R.list, (R.dev.persist (256 + (j : Int)) (m : Int)).err⟩) := LH (by rw [HE.out, HFin.out, HRR.out, if_neg (by rw [HE0.out]; simp)])
     refine wp_region_seg (C := fun w' => ∃ x : Later (wr), w' = x.val) [.fl [0, 1, 2, 3, 4, 5, 6, 7, 8, 10, 11], .sq [9] true, .sq [12, 13] false] (by kernel_rfl) (by kernel_rfl) (by intro c a d v w h; cases d <;> exact h) ?_
     simp only [segs, picks, List.getElem?_cons_succ, List.getElem?_cons_zero]
     have hC1 := later_drew (wr)
     refine wpSeg_fl hC1 ?_
     repeat (first | go_big_quiet_step (fail) | quiet_step (fail))
     refine wpQuiet_nil ?_
     refine wpSeg_sq (fun K hK => ?_)
     go_wp2_with fail
     refine (gheader_any _ _ _ (by omega)).mono ?_
     rintro e w2 ⟨rfl, hb2⟩
     have HH : Hid (hdAt (B : Int) (j : Int) = 256 + (j : Int)) := LH (by unfold hdAt; rw [if_neg (by omega)])
     rw [HH.out]
     have hC2 := later_step hC1 hb2
     clear hb2
     go_wp2_with fail
     refine hK _ _ (fun _ => hC2) ?_
     clear hK K
     refine wpSeg_last ?_
     go_wp2_with fail
     refine (persist_any (HD0.out.below (later_below hC2)) (N := N + m) (by omega) HOk.out _ _ (by omega) (by omega)).mono ?_
     rintro e w3 ⟨rfl, hd3, ht3⟩
     have HD3 := LH hd3
     have HT3 : Hid (TabG w3 p g c F B R.list) := LH ((HT0.out.keep ((later_below hC2).block p HT0.out.lt.1) ((later_below hC2).block g HT0.out.lt.2)).touch ht3 hpF hgF)
     have HTT3 : Hid (Touch (g :: F.list) w w3) := LH (HTT.out.trans ((Touch.ofBelow (later_below hC2)).trans (ht3.wide (fun b hb => List.mem_cons_of_mem _ hb))))
     clear hd3 ht3
     go_wp2_with fail
     go_ret
     rw [HPF.out]
     exact ⟨rfl, HD3.out, HT3.out, HTT3.out⟩
end Go.Proofs.YtbimcogdbafjpaaGreat
