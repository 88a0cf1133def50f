/- Parts of the proof, one behind the other: Ef, K, Cz, L, Eg, Tr, Eh, Ei, Ej, HdD, Rk, Bo, Sa, Sc, Sp, Sq, Fm. -/
import Derived.Test.YtpopbfagliagnaaGreatCF3
import Derived.Deep.Cut
import Derived.Deep.QuietTactic
import Derived.BigQuiet
import Derived.WalkKit
set_option linter.unusedVariables false
namespace Go.Proofs.YtpopbfagliagnaaGreat
open Go.RowKit Go.Maps
theorem nat_contains (xs : List Nat) (a : Nat) : (xs.map fun x : Nat => (x : Int)).contains (a : Int) = xs.contains a := by
 rw [Bool.eq_iff_iff, List.contains_iff_mem, List.contains_iff_mem, List.mem_map]
 constructor
 ·rintro ⟨x, hx, e⟩
  have : x = a := by omega
  rw [← this]; exact hx
 ·intro h; exact ⟨a, h, rfl⟩
theorem contains_any {w : World} (a : Option Addr) (n c : Nat) (xs : List Nat) (hn : xs.length = n) (hc : Cells w a (xs.map vi)) (h9 : xs.length ≤ 1000000000000) (x : Nat) :
  Calls Tryz.prog 303 #[.slice a n c, .int .i64 (x : Int)] w (Same1 (.bool (xs.contains x)) w) := by
 subst hn
 cases xs with
 | nil =>
  refine (Any.slices_Contains_int_empty Tryz.lays107 a c (x : Int) w).mono ?_
  rintro e w' ⟨rfl, rfl⟩
  exact ⟨rfl, rfl⟩
 | cons y ys =>
  rcases hc with h | ⟨b, off, rfl, hc⟩
  ·cases h
  ·refine (Any.slices_Contains_int Tryz.lays107 b off (y :: ys).length c ((y :: ys).map fun x : Nat => (x : Int)) (x : Int) w (by simp) (by omega) (fun j hj => ?_)).mono ?_
   ·refine hc j _ ?_
    rw [List.length_map] at hj
    simp only [List.getElem?_map, List.getElem?_eq_getElem hj, Option.map_some, List.getD_eq_getElem?_getD, Option.getD_some]
   ·rintro e w' ⟨rfl, rfl⟩
    refine ⟨?_, rfl⟩
    rw [List.take_of_length_le (by simp), nat_contains]
theorem FreeIn.lt {w : World} {f mb n : Nat} {V : Nat → Value} {S : FL} (h : FreeIn w f mb n V S) {k : Nat} (hk : k < 32) : ((List.range 32).map V ++ [Value.map (some mb)]).toArray[k]? = some (V k) := by
 rw [List.getElem?_toArray, List.getElem?_append_left (by simpa using hk)]
 simp [hk]
theorem FreeIn.g {w : World} {f mb n : Nat} {V : Nat → Value} {S : FL} (h : FreeIn w f mb n V S) {k : Nat} (hk : k < 32) : w.cell? ⟨f, k, none⟩ = some (V k) :=
 (cell_of_row _ _ k _ _ _ h.head).trans (h.lt hk)
theorem FreeIn.m {w : World} {f mb n : Nat} {V : Nat → Value} {S : FL} (h : FreeIn w f mb n V S) : w.cell? ⟨f, 32, none⟩ = some (.map (some mb)) :=
 (cell_of_row _ _ 32 _ _ _ h.head).trans (by rw [List.getElem?_toArray, List.getElem?_append_right (by simp)]; simp)
abbrev vfree (f : Nat) : Value := .pointer (some ⟨f, 0, none⟩)
theorem zero_ints (w : World) : (zeroValue 47).run Tryz.prog w = .ok (.slice none 0 0) w := Tryz.zeroValue47 w
def FL.hasTo (S : FL) (k a : Nat) : Nat → Bool
 | 0 => (S.g k).contains a
 | i + 1 => S.hasTo k a i || (S.c i k).contains a
theorem FL.hasTo_all (S : FL) (k a : Nat) : S.hasTo k a 4 = S.has k a := rfl
theorem FL.hasTo_false {S : FL} {k a : Nat} : ∀ {i j : Nat}, S.hasTo k a i = true → i ≤ j → S.hasTo k a j = true
  | i, 0, h, hj => by obtain rfl : i = 0 := by omega
                      exact h
  | i, j + 1, h, hj => by
    by_cases e : i = j + 1
    · subst e; exact h
    · unfold FL.hasTo
      rw [FL.hasTo_false h (by omega)]; rfl
theorem wf_small (k : Nat) (h : k < 1000) : (Lit.int .i64 (k : Int)).wf = true := by
 exact WalkArith.wf_i64 (by omega)
set_option maxHeartbeats 2000000 in
set_option maxRecDepth 20000 in
theorem fhas_any {w : World} {f mb n : Nat} {R : List Nat} {S : FL} (h : FreeAt w f mb n R S) (hL : ∀ i, i < 160 → (S.at i).length ≤ 1000000) (k a : Nat) (hk : k < 32) :
  Calls Tryz.prog 249 #[vfree f, .int .i64 (k : Int), .int .i64 (a : Int)] w (Same1 (.bool (S.has k a)) w) := by
 obtain ⟨V, hi, _⟩ := h
 obtain ⟨M, hm, hv⟩ := hi.map
 have HI := LH hi
 have HM := LH hm
 have HV := LH hv
 have HL := LH hL
 have c32 := hi.m
 have ck := hi.g hk
 obtain ⟨ag, cg, eg, hcg, _, _⟩ := (hi.rows k (by omega)).cells
 rw [S.at_g hk] at eg hcg
 rw [eg] at ck
 have HCg := LH hcg
 have HLg : Hid ((S.g k).length ≤ 1000000) := LH (by have := hL k (by omega); rwa [S.at_g hk] at this)
 have HP : Hid (∀ b, b = S.has k a → Same1 (.bool (S.has k a)) w (.returned (.bool b)) w) := LH (by rintro b rfl; exact ⟨rfl, rfl⟩)
 generalize Same1 (.bool (S.has k a)) w = Post at *
 have hlen : (S.g k).length = (S.g k).length := rfl
 obtain ⟨lg, hlg⟩ : ∃ lg, lg = (S.g k).length := ⟨_, rfl⟩
 rw [← hlg] at ck
 have HLe := LH hlg
 clear hi hm hv hL eg hcg hlen hlg
 go_enter Tryz.func249, Tryz.ntmps249
 go_wp2_with fail
 refine (cright_any _ _).mono ?_
 rintro e w1 ⟨rfl, rfl⟩
 rw [decide_eq_true (show (0 : Int) ≤ (k : Int) ∧ (k : Int) < 32 by omega)]
 go_wp2_with fail
 refine (contains_any ag lg cg (S.g k) HLe.out.symm HCg.out (by have := HLg.out; omega) a).mono ?_
 rintro e w1 ⟨rfl, rfl⟩
 cases hg0 : (S.g k).contains a with
 | true =>
  have HB : Hid (true = S.has k a) := LH (by rw [← FL.hasTo_all]; exact (FL.hasTo_false (i := 0) hg0 (by omega)).symm)
  clear hg0
  go_wp2_with fail
  exact HP.out _ HB.out
 | false =>
  have H0 : Hid (S.hasTo k a 0 = false) := LH hg0
  clear hg0
  go_wp2_with fail
  go_loop [19] (fun iv => ∃ i : Nat, i ≤ 4 ∧ iv = .int .i64 (i : Int) ∧ Hid (S.hasTo k a i = false)) (fun iv => 4 - (intOf iv).toNat)
  case atStart => exact ⟨0, by omega, rfl, H0⟩
  case round =>
   clear H0
   obtain ⟨i, hi4, rfl, HT⟩ := hrel
   by_cases hlt : i < 4
   ·obtain ⟨ac, cc, ec, hcc, _, _⟩ := (HI.out.rows (slotI i k) (by unfold slotI; omega)).cells
    rw [S.at_c i hk] at ec hcc
    have hlc := HL.out (slotI i k) (by unfold slotI; omega)
    rw [S.at_c i hk] at hlc
    have HVi := HV.out i k hlt hk
    have HCc := LH hcc
    have HLc := LH hlc
    have HStep : Hid (S.hasTo k a (i + 1) = (S.hasTo k a i || (S.c i k).contains a)) := LH rfl
    rw [ec] at HVi
    have HVi := LH HVi
    obtain ⟨lc, hlcx⟩ : ∃ lc, lc = (S.c i k).length := ⟨_, rfl⟩
    rw [← hlcx] at HVi
    have HLx := LH hlcx
    clear ec hcc hlc hlcx
    have hkey := key_slot (i : Int) (k : Int) (wf_small i (by omega)) (wf_small k (by omega))
    go_wp2_with (refine wpList_vlook rfl _ _ 332 rfl 336 47 keyed_slot Tryz.underlying332 _ (zero_ints _) mb n M rfl HM.out _ _ rfl hkey ?_; rw [HVi.out])
    refine (contains_any ac lc cc (S.c i k) HLx.out.symm HCc.out (by have := HLc.out; omega) a).mono ?_
    rintro e w1 ⟨rfl, rfl⟩
    cases hc0 : (S.c i k).contains a with
    | true =>
     have HB : Hid (true = S.has k a) := LH (by rw [← FL.hasTo_all]; exact (FL.hasTo_false (i := i + 1) (by rw [HStep.out, hc0]; simp) (by omega)).symm)
     clear hc0
     go_wp2_with fail
     exact HP.out _ HB.out
    | false =>
     have HT2 : Hid (S.hasTo k a (i + 1) = false) := LH (by rw [HStep.out, hc0, HT.out]; rfl)
     clear hc0
     go_wp2_with fail
     go_round
     case rel => exact ⟨i + 1, by omega, vint (by omega), HT2⟩
     case measure => simp [intOf]; omega
   ·obtain rfl : i = 4 := by omega
    have HB : Hid (false = S.has k a) := LH (by rw [← FL.hasTo_all]; exact HT.out.symm)
    go_wp2_with fail
    exact HP.out _ HB.out
end Go.Proofs.YtpopbfagliagnaaGreat
namespace Go.Proofs.YtpopbfagliagnaaGreat
open Go.RowKit
def sizesL : List Nat := [2, 3, 4, 5, 6, 7, 8, 10, 12, 14, 16, 18, 20, 24, 28, 32, 36, 40, 46, 51, 56, 64, 73, 85, 92, 102, 113, 128, 146, 170, 204, 256]
def clsWords (k : Int) : Nat := if 0 ≤ k ∧ k < 32 then sizesL.getD k.toNat 0 else 0
def zeros32 : Array Value := (List.replicate 32 (Value.int .i64 0)).toArray
theorem agg32 : Agg Tryz.prog 402 zeros32 := ⟨⟨_, Tryz.underlying402, rfl⟩, by kernel_rfl⟩
def sizesV : Array Value := (sizesL.map (fun n : Nat => Value.int .i64 (n : Int))).toArray
theorem sizesV_one : sizesV.all (·.oneCell') = true := by simp [sizesV, sizesL, Value.oneCell']
set_option maxHeartbeats 400000 in
theorem sizes_any (w : World) : Calls Tryz.prog 313 #[] w fun e w' => e = .returned (.agg sizesV) ∧ Below w.heap.size w w' := by
 go_enter Tryz.func313, Tryz.ntmps313
 go_wp2_with (first
  | (refine wpList_alloc_agg agg32 rfl rfl ?_; intro w1 hg1 hgr1 hs1)
  | (refine wpList_store_row (cs := sizesV) agg32 hg1 rfl rfl sizesV_one rfl rfl rfl rfl ?_; intro w2 hg2 hgr2 hs2))
 refine bodyPost_ret (v := .agg sizesV) ?_ rfl ⟨rfl, ?_⟩
 ·exact results_cell_row rfl _ _ _ _ _ _ _ rfl hg2 Tryz.underlying402 rfl (by kernel_rfl)
 ·exact (below_grown hgr1 (Nat.le_refl _)).grown hgr2 (by omega) (fun k e => by cases e; omega)
set_option maxHeartbeats 400000 in
theorem cwords_any (k : Int) (w : World) : Calls Tryz.prog 261 #[.int .i64 k] w fun e w' => e = .returned (.int .i64 (clsWords k : Nat)) ∧ Below w.heap.size w w' := by
 by_cases h : 0 ≤ k ∧ k < 32
 ·have HW : Hid (clsWords k = sizesL.getD k.toNat 0) := LH (by unfold clsWords; rw [if_pos h])
  have H := LH h
  obtain ⟨h1, h2⟩ := h
  go_enter Tryz.func261, Tryz.ntmps261
  go_wp2_with fail
  refine (cright_any _ _).mono ?_
  rintro e w1 ⟨rfl, rfl⟩
  rw [decide_eq_true H.out]
  go_wp2_with fail
  refine (sizes_any _).mono ?_
  rintro e w1 ⟨rfl, hb⟩
  have hv : sizesV[k.toNat]? = some (Value.int .i64 (sizesL.getD k.toNat 0 : Nat)) := by
   obtain ⟨j, rfl⟩ := Int.eq_ofNat_of_zero_le h1
   have hj : j < sizesL.length := by show j < 32; omega
   simp only [Int.toNat_natCast, sizesV, List.getElem?_toArray, List.getElem?_map, List.getElem?_eq_getElem hj, Option.map_some, List.getD_eq_getElem?_getD, Option.getD_some]
  have HV := LH hv
  clear hv
  go_wp2_with (refine wpList_index_arr k.toNat Tryz.underlying402 Tryz.underlying3 rfl (by kernel_rfl) (by omega) (by omega) HV.out rfl rfl rfl rfl ?_)
  go_ret
  exact ⟨ret_int (by rw [HW.out, List.getD_eq_getElem?_getD]), hb⟩
 ·have HW : Hid (clsWords k = 0) := LH (by unfold clsWords; rw [if_neg h])
  have H := LH h
  clear h
  go_enter Tryz.func261, Tryz.ntmps261
  go_wp2_with fail
  refine (cright_any _ _).mono ?_
  rintro e w1 ⟨rfl, rfl⟩
  rw [decide_eq_false H.out]
  go_wp2_with fail
  go_ret
  exact ⟨ret_int (by rw [HW.out]; rfl), Below.refl _ _⟩
def ofN (n : Int) : Nat := sizesL.findIdx (fun s : Nat => decide (n ≤ (s : Int)))
theorem ofN_eq (n : Int) (k : Nat) (hk : k < 32) (h1 : n ≤ (sizesL.getD k 0 : Nat)) (h2 : ∀ j, j < k → ((sizesL.getD j 0 : Nat) : Int) < n) : ofN n = k := by
 have hl : k < sizesL.length := hk
 unfold ofN
 rw [List.findIdx_eq hl]
 have g : ∀ j (hj : j < sizesL.length), sizesL.getD j 0 = sizesL[j] := fun j hj => by simp [hj]
 refine ⟨by rw [← g k hl]; simpa using h1, fun j hj => ?_⟩
 rw [← g j (by omega)]
 have := h2 j hj
 simp only [decide_eq_false_iff_not]
 omega
theorem sizes_mono : ∀ i j : Nat, i ≤ j → j < 32 → sizesL.getD i 0 ≤ sizesL.getD j 0 := by
 have h : ∀ j : Fin 32, ∀ i : Fin 32, i ≤ j → sizesL.getD i.val 0 ≤ sizesL.getD j.val 0 := by decide
 intro i j hij hj
 exact h ⟨j, hj⟩ ⟨i, by omega⟩ hij
theorem clsWords_nat (k : Nat) (h : k < 32) : clsWords (k : Int) = sizesL.getD k 0 := by
 unfold clsWords; rw [if_pos (by omega)]; rfl
theorem clsWords_le (k : Int) : clsWords k ≤ 256 := by
 unfold clsWords
 split
 ·have h := sizes_mono k.toNat 31 (by omega) (by omega)
  have e : sizesL.getD 31 0 = 256 := rfl
  rw [e] at h
  exact h
 ·omega
theorem clsWords_pos (k : Int) (h : 0 ≤ k ∧ k < 32) : 2 ≤ clsWords k := by
 unfold clsWords
 rw [if_pos h]
 have h := sizes_mono 0 k.toNat (by omega) (by omega)
 have e : sizesL.getD 0 0 = 2 := rfl
 rw [e] at h
 exact h
set_option maxHeartbeats 400000 in
theorem cmost_any (w : World) : Calls Tryz.prog 299 #[] w fun e w' => e = .returned (.int .i64 256) ∧ Below w.heap.size w w' := by
 go_enter Tryz.func299, Tryz.ntmps299
 go_wp2_with fail
 refine (cwords_any _ _).mono ?_
 rintro e w1 ⟨rfl, hb⟩
 have e : ((clsWords 31 : Nat) : Int) = 256 := by decide
 rw [e]
 go_wp2_with fail
 go_ret
 exact ⟨rfl, hb⟩
def ofV (n : Int) : Value := if 1 ≤ n ∧ n ≤ 256 then .tuple #[.int .i64 (ofN n : Nat), .bool true] else .tuple #[.int .i64 0, .bool false]
set_option maxHeartbeats 400000 in
theorem cof_any (n : Int) (w : World) : Calls Tryz.prog 246 #[.int .i64 n] w fun e w' => e = .returned (ofV n) ∧ Below w.heap.size w w' := by
 by_cases h1 : n < 1
 ·have HV : Hid (ofV n = .tuple #[.int .i64 0, .bool false]) := LH (by unfold ofV; rw [if_neg (by omega)])
  go_enter Tryz.func246, Tryz.ntmps246
  go_wp2_with fail
  go_ret2
  exact ⟨by rw [HV.out]; rfl, Below.refl _ _⟩
 by_cases h2 : 256 < n
 ·have HV : Hid (ofV n = .tuple #[.int .i64 0, .bool false]) := LH (by unfold ofV; rw [if_neg (by omega)])
  go_enter Tryz.func246, Tryz.ntmps246
  go_wp2_with fail
  refine (cmost_any _).mono ?_
  rintro e w1 ⟨rfl, hb⟩
  go_wp2_with fail
  go_ret2
  exact ⟨by rw [HV.out]; rfl, hb⟩
 have HV : Hid (ofV n = .tuple #[.int .i64 (ofN n : Nat), .bool true]) := LH (by unfold ofV; rw [if_pos (by omega)])
 go_enter Tryz.func246, Tryz.ntmps246
 go_wp2_with fail
 refine (cmost_any _).mono ?_
 rintro e w1 ⟨rfl, hb⟩
 go_wp2_with fail
 go_loopw [4, 5] (fun lo hi wr => ∃ i j : Nat, i ≤ j ∧ j ≤ 31 ∧ lo = .int .i64 i ∧ hi = .int .i64 j ∧ Hid (∀ t, t < i → ((sizesL.getD t 0 : Nat) : Int) < n) ∧ Hid (n ≤ (sizesL.getD j 0 : Nat)) ∧ Below w.heap.size w wr)
  (fun lo hi _ => (intOf hi).toNat - (intOf lo).toNat)
 case atStart => exact ⟨0, 31, by omega, by omega, rfl, rfl, LH (fun t ht => by omega), LH (by show n ≤ 256; omega), hb⟩
 case round =>
  obtain ⟨i, j, hij, hj, rfl, rfl, hlo, hhi, hb⟩ := hrel
  by_cases hlt : i < j
  ·have hm : (i + j) / 2 < 32 := by omega
   have HC := LH (clsWords_nat ((i + j) / 2) hm)
   go_wp2_with fail
   refine (cwords_any _ _).mono ?_
   rintro e w2 ⟨rfl, hb2⟩
   have hb3 := hb.trans (hb2.mono hb.size)
   rw [show ((i : Int) + (j : Int)) / 2 = (((i + j) / 2 : Nat) : Int) by omega] at *
   rw [HC.out]
   obtain ⟨x, hx⟩ : ∃ x, x = sizesL.getD ((i + j) / 2) 0 := ⟨_, rfl⟩
   rw [← hx]
   have HX := LH hx
   clear hx
   by_cases hc : n ≤ (x : Int)
   ·go_wp2_with fail
    refine ⟨⟨i, (i + j) / 2, by omega, by omega, rfl, rfl, hlo, LH (by rw [← HX.out]; exact hc), hb3⟩, by simp [intOf]; omega⟩
   ·go_wp2_with fail
    refine ⟨⟨(i + j) / 2 + 1, j, by omega, by omega, vint (by omega), rfl, LH (fun t ht => ?_), hhi, hb3⟩, by simp [intOf]; omega⟩
    have h1 := sizes_mono t ((i + j) / 2) (by omega) hm
    rw [← HX.out] at h1
    omega
  ·obtain rfl : i = j := by omega
   have HO := LH (ofN_eq n i (by omega) hhi.out hlo.out)
   go_wp2_with fail
   go_ret2
   exact ⟨by rw [HV.out, HO.out]; rfl, hb⟩
def objSize (p d : Int) : Nat := if p < 0 ∨ 63 < p ∨ d < 0 ∨ 16384 < d then 0 else (1 + p + d).toNat
theorem objSize_le (p d : Int) : objSize p d ≤ 16448 := by unfold objSize; split <;> omega
def csizeV (p d : Int) : Value := if objSize p d = 0 then .tuple #[.int .i64 0, .int .i64 5] else .tuple #[.int .i64 (objSize p d : Nat), .int .i64 0]
set_option maxHeartbeats 400000 in
theorem csize_any (p d : Int) (w : World) : Calls Tryz.prog 259 #[.int .i64 p, .int .i64 d] w fun e w' => e = .returned (csizeV p d) ∧ w = w' := by
 by_cases h : p < 0 ∨ 63 < p ∨ d < 0 ∨ 16384 < d
 ·have HS : Hid (csizeV p d = .tuple #[.int .i64 0, .int .i64 5]) := LH (by unfold csizeV; rw [if_pos (by unfold objSize; rw [if_pos h])])
  rcases h with h | h | h | h
  ·go_enter Tryz.func259, Tryz.ntmps259
   go_wp2_with fail
   go_ret2
   exact ⟨by rw [HS.out]; rfl, rfl⟩
  ·have h' : ¬ p < 0 := by omega
   go_enter Tryz.func259, Tryz.ntmps259
   go_wp2_with fail
   go_ret2
   exact ⟨by rw [HS.out]; rfl, rfl⟩
  ·by_cases h1 : p < 0
   ·go_enter Tryz.func259, Tryz.ntmps259
    go_wp2_with fail
    go_ret2
    exact ⟨by rw [HS.out]; rfl, rfl⟩
   by_cases h2 : 63 < p
   ·go_enter Tryz.func259, Tryz.ntmps259
    go_wp2_with fail
    go_ret2
    exact ⟨by rw [HS.out]; rfl, rfl⟩
   go_enter Tryz.func259, Tryz.ntmps259
   go_wp2_with fail
   go_ret2
   exact ⟨by rw [HS.out]; rfl, rfl⟩
  ·have h3 : ¬ d < 0 := by omega
   by_cases h1 : p < 0
   ·go_enter Tryz.func259, Tryz.ntmps259
    go_wp2_with fail
    go_ret2
    exact ⟨by rw [HS.out]; rfl, rfl⟩
   by_cases h2 : 63 < p
   ·go_enter Tryz.func259, Tryz.ntmps259
    go_wp2_with fail
    go_ret2
    exact ⟨by rw [HS.out]; rfl, rfl⟩
   go_enter Tryz.func259, Tryz.ntmps259
   go_wp2_with fail
   go_ret2
   exact ⟨by rw [HS.out]; rfl, rfl⟩
 ·have HS : Hid (csizeV p d = .tuple #[.int .i64 (1 + p + d), .int .i64 0]) := by
   have h1 : ((objSize p d : Nat) : Int) = 1 + p + d := by unfold objSize; rw [if_neg h]; omega
   apply LH
   unfold csizeV
   rw [if_neg (by omega), h1]
  have h1 : ¬ p < 0 := by omega
  have h2 : ¬ 63 < p := by omega
  have h3 : ¬ d < 0 := by omega
  have h4 : ¬ 16384 < d := by omega
  clear h
  go_enter Tryz.func259, Tryz.ntmps259
  go_wp2_with fail
  go_ret2
  exact ⟨by rw [HS.out]; rfl, rfl⟩
set_option maxHeartbeats 400000 in
theorem osize_any (p d : Int) (w : World) : Calls Tryz.prog 182 #[.agg #[.int .i64 p, .int .i64 d]] w fun e w' => e = .returned (.int .i64 (objSize p d : Nat)) ∧ Below w.heap.size w w' := by
 have hb : ∀ o, Below w.heap.size w (w.alloc o) := fun o => (Below.refl _ _).alloc (Nat.le_refl _) o
 have HB := LH hb
 clear hb
 go_enter Tryz.func182, Tryz.ntmps182
 go_wp2_with fail
 refine (csize_any _ _ _).mono ?_
 rintro e w1 ⟨rfl, rfl⟩
 by_cases h : objSize p d = 0
 ·have HV : Hid (csizeV p d = .tuple #[.int .i64 0, .int .i64 5]) := LH (by unfold csizeV; rw [if_pos h])
  rw [HV.out]
  have H := LH h
  clear h
  go_wp2_with fail
  go_ret
  exact ⟨ret_int (by rw [H.out]; rfl), HB.out _⟩
 ·have HV : Hid (csizeV p d = .tuple #[.int .i64 (objSize p d : Nat), .int .i64 0]) := LH (by unfold csizeV; rw [if_neg h])
  rw [HV.out]
  clear h
  go_wp2_with fail
  go_ret
  exact ⟨rfl, HB.out _⟩
set_option maxHeartbeats 400000 in
theorem osmall_any (p d : Int) (w : World) : Calls Tryz.prog 167 #[.agg #[.int .i64 p, .int .i64 d]] w fun e w' => e = .returned (ofV (objSize p d : Nat)) ∧ Below w.heap.size w w' := by
 have hb : ∀ o, Below w.heap.size w (w.alloc o) := fun o => (Below.refl _ _).alloc (Nat.le_refl _) o
 have HB := LH hb
 clear hb
 go_enter Tryz.func167, Tryz.ntmps167
 go_wp2_with fail
 refine (osize_any _ _ _).mono ?_
 rintro e w1 ⟨rfl, hb1⟩
 have hb1' := (HB.out _).trans (hb1.mono (HB.out _).size)
 go_wp2_with fail
 refine (cof_any _ _).mono ?_
 rintro e w2 ⟨rfl, hb2⟩
 have hb2' := hb1'.trans (hb2.mono hb1'.size)
 by_cases h : 1 ≤ ((objSize p d : Nat) : Int) ∧ ((objSize p d : Nat) : Int) ≤ 256
 ·have HV : Hid (ofV (objSize p d : Nat) = .tuple #[.int .i64 (ofN (objSize p d : Nat) : Nat), .bool true]) := LH (by unfold ofV; rw [if_pos h])
  rw [HV.out]
  clear h hb1 hb2 hb1'
  go_wp2_with fail
  go_ret2
  exact ⟨by rw [HV.out]; rfl, hb2'⟩
 ·have HV : Hid (ofV (objSize p d : Nat) = .tuple #[.int .i64 0, .bool false]) := LH (by unfold ofV; rw [if_neg h])
  rw [HV.out]
  clear h hb1 hb2 hb1'
  go_wp2_with fail
  go_ret2
  exact ⟨by rw [HV.out]; rfl, hb2'⟩
def small (n : Nat) : Prop := 1 ≤ n ∧ n ≤ 256
instance (n : Nat) : Decidable (small n) := by unfold small; infer_instance
theorem ofV_small (n : Nat) (h : small n) : ofV (n : Int) = .tuple #[.int .i64 (ofN (n : Int) : Nat), .bool true] := by
 unfold ofV; rw [if_pos (by unfold small at h; omega)]
theorem ofV_large (n : Nat) (h : ¬ small n) : ofV (n : Int) = .tuple #[.int .i64 0, .bool false] := by
 unfold ofV; rw [if_neg (by unfold small at h; omega)]
def objBlocks (n : Nat) : Nat := if small n then 0 else (n + 511) / 512
set_option maxHeartbeats 400000 in
theorem oblocks_any (p d : Int) (w : World) : Calls Tryz.prog 186 #[.agg #[.int .i64 p, .int .i64 d]] w fun e w' => e = .returned (.int .i64 (objBlocks (objSize p d) : Nat)) ∧ Below w.heap.size w w' := by
 have hb : ∀ o, Below w.heap.size w (w.alloc o) := fun o => (Below.refl _ _).alloc (Nat.le_refl _) o
 have HB := LH hb
 clear hb
 have hle := objSize_le p d
 go_enter Tryz.func186, Tryz.ntmps186
 go_wp2_with fail
 refine (osmall_any _ _ _).mono ?_
 rintro e w1 ⟨rfl, hb1⟩
 have hb1' := (HB.out _).trans (hb1.mono (HB.out _).size)
 have hc0 : w1.cell? ⟨w.heap.size, 0, none⟩ = some (.int .i64 p) := by rw [hb1.cell (p := ⟨w.heap.size, 0, none⟩) (by simp)]; exact cell_alloc_new _ _ _ _ _ rfl
 have hc1 : w1.cell? ⟨w.heap.size, 1, none⟩ = some (.int .i64 d) := by rw [hb1.cell (p := ⟨w.heap.size, 1, none⟩) (by simp)]; exact cell_alloc_new _ _ _ _ _ rfl
 by_cases h : small (objSize p d)
 ·rw [ofV_small _ h]
  have HO : Hid (objBlocks (objSize p d) = 0) := LH (by unfold objBlocks; rw [if_pos h])
  clear h hb1
  go_wp2_with fail
  go_ret
  exact ⟨ret_int (by rw [HO.out]; rfl), hb1'⟩
 ·rw [ofV_large _ h]
  have HO : Hid (((objBlocks (objSize p d) : Nat) : Int) = upN (objSize p d : Nat) 512) := LH (by unfold objBlocks upN; rw [if_neg h]; split <;> omega)
  clear h hb1
  go_wp2_with fail
  refine (osize_any _ _ _).mono ?_
  rintro e w2 ⟨rfl, hb2⟩
  have hb2' := hb1'.trans (hb2.mono hb1'.size)
  go_wp2_with fail
  refine (up_any _ _ _ (by omega) (by omega)).mono ?_
  rintro e w3 ⟨rfl, rfl⟩
  rw [← HO.out]
  go_wp2_with fail
  go_ret
  exact ⟨rfl, hb2'⟩
def clsCells (k : Int) : Nat := 512 / clsWords k
set_option maxHeartbeats 400000 in
theorem ccells_any (k : Int) (w : World) : Calls Tryz.prog 279 #[.int .i64 k] w fun e w' => e = .returned (.int .i64 (clsCells k : Nat)) ∧ Below w.heap.size w w' := by
 by_cases h : 0 ≤ k ∧ k < 32
 ·have hp := clsWords_pos k h
  have HC : Hid (((clsCells k : Nat) : Int) = 512 / ((clsWords k : Nat) : Int)) := LH (by simp [clsCells])
  have H := LH h
  clear h
  go_enter Tryz.func279, Tryz.ntmps279
  go_wp2_with fail
  refine (cright_any _ _).mono ?_
  rintro e w1 ⟨rfl, rfl⟩
  rw [decide_eq_true H.out]
  go_wp2_with fail
  refine (cwords_any _ _).mono ?_
  rintro e w1 ⟨rfl, hb⟩
  have hle := clsWords_le k
  generalize clsWords k = x at *
  have hx0 : ((x : Int) == 0) = false := by rw [beq_eq_false_iff_ne]; omega
  go_wp2_with fail
  go_ret
  exact ⟨ret_int (by rw [HC.out]), hb⟩
 ·have HC : Hid (clsCells k = 0) := LH (by unfold clsCells clsWords; rw [if_neg h])
  have H := LH h
  clear h
  go_enter Tryz.func279, Tryz.ntmps279
  go_wp2_with fail
  refine (cright_any _ _).mono ?_
  rintro e w1 ⟨rfl, rfl⟩
  rw [decide_eq_false H.out]
  go_wp2_with fail
  go_ret
  exact ⟨ret_int (by rw [HC.out]; rfl), Below.refl _ _⟩
theorem el_int : Elem Tryz.prog 47 3 (.int .i64 0) 1 8 := Elem.mk' Tryz.underlying47 (by kernel_rfl) rfl (by decide)
end Go.Proofs.YtpopbfagliagnaaGreat
namespace Go.Proofs.YtpopbfagliagnaaGreat
open Go.RowKit Go.Maps
theorem grown_drew_alloc (w : World) (o : Obj) (row : Option Nat) : w.grownBy (w.drew.alloc o) row := ⟨rfl, rfl, rfl, by simp, fun k hk _ => (below_alloc w.drew o).block k hk⟩
theorem grown_self (w : World) (row : Option Nat) : w.grownBy w row := ⟨rfl, rfl, rfl, Nat.le_refl _, fun _ _ _ => rfl⟩
theorem vi_one (xs : List Nat) : ∀ u ∈ xs.map vi, u.oneCell' = true := by
 intro u hu
 obtain ⟨x, _, rfl⟩ := List.mem_map.1 hu
 rfl
theorem rowOf_new (g n c : Nat) : ∀ b, rowOf (.slice (some ⟨g, 0, none⟩) n c) = some b → b = g := by
 intro b hb
 have hb2 : (if c = 0 then none else some g) = some b := hb
 by_cases h : c = 0
 ·rw [if_pos h] at hb2; cases hb2
 ·rw [if_neg h] at hb2; cases hb2; rfl
theorem run_append_ownI {w : World} {v : Value} {xs ys : List Nat} {a : Option Addr} {m c : Nat} (ty : TypeId) (h : OwnI w v xs) (hy : Cells w a (ys.map vi)) (hm : ys.length = m) (hn : xs.length + m ≤ 1000000000000) :
  ∃ v' w', (Builtin.append_ #[47, 47] ty #[v, .slice a m c]).run Tryz.prog w = .ok v' w' ∧ OwnI w' v' (xs ++ ys) ∧ w.grownBy w' (rowOf v) ∧ ∀ b, rowOf v' = some b → rowOf v = some b ∨ b = w.heap.size := by
 obtain ⟨i, i1, i2, i3, i4⟩ := el_int.info
 have hby : (xs.length + m) * i.bytes ≤ 140737488355328 := by rw [i4]; omega
 have h63 : xs.length + m ≤ maxLen := by unfold maxLen; omega
 by_cases hm0 : m = 0
 ·have hys : ys = [] := List.length_eq_zero_iff.1 (by omega)
  subst hm0 hys
  refine ⟨v, w, ?_, by simpa using h, grown_self _ _, fun b hb => .inl hb⟩
  rcases h with h | ⟨p, rfl, rfl⟩
  ·cases a with
   | none => exact run_append_owned_none' el_int.under i1 h
   | some d =>
    rcases h.2 with ⟨rfl, h0⟩ | ⟨g, cap, cur, rfl, hb, hg, h1, h2, h3, h4⟩
    ·simp [Builtin.append_, run_underlying el_int.under, sizeOf, typeInfo, i1, Builtin.lenOf, Builtin.firstCells, loadCells, loadCellsFrom]
    ·simp [Builtin.append_, run_underlying el_int.under, sizeOf, typeInfo, i1, Builtin.lenOf, Builtin.firstCells, loadCells, loadCellsFrom, storeCells, h1]
  ·cases a with
   | none => simp [Builtin.append_, run_underlying el_int.under, sizeOf, typeInfo, i1, Builtin.lenOf, Builtin.firstCells, storeCells]
   | some d => simp [Builtin.append_, run_underlying el_int.under, sizeOf, typeInfo, i1, Builtin.lenOf, Builtin.firstCells, loadCells, loadCellsFrom, storeCells]
 ·rcases hy with h0 | ⟨b, off, rfl, hyc⟩
  ·exfalso
   have := congrArg List.length h0
   simp at this
   rw [this] at hm; simp at hm; omega
  have hyc' : ∀ j u, (ys.map vi)[j]? = some u → w.cell? ((⟨b, off, none⟩ : Addr).add j) = some u := fun j u hj => by
   rw [add_none]; exact hyc j u hj
  have hl : (ys.map vi).length = m * 1 := by simp [hm]
  have hl' : (ys.map vi).length = m * i.size := by rw [i3]; exact hl
  have nilcase := run_append_own (P := Tryz.prog) (w := w) 0 47 ty 3 i _ 1 i.bytes el_int.under i1 i2 i3 rfl el_int.cells (by decide) (.slice none 0 0) 0 [] (World.ownsRow_nil w 0 3 1) ⟨b, off, none⟩ m c (ys.map vi) hl hyc' (vi_one ys) (by unfold maxLen at h63 ⊢; omega) (by rw [i4]; omega) (Nat.zero_le _)
  have hnr := run_append_nil (P := Tryz.prog) w 47 ty 3 i _ el_int.under i1 i2 ⟨b, off, none⟩ m c (ys.map vi) hl' hyc' (by omega) (by omega) (by rw [i4]; omega)
  obtain ⟨v1, w1, r1, o1, g1, n1⟩ := nilcase
  have hv1 : v1 = .slice (some ⟨w.heap.size, 0, none⟩) m (grownCap w m 0 3) ∧ w1 = w.drew.alloc (.cells ((ys.map vi).toArray ++ Builtin.zeroCells (Value.int .i64 0).cells (grownCap w m 0 3 - m)) 3) := by
   rw [hnr] at r1
   have e := r1
   injection e with e1 e2
   exact ⟨e1.symm, e2.symm⟩
  rcases h with h | ⟨p, rfl, rfl⟩
  ·rcases h.2 with ⟨rfl, h0⟩ | ⟨g, cap, cur, rfl, hb, hg, h1, h2, h3, h4⟩
   ·have hx : xs = [] := List.length_eq_zero_iff.1 h0
    subst hx
    refine ⟨v1, w1, r1, .inl ?_, ?_, fun b' hb' => .inr ?_⟩
    ·simpa [hm] using o1
    ·rw [hv1.2]; exact grown_drew_alloc _ _ _
    ·rw [hv1.1] at hb'; exact rowOf_new _ _ _ _ hb'
   ·obtain ⟨v2, w2, r2, o2, g2, n2⟩ := run_append_own (P := Tryz.prog) (w := w) 0 47 ty 3 i _ 1 i.bytes el_int.under i1 i2 i3 rfl el_int.cells (by decide) (.slice (some ⟨g, 0, none⟩) xs.length cap) xs.length (xs.map vi) h ⟨b, off, none⟩ m c (ys.map vi) hl hyc' (vi_one ys) h63 hby (Nat.zero_le _)
    have ho2 : OwnI w2 v2 (xs ++ ys) := .inl (by rw [List.length_append, List.map_append, hm]; exact o2)
    by_cases hroom : xs.length + m ≤ cap
    ·have hr := run_append_room (P := Tryz.prog) w 47 ty 3 i el_int.under i1 g xs.length cap cur hg ⟨b, off, none⟩ m c (ys.map vi) hl' hyc' (vi_one ys) hroom (by rw [i3, List.length_map, h3, hm]; omega)
     rw [hr] at r2
     have e := r2
     injection e with e1 e2
     have hcap : cap ≠ 0 := by omega
     refine ⟨v2, w2, by rw [hr, e1, e2], ho2, ?_, fun b' hb' => .inl ?_⟩
     ·have : rowOf (.slice (some ⟨g, 0, none⟩) xs.length cap) = some g := by show (if cap = 0 then none else some g) = some g; rw [if_neg hcap]
      rw [this]; exact g2
     ·rw [← e1] at hb'
      exact hb'
    ·have hr := run_append_grow (P := Tryz.prog) w 47 ty 3 i _ el_int.under i1 i2 ⟨g, 0, none⟩ xs.length cap (xs.map vi) (by simp [i3]) (fun j u hj => by
      have hc : RowAt w g 3 (xs.map vi) := ⟨cur, hg, cur.toList.drop (xs.length * 1), by rw [← h4, List.take_append_drop]⟩
      rw [add_none, Nat.zero_add]; exact hc.cell hj) ⟨b, off, none⟩ m c (ys.map vi) hl' hyc' (by omega) (by omega) (growslice_fits (by omega) hby)
     rw [hr] at r2
     have e := r2
     injection e with e1 e2
     refine ⟨v2, w2, by rw [hr, e1, e2], ho2, ?_, fun b' hb' => .inr ?_⟩
     ·rw [← e2]; exact grown_drew_alloc _ _ _
     ·rw [← e1] at hb'; exact rowOf_new _ _ _ _ hb'
  ·have hr := run_append_grow (P := Tryz.prog) w 47 ty 3 i _ el_int.under i1 i2 p 0 0 [] (by simp) (fun j u hj => by simp at hj) ⟨b, off, none⟩ m c (ys.map vi) hl' hyc' (by omega) (by omega) (growslice_fits (by omega) (by simpa using hby))
   refine ⟨v1, w1, ?_, .inl (by simpa [hm] using o1), ?_, fun b' hb' => .inr ?_⟩
   ·rw [hr, hv1.1, hv1.2]
    simp
   ·rw [hv1.2]; exact grown_drew_alloc _ _ _
   ·rw [hv1.1] at hb'; exact rowOf_new _ _ _ _ hb'
section
variable {w : World} {ops : Array Oper} {rest : List Oper} {o : Oper} {act : Act} {Q : Exit → Act → World → Prop}
theorem wpList_append_ownI {s x : Operand} {v : Value} {xs ys : List Nat} {a : Option Addr} {m c : Nat} (h : OwnI w v xs) (hy : Cells w a (ys.map vi)) (hm : ys.length = m) (hn : xs.length + m ≤ 1000000000000)
  (hgd : o.guard = none) (ho : o.op = .call { callee := .builtin .append, args := #[s, x], argTypes := #[47, 47] })
  (hs : act.eval s = v) (hx : act.eval x = .slice a m c)
  (hK : ∀ v' w', OwnI w' v' (xs ++ ys) → w.grownBy w' (rowOf v) → (∀ b, rowOf v' = some b → rowOf v = some b ∨ b = w.heap.size) → wpList Tryz.prog ops Q rest (act.put o.dst v') w') :
  wpList Tryz.prog ops Q (o :: rest) act w := by
 obtain ⟨v', w', hr, h1, h2, h3⟩ := run_append_ownI (c := c) o.type h hy hm hn
 refine wpList_plain hgd fun K hK' => ?_
 unfold Oper.wp
 simp [execOp, ho, resolve, invoke, builtin, hs, hx, hr, Result.andThen]
 exact hK' _ _ (hK v' w' h1 h2 h3)
theorem wpList_append_newI {s x : Operand} {wa : World} {v : Value} {xs ys : List Nat} {a : Option Addr} {m c B : Nat} (h : OwnI wa v xs) (hb : Below wa.heap.size wa w) (hrow : ∀ b, rowOf v = some b → B ≤ b) (hB : B ≤ w.heap.size) (hy : Cells w a (ys.map vi)) (hm : ys.length = m) (hn : xs.length + m ≤ 1000000000000)
  (hgd : o.guard = none) (ho : o.op = .call { callee := .builtin .append, args := #[s, x], argTypes := #[47, 47] })
  (hs : act.eval s = v) (hx : act.eval x = .slice a m c)
  (hK : ∀ v' w', OwnI w' v' (xs ++ ys) → Below B w w' → (∀ b, rowOf v' = some b → B ≤ b) → wpList Tryz.prog ops Q rest (act.put o.dst v') w') :
  wpList Tryz.prog ops Q (o :: rest) act w := by
 refine wpList_append_ownI (h.keep (fun b hb' => hb.block b (h.lt b hb'))) hy hm hn hgd ho hs hx fun v' w' h1 h2 h3 => hK v' w' h1 ?_ ?_
 ·exact ⟨h2.os, h2.tape, h2.output, h2.size, fun k hk => h2.block k (by omega) (fun e => by have := hrow k e.symm; omega)⟩
 ·intro b hb'
  rcases h3 b hb' with c | c
  ·exact hrow b c
  ·omega
end
theorem OwnI.cut {w : World} {xs : List Nat} {a : Option Addr} {c : Nat} (h : OwnI w (.slice a xs.length c) xs) {n : Nat} (hn : n ≤ xs.length) : OwnI w (.slice a n c) (xs.take n) := by
 have hl : (xs.take n).length = n := by rw [List.length_take]; omega
 rcases h with h | ⟨p, h, rfl⟩
 ·rcases h.2 with ⟨e, h0⟩ | ⟨g, cap, cur, e, hb, hg, h1, h2, h3, h4⟩
  ·have hx : xs = [] := List.length_eq_zero_iff.1 h0
   subst hx
   cases e
   obtain rfl : n = 0 := by simpa using hn
   exact .inl ⟨rfl, .inl ⟨rfl, rfl⟩⟩
  ·cases e
   refine .inl ⟨by simp, .inr ⟨g, c, cur, by rw [hl], hb, hg, by rw [hl]; omega, h2, h3, ?_⟩⟩
   rw [hl, List.map_take, ← h4, List.take_take]
   congr 1; omega
 ·cases h
  obtain rfl : n = 0 := by simpa using hn
  exact .inr ⟨p, rfl, rfl⟩
theorem OwnI.cutN {w : World} {xs : List Nat} {a : Option Addr} {c l : Nat} (h : OwnI w (.slice a l c) xs) (hl : l = xs.length) {n : Nat} (hn : n ≤ l) : OwnI w (.slice a n c) (xs.take n) := by
 subst hl; exact h.cut hn
theorem rowOf_cut (a : Option Addr) (n m c : Nat) : rowOf (.slice a n c) = rowOf (.slice a m c) := by cases a <;> rfl
end Go.Proofs.YtpopbfagliagnaaGreat
namespace Go.Proofs.YtpopbfagliagnaaGreat
open Go.RowKit
inductive Tr where
 | nil
 | fl (ks : List Nat) (t : Tr)
 | pu (ks : List Nat) (t : Tr)
 | sq (ks : List Nat) (lo : Bool) (t : Tr)
 | br (k1 : Nat) (lo1 : Bool) (t1 : Tr) (k2 : Nat) (lo2 : Bool) (t2 : Tr)
inductive TrO where
 | nil
 | fl (os : List Oper) (t : TrO)
 | pu (os : List Oper) (t : TrO)
 | sq (os : List Oper) (lo : Bool) (t : TrO)
 | br (os1 : List Oper) (lo1 : Bool) (t1 : TrO) (os2 : List Oper) (lo2 : Bool) (t2 : TrO)
def isLoad : Op → Bool
 | .load .. => true
 | _ => false
section
variable {P : Program} {ops : Array Oper} {md : Region.Mode} {C : World → Prop} {Q : Exit → Act → World → Prop}
theorem wpAnyF_pure {loose : Nat → Bool} {i : Nat} {oi : Oper} {v : Value} (hi : ops[i]? = some oi) (hsel : ∀ (j : Nat) (o : Oper) cs b, ops[j]? = some o → o.op ≠ .select cs b)
  (hQ : ∀ c a d v w, Q (.panic c) (a.put d v) w → Q (.panic c) a w) (hlo : loose i = false) :
  ∀ (fuel : Nat) (listed : Array Bool) (a : Act) (w : World),
   (∀ j oj, ops[j]? = some oj → j ≠ i → listed.getD j true = false → (∀ e ∈ oj.after, Region.binds md e = true → e.on ≠ i) → oi.apart ops oj = true) →
   i ∈ Region.ready md ops listed → Stays P ops (fun _ => True) oi v a →
   wpAnyF P md ops Q C loose fuel (listed.setIfInBounds i true) (a.put oi.dst v) w → wpAnyF P md ops Q C loose (fuel + 1) listed a w := by
 intro fuel
 induction fuel with
 | zero =>
  intro listed a w _ hr hy H
  refine ⟨fun h => (by rw [h] at hr; cases hr), fun j hj => ?_⟩
  by_cases hji : j = i
  ·subst hji; exact hy.wpOp hi trivial ⟨fun h => (by rw [hlo] at h; cases h), H⟩
  ·have := ready_mono hj hji
   rw [H.1] at this
   cases this
 | succ fuel ih =>
  intro listed a w hfree hr hy H
  refine ⟨fun h => (by rw [h] at hr; cases hr), fun j hj => ?_⟩
  by_cases hji : j = i
  ·subst hji; exact hy.wpOp hi trivial ⟨fun h => (by rw [hlo] at h; cases h), H⟩
  ·have h1 := H.2 j (ready_mono hj hji)
   obtain ⟨hjun, oj, hoj, hall⟩ := mem_ready.1 hj
   have hiun : listed.getD i false = false := by
    have h0 := (mem_ready.1 hr).1
    rcases Nat.lt_or_ge i listed.size with h' | h'
    ·simp [h'] at h0 ⊢; exact h0
    ·simp [Array.getElem?_eq_none h']
   have hnot : ∀ e ∈ oj.after, Region.binds md e = true → e.on ≠ i := fun e he hb heq => by
    have h1 := hall e he hb
    rw [heq, hiun] at h1
    cases h1
   have h2 := wpOp_putF (C := fun _ => True) hoj (hfree j oj hoj hji hjun hnot) (fun cs b => hsel i oi cs b hi) (fun cs b => hsel j oj cs b hoj) hQ hy h1
   have hun' : ∀ k, (listed.setIfInBounds j true).getD k true = false → listed.getD k true = false := fun k hun => by
    by_cases hjk : j = k
    ·subst hjk; exact hjun
    ·rw [getD_set_ne true hjk] at hun; exact hun
   refine wpOp_mono (fun a' w' h3 => ⟨h3.2.1, ih (listed.setIfInBounds j true) a' w' (fun k ok hk hki hun hno => hfree k ok hk hki (hun' k hun) hno) (ready_mono hr (Ne.symm hji)) h3.1 ?_⟩) h2
   rw [Array.setIfInBounds_comm _ _ hji]
   exact h3.2.2
def looseL (md : Region.Mode) (ops : Array Oper) (j : Nat) : Bool :=
 (List.range ops.size).any fun i => i != j && (match ops[i]? with | some o => isLoad o.op | none => false) && !waitsFor md ops ops.size j i && !waitsFor md ops ops.size i j
def flL (md : Region.Mode) (ops : Array Oper) : List Nat → Array Bool → Bool × Array Bool
 | [], listed => (true, listed)
 | k :: ks, listed => match ops[k]? with
  | none => (false, listed)
  | some o => let r := flL md ops ks (listed.setIfInBounds k true)
   (calm o.op && (Region.ready md ops listed).contains k && Region.free md ops listed k && ((List.range ops.size).all fun j => j == k || listed.getD j true || waitsFor md ops ops.size j k || looseL md ops j) && r.1, r.2)
def puL (md : Region.Mode) (ops : Array Oper) : List Nat → Array Bool → Bool × Array Bool
 | [], listed => (true, listed)
 | k :: ks, listed => match ops[k]? with
  | none => (false, listed)
  | some o => let r := puL md ops ks (listed.setIfInBounds k true)
   (calm o.op && (Region.ready md ops listed).contains k && Region.free md ops listed k && !looseL md ops k && r.1, r.2)
def sqL (md : Region.Mode) (ops : Array Oper) (lo : Bool) : List Nat → Array Bool → Bool × Array Bool
 | [], listed => (true, listed)
 | k :: ks, listed => match ops[k]? with
  | none => (false, listed)
  | some _ => let r := sqL md ops lo ks (listed.setIfInBounds k true)
   (Region.ready md ops listed == [k] && (!looseL md ops k || (lo && ks.isEmpty)) && r.1, r.2)
def trLen : Tr → Nat
 | .nil => 0
 | .fl ks t => trLen t + ks.length
 | .pu ks t => trLen t + ks.length
 | .sq ks _ t => trLen t + ks.length
 | .br _ _ t1 _ _ _ => trLen t1 + 1
def trL (md : Region.Mode) (ops : Array Oper) : Tr → Array Bool → Bool
 | .nil, listed => (Region.ready md ops listed).isEmpty
 | .fl ks t, listed => let x := flL md ops ks listed; x.1 && trL md ops t x.2
 | .pu ks t, listed => let x := puL md ops ks listed; x.1 && trL md ops t x.2
 | .sq ks lo t, listed => let x := sqL md ops lo ks listed; x.1 && trL md ops t x.2
 | .br k1 lo1 t1 k2 lo2 t2, listed => Region.ready md ops listed == [k1, k2] && (!looseL md ops k1 || lo1) && (!looseL md ops k2 || lo2) && trLen t1 == trLen t2 && (ops[k1]?).isSome && (ops[k2]?).isSome &&
   trL md ops t1 (listed.setIfInBounds k1 true) && trL md ops t2 (listed.setIfInBounds k2 true)
def trB (md : Region.Mode) (ops : Array Oper) (t : Tr) : Bool := Region.noSelect ops && trLen t == ops.size && trL md ops t (Array.replicate ops.size false)
def trO (l : List Oper) : Tr → TrO
 | .nil => .nil
 | .fl ks t => .fl (picks l ks) (trO l t)
 | .pu ks t => .pu (picks l ks) (trO l t)
 | .sq ks lo t => .sq (picks l ks) lo (trO l t)
 | .br k1 lo1 t1 k2 lo2 t2 => .br (picks l [k1]) lo1 (trO l t1) (picks l [k2]) lo2 (trO l t2)
def wpTr (P : Program) (ops : Array Oper) (C : World → Prop) (Q : Exit → Act → World → Prop) : TrO → Act → World → Prop
 | .nil, a, w => Q .normal a w
 | .fl os t, a, w => C w ∧ wpQuiet P ops C (fun a' => wpTr P ops C Q t a' w) os a
 | .pu os t, a, w => wpQuiet P ops (fun _ => True) (fun a' => wpTr P ops C Q t a' w) os a
 | .sq os lo t, a, w => wpList P ops (Exit.then (fun a' w' => (lo = true → C w') ∧ wpTr P ops C Q t a' w') Q) os a w
 | .br os1 lo1 t1 os2 lo2 t2, a, w => wpList P ops (Exit.then (fun a' w' => (lo1 = true → C w') ∧ wpTr P ops C Q t1 a' w') Q) os1 a w ∧ wpList P ops (Exit.then (fun a' w' => (lo2 = true → C w') ∧ wpTr P ops C Q t2 a' w') Q) os2 a w
theorem stays_of {C : World → Prop} {o : Oper} {a : Act} {K : Act → Prop} {ks : List Oper} (hcalm : calm o.op = true) (h : wpQuiet P ops C K (o :: ks) a) : ∃ v, Stays P ops C o v a ∧ wpQuiet P ops C K ks (a.put o.dst v) := by
 simp only [wpQuiet] at h
 by_cases hw : Region.wanted o (yielded ops a.tmps) = true
 ·rw [if_pos hw] at h
  obtain ⟨v, h1, h2⟩ := h
  refine ⟨v, .inl ⟨hw, fun x hx => ?_⟩, h2⟩
  have h3 := h1 x hx
  unfold Oper.quietAt at h3
  cases hq : (execOp a.eval o).run P x with
  | ok nx w2 =>
   obtain ⟨u, rfl⟩ := calm_value hcalm hq
   rw [hq] at h3
   simp only [Oper.quietUpon] at h3
   rw [h3.1, h3.2]
  | halt x' w2 => rw [hq] at h3; simp only [Oper.quietUpon] at h3
 ·rw [if_neg hw] at h
  exact ⟨undef, .inr ⟨by simpa using hw, rfl⟩, h⟩
theorem flL_ok (hs : Region.noSelect ops = true) (hQ : ∀ c a d v w, Q (.panic c) (a.put d v) w → Q (.panic c) a w) {m : Nat} {R : Act → Prop} {w : World} (hC : C w) : ∀ (ks : List Nat) (listed : Array Bool) (a : Act), Shut md ops listed → (flL md ops ks listed).1 = true →
  (∀ a', Shut md ops (flL md ops ks listed).2 → R a' → wpAnyF P md ops Q C (looseL md ops) m (flL md ops ks listed).2 a' w) →
  wpQuiet P ops C R (picks ops.toList ks) a → wpAnyF P md ops Q C (looseL md ops) (m + ks.length) listed a w := by
 intro ks
 induction ks with
 | nil =>
  intro listed a hsh _ hR h
  exact hR a hsh (by simpa [picks, wpQuiet] using h)
 | cons k ks ih =>
  intro listed a hsh hB hR h
  cases hk : ops[k]? with
  | none => simp [flL, hk] at hB
  | some o =>
   have e : picks ops.toList (k :: ks) = o :: picks ops.toList ks := by simp [picks, hk]
   rw [e] at h
   simp only [flL, hk, Bool.and_eq_true] at hB hR
   obtain ⟨⟨⟨⟨hc, hr⟩, hf⟩, hlo⟩, hB'⟩ := hB
   have hrk : k ∈ Region.ready md ops listed := by simpa using hr
   obtain ⟨v, hy, hK⟩ := stays_of hc h
   refine wpAnyF_early (f := ops.size) hk (Region.noSelect_spec hs) hQ (m + ks.length) listed a w ?_ (Region.free_spec hk hf) hrk hsh hy hC (ih _ _ (hsh.set hrk) hB' hR hK)
   intro j oj hj hjk hun
   simp only [List.all_eq_true, List.mem_range, Bool.or_eq_true, beq_iff_eq] at hlo
   rcases hlo j (Array.getElem?_eq_some_iff.1 hj).1 with ((h | h) | h) | h
   ·exact absurd h hjk
   ·rw [hun] at h; cases h
   ·exact .inl h
   ·exact .inr h
theorem puL_ok (hs : Region.noSelect ops = true) (hQ : ∀ c a d v w, Q (.panic c) (a.put d v) w → Q (.panic c) a w) {m : Nat} {R : Act → Prop} {w : World} : ∀ (ks : List Nat) (listed : Array Bool) (a : Act), Shut md ops listed → (puL md ops ks listed).1 = true →
  (∀ a', Shut md ops (puL md ops ks listed).2 → R a' → wpAnyF P md ops Q C (looseL md ops) m (puL md ops ks listed).2 a' w) →
  wpQuiet P ops (fun _ => True) R (picks ops.toList ks) a → wpAnyF P md ops Q C (looseL md ops) (m + ks.length) listed a w := by
 intro ks
 induction ks with
 | nil =>
  intro listed a hsh _ hR h
  exact hR a hsh (by simpa [picks, wpQuiet] using h)
 | cons k ks ih =>
  intro listed a hsh hB hR h
  cases hk : ops[k]? with
  | none => simp [puL, hk] at hB
  | some o =>
   have e : picks ops.toList (k :: ks) = o :: picks ops.toList ks := by simp [picks, hk]
   rw [e] at h
   simp only [puL, hk, Bool.and_eq_true, Bool.not_eq_true'] at hB hR
   obtain ⟨⟨⟨⟨hc, hr⟩, hf⟩, hlo⟩, hB'⟩ := hB
   have hrk : k ∈ Region.ready md ops listed := by simpa using hr
   obtain ⟨v, hy, hK⟩ := stays_of hc h
   exact wpAnyF_pure hk (Region.noSelect_spec hs) hQ hlo (m + ks.length) listed a w (Region.free_spec hk hf) hrk hy (ih _ _ (hsh.set hrk) hB' hR hK)
theorem oneL_ok {m : Nat} {lo : Bool} {R : Act → World → Prop} {k : Nat} {o : Oper} (hk : ops[k]? = some o) {L : Array Bool} {a : Act} {w : World} (hlo : looseL md ops k = true → lo = true)
  (hR : ∀ a' w', (lo = true → C w') → R a' w' → wpAnyF P md ops Q C (looseL md ops) m L a' w')
  (h : wpList P ops (Exit.then (fun a' w' => (lo = true → C w') ∧ R a' w') Q) [o] a w) : wpOp P ops Q k (fun a' w' => (looseL md ops k = true → C w') ∧ wpAnyF P md ops Q C (looseL md ops) m L a' w') a w := by
 unfold wpOp
 simp only [hk]
 unfold wpList at h
 have hmono : ∀ a' w', wpList P ops (Exit.then (fun a' w' => (lo = true → C w') ∧ R a' w') Q) [] a' w' → (looseL md ops k = true → C w') ∧ wpAnyF P md ops Q C (looseL md ops) m L a' w' := by
  intro a' w' h'
  have h' : (lo = true → C w') ∧ R a' w' := by simpa [wpList, Exit.then] using h'
  exact ⟨fun hl => h'.1 (hlo hl), hR a' w' h'.1 h'.2⟩
 by_cases hw : Region.wanted o (yielded ops a.tmps) = true
 ·rw [if_pos hw] at h ⊢
  rcases h with h | h
  ·refine .inl ?_
   have h := Oper.wp_mono hmono h
   unfold Oper.wp at *
   generalize (execOp a.eval o).run P w = r at *
   cases r with
   | ok n w' => cases n <;> simp only [Oper.upon] at h ⊢ <;> exact h
   | halt x w' => cases x <;> simp only [Oper.upon] at h ⊢ <;> exact h
  ·exact .inr h
 ·rw [if_neg hw] at h ⊢
  exact hmono _ _ h
theorem sqL_ok {m : Nat} {lo : Bool} {R : Act → World → Prop} : ∀ (ks : List Nat) (listed : Array Bool) (a : Act) (w : World), Shut md ops listed → (sqL md ops lo ks listed).1 = true →
  (∀ a' w', Shut md ops (sqL md ops lo ks listed).2 → (lo = true → C w') → R a' w' → wpAnyF P md ops Q C (looseL md ops) m (sqL md ops lo ks listed).2 a' w') →
  wpList P ops (Exit.then (fun a' w' => (lo = true → C w') ∧ R a' w') Q) (picks ops.toList ks) a w → wpAnyF P md ops Q C (looseL md ops) (m + ks.length) listed a w := by
 intro ks
 induction ks with
 | nil =>
  intro listed a w hsh _ hR h
  have h : (lo = true → C w) ∧ R a w := by simpa [picks, wpList, Exit.then] using h
  exact hR a w hsh h.1 h.2
 | cons k ks ih =>
  intro listed a w hsh hB hR h
  cases hk : ops[k]? with
  | none => simp [sqL, hk] at hB
  | some o =>
   have e : picks ops.toList (k :: ks) = o :: picks ops.toList ks := by simp [picks, hk]
   rw [e] at h
   simp only [sqL, hk, Bool.and_eq_true, beq_iff_eq] at hB hR
   obtain ⟨⟨hr, hlo⟩, hB'⟩ := hB
   have hrk : k ∈ Region.ready md ops listed := by rw [hr]; simp
   refine ⟨fun h' => (by rw [hr] at h'; cases h'), fun i hi => ?_⟩
   rw [hr] at hi
   obtain rfl : i = k := by simpa using hi
   unfold wpOp
   simp only [hk]
   unfold wpList at h
   have hmono : ∀ a' w', wpList P ops (Exit.then (fun a' w' => (lo = true → C w') ∧ R a' w') Q) (picks ops.toList ks) a' w' →
     (looseL md ops i = true → C w') ∧ wpAnyF P md ops Q C (looseL md ops) (m + ks.length) (listed.setIfInBounds i true) a' w' := by
    intro a' w' h'
    refine ⟨fun hl => ?_, ih _ _ _ (hsh.set hrk) hB' hR h'⟩
    simp only [hl, Bool.not_true, Bool.false_or, Bool.and_eq_true, List.isEmpty_iff] at hlo
    obtain ⟨hlo1, rfl⟩ := hlo
    have h' : (lo = true → C w') ∧ R a' w' := by simpa [picks, wpList, Exit.then] using h'
    exact h'.1 hlo1
   by_cases hw : Region.wanted o (yielded ops a.tmps) = true
   ·rw [if_pos hw] at h ⊢
    rcases h with h | h
    ·refine .inl ?_
     have h := Oper.wp_mono hmono h
     unfold Oper.wp at *
     generalize (execOp a.eval o).run P w = r at *
     cases r with
     | ok n w' => cases n <;> simp only [Oper.upon] at h ⊢ <;> exact h
     | halt x w' => cases x <;> simp only [Oper.upon] at h ⊢ <;> exact h
    ·exact .inr h
   ·rw [if_neg hw] at h ⊢
    exact hmono _ _ h
theorem tr_ok (hs : Region.noSelect ops = true) (hQ : ∀ c a d v w, Q (.panic c) (a.put d v) w → Q (.panic c) a w) : ∀ (t : Tr) (listed : Array Bool) (a : Act) (w : World), Shut md ops listed →
  trL md ops t listed = true → wpTr P ops C Q (trO ops.toList t) a w → wpAnyF P md ops Q C (looseL md ops) (trLen t) listed a w := by
 intro t
 induction t with
 | nil =>
  intro listed a w _ hB h
  exact ⟨by simpa [trL] using hB, by simpa [wpTr, trO] using h⟩
 | fl ks t ih =>
  intro listed a w hsh hB h
  simp only [trL, Bool.and_eq_true] at hB
  simp only [trO, wpTr] at h
  exact flL_ok hs hQ h.1 ks listed a hsh hB.1 (fun a' hsh' hR => ih _ a' w hsh' hB.2 hR) h.2
 | pu ks t ih =>
  intro listed a w hsh hB h
  simp only [trL, Bool.and_eq_true] at hB
  simp only [trO, wpTr] at h
  exact puL_ok hs hQ ks listed a hsh hB.1 (fun a' hsh' hR => ih _ a' w hsh' hB.2 hR) h
 | sq ks lo t ih =>
  intro listed a w hsh hB h
  simp only [trL, Bool.and_eq_true] at hB
  simp only [trO, wpTr] at h
  exact sqL_ok ks listed a w hsh hB.1 (fun a' w' hsh' _ hR => ih _ a' w' hsh' hB.2 hR) h
 | br k1 lo1 t1 k2 lo2 t2 ih1 ih2 =>
  intro listed a w hsh hB h
  simp only [trL, Bool.and_eq_true, beq_iff_eq] at hB
  obtain ⟨⟨⟨⟨⟨⟨⟨hr, hl1⟩, hl2⟩, hlen⟩, ho1⟩, ho2⟩, hB1⟩, hB2⟩ := hB
  obtain ⟨o1, ho1⟩ := Option.isSome_iff_exists.1 ho1
  obtain ⟨o2, ho2⟩ := Option.isSome_iff_exists.1 ho2
  simp only [trO, wpTr] at h
  have e1 : picks ops.toList [k1] = [o1] := by simp [picks, ho1]
  have e2 : picks ops.toList [k2] = [o2] := by simp [picks, ho2]
  rw [e1, e2] at h
  refine ⟨fun h' => (by rw [hr] at h'; cases h'), fun i hi => ?_⟩
  have hri := hi
  rw [hr] at hi
  simp only [List.mem_cons, List.not_mem_nil, or_false] at hi
  rcases hi with rfl | rfl
  ·exact oneL_ok ho1 (fun hl => by simpa [hl] using hl1) (fun a' w' _ hR => ih1 _ a' w' (hsh.set hri) hB1 hR) h.1
  ·exact oneL_ok ho2 (fun hl => by simpa [hl] using hl2) (fun a' w' _ hR => by have := ih2 _ a' w' (hsh.set hri) hB2 hR; rw [← hlen] at this; exact this) h.2
theorem wp_region_tr {id : Nat} {a : Act} {w : World} {l : List Oper} (t : Tr) (hm : P.follows .mixedOrders = true) (hB : trB .any l.toArray t = true)
  (hQ : ∀ c a d v w, Q (.panic c) (a.put d v) w → Q (.panic c) a w)
  (h : wpTr P l.toArray C Q (trO l t) a w.drew) : (Code.region id l.toArray true).wp P Q a w := by
 simp only [trB, Bool.and_eq_true, beq_iff_eq] at hB
 refine wp_region_any hm (wpAny_of_F (C := C) (loose := looseL .any l.toArray) _ _ _ _ ?_)
 have := tr_ok (md := .any) (C := C) hB.1.1 hQ t (Array.replicate l.toArray.size false) a w.drew (shut_none _) hB.2 h
 rw [hB.1.2] at this
 exact this
theorem wpTr_fl {os : List Oper} {t : TrO} {a : Act} {w : World} (hC : C w) (h : wpQuiet P ops C (fun a' => wpTr P ops C Q t a' w) os a) : wpTr P ops C Q (.fl os t) a w := ⟨hC, h⟩
theorem wpTr_pu {os : List Oper} {t : TrO} {a : Act} {w : World} (h : wpQuiet P ops (fun _ => True) (fun a' => wpTr P ops C Q t a' w) os a) : wpTr P ops C Q (.pu os t) a w := h
theorem wpTr_sq {os : List Oper} {lo : Bool} {t : TrO} {a : Act} {w : World}
  (h : ∀ K : Act → World → Prop, (∀ a' w', (lo = true → C w') → wpTr P ops C Q t a' w' → K a' w') → wpList P ops (Exit.then K Q) os a w) : wpTr P ops C Q (.sq os lo t) a w :=
 h _ (fun _ _ h1 h2 => ⟨h1, h2⟩)
theorem wpTr_br {os1 os2 : List Oper} {lo1 lo2 : Bool} {t1 t2 : TrO} {a : Act} {w : World} (h1 : wpTr P ops C Q (.sq os1 lo1 t1) a w) (h2 : wpTr P ops C Q (.sq os2 lo2 t2) a w) : wpTr P ops C Q (.br os1 lo1 t1 os2 lo2 t2) a w := ⟨h1, h2⟩
theorem wpTr_last {os : List Oper} {a : Act} {w : World} (h : wpList P ops Q os a w) : wpTr P ops C Q (.sq os false .nil) a w := by
 unfold wpTr
 have e : (fun a' w' => (false = true → C w') ∧ wpTr P ops C Q .nil a' w') = Q .normal := by
  funext a' w'
  simp [wpTr]
 rw [e, exit_then_self]
 exact h
end
end Go.Proofs.YtpopbfagliagnaaGreat
namespace Go.Proofs.YtpopbfagliagnaaGreat
open Go.RowKit Go.Maps
structure Step1 (w w' : World) (f mb n : Nat) (V : Nat → Value) (S S' : FL) (i : Nat) (v : Value) (xs : List Nat) : Prop where
 head : w'.heap[f]? = some (.cells ((List.range 32).map (fun j => if j = i then v else V j) ++ [Value.map (some mb)]).toArray 334 (0, 0))
 map : ∃ M, VMap Tryz.prog 336 w' mb n M ∧ ∀ m k : Nat, m < 4 → k < 32 → (M (pairKey m k)).getD (.slice none 0 0) = if slotI m k = i then v else V (slotI m k)
 own : OwnI w' v xs
 row : ∀ b, rowOf v = some b → rowOf (V i) = some b ∨ w.heap.size ≤ b
 rest : ∀ b, b < w.heap.size → b ≠ f → b ≠ mb → rowOf (V i) ≠ some b → w'.heap[b]? = w.heap[b]?
 size : w.heap.size ≤ w'.heap.size
 lists : ∀ j, j < 160 → S'.at j = if j = i then xs else S.at j
theorem FreeIn.step {w w' : World} {f mb n n' : Nat} {R : List Nat} {V : Nat → Value} {S S' : FL} {i : Nat} {v : Value} {xs : List Nat} (h : FreeIn w f mb n V S) (hi : i < 160)
  (h1 : f ∈ R) (h2 : mb ∈ R) (h3 : ∀ b ∈ R, b < w.heap.size) (h4 : ∀ j, j < 160 → ∀ b, rowOf (V j) = some b → b ∈ R) (t : Step1 w w' f mb n' V S S' i v xs) :
  FreeIn w' f mb n' (fun j => if j = i then v else V j) S' ∧ FreeAt w' f mb n' (R ++ (rowOf v).toList) S' := by
 obtain ⟨M, hm, hv⟩ := t.map
 have hfl := h3 f h1
 have hml := h3 mb h2
 have hnew : ∀ b, rowOf v = some b → b < w'.heap.size := t.own.lt
 have key : FreeIn w' f mb n' (fun j => if j = i then v else V j) S' := by
  refine ⟨t.head, ⟨M, hm, hv⟩, fun j hj => ?_, fun j k hj hk hne b hb => ?_, fun j hj => ?_, h.ne⟩
  ·rw [t.lists j hj]
   by_cases e : j = i
   ·rw [if_pos e, if_pos e]; exact t.own
   ·rw [if_neg e, if_neg e]
    refine (h.rows j hj).keep fun b hb => t.rest b (h3 b (h4 j hj b hb)) (fun e2 => (h.neF j hj).1 (e2 ▸ hb)) (fun e2 => (h.neF j hj).2 (e2 ▸ hb)) (h.apart j i hj hi e b hb)
  ·by_cases e1 : j = i
   ·rw [if_pos e1] at hb
    rw [if_neg (fun c => hne (e1.trans c.symm))]
    rcases t.row b hb with hb | hb
    ·exact fun c => h.apart i k hi hk (fun c => hne (e1.trans c)) b hb c
    ·exact fun c => by have := h3 b (h4 k hk b c); omega
   ·rw [if_neg e1] at hb
    by_cases e2 : k = i
    ·rw [if_pos e2]
     intro c
     rcases t.row b c with c | c
     ·exact h.apart j i hj hi e1 b hb c
     ·have := h3 b (h4 j hj b hb); omega
    ·rw [if_neg e2]
     exact h.apart j k hj hk hne b hb
  ·by_cases e : j = i
   ·rw [if_pos e]
    refine ⟨fun c => ?_, fun c => ?_⟩
    ·rcases t.row f c with c | c
     ·exact (h.neF i hi).1 c
     ·omega
    ·rcases t.row mb c with c | c
     ·exact (h.neF i hi).2 c
     ·omega
   ·rw [if_neg e]; exact h.neF j hj
 refine ⟨key, _, key, List.mem_append_left _ h1, List.mem_append_left _ h2, fun b hb => ?_, fun j hj b hb => ?_⟩
 ·rcases List.mem_append.1 hb with hb | hb
  ·exact Nat.lt_of_lt_of_le (h3 b hb) t.size
  ·exact hnew b (by simpa using hb)
 ·by_cases e : j = i
  ·rw [if_pos e] at hb
   exact List.mem_append_right _ (by simp [hb])
  ·rw [if_neg e] at hb
   exact List.mem_append_left _ (h4 j hj b hb)
structure FreeV (w : World) (f mb n : Nat) (V : Nat → Value) (R : List Nat) (S : FL) : Prop where
 inn : FreeIn w f mb n V S
 f : f ∈ R
 mb : mb ∈ R
 lt : ∀ b ∈ R, b < w.heap.size
 rows : ∀ j, j < 160 → ∀ b, rowOf (V j) = some b → b ∈ R
theorem FreeV.at {w : World} {f mb n : Nat} {V : Nat → Value} {R : List Nat} {S : FL} (h : FreeV w f mb n V R S) : FreeAt w f mb n R S := ⟨V, h.inn, h.f, h.mb, h.lt, h.rows⟩
theorem FreeAt.v {w : World} {f mb n : Nat} {R : List Nat} {S : FL} (h : FreeAt w f mb n R S) : ∃ V, FreeV w f mb n V R S := by
 obtain ⟨V, h1, h2, h3, h4, h5⟩ := h
 exact ⟨V, h1, h2, h3, h4, h5⟩
theorem FreeV.below {w w' : World} {f mb n : Nat} {V : Nat → Value} {R : List Nat} {S : FL} (h : FreeV w f mb n V R S) (hb : Below w.heap.size w w') : FreeV w' f mb n V R S := by
 have hk : ∀ k ∈ R, w'.heap[k]? = w.heap[k]? := fun k hk => hb.block k (h.lt k hk)
 obtain ⟨M, hm, hv⟩ := h.inn.map
 exact ⟨⟨(hk f h.f).trans h.inn.head, ⟨M, hm.block (hk mb h.mb), hv⟩, fun i hi' => (h.inn.rows i hi').keep fun b hb => hk b (h.rows i hi' b hb), h.inn.apart, h.inn.neF, h.inn.ne⟩, h.f, h.mb, fun b hb' => Nat.lt_of_lt_of_le (h.lt b hb') hb.size, h.rows⟩
theorem FreeV.step {w w' : World} {f mb n n' : Nat} {R : List Nat} {V : Nat → Value} {S S' : FL} {i : Nat} {v : Value} {xs : List Nat} (h : FreeV w f mb n V R S) (hi : i < 160) (t : Step1 w w' f mb n' V S S' i v xs) :
  FreeV w' f mb n' (fun j => if j = i then v else V j) (R ++ (rowOf v).toList) S' := by
 obtain ⟨k1, k2⟩ := h.inn.step hi h.f h.mb h.lt h.rows t
 refine ⟨k1, List.mem_append_left _ h.f, List.mem_append_left _ h.mb, k2.mem, fun j hj b hb => ?_⟩
 by_cases e : j = i
 ·rw [if_pos e] at hb
  exact List.mem_append_right _ (by simp [hb])
 ·rw [if_neg e] at hb
  exact List.mem_append_left _ (h.rows j hj b hb)
def FreeGo (w w' : World) (f mb n : Nat) (R : List Nat) (S : FL) : Prop := ∃ R', FreeAt w' f mb n R' S ∧ Touch R w w' ∧ ∀ b ∈ R', b ∈ R ∨ w.heap.size ≤ b
theorem FreeGo.refl {w : World} {f mb n : Nat} {R : List Nat} {S : FL} (h : FreeAt w f mb n R S) : FreeGo w w f mb n R S := ⟨R, h, Touch.refl _ _, fun _ h => .inl h⟩
theorem FreeGo.later {w w1 w2 : World} {f mb n : Nat} {R : List Nat} {S : FL} (h : FreeGo w w1 f mb n R S) (hb : Below w1.heap.size w1 w2) : FreeGo w w2 f mb n R S := by
 obtain ⟨R', h1, h2, h3⟩ := h
 exact ⟨R', h1.below hb, h2.later hb, h3⟩
theorem FreeGo.mono {w w1 : World} {f mb n n' : Nat} {R : List Nat} {S : FL} (h : FreeGo w w1 f mb n R S) (hn : n ≤ n') : FreeGo w w1 f mb n' R S := by
 obtain ⟨R', h1, h2, h3⟩ := h
 exact ⟨R', h1.mono hn, h2, h3⟩
theorem Touch.join {R R' : List Nat} {w w1 w2 : World} (h : Touch R w w1) (k : Touch R' w1 w2) (hR : ∀ b ∈ R', b ∈ R ∨ w.heap.size ≤ b) : Touch R w w2 :=
 h.own k (fun b hb => (hR b hb).symm)
theorem FreeGo.trans {w w1 w2 : World} {f mb n : Nat} {R R1 : List Nat} {S : FL} (h1 : Touch R w w1) (h2 : ∀ b ∈ R1, b ∈ R ∨ w.heap.size ≤ b) (h : FreeGo w1 w2 f mb n R1 S) : FreeGo w w2 f mb n R S := by
 obtain ⟨R', g1, g2, g3⟩ := h
 refine ⟨R', g1, h1.join g2 h2, fun b hb => ?_⟩
 rcases g3 b hb with c | c
 ·exact h2 b c
 ·exact .inr (Nat.le_trans h1.size c)
theorem Step1.go {w w' : World} {f mb n n' : Nat} {R : List Nat} {V : Nat → Value} {S S' : FL} {i : Nat} {v : Value} {xs : List Nat} (h : FreeIn w f mb n V S) (hi : i < 160)
  (h1 : f ∈ R) (h2 : mb ∈ R) (h3 : ∀ b ∈ R, b < w.heap.size) (h4 : ∀ j, j < 160 → ∀ b, rowOf (V j) = some b → b ∈ R) (t : Step1 w w' f mb n' V S S' i v xs) (ht : w'.os = w.os ∧ w'.tape = w.tape ∧ w'.output = w.output) :
  FreeGo w w' f mb n' R S' := by
 refine ⟨_, (h.step hi h1 h2 h3 h4 t).2, ⟨ht.1, ht.2.1, ht.2.2, t.size, fun b hb hn => t.rest b hb (fun e => hn (e ▸ h1)) (fun e => hn (e ▸ h2)) (fun e => hn (h4 i hi b e))⟩, fun b hb => ?_⟩
 rcases List.mem_append.1 hb with hb | hb
 ·exact .inl hb
 ·rcases t.row b (by simpa using hb) with c | c
  ·exact .inl (h4 i hi b c)
  ·exact .inr c
theorem Step1.touch {w w' : World} {f mb n n' : Nat} {R : List Nat} {V : Nat → Value} {S S' : FL} {i : Nat} {v : Value} {xs : List Nat} (h : FreeV w f mb n V R S) (hi : i < 160) (t : Step1 w w' f mb n' V S S' i v xs) (ht : w'.os = w.os ∧ w'.tape = w.tape ∧ w'.output = w.output) :
  Touch R w w' ∧ ∀ b ∈ R ++ (rowOf v).toList, b ∈ R ∨ w.heap.size ≤ b := by
 refine ⟨⟨ht.1, ht.2.1, ht.2.2, t.size, fun b hb hn => t.rest b hb (fun e => hn (e ▸ h.f)) (fun e => hn (e ▸ h.mb)) (fun e => hn (h.rows i hi b e))⟩, fun b hb => ?_⟩
 rcases List.mem_append.1 hb with hb | hb
 ·exact .inl hb
 ·rcases t.row b (by simpa using hb) with c | c
  ·exact .inl (h.rows i hi b c)
  ·exact .inr c
theorem FreeGo.more {w w1 w' : World} {f mb n n' : Nat} {R R1 : List Nat} {V : Nat → Value} {S S' : FL} {i : Nat} {v : Value} {xs : List Nat} (h0 : Touch R w w1) (h2 : ∀ b ∈ R1, b ∈ R ∨ w.heap.size ≤ b) (h : FreeV w1 f mb n V R1 S) (hi : i < 160) (t : Step1 w1 w' f mb n' V S S' i v xs) (ht : w'.os = w1.os ∧ w'.tape = w1.tape ∧ w'.output = w1.output) :
  FreeGo w w' f mb n' R S' := by
 obtain ⟨g1, g2⟩ := t.touch h hi ht
 refine ⟨_, (h.step hi t).at, h0.join g1 h2, fun b hb => ?_⟩
 rcases g2 b hb with c | c
 ·exact h2 b c
 ·exact .inr (Nat.le_trans h0.size c)
theorem step_g {w wd w1 : World} {f mb n : Nat} {R : List Nat} {V : Nat → Value} {S : FL} {k : Nat} {v : Value} {xs : List Nat} (hi : FreeIn w f mb n V S) (hk : k < 32)
  (h1 : f ∈ R) (h2 : mb ∈ R) (h3 : ∀ b ∈ R, b < w.heap.size) (hd : Below w.heap.size w wd) (hg : wd.grownBy w1 (rowOf (V k))) (hv : OwnI w1 v xs) (hrow : ∀ b, rowOf v = some b → rowOf (V k) = some b ∨ w.heap.size ≤ b) :
  Step1 w (w1.setCell ⟨f, k, none⟩ v) f mb n V S (S.setG k xs) k v xs := by
 have hfl := h3 f h1
 have hml := h3 mb h2
 obtain ⟨M, hm, hvv⟩ := hi.map
 have hb : ∀ b, b < w.heap.size → rowOf (V k) ≠ some b → w1.heap[b]? = w.heap[b]? := fun b hb hn => (hg.block b (Nat.lt_of_lt_of_le hb hd.size) (fun e => hn e.symm)).trans (hd.block b hb)
 have hf1 := (hb f hfl (hi.neF k (by omega)).1).trans hi.head
 have hne : ∀ b, rowOf v = some b → b ≠ f := fun b hb e => by
  subst e
  rcases hrow b hb with c | c
  ·exact (hi.neF k (by omega)).1 c
  ·omega
 refine ⟨?_, ⟨M, (hm.block ?_), fun m j hm4 hj => ?_⟩, hv.keep (fun b hb => Below.heap_setCell _ _ _ _ (hne b hb)), hrow, fun b hbl h5 h6 h7 => ?_, ?_, fun j hj => ?_⟩
 ·rw [heap_setCell_same w1 f k _ _ _ hf1]
  congr 2
  apply Array.ext'
  rw [Array.toList_setIfInBounds]
  simp only
  apply List.ext_getElem?
  intro t
  rw [List.getElem?_set]
  by_cases e : k = t
  ·subst e
   rw [if_pos rfl, if_pos (by simp; omega), List.getElem?_append_left (by simpa using hk)]
   simp [hk]
  ·rw [if_neg e]
   by_cases ht : t < 32
   ·rw [List.getElem?_append_left (by simpa using ht), List.getElem?_append_left (by simpa using ht)]
    have : ¬ t = k := fun c => e c.symm
    simp [ht, this]
   ·rw [List.getElem?_append_right (by simpa using ht), List.getElem?_append_right (by simpa using ht)]
    simp
 ·rw [Below.heap_setCell _ _ _ _ (fun e => hi.ne e.symm)]
  exact hb mb hml (hi.neF k (by omega)).2
 ·rw [hvv m j hm4 hj, if_neg (by unfold slotI; omega)]
 ·rw [Below.heap_setCell _ _ _ _ h5]
  exact hb b hbl h7
 ·have := hg.size; have := hd.size; simp; omega
 ·unfold FL.at
  simp only [FL.setG_g, FL.setG_c]
  by_cases e : j < 32
  ·rw [if_pos e, if_pos e]
  ·rw [if_neg e, if_neg e, if_neg (by omega)]
set_option maxHeartbeats 1000000 in
set_option maxRecDepth 20000 in
theorem fown_any {w : World} {f mb n : Nat} {R : List Nat} {S : FL} (h : FreeAt w f mb n R S) (m k : Nat) (hm4 : m < 4) (hk : k < 32) :
  Calls Tryz.prog 336 #[vfree f, .int .i64 (m : Int), .int .i64 (k : Int)] w (Same1 (.int .i64 ((S.c m k).length : Int)) w) := by
 obtain ⟨V, hi, _⟩ := h
 obtain ⟨M, hm, hv⟩ := hi.map
 have HM := LH hm
 have c32 := hi.m
 obtain ⟨ac, cc, ec, hcc, _, _⟩ := (hi.rows (slotI m k) (by unfold slotI; omega)).cells
 rw [S.at_c m hk] at ec
 have HVi := hv m k hm4 hk
 rw [ec] at HVi
 have HVi := LH HVi
 have hkey := key_slot (m : Int) (k : Int) (wf_small m (by omega)) (wf_small k (by omega))
 clear hi hm hv ec hcc
 generalize (S.c m k).length = l at *
 go_enter Tryz.func336, Tryz.ntmps336
 go_wp2_with (refine wpList_vlook rfl _ _ 332 rfl 336 47 keyed_slot Tryz.underlying332 _ (zero_ints _) mb n M rfl HM.out _ _ rfl hkey ?_; rw [HVi.out])
 go_ret
 exact ⟨rfl, rfl⟩
def FL.upto (S : FL) (N : Nat) : Prop := ∀ i, i < 160 → (S.at i).length ≤ N
theorem FL.upto.mono {S : FL} {N M : Nat} (h : S.upto N) (hN : N ≤ M) : S.upto M := fun i hi => Nat.le_trans (h i hi) hN
theorem FL.pushed_upto {S : FL} {N : Nat} (h : S.upto N) (k a : Nat) : (S.pushed k a).upto (N + 1) := by
 intro i hi
 have := h i hi
 unfold FL.pushed
 split
 ·omega
 ·unfold FL.at at this ⊢
  simp only [FL.setG_g, FL.setG_c]
  by_cases e : i < 32
  ·rw [if_pos e] at this ⊢
   split
   ·rename_i e2; subst e2; simp; omega
   ·omega
  ·rw [if_neg e] at this ⊢; omega
theorem grown_touchO {w w' : World} {row : Option Nat} (h : w.grownBy w' row) : Touch row.toList w w' :=
 ⟨h.os, h.tape, h.output, h.size, fun k hk hn => h.block k hk (fun e => hn (by rw [← e]; simp))⟩
def Pushed (w : World) (f mb n : Nat) (R : List Nat) (S : FL) (k a : Nat) : Ending → World → Prop := fun e w' => e = .returned (.int .i64 (if S.has k a then 41 else 0)) ∧ FreeGo w w' f mb n R (S.pushed k a)
set_option maxHeartbeats 2000000 in
set_option maxRecDepth 20000 in
theorem fpush_any {w : World} {f mb n : Nat} {R : List Nat} {S : FL} (h : FreeAt w f mb n R S) (hL : S.upto 1000000) (k a : Nat) (hk : k < 32) :
  Calls Tryz.prog 171 #[vfree f, .int .i64 (k : Int), .int .i64 (a : Int)] w (Pushed w f mb n R S k a) := by
 have HF := LH h
 have HHas := LH (fhas_any h hL k a hk)
 have HP : Hid (∀ x w', x = (if S.has k a then 41 else 0) → FreeGo w w' f mb n R (S.pushed k a) → Pushed w f mb n R S k a (.returned (.int .i64 x)) w') := LH (fun x w' h1 h2 => by subst h1; exact ⟨rfl, h2⟩)
 generalize Pushed w f mb n R S k a = Post at *
 obtain ⟨V, hi, h1, h2, h3, h4⟩ := h
 have HI := LH hi
 have HR1 := LH h1
 have HR2 := LH h2
 have HR3 := LH h3
 have HR4 := LH h4
 have ck := hi.g hk
 have HOwn := LH (hi.rows k (by omega))
 have HLk : Hid ((S.g k).length ≤ 1000000) := LH (by have := hL k (by omega); rwa [S.at_g hk] at this)
 clear hi h1 h2 h3 h4 hL
 go_enter Tryz.func171, Tryz.ntmps171
 go_wp2_with fail
 refine (cright_any _ _).mono ?_
 rintro e w1 ⟨rfl, rfl⟩
 rw [decide_eq_true (show (0 : Int) ≤ (k : Int) ∧ (k : Int) < 32 by omega)]
 go_wp2_with fail
 refine HHas.out.mono ?_
 rintro e w1 ⟨rfl, rfl⟩
 cases hh : S.has k a with
 | true =>
  have HE : Hid (41 = (if S.has k a then (41 : Int) else 0) ∧ FreeGo w w f mb n R (S.pushed k a)) := LH ⟨by rw [hh]; rfl, by unfold FL.pushed; rw [hh]; exact FreeGo.refl HF.out⟩
  clear hh
  go_wp2_with fail
  exact HP.out _ _ HE.out.1 HE.out.2
 | false =>
  have HE : Hid (0 = (if S.has k a then (41 : Int) else 0) ∧ S.pushed k a = S.setG k (S.g k ++ [a])) := LH ⟨by rw [hh]; rfl, by unfold FL.pushed; rw [hh]; rfl⟩
  clear hh
  go_upto_region 5 with fail
  have hfn : f ∉ (rowOf (V k)).toList := fun hm => (HI.out.neF k (by omega)).1 (by simpa using hm)
  have r0 := fun x => near_cell (L := (rowOf (V k)).toList) ck hfn x
  clear ck hfn
  have hC1 : ∃ x : Near (rowOf (V k)).toList w, w.drew = x.val := near_of (Touch.ofBelow (later_below (later_drew w)))
  have HD0 : Hid (Below w.heap.size w w.drew) := LH (later_below (later_drew w))
  refine wp_region_seg (C := fun w' => ∃ x : Near (rowOf (V k)).toList w, w' = x.val) [.fl [0, 1, 2, 3, 4, 5, 6, 7, 8, 11, 12], .sq [9] true, .sq [10] true, .sq [13, 14] false] (by kernel_rfl) (by kernel_rfl) (by intro c a d v w h; cases d <;> exact h) ?_
  simp only [segs, picks, List.getElem?_cons_succ, List.getElem?_cons_zero]
  refine wpSeg_fl hC1 ?_
  repeat (first | go_big_quiet_step (fail) | quiet_step (fail))
  refine wpQuiet_nil ?_
  clear r0
  generalize w.drew = wd at *
  refine wpSeg_sq (fun K hK => ?_)
  go_wp2_with fail
  have hbn := below_alloc wd (.cells #[.int .i64 (a : Int)] 3)
  have HB2 : Hid (Below w.heap.size w (wd.alloc (.cells #[.int .i64 (a : Int)] 3))) := LH (HD0.out.trans (hbn.mono HD0.out.size))
  have hC2 : ∃ x : Near (rowOf (V k)).toList w, wd.alloc (.cells #[.int .i64 (a : Int)] 3) = x.val := near_of (Touch.ofBelow HB2.out)
  have HC2 : Hid (Cells (wd.alloc (.cells #[.int .i64 (a : Int)] 3)) (some ⟨wd.heap.size, 0, none⟩) ([a].map vi)) := LH (RowAt.cells ⟨_, heap_alloc_new _ _, [], rfl⟩)
  clear hbn
  go_wp2_with fail
  refine hK _ _ (fun _ => hC2) ?_
  clear hK K
  obtain ⟨q, hq⟩ : ∃ q, q = wd.heap.size := ⟨_, rfl⟩
  rw [← hq] at HC2 ⊢
  clear hq
  generalize wd.alloc _ = we at *
  have HOe : Hid (OwnI we (V k) (S.g k)) := LH (by rw [← S.at_g hk]; exact HOwn.out.keep (fun b hb => HB2.out.block b (HR3.out b (HR4.out k (by omega) b hb))))
  have HN1 : Hid ((S.g k).length + 1 ≤ 1000000000000) := LH (by have := HLk.out; omega)
  refine wpSeg_sq (fun K hK => ?_)
  go_wp2_with (refine wpList_append_ownI (m := 1) HOe.out HC2.out rfl HN1.out rfl rfl rfl rfl ?_; intro v' w1 ho hg hr; have HO1 := LH ho; have HG1 := LH hg; have HR := LH hr; clear ho hg hr)
  have HT1 : Hid (Touch (rowOf (V k)).toList w w1) := LH ((Touch.ofBelow HB2.out).trans (grown_touchO HG1.out))
  have hC3 := near_of HT1.out
  go_wp2_with fail
  refine hK _ _ (fun _ => hC3) ?_
  clear hK K
  have hst := step_g HI.out hk HR1.out HR2.out HR3.out HB2.out HG1.out HO1.out (fun b hb => by
   rcases HR.out b hb with c | c
   ·exact .inl c
   ·exact .inr (by rw [c]; exact HB2.out.size))
  have HGo : Hid (FreeGo w (w1.setCell ⟨f, k, none⟩ v') f mb n R (S.pushed k a)) := LH (by
   rw [HE.out.2]
   exact hst.go HI.out (by omega) HR1.out HR2.out HR3.out HR4.out ⟨HG1.out.os.trans HB2.out.os, HG1.out.tape.trans HB2.out.tape, HG1.out.output.trans HB2.out.output⟩)
  have HE0 := LH HE.out.1
  have HF1 : Hid (w1.heap[f]? = some (.cells ((List.range 32).map V ++ [Value.map (some mb)]).toArray 334 (0, 0))) := LH (by
   have := (HG1.out.block f (Nat.lt_of_lt_of_le (HR3.out f HR1.out) HB2.out.size) (fun e => (HI.out.neF k (by omega)).1 e.symm)).trans (HB2.out.block f (HR3.out f HR1.out))
   exact this.trans HI.out.head)
  have fr : w1.frozen? ⟨f, k, none⟩ = false := frozen_of_row _ _ _ _ _ HF1.out
  have ck1 : w1.cell? ⟨f, k, none⟩ = some (V k) := (cell_of_row _ _ k _ _ _ HF1.out).trans (HI.out.lt hk)
  obtain ⟨a', c', e', _⟩ := HO1.out.cells
  obtain ⟨l', hl'⟩ : ∃ l', l' = (S.g k ++ [a]).length := ⟨_, rfl⟩
  rw [← hl'] at e'
  subst e'
  clear hst hl'
  refine wpSeg_last ?_
  go_wp2_with fail
  generalize w1.setCell _ _ = w2 at *
  go_wp2_with fail
  exact HP.out _ _ HE0.out HGo.out
def NewI (w : World) (xs : List Nat) : Ending → World → Prop := fun e w' => ∃ v, e = .returned v ∧ OwnI w' v xs ∧ (∀ b, rowOf v = some b → w.heap.size ≤ b) ∧ Below w.heap.size w w'
set_option maxHeartbeats 1000000 in
set_option maxRecDepth 20000 in
theorem cloneI_any {w : World} (a : Option Addr) (n c : Nat) (xs : List Nat) (hn : xs.length = n) (hc : Cells w a (xs.map vi)) (h9 : xs.length ≤ 1000000) (hnil : a = none → c = 0) :
  Calls Tryz.prog 221 #[.slice a n c] w (NewI w xs) := by
 subst hn
 cases a with
 | none =>
  have hx : xs = [] := by
   rcases hc with h | ⟨_, _, h, _⟩
   ·simpa using h
   ·cases h
  subst hx
  obtain rfl := hnil rfl
  have hnl := fun w' => Lib.run_eql_slice_nil_nil (P := Tryz.prog) w' (t := 47) 0 0 Tryz.underlying47
  go_enter Tryz.func221, Tryz.ntmps221
  go_wp2_with fail
  go_ret
  exact ⟨.slice none 0 0, rfl, OwnI.nil _, fun b hb => (by cases hb), Below.refl _ _⟩
 | some d =>
  have HC0 := LH hc
  have HO : Hid (OwnI (w.alloc (.cells #[] 3)) (.slice (some ⟨w.heap.size, 0, none⟩) 0 0) []) :=
   LH (.inl ⟨rfl, .inr ⟨w.heap.size, 0, #[], rfl, Nat.zero_le _, heap_alloc_new w _, Nat.le_refl _, Nat.zero_le _, rfl, rfl⟩⟩)
  have HB := LH (below_alloc w (.cells #[] 3))
  have HC : Hid (Cells (w.alloc (.cells #[] 3)) (some d) (xs.map vi)) := LH (by
   rcases hc with h | ⟨b, off, e, h⟩
   ·exact .inl h
   ·exact .inr ⟨b, off, e, fun i v hi => by
     have := h i v hi
     rw [HB.out.cell (World.block_lt_of_cell? _ _ this)]; exact this⟩)
  have HN : Hid (([] : List Nat).length + xs.length ≤ 1000000000000) := LH (by simp; omega)
  have hnl := fun w' => Lib.run_eql_slice_some_nil (P := Tryz.prog) w' (t := 47) d xs.length c Tryz.underlying47
  obtain ⟨l, hl⟩ : ∃ l, l = xs.length := ⟨_, rfl⟩
  rw [← hl] at HN hnl ⊢
  have HL := LH hl.symm
  clear hc hl h9 hnil
  go_enter Tryz.func221, Tryz.ntmps221
  go_wp2_with (at_builtin; refine wpList_append_ownI (m := l) HO.out HC.out HL.out HN.out rfl rfl rfl rfl ?_; intro v' w2 ho hg hr; have HO2 := LH ho; have HG2 := LH hg; have HR2 := LH hr; clear ho hg hr)
  go_ret
  refine ⟨_, rfl, by simpa using HO2.out, fun b hb => ?_, ?_⟩
  ·rcases HR2.out b hb with h | h
   ·have : rowOf (.slice (some ⟨w.heap.size, 0, none⟩) 0 0) = none := rfl
    rw [this] at h; cases h
   ·rw [h]; exact HB.out.size
  ·have hg : World.grownBy _ w2 none := HG2.out
   exact HB.out.trans ((below_grown hg (Nat.le_refl _)).mono HB.out.size)
end Go.Proofs.YtpopbfagliagnaaGreat
namespace Go.Proofs.YtpopbfagliagnaaGreat
open Go.RowKit
theorem peek_in (l : List Nat) (j : Nat) : peek l (j : Int) = l.getD j 0 := by unfold peek; rw [if_pos (by omega)]; rfl
structure TabAt (w : World) (p : Nat) (F : Foot) (B : Nat) (l : List Hd) : Prop where
 ex : ∃ g c, w.heap[p]? = some (.cells #[vdev F, .int .i64 (B : Int), .slice (some ⟨g, 0, none⟩) l.length c] 223 (0, 0)) ∧ l.length ≤ c ∧ RowAt w g 103 (hdCs l) ∧ p ≠ g
def Hd.val (h : Hd) : Value := .agg #[.int .i64 h.k, .int .i64 h.c, .int .i64 h.l]
def hdGet (l : List Hd) (b : Int) : Hd := if b < 1 ∨ (l.length : Int) ≤ b then ⟨0, 0, 0⟩ else l.getD b.toNat default
set_option maxHeartbeats 1000000 in
theorem tget_any {w : World} {p B : Nat} {F : Foot} {l : List Hd} (h : TabAt w p F B l) (b : Int) (hl : l.length ≤ 1000) :
  Calls Tryz.prog 213 #[.pointer (some ⟨p, 0, none⟩), .int .i64 b] w fun e w' => e = .returned (hdGet l b).val ∧ Below w.heap.size w w' := by
 obtain ⟨g, c, hp, hc, hr, hne⟩ := h.ex
 have c2 : w.cell? ⟨p, 2, none⟩ = some (.slice (some ⟨g, 0, none⟩) l.length c) := cell_of_row _ _ 2 _ _ _ hp
 have hpl : p < w.heap.size := (Array.getElem?_eq_some_iff.1 hp).1
 have hgl := hr.lt
 by_cases h1 : b < 1
 ·have HE : Hid (hdGet l b = ⟨0, 0, 0⟩) := LH (by unfold hdGet; rw [if_pos (.inl h1)])
  clear hp hr h
  go_enter Tryz.func213, Tryz.ntmps213
  go_wp2_with fail
  exact bodyPost_ret (v := .agg #[.int .i64 0, .int .i64 0, .int .i64 0]) (by simp [results, Tryz.results213, go_sem]) rfl ⟨by rw [HE.out]; rfl, below_alloc _ _⟩
 by_cases h2 : (l.length : Int) ≤ b
 ·have HE : Hid (hdGet l b = ⟨0, 0, 0⟩) := LH (by unfold hdGet; rw [if_pos (.inr h2)])
  clear hp hr h
  go_enter Tryz.func213, Tryz.ntmps213
  go_wp2_with fail
  exact bodyPost_ret (v := .agg #[.int .i64 0, .int .i64 0, .int .i64 0]) (by simp [results, Tryz.results213, go_sem]) rfl ⟨by rw [HE.out]; rfl, below_alloc _ _⟩
 obtain ⟨j, rfl⟩ := Int.eq_ofNat_of_zero_le (show 0 ≤ b by omega)
 have hj : j < l.length := by omega
 have HE : Hid (hdGet l (j : Int) = l.getD j default) := LH (by unfold hdGet; rw [if_neg (by omega)]; rfl)
 have HA := hdCs_at l j hj
 generalize l.getD j default = hd at *
 obtain ⟨hk, hcl, hln⟩ := hd
 have d0 : w.cell? ⟨g, j * 3, none⟩ = some (.int .i64 hk) := hr.cell (HA 0 _ rfl)
 have d1 : w.cell? ⟨g, j * 3 + 1, none⟩ = some (.int .i64 hcl) := hr.cell (HA 1 _ rfl)
 have d2 : w.cell? ⟨g, j * 3 + 2, none⟩ = some (.int .i64 hln) := hr.cell (HA 2 _ rfl)
 clear hp hr h HA
 go_enter Tryz.func213, Tryz.ntmps213
 go_wp2_with fail
 exact bodyPost_ret (v := .agg #[.int .i64 hk, .int .i64 hcl, .int .i64 hln]) (by simp [results, Tryz.results213, go_sem]) rfl ⟨by rw [HE.out]; rfl, below_alloc _ _⟩
theorem hdGetD (l : List Hd) (j : Nat) : ∃ k c n, l.getD j default = ⟨k, c, n⟩ := ⟨_, _, _, rfl⟩
theorem fsBh : (Tryz.prog.fieldsOf 103) = #[{ name := "Kind", type := 3, offset := 0, embedded := false, tag := "", pkgPath := "", byteOffset := 0 },
        { name := "Class", type := 3, offset := 1, embedded := false, tag := "", pkgPath := "", byteOffset := 8 },
        { name := "Len", type := 3, offset := 2, embedded := false, tag := "", pkgPath := "", byteOffset := 16 }] := by kernel_rfl
theorem usBh : Tryz.prog.underlying 103 = some (.struct (Tryz.prog.fieldsOf 103)) := by kernel_rfl
theorem ssBh : Tryz.prog.stoodInHeld 103 = false := by kernel_rfl
theorem gsBh : Tryz.prog.eqGuardType Tryz.prog.depth 103 = false := by kernel_rfl
theorem equalBh (w : World) (a b c a' b' c' : Int) (r : Bool) (hr : r = ((a == a') && (b == b') && (c == c'))) : (Op.equalIn 10000 103 (.agg #[.int .i64 a, .int .i64 b, .int .i64 c]) (.agg #[.int .i64 a', .int .i64 b', .int .i64 c'])).run Tryz.prog w = .ok r w := by
 rw [hr, show (10000 : Nat) = 9999 + 1 from rfl, run_equalIn_agg w 9999 103 _ _ usBh ssBh, fsBh]
 by_cases h1 : a = a' <;> by_cases h2 : b = b' <;> by_cases h3 : c = c' <;> simp [Op.eqFields, go_sem, h1, h2, h3, Tryz.underlying3, part]
theorem hd_beq (k c n k' c' n' : Int) : decide ((⟨k, c, n⟩ : Hd) = ⟨k', c', n'⟩) = ((k == k') && (c == c') && (n == n')) := by
 rw [Bool.eq_iff_iff]; simp [Hd.mk.injEq, and_assoc]
theorem hd_cells {w : World} {a : Option Addr} {l : List Hd} (h : Cells w a (hdCs l)) {j : Nat} (hj : j < l.length) {k c n : Int} (he : l.getD j default = ⟨k, c, n⟩) :
  ∃ b off, a = some ⟨b, off, none⟩ ∧ w.cell? ⟨b, off + j * 3, none⟩ = some (.int .i64 k) ∧ w.cell? ⟨b, off + j * 3 + 1, none⟩ = some (.int .i64 c) ∧ w.cell? ⟨b, off + j * 3 + 2, none⟩ = some (.int .i64 n) := by
 have HA := hdCs_at l j hj
 rw [he] at HA
 rcases h with h | ⟨b, off, rfl, h⟩
 ·have := congrArg List.length h
  rw [hdCs_length] at this
  simp only [List.length_nil] at this
  omega
 ·exact ⟨b, off, rfl, h _ _ (HA 0 _ rfl), h _ _ (HA 1 _ rfl), h _ _ (HA 2 _ rfl)⟩
abbrev Sp := Nat × Nat
def spCs (l : List Sp) : List Value := l.flatMap fun s => [.int .i64 s.1, .int .i64 s.2]
theorem spCs_length (l : List Sp) : (spCs l).length = 2 * l.length := by
 induction l with
 | nil => rfl
 | cons h l ih => simp only [spCs, List.flatMap_cons, List.length_append, List.length_cons] at *; rw [ih]; simp; omega
theorem spCs_append (l m : List Sp) : spCs (l ++ m) = spCs l ++ spCs m := by simp [spCs]
theorem spCs_last (l : List Sp) (s n : Nat) : (spCs (l ++ [(s, n)]))[l.length * 2]? = some (.int .i64 (s : Int)) ∧ (spCs (l ++ [(s, n)]))[l.length * 2 + 1]? = some (.int .i64 (n : Int)) := by
 have hl := spCs_length l
 rw [spCs_append]
 constructor
 ·rw [List.getElem?_append_right (by omega), show l.length * 2 - (spCs l).length = 0 by omega]; rfl
 ·rw [List.getElem?_append_right (by omega), show l.length * 2 + 1 - (spCs l).length = 1 by omega]; rfl
theorem spCs_bump (l : List Sp) (s n m : Nat) : (spCs (l ++ [(s, n)])).set (l.length * 2 + 1) (.int .i64 (m : Int)) = spCs (l ++ [(s, m)]) := by
 have hl := spCs_length l
 rw [spCs_append, spCs_append, List.set_append_right _ _ (by omega), show l.length * 2 + 1 - (spCs l).length = 1 by omega]
 rfl
def bump (l : List Sp) : List Sp := match l.getLast? with
 | none => l
 | some s => l.dropLast ++ [(s.1, s.2 + 1)]
theorem bump_last (l : List Sp) (s n : Nat) : bump (l ++ [(s, n)]) = l ++ [(s, n + 1)] := by simp [bump]
theorem sp_cells {w : World} {a : Option Addr} {l : List Sp} (h : Cells w a (spCs l)) {j : Nat} (hj : j < l.length) {s n : Nat} (he : l.getD j (0, 0) = (s, n)) :
  ∃ b off, a = some ⟨b, off, none⟩ ∧ w.cell? ⟨b, off + j * 2, none⟩ = some (.int .i64 (s : Int)) ∧ w.cell? ⟨b, off + j * 2 + 1, none⟩ = some (.int .i64 (n : Int)) := by
 have e : l = (l.take j ++ [(s, n)]) ++ l.drop (j + 1) := by
  have : l[j] = (s, n) := by rw [← he]; simp [hj]
  rw [← this, ← List.take_succ_eq_append_getElem hj, List.take_append_drop]
 have hl := spCs_last (l.take j) s n
 have hjl : (l.take j).length = j := by simp; omega
 rw [hjl] at hl
 have hlen := spCs_length (l.take j ++ [(s, n)])
 simp [hjl] at hlen
 rcases h with h | ⟨b, off, rfl, h⟩
 ·have := congrArg List.length h
  rw [spCs_length] at this
  simp only [List.length_nil] at this
  omega
 ·refine ⟨b, off, rfl, h (j * 2) _ ?_, h (j * 2 + 1) _ ?_⟩
  ·rw [e, spCs_append, List.getElem?_append_left (by simp [spCs_length]; omega)]; exact hl.1
  ·rw [e, spCs_append, List.getElem?_append_left (by simp [spCs_length]; omega)]; exact hl.2
def spanL (ks : Nat → Bool) : Nat → List Sp
 | 0 => []
 | b + 1 => if b = 0 ∨ ks b = false then spanL ks b else if 1 < b ∧ ks (b - 1) = true then bump (spanL ks b) else spanL ks b ++ [(b, 1)]
theorem spanL_last (ks : Nat → Bool) (b : Nat) (hb : 1 ≤ b) : if 1 < b ∧ ks (b - 1) = true then ∃ l s n, spanL ks b = l ++ [(s, n)] ∧ s + n = b ∧ l.length < b else (spanL ks b = [] ∨ ∃ l s n, spanL ks b = l ++ [(s, n)] ∧ s + n < b ∧ l.length < b) := by
 induction b with
 | zero => omega
 | succ b ih =>
  by_cases h0 : b = 0
  ·subst h0; rw [if_neg (by omega)]; left; rfl
  have ih := ih (by omega)
  rw [Nat.add_sub_cancel]
  by_cases hk : ks b = true
  ·rw [if_pos ⟨by omega, hk⟩]
   by_cases hp : 1 < b ∧ ks (b - 1) = true
   ·rw [if_pos hp] at ih
    obtain ⟨l, s, n, h1, h2, h3⟩ := ih
    refine ⟨l, s, n + 1, ?_, by omega, by omega⟩
    rw [spanL, if_neg (by simp [h0, hk]), if_pos hp, h1, bump_last]
   ·rw [if_neg hp] at ih
    refine ⟨spanL ks b, b, 1, ?_, rfl, ?_⟩
    ·rw [spanL, if_neg (by simp [h0, hk]), if_neg hp]
    ·rcases ih with h | ⟨l, s, n, h1, h2, h3⟩
     ·rw [h]; simp
     ·rw [h1]; simp; omega
  ·have hk' : ks b = false := by simpa using hk
   rw [if_neg (by simp [hk'])]
   have he : spanL ks (b + 1) = spanL ks b := by rw [spanL, if_pos (.inr hk')]
   rw [he]
   split at ih
   ·obtain ⟨l, s, n, h1, h2, h3⟩ := ih
    exact .inr ⟨l, s, n, h1, by omega, by omega⟩
   ·rcases ih with h | ⟨l, s, n, h1, h2, h3⟩
    ·exact .inl h
    ·exact .inr ⟨l, s, n, h1, by omega, by omega⟩
theorem spanL_len (ks : Nat → Bool) (b : Nat) : (spanL ks b).length ≤ b := by
 induction b with
 | zero => simp [spanL]
 | succ b ih =>
  unfold spanL
  split
  ·omega
  ·split
   ·unfold bump
    split
    ·omega
    ·simp; omega
   ·simp; omega
def freeAt (l : List Hd) (b : Nat) : Bool := (l.getD b default).k == 0
def spansOf (l : List Hd) : List Sp := spanL (freeAt l) l.length
theorem elBs : Elem Tryz.prog 283 286 (.agg #[.int .i64 0, .int .i64 0]) 2 16 := Elem.mk' Tryz.underlying283 (by kernel_rfl) rfl (by decide)
def SpansPost (t : Nat) (l : List Sp) (w : World) : Ending → World → Prop := fun e w' => ∃ v, e = .returned v ∧ w'.ownsRow w.heap.size t 2 v l.length (spCs l) ∧ Below w.heap.size w w'
theorem span_round (ks : Nat → Bool) (b : Nat) (hb : 1 ≤ b) :
  (ks b = false ∧ spanL ks (b + 1) = spanL ks b) ∨
  (ks b = true ∧ 1 < b ∧ ks (b - 1) = true ∧ ∃ l s n, spanL ks b = l ++ [(s, n)] ∧ s + n = b ∧ spanL ks (b + 1) = l ++ [(s, n + 1)]) ∨
  (ks b = true ∧ ¬ (1 < b ∧ ks (b - 1) = true) ∧ spanL ks b = [] ∧ spanL ks (b + 1) = [(b, 1)]) ∨
  (ks b = true ∧ ¬ (1 < b ∧ ks (b - 1) = true) ∧ ∃ l s n, spanL ks b = l ++ [(s, n)] ∧ s + n < b ∧ spanL ks (b + 1) = l ++ [(s, n)] ++ [(b, 1)]) := by
 have h := spanL_last ks b hb
 by_cases hk : ks b = true
 ·by_cases hp : 1 < b ∧ ks (b - 1) = true
  ·rw [if_pos hp] at h
   obtain ⟨l, s, n, h1, h2, h3⟩ := h
   exact .inr (.inl ⟨hk, hp.1, hp.2, l, s, n, h1, h2, by rw [spanL, if_neg (by simp [hk]; omega), if_pos hp, h1, bump_last]⟩)
  ·rw [if_neg hp] at h
   have e : spanL ks (b + 1) = spanL ks b ++ [(b, 1)] := by rw [spanL, if_neg (by simp [hk]; omega), if_neg hp]
   rcases h with h | ⟨l, s, n, h1, h2, h3⟩
   ·exact .inr (.inr (.inl ⟨hk, hp, h, by rw [e, h]; rfl⟩))
   ·exact .inr (.inr (.inr ⟨hk, hp, l, s, n, h1, h2, by rw [e, h1]⟩))
 ·have hk' : ks b = false := by simpa using hk
  exact .inl ⟨hk', by rw [spanL, if_pos (.inr hk')]⟩
theorem hd_kind {w : World} {a : Option Addr} {l : List Hd} (h : Cells w a (hdCs l)) {j : Nat} (hj : j < l.length) :
  ∃ b off, a = some ⟨b, off, none⟩ ∧ ∃ k, freeAt l j = (k == 0) ∧ w.cell? ⟨b, off + j * 3, none⟩ = some (.int .i64 k) := by
 obtain ⟨k, c, n, he⟩ := hdGetD l j
 obtain ⟨b, off, rfl, h0, _, _⟩ := hd_cells h hj he
 exact ⟨b, off, rfl, k, by unfold freeAt; rw [he], h0⟩
set_option maxHeartbeats 2000000 in
set_option maxRecDepth 20000 in
theorem bspans_any (a : Option Addr) (n cap : Nat) (l : List Hd) (hn : l.length = n) (w : World) (hc : Cells w a (hdCs l)) (hl : n ≤ 1000) :
  Calls Tryz.prog 278 #[.slice a n cap] w (SpansPost 286 (spansOf l) w) := by
 have HN := LH hn
 have HC := LH hc
 generalize hP : SpansPost 286 (spansOf l) w = Post
 have HP := LH hP
 clear hn hc hP
 go_enter Tryz.func278, Tryz.ntmps278
 go_wp2_with fail
 go_loopw [3, 4] (fun v i wr => ∃ b : Nat, 1 ≤ b ∧ (b ≤ n ∨ b = 1) ∧ i = .int .i64 b ∧ wr.ownsRow w.heap.size 286 2 v (spanL (freeAt l) b).length (spCs (spanL (freeAt l) b)) ∧ Below w.heap.size w wr) (fun _ i _ => n - (intOf i).toNat)
 case atStart => exact ⟨1, Nat.le_refl _, .inr rfl, rfl, ⟨rfl, .inl ⟨rfl, rfl⟩⟩, Below.refl _ _⟩
 case round =>
  obtain ⟨b, hb1, hbn, rfl, ho, hb⟩ := hrel
  by_cases hlt : b < n
  ·have hlt' : (b : Int) < (n : Int) := by omega
   have HB := LH hb
   obtain ⟨bl, off, rfl, kd, hfk, d0⟩ := hd_kind (HC.out.below hb (Nat.le_refl _)) (j := b) (by rw [HN.out]; exact hlt)
   have hr := span_round (freeAt l) b hb1
   rw [hfk] at hr
   have HLb := LH (spanL_len (freeAt l) b)
   clear hfk hbn hb
   rcases hr with ⟨hk, hs⟩ | ⟨hk, h1b, hk2, pl, s, m, hs1, hs2, hs3⟩ | ⟨hk, hp, hs1, hs3⟩ | ⟨hk, hp, pl, s, m, hs1, hs2, hs3⟩
   ·have hk1 : (kd != 0) = true := by simpa using hk
    obtain ⟨a1, c1, rfl, hc1, hm1⟩ := owned_form ho
    have HO : Hid (wr.ownsRow w.heap.size 286 2 (.slice a1 (spanL (freeAt l) b).length c1) (spanL (freeAt l) (b + 1)).length (spCs (spanL (freeAt l) (b + 1)))) := LH (by rw [hs]; exact ho)
    clear ho hs hk HLb
    go_wp2_with fail
    exact ⟨⟨b + 1, by omega, by omega, vint (by omega), HO.out, HB.out⟩, by simp [intOf]; omega⟩
   ·have hk1 : (kd != 0) = false := by simpa using hk
    rw [hs1] at ho
    obtain ⟨L, hL⟩ : ∃ L, L = pl.length := ⟨_, rfl⟩
    rw [show (pl ++ [(s, m)]).length = L + 1 by simp [hL]] at ho
    obtain ⟨g, c1, rfl, hc1, hm1, hg1, hg2⟩ := owned_some ho (by omega)
    have hr := owned_row ho
    have hla := spCs_last pl s m
    rw [← hL] at hla
    have e0 : wr.cell? ⟨g, L * 2, none⟩ = some (.int .i64 (s : Int)) := hr.cell hla.1
    have e1 : wr.cell? ⟨g, L * 2 + 1, none⟩ = some (.int .i64 (m : Int)) := hr.cell hla.2
    have f1 : wr.frozen? ⟨g, L * 2 + 1, none⟩ = false := hr.frozen _
    have hsm : ((s : Int) + (m : Int) == (b : Int)) = true := by simp; omega
    have HL := LH hL
    have HS3 := LH hs3
    have HO1 := LH ho
    have hsb : (s : Int) ≤ 1000 := by omega
    have hmb : (m : Int) ≤ 1000 := by omega
    have hLb : L < 1000 := by have := HLb.out; rw [hs1] at this; simp [← hL] at this; omega
    clear ho hs1 hs2 hs3 hL hla hr hk hk2 HLb
    have hw1 : IntKind.i64.wrap (L : Int) = L := IntWalk.i64_in _ (by omega)
    have hw2 : IntKind.i64.wrap ((s : Int) + (m : Int)) = s + m := IntWalk.i64_in _ (by omega)
    go_wp2_with fail
    go_quiet (fail)
    clear hw1 hw2
    have HO2 : Hid ((wr.drewN nq).ownsRow w.heap.size 286 2 (.slice (some ⟨g, 0, none⟩) (L + 1) c1) (L + 1) (spCs (pl ++ [(s, m)]))) := LH HO1.out
    go_wp2_with fail
    refine ⟨⟨b + 1, by omega, by omega, vint (by omega), ?_, ?_⟩, by simp [intOf]; omega⟩
    ·rw [HS3.out, ← show ((m + 1 : Nat) : Int) = (m : Int) + 1 from rfl, ← spCs_bump pl s m (m + 1), show (pl ++ [(s, m + 1)] : List Sp).length = L + 1 by simp [HL.out], ← HL.out]
     exact (HO2.out.stored (L * 2 + 1) _).1
    ·exact below_grownBy (below_drewN HB.out _) HO2.out (HO2.out.stored (L * 2 + 1) _).2 (Nat.le_refl _) (Nat.le_refl _)
   ·have hk1 : (kd != 0) = false := by simpa using hk
    rw [hs1] at ho
    obtain ⟨a1, c1, rfl, hc1, hm1⟩ := owned_form ho
    have HO := LH ho
    have HS3 := LH hs3
    have hone : Hid (∀ u ∈ (#[Value.int .i64 (b : Int), Value.int .i64 1] : Array Value).toList, u.oneCell' = true) := LH (by intro u hu; simp at hu; rcases hu with rfl | rfl <;> rfl)
    clear ho hs1 hs3 hk hp HLb
    go_wp2_with fail
    go_quiet (fail)
    have HO1 : Hid ((wr.drewN nq).ownsRow w.heap.size 286 2 (.slice a1 0 c1) 0 []) := LH HO.out
    have hbase : Hid (w.heap.size ≤ (wr.drewN nq).heap.size) := LH HB.out.size
    go_wp2_with (at_builtin; refine wpList_append_new (us := #[.int .i64 (b : Int), .int .i64 1]) elBs HO1.out rfl hone.out (by omega) (by decide) hbase.out rfl rfl rfl (by simp [Act.eval]) ?_; intro g6 c6 w6 ho6 hg6 hc6 hm6 hb6 hl6; have HO6 := LH ho6; have HG6 := LH hg6; clear ho6 hg6)
    refine ⟨⟨b + 1, by omega, by omega, vint (by omega), ?_, below_grownBy (below_drewN HB.out _) HO1.out HG6.out (Nat.le_refl _) (Nat.le_refl _)⟩, by simp [intOf]; omega⟩
    rw [HS3.out]
    exact HO6.out
   ·have hk1 : (kd != 0) = false := by simpa using hk
    rw [hs1] at ho
    obtain ⟨L, hL⟩ : ∃ L, L = pl.length := ⟨_, rfl⟩
    rw [show (pl ++ [(s, m)]).length = L + 1 by simp [hL]] at ho
    obtain ⟨g, c1, rfl, hc1, hm1, hg1, hg2⟩ := owned_some ho (by omega)
    have hr := owned_row ho
    have hla := spCs_last pl s m
    rw [← hL] at hla
    have e0 : wr.cell? ⟨g, L * 2, none⟩ = some (.int .i64 (s : Int)) := hr.cell hla.1
    have e1 : wr.cell? ⟨g, L * 2 + 1, none⟩ = some (.int .i64 (m : Int)) := hr.cell hla.2
    have hsm : ((s : Int) + (m : Int) == (b : Int)) = false := by simp; omega
    have HL := LH hL
    have HS3 := LH hs3
    have HO := LH ho
    have hsb : (s : Int) ≤ 1000 := by omega
    have hmb : (m : Int) ≤ 1000 := by omega
    have hone : Hid (∀ u ∈ (#[Value.int .i64 (b : Int), Value.int .i64 1] : Array Value).toList, u.oneCell' = true) := LH (by intro u hu; simp at hu; rcases hu with rfl | rfl <;> rfl)
    have hLb : L < 1000 := by have := HLb.out; rw [hs1] at this; simp [← hL] at this; omega
    have hL9 : L + 1 < 1000000000000 := by omega
    clear ho hs1 hs2 hs3 hL hla hr hk hp HLb
    have hw1 : IntKind.i64.wrap (L : Int) = L := IntWalk.i64_in _ (by omega)
    have hw2 : IntKind.i64.wrap ((s : Int) + (m : Int)) = s + m := IntWalk.i64_in _ (by omega)
    go_wp2_with fail
    go_quiet (fail)
    clear hw1 hw2
    have HO1 : Hid ((wr.drewN nq).ownsRow w.heap.size 286 2 (.slice (some ⟨g, 0, none⟩) (L + 1) c1) (L + 1) (spCs (pl ++ [(s, m)]))) := LH HO.out
    have hbase : Hid (w.heap.size ≤ (wr.drewN nq).heap.size) := LH HB.out.size
    go_wp2_with (at_builtin; refine wpList_append_new (us := #[.int .i64 (b : Int), .int .i64 1]) elBs HO1.out rfl hone.out hL9 (by decide) hbase.out rfl rfl rfl (by simp [Act.eval]) ?_; intro g6 c6 w6 ho6 hg6 hc6 hm6 hb6 hl6; have HO6 := LH ho6; have HG6 := LH hg6; clear ho6 hg6)
    refine ⟨⟨b + 1, by omega, by omega, vint (by omega), ?_, below_grownBy (below_drewN HB.out _) HO1.out HG6.out (Nat.le_refl _) (Nat.le_refl _)⟩, by simp [intOf]; omega⟩
    rw [HS3.out, spCs_append, show (pl ++ [(s, m)] ++ [(b, 1)] : List Sp).length = L + 1 + 1 by simp [HL.out]]
    exact HO6.out
  ·have hlt' : decide (b < n) = false := by simp; omega
   have hlt2 : n ≤ b := by omega
   obtain ⟨a1, c1, rfl, hc1, hm1⟩ := owned_form ho
   have HE : Hid (spansOf l = spanL (freeAt l) b) := LH (by
    unfold spansOf; rw [HN.out]
    rcases hbn with h | h
    ·rw [show n = b by omega]
    ·by_cases h0 : n = 0
     ·rw [h0, h]; rfl
     ·rw [show n = b by omega])
   have HO := LH ho
   have HB := LH hb
   clear ho hb
   go_wp2_with fail
   rw [← HP.out]
   refine ⟨_, rfl, ?_, HB.out⟩
   rw [HE.out]
   exact HO.out
theorem dec_enc (b k c l : Int) (h : hdRight k c l = true) : decN b (encN b k c l) = ⟨k, c, l, 0⟩ := by
 have hr : HdRight k c l := by simpa [hdRight] using h
 obtain ⟨n, hn⟩ : ∃ n, n = hdN k c l := ⟨_, rfl⟩
 have hn2 : (n : Int) = k + 4 * c + 256 * l := by rw [hn]; unfold hdN; unfold HdRight at hr; omega
 have hlt : n < 4294967296 := by unfold HdRight at hr; omega
 have he : encN b k c l = sealN n (pl (256 + b)) := by unfold encN; rw [if_pos h, hn]
 have hm : sealN n (pl (256 + b)) % 4294967296 = n := by
  unfold sealN
  rw [Nat.mul_comm, Nat.mul_add_mod, Nat.mod_eq_of_lt hlt]
 have ho : openN (encN b k c l) (pl (256 + b)) = some n := by
  unfold openN; rw [he, hm, if_pos rfl]
 have e1 : ((n % 4 : Nat) : Int) = k := by unfold HdRight at hr; omega
 have e2 : ((n / 4 % 64 : Nat) : Int) = c := by unfold HdRight at hr; omega
 have e3 : ((n / 256 % 65536 : Nat) : Int) = l := by unfold HdRight at hr; omega
 rw [decN_some ho]
 unfold decS
 rw [e1, e2, e3, if_pos rfl, if_pos h]
def Dev.live (S : Dev) : Prop := S.dead = false ∧ S.armed = false
theorem Dev.live.stop {S : Dev} (h : S.live) : S.stop = false := by unfold Dev.stop; rw [h.1, h.2]; rfl
theorem Dev.live.step {S : Dev} (h : S.live) : S.step.live := by unfold Dev.step; rw [h.stop]; exact h
theorem Dev.live.store {S : Dev} (h : S.live) (i : Int) (x : Nat) : (S.store i x).live := by
 unfold Dev.store
 split
 ·exact h
 ·rw [h.stop]; exact h.step
theorem Dev.live.store_ok {S : Dev} (h : S.live) (i : Nat) (x : Nat) (hi : i < S.cache.length) : S.storeE i = 0 ∧ (S.store i x).cache = S.cache.set i x := by
 constructor
 ·unfold Dev.storeE; rw [if_neg (by omega), h.stop]; rfl
 ·unfold Dev.store; rw [if_neg (by omega), h.stop]
  simp only [Bool.false_eq_true, if_false, Dev.put, (Dev.step_rest S).2.1, Int.toNat_natCast]
theorem Dev.store_okN {S : Dev} {N : Nat} (h : S.ok N) (i : Int) (x : Nat) : (S.store i x).ok (N + 1) := by
 unfold Dev.store
 split
 ·exact h.mono (by omega)
 ·split
  ·exact Dev.step_ok h
  ·exact (Dev.step_ok h : S.step.ok (N + 1))
def Dev.fmtTo (S : Dev) : Nat → Dev
 | 0 => S
 | k + 1 => if k = 0 then S else (S.fmtTo k).store ((256 + k : Nat) : Int) (encN k 0 0 0)
theorem fmtTo_props {S : Dev} (h : S.live) {N : Nat} (ho : S.ok N) (k : Nat) (hk : 256 + k ≤ S.cache.length) : (S.fmtTo k).live ∧ (S.fmtTo k).ok (N + k) ∧ (S.fmtTo k).cache.length = S.cache.length ∧ (S.fmtTo k).dirty.length = S.dirty.length ∧ (∀ b, 1 ≤ b → b < k → (S.fmtTo k).cache.getD (256 + b) 0 = encN b 0 0 0) := by
 induction k with
 | zero => exact ⟨h, ho, rfl, rfl, fun b h1 h2 => by omega⟩
 | succ k ih =>
  obtain ⟨i1, i2, i3, i5, i4⟩ := ih (by omega)
  unfold Dev.fmtTo
  split
  ·exact ⟨h, ho.mono (by omega), rfl, rfl, fun b h1 h2 => by omega⟩
  ·have hs := i1.store_ok (256 + k) (encN k 0 0 0) (by omega)
   refine ⟨i1.store _ _, Dev.store_okN i2 _ _, by rw [hs.2, List.length_set, i3], ?_, fun b h1 h2 => ?_⟩
   ·rw [← i5]
    unfold Dev.store
    split
    ·rfl
    ·split
     ·rw [(Dev.step_rest _).2.2.2.1]
     ·simp [Dev.put, (Dev.step_rest _).2.2.2.1]
   ·rw [hs.2]
    by_cases e : b = k
    ·subst e; rw [List.getD_eq_getElem?_getD, List.getElem?_set_self (by omega)]; rfl
    ·rw [List.getD_eq_getElem?_getD, List.getElem?_set_ne (by omega), ← List.getD_eq_getElem?_getD]
     exact i4 b h1 (by omega)
theorem Dev.live.flush {S : Dev} (h : S.live) (j : Int) : (S.flush j).live := by
 unfold Dev.flush
 split
 ·exact h
 ·rw [h.stop]
  simp only [Bool.false_eq_true, if_false]
  unfold Dev.hold
  split
  ·exact h.step
  ·exact h.step
theorem Dev.live.flushE {S : Dev} (h : S.live) (j : Nat) (hj : j < S.dirty.length) : S.flushE j = 0 := by unfold Dev.flushE; rw [if_neg (by omega), h.stop]; rfl
theorem Dev.live.flushRun {S : Dev} (h : S.live) (a : Nat) : ∀ m, a + m ≤ S.dirty.length → (S.flushRun a m).err = 0 ∧ (S.flushRun a m).dev.live ∧ (S.flushRun a m).dev.cache = S.cache ∧ (S.flushRun a m).dev.dirty = S.dirty := by
 intro m
 induction m with
 | zero => intro _; exact ⟨rfl, h, rfl, rfl⟩
 | succ m ih =>
  intro hm
  obtain ⟨i1, i2, i3, i4⟩ := ih (by omega)
  unfold Dev.flushRun
  rw [if_neg (by rw [i1]; simp)]
  refine ⟨i2.flushE _ (by rw [i4]; omega), i2.flush _, ?_, ?_⟩
  ·exact (Dev.flush_len _ _).1.trans i3
  ·exact (Dev.flush_len _ _).2.trans i4
theorem Dev.live.persist {S : Dev} (h : S.live) (p n : Nat) (hn : 0 < n) (hd : S.cache.length = 8 * S.dirty.length) (hp : p + n ≤ S.cache.length) : (S.persist p n).err = 0 ∧ (S.persist p n).dev.cache = S.cache := by
 unfold Dev.persist
 rw [if_neg (by omega), if_pos (by omega)]
 unfold Dev.persistN
 obtain ⟨i1, i2, i3, i4⟩ := h.flushRun ((p : Int) / 8).toNat (((p : Int) + (n : Int) - 1) / 8 - (p : Int) / 8 + 1).toNat (by omega)
 rw [if_neg (by rw [i1]; simp)]
 constructor
 ·show Dev.fenceE _ = 0
  unfold Dev.fenceE; rw [i2.stop]; rfl
 ·show (Dev.fence _).cache = _
  unfold Dev.fence; rw [i2.stop]
  simp only [Bool.false_eq_true, if_false]
  rw [(fenceTo_len _ _).2.1, (Dev.step_rest _).2.1, i3]
def Dev.fmt (S : Dev) (B : Nat) : Dev := ((S.fmtTo B).persist 257 ((B : Int) - 1)).dev
set_option maxHeartbeats 2000000 in
set_option maxRecDepth 100000 in
theorem format_any {w : World} {F : Foot} {S : Dev} (h : DevAt w F S) (hv : S.live) (ho : S.ok 100) (B : Nat) (hB2 : 2 ≤ B) (hB : B ≤ 1000) (hlen : 256 + B ≤ S.cache.length) :
  Calls Tryz.prog 112 #[vdev F, vgeom B] w fun e w' => e = .returned (.int .i64 0) ∧ DevAt w' F (S.fmt B) ∧ Touch F.list w w' := by
 have hbx := below_alloc w (.cells #[.int .i64 (B : Int)] 44)
 have hcx : (w.alloc (.cells #[.int .i64 (B : Int)] 44)).cell? ⟨w.heap.size, 0, none⟩ = some (.int .i64 (B : Int)) := cell_alloc_new _ _ _ 0 _ rfl
 have HD := LH (h.below hbx)
 have HT : Hid (Touch F.list w (w.alloc (.cells #[.int .i64 (B : Int)] 44))) := LH (Touch.ofBelow hbx)
 have HF : Hid (∀ k ∈ F.list, k < w.heap.size) := LH h.mem
 have HP := LH (fun k hk => fmtTo_props hv ho k (Nat.le_trans (show 256 + k ≤ 256 + B by exact Nat.add_le_add_left hk _) hlen))
 have HL := LH h.lenD
 clear h hbx hv ho
 go_enter Tryz.func112, Tryz.ntmps112
 go_wp2_with fail
 go_loopw [5] (fun i wr => ∃ b : Nat, 1 ≤ b ∧ b ≤ B ∧ i = .int .i64 b ∧ DevAt wr F (S.fmtTo b) ∧ Touch F.list w wr ∧ wr.cell? ⟨w.heap.size, 0, none⟩ = some (.int .i64 (B : Int))) (fun i _ => B - (intOf i).toNat)
 case atStart => exact ⟨1, Nat.le_refl _, by omega, rfl, HD.out, HT.out, hcx⟩
 case round =>
  obtain ⟨b, hb1, hb2, rfl, hd, ht, hc⟩ := hrel
  have HDr := LH hd
  have HTr := LH ht
  clear hd ht hcx
  by_cases hlt : b < B
  ·have hlt' : (b : Int) < (B : Int) := by omega
   go_wp2_with fail
   refine (gheader_any _ _ _ (by omega)).mono ?_
   rintro e w1 ⟨rfl, hb1'⟩
   have HH : Hid (hdAt (B : Int) (b : Int) = 256 + (b : Int)) := LH (by unfold hdAt; rw [if_neg (by omega)])
   rw [HH.out]
   have hc1 := below_cells hb1' hc (Nat.le_refl _)
   have HD1 := LH (HDr.out.below hb1')
   have HT1 : Hid (Touch F.list w w1) := LH (HTr.out.trans (Touch.ofBelow hb1'))
   clear hb1' hc HDr HTr
   go_wp2_with fail
   refine (bencode_any (b : Int) 0 0 0 (by omega) (by omega) _).mono ?_
   rintro e w2 ⟨rfl, hb2'⟩
   have hc2 := below_cells hb2' hc1 (Nat.le_refl _)
   have HD2 := LH (HD1.out.below hb2')
   have HT2 : Hid (Touch F.list w w2) := LH (HT1.out.trans (Touch.ofBelow hb2'))
   clear hb2' hc1 HD1 HT1
   go_wp2_with fail
   refine (store_any HD2.out (N := 100 + b) (by omega) (HP.out b hb2).2.1 _ _ (encN_lt _ _ _ _)).mono ?_
   rintro e w3 ⟨rfl, hd3, ht3⟩
   have HE : Hid ((S.fmtTo b).storeE (256 + (b : Int)) = 0) := LH ((HP.out b hb2).1.store_ok (256 + b) 0 (by rw [(HP.out b hb2).2.2.1]; omega)).1
   rw [HE.out]
   have hc3 : w3.cell? ⟨w.heap.size, 0, none⟩ = some (.int .i64 (B : Int)) := cell_of_touch ht3 (fun hm => by have := HF.out _ hm; simp at this) hc2
   have HD3 : Hid (DevAt w3 F (S.fmtTo (b + 1))) := LH (by unfold Dev.fmtTo; rw [if_neg (by omega)]; exact hd3)
   have HT3 : Hid (Touch F.list w w3) := LH (HT2.out.trans ht3)
   clear hd3 ht3 hc2 HD2 HT2
   go_wp2_with fail
   exact ⟨⟨b + 1, by omega, by omega, vint (by omega), HD3.out, HT3.out, hc3⟩, by simp [intOf]; omega⟩
  ·obtain rfl : b = B := by omega
   have hlt' : decide ((b : Int) < (b : Int)) = false := by simp
   have hw1 : IntKind.i64.wrap ((b : Int) - 1) = (b : Int) - 1 := IntWalk.i64_in _ (by omega)
   go_wp2_with fail
   have hcl : ∀ x : Later wr, x.val.cell? ⟨w.heap.size, 0, none⟩ = some (.int .i64 (b : Int)) := fun x => later_cell hc x
   refine wp_region_later_tail 6 ?hn ?hm ?hB ?_
   case hn => exact Nat.le_of_ble_eq_true rfl
   case hm => kernel_rfl
   case hB => kernel_rfl
   simp only [List.take_succ_cons, List.take_zero, List.drop_succ_cons, List.drop_zero]
   repeat (quiet_step ((rename_i x; exact calls_later (gheader_any _ _ _ (by omega)))))
   refine wpQuiet_nil ?_
   rintro w5 ⟨x, hx5⟩
   have hd5 := HDr.out.below x.below
   have ht5 : Touch F.list w x.val := HTr.out.trans (Touch.ofBelow x.below)
   rw [← hx5] at hd5 ht5
   have HD5 := LH hd5
   have HT5 := LH ht5
   have HH : Hid (hdAt (b : Int) 1 = 257) := LH (by unfold hdAt; rw [if_neg (by omega)]; rfl)
   rw [HH.out]
   clear hx5 x HDr HTr hd5 ht5 hw1
   have HQ : Hid (((S.fmtTo b).persist 257 ((b : Int) - 1)).err = 0) := LH (by
    have := ((HP.out b (Nat.le_refl _)).1.persist 257 (b - 1) (by omega) (by rw [(HP.out b (Nat.le_refl _)).2.2.1, (HP.out b (Nat.le_refl _)).2.2.2.1]; exact HL.out) (by rw [(HP.out b (Nat.le_refl _)).2.2.1]; omega)).1
    rw [show ((b - 1 : Nat) : Int) = (b : Int) - 1 by omega] at this
    exact this)
   go_wp2_with fail
   refine (persist_any HD5.out (N := 100 + b) (by omega) (HP.out b (Nat.le_refl _)).2.1 _ _ (by omega) (by omega)).mono ?_
   rintro e w6 ⟨rfl, hd6, ht6⟩
   rw [HQ.out]
   have HD6 := LH hd6
   have HT6 : Hid (Touch F.list w w6) := LH (HT5.out.trans ht6)
   clear hd6 ht6
   go_wp2_with fail
   go_ret
   exact ⟨rfl, HD6.out, HT6.out⟩
end Go.Proofs.YtpopbfagliagnaaGreat
