/- Parts of the proof that ReviveLooks holds. -/
import Derived.Test.YtpohaahihdhleaaGreatRL3
import Derived.Deep.QuietTactic
import Derived.BigQuiet
import Derived.WalkKit
import Derived.Deep.Cut
set_option linter.unusedVariables false
set_option maxHeartbeats 16000000
set_option maxRecDepth 100000
open Go.RowKit
namespace Go.Proofs.YtpohaahihdhleaaGreat
section
def objSize (p d : Int) : Nat := if p < 0 ∨ 63 < p ∨ d < 0 ∨ 16384 < d then 0 else (1 + p + d).toNat
theorem objSize_le (p d : Int) : objSize p d ≤ 16448 := by unfold objSize; split <;> omega
def csizeV (p d : Int) : Value := if objSize p d = 0 then .tuple #[.int .i64 0, .int .i64 5] else .tuple #[.int .i64 (objSize p d : Nat), .int .i64 0]
theorem csize_any (p d : Int) (w : World) : Calls Tryz.prog 217 #[.int .i64 p, .int .i64 d] w fun e w' => e = .returned (csizeV p d) ∧ w = w' := by
 by_cases h : p < 0 ∨ 63 < p ∨ d < 0 ∨ 16384 < d
 ·have HS : Hid (csizeV p d = .tuple #[.int .i64 0, .int .i64 5]) := LH (by unfold csizeV; rw [if_pos (by unfold objSize; rw [if_pos h])])
  rcases h with h | h | h | h
  ·go_enter Tryz.func217, Tryz.ntmps217
   go_wp2_with fail
   go_ret2
   exact ⟨by rw [HS.out]; rfl, rfl⟩
  ·have h' : ¬ p < 0 := by omega
   go_enter Tryz.func217, Tryz.ntmps217
   go_wp2_with fail
   go_ret2
   exact ⟨by rw [HS.out]; rfl, rfl⟩
  ·by_cases h1 : p < 0
   ·go_enter Tryz.func217, Tryz.ntmps217
    go_wp2_with fail
    go_ret2
    exact ⟨by rw [HS.out]; rfl, rfl⟩
   by_cases h2 : 63 < p
   ·go_enter Tryz.func217, Tryz.ntmps217
    go_wp2_with fail
    go_ret2
    exact ⟨by rw [HS.out]; rfl, rfl⟩
   go_enter Tryz.func217, Tryz.ntmps217
   go_wp2_with fail
   go_ret2
   exact ⟨by rw [HS.out]; rfl, rfl⟩
  ·have h3 : ¬ d < 0 := by omega
   by_cases h1 : p < 0
   ·go_enter Tryz.func217, Tryz.ntmps217
    go_wp2_with fail
    go_ret2
    exact ⟨by rw [HS.out]; rfl, rfl⟩
   by_cases h2 : 63 < p
   ·go_enter Tryz.func217, Tryz.ntmps217
    go_wp2_with fail
    go_ret2
    exact ⟨by rw [HS.out]; rfl, rfl⟩
   go_enter Tryz.func217, Tryz.ntmps217
   go_wp2_with fail
   go_ret2
   exact ⟨by rw [HS.out]; rfl, rfl⟩
 ·have HS : Hid (csizeV p d = .tuple #[.int .i64 (1 + p + d), .int .i64 0]) := by
   have h1 : ((objSize p d : Nat) : Int) = 1 + p + d := by unfold objSize; rw [if_neg h]; omega
   apply LH
   unfold csizeV
   rw [if_neg (by omega), h1]
  have h1 : ¬ p < 0 := by omega
  have h2 : ¬ 63 < p := by omega
  have h3 : ¬ d < 0 := by omega
  have h4 : ¬ 16384 < d := by omega
  clear h
  go_enter Tryz.func217, Tryz.ntmps217
  go_wp2_with fail
  go_ret2
  exact ⟨by rw [HS.out]; rfl, rfl⟩
theorem osize_any (p d : Int) (w : World) : Calls Tryz.prog 202 #[.agg #[.int .i64 p, .int .i64 d]] w fun e w' => e = .returned (.int .i64 (objSize p d : Nat)) ∧ Below w.heap.size w w' := by
 have hb : ∀ o, Below w.heap.size w (w.alloc o) := fun o => (Below.refl _ _).alloc (Nat.le_refl _) o
 have HB := LH hb
 clear hb
 go_enter Tryz.func202, Tryz.ntmps202
 go_wp2_with fail
 refine (csize_any _ _ _).mono ?_
 rintro e w1 ⟨rfl, rfl⟩
 by_cases h : objSize p d = 0
 ·have HV : Hid (csizeV p d = .tuple #[.int .i64 0, .int .i64 5]) := LH (by unfold csizeV; rw [if_pos h])
  rw [HV.out]
  have H := LH h
  clear h
  go_wp2_with fail
  go_ret
  exact ⟨ret_int (by rw [H.out]; rfl), HB.out _⟩
 ·have HV : Hid (csizeV p d = .tuple #[.int .i64 (objSize p d : Nat), .int .i64 0]) := LH (by unfold csizeV; rw [if_neg h])
  rw [HV.out]
  clear h
  go_wp2_with fail
  go_ret
  exact ⟨rfl, HB.out _⟩
theorem osmall_any (p d : Int) (w : World) : Calls Tryz.prog 181 #[.agg #[.int .i64 p, .int .i64 d]] w fun e w' => e = .returned (ofV (objSize p d : Nat)) ∧ Below w.heap.size w w' := by
 have hb : ∀ o, Below w.heap.size w (w.alloc o) := fun o => (Below.refl _ _).alloc (Nat.le_refl _) o
 have HB := LH hb
 clear hb
 go_enter Tryz.func181, Tryz.ntmps181
 go_wp2_with fail
 refine (osize_any _ _ _).mono ?_
 rintro e w1 ⟨rfl, hb1⟩
 have hb1' := (HB.out _).trans (hb1.mono (HB.out _).size)
 go_wp2_with fail
 refine (cof_any _ _).mono ?_
 rintro e w2 ⟨rfl, hb2⟩
 have hb2' := hb1'.trans (hb2.mono hb1'.size)
 by_cases h : 1 ≤ ((objSize p d : Nat) : Int) ∧ ((objSize p d : Nat) : Int) ≤ 256
 ·have HV : Hid (ofV (objSize p d : Nat) = .tuple #[.int .i64 (ofN (objSize p d : Nat) : Nat), .bool true]) := LH (by unfold ofV; rw [if_pos h])
  rw [HV.out]
  clear h hb1 hb2 hb1'
  go_wp2_with fail
  go_ret2
  exact ⟨by rw [HV.out]; rfl, hb2'⟩
 ·have HV : Hid (ofV (objSize p d : Nat) = .tuple #[.int .i64 0, .bool false]) := LH (by unfold ofV; rw [if_neg h])
  rw [HV.out]
  clear h hb1 hb2 hb1'
  go_wp2_with fail
  go_ret2
  exact ⟨by rw [HV.out]; rfl, hb2'⟩
def small (n : Nat) : Prop := 1 ≤ n ∧ n ≤ 256
instance (n : Nat) : Decidable (small n) := by unfold small; infer_instance
theorem ofV_small (n : Nat) (h : small n) : ofV (n : Int) = .tuple #[.int .i64 (ofN (n : Int) : Nat), .bool true] := by
 unfold ofV; rw [if_pos (by unfold small at h; omega)]
theorem ofV_large (n : Nat) (h : ¬ small n) : ofV (n : Int) = .tuple #[.int .i64 0, .bool false] := by
 unfold ofV; rw [if_neg (by unfold small at h; omega)]
def objBlocks (n : Nat) : Nat := if small n then 0 else (n + 511) / 512
theorem oblocks_any (p d : Int) (w : World) : Calls Tryz.prog 184 #[.agg #[.int .i64 p, .int .i64 d]] w fun e w' => e = .returned (.int .i64 (objBlocks (objSize p d) : Nat)) ∧ Below w.heap.size w w' := by
 have hb : ∀ o, Below w.heap.size w (w.alloc o) := fun o => (Below.refl _ _).alloc (Nat.le_refl _) o
 have HB := LH hb
 clear hb
 have hle := objSize_le p d
 go_enter Tryz.func184, Tryz.ntmps184
 go_wp2_with fail
 refine (osmall_any _ _ _).mono ?_
 rintro e w1 ⟨rfl, hb1⟩
 have hb1' := (HB.out _).trans (hb1.mono (HB.out _).size)
 have hc0 : w1.cell? ⟨w.heap.size, 0, none⟩ = some (.int .i64 p) := by rw [hb1.cell (p := ⟨w.heap.size, 0, none⟩) (by simp)]; exact cell_alloc_new _ _ _ _ _ rfl
 have hc1 : w1.cell? ⟨w.heap.size, 1, none⟩ = some (.int .i64 d) := by rw [hb1.cell (p := ⟨w.heap.size, 1, none⟩) (by simp)]; exact cell_alloc_new _ _ _ _ _ rfl
 by_cases h : small (objSize p d)
 ·rw [ofV_small _ h]
  have HO : Hid (objBlocks (objSize p d) = 0) := LH (by unfold objBlocks; rw [if_pos h])
  clear h hb1
  go_wp2_with fail
  go_ret
  exact ⟨ret_int (by rw [HO.out]; rfl), hb1'⟩
 ·rw [ofV_large _ h]
  have HO : Hid (((objBlocks (objSize p d) : Nat) : Int) = upN (objSize p d : Nat) 512) := LH (by unfold objBlocks upN; rw [if_neg h]; split <;> omega)
  clear h hb1
  go_wp2_with fail
  refine (osize_any _ _ _).mono ?_
  rintro e w2 ⟨rfl, hb2⟩
  have hb2' := hb1'.trans (hb2.mono hb1'.size)
  go_wp2_with fail
  refine (up_any _ _ _ (by omega) (by omega)).mono ?_
  rintro e w3 ⟨rfl, rfl⟩
  rw [← HO.out]
  go_wp2_with fail
  go_ret
  exact ⟨rfl, hb2'⟩
def clsCells (k : Int) : Nat := 512 / clsWords k
theorem ccells_any (k : Int) (w : World) : Calls Tryz.prog 162 #[.int .i64 k] w fun e w' => e = .returned (.int .i64 (clsCells k : Nat)) ∧ Below w.heap.size w w' := by
 by_cases h : 0 ≤ k ∧ k < 32
 ·have hp := clsWords_pos k h
  have HC : Hid (((clsCells k : Nat) : Int) = 512 / ((clsWords k : Nat) : Int)) := LH (by simp [clsCells])
  have H := LH h
  clear h
  go_enter Tryz.func162, Tryz.ntmps162
  go_wp2_with fail
  refine (cright_any _ _).mono ?_
  rintro e w1 ⟨rfl, rfl⟩
  rw [decide_eq_true H.out]
  go_wp2_with fail
  refine (cwords_any _ _).mono ?_
  rintro e w1 ⟨rfl, hb⟩
  have hle := clsWords_le k
  generalize clsWords k = x at *
  have hx0 : ((x : Int) == 0) = false := by rw [beq_eq_false_iff_ne]; omega
  go_wp2_with fail
  go_ret
  exact ⟨ret_int (by rw [HC.out]), hb⟩
 ·have HC : Hid (clsCells k = 0) := LH (by unfold clsCells clsWords; rw [if_neg h])
  have H := LH h
  clear h
  go_enter Tryz.func162, Tryz.ntmps162
  go_wp2_with fail
  refine (cright_any _ _).mono ?_
  rintro e w1 ⟨rfl, rfl⟩
  rw [decide_eq_false H.out]
  go_wp2_with fail
  go_ret
  exact ⟨ret_int (by rw [HC.out]; rfl), Below.refl _ _⟩
theorem el_int : Elem Tryz.prog 47 3 (.int .i64 0) 1 8 := Elem.mk' Tryz.underlying47 (by kernel_rfl) rfl (by decide)
theorem rsizes_any (w : World) : Calls Tryz.prog 134 #[] w fun e w' => e = .returned (.slice (some ⟨w.heap.size, 0, none⟩) 32 32) ∧ w'.heap[w.heap.size]? = some (.cells sizesV 3 (0, 0)) ∧ Below w.heap.size w w' := by
 go_enter Tryz.func134, Tryz.ntmps134
 go_wp2_with fail
 go_ret
 exact ⟨rfl, heap_alloc_new w _, below_alloc w _⟩
theorem sizesV_at (k : Nat) (h : k < 32) : sizesV[k]? = some (Value.int .i64 (sizesL.getD k 0 : Nat)) := by
 have hj : k < sizesL.length := h
 simp only [sizesV, List.getElem?_toArray, List.getElem?_map, List.getElem?_eq_getElem hj, Option.map_some, List.getD_eq_getElem?_getD, Option.getD_some]
theorem rcwords_any (k : Int) (w : World) : Calls Tryz.prog 81 #[.int .i64 k] w fun e w' => e = .returned (.int .i64 (clsWords k : Nat)) ∧ Below w.heap.size w w' := by
 by_cases h1 : k < 0
 ·have HW : Hid (clsWords k = 0) := LH (by unfold clsWords; rw [if_neg (by omega)])
  go_enter Tryz.func81, Tryz.ntmps81
  go_wp2_with fail
  go_ret
  exact ⟨ret_int (by rw [HW.out]; rfl), Below.refl _ _⟩
 by_cases h2 : 32 ≤ k
 ·have HW : Hid (clsWords k = 0) := LH (by unfold clsWords; rw [if_neg (by omega)])
  go_enter Tryz.func81, Tryz.ntmps81
  go_wp2_with fail
  go_ret
  exact ⟨ret_int (by rw [HW.out]; rfl), Below.refl _ _⟩
 obtain ⟨j, rfl⟩ := Int.eq_ofNat_of_zero_le (show 0 ≤ k by omega)
 have HW := LH (clsWords_nat j (by omega))
 have HV := LH (sizesV_at j (by omega))
 generalize sizesL.getD j 0 = x at *
 go_enter Tryz.func81, Tryz.ntmps81
 go_wp2_with fail
 refine (rsizes_any _).mono ?_
 rintro e w1 ⟨rfl, hg, hb⟩
 have hc : w1.cell? ⟨w.heap.size, j, none⟩ = some (.int .i64 (x : Nat)) := (cell_of_row _ _ _ _ _ _ hg).trans HV.out
 clear hg
 go_wp2_with fail
 go_ret
 exact ⟨ret_int (by rw [HW.out]), hb⟩
def rofN (n : Int) : Int := if 1 ≤ n ∧ n ≤ 256 then (ofN n : Nat) else -1
theorem rof_any (n : Int) (w : World) : Calls Tryz.prog 174 #[.int .i64 n] w fun e w' => e = .returned (.int .i64 (rofN n)) ∧ Below w.heap.size w w' := by
 by_cases h0 : 0 < n
 ·go_enter Tryz.func174, Tryz.ntmps174
  go_wp2_with fail
  go_loopw [3] (fun i wr => ∃ k : Nat, k ≤ 32 ∧ i = .int .i64 k ∧ Hid (∀ t, t < k → ((sizesL.getD t 0 : Nat) : Int) < n) ∧ Below w.heap.size w wr) (fun i _ => 32 - (intOf i).toNat)
  case atStart => exact ⟨0, by omega, rfl, LH (fun t ht => by omega), Below.refl _ _⟩
  case round =>
   obtain ⟨k, hk, rfl, hlo, hb⟩ := hrel
   by_cases hlt : k < 32
   ·have HV := LH (sizesV_at k hlt)
    have HO := LH (ofN_eq n k hlt)
    have HM := LH (sizes_mono k 31 (by omega) (by omega))
    obtain ⟨x, hx⟩ : ∃ x, x = sizesL.getD k 0 := ⟨_, rfl⟩
    rw [← hx] at HV HO HM
    have HX := LH hx
    clear hx
    go_wp2_with fail
    refine (rsizes_any _).mono ?_
    rintro e w1 ⟨rfl, hg, hb1⟩
    have hc : w1.cell? ⟨wr.heap.size, k, none⟩ = some (.int .i64 (x : Nat)) := (cell_of_row _ _ _ _ _ _ hg).trans HV.out
    have hb2 := hb.trans (hb1.mono hb.size)
    clear hg hb1
    by_cases hle : n ≤ (x : Int)
    ·have HR : Hid (rofN n = (k : Int)) := by
      have e : sizesL.getD 31 0 = 256 := rfl
      have h31 := HM.out
      rw [e] at h31
      apply LH
      unfold rofN
      rw [if_pos (by omega), HO.out hle hlo.out]
     go_wp2_with fail
     go_ret
     exact ⟨ret_int HR.out.symm, hb2⟩
    ·go_wp2_with fail
     refine ⟨⟨k + 1, by omega, vint (by omega), LH (fun t ht => ?_), hb2⟩, by simp [intOf]; omega⟩
     by_cases e : t = k
     ·subst e; rw [← HX.out]; omega
     ·exact hlo.out t (by omega)
   ·have HR : Hid (rofN n = -1) := by
     have := hlo.out 31 (by omega)
     have e : sizesL.getD 31 0 = 256 := rfl
     rw [e] at this
     apply LH
     unfold rofN
     rw [if_neg (by omega)]
    go_wp2_with fail
    go_ret
    exact ⟨ret_int HR.out.symm, hb⟩
 ·have HR : Hid (rofN n = -1) := LH (by unfold rofN; rw [if_neg (by omega)])
  have h0' : decide (0 < n) = false := by simp; omega
  go_enter Tryz.func174, Tryz.ntmps174
  go_wp2_with fail
  refine wp_loop_rounds 1 ?_
  rw [rounds_succ]
  go_wp2_with fail
  go_ret
  exact ⟨ret_int HR.out.symm, Below.refl _ _⟩
end
section
open Go.Maps
theorem grown_drew_alloc (w : World) (o : Obj) (row : Option Nat) : w.grownBy (w.drew.alloc o) row := ⟨rfl, rfl, rfl, by simp, fun k hk _ => (below_alloc w.drew o).block k hk⟩
theorem grown_self (w : World) (row : Option Nat) : w.grownBy w row := ⟨rfl, rfl, rfl, Nat.le_refl _, fun _ _ _ => rfl⟩
theorem vi_one (xs : List Nat) : ∀ u ∈ xs.map vi, u.oneCell' = true := by
 intro u hu
 obtain ⟨x, _, rfl⟩ := List.mem_map.1 hu
 rfl
theorem rowOf_new (g n c : Nat) : ∀ b, rowOf (.slice (some ⟨g, 0, none⟩) n c) = some b → b = g := by
 intro b hb
 have hb2 : (if c = 0 then none else some g) = some b := hb
 by_cases h : c = 0
 ·rw [if_pos h] at hb2; cases hb2
 ·rw [if_neg h] at hb2; cases hb2; rfl
theorem run_append_ownI {w : World} {v : Value} {xs ys : List Nat} {a : Option Addr} {m c : Nat} (ty : TypeId) (h : OwnI w v xs) (hy : Cells w a (ys.map vi)) (hm : ys.length = m) (hn : xs.length + m ≤ 1000000000000) :
  ∃ v' w', (Builtin.append_ #[47, 47] ty #[v, .slice a m c]).run Tryz.prog w = .ok v' w' ∧ OwnI w' v' (xs ++ ys) ∧ w.grownBy w' (rowOf v) ∧ ∀ b, rowOf v' = some b → rowOf v = some b ∨ b = w.heap.size := by
 obtain ⟨i, i1, i2, i3, i4⟩ := el_int.info
 have hby : (xs.length + m) * i.bytes ≤ 140737488355328 := by rw [i4]; omega
 have h63 : xs.length + m ≤ maxLen := by unfold maxLen; omega
 by_cases hm0 : m = 0
 ·have hys : ys = [] := List.length_eq_zero_iff.1 (by omega)
  subst hm0 hys
  refine ⟨v, w, ?_, by simpa using h, grown_self _ _, fun b hb => .inl hb⟩
  rcases h with h | ⟨p, rfl, rfl⟩
  ·cases a with
   | none => exact run_append_owned_none' el_int.under i1 h
   | some d =>
    rcases h.2 with ⟨rfl, h0⟩ | ⟨g, cap, cur, rfl, hb, hg, h1, h2, h3, h4⟩
    ·simp [Builtin.append_, run_underlying el_int.under, sizeOf, typeInfo, i1, Builtin.lenOf, Builtin.firstCells, loadCells, loadCellsFrom]
    ·simp [Builtin.append_, run_underlying el_int.under, sizeOf, typeInfo, i1, Builtin.lenOf, Builtin.firstCells, loadCells, loadCellsFrom, storeCells, h1]
  ·cases a with
   | none => simp [Builtin.append_, run_underlying el_int.under, sizeOf, typeInfo, i1, Builtin.lenOf, Builtin.firstCells, storeCells]
   | some d => simp [Builtin.append_, run_underlying el_int.under, sizeOf, typeInfo, i1, Builtin.lenOf, Builtin.firstCells, loadCells, loadCellsFrom, storeCells]
 ·rcases hy with h0 | ⟨b, off, rfl, hyc⟩
  ·exfalso
   have := congrArg List.length h0
   simp at this
   rw [this] at hm; simp at hm; omega
  have hyc' : ∀ j u, (ys.map vi)[j]? = some u → w.cell? ((⟨b, off, none⟩ : Addr).add j) = some u := fun j u hj => by
   rw [add_none]; exact hyc j u hj
  have hl : (ys.map vi).length = m * 1 := by simp [hm]
  have hl' : (ys.map vi).length = m * i.size := by rw [i3]; exact hl
  have nilcase := run_append_own (P := Tryz.prog) (w := w) 0 47 ty 3 i _ 1 i.bytes el_int.under i1 i2 i3 rfl el_int.cells (by decide) (.slice none 0 0) 0 [] (World.ownsRow_nil w 0 3 1) ⟨b, off, none⟩ m c (ys.map vi) hl hyc' (vi_one ys) (by unfold maxLen at h63 ⊢; omega) (by rw [i4]; omega) (Nat.zero_le _)
  have hnr := run_append_nil (P := Tryz.prog) w 47 ty 3 i _ el_int.under i1 i2 ⟨b, off, none⟩ m c (ys.map vi) hl' hyc' (by omega) (by omega) (by rw [i4]; omega)
  obtain ⟨v1, w1, r1, o1, g1, n1⟩ := nilcase
  have hv1 : v1 = .slice (some ⟨w.heap.size, 0, none⟩) m (grownCap w m 0 3) ∧ w1 = w.drew.alloc (.cells ((ys.map vi).toArray ++ Builtin.zeroCells (Value.int .i64 0).cells (grownCap w m 0 3 - m)) 3) := by
   rw [hnr] at r1
   have e := r1
   injection e with e1 e2
   exact ⟨e1.symm, e2.symm⟩
  rcases h with h | ⟨p, rfl, rfl⟩
  ·rcases h.2 with ⟨rfl, h0⟩ | ⟨g, cap, cur, rfl, hb, hg, h1, h2, h3, h4⟩
   ·have hx : xs = [] := List.length_eq_zero_iff.1 h0
    subst hx
    refine ⟨v1, w1, r1, .inl ?_, ?_, fun b' hb' => .inr ?_⟩
    ·simpa [hm] using o1
    ·rw [hv1.2]; exact grown_drew_alloc _ _ _
    ·rw [hv1.1] at hb'; exact rowOf_new _ _ _ _ hb'
   ·obtain ⟨v2, w2, r2, o2, g2, n2⟩ := run_append_own (P := Tryz.prog) (w := w) 0 47 ty 3 i _ 1 i.bytes el_int.under i1 i2 i3 rfl el_int.cells (by decide) (.slice (some ⟨g, 0, none⟩) xs.length cap) xs.length (xs.map vi) h ⟨b, off, none⟩ m c (ys.map vi) hl hyc' (vi_one ys) h63 hby (Nat.zero_le _)
    have ho2 : OwnI w2 v2 (xs ++ ys) := .inl (by rw [List.length_append, List.map_append, hm]; exact o2)
    by_cases hroom : xs.length + m ≤ cap
    ·have hr := run_append_room (P := Tryz.prog) w 47 ty 3 i el_int.under i1 g xs.length cap cur hg ⟨b, off, none⟩ m c (ys.map vi) hl' hyc' (vi_one ys) hroom (by rw [i3, List.length_map, h3, hm]; omega)
     rw [hr] at r2
     have e := r2
     injection e with e1 e2
     have hcap : cap ≠ 0 := by omega
     refine ⟨v2, w2, by rw [hr, e1, e2], ho2, ?_, fun b' hb' => .inl ?_⟩
     ·have : rowOf (.slice (some ⟨g, 0, none⟩) xs.length cap) = some g := by show (if cap = 0 then none else some g) = some g; rw [if_neg hcap]
      rw [this]; exact g2
     ·rw [← e1] at hb'
      exact hb'
    ·have hr := run_append_grow (P := Tryz.prog) w 47 ty 3 i _ el_int.under i1 i2 ⟨g, 0, none⟩ xs.length cap (xs.map vi) (by simp [i3]) (fun j u hj => by
      have hc : RowAt w g 3 (xs.map vi) := ⟨cur, hg, cur.toList.drop (xs.length * 1), by rw [← h4, List.take_append_drop]⟩
      rw [add_none, Nat.zero_add]; exact hc.cell hj) ⟨b, off, none⟩ m c (ys.map vi) hl' hyc' (by omega) (by omega) (growslice_fits (by omega) hby)
     rw [hr] at r2
     have e := r2
     injection e with e1 e2
     refine ⟨v2, w2, by rw [hr, e1, e2], ho2, ?_, fun b' hb' => .inr ?_⟩
     ·rw [← e2]; exact grown_drew_alloc _ _ _
     ·rw [← e1] at hb'; exact rowOf_new _ _ _ _ hb'
  ·have hr := run_append_grow (P := Tryz.prog) w 47 ty 3 i _ el_int.under i1 i2 p 0 0 [] (by simp) (fun j u hj => by simp at hj) ⟨b, off, none⟩ m c (ys.map vi) hl' hyc' (by omega) (by omega) (growslice_fits (by omega) (by simpa using hby))
   refine ⟨v1, w1, ?_, .inl (by simpa [hm] using o1), ?_, fun b' hb' => .inr ?_⟩
   ·rw [hr, hv1.1, hv1.2]
    simp
   ·rw [hv1.2]; exact grown_drew_alloc _ _ _
   ·rw [hv1.1] at hb'; exact rowOf_new _ _ _ _ hb'
section
variable {w : World} {ops : Array Oper} {rest : List Oper} {o : Oper} {act : Act} {Q : Exit → Act → World → Prop}
theorem wpList_append_ownI {s x : Operand} {v : Value} {xs ys : List Nat} {a : Option Addr} {m c : Nat} (h : OwnI w v xs) (hy : Cells w a (ys.map vi)) (hm : ys.length = m) (hn : xs.length + m ≤ 1000000000000)
  (hgd : o.guard = none) (ho : o.op = .call { callee := .builtin .append, args := #[s, x], argTypes := #[47, 47] })
  (hs : act.eval s = v) (hx : act.eval x = .slice a m c)
  (hK : ∀ v' w', OwnI w' v' (xs ++ ys) → w.grownBy w' (rowOf v) → (∀ b, rowOf v' = some b → rowOf v = some b ∨ b = w.heap.size) → wpList Tryz.prog ops Q rest (act.put o.dst v') w') :
  wpList Tryz.prog ops Q (o :: rest) act w := by
 obtain ⟨v', w', hr, h1, h2, h3⟩ := run_append_ownI (c := c) o.type h hy hm hn
 refine wpList_plain hgd fun K hK' => ?_
 unfold Oper.wp
 simp [execOp, ho, resolve, invoke, builtin, hs, hx, hr, Result.andThen]
 exact hK' _ _ (hK v' w' h1 h2 h3)
end
theorem OwnI.cut {w : World} {xs : List Nat} {a : Option Addr} {c : Nat} (h : OwnI w (.slice a xs.length c) xs) {n : Nat} (hn : n ≤ xs.length) : OwnI w (.slice a n c) (xs.take n) := by
 have hl : (xs.take n).length = n := by rw [List.length_take]; omega
 rcases h with h | ⟨p, h, rfl⟩
 ·rcases h.2 with ⟨e, h0⟩ | ⟨g, cap, cur, e, hb, hg, h1, h2, h3, h4⟩
  ·have hx : xs = [] := List.length_eq_zero_iff.1 h0
   subst hx
   cases e
   obtain rfl : n = 0 := by simpa using hn
   exact .inl ⟨rfl, .inl ⟨rfl, rfl⟩⟩
  ·cases e
   refine .inl ⟨by simp, .inr ⟨g, c, cur, by rw [hl], hb, hg, by rw [hl]; omega, h2, h3, ?_⟩⟩
   rw [hl, List.map_take, ← h4, List.take_take]
   congr 1; omega
 ·cases h
  obtain rfl : n = 0 := by simpa using hn
  exact .inr ⟨p, rfl, rfl⟩
theorem OwnI.cutN {w : World} {xs : List Nat} {a : Option Addr} {c l : Nat} (h : OwnI w (.slice a l c) xs) (hl : l = xs.length) {n : Nat} (hn : n ≤ l) : OwnI w (.slice a n c) (xs.take n) := by
 subst hl; exact h.cut hn
end
section
inductive Tr where
 | nil
 | fl (ks : List Nat) (t : Tr)
 | pu (ks : List Nat) (t : Tr)
 | sq (ks : List Nat) (lo : Bool) (t : Tr)
 | br (k1 : Nat) (lo1 : Bool) (t1 : Tr) (k2 : Nat) (lo2 : Bool) (t2 : Tr)
inductive TrO where
 | nil
 | fl (os : List Oper) (t : TrO)
 | pu (os : List Oper) (t : TrO)
 | sq (os : List Oper) (lo : Bool) (t : TrO)
 | br (os1 : List Oper) (lo1 : Bool) (t1 : TrO) (os2 : List Oper) (lo2 : Bool) (t2 : TrO)
def isLoad : Op → Bool
 | .load .. => true
 | _ => false
section
variable {P : Program} {ops : Array Oper} {md : Region.Mode} {C : World → Prop} {Q : Exit → Act → World → Prop}
theorem wpAnyF_pure {loose : Nat → Bool} {i : Nat} {oi : Oper} {v : Value} (hi : ops[i]? = some oi) (hsel : ∀ (j : Nat) (o : Oper) cs b, ops[j]? = some o → o.op ≠ .select cs b)
  (hQ : ∀ c a d v w, Q (.panic c) (a.put d v) w → Q (.panic c) a w) (hlo : loose i = false) :
  ∀ (fuel : Nat) (listed : Array Bool) (a : Act) (w : World),
   (∀ j oj, ops[j]? = some oj → j ≠ i → listed.getD j true = false → (∀ e ∈ oj.after, Region.binds md e = true → e.on ≠ i) → oi.apart ops oj = true) →
   i ∈ Region.ready md ops listed → Stays P ops (fun _ => True) oi v a →
   wpAnyF P md ops Q C loose fuel (listed.setIfInBounds i true) (a.put oi.dst v) w → wpAnyF P md ops Q C loose (fuel + 1) listed a w := by
 intro fuel
 induction fuel with
 | zero =>
  intro listed a w _ hr hy H
  refine ⟨fun h => (by rw [h] at hr; cases hr), fun j hj => ?_⟩
  by_cases hji : j = i
  ·subst hji; exact hy.wpOp hi trivial ⟨fun h => (by rw [hlo] at h; cases h), H⟩
  ·have := ready_mono hj hji
   rw [H.1] at this
   cases this
 | succ fuel ih =>
  intro listed a w hfree hr hy H
  refine ⟨fun h => (by rw [h] at hr; cases hr), fun j hj => ?_⟩
  by_cases hji : j = i
  ·subst hji; exact hy.wpOp hi trivial ⟨fun h => (by rw [hlo] at h; cases h), H⟩
  ·have h1 := H.2 j (ready_mono hj hji)
   obtain ⟨hjun, oj, hoj, hall⟩ := mem_ready.1 hj
   have hiun : listed.getD i false = false := by
    have h0 := (mem_ready.1 hr).1
    rcases Nat.lt_or_ge i listed.size with h' | h'
    ·simp [h'] at h0 ⊢; exact h0
    ·simp [Array.getElem?_eq_none h']
   have hnot : ∀ e ∈ oj.after, Region.binds md e = true → e.on ≠ i := fun e he hb heq => by
    have h1 := hall e he hb
    rw [heq, hiun] at h1
    cases h1
   have h2 := wpOp_putF (C := fun _ => True) hoj (hfree j oj hoj hji hjun hnot) (fun cs b => hsel i oi cs b hi) (fun cs b => hsel j oj cs b hoj) hQ hy h1
   have hun' : ∀ k, (listed.setIfInBounds j true).getD k true = false → listed.getD k true = false := fun k hun => by
    by_cases hjk : j = k
    ·subst hjk; exact hjun
    ·rw [getD_set_ne true hjk] at hun; exact hun
   refine wpOp_mono (fun a' w' h3 => ⟨h3.2.1, ih (listed.setIfInBounds j true) a' w' (fun k ok hk hki hun hno => hfree k ok hk hki (hun' k hun) hno) (ready_mono hr (Ne.symm hji)) h3.1 ?_⟩) h2
   rw [Array.setIfInBounds_comm _ _ hji]
   exact h3.2.2
def looseL (md : Region.Mode) (ops : Array Oper) (j : Nat) : Bool :=
 (List.range ops.size).any fun i => i != j && (match ops[i]? with | some o => isLoad o.op | none => false) && !waitsFor md ops ops.size j i && !waitsFor md ops ops.size i j
def flL (md : Region.Mode) (ops : Array Oper) : List Nat → Array Bool → Bool × Array Bool
 | [], listed => (true, listed)
 | k :: ks, listed => match ops[k]? with
  | none => (false, listed)
  | some o => let r := flL md ops ks (listed.setIfInBounds k true)
   (calm o.op && (Region.ready md ops listed).contains k && Region.free md ops listed k && ((List.range ops.size).all fun j => j == k || listed.getD j true || waitsFor md ops ops.size j k || looseL md ops j) && r.1, r.2)
def puL (md : Region.Mode) (ops : Array Oper) : List Nat → Array Bool → Bool × Array Bool
 | [], listed => (true, listed)
 | k :: ks, listed => match ops[k]? with
  | none => (false, listed)
  | some o => let r := puL md ops ks (listed.setIfInBounds k true)
   (calm o.op && (Region.ready md ops listed).contains k && Region.free md ops listed k && !looseL md ops k && r.1, r.2)
def sqL (md : Region.Mode) (ops : Array Oper) (lo : Bool) : List Nat → Array Bool → Bool × Array Bool
 | [], listed => (true, listed)
 | k :: ks, listed => match ops[k]? with
  | none => (false, listed)
  | some _ => let r := sqL md ops lo ks (listed.setIfInBounds k true)
   (Region.ready md ops listed == [k] && (!looseL md ops k || (lo && ks.isEmpty)) && r.1, r.2)
def trLen : Tr → Nat
 | .nil => 0
 | .fl ks t => trLen t + ks.length
 | .pu ks t => trLen t + ks.length
 | .sq ks _ t => trLen t + ks.length
 | .br _ _ t1 _ _ _ => trLen t1 + 1
def trL (md : Region.Mode) (ops : Array Oper) : Tr → Array Bool → Bool
 | .nil, listed => (Region.ready md ops listed).isEmpty
 | .fl ks t, listed => let x := flL md ops ks listed; x.1 && trL md ops t x.2
 | .pu ks t, listed => let x := puL md ops ks listed; x.1 && trL md ops t x.2
 | .sq ks lo t, listed => let x := sqL md ops lo ks listed; x.1 && trL md ops t x.2
 | .br k1 lo1 t1 k2 lo2 t2, listed => Region.ready md ops listed == [k1, k2] && (!looseL md ops k1 || lo1) && (!looseL md ops k2 || lo2) && trLen t1 == trLen t2 && (ops[k1]?).isSome && (ops[k2]?).isSome &&
   trL md ops t1 (listed.setIfInBounds k1 true) && trL md ops t2 (listed.setIfInBounds k2 true)
def trB (md : Region.Mode) (ops : Array Oper) (t : Tr) : Bool := Region.noSelect ops && trLen t == ops.size && trL md ops t (Array.replicate ops.size false)
def trO (l : List Oper) : Tr → TrO
 | .nil => .nil
 | .fl ks t => .fl (picks l ks) (trO l t)
 | .pu ks t => .pu (picks l ks) (trO l t)
 | .sq ks lo t => .sq (picks l ks) lo (trO l t)
 | .br k1 lo1 t1 k2 lo2 t2 => .br (picks l [k1]) lo1 (trO l t1) (picks l [k2]) lo2 (trO l t2)
def wpTr (P : Program) (ops : Array Oper) (C : World → Prop) (Q : Exit → Act → World → Prop) : TrO → Act → World → Prop
 | .nil, a, w => Q .normal a w
 | .fl os t, a, w => C w ∧ wpQuiet P ops C (fun a' => wpTr P ops C Q t a' w) os a
 | .pu os t, a, w => wpQuiet P ops (fun _ => True) (fun a' => wpTr P ops C Q t a' w) os a
 | .sq os lo t, a, w => wpList P ops (Exit.then (fun a' w' => (lo = true → C w') ∧ wpTr P ops C Q t a' w') Q) os a w
 | .br os1 lo1 t1 os2 lo2 t2, a, w => wpList P ops (Exit.then (fun a' w' => (lo1 = true → C w') ∧ wpTr P ops C Q t1 a' w') Q) os1 a w ∧ wpList P ops (Exit.then (fun a' w' => (lo2 = true → C w') ∧ wpTr P ops C Q t2 a' w') Q) os2 a w
theorem stays_of {C : World → Prop} {o : Oper} {a : Act} {K : Act → Prop} {ks : List Oper} (hcalm : calm o.op = true) (h : wpQuiet P ops C K (o :: ks) a) : ∃ v, Stays P ops C o v a ∧ wpQuiet P ops C K ks (a.put o.dst v) := by
 simp only [wpQuiet] at h
 by_cases hw : Region.wanted o (yielded ops a.tmps) = true
 ·rw [if_pos hw] at h
  obtain ⟨v, h1, h2⟩ := h
  refine ⟨v, .inl ⟨hw, fun x hx => ?_⟩, h2⟩
  have h3 := h1 x hx
  unfold Oper.quietAt at h3
  cases hq : (execOp a.eval o).run P x with
  | ok nx w2 =>
   obtain ⟨u, rfl⟩ := calm_value hcalm hq
   rw [hq] at h3
   simp only [Oper.quietUpon] at h3
   rw [h3.1, h3.2]
  | halt x' w2 => rw [hq] at h3; simp only [Oper.quietUpon] at h3
 ·rw [if_neg hw] at h
  exact ⟨undef, .inr ⟨by simpa using hw, rfl⟩, h⟩
theorem flL_ok (hs : Region.noSelect ops = true) (hQ : ∀ c a d v w, Q (.panic c) (a.put d v) w → Q (.panic c) a w) {m : Nat} {R : Act → Prop} {w : World} (hC : C w) : ∀ (ks : List Nat) (listed : Array Bool) (a : Act), Shut md ops listed → (flL md ops ks listed).1 = true →
  (∀ a', Shut md ops (flL md ops ks listed).2 → R a' → wpAnyF P md ops Q C (looseL md ops) m (flL md ops ks listed).2 a' w) →
  wpQuiet P ops C R (picks ops.toList ks) a → wpAnyF P md ops Q C (looseL md ops) (m + ks.length) listed a w := by
 intro ks
 induction ks with
 | nil =>
  intro listed a hsh _ hR h
  exact hR a hsh (by simpa [picks, wpQuiet] using h)
 | cons k ks ih =>
  intro listed a hsh hB hR h
  cases hk : ops[k]? with
  | none => simp [flL, hk] at hB
  | some o =>
   have e : picks ops.toList (k :: ks) = o :: picks ops.toList ks := by simp [picks, hk]
   rw [e] at h
   simp only [flL, hk, Bool.and_eq_true] at hB hR
   obtain ⟨⟨⟨⟨hc, hr⟩, hf⟩, hlo⟩, hB'⟩ := hB
   have hrk : k ∈ Region.ready md ops listed := by simpa using hr
   obtain ⟨v, hy, hK⟩ := stays_of hc h
   refine wpAnyF_early (f := ops.size) hk (Region.noSelect_spec hs) hQ (m + ks.length) listed a w ?_ (Region.free_spec hk hf) hrk hsh hy hC (ih _ _ (hsh.set hrk) hB' hR hK)
   intro j oj hj hjk hun
   simp only [List.all_eq_true, List.mem_range, Bool.or_eq_true, beq_iff_eq] at hlo
   rcases hlo j (Array.getElem?_eq_some_iff.1 hj).1 with ((h | h) | h) | h
   ·exact absurd h hjk
   ·rw [hun] at h; cases h
   ·exact .inl h
   ·exact .inr h
theorem puL_ok (hs : Region.noSelect ops = true) (hQ : ∀ c a d v w, Q (.panic c) (a.put d v) w → Q (.panic c) a w) {m : Nat} {R : Act → Prop} {w : World} : ∀ (ks : List Nat) (listed : Array Bool) (a : Act), Shut md ops listed → (puL md ops ks listed).1 = true →
  (∀ a', Shut md ops (puL md ops ks listed).2 → R a' → wpAnyF P md ops Q C (looseL md ops) m (puL md ops ks listed).2 a' w) →
  wpQuiet P ops (fun _ => True) R (picks ops.toList ks) a → wpAnyF P md ops Q C (looseL md ops) (m + ks.length) listed a w := by
 intro ks
 induction ks with
 | nil =>
  intro listed a hsh _ hR h
  exact hR a hsh (by simpa [picks, wpQuiet] using h)
 | cons k ks ih =>
  intro listed a hsh hB hR h
  cases hk : ops[k]? with
  | none => simp [puL, hk] at hB
  | some o =>
   have e : picks ops.toList (k :: ks) = o :: picks ops.toList ks := by simp [picks, hk]
   rw [e] at h
   simp only [puL, hk, Bool.and_eq_true, Bool.not_eq_true'] at hB hR
   obtain ⟨⟨⟨⟨hc, hr⟩, hf⟩, hlo⟩, hB'⟩ := hB
   have hrk : k ∈ Region.ready md ops listed := by simpa using hr
   obtain ⟨v, hy, hK⟩ := stays_of hc h
   exact wpAnyF_pure hk (Region.noSelect_spec hs) hQ hlo (m + ks.length) listed a w (Region.free_spec hk hf) hrk hy (ih _ _ (hsh.set hrk) hB' hR hK)
theorem oneL_ok {m : Nat} {lo : Bool} {R : Act → World → Prop} {k : Nat} {o : Oper} (hk : ops[k]? = some o) {L : Array Bool} {a : Act} {w : World} (hlo : looseL md ops k = true → lo = true)
  (hR : ∀ a' w', (lo = true → C w') → R a' w' → wpAnyF P md ops Q C (looseL md ops) m L a' w')
  (h : wpList P ops (Exit.then (fun a' w' => (lo = true → C w') ∧ R a' w') Q) [o] a w) : wpOp P ops Q k (fun a' w' => (looseL md ops k = true → C w') ∧ wpAnyF P md ops Q C (looseL md ops) m L a' w') a w := by
 unfold wpOp
 simp only [hk]
 unfold wpList at h
 have hmono : ∀ a' w', wpList P ops (Exit.then (fun a' w' => (lo = true → C w') ∧ R a' w') Q) [] a' w' → (looseL md ops k = true → C w') ∧ wpAnyF P md ops Q C (looseL md ops) m L a' w' := by
  intro a' w' h'
  have h' : (lo = true → C w') ∧ R a' w' := by simpa [wpList, Exit.then] using h'
  exact ⟨fun hl => h'.1 (hlo hl), hR a' w' h'.1 h'.2⟩
 by_cases hw : Region.wanted o (yielded ops a.tmps) = true
 ·rw [if_pos hw] at h ⊢
  rcases h with h | h
  ·refine .inl ?_
   have h := Oper.wp_mono hmono h
   unfold Oper.wp at *
   generalize (execOp a.eval o).run P w = r at *
   cases r with
   | ok n w' => cases n <;> simp only [Oper.upon] at h ⊢ <;> exact h
   | halt x w' => cases x <;> simp only [Oper.upon] at h ⊢ <;> exact h
  ·exact .inr h
 ·rw [if_neg hw] at h ⊢
  exact hmono _ _ h
theorem sqL_ok {m : Nat} {lo : Bool} {R : Act → World → Prop} : ∀ (ks : List Nat) (listed : Array Bool) (a : Act) (w : World), Shut md ops listed → (sqL md ops lo ks listed).1 = true →
  (∀ a' w', Shut md ops (sqL md ops lo ks listed).2 → (lo = true → C w') → R a' w' → wpAnyF P md ops Q C (looseL md ops) m (sqL md ops lo ks listed).2 a' w') →
  wpList P ops (Exit.then (fun a' w' => (lo = true → C w') ∧ R a' w') Q) (picks ops.toList ks) a w → wpAnyF P md ops Q C (looseL md ops) (m + ks.length) listed a w := by
 intro ks
 induction ks with
 | nil =>
  intro listed a w hsh _ hR h
  have h : (lo = true → C w) ∧ R a w := by simpa [picks, wpList, Exit.then] using h
  exact hR a w hsh h.1 h.2
 | cons k ks ih =>
  intro listed a w hsh hB hR h
  cases hk : ops[k]? with
  | none => simp [sqL, hk] at hB
  | some o =>
   have e : picks ops.toList (k :: ks) = o :: picks ops.toList ks := by simp [picks, hk]
   rw [e] at h
   simp only [sqL, hk, Bool.and_eq_true, beq_iff_eq] at hB hR
   obtain ⟨⟨hr, hlo⟩, hB'⟩ := hB
   have hrk : k ∈ Region.ready md ops listed := by rw [hr]; simp
   refine ⟨fun h' => (by rw [hr] at h'; cases h'), fun i hi => ?_⟩
   rw [hr] at hi
   obtain rfl : i = k := by simpa using hi
   unfold wpOp
   simp only [hk]
   unfold wpList at h
   have hmono : ∀ a' w', wpList P ops (Exit.then (fun a' w' => (lo = true → C w') ∧ R a' w') Q) (picks ops.toList ks) a' w' →
     (looseL md ops i = true → C w') ∧ wpAnyF P md ops Q C (looseL md ops) (m + ks.length) (listed.setIfInBounds i true) a' w' := by
    intro a' w' h'
    refine ⟨fun hl => ?_, ih _ _ _ (hsh.set hrk) hB' hR h'⟩
    simp only [hl, Bool.not_true, Bool.false_or, Bool.and_eq_true, List.isEmpty_iff] at hlo
    obtain ⟨hlo1, rfl⟩ := hlo
    have h' : (lo = true → C w') ∧ R a' w' := by simpa [picks, wpList, Exit.then] using h'
    exact h'.1 hlo1
   by_cases hw : Region.wanted o (yielded ops a.tmps) = true
   ·rw [if_pos hw] at h ⊢
    rcases h with h | h
    ·refine .inl ?_
     have h := Oper.wp_mono hmono h
     unfold Oper.wp at *
     generalize (execOp a.eval o).run P w = r at *
     cases r with
     | ok n w' => cases n <;> simp only [Oper.upon] at h ⊢ <;> exact h
     | halt x w' => cases x <;> simp only [Oper.upon] at h ⊢ <;> exact h
    ·exact .inr h
   ·rw [if_neg hw] at h ⊢
    exact hmono _ _ h
theorem tr_ok (hs : Region.noSelect ops = true) (hQ : ∀ c a d v w, Q (.panic c) (a.put d v) w → Q (.panic c) a w) : ∀ (t : Tr) (listed : Array Bool) (a : Act) (w : World), Shut md ops listed →
  trL md ops t listed = true → wpTr P ops C Q (trO ops.toList t) a w → wpAnyF P md ops Q C (looseL md ops) (trLen t) listed a w := by
 intro t
 induction t with
 | nil =>
  intro listed a w _ hB h
  exact ⟨by simpa [trL] using hB, by simpa [wpTr, trO] using h⟩
 | fl ks t ih =>
  intro listed a w hsh hB h
  simp only [trL, Bool.and_eq_true] at hB
  simp only [trO, wpTr] at h
  exact flL_ok hs hQ h.1 ks listed a hsh hB.1 (fun a' hsh' hR => ih _ a' w hsh' hB.2 hR) h.2
 | pu ks t ih =>
  intro listed a w hsh hB h
  simp only [trL, Bool.and_eq_true] at hB
  simp only [trO, wpTr] at h
  exact puL_ok hs hQ ks listed a hsh hB.1 (fun a' hsh' hR => ih _ a' w hsh' hB.2 hR) h
 | sq ks lo t ih =>
  intro listed a w hsh hB h
  simp only [trL, Bool.and_eq_true] at hB
  simp only [trO, wpTr] at h
  exact sqL_ok ks listed a w hsh hB.1 (fun a' w' hsh' _ hR => ih _ a' w' hsh' hB.2 hR) h
 | br k1 lo1 t1 k2 lo2 t2 ih1 ih2 =>
  intro listed a w hsh hB h
  simp only [trL, Bool.and_eq_true, beq_iff_eq] at hB
  obtain ⟨⟨⟨⟨⟨⟨⟨hr, hl1⟩, hl2⟩, hlen⟩, ho1⟩, ho2⟩, hB1⟩, hB2⟩ := hB
  obtain ⟨o1, ho1⟩ := Option.isSome_iff_exists.1 ho1
  obtain ⟨o2, ho2⟩ := Option.isSome_iff_exists.1 ho2
  simp only [trO, wpTr] at h
  have e1 : picks ops.toList [k1] = [o1] := by simp [picks, ho1]
  have e2 : picks ops.toList [k2] = [o2] := by simp [picks, ho2]
  rw [e1, e2] at h
  refine ⟨fun h' => (by rw [hr] at h'; cases h'), fun i hi => ?_⟩
  have hri := hi
  rw [hr] at hi
  simp only [List.mem_cons, List.not_mem_nil, or_false] at hi
  rcases hi with rfl | rfl
  ·exact oneL_ok ho1 (fun hl => by simpa [hl] using hl1) (fun a' w' _ hR => ih1 _ a' w' (hsh.set hri) hB1 hR) h.1
  ·exact oneL_ok ho2 (fun hl => by simpa [hl] using hl2) (fun a' w' _ hR => by have := ih2 _ a' w' (hsh.set hri) hB2 hR; rw [← hlen] at this; exact this) h.2
theorem wp_region_tr {id : Nat} {a : Act} {w : World} {l : List Oper} (t : Tr) (hm : P.follows .mixedOrders = true) (hB : trB .any l.toArray t = true)
  (hQ : ∀ c a d v w, Q (.panic c) (a.put d v) w → Q (.panic c) a w)
  (h : wpTr P l.toArray C Q (trO l t) a w.drew) : (Code.region id l.toArray true).wp P Q a w := by
 simp only [trB, Bool.and_eq_true, beq_iff_eq] at hB
 refine wp_region_any hm (wpAny_of_F (C := C) (loose := looseL .any l.toArray) _ _ _ _ ?_)
 have := tr_ok (md := .any) (C := C) hB.1.1 hQ t (Array.replicate l.toArray.size false) a w.drew (shut_none _) hB.2 h
 rw [hB.1.2] at this
 exact this
theorem wpTr_fl {os : List Oper} {t : TrO} {a : Act} {w : World} (hC : C w) (h : wpQuiet P ops C (fun a' => wpTr P ops C Q t a' w) os a) : wpTr P ops C Q (.fl os t) a w := ⟨hC, h⟩
theorem wpTr_pu {os : List Oper} {t : TrO} {a : Act} {w : World} (h : wpQuiet P ops (fun _ => True) (fun a' => wpTr P ops C Q t a' w) os a) : wpTr P ops C Q (.pu os t) a w := h
theorem wpTr_sq {os : List Oper} {lo : Bool} {t : TrO} {a : Act} {w : World}
  (h : ∀ K : Act → World → Prop, (∀ a' w', (lo = true → C w') → wpTr P ops C Q t a' w' → K a' w') → wpList P ops (Exit.then K Q) os a w) : wpTr P ops C Q (.sq os lo t) a w :=
 h _ (fun _ _ h1 h2 => ⟨h1, h2⟩)
theorem wpTr_br {os1 os2 : List Oper} {lo1 lo2 : Bool} {t1 t2 : TrO} {a : Act} {w : World} (h1 : wpTr P ops C Q (.sq os1 lo1 t1) a w) (h2 : wpTr P ops C Q (.sq os2 lo2 t2) a w) : wpTr P ops C Q (.br os1 lo1 t1 os2 lo2 t2) a w := ⟨h1, h2⟩
theorem wpTr_last {os : List Oper} {a : Act} {w : World} (h : wpList P ops Q os a w) : wpTr P ops C Q (.sq os false .nil) a w := by
 unfold wpTr
 have e : (fun a' w' => (false = true → C w') ∧ wpTr P ops C Q .nil a' w') = Q .normal := by
  funext a' w'
  simp [wpTr]
 rw [e, exit_then_self]
 exact h
end
end
section
open Go.Maps
structure Step1 (w w' : World) (f mb n : Nat) (V : Nat → Value) (S S' : FL) (i : Nat) (v : Value) (xs : List Nat) : Prop where
 head : w'.heap[f]? = some (.cells ((List.range 32).map (fun j => if j = i then v else V j) ++ [Value.map (some mb)]).toArray 235 (0, 0))
 map : ∃ M, VMap Tryz.prog 237 w' mb n M ∧ ∀ m k : Nat, m < 4 → k < 32 → (M (pairKey m k)).getD (.slice none 0 0) = if slotI m k = i then v else V (slotI m k)
 own : OwnI w' v xs
 row : ∀ b, rowOf v = some b → rowOf (V i) = some b ∨ w.heap.size ≤ b
 rest : ∀ b, b < w.heap.size → b ≠ f → b ≠ mb → rowOf (V i) ≠ some b → w'.heap[b]? = w.heap[b]?
 size : w.heap.size ≤ w'.heap.size
 lists : ∀ j, j < 160 → S'.at j = if j = i then xs else S.at j
theorem FreeIn.step {w w' : World} {f mb n n' : Nat} {R : List Nat} {V : Nat → Value} {S S' : FL} {i : Nat} {v : Value} {xs : List Nat} (h : FreeIn w f mb n V S) (hi : i < 160)
  (h1 : f ∈ R) (h2 : mb ∈ R) (h3 : ∀ b ∈ R, b < w.heap.size) (h4 : ∀ j, j < 160 → ∀ b, rowOf (V j) = some b → b ∈ R) (t : Step1 w w' f mb n' V S S' i v xs) :
  FreeIn w' f mb n' (fun j => if j = i then v else V j) S' ∧ FreeAt w' f mb n' (R ++ (rowOf v).toList) S' := by
 obtain ⟨M, hm, hv⟩ := t.map
 have hfl := h3 f h1
 have hml := h3 mb h2
 have hnew : ∀ b, rowOf v = some b → b < w'.heap.size := t.own.lt
 have key : FreeIn w' f mb n' (fun j => if j = i then v else V j) S' := by
  refine ⟨t.head, ⟨M, hm, hv⟩, fun j hj => ?_, fun j k hj hk hne b hb => ?_, fun j hj => ?_, h.ne⟩
  ·rw [t.lists j hj]
   by_cases e : j = i
   ·rw [if_pos e, if_pos e]; exact t.own
   ·rw [if_neg e, if_neg e]
    refine (h.rows j hj).keep fun b hb => t.rest b (h3 b (h4 j hj b hb)) (fun e2 => (h.neF j hj).1 (e2 ▸ hb)) (fun e2 => (h.neF j hj).2 (e2 ▸ hb)) (h.apart j i hj hi e b hb)
  ·by_cases e1 : j = i
   ·rw [if_pos e1] at hb
    rw [if_neg (fun c => hne (e1.trans c.symm))]
    rcases t.row b hb with hb | hb
    ·exact fun c => h.apart i k hi hk (fun c => hne (e1.trans c)) b hb c
    ·exact fun c => by have := h3 b (h4 k hk b c); omega
   ·rw [if_neg e1] at hb
    by_cases e2 : k = i
    ·rw [if_pos e2]
     intro c
     rcases t.row b c with c | c
     ·exact h.apart j i hj hi e1 b hb c
     ·have := h3 b (h4 j hj b hb); omega
    ·rw [if_neg e2]
     exact h.apart j k hj hk hne b hb
  ·by_cases e : j = i
   ·rw [if_pos e]
    refine ⟨fun c => ?_, fun c => ?_⟩
    ·rcases t.row f c with c | c
     ·exact (h.neF i hi).1 c
     ·omega
    ·rcases t.row mb c with c | c
     ·exact (h.neF i hi).2 c
     ·omega
   ·rw [if_neg e]; exact h.neF j hj
 refine ⟨key, _, key, List.mem_append_left _ h1, List.mem_append_left _ h2, fun b hb => ?_, fun j hj b hb => ?_⟩
 ·rcases List.mem_append.1 hb with hb | hb
  ·exact Nat.lt_of_lt_of_le (h3 b hb) t.size
  ·exact hnew b (by simpa using hb)
 ·by_cases e : j = i
  ·rw [if_pos e] at hb
   exact List.mem_append_right _ (by simp [hb])
  ·rw [if_neg e] at hb
   exact List.mem_append_left _ (h4 j hj b hb)
def FreeGo (w w' : World) (f mb n : Nat) (R : List Nat) (S : FL) : Prop := ∃ R', FreeAt w' f mb n R' S ∧ Touch R w w' ∧ ∀ b ∈ R', b ∈ R ∨ w.heap.size ≤ b
theorem FreeGo.refl {w : World} {f mb n : Nat} {R : List Nat} {S : FL} (h : FreeAt w f mb n R S) : FreeGo w w f mb n R S := ⟨R, h, Touch.refl _ _, fun _ h => .inl h⟩
theorem Step1.go {w w' : World} {f mb n n' : Nat} {R : List Nat} {V : Nat → Value} {S S' : FL} {i : Nat} {v : Value} {xs : List Nat} (h : FreeIn w f mb n V S) (hi : i < 160)
  (h1 : f ∈ R) (h2 : mb ∈ R) (h3 : ∀ b ∈ R, b < w.heap.size) (h4 : ∀ j, j < 160 → ∀ b, rowOf (V j) = some b → b ∈ R) (t : Step1 w w' f mb n' V S S' i v xs) (ht : w'.os = w.os ∧ w'.tape = w.tape ∧ w'.output = w.output) :
  FreeGo w w' f mb n' R S' := by
 refine ⟨_, (h.step hi h1 h2 h3 h4 t).2, ⟨ht.1, ht.2.1, ht.2.2, t.size, fun b hb hn => t.rest b hb (fun e => hn (e ▸ h1)) (fun e => hn (e ▸ h2)) (fun e => hn (h4 i hi b e))⟩, fun b hb => ?_⟩
 rcases List.mem_append.1 hb with hb | hb
 ·exact .inl hb
 ·rcases t.row b (by simpa using hb) with c | c
  ·exact .inl (h4 i hi b c)
  ·exact .inr c
theorem step_g {w wd w1 : World} {f mb n : Nat} {R : List Nat} {V : Nat → Value} {S : FL} {k : Nat} {v : Value} {xs : List Nat} (hi : FreeIn w f mb n V S) (hk : k < 32)
  (h1 : f ∈ R) (h2 : mb ∈ R) (h3 : ∀ b ∈ R, b < w.heap.size) (hd : Below w.heap.size w wd) (hg : wd.grownBy w1 (rowOf (V k))) (hv : OwnI w1 v xs) (hrow : ∀ b, rowOf v = some b → rowOf (V k) = some b ∨ w.heap.size ≤ b) :
  Step1 w (w1.setCell ⟨f, k, none⟩ v) f mb n V S (S.setG k xs) k v xs := by
 have hfl := h3 f h1
 have hml := h3 mb h2
 obtain ⟨M, hm, hvv⟩ := hi.map
 have hb : ∀ b, b < w.heap.size → rowOf (V k) ≠ some b → w1.heap[b]? = w.heap[b]? := fun b hb hn => (hg.block b (Nat.lt_of_lt_of_le hb hd.size) (fun e => hn e.symm)).trans (hd.block b hb)
 have hf1 := (hb f hfl (hi.neF k (by omega)).1).trans hi.head
 have hne : ∀ b, rowOf v = some b → b ≠ f := fun b hb e => by
  subst e
  rcases hrow b hb with c | c
  ·exact (hi.neF k (by omega)).1 c
  ·omega
 refine ⟨?_, ⟨M, (hm.block ?_), fun m j hm4 hj => ?_⟩, hv.keep (fun b hb => Below.heap_setCell _ _ _ _ (hne b hb)), hrow, fun b hbl h5 h6 h7 => ?_, ?_, fun j hj => ?_⟩
 ·rw [heap_setCell_same w1 f k _ _ _ hf1]
  congr 2
  apply Array.ext'
  rw [Array.toList_setIfInBounds]
  simp only
  apply List.ext_getElem?
  intro t
  rw [List.getElem?_set]
  by_cases e : k = t
  ·subst e
   rw [if_pos rfl, if_pos (by simp; omega), List.getElem?_append_left (by simpa using hk)]
   simp [hk]
  ·rw [if_neg e]
   by_cases ht : t < 32
   ·rw [List.getElem?_append_left (by simpa using ht), List.getElem?_append_left (by simpa using ht)]
    have : ¬ t = k := fun c => e c.symm
    simp [ht, this]
   ·rw [List.getElem?_append_right (by simpa using ht), List.getElem?_append_right (by simpa using ht)]
    simp
 ·rw [Below.heap_setCell _ _ _ _ (fun e => hi.ne e.symm)]
  exact hb mb hml (hi.neF k (by omega)).2
 ·rw [hvv m j hm4 hj, if_neg (by unfold slotI; omega)]
 ·rw [Below.heap_setCell _ _ _ _ h5]
  exact hb b hbl h7
 ·have := hg.size; have := hd.size; simp; omega
 ·unfold FL.at
  simp only [FL.setG_g, FL.setG_c]
  by_cases e : j < 32
  ·rw [if_pos e, if_pos e]
  ·rw [if_neg e, if_neg e, if_neg (by omega)]
def FL.upto (S : FL) (N : Nat) : Prop := ∀ i, i < 160 → (S.at i).length ≤ N
theorem FL.upto.mono {S : FL} {N M : Nat} (h : S.upto N) (hN : N ≤ M) : S.upto M := fun i hi => Nat.le_trans (h i hi) hN
theorem FL.pushed_upto {S : FL} {N : Nat} (h : S.upto N) (k a : Nat) : (S.pushed k a).upto (N + 1) := by
 intro i hi
 have := h i hi
 unfold FL.pushed
 split
 ·omega
 ·unfold FL.at at this ⊢
  simp only [FL.setG_g, FL.setG_c]
  by_cases e : i < 32
  ·rw [if_pos e] at this ⊢
   split
   ·rename_i e2; subst e2; simp; omega
   ·omega
  ·rw [if_neg e] at this ⊢; omega
theorem grown_touchO {w w' : World} {row : Option Nat} (h : w.grownBy w' row) : Touch row.toList w w' :=
 ⟨h.os, h.tape, h.output, h.size, fun k hk hn => h.block k hk (fun e => hn (by rw [← e]; simp))⟩
def Pushed (w : World) (f mb n : Nat) (R : List Nat) (S : FL) (k a : Nat) : Ending → World → Prop := fun e w' => e = .returned (.int .i64 (if S.has k a then 41 else 0)) ∧ FreeGo w w' f mb n R (S.pushed k a)
theorem fpush_any {w : World} {f mb n : Nat} {R : List Nat} {S : FL} (h : FreeAt w f mb n R S) (hL : S.upto 1000000) (k a : Nat) (hk : k < 32) :
  Calls Tryz.prog 164 #[vfree f, .int .i64 (k : Int), .int .i64 (a : Int)] w (Pushed w f mb n R S k a) := by
 have HF := LH h
 have HHas := LH (fhas_any h hL k a hk)
 have HP : Hid (∀ x w', x = (if S.has k a then 41 else 0) → FreeGo w w' f mb n R (S.pushed k a) → Pushed w f mb n R S k a (.returned (.int .i64 x)) w') := LH (fun x w' h1 h2 => by subst h1; exact ⟨rfl, h2⟩)
 generalize Pushed w f mb n R S k a = Post at *
 obtain ⟨V, hi, h1, h2, h3, h4⟩ := h
 have HI := LH hi
 have HR1 := LH h1
 have HR2 := LH h2
 have HR3 := LH h3
 have HR4 := LH h4
 have ck := hi.g hk
 have HOwn := LH (hi.rows k (by omega))
 have HLk : Hid ((S.g k).length ≤ 1000000) := LH (by have := hL k (by omega); rwa [S.at_g hk] at this)
 clear hi h1 h2 h3 h4 hL
 go_enter Tryz.func164, Tryz.ntmps164
 go_wp2_with fail
 refine (cright_any _ _).mono ?_
 rintro e w1 ⟨rfl, rfl⟩
 rw [decide_eq_true (show (0 : Int) ≤ (k : Int) ∧ (k : Int) < 32 by omega)]
 go_wp2_with fail
 refine HHas.out.mono ?_
 rintro e w1 ⟨rfl, rfl⟩
 cases hh : S.has k a with
 | true =>
  have HE : Hid (41 = (if S.has k a then (41 : Int) else 0) ∧ FreeGo w w f mb n R (S.pushed k a)) := LH ⟨by rw [hh]; rfl, by unfold FL.pushed; rw [hh]; exact FreeGo.refl HF.out⟩
  clear hh
  go_wp2_with fail
  exact HP.out _ _ HE.out.1 HE.out.2
 | false =>
  have HE : Hid (0 = (if S.has k a then (41 : Int) else 0) ∧ S.pushed k a = S.setG k (S.g k ++ [a])) := LH ⟨by rw [hh]; rfl, by unfold FL.pushed; rw [hh]; rfl⟩
  clear hh
  go_upto_region 5 with fail
  have hfn : f ∉ (rowOf (V k)).toList := fun hm => (HI.out.neF k (by omega)).1 (by simpa using hm)
  have r0 := fun x => near_cell (L := (rowOf (V k)).toList) ck hfn x
  clear ck hfn
  have hC1 : ∃ x : Near (rowOf (V k)).toList w, w.drew = x.val := near_of (Touch.ofBelow (later_below (later_drew w)))
  have HD0 : Hid (Below w.heap.size w w.drew) := LH (later_below (later_drew w))
  refine wp_region_seg (C := fun w' => ∃ x : Near (rowOf (V k)).toList w, w' = x.val) [.fl [0, 1, 2, 3, 4, 5, 6, 7, 8, 11, 12], .sq [9] true, .sq [10] true, .sq [13, 14] false] (by kernel_rfl) (by kernel_rfl) (by intro c a d v w h; cases d <;> exact h) ?_
  simp only [segs, picks, List.getElem?_cons_succ, List.getElem?_cons_zero]
  refine wpSeg_fl hC1 ?_
  repeat (first | go_big_quiet_step (fail) | quiet_step (fail))
  refine wpQuiet_nil ?_
  clear r0
  generalize w.drew = wd at *
  refine wpSeg_sq (fun K hK => ?_)
  go_wp2_with fail
  have hbn := below_alloc wd (.cells #[.int .i64 (a : Int)] 3)
  have HB2 : Hid (Below w.heap.size w (wd.alloc (.cells #[.int .i64 (a : Int)] 3))) := LH (HD0.out.trans (hbn.mono HD0.out.size))
  have hC2 : ∃ x : Near (rowOf (V k)).toList w, wd.alloc (.cells #[.int .i64 (a : Int)] 3) = x.val := near_of (Touch.ofBelow HB2.out)
  have HC2 : Hid (Cells (wd.alloc (.cells #[.int .i64 (a : Int)] 3)) (some ⟨wd.heap.size, 0, none⟩) ([a].map vi)) := LH (RowAt.cells ⟨_, heap_alloc_new _ _, [], rfl⟩)
  clear hbn
  go_wp2_with fail
  refine hK _ _ (fun _ => hC2) ?_
  clear hK K
  obtain ⟨q, hq⟩ : ∃ q, q = wd.heap.size := ⟨_, rfl⟩
  rw [← hq] at HC2 ⊢
  clear hq
  generalize wd.alloc _ = we at *
  have HOe : Hid (OwnI we (V k) (S.g k)) := LH (by rw [← S.at_g hk]; exact HOwn.out.keep (fun b hb => HB2.out.block b (HR3.out b (HR4.out k (by omega) b hb))))
  have HN1 : Hid ((S.g k).length + 1 ≤ 1000000000000) := LH (by have := HLk.out; omega)
  refine wpSeg_sq (fun K hK => ?_)
  go_wp2_with (refine wpList_append_ownI (m := 1) HOe.out HC2.out rfl HN1.out rfl rfl rfl rfl ?_; intro v' w1 ho hg hr; have HO1 := LH ho; have HG1 := LH hg; have HR := LH hr; clear ho hg hr)
  have HT1 : Hid (Touch (rowOf (V k)).toList w w1) := LH ((Touch.ofBelow HB2.out).trans (grown_touchO HG1.out))
  have hC3 := near_of HT1.out
  go_wp2_with fail
  refine hK _ _ (fun _ => hC3) ?_
  clear hK K
  have hst := step_g HI.out hk HR1.out HR2.out HR3.out HB2.out HG1.out HO1.out (fun b hb => by
   rcases HR.out b hb with c | c
   ·exact .inl c
   ·exact .inr (by rw [c]; exact HB2.out.size))
  have HGo : Hid (FreeGo w (w1.setCell ⟨f, k, none⟩ v') f mb n R (S.pushed k a)) := LH (by
   rw [HE.out.2]
   exact hst.go HI.out (by omega) HR1.out HR2.out HR3.out HR4.out ⟨HG1.out.os.trans HB2.out.os, HG1.out.tape.trans HB2.out.tape, HG1.out.output.trans HB2.out.output⟩)
  have HE0 := LH HE.out.1
  have HF1 : Hid (w1.heap[f]? = some (.cells ((List.range 32).map V ++ [Value.map (some mb)]).toArray 235 (0, 0))) := LH (by
   have := (HG1.out.block f (Nat.lt_of_lt_of_le (HR3.out f HR1.out) HB2.out.size) (fun e => (HI.out.neF k (by omega)).1 e.symm)).trans (HB2.out.block f (HR3.out f HR1.out))
   exact this.trans HI.out.head)
  have fr : w1.frozen? ⟨f, k, none⟩ = false := frozen_of_row _ _ _ _ _ HF1.out
  have ck1 : w1.cell? ⟨f, k, none⟩ = some (V k) := (cell_of_row _ _ k _ _ _ HF1.out).trans (HI.out.lt hk)
  obtain ⟨a', c', e', _⟩ := HO1.out.cells
  obtain ⟨l', hl'⟩ : ∃ l', l' = (S.g k ++ [a]).length := ⟨_, rfl⟩
  rw [← hl'] at e'
  subst e'
  clear hst hl'
  refine wpSeg_last ?_
  go_wp2_with fail
  generalize w1.setCell _ _ = w2 at *
  go_wp2_with fail
  exact HP.out _ _ HE0.out HGo.out
end
section
theorem rhright_any (k c l : Int) (w : World) : Calls Tryz.prog 83 #[vhd k c l] w fun e w' => e = .returned (.bool (hdRight k c l)) ∧ Below w.heap.size w w' := by
  have HB := LH (below_alloc w)
  go_enter Tryz.func83, Tryz.ntmps83
  go_wp2_with fail
  all_goals
    go_ret
    refine ⟨ret_bool ?_, HB.out _⟩
    clear HB
    simp only [beq_iff_eq, beq_eq_false_iff_ne] at *
    first
      | exact hdR_t (by unfold HdRight; omega)
      | exact hdR_f (by unfold HdRight; omega)
      | (by_cases hl : l ≤ 255
         · exact (decide_eq_true hl).trans (hdR_t (by unfold HdRight; omega))
         · exact (decide_eq_false hl).trans (hdR_f (by unfold HdRight; omega)))
      | (by_cases hl : l = 0
         · exact (beq_iff_eq.2 hl).trans (hdR_t (by unfold HdRight; omega))
         · exact (beq_eq_false_iff_ne.2 hl).trans (hdR_f (by unfold HdRight; omega)))
theorem rencode_any (b k c l : Int) (hb0 : 0 ≤ b) (hb1 : b ≤ 1000000) (w : World) : Calls Tryz.prog 36 #[.int .i64 b, vhd k c l] w fun e w' => e = .returned (vu64 (encN b k c l)) ∧ Below w.heap.size w w' := by
 have hb := below_alloc w (Obj.cells #[Value.int .i64 k, Value.int .i64 c, Value.int .i64 l] 105)
 have hg := heap_alloc_new w (Obj.cells #[Value.int .i64 k, Value.int .i64 c, Value.int .i64 l] 105)
 go_enter Tryz.func36, Tryz.ntmps36
 go_wp2_with fail
 generalize w.alloc (Obj.cells #[Value.int .i64 k, Value.int .i64 c, Value.int .i64 l] 105) = w0 at *
 refine (rhright_any k c l w0).mono ?_
 rintro e w1 ⟨rfl, hb1⟩
 have hgl : w.heap.size < w0.heap.size := (Array.getElem?_eq_some_iff.1 hg).1
 have hbb := hb.trans (hb1.mono hb.size)
 have hg1 : w1.heap[w.heap.size]? = _ := (hb1.block _ hgl).trans hg
 have c0 : w1.cell? ⟨w.heap.size, 0, none⟩ = some (.int .i64 k) := cell_of_row _ _ 0 _ _ _ hg1
 have c1 : w1.cell? ⟨w.heap.size, 1, none⟩ = some (.int .i64 c) := cell_of_row _ _ 1 _ _ _ hg1
 have c2 : w1.cell? ⟨w.heap.size, 2, none⟩ = some (.int .i64 l) := cell_of_row _ _ 2 _ _ _ hg1
 clear hb hb1 hg hgl hg1
 cases hr : hdRight k c l
 ·have HE : Hid (encN b k c l = 0) := LH (by unfold encN; rw [hr]; rfl)
  clear hr
  go_wp2_with fail
  go_ret
  exact ⟨ret_int (by rw [HE.out]; rfl), hbb⟩
 ·have HE : Hid (encN b k c l = sealN (hdN k c l) (pl (256 + b))) := LH (by unfold encN; rw [hr]; rfl)
  have hn := hdN_lt hr
  obtain ⟨⟨k0, k1⟩, ⟨c0', c1'⟩, l0, l1⟩ := hd_small hr
  have HN : Hid (k + 4 * c + 256 * l = (hdN k c l : Int)) := LH (by unfold hdN; omega)
  clear hr
  generalize hdN k c l = n at *
  go_wp2_with fail
  rw [HN.out]
  refine (rseal_any n _ hn _).mono ?_
  rintro e w2 ⟨rfl, hb2⟩
  rw [← HE.out]
  go_wp2_with fail
  go_ret
  exact ⟨rfl, hbb.trans (hb2.mono hbb.size)⟩
theorem rdecode_any (b : Int) (x : Nat) (hb0 : 0 ≤ b) (hb1' : b ≤ 1000000) (hx : x < 18446744073709551616) (w : World) :
  Calls Tryz.prog 97 #[.int .i64 b, vu64 x] w fun e w' => e = .returned (decN b x).val ∧ Below w.heap.size w w' := by
 have hbA := below_alloc w (Obj.cells #[Value.int .i64 0, Value.int .i64 0, Value.int .i64 0] 105)
 have hg := heap_alloc_new w (Obj.cells #[Value.int .i64 0, Value.int .i64 0, Value.int .i64 0] 105)
 go_enter Tryz.func97, Tryz.ntmps97
 go_wp2_with fail
 generalize w.alloc (Obj.cells #[Value.int .i64 0, Value.int .i64 0, Value.int .i64 0] 105) = w0 at *
 refine (ropen_any x _ hx w0).mono ?_
 rintro e w1 ⟨rfl, hbo⟩
 have hgl : w.heap.size < w0.heap.size := (Array.getElem?_eq_some_iff.1 hg).1
 have hbb := hbA.trans (hbo.mono hbA.size)
 have hg1 : w1.heap[w.heap.size]? = _ := (hbo.block _ hgl).trans hg
 clear hbA hbo hg hgl
 cases ho : openN x (pl (256 + b)) with
 | none =>
  have HV := LH (decN_none ho)
  clear ho
  simp only [openV]
  go_wp2_with (refine wpList_store_row (cs := #[.int .i64 0, .int .i64 0, .int .i64 0]) aggRh hg1 rfl rfl (by simp [Value.oneCell']) rfl rfl rfl rfl ?_; intro w2 hg2 hgr2 hs2)
  refine bodyPost_ret (results_cell_row2 (p := 4) (u := 5) rfl _ _ _ _ _ _ _ rfl hg2 Tryz.underlying105 rfl (by kernel_rfl)) rfl ⟨by rw [HV.out]; rfl, ?_⟩
  exact hbb.grown hgr2 hbb.size (fun k e => by cases e; omega)
 | some n =>
  obtain ⟨hn, -⟩ := openN_some ho
  have HK := LH (decN_ok ho)
  have HRr := LH (fun he => enc_right (b := b) ho he)
  have HL := LH (decN_bad ho)
  clear ho
  simp only [openV]
  obtain ⟨h4, h64, h6⟩ := bits_sum n
  go_wp2_with fail
  rw [show (n : Int) % 4 = ((n % 4 : Nat) : Int) by omega, show (n : Int) / 4 % 64 = ((n / 4 % 64 : Nat) : Int) by omega, show (n : Int) / 256 % 65536 = ((n / 256 % 65536 : Nat) : Int) by omega]
  generalize n % 4 = k at *
  generalize n / 4 % 64 = c at *
  generalize n / 256 % 65536 = l at *
  have hb1 := below_alloc w1 (Obj.cells #[Value.int .i64 (k : Int), Value.int .i64 (c : Int), Value.int .i64 (l : Int)] 105)
  have hg2 := heap_alloc_new w1 (Obj.cells #[Value.int .i64 (k : Int), Value.int .i64 (c : Int), Value.int .i64 (l : Int)] 105)
  generalize w1.alloc (Obj.cells #[Value.int .i64 (k : Int), Value.int .i64 (c : Int), Value.int .i64 (l : Int)] 105) = w2 at *
  refine (rencode_any b k c l hb0 hb1' w2).mono ?_
  rintro e w3 ⟨rfl, hb3⟩
  have hgl : w.heap.size < w1.heap.size := (Array.getElem?_eq_some_iff.1 hg1).1
  have hgl2 : w1.heap.size < w2.heap.size := (Array.getElem?_eq_some_iff.1 hg2).1
  have hb3' := hbb.trans ((hb1.trans (hb3.mono hb1.size)).mono hbb.size)
  have hg3 : w3.heap[w.heap.size]? = _ := (hb3.block _ (by omega)).trans ((hb1.block _ hgl).trans hg1)
  have hg4 : w3.heap[w1.heap.size]? = _ := (hb3.block _ hgl2).trans hg2
  have he := encN_lt b k c l
  clear hb1 hb3 hg1 hg2 hbb
  generalize encN b k c l = y at *
  by_cases hyx : y = x
  ·have HV := LH (HK.out hyx)
   have hrt := HRr.out hyx
   subst hyx
   have d0 : w3.cell? ⟨w1.heap.size, 0, none⟩ = some (.int .i64 k) := cell_of_row _ _ 0 _ _ _ hg4
   have d1 : w3.cell? ⟨w1.heap.size, 1, none⟩ = some (.int .i64 c) := cell_of_row _ _ 1 _ _ _ hg4
   have d2 : w3.cell? ⟨w1.heap.size, 2, none⟩ = some (.int .i64 l) := cell_of_row _ _ 2 _ _ _ hg4
   go_wp2_with fail
   refine (rhright_any k c l w3).mono ?_
   rintro e w5 ⟨rfl, hb5⟩
   have hb5' := hb3'.trans (hb5.mono hb3'.size)
   have hg3' : w5.heap[w.heap.size]? = _ := (hb5.block _ (Array.getElem?_eq_some_iff.1 hg3).1).trans hg3
   have hg4' : w5.heap[w1.heap.size]? = _ := (hb5.block _ (Array.getElem?_eq_some_iff.1 hg4).1).trans hg4
   have d0 : w5.cell? ⟨w1.heap.size, 0, none⟩ = some (.int .i64 k) := cell_of_row _ _ 0 _ _ _ hg4'
   have d1 : w5.cell? ⟨w1.heap.size, 1, none⟩ = some (.int .i64 c) := cell_of_row _ _ 1 _ _ _ hg4'
   have d2 : w5.cell? ⟨w1.heap.size, 2, none⟩ = some (.int .i64 l) := cell_of_row _ _ 2 _ _ _ hg4'
   rw [hrt]
   clear hb5 hg3 hg4 hrt HRr HK HL
   go_wp2_with (refine wpList_store_row (cs := #[.int .i64 k, .int .i64 c, .int .i64 l]) aggRh hg3' rfl rfl (by simp [Value.oneCell']) rfl rfl rfl rfl ?_; intro w4 hg5 hgr4 hs4)
   refine bodyPost_ret (results_cell_row2 (p := 4) (u := 5) rfl _ _ _ _ _ _ _ rfl hg5 Tryz.underlying105 rfl (by kernel_rfl)) rfl ⟨by rw [HV.out]; rfl, ?_⟩
   exact hb5'.grown hgr4 hb5'.size (fun k e => by cases e; omega)
  ·have HV := LH (HL.out hyx)
   have hne : ¬ ((y : Int) = (x : Int)) := by omega
   clear hyx
   go_wp2_with (refine wpList_store_row (cs := #[.int .i64 0, .int .i64 0, .int .i64 0]) aggRh hg3 rfl rfl (by simp [Value.oneCell']) rfl rfl rfl rfl ?_; intro w4 hg5 hgr4 hs4)
   refine bodyPost_ret (results_cell_row2 (p := 4) (u := 5) rfl _ _ _ _ _ _ _ rfl hg5 Tryz.underlying105 rfl (by kernel_rfl)) rfl ⟨by rw [HV.out]; rfl, ?_⟩
   exact hb3'.grown hgr4 hb3'.size (fun k e => by cases e; omega)
theorem peek_neg (l : List Nat) (i : Int) (h : i < 0) : peek l i = 0 := by unfold peek; rw [if_neg (by omega)]
theorem peek_out (l : List Nat) (j : Nat) (h : l.length ≤ j) : peek l (j : Int) = 0 := by
 unfold peek; rw [if_pos (by omega)]; simp [List.getElem?_eq_none h]
theorem peek_in (l : List Nat) (j : Nat) : peek l (j : Int) = l.getD j 0 := by unfold peek; rw [if_pos (by omega)]; rfl
theorem rget_any (a : Option Addr) (n cap : Nat) (ls : List Nat) (w : World) (hc : Cells w a (ls.map vu64)) (hl : ls.length = 8 * n) (hn : n ≤ 1000000) (i : Int) :
  Calls Tryz.prog 48 #[.slice a n cap, .int .i64 i] w fun e w' => e = .returned (vu64 (peek ls i)) ∧ w = w' := by
 by_cases h0 : i < 0
 ·have HV := LH (peek_neg ls i h0)
  clear hl hc
  go_enter Tryz.func48, Tryz.ntmps48
  go_wp2_with fail
  go_ret
  exact ⟨ret_int (by rw [HV.out]; rfl), rfl⟩
 obtain ⟨j, rfl⟩ := Int.eq_ofNat_of_zero_le (show 0 ≤ i by omega)
 by_cases h1 : j < 8 * n
 ·obtain ⟨b, off, rfl, hb, hcs⟩ := hc.atMap 0 (show j < ls.length by omega)
  have hcell : w.cell? ⟨b, off + j / 8 * 8 + j % 8, none⟩ = some (vu64 (ls.getD j 0)) := by
   rw [show off + j / 8 * 8 + j % 8 = off + j by omega]; exact hcs j (by omega)
  have HV := LH (peek_in ls j)
  generalize ls.getD j 0 = x at *
  have hj8 : j / 8 < n := by omega
  have hj1 : (j : Int) < 8 * (n : Int) := by omega
  clear hl hc hcs h1
  go_enter Tryz.func48, Tryz.ntmps48
  go_wp2_with fail
  go_ret
  exact ⟨ret_int (by rw [HV.out]), rfl⟩
 ·have HV := LH (peek_out ls j (by omega))
  have h2 : 8 * (n : Int) ≤ (j : Int) := by omega
  clear hl hc
  go_enter Tryz.func48, Tryz.ntmps48
  go_wp2_with fail
  go_ret
  exact ⟨ret_int (by rw [HV.out]; rfl), rfl⟩
theorem elRh : Elem Tryz.prog 53 105 (.agg #[.int .i64 0, .int .i64 0, .int .i64 0]) 3 24 := Elem.mk' Tryz.underlying53 (by kernel_rfl) rfl (by decide)
theorem grown_cell {w w' : World} {v : Value} {base e size n : Nat} {xs : List Value} (hg : w.grownBy w' v.ownBlock) (ho : w.ownsRow base e size v n xs) {p : Addr} {x : Value} (hb : p.block < base) (h : w.cell? p = some x) : w'.cell? p = some x := by
 have hlt := World.block_lt_of_cell? _ _ h
 rw [World.cell?_of_block (w := w) (hg.block p.block hlt (fun c => by have := (ho.lt p.block c.symm).1; omega))]; exact h
theorem rread_any (a : Option Addr) (n cap : Nat) (ls : List Nat) (v1 v2 v3 v4 v5 v6 v7 : Value) (w : World) (hc : Cells w a (ls.map vu64)) (hl : ls.length = 8 * n) (hn : n ≤ 100000) (hu : ∀ z ∈ ls, z < 18446744073709551616) (B : Nat) (hB1 : 1 ≤ B) (hB : B ≤ 1000) :
  Calls Tryz.prog 50 #[.agg #[.slice a n cap, v1, v2, v3, v4, v5, v6, v7], .int .i64 (B : Int)] w (ReadPost 105 (fun b : Nat => peek ls (256 + (b : Int))) B w) := by
 obtain ⟨f, hf⟩ : ∃ f : Nat → Nat, f = fun b : Nat => peek ls (256 + (b : Int)) := ⟨_, rfl⟩
 rw [← hf]
 have HF0 := LH hf
 generalize hP : ReadPost 105 f B w = Post
 have HPE := LH hP
 have HC := LH hc
 have HL := LH hl
 have HU := LH hu
 clear hf hP hc hl hu
 obtain ⟨w0, hw0⟩ : ∃ w0, w0 = (w.alloc (.cells #[.slice a n cap, v1, v2, v3, v4, v5, v6, v7] 38)).alloc (.cells #[.int .i64 0, .int .i64 0, .int .i64 0] 105) := ⟨_, rfl⟩
 have hb0 : Below w.heap.size w w0 := by rw [hw0]; exact (below_alloc _ _).alloc (by simp) _
 have hc0 : w0.cell? ⟨w.heap.size, 0, none⟩ = some (.slice a n cap) := by
  rw [hw0]
  exact below_cells (below_alloc _ _) (cell_alloc_new _ _ _ 0 _ rfl) (Nat.le_refl _)
 have ho0 : w0.ownsRow (w.heap.size + 1) 105 3 (.slice (some ⟨w.heap.size + 1, 0, none⟩) 1 1) 1 (hdCs (hds f 1)) := by
  refine ⟨rfl, .inr ⟨w.heap.size + 1, 1, #[.int .i64 0, .int .i64 0, .int .i64 0], rfl, Nat.le_refl _, ?_, Nat.le_refl _, by unfold maxLen; omega, rfl, rfl⟩⟩
  rw [hw0]
  have := heap_alloc_new (w.alloc (.cells #[.slice a n cap, v1, v2, v3, v4, v5, v6, v7] 38)) (.cells #[.int .i64 0, .int .i64 0, .int .i64 0] 105)
  simpa using this
 have HW0 := LH hw0
 have HB0 := LH hb0
 have HC0 := LH hc0
 have HO0 := LH ho0
 clear hw0 hb0 hc0 ho0
 go_enter Tryz.func50, Tryz.ntmps50
 go_wp2_with fail
 rw [← HW0.out]
 go_loopw [7, 8] (fun v i wr => ∃ k : Nat, 1 ≤ k ∧ k ≤ B ∧ i = .int .i64 k ∧ AllOk f k ∧ (∃ g c, v = .slice (some ⟨g, 0, none⟩) k c ∧ k ≤ c ∧ w.heap.size ≤ g) ∧ wr.ownsRow (w.heap.size + 1) 105 3 v k (hdCs (hds f k)) ∧ wr.cell? ⟨w.heap.size, 0, none⟩ = some (.slice a n cap) ∧ Below w.heap.size w wr) (fun _ i _ => B - (intOf i).toNat)
 case atStart => exact ⟨1, Nat.le_refl _, hB1, rfl, (fun b h1 h2 => by omega), ⟨_, _, rfl, Nat.le_refl _, by omega⟩, HO0.out, HC0.out, HB0.out⟩
 case round =>
  obtain ⟨k, hk1, hk2, rfl, hok, ⟨g, c, rfl, hkc, hgw⟩, ho, hcx, hb⟩ := hrel
  have HOK := LH hok
  have HO := LH ho
  have HB := LH hb
  have HCr := LH (HC.out.below hb (Nat.le_refl _))
  clear hok ho hb
  by_cases hlt : k < B
  ·have hlt' : (k : Int) < (B : Int) := by omega
   go_wp2_with fail
   refine (rget_any a n cap ls _ HCr.out HL.out (by omega) _).mono ?_
   rintro e w3 ⟨rfl, rfl⟩
   have HX : Hid (peek ls (256 + (k : Int)) = f k) := LH (by rw [HF0.out])
   have hx : f k < 18446744073709551616 := by rw [← HX.out]; exact peek_lt HU.out _
   rw [HX.out]
   go_wp2_with fail
   refine (rdecode_any (k : Int) (f k) (by omega) (by omega) hx _).mono ?_
   rintro e w4 ⟨rfl, hb4⟩
   have HF : Hid (⟨(decN k (f k)).k, (decN k (f k)).c, (decN k (f k)).l⟩ = hdF f k) := LH (by unfold hdF; rw [if_neg (by omega)])
   have HCc : Hid ((decN k (f k)).code = 0 ∨ (decN k (f k)).code ≠ 0) := LH (by omega)
   have HOK2 : Hid ((decN k (f k)).code = 0 → AllOk f (k + 1)) := LH (fun h => HOK.out.succ h)
   have HBad : Hid ((decN k (f k)).code ≠ 0 → ∀ w', Below w.heap.size w w' → Post (.returned (.tuple #[.slice none 0 0, .int .i64 k, .int .i64 21])) w') := LH (fun h w' hw' => by
    rw [← HPE.out]; exact ⟨hw', .inr ⟨k, hk1, hlt, HOK.out, h, rfl⟩⟩)
   unfold Dec.val
   generalize decN k (f k) = dd at *
   obtain ⟨dk, dc, dl, dcode⟩ := dd
   dsimp only at *
   have HB4 := LH hb4
   clear hb4
   rcases HCc.out with hz | hz
   ·subst hz
    have HOK3 := LH (HOK2.out rfl)
    have HBE : Hid (Below w.heap.size w w4) := LH (HB.out.trans (HB4.out.mono HB.out.size))
    have hb5 := below_alloc w4 (Obj.cells #[Value.int .i64 dk, Value.int .i64 dc, Value.int .i64 dl] 105)
    have HO5 : Hid ((w4.alloc (Obj.cells #[Value.int .i64 dk, Value.int .i64 dc, Value.int .i64 dl] 105)).ownsRow (w.heap.size + 1) 105 3 (.slice (some ⟨g, 0, none⟩) k c) k (hdCs (hds f k))) := LH ((owned_below HO.out HB4.out (Nat.le_refl _)).alloc _)
    have HCX5 : Hid ((w4.alloc (Obj.cells #[Value.int .i64 dk, Value.int .i64 dc, Value.int .i64 dl] 105)).cell? ⟨w.heap.size, 0, none⟩ = some (.slice a n cap)) := LH (below_cells hb5 (below_cells HB4.out hcx (Nat.le_refl _)) (Nat.le_refl _))
    have HB5 : Hid (Below w.heap.size w (w4.alloc (Obj.cells #[Value.int .i64 dk, Value.int .i64 dc, Value.int .i64 dl] 105))) := LH (HBE.out.alloc HBE.out.size _)
    have hone : Hid (∀ u ∈ (#[Value.int .i64 dk, Value.int .i64 dc, Value.int .i64 dl] : Array Value).toList, u.oneCell' = true) := LH (by intro u hu; simp at hu; rcases hu with rfl | rfl | rfl <;> rfl)
    have hbase : Hid (w.heap.size + 1 ≤ (w4.alloc (Obj.cells #[Value.int .i64 dk, Value.int .i64 dc, Value.int .i64 dl] 105)).heap.size) := LH (by have := HBE.out.size; simp; omega)
    have hk9 : k < 1000000000000 := by omega
    clear hb5 hcx
    go_wp2_with (at_builtin; refine wpList_append_new (us := #[.int .i64 dk, .int .i64 dc, .int .i64 dl]) elRh HO5.out rfl hone.out hk9 (by decide) hbase.out rfl rfl rfl (by simp [Act.eval]) ?_; intro g6 c6 w6 ho6 hg6 hc6 hm6 hb6 hl6; have HO6 := LH ho6; have HG6 := LH hg6; clear ho6 hg6)
    refine ⟨⟨k + 1, by omega, by omega, vint (by omega), HOK3.out, ⟨g6, c6, rfl, hc6, by omega⟩, ?_, ?_, ?_⟩, by simp [intOf]; omega⟩
    ·rw [hds_succ, hdCs_append, ← HF.out]
     exact HO6.out
    ·exact grown_cell HG6.out HO5.out (by simp) HCX5.out
    ·exact below_grownBy HB5.out HO5.out HG6.out (Nat.le_refl _) (by omega)
   ·have hz1 : (dcode != 0) = true := by simpa using hz
    have HZ := LH (HBad.out hz)
    have HBE : Hid (Below w.heap.size w w4) := LH (HB.out.trans (HB4.out.mono HB.out.size))
    clear hz HBad HCc HOK2
    go_wp2_with fail
    go_ret3
    exact HZ.out _ (HBE.out.alloc (HBE.out.size) _)
  ·obtain rfl : k = B := by omega
   have hlt' : decide ((k : Int) < (k : Int)) = false := by simp
   go_wp2_with fail
   go_ret3
   rw [← HPE.out]
   exact ⟨HB.out, .inl ⟨HOK.out, g, c, rfl, hgw, hkc, owned_row HO.out⟩⟩
structure TabAt (w : World) (p : Nat) (F : Foot) (B : Nat) (l : List Hd) : Prop where
 ex : ∃ g c, w.heap[p]? = some (.cells #[vdev F, .int .i64 (B : Int), .slice (some ⟨g, 0, none⟩) l.length c] 158 (0, 0)) ∧ l.length ≤ c ∧ RowAt w g 107 (hdCs l) ∧ p ≠ g
def Hd.val (h : Hd) : Value := .agg #[.int .i64 h.k, .int .i64 h.c, .int .i64 h.l]
def hdGet (l : List Hd) (b : Int) : Hd := if b < 1 ∨ (l.length : Int) ≤ b then ⟨0, 0, 0⟩ else l.getD b.toNat default
theorem tget_any {w : World} {p B : Nat} {F : Foot} {l : List Hd} (h : TabAt w p F B l) (b : Int) (hl : l.length ≤ 1000) :
  Calls Tryz.prog 121 #[.pointer (some ⟨p, 0, none⟩), .int .i64 b] w fun e w' => e = .returned (hdGet l b).val ∧ Below w.heap.size w w' := by
 obtain ⟨g, c, hp, hc, hr, hne⟩ := h.ex
 have c2 : w.cell? ⟨p, 2, none⟩ = some (.slice (some ⟨g, 0, none⟩) l.length c) := cell_of_row _ _ 2 _ _ _ hp
 have hpl : p < w.heap.size := (Array.getElem?_eq_some_iff.1 hp).1
 have hgl := hr.lt
 by_cases h1 : b < 1
 ·have HE : Hid (hdGet l b = ⟨0, 0, 0⟩) := LH (by unfold hdGet; rw [if_pos (.inl h1)])
  clear hp hr h
  go_enter Tryz.func121, Tryz.ntmps121
  go_wp2_with fail
  exact bodyPost_ret (v := .agg #[.int .i64 0, .int .i64 0, .int .i64 0]) (by simp [results, Tryz.results121, go_sem]) rfl ⟨by rw [HE.out]; rfl, below_alloc _ _⟩
 by_cases h2 : (l.length : Int) ≤ b
 ·have HE : Hid (hdGet l b = ⟨0, 0, 0⟩) := LH (by unfold hdGet; rw [if_pos (.inr h2)])
  clear hp hr h
  go_enter Tryz.func121, Tryz.ntmps121
  go_wp2_with fail
  exact bodyPost_ret (v := .agg #[.int .i64 0, .int .i64 0, .int .i64 0]) (by simp [results, Tryz.results121, go_sem]) rfl ⟨by rw [HE.out]; rfl, below_alloc _ _⟩
 obtain ⟨j, rfl⟩ := Int.eq_ofNat_of_zero_le (show 0 ≤ b by omega)
 have hj : j < l.length := by omega
 have HE : Hid (hdGet l (j : Int) = l.getD j default) := LH (by unfold hdGet; rw [if_neg (by omega)]; rfl)
 have HA := hdCs_at l j hj
 generalize l.getD j default = hd at *
 obtain ⟨hk, hcl, hln⟩ := hd
 have d0 : w.cell? ⟨g, j * 3, none⟩ = some (.int .i64 hk) := hr.cell (HA 0 _ rfl)
 have d1 : w.cell? ⟨g, j * 3 + 1, none⟩ = some (.int .i64 hcl) := hr.cell (HA 1 _ rfl)
 have d2 : w.cell? ⟨g, j * 3 + 2, none⟩ = some (.int .i64 hln) := hr.cell (HA 2 _ rfl)
 clear hp hr h HA
 go_enter Tryz.func121, Tryz.ntmps121
 go_wp2_with fail
 exact bodyPost_ret (v := .agg #[.int .i64 hk, .int .i64 hcl, .int .i64 hln]) (by simp [results, Tryz.results121, go_sem]) rfl ⟨by rw [HE.out]; rfl, below_alloc _ _⟩
theorem ref_any (h : Hd) (w : World) : Calls Tryz.prog 37 #[h.val] w fun e w' => e = .returned h.val ∧ Below w.heap.size w w' := by
 obtain ⟨k, c, l⟩ := h
 unfold Hd.val
 dsimp only
 have hb : Below w.heap.size w ((w.alloc (.cells #[.int .i64 k, .int .i64 c, .int .i64 l] 107)).alloc (.cells #[.int .i64 k, .int .i64 c, .int .i64 l] 105)) := (below_alloc _ _).alloc (by simp) _
 have HB := LH hb
 clear hb
 go_enter Tryz.func37, Tryz.ntmps37
 go_wp2_with fail
 exact bodyPost_ret (v := .agg #[.int .i64 k, .int .i64 c, .int .i64 l]) (by simp [results, Tryz.results37, go_sem]) rfl ⟨rfl, HB.out⟩
theorem hdGetD (l : List Hd) (j : Nat) : ∃ k c n, l.getD j default = ⟨k, c, n⟩ := ⟨_, _, _, rfl⟩
theorem refs_any (a : Option Addr) (n cap : Nat) (l : List Hd) (hn : l.length = n) (w : World) (hc : Cells w a (hdCs l)) (hl : n ≤ 1000) :
  Calls Tryz.prog 17 #[.slice a n cap] w fun e w' => ∃ v, e = .returned v ∧ w'.ownsRow w.heap.size 105 3 v n (hdCs l) ∧ Below w.heap.size w w' := by
 have HN := LH hn
 have HC := LH hc
 clear hn hc
 go_enter Tryz.func17, Tryz.ntmps17
 go_wp2_with fail
 go_loopw [3, 4] (fun v i wr => ∃ k : Nat, k ≤ n ∧ i = .int .i64 k ∧ wr.ownsRow w.heap.size 105 3 v k (hdCs (l.take k)) ∧ Below w.heap.size w wr) (fun _ i _ => n - (intOf i).toNat)
 case atStart => exact ⟨0, Nat.zero_le _, rfl, ⟨rfl, .inl ⟨rfl, rfl⟩⟩, Below.refl _ _⟩
 case round =>
  obtain ⟨k, hk, rfl, ho, hb⟩ := hrel
  obtain ⟨a1, c1, rfl, hc1, hm1⟩ := owned_form ho
  have HO := LH ho
  have HB := LH hb
  clear ho hb
  by_cases hlt : k < n
  ·have hlt' : (k : Int) < (n : Int) := by omega
   have hkl : k < l.length := by rw [HN.out]; exact hlt
   have HA := hdCs_at l k hkl
   have HS : Hid (hdCs (l.take (k + 1)) = hdCs (l.take k) ++ (l.getD k default).cs) := LH (by
    rw [List.take_succ_eq_append_getElem hkl, hdCs_append]; simp [hdCs, hkl])
   generalize l.getD k default = hd at *
   obtain ⟨hk', hcl, hln⟩ := hd
   obtain ⟨b, off, rfl, hcs⟩ : ∃ b off, a = some ⟨b, off, none⟩ ∧ ∀ i v, (hdCs l)[i]? = some v → wr.cell? ⟨b, off + i, none⟩ = some v := by
    rcases HC.out.below HB.out (Nat.le_refl _) with h | ⟨b, off, rfl, h⟩
    ·have := congrArg List.length h
     rw [hdCs_length] at this
     simp only [List.length_nil] at this
     omega
    ·exact ⟨b, off, rfl, h⟩
   have d0 : wr.cell? ⟨b, off + k * 3, none⟩ = some (.int .i64 hk') := hcs _ _ (HA 0 _ rfl)
   have d1 : wr.cell? ⟨b, off + k * 3 + 1, none⟩ = some (.int .i64 hcl) := hcs _ _ (HA 1 _ rfl)
   have d2 : wr.cell? ⟨b, off + k * 3 + 2, none⟩ = some (.int .i64 hln) := hcs _ _ (HA 2 _ rfl)
   clear HA hcs
   go_wp2_with fail
   refine (ref_any ⟨hk', hcl, hln⟩ _).mono ?_
   rintro e w1 ⟨rfl, hb1⟩
   unfold Hd.val
   dsimp only
   have HB1 := LH (HB.out.trans (hb1.mono HB.out.size))
   have HO1 := LH (owned_below HO.out hb1 (Nat.le_refl _))
   have hone : Hid (∀ u ∈ (#[Value.int .i64 hk', Value.int .i64 hcl, Value.int .i64 hln] : Array Value).toList, u.oneCell' = true) := LH (by intro u hu; simp at hu; rcases hu with rfl | rfl | rfl <;> rfl)
   have hbase : Hid (w.heap.size ≤ w1.heap.size) := LH HB1.out.size
   have hk9 : k < 1000000000000 := by omega
   clear hb1 d0 d1 d2
   go_wp2_with (at_builtin; refine wpList_append_new (us := #[.int .i64 hk', .int .i64 hcl, .int .i64 hln]) elRh HO1.out rfl hone.out hk9 (by decide) hbase.out rfl rfl rfl (by simp [Act.eval]) ?_; intro g6 c6 w6 ho6 hg6 hc6 hm6 hb6 hl6; have HO6 := LH ho6; have HG6 := LH hg6; clear ho6 hg6)
   refine ⟨⟨k + 1, by omega, vint (by omega), ?_, below_grownBy HB1.out HO1.out HG6.out (Nat.le_refl _) (Nat.le_refl _)⟩, by simp [intOf]; omega⟩
   rw [HS.out]
   exact HO6.out
  ·obtain rfl : k = n := by omega
   have hlt' : decide ((k : Int) < (k : Int)) = false := by simp
   go_wp2_with fail
   go_ret
   refine ⟨_, rfl, ?_, HB.out⟩
   have := HO.out
   rwa [List.take_of_length_le (by rw [HN.out]; exact Nat.le_refl _)] at this
theorem fsRh : (Tryz.prog.fieldsOf 105) = #[{ name := "Kind", type := 3, offset := 0, embedded := false, tag := "", pkgPath := "", byteOffset := 0 },
        { name := "Class", type := 3, offset := 1, embedded := false, tag := "", pkgPath := "", byteOffset := 8 },
        { name := "Len", type := 3, offset := 2, embedded := false, tag := "", pkgPath := "", byteOffset := 16 }] := by kernel_rfl
theorem usRh : Tryz.prog.underlying 105 = some (.struct (Tryz.prog.fieldsOf 105)) := by kernel_rfl
theorem ssRh : Tryz.prog.stoodInHeld 105 = false := by kernel_rfl
theorem gsRh : Tryz.prog.eqGuardType Tryz.prog.depth 105 = false := by kernel_rfl
theorem equalRh (w : World) (a b c a' b' c' : Int) (r : Bool) (hr : r = ((a == a') && (b == b') && (c == c'))) : (Op.equalIn 10000 105 (.agg #[.int .i64 a, .int .i64 b, .int .i64 c]) (.agg #[.int .i64 a', .int .i64 b', .int .i64 c'])).run Tryz.prog w = .ok r w := by
 rw [hr, show (10000 : Nat) = 9999 + 1 from rfl, run_equalIn_agg w 9999 105 _ _ usRh ssRh, fsRh]
 by_cases h1 : a = a' <;> by_cases h2 : b = b' <;> by_cases h3 : c = c' <;> simp [Op.eqFields, go_sem, h1, h2, h3, Tryz.underlying3, part]
theorem fsBh : (Tryz.prog.fieldsOf 107) = #[{ name := "Kind", type := 3, offset := 0, embedded := false, tag := "", pkgPath := "", byteOffset := 0 },
        { name := "Class", type := 3, offset := 1, embedded := false, tag := "", pkgPath := "", byteOffset := 8 },
        { name := "Len", type := 3, offset := 2, embedded := false, tag := "", pkgPath := "", byteOffset := 16 }] := by kernel_rfl
theorem usBh : Tryz.prog.underlying 107 = some (.struct (Tryz.prog.fieldsOf 107)) := by kernel_rfl
theorem ssBh : Tryz.prog.stoodInHeld 107 = false := by kernel_rfl
theorem gsBh : Tryz.prog.eqGuardType Tryz.prog.depth 107 = false := by kernel_rfl
theorem equalBh (w : World) (a b c a' b' c' : Int) (r : Bool) (hr : r = ((a == a') && (b == b') && (c == c'))) : (Op.equalIn 10000 107 (.agg #[.int .i64 a, .int .i64 b, .int .i64 c]) (.agg #[.int .i64 a', .int .i64 b', .int .i64 c'])).run Tryz.prog w = .ok r w := by
 rw [hr, show (10000 : Nat) = 9999 + 1 from rfl, run_equalIn_agg w 9999 107 _ _ usBh ssBh, fsBh]
 by_cases h1 : a = a' <;> by_cases h2 : b = b' <;> by_cases h3 : c = c' <;> simp [Op.eqFields, go_sem, h1, h2, h3, Tryz.underlying3, part]
theorem hd_beq (k c n k' c' n' : Int) : decide ((⟨k, c, n⟩ : Hd) = ⟨k', c', n'⟩) = ((k == k') && (c == c') && (n == n')) := by
 rw [Bool.eq_iff_iff]; simp [Hd.mk.injEq, and_assoc]
theorem hd_cells {w : World} {a : Option Addr} {l : List Hd} (h : Cells w a (hdCs l)) {j : Nat} (hj : j < l.length) {k c n : Int} (he : l.getD j default = ⟨k, c, n⟩) :
  ∃ b off, a = some ⟨b, off, none⟩ ∧ w.cell? ⟨b, off + j * 3, none⟩ = some (.int .i64 k) ∧ w.cell? ⟨b, off + j * 3 + 1, none⟩ = some (.int .i64 c) ∧ w.cell? ⟨b, off + j * 3 + 2, none⟩ = some (.int .i64 n) := by
 have HA := hdCs_at l j hj
 rw [he] at HA
 rcases h with h | ⟨b, off, rfl, h⟩
 ·have := congrArg List.length h
  rw [hdCs_length] at this
  simp only [List.length_nil] at this
  omega
 ·exact ⟨b, off, rfl, h _ _ (HA 0 _ rfl), h _ _ (HA 1 _ rfl), h _ _ (HA 2 _ rfl)⟩
theorem take_eq_succ {l m : List Hd} {k : Nat} (h1 : k < l.length) (h2 : k < m.length) (h : l.take k = m.take k) (he : l.getD k default = m.getD k default) : l.take (k + 1) = m.take (k + 1) := by
 rw [List.take_succ_eq_append_getElem h1, List.take_succ_eq_append_getElem h2, h]
 simp [h1, h2] at he
 rw [he]
def sameHd (l m : List Hd) : Bool := decide (l = m)
theorem rsame_any (a b : Option Addr) (n m cap cap2 : Nat) (l r : List Hd) (hn : l.length = n) (hm : r.length = m) (w : World) (hc : Cells w a (hdCs l)) (hc2 : Cells w b (hdCs r)) (hl : n ≤ 1000) (hl2 : m ≤ 1000) :
  Calls Tryz.prog 16 #[.slice a n cap, .slice b m cap2] w fun e w' => e = .returned (.bool (sameHd l r)) ∧ ∃ q, w' = w.drewN q := by
 have HN := LH hn
 have HM := LH hm
 have HC := LH hc
 have HC2 := LH hc2
 by_cases hnm : n = m
 ·subst hnm
  have hne : (n != n) = false := by simp
  have hne2 : ((n : Int) != (n : Int)) = false := by simp
  clear hn hm hc hc2
  go_enter Tryz.func16, Tryz.ntmps16
  go_wp2_with fail
  go_loopw [5] (fun i wr => ∃ k : Nat, k ≤ n ∧ i = .int .i64 k ∧ l.take k = r.take k ∧ ∃ q, wr = w.drewN q) (fun i _ => n - (intOf i).toNat)
  case atStart => exact ⟨0, Nat.zero_le _, rfl, by simp, 0, rfl⟩
  case round =>
   obtain ⟨k, hk, rfl, heq, q, rfl⟩ := hrel
   have HE := LH heq
   clear heq
   by_cases hlt : k < n
   ·have hlt' : (k : Int) < (n : Int) := by omega
    have hkl : k < l.length := by rw [HN.out]; exact hlt
    have hkr : k < r.length := by rw [HM.out]; exact hlt
    obtain ⟨k1, c1, l1, e1⟩ := hdGetD l k
    obtain ⟨k2, c2, l2, e2⟩ := hdGetD r k
    obtain ⟨b1, o1, rfl, d0, d1, d2⟩ := hd_cells HC.out hkl e1
    obtain ⟨b2, o2, rfl, d3, d4, d5⟩ := hd_cells HC2.out hkr e2
    have E1 := LH e1
    have E2 := LH e2
    clear e1 e2 hkl hkr
    by_cases hq : (⟨k1, c1, l1⟩ : Hd) = ⟨k2, c2, l2⟩
    ·have heq : ∀ w', (Op.equalIn 10000 105 (.agg #[.int .i64 k1, .int .i64 c1, .int .i64 l1]) (.agg #[.int .i64 k2, .int .i64 c2, .int .i64 l2])).run Tryz.prog w' = .ok true w' := fun w' => equalRh w' _ _ _ _ _ _ _ (by rw [← hd_beq]; simp [hq])
     have hgd := gsRh
     have HQ := LH hq
     clear hq
     go_wp2_with fail
     go_quiet (fail)
     go_wp2_with fail
     refine ⟨⟨k + 1, by omega, vint (by omega), ?_, _, rfl⟩, by simp [intOf]; omega⟩
     exact take_eq_succ (by rw [HN.out]; exact hlt) (by rw [HM.out]; exact hlt) HE.out (by rw [E1.out, E2.out, HQ.out])
    ·have heq : ∀ w', (Op.equalIn 10000 105 (.agg #[.int .i64 k1, .int .i64 c1, .int .i64 l1]) (.agg #[.int .i64 k2, .int .i64 c2, .int .i64 l2])).run Tryz.prog w' = .ok false w' := fun w' => equalRh w' _ _ _ _ _ _ _ (by rw [← hd_beq]; simp [hq])
     have hgd := gsRh
     have HQ := LH hq
     clear hq
     go_wp2_with fail
     go_quiet (fail)
     go_wp2_with fail
     go_ret
     refine ⟨ret_bool (decide_eq_false (fun h => HQ.out ?_)).symm, _, World.drewN_drewN _ _ _⟩
     rw [← E1.out, ← E2.out, h]
   ·obtain rfl : k = n := by omega
    have hlt' : decide ((k : Int) < (k : Int)) = false := by simp
    go_wp2_with fail
    go_ret
    refine ⟨ret_bool (decide_eq_true ?_).symm, _, rfl⟩
    have := HE.out
    rwa [List.take_of_length_le (by rw [HN.out]; exact Nat.le_refl _), List.take_of_length_le (by rw [HM.out]; exact Nat.le_refl _)] at this
 ·have hne : (n != m) = true := by simpa using hnm
  have hne2 : ((n : Int) != (m : Int)) = true := by simp; omega
  have HH := LH hnm
  clear hnm hn hm hc hc2
  go_enter Tryz.func16, Tryz.ntmps16
  go_wp2_with fail
  go_ret
  exact ⟨ret_bool (decide_eq_false (fun h => HH.out (by rw [← HN.out, ← HM.out, h]))).symm, 0, rfl⟩
abbrev Sp := Nat × Nat
def spCs (l : List Sp) : List Value := l.flatMap fun s => [.int .i64 s.1, .int .i64 s.2]
theorem spCs_length (l : List Sp) : (spCs l).length = 2 * l.length := by
 induction l with
 | nil => rfl
 | cons h l ih => simp only [spCs, List.flatMap_cons, List.length_append, List.length_cons] at *; rw [ih]; simp; omega
theorem spCs_append (l m : List Sp) : spCs (l ++ m) = spCs l ++ spCs m := by simp [spCs]
theorem spCs_last (l : List Sp) (s n : Nat) : (spCs (l ++ [(s, n)]))[l.length * 2]? = some (.int .i64 (s : Int)) ∧ (spCs (l ++ [(s, n)]))[l.length * 2 + 1]? = some (.int .i64 (n : Int)) := by
 have hl := spCs_length l
 rw [spCs_append]
 constructor
 ·rw [List.getElem?_append_right (by omega), show l.length * 2 - (spCs l).length = 0 by omega]; rfl
 ·rw [List.getElem?_append_right (by omega), show l.length * 2 + 1 - (spCs l).length = 1 by omega]; rfl
theorem spCs_bump (l : List Sp) (s n m : Nat) : (spCs (l ++ [(s, n)])).set (l.length * 2 + 1) (.int .i64 (m : Int)) = spCs (l ++ [(s, m)]) := by
 have hl := spCs_length l
 rw [spCs_append, spCs_append, List.set_append_right _ _ (by omega), show l.length * 2 + 1 - (spCs l).length = 1 by omega]
 rfl
def bump (l : List Sp) : List Sp := match l.getLast? with
 | none => l
 | some s => l.dropLast ++ [(s.1, s.2 + 1)]
theorem bump_last (l : List Sp) (s n : Nat) : bump (l ++ [(s, n)]) = l ++ [(s, n + 1)] := by simp [bump]
def spanL (ks : Nat → Bool) : Nat → List Sp
 | 0 => []
 | b + 1 => if b = 0 ∨ ks b = false then spanL ks b else if 1 < b ∧ ks (b - 1) = true then bump (spanL ks b) else spanL ks b ++ [(b, 1)]
theorem spanL_last (ks : Nat → Bool) (b : Nat) (hb : 1 ≤ b) : if 1 < b ∧ ks (b - 1) = true then ∃ l s n, spanL ks b = l ++ [(s, n)] ∧ s + n = b ∧ l.length < b else (spanL ks b = [] ∨ ∃ l s n, spanL ks b = l ++ [(s, n)] ∧ s + n < b ∧ l.length < b) := by
 induction b with
 | zero => omega
 | succ b ih =>
  by_cases h0 : b = 0
  ·subst h0; rw [if_neg (by omega)]; left; rfl
  have ih := ih (by omega)
  rw [Nat.add_sub_cancel]
  by_cases hk : ks b = true
  ·rw [if_pos ⟨by omega, hk⟩]
   by_cases hp : 1 < b ∧ ks (b - 1) = true
   ·rw [if_pos hp] at ih
    obtain ⟨l, s, n, h1, h2, h3⟩ := ih
    refine ⟨l, s, n + 1, ?_, by omega, by omega⟩
    rw [spanL, if_neg (by simp [h0, hk]), if_pos hp, h1, bump_last]
   ·rw [if_neg hp] at ih
    refine ⟨spanL ks b, b, 1, ?_, rfl, ?_⟩
    ·rw [spanL, if_neg (by simp [h0, hk]), if_neg hp]
    ·rcases ih with h | ⟨l, s, n, h1, h2, h3⟩
     ·rw [h]; simp
     ·rw [h1]; simp; omega
  ·have hk' : ks b = false := by simpa using hk
   rw [if_neg (by simp [hk'])]
   have he : spanL ks (b + 1) = spanL ks b := by rw [spanL, if_pos (.inr hk')]
   rw [he]
   split at ih
   ·obtain ⟨l, s, n, h1, h2, h3⟩ := ih
    exact .inr ⟨l, s, n, h1, by omega, by omega⟩
   ·rcases ih with h | ⟨l, s, n, h1, h2, h3⟩
    ·exact .inl h
    ·exact .inr ⟨l, s, n, h1, by omega, by omega⟩
theorem spanL_len (ks : Nat → Bool) (b : Nat) : (spanL ks b).length ≤ b := by
 induction b with
 | zero => simp [spanL]
 | succ b ih =>
  unfold spanL
  split
  ·omega
  ·split
   ·unfold bump
    split
    ·omega
    ·simp; omega
   ·simp; omega
def freeAt (l : List Hd) (b : Nat) : Bool := (l.getD b default).k == 0
def spansOf (l : List Hd) : List Sp := spanL (freeAt l) l.length
theorem elBs : Elem Tryz.prog 206 259 (.agg #[.int .i64 0, .int .i64 0]) 2 16 := Elem.mk' Tryz.underlying206 (by kernel_rfl) rfl (by decide)
def SpansPost (t : Nat) (l : List Sp) (w : World) : Ending → World → Prop := fun e w' => ∃ v, e = .returned v ∧ w'.ownsRow w.heap.size t 2 v l.length (spCs l) ∧ Below w.heap.size w w'
theorem span_round (ks : Nat → Bool) (b : Nat) (hb : 1 ≤ b) :
  (ks b = false ∧ spanL ks (b + 1) = spanL ks b) ∨
  (ks b = true ∧ 1 < b ∧ ks (b - 1) = true ∧ ∃ l s n, spanL ks b = l ++ [(s, n)] ∧ s + n = b ∧ spanL ks (b + 1) = l ++ [(s, n + 1)]) ∨
  (ks b = true ∧ ¬ (1 < b ∧ ks (b - 1) = true) ∧ spanL ks b = [] ∧ spanL ks (b + 1) = [(b, 1)]) ∨
  (ks b = true ∧ ¬ (1 < b ∧ ks (b - 1) = true) ∧ ∃ l s n, spanL ks b = l ++ [(s, n)] ∧ s + n < b ∧ spanL ks (b + 1) = l ++ [(s, n)] ++ [(b, 1)]) := by
 have h := spanL_last ks b hb
 by_cases hk : ks b = true
 ·by_cases hp : 1 < b ∧ ks (b - 1) = true
  ·rw [if_pos hp] at h
   obtain ⟨l, s, n, h1, h2, h3⟩ := h
   exact .inr (.inl ⟨hk, hp.1, hp.2, l, s, n, h1, h2, by rw [spanL, if_neg (by simp [hk]; omega), if_pos hp, h1, bump_last]⟩)
  ·rw [if_neg hp] at h
   have e : spanL ks (b + 1) = spanL ks b ++ [(b, 1)] := by rw [spanL, if_neg (by simp [hk]; omega), if_neg hp]
   rcases h with h | ⟨l, s, n, h1, h2, h3⟩
   ·exact .inr (.inr (.inl ⟨hk, hp, h, by rw [e, h]; rfl⟩))
   ·exact .inr (.inr (.inr ⟨hk, hp, l, s, n, h1, h2, by rw [e, h1]⟩))
 ·have hk' : ks b = false := by simpa using hk
  exact .inl ⟨hk', by rw [spanL, if_pos (.inr hk')]⟩
theorem hd_kind {w : World} {a : Option Addr} {l : List Hd} (h : Cells w a (hdCs l)) {j : Nat} (hj : j < l.length) :
  ∃ b off, a = some ⟨b, off, none⟩ ∧ ∃ k, freeAt l j = (k == 0) ∧ w.cell? ⟨b, off + j * 3, none⟩ = some (.int .i64 k) := by
 obtain ⟨k, c, n, he⟩ := hdGetD l j
 obtain ⟨b, off, rfl, h0, _, _⟩ := hd_cells h hj he
 exact ⟨b, off, rfl, k, by unfold freeAt; rw [he], h0⟩
theorem bspans_any (a : Option Addr) (n cap : Nat) (l : List Hd) (hn : l.length = n) (w : World) (hc : Cells w a (hdCs l)) (hl : n ≤ 1000) :
  Calls Tryz.prog 158 #[.slice a n cap] w (SpansPost 259 (spansOf l) w) := by
 have HN := LH hn
 have HC := LH hc
 generalize hP : SpansPost 259 (spansOf l) w = Post
 have HP := LH hP
 clear hn hc hP
 go_enter Tryz.func158, Tryz.ntmps158
 go_wp2_with fail
 go_loopw [3, 4] (fun v i wr => ∃ b : Nat, 1 ≤ b ∧ (b ≤ n ∨ b = 1) ∧ i = .int .i64 b ∧ wr.ownsRow w.heap.size 259 2 v (spanL (freeAt l) b).length (spCs (spanL (freeAt l) b)) ∧ Below w.heap.size w wr) (fun _ i _ => n - (intOf i).toNat)
 case atStart => exact ⟨1, Nat.le_refl _, .inr rfl, rfl, ⟨rfl, .inl ⟨rfl, rfl⟩⟩, Below.refl _ _⟩
 case round =>
  obtain ⟨b, hb1, hbn, rfl, ho, hb⟩ := hrel
  by_cases hlt : b < n
  ·have hlt' : (b : Int) < (n : Int) := by omega
   have HB := LH hb
   obtain ⟨bl, off, rfl, kd, hfk, d0⟩ := hd_kind (HC.out.below hb (Nat.le_refl _)) (j := b) (by rw [HN.out]; exact hlt)
   have hr := span_round (freeAt l) b hb1
   rw [hfk] at hr
   have HLb := LH (spanL_len (freeAt l) b)
   clear hfk hbn hb
   rcases hr with ⟨hk, hs⟩ | ⟨hk, h1b, hk2, pl, s, m, hs1, hs2, hs3⟩ | ⟨hk, hp, hs1, hs3⟩ | ⟨hk, hp, pl, s, m, hs1, hs2, hs3⟩
   ·have hk1 : (kd != 0) = true := by simpa using hk
    obtain ⟨a1, c1, rfl, hc1, hm1⟩ := owned_form ho
    have HO : Hid (wr.ownsRow w.heap.size 259 2 (.slice a1 (spanL (freeAt l) b).length c1) (spanL (freeAt l) (b + 1)).length (spCs (spanL (freeAt l) (b + 1)))) := LH (by rw [hs]; exact ho)
    clear ho hs hk HLb
    go_wp2_with fail
    exact ⟨⟨b + 1, by omega, by omega, vint (by omega), HO.out, HB.out⟩, by simp [intOf]; omega⟩
   ·have hk1 : (kd != 0) = false := by simpa using hk
    rw [hs1] at ho
    obtain ⟨L, hL⟩ : ∃ L, L = pl.length := ⟨_, rfl⟩
    rw [show (pl ++ [(s, m)]).length = L + 1 by simp [hL]] at ho
    obtain ⟨g, c1, rfl, hc1, hm1, hg1, hg2⟩ := owned_some ho (by omega)
    have hr := owned_row ho
    have hla := spCs_last pl s m
    rw [← hL] at hla
    have e0 : wr.cell? ⟨g, L * 2, none⟩ = some (.int .i64 (s : Int)) := hr.cell hla.1
    have e1 : wr.cell? ⟨g, L * 2 + 1, none⟩ = some (.int .i64 (m : Int)) := hr.cell hla.2
    have f1 : wr.frozen? ⟨g, L * 2 + 1, none⟩ = false := hr.frozen _
    have hsm : ((s : Int) + (m : Int) == (b : Int)) = true := by simp; omega
    have HL := LH hL
    have HS3 := LH hs3
    have HO1 := LH ho
    have hsb : (s : Int) ≤ 1000 := by omega
    have hmb : (m : Int) ≤ 1000 := by omega
    have hLb : L < 1000 := by have := HLb.out; rw [hs1] at this; simp [← hL] at this; omega
    clear ho hs1 hs2 hs3 hL hla hr hk hk2 HLb
    have hw1 : IntKind.i64.wrap (L : Int) = L := IntWalk.i64_in _ (by omega)
    have hw2 : IntKind.i64.wrap ((s : Int) + (m : Int)) = s + m := IntWalk.i64_in _ (by omega)
    go_wp2_with fail
    go_quiet (fail)
    clear hw1 hw2
    have HO2 : Hid ((wr.drewN nq).ownsRow w.heap.size 259 2 (.slice (some ⟨g, 0, none⟩) (L + 1) c1) (L + 1) (spCs (pl ++ [(s, m)]))) := LH HO1.out
    go_wp2_with fail
    refine ⟨⟨b + 1, by omega, by omega, vint (by omega), ?_, ?_⟩, by simp [intOf]; omega⟩
    ·rw [HS3.out, ← show ((m + 1 : Nat) : Int) = (m : Int) + 1 from rfl, ← spCs_bump pl s m (m + 1), show (pl ++ [(s, m + 1)] : List Sp).length = L + 1 by simp [HL.out], ← HL.out]
     exact (HO2.out.stored (L * 2 + 1) _).1
    ·exact below_grownBy (below_drewN HB.out _) HO2.out (HO2.out.stored (L * 2 + 1) _).2 (Nat.le_refl _) (Nat.le_refl _)
   ·have hk1 : (kd != 0) = false := by simpa using hk
    rw [hs1] at ho
    obtain ⟨a1, c1, rfl, hc1, hm1⟩ := owned_form ho
    have HO := LH ho
    have HS3 := LH hs3
    have hone : Hid (∀ u ∈ (#[Value.int .i64 (b : Int), Value.int .i64 1] : Array Value).toList, u.oneCell' = true) := LH (by intro u hu; simp at hu; rcases hu with rfl | rfl <;> rfl)
    clear ho hs1 hs3 hk hp HLb
    go_wp2_with fail
    go_quiet (fail)
    have HO1 : Hid ((wr.drewN nq).ownsRow w.heap.size 259 2 (.slice a1 0 c1) 0 []) := LH HO.out
    have hbase : Hid (w.heap.size ≤ (wr.drewN nq).heap.size) := LH HB.out.size
    go_wp2_with (at_builtin; refine wpList_append_new (us := #[.int .i64 (b : Int), .int .i64 1]) elBs HO1.out rfl hone.out (by omega) (by decide) hbase.out rfl rfl rfl (by simp [Act.eval]) ?_; intro g6 c6 w6 ho6 hg6 hc6 hm6 hb6 hl6; have HO6 := LH ho6; have HG6 := LH hg6; clear ho6 hg6)
    refine ⟨⟨b + 1, by omega, by omega, vint (by omega), ?_, below_grownBy (below_drewN HB.out _) HO1.out HG6.out (Nat.le_refl _) (Nat.le_refl _)⟩, by simp [intOf]; omega⟩
    rw [HS3.out]
    exact HO6.out
   ·have hk1 : (kd != 0) = false := by simpa using hk
    rw [hs1] at ho
    obtain ⟨L, hL⟩ : ∃ L, L = pl.length := ⟨_, rfl⟩
    rw [show (pl ++ [(s, m)]).length = L + 1 by simp [hL]] at ho
    obtain ⟨g, c1, rfl, hc1, hm1, hg1, hg2⟩ := owned_some ho (by omega)
    have hr := owned_row ho
    have hla := spCs_last pl s m
    rw [← hL] at hla
    have e0 : wr.cell? ⟨g, L * 2, none⟩ = some (.int .i64 (s : Int)) := hr.cell hla.1
    have e1 : wr.cell? ⟨g, L * 2 + 1, none⟩ = some (.int .i64 (m : Int)) := hr.cell hla.2
    have hsm : ((s : Int) + (m : Int) == (b : Int)) = false := by simp; omega
    have HL := LH hL
    have HS3 := LH hs3
    have HO := LH ho
    have hsb : (s : Int) ≤ 1000 := by omega
    have hmb : (m : Int) ≤ 1000 := by omega
    have hone : Hid (∀ u ∈ (#[Value.int .i64 (b : Int), Value.int .i64 1] : Array Value).toList, u.oneCell' = true) := LH (by intro u hu; simp at hu; rcases hu with rfl | rfl <;> rfl)
    have hLb : L < 1000 := by have := HLb.out; rw [hs1] at this; simp [← hL] at this; omega
    have hL9 : L + 1 < 1000000000000 := by omega
    clear ho hs1 hs2 hs3 hL hla hr hk hp HLb
    have hw1 : IntKind.i64.wrap (L : Int) = L := IntWalk.i64_in _ (by omega)
    have hw2 : IntKind.i64.wrap ((s : Int) + (m : Int)) = s + m := IntWalk.i64_in _ (by omega)
    go_wp2_with fail
    go_quiet (fail)
    clear hw1 hw2
    have HO1 : Hid ((wr.drewN nq).ownsRow w.heap.size 259 2 (.slice (some ⟨g, 0, none⟩) (L + 1) c1) (L + 1) (spCs (pl ++ [(s, m)]))) := LH HO.out
    have hbase : Hid (w.heap.size ≤ (wr.drewN nq).heap.size) := LH HB.out.size
    go_wp2_with (at_builtin; refine wpList_append_new (us := #[.int .i64 (b : Int), .int .i64 1]) elBs HO1.out rfl hone.out hL9 (by decide) hbase.out rfl rfl rfl (by simp [Act.eval]) ?_; intro g6 c6 w6 ho6 hg6 hc6 hm6 hb6 hl6; have HO6 := LH ho6; have HG6 := LH hg6; clear ho6 hg6)
    refine ⟨⟨b + 1, by omega, by omega, vint (by omega), ?_, below_grownBy (below_drewN HB.out _) HO1.out HG6.out (Nat.le_refl _) (Nat.le_refl _)⟩, by simp [intOf]; omega⟩
    rw [HS3.out, spCs_append, show (pl ++ [(s, m)] ++ [(b, 1)] : List Sp).length = L + 1 + 1 by simp [HL.out]]
    exact HO6.out
  ·have hlt' : decide (b < n) = false := by simp; omega
   have hlt2 : n ≤ b := by omega
   obtain ⟨a1, c1, rfl, hc1, hm1⟩ := owned_form ho
   have HE : Hid (spansOf l = spanL (freeAt l) b) := LH (by
    unfold spansOf; rw [HN.out]
    rcases hbn with h | h
    ·rw [show n = b by omega]
    ·by_cases h0 : n = 0
     ·rw [h0, h]; rfl
     ·rw [show n = b by omega])
   have HO := LH ho
   have HB := LH hb
   clear ho hb
   go_wp2_with fail
   rw [← HP.out]
   refine ⟨_, rfl, ?_, HB.out⟩
   rw [HE.out]
   exact HO.out
theorem dec_enc (b k c l : Int) (h : hdRight k c l = true) : decN b (encN b k c l) = ⟨k, c, l, 0⟩ := by
 have hr : HdRight k c l := by simpa [hdRight] using h
 obtain ⟨n, hn⟩ : ∃ n, n = hdN k c l := ⟨_, rfl⟩
 have hn2 : (n : Int) = k + 4 * c + 256 * l := by rw [hn]; unfold hdN; unfold HdRight at hr; omega
 have hlt : n < 4294967296 := by unfold HdRight at hr; omega
 have he : encN b k c l = sealN n (pl (256 + b)) := by unfold encN; rw [if_pos h, hn]
 have hm : sealN n (pl (256 + b)) % 4294967296 = n := by
  unfold sealN
  rw [Nat.mul_comm, Nat.mul_add_mod, Nat.mod_eq_of_lt hlt]
 have ho : openN (encN b k c l) (pl (256 + b)) = some n := by
  unfold openN; rw [he, hm, if_pos rfl]
 have e1 : ((n % 4 : Nat) : Int) = k := by unfold HdRight at hr; omega
 have e2 : ((n / 4 % 64 : Nat) : Int) = c := by unfold HdRight at hr; omega
 have e3 : ((n / 256 % 65536 : Nat) : Int) = l := by unfold HdRight at hr; omega
 rw [decN_some ho]
 unfold decS
 rw [e1, e2, e3, if_pos rfl, if_pos h]
def Dev.live (S : Dev) : Prop := S.dead = false ∧ S.armed = false
theorem Dev.live.stop {S : Dev} (h : S.live) : S.stop = false := by unfold Dev.stop; rw [h.1, h.2]; rfl
theorem Dev.live.step {S : Dev} (h : S.live) : S.step.live := by unfold Dev.step; rw [h.stop]; exact h
theorem Dev.live.store {S : Dev} (h : S.live) (i : Int) (x : Nat) : (S.store i x).live := by
 unfold Dev.store
 split
 ·exact h
 ·rw [h.stop]; exact h.step
theorem Dev.live.store_ok {S : Dev} (h : S.live) (i : Nat) (x : Nat) (hi : i < S.cache.length) : S.storeE i = 0 ∧ (S.store i x).cache = S.cache.set i x := by
 constructor
 ·unfold Dev.storeE; rw [if_neg (by omega), h.stop]; rfl
 ·unfold Dev.store; rw [if_neg (by omega), h.stop]
  simp only [Bool.false_eq_true, if_false, Dev.put, (Dev.step_rest S).2.1, Int.toNat_natCast]
theorem Dev.store_okN {S : Dev} {N : Nat} (h : S.ok N) (i : Int) (x : Nat) : (S.store i x).ok (N + 1) := by
 unfold Dev.store
 split
 ·exact h.mono (by omega)
 ·split
  ·exact Dev.step_ok h
  ·exact (Dev.step_ok h : S.step.ok (N + 1))
theorem Dev.live.flush {S : Dev} (h : S.live) (j : Int) : (S.flush j).live := by
 unfold Dev.flush
 split
 ·exact h
 ·rw [h.stop]
  simp only [Bool.false_eq_true, if_false]
  unfold Dev.hold
  split
  ·exact h.step
  ·exact h.step
theorem Dev.live.flushE {S : Dev} (h : S.live) (j : Nat) (hj : j < S.dirty.length) : S.flushE j = 0 := by unfold Dev.flushE; rw [if_neg (by omega), h.stop]; rfl
theorem Dev.live.flushRun {S : Dev} (h : S.live) (a : Nat) : ∀ m, a + m ≤ S.dirty.length → (S.flushRun a m).err = 0 ∧ (S.flushRun a m).dev.live ∧ (S.flushRun a m).dev.cache = S.cache ∧ (S.flushRun a m).dev.dirty = S.dirty := by
 intro m
 induction m with
 | zero => intro _; exact ⟨rfl, h, rfl, rfl⟩
 | succ m ih =>
  intro hm
  obtain ⟨i1, i2, i3, i4⟩ := ih (by omega)
  unfold Dev.flushRun
  rw [if_neg (by rw [i1]; simp)]
  refine ⟨i2.flushE _ (by rw [i4]; omega), i2.flush _, ?_, ?_⟩
  ·exact (Dev.flush_len _ _).1.trans i3
  ·exact (Dev.flush_len _ _).2.trans i4
theorem Dev.live.persist {S : Dev} (h : S.live) (p n : Nat) (hn : 0 < n) (hd : S.cache.length = 8 * S.dirty.length) (hp : p + n ≤ S.cache.length) : (S.persist p n).err = 0 ∧ (S.persist p n).dev.cache = S.cache := by
 unfold Dev.persist
 rw [if_neg (by omega), if_pos (by omega)]
 unfold Dev.persistN
 obtain ⟨i1, i2, i3, i4⟩ := h.flushRun ((p : Int) / 8).toNat (((p : Int) + (n : Int) - 1) / 8 - (p : Int) / 8 + 1).toNat (by omega)
 rw [if_neg (by rw [i1]; simp)]
 constructor
 ·show Dev.fenceE _ = 0
  unfold Dev.fenceE; rw [i2.stop]; rfl
 ·show (Dev.fence _).cache = _
  unfold Dev.fence; rw [i2.stop]
  simp only [Bool.false_eq_true, if_false]
  rw [(fenceTo_len _ _).2.1, (Dev.step_rest _).2.1, i3]
theorem Touch.wide {L M : List Nat} {w w' : World} (h : Touch L w w') (hs : ∀ b ∈ L, b ∈ M) : Touch M w w' := ⟨h.os, h.tape, h.output, h.size, fun k hk hn => h.block k hk (fun hm => hn (hs k hm))⟩
structure TabG (w : World) (p g c : Nat) (F : Foot) (B : Nat) (l : List Hd) : Prop where
 head : w.heap[p]? = some (.cells #[vdev F, .int .i64 (B : Int), .slice (some ⟨g, 0, none⟩) B c] 158 (0, 0))
 len : l.length = B
 cap : B ≤ c
 row : RowAt w g 107 (hdCs l)
theorem TabG.at {w : World} {p g c B : Nat} {F : Foot} {l : List Hd} (h : TabG w p g c F B l) (hne : p ≠ g) : TabAt w p F B l := ⟨g, c, by rw [h.len]; exact h.head, by rw [h.len]; exact h.cap, h.row, hne⟩
theorem TabG.keep {w w' : World} {p g c B : Nat} {F : Foot} {l : List Hd} (h : TabG w p g c F B l) (h1 : w'.heap[p]? = w.heap[p]?) (h2 : w'.heap[g]? = w.heap[g]?) : TabG w' p g c F B l :=
 ⟨h1.trans h.head, h.len, h.cap, h.row.keep h2⟩
theorem TabG.lt {w : World} {p g c B : Nat} {F : Foot} {l : List Hd} (h : TabG w p g c F B l) : p < w.heap.size ∧ g < w.heap.size := ⟨(Array.getElem?_eq_some_iff.1 h.head).1, h.row.lt⟩
def OpenPostG (f : Nat → Nat) (F : Foot) (B : Nat) (w : World) : Ending → World → Prop := fun en w' => Below w.heap.size w w' ∧
  ((AllOk f B ∧ ∃ p g c, en = .returned (.tuple #[.pointer (some ⟨p, 0, none⟩), .int .i64 0]) ∧ w.heap.size ≤ p ∧ w.heap.size ≤ g ∧ p ≠ g ∧ TabG w' p g c F B (hds f B)) ∨
   (∃ b : Nat, 1 ≤ b ∧ b < B ∧ AllOk f b ∧ (decN b (f b)).code ≠ 0 ∧ en = .returned (.tuple #[.pointer none, .int .i64 21])))
theorem open_tabG {w : World} {F : Foot} {S : Dev} (h : DevAt w F S) (B : Nat) (hB1 : 1 ≤ B) (hB : B ≤ 1000) :
  Calls Tryz.prog 111 #[vdev F, vgeom B] w (OpenPostG (devWord S) F B w) := by
 have hbx := below_alloc w (.cells #[.int .i64 (B : Int)] 44)
 have HD := LH (h.below hbx)
 have HB := LH hbx
 have hcx : (w.alloc (.cells #[.int .i64 (B : Int)] 44)).cell? ⟨w.heap.size, 0, none⟩ = some (.int .i64 (B : Int)) := cell_alloc_new _ _ _ 0 _ rfl
 generalize hP : OpenPostG (devWord S) F B w = Post
 have HPE := LH hP
 clear h hP hbx
 go_enter Tryz.func111, Tryz.ntmps111
 go_wp2_with fail
 refine (read_any HD.out B hB1 hB).mono ?_
 rintro e w1 ⟨hb1, ⟨hok, g, c, rfl, hg, hgc, hr⟩ | ⟨b, hb0, hbB, hok, hbad, rfl⟩⟩
 ·have hcx1 : w1.cell? ⟨w.heap.size, 0, none⟩ = some (.int .i64 (B : Int)) := below_cells hb1 hcx (Nat.le_refl _)
  have HB1 := LH (HB.out.trans (hb1.mono HB.out.size))
  have HOK := LH hok
  have HR := LH hr
  have hgl := hr.lt
  clear hcx hok hr hb1 HD
  go_wp2_with fail
  rw [← HPE.out]
  refine ⟨HB1.out.alloc HB1.out.size _, .inl ⟨HOK.out, w1.heap.size, g, c, rfl, HB1.out.size, by simp at hg; omega, by omega, ⟨?_, hds_length _ _, hgc, HR.out.keep (Below.heap_alloc _ _ _ hgl)⟩⟩⟩
  rw [heap_alloc_new]
 ·have HB1 := LH (HB.out.trans (hb1.mono HB.out.size))
  have HOK := LH hok
  have HBad := LH hbad
  clear hok hbad hb1 HD
  go_wp2_with fail
  rw [← HPE.out]
  exact ⟨HB1.out, .inr ⟨b, hb0, hbB, HOK.out, HBad.out, rfl⟩⟩
def allRight (l : List Hd) (k : Nat) : Prop := ∀ i, i < k → hdRight (l.getD i default).k (l.getD i default).c (l.getD i default).l = true
instance (l : List Hd) (k : Nat) : Decidable (allRight l k) := Nat.decidableBallLT k _
end
section
def IsRun (f : Nat → Bool) (s n : Nat) : Prop :=
 1 ≤ n ∧ (∀ b, s ≤ b → b < s + n → f b = true) ∧ (∀ b, b + 1 = s → f b = false) ∧ f (s + n) = false
theorem IsRun.meet {f : Nat → Bool} {s n s' n' b : Nat} (h : IsRun f s n) (h' : IsRun f s' n') (h1 : s ≤ b) (h2 : b < s + n) (h3 : s' ≤ b) (h4 : b < s' + n') : s = s' ∧ n = n' := by
 obtain ⟨hn, ha, hb, hc⟩ := h
 obtain ⟨hn', ha', hb', hc'⟩ := h'
 have es : s = s' := by
  rcases Nat.lt_trichotomy s s' with hlt | he | hlt
  ·have x := hb' (s' - 1) (by omega)
   have y := ha (s' - 1) (by omega) (by omega)
   rw [x] at y; cases y
  ·exact he
  ·have x := hb (s - 1) (by omega)
   have y := ha' (s - 1) (by omega) (by omega)
   rw [x] at y; cases y
 subst es
 refine ⟨rfl, ?_⟩
 rcases Nat.lt_trichotomy n n' with hlt | he | hlt
 ·have y := ha' (s + n) (by omega) (by omega)
  rw [hc] at y; cases y
 ·exact he
 ·have y := ha (s + n') (by omega) (by omega)
  rw [hc'] at y; cases y
theorem IsRun.one {f : Nat → Bool} {s n n' : Nat} (h : IsRun f s n) (h' : IsRun f s n') : n = n' :=
 (h.meet h' (b := s) (Nat.le_refl _) (by have := h.1; omega) (Nat.le_refl _) (by have := h'.1; omega)).2
theorem IsRun.back {f : Nat → Bool} {s n s' n' : Nat} (h : IsRun f s n) (h' : IsRun f s' n') (he : s + n = s' + n') : s = s' ∧ n = n' :=
 h.meet h' (b := s + n - 1) (by have := h.1; omega) (by have := h.1; omega) (by have := h'.1; omega) (by have := h'.1; omega)
theorem run_start (f : Nat → Bool) : ∀ b, f b = true → ∃ s, s ≤ b ∧ (∀ x, s ≤ x → x ≤ b → f x = true) ∧ ∀ x, x + 1 = s → f x = false
 | 0, h => ⟨0, Nat.le_refl _, fun x _ hx => by rw [show x = 0 by omega]; exact h, fun x hx => by omega⟩
 | b + 1, h => by
  cases hb : f b with
  | false => exact ⟨b + 1, Nat.le_refl _, fun x h1 h2 => by rw [show x = b + 1 by omega]; exact h, fun x hx => by rw [show x = b by omega]; exact hb⟩
  | true =>
   obtain ⟨s, h1, h2, h3⟩ := run_start f b hb
   refine ⟨s, by omega, fun x hx hx' => ?_, h3⟩
   by_cases hxe : x = b + 1
   ·rw [hxe]; exact h
   ·exact h2 x hx (by omega)
theorem run_end (f : Nat → Bool) (L : Nat) (hL : f L = false) : ∀ k b, b + k = L → f b = true → ∃ e, b < e ∧ (∀ x, b ≤ x → x < e → f x = true) ∧ f e = false
 | 0, b, hb, h => by rw [show b = L by omega, hL] at h; cases h
 | k + 1, b, hb, h => by
  cases hn : f (b + 1) with
  | false => exact ⟨b + 1, by omega, fun x h1 h2 => by rw [show x = b by omega]; exact h, hn⟩
  | true =>
   obtain ⟨e, h1, h2, h3⟩ := run_end f L hL k (b + 1) (by omega) hn
   refine ⟨e, by omega, fun x hx hx' => ?_, h3⟩
   by_cases hxe : x = b
   ·rw [hxe]; exact h
   ·exact h2 x (by omega) hx'
theorem has_run {f : Nat → Bool} {L b : Nat} (hL : ∀ x, L ≤ x → f x = false) (h : f b = true) : ∃ s n, IsRun f s n ∧ s ≤ b ∧ b < s + n := by
 have hb : b < L := by
  rcases Nat.lt_or_ge b L with h1 | h1
  ·exact h1
  ·rw [hL b h1] at h; cases h
 obtain ⟨s, h1, h2, h3⟩ := run_start f b h
 obtain ⟨e, h4, h5, h6⟩ := run_end f L (hL L (Nat.le_refl _)) (L - b) b (by omega) h
 refine ⟨s, e - s, ⟨by omega, fun x hx hx' => ?_, h3, by rw [show s + (e - s) = e by omega]; exact h6⟩, h1, by omega⟩
 rcases Nat.lt_or_ge b x with hbx | hbx
 ·exact h5 x (by omega) (by omega)
 ·exact h2 x hx hbx
theorem give_run {f f' : Nat → Bool} {a m s0 e0 : Nat} (hm : 1 ≤ m) (h0 : ∀ b, a ≤ b → b < a + m → f b = false)
  (hin : ∀ b, a ≤ b → b < a + m → f' b = true) (hout : ∀ b, b < a ∨ a + m ≤ b → f' b = f b)
  (hs : s0 = a ∧ (∀ b, b + 1 = a → f b = false) ∨ s0 < a ∧ IsRun f s0 (a - s0))
  (he : e0 = a + m ∧ f (a + m) = false ∨ a + m < e0 ∧ IsRun f (a + m) (e0 - (a + m))) (s n : Nat) :
  IsRun f' s n ↔ (s = s0 ∧ n = e0 - s0) ∨ (IsRun f s n ∧ s + n ≠ a ∧ s ≠ a + m) := by
 have hs0 : s0 ≤ a := by rcases hs with ⟨h, _⟩ | ⟨h, _⟩ <;> omega
 have he0 : a + m ≤ e0 := by rcases he with ⟨h, _⟩ | ⟨h, _⟩ <;> omega
 have hfe : f e0 = false := by
  rcases he with ⟨h, h'⟩ | ⟨h, _, _, _, h'⟩
  ·rw [h]; exact h'
  ·rw [show e0 = a + m + (e0 - (a + m)) by omega]; exact h'
 have hfs : ∀ b, b + 1 = s0 → f b = false := by
  rcases hs with ⟨h, h'⟩ | ⟨h, _, _, h', _⟩
  ·rw [h]; exact h'
  ·exact h'
 have hnew : IsRun f' s0 (e0 - s0) := by
  refine ⟨by omega, fun b h1 h2 => ?_, fun b hb => by rw [hout b (by omega)]; exact hfs b hb, by rw [show s0 + (e0 - s0) = e0 by omega, hout e0 (by omega)]; exact hfe⟩
  rcases Nat.lt_or_ge b a with h3 | h3
  ·rw [hout b (by omega)]
   rcases hs with ⟨h, _⟩ | ⟨h, _, h', _⟩
   ·omega
   ·exact h' b h1 (by omega)
  ·rcases Nat.lt_or_ge b (a + m) with h4 | h4
   ·exact hin b h3 h4
   ·rw [hout b (by omega)]
    rcases he with ⟨h, _⟩ | ⟨h, _, h', _⟩
    ·omega
    ·exact h' b h4 (by omega)
 have hold : ∀ s n, IsRun f s n → s + n ≤ a ∨ a + m ≤ s := by
  intro s n ⟨h1, h2, _, _⟩
  rcases Nat.lt_or_ge a (s + n) with h5 | h5
  ·rcases Nat.lt_or_ge s (a + m) with h6 | h6
   ·by_cases h7 : a ≤ s
    ·have := h2 s (Nat.le_refl _) (by omega); rw [h0 s h7 h6] at this; cases this
    ·have := h2 a (by omega) h5; rw [h0 a (Nat.le_refl _) (by omega)] at this; cases this
   ·exact .inr h6
  ·exact .inl h5
 constructor
 ·intro h
  by_cases hc : s < e0 ∧ s0 < s + n
  ·left
   have hb : ∃ b, s ≤ b ∧ b < s + n ∧ s0 ≤ b ∧ b < s0 + (e0 - s0) := by
    have := h.1
    by_cases hx : s0 ≤ s
    ·exact ⟨s, by omega, by omega, hx, by omega⟩
    ·exact ⟨s0, by omega, by omega, by omega, by omega⟩
   obtain ⟨b, h1, h2, h3, h4⟩ := hb
   exact h.meet hnew h1 h2 h3 h4
  ·right
   obtain ⟨h1, h2, h3, h4⟩ := h
   have hne : s ≠ e0 := by
    rintro rfl
    have := h2 _ (Nat.le_refl _) (by omega); rw [hout _ (by omega), hfe] at this; cases this
   have hne' : s + n ≠ s0 := by
    intro e
    have := h2 (s0 - 1) (by omega) (by omega); rw [hout _ (by omega), hfs (s0 - 1) (by omega)] at this; cases this
   have hfar : e0 < s ∨ s + n < s0 := by omega
   refine ⟨⟨h1, fun b hb hb' => by rw [← hout b (by omega)]; exact h2 b hb hb', fun b hb => by rw [← hout b (by omega)]; exact h3 b hb, by rw [← hout _ (by omega)]; exact h4⟩, by omega, by omega⟩
 ·rintro (⟨rfl, rfl⟩ | ⟨h, h1, h2⟩)
  ·exact hnew
  ·have ho := hold s n h
   obtain ⟨h3, h4, h5, h6⟩ := h
   refine ⟨h3, fun b hb hb' => by rw [hout b (by omega)]; exact h4 b hb hb', fun b hb => by rw [hout b (by omega)]; exact h5 b hb, ?_⟩
   rw [hout _ (by omega)]; exact h6
end
end Go.Proofs.YtpohaahihdhleaaGreat
