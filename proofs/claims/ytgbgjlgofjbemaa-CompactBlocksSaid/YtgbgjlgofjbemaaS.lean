/- Plain: how many blocks a graph's nodes need. -/
import Derived.Test.YtgbgjlgofjbemaaN
namespace Go.Proofs.Ytgbgjlgofjbemaa
open Go.RowKit

def xsize (x : NodeV) : Nat := objSize (x.ptrs.length : Nat) (x.datas.length : Nat)
/-- How many nodes are of class k. -/
def cntK (xs : List NodeV) (k : Nat) : Nat := xs.countP (fun x => rofN (xsize x : Nat) == (k : Int))
def ceilK (m c : Nat) : Nat := (m + c - 1) / c
def sumBlk (xs : List NodeV) : Nat := (xs.map (fun x => objBlocks (xsize x))).sum
def sumCls (xs : List NodeV) (k : Nat) : Nat := ((List.range k).map (fun j => ceilK (cntK xs j) (clsCells (j : Int)))).sum
def blkN (xs : List NodeV) : Nat := 1 + sumCls xs 32 + sumBlk xs

theorem objBlocks_le (n : Nat) (h : n ≤ 16448) : objBlocks n ≤ 33 := by unfold objBlocks; split <;> omega

theorem sumBlk_append (xs ys : List NodeV) : sumBlk (xs ++ ys) = sumBlk xs + sumBlk ys := by simp [sumBlk]
theorem sumBlk_le (xs : List NodeV) : sumBlk xs ≤ 33 * xs.length := by
  induction xs with
  | nil => simp [sumBlk]
  | cons x l ih =>
    have h := objBlocks_le (xsize x) (objSize_le _ _)
    have e : sumBlk (x :: l) = objBlocks (xsize x) + sumBlk l := by simp [sumBlk]
    rw [e, List.length_cons]
    omega

theorem take_one (xs : List NodeV) (j : Nat) (h : j < xs.length) : xs.take (j + 1) = xs.take j ++ [xs.getD j default] := by
  rw [List.take_succ_eq_append_getElem h]
  simp [h]

theorem sumBlk_step (xs : List NodeV) (j : Nat) (h : j < xs.length) : sumBlk (xs.take (j + 1)) = sumBlk (xs.take j) + objBlocks (xsize (xs.getD j default)) := by
  rw [take_one xs j h, sumBlk_append]
  simp [sumBlk]

theorem cntK_le (xs : List NodeV) (k : Nat) : cntK xs k ≤ xs.length := List.countP_le_length

theorem cntK_step (xs : List NodeV) (j k : Nat) (h : j < xs.length) : cntK (xs.take (j + 1)) k = cntK (xs.take j) k + if rofN (xsize (xs.getD j default) : Nat) = (k : Int) then 1 else 0 := by
  rw [take_one xs j h]
  unfold cntK
  rw [List.countP_append, List.countP_singleton]
  simp only [beq_iff_eq]

/-- The counts, as an array's cells. -/
def cntV (xs : List NodeV) : Array Value := ((List.range 32).map (fun k => Value.int .i64 (cntK xs k : Nat))).toArray

theorem cntV_nil : cntV [] = zeros32 := by
  rfl

theorem cntV_size (xs : List NodeV) : (cntV xs).size = 32 := by simp [cntV]
theorem cntV_at (xs : List NodeV) (k : Nat) (h : k < 32) : (cntV xs)[k]? = some (Value.int .i64 (cntK xs k : Nat)) := by simp [cntV, h]

theorem cntV_small (xs : List NodeV) (j c : Nat) (hj : j < xs.length) (hc : c < 32) (h : rofN (xsize (xs.getD j default) : Nat) = (c : Int)) :
    (cntV (xs.take j)).setIfInBounds c (Value.int .i64 ((cntK (xs.take j) c : Nat) + 1)) = cntV (xs.take (j + 1)) := by
  apply Array.ext
  · simp [cntV]
  · intro i h1 h2
    simp only [Array.size_setIfInBounds, cntV_size] at h1
    rw [Array.getElem_setIfInBounds (by rw [cntV_size]; exact h1)]
    have hg : ∀ l : List NodeV, (cntV l)[i]'(by rw [cntV_size]; exact h1) = Value.int .i64 (cntK l i : Nat) := by intro l; simp [cntV]
    rw [hg, hg, cntK_step xs j i hj, h]
    by_cases e : c = i
    · subst e; simp
    · rw [if_neg e, if_neg (by omega)]
      simp

theorem cntV_large (xs : List NodeV) (j : Nat) (hj : j < xs.length) (h : rofN (xsize (xs.getD j default) : Nat) = -1) : cntV (xs.take (j + 1)) = cntV (xs.take j) := by
  unfold cntV
  congr 1
  apply List.map_congr_left
  intro k _
  rw [cntK_step xs j k hj, h, if_neg (by omega)]
  simp

theorem ofN_lt (n : Nat) (h : small n) : ofN (n : Int) < 32 := by
  have : ofN (n : Int) < sizesL.length := by
    unfold ofN
    rw [List.findIdx_lt_length]
    refine ⟨256, by decide, ?_⟩
    unfold small at h
    simp; omega
  exact this

theorem clsCells_pos (k : Nat) (h : k < 32) : 2 ≤ clsCells (k : Int) := by
  unfold clsCells
  have h1 := clsWords_le (k : Int)
  have h2 := clsWords_pos (k : Int) (by omega)
  exact (Nat.le_div_iff_mul_le (by omega)).2 (by omega)

theorem clsCells_le (k : Int) : clsCells k ≤ 512 := Nat.div_le_self _ _

theorem sumCls_step (xs : List NodeV) (k : Nat) : sumCls xs (k + 1) = sumCls xs k + ceilK (cntK xs k) (clsCells (k : Int)) := by
  simp [sumCls, List.range_succ]

theorem ceilK_zero (c : Nat) (hc : 0 < c) : ceilK 0 c = 0 := by unfold ceilK; exact Nat.div_eq_of_lt (by omega)
theorem ceilK_pos (m c : Nat) (hc : 0 < c) (hm : 0 < m) : ceilK m c = (m - 1) / c + 1 := by
  unfold ceilK
  rw [show m + c - 1 = (m - 1) + c by omega, Nat.add_div_right _ hc]

theorem ceilK_le (m c : Nat) (hc : 0 < c) : ceilK m c ≤ m := by
  by_cases h : m = 0
  · subst h; rw [ceilK_zero c hc]; exact Nat.le_refl _
  · rw [ceilK_pos m c hc (by omega)]
    have := Nat.div_le_self (m - 1) c
    omega

theorem sumCls_le (xs : List NodeV) (k : Nat) (hk : k ≤ 32) : sumCls xs k ≤ k * xs.length := by
  induction k with
  | zero => simp [sumCls]
  | succ k ih =>
    rw [sumCls_step]
    have h1 := cntK_le xs k
    have h2 := ceilK_le (cntK xs k) (clsCells (k : Int)) (by have := clsCells_pos k (by omega); omega)
    have h3 := ih (by omega)
    have : (k + 1) * xs.length = k * xs.length + xs.length := Nat.succ_mul _ _
    omega

end Go.Proofs.Ytgbgjlgofjbemaa
