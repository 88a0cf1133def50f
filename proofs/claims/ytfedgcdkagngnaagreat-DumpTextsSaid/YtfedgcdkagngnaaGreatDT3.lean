/- Parts of the proof, one behind the other: Zb, Bt, Ze, Cp, Cr, Cs, HdA, HdB, HdC, Bk, Mx, Ch, Wb, Zm, Zn. -/
import Derived.Test.YtfedgcdkagngnaaGreatDT2
import Derived.Outline
import Derived.Deep.Cut
import Derived.Laws.BitsAllLaws
import Derived.RangeFuncNested
import Derived.RangeFuncBound
import Derived.RangeFuncCalls
import Derived.RangeFuncLeaves
import Derived.RangeFuncBox
import Derived.Shelf.Abstract
import Derived.WalkKit
import Derived.OwnWalkIn
import Derived.TacticsInMore
import Derived.LoopNIn
import Derived.LoopIn
import Derived.Maps.AppendAt
import Derived.Maps.OwnOps
import Derived.Maps.OwnSet
import Derived.Maps.Views

/- bitmap: a set in memory: in, Has, Len, Limit. -/
namespace Go.Proofs.YtfedgcdkagngnaaGreat
open Go.RowKit
set_option linter.unusedVariables false

/-- Where a set lies. -/
structure SetF where
  u : Nat
  b : Nat
  c : Nat
def SetF.list (X : SetF) : List Nat := [X.u, X.b]
def setV (X : SetF) (n : Nat) (l : List Bool) : Array Value := #[.slice (some ⟨X.b, 0, none⟩) n X.c, .int .i64 (l.length : Int), .int .i64 (l.count true : Int)]

structure SetIn (w : World) (X : SetF) (ws : List Nat) (l : List Bool) : Prop where
  bits : BitsOf ws l
  head : w.heap[X.u]? = some (.cells (setV X ws.length l) 222 (0, 0))
  row : RowAt w X.b 136 (ws.map vu64)
  ne : X.u ≠ X.b
  small : l.length ≤ 1000000
def SetAt (w : World) (X : SetF) (l : List Bool) : Prop := ∃ ws, SetIn w X ws l
abbrev vset (X : SetF) : Value := .pointer (some ⟨X.u, 0, none⟩)

theorem SetIn.keep {w w' : World} {X : SetF} {ws : List Nat} {l : List Bool} (h : SetIn w X ws l) (hk : ∀ k ∈ X.list, w'.heap[k]? = w.heap[k]?) : SetIn w' X ws l :=
  ⟨h.bits, (hk X.u (by simp [SetF.list])).trans h.head, h.row.keep (hk X.b (by simp [SetF.list])), h.ne, h.small⟩
theorem SetAt.keep {w w' : World} {X : SetF} {l : List Bool} (h : SetAt w X l) (hk : ∀ k ∈ X.list, w'.heap[k]? = w.heap[k]?) : SetAt w' X l := by
  obtain ⟨ws, h⟩ := h; exact ⟨ws, h.keep hk⟩
theorem SetAt.mem {w : World} {X : SetF} {l : List Bool} (h : SetAt w X l) : ∀ k ∈ X.list, k < w.heap.size := by
  obtain ⟨ws, h⟩ := h
  have h1 := (Array.getElem?_eq_some_iff.1 h.head).1
  have h2 := h.row.lt
  simp only [SetF.list, List.mem_cons, List.not_mem_nil, or_false, forall_eq_or_imp, forall_eq]
  exact ⟨h1, h2⟩
theorem SetAt.below {w w' : World} {X : SetF} {l : List Bool} (h : SetAt w X l) (hb : Below w.heap.size w w') : SetAt w' X l := h.keep (fun k hk => hb.block k (h.mem k hk))
theorem SetAt.small {w : World} {X : SetF} {l : List Bool} (h : SetAt w X l) : l.length ≤ 1000000 := by obtain ⟨_, h⟩ := h; exact h.small
theorem SetIn.c0 {w : World} {X : SetF} {ws : List Nat} {l : List Bool} (h : SetIn w X ws l) : w.cell? ⟨X.u, 0, none⟩ = some (.slice (some ⟨X.b, 0, none⟩) ws.length X.c) := cell_of_row _ _ 0 _ _ _ h.head
theorem SetIn.c1 {w : World} {X : SetF} {ws : List Nat} {l : List Bool} (h : SetIn w X ws l) : w.cell? ⟨X.u, 1, none⟩ = some (.int .i64 (l.length : Int)) := cell_of_row _ _ 1 _ _ _ h.head
set_option maxHeartbeats 1000000 in
theorem sin_any {w : World} {X : SetF} {l : List Bool} (h : SetAt w X l) (a : Int) :
    Calls Tryz.prog 162 #[vset X, .int .i64 a] w fun e w' => e = .returned (.bool (decide (0 ≤ a ∧ a < (l.length : Int)))) ∧ w = w' := by
  obtain ⟨ws, h⟩ := h
  have c1 := h.c1
  have hs := h.small
  clear h
  by_cases h0 : 0 ≤ a
  · have h0' : decide (0 ≤ a) = true := by simpa using h0
    by_cases h1 : a < (l.length : Int)
    · have HR : Hid (decide (0 ≤ a ∧ a < (l.length : Int)) = true) := Lib.hid (by simp [h0, h1])
      generalize decide (0 ≤ a ∧ a < (l.length : Int)) = r at *
      go_enter Tryz.func162, Tryz.ntmps162
      go_wp2_with fail
      go_ret
      exact ⟨by rw [HR.out]; rfl, rfl⟩
    · have HR : Hid (decide (0 ≤ a ∧ a < (l.length : Int)) = false) := Lib.hid (by simp [h1])
      have h1' : (l.length : Int) ≤ a := by omega
      generalize decide (0 ≤ a ∧ a < (l.length : Int)) = r at *
      go_enter Tryz.func162, Tryz.ntmps162
      go_wp2_with fail
      go_ret
      exact ⟨by rw [HR.out]; rfl, rfl⟩
  · have HR : Hid (decide (0 ≤ a ∧ a < (l.length : Int)) = false) := Lib.hid (by simp [h0])
    have h0' : decide (0 ≤ a) = false := by simpa using h0
    generalize decide (0 ≤ a ∧ a < (l.length : Int)) = r at *
    go_enter Tryz.func162, Tryz.ntmps162
    go_wp2_with fail
    go_ret
    exact ⟨by rw [HR.out]; rfl, rfl⟩

/-- Is a number in the set? -/
def hasI (l : List Bool) (a : Int) : Bool := decide (0 ≤ a) && l.getD a.toNat false
theorem hasI_nat (l : List Bool) (j : Nat) : hasI l (j : Int) = l.getD j false := by unfold hasI; simp
theorem hasI_out {l : List Bool} {a : Int} (h : decide (0 ≤ a ∧ a < (l.length : Int)) = false) : hasI l a = false := by
  unfold hasI
  by_cases h0 : 0 ≤ a
  · have : ¬ a < (l.length : Int) := by simpa [h0] using h
    rw [List.getD_eq_getElem?_getD, List.getElem?_eq_none (by omega)]; simp
  · simp [h0]

theorem bit_one (x r : Nat) (hx : x < 18446744073709551616) : bits BinOp.and IntKind.u64 ((x / 2 ^ r : Nat) : Int) 1 = ((x / 2 ^ r % 2 : Nat) : Int) := by
  have h1 : x / 2 ^ r < 18446744073709551616 := Nat.lt_of_le_of_lt (Nat.div_le_self _ _) hx
  have := u64_and_nat (x / 2 ^ r) 1 h1 (by decide)
  rw [show (1 : Int) = ((1 : Nat) : Int) from rfl, this, Nat.and_one_is_mod]

theorem bit_eq (x m : Nat) : (((x / 2 ^ m % 2 : Nat) : Int) == 1) = x.testBit m := by
  have h := bit_shift x m
  cases hb : x.testBit m with
  | false =>
    have : x / 2 ^ m % 2 = 0 := by
      have : ¬ x / 2 ^ m % 2 = 1 := fun c => by rw [h.1 c] at hb; cases hb
      omega
    rw [this]; rfl
  | true =>
    have := h.2 hb
    rw [this]; rfl

set_option maxHeartbeats 1000000 in
theorem shas_any {w : World} {X : SetF} {l : List Bool} (h : SetAt w X l) (a : Int) :
    Calls Tryz.prog 109 #[vset X, .int .i64 a] w fun e w' => e = .returned (.bool (hasI l a)) ∧ w = w' := by
  have HS := Lib.hid h
  obtain ⟨ws, h⟩ := h
  have c0 := h.c0
  by_cases hin : 0 ≤ a ∧ a < (l.length : Int)
  · obtain ⟨j, rfl⟩ := Int.eq_ofNat_of_zero_le hin.1
    have hj : j < l.length := by omega
    have HT : Hid (decide (0 ≤ (j : Int) ∧ (j : Int) < (l.length : Int)) = true) := Lib.hid (by simp [hj])
    have hw := h.bits.word hj
    have HB := Lib.hid (h.bits.bit j)
    have hx := h.bits.getD_lt (j / 64)
    have d0 : w.cell? ⟨X.b, j / 64, none⟩ = some (vu64 (ws.getD (j / 64) 0)) := h.row.cell (by simp [hw])
    have HH := Lib.hid (hasI_nat l j)
    unfold bitW at HB
    have HO := Lib.hid (bit_one (ws.getD (j / 64) 0) (j % 64) hx)
    have HE := Lib.hid (bit_shift (ws.getD (j / 64) 0) (j % 64))
    have hsm := h.small
    generalize ws.getD (j / 64) 0 = x at *
    generalize hasI l (j : Int) = r at *
    generalize l.getD j false = r2 at *
    generalize hr : j % 64 = m at *
    generalize hq : j / 64 = q at *
    have hm : m < 64 := by omega
    have e1 : (j : Int) / 64 = (q : Int) := by omega
    have e2 : (j : Int) % 64 = (m : Int) := by omega
    clear h hin hr hq
    go_enter Tryz.func109, Tryz.ntmps109
    go_wp2_with fail
    refine (sin_any HS.out (j : Int)).mono ?_
    rintro e w1 ⟨rfl, rfl⟩
    rw [HT.out]
    go_wp2_with fail
    go_ret
    have e : ((x : Int) / 2 ^ m) = ((x / 2 ^ m : Nat) : Int) := by push_cast; rfl
    refine ⟨?_, rfl⟩
    rw [HH.out, ← HB.out, ← bit_eq, ← HO.out, ← e]
    rfl
  · have HT : Hid (decide (0 ≤ a ∧ a < (l.length : Int)) = false) := Lib.hid (by simpa using hin)
    have HH := Lib.hid (hasI_out HT.out)
    generalize hasI l a = r at *
    clear h hin c0
    go_enter Tryz.func109, Tryz.ntmps109
    go_wp2_with fail
    refine (sin_any HS.out a).mono ?_
    rintro e w1 ⟨rfl, rfl⟩
    rw [HT.out]
    go_wp2_with fail
    go_ret
    exact ⟨by rw [HH.out]; rfl, rfl⟩

theorem or_val1 (x m : Nat) (hx : x < 18446744073709551616) (hm : m < 64) : bits BinOp.or IntKind.u64 (x : Int) (IntKind.u64.wrap ((2 : Int) ^ m)) = ((x ||| 2 ^ m : Nat) : Int) := by
  have p : 2 ^ m < 18446744073709551616 := Nat.pow_lt_pow_right (n := 64) (by decide) hm
  have e : IntKind.u64.wrap ((2 : Int) ^ m) = ((2 ^ m : Nat) : Int) := by
    rw [show (2 : Int) ^ m = ((2 ^ m : Nat) : Int) by push_cast; rfl]
    generalize 2 ^ m = y at p ⊢
    rw [IntKind.wrap_u64]; omega
  rw [e, u64_or_nat _ _ hx p]
/-- One word is another one; then the count. -/
structure SetMid (w w1 : World) (X : SetF) (ws : List Nat) (l : List Bool) : Prop where
  head : w1.heap[X.u]? = some (.cells (setV X ws.length l) 222 (0, 0))
  row : RowAt w1 X.b 136 (ws.map vu64)
  touch : Touch X.list w w1
theorem SetIn.mid {w : World} {X : SetF} {ws : List Nat} {l : List Bool} (h : SetIn w X ws l) (q y : Nat) (hq : q < ws.length) : SetMid w (w.setCell ⟨X.b, q, none⟩ (vu64 y)) X (ws.set q y) l := by
  refine ⟨?_, ?_, Touch.setCell _ (by simp [SetF.list]) _⟩
  · rw [List.length_set]
    exact (Below.heap_setCell _ _ _ _ h.ne).trans h.head
  · rw [List.map_set]; exact h.row.set q (by simpa using hq) _
theorem SetMid.done {w w1 : World} {X : SetF} {ws : List Nat} {l l' : List Bool} (h : SetMid w w1 X ws l) (hb : BitsOf ws l') (hl : l'.length = l.length) (hs : l.length ≤ 1000000) (hn : X.u ≠ X.b) {c : Int} (hc : c = (l'.count true : Int)) :
    SetAt (w1.setCell ⟨X.u, 2, none⟩ (.int .i64 c)) X l' ∧ Touch X.list w (w1.setCell ⟨X.u, 2, none⟩ (.int .i64 c)) := by
  subst hc
  refine ⟨⟨ws, hb, ?_, h.row.keep (Below.heap_setCell _ _ _ _ (fun e => hn e.symm)), hn, by omega⟩, h.touch.trans (Touch.setCell _ (by simp [SetF.list]) _)⟩
  rw [heap_setCell_same w1 X.u 2 _ _ _ h.head]
  unfold setV
  rw [hl]
  rfl
theorem SetMid.c2 {w w1 : World} {X : SetF} {ws : List Nat} {l : List Bool} (h : SetMid w w1 X ws l) : w1.cell? ⟨X.u, 2, none⟩ = some (.int .i64 (l.count true : Int)) ∧ w1.frozen? ⟨X.u, 2, none⟩ = false := ⟨cell_of_row _ _ 2 _ _ _ h.head, frozen_of_row _ _ _ _ _ h.head⟩

set_option maxHeartbeats 1000000 in
theorem sadd_new {w : World} {X : SetF} {l : List Bool} (h : SetAt w X l) (j : Nat) (hj : j < l.length) (hno : l.getD j false = false) :
    Calls Tryz.prog 100 #[vset X, .int .i64 (j : Int)] w fun e w' => e = .returned (.bool true) ∧ SetAt w' X (l.set j true) ∧ Touch X.list w w' := by
  have HS := Lib.hid h
  obtain ⟨ws, h⟩ := h
  have c0 := h.c0
  have HT : Hid (decide (0 ≤ (j : Int) ∧ (j : Int) < (l.length : Int)) = true) := Lib.hid (by simp [hj])
  have hw := h.bits.word hj
  have HBits := Lib.hid (h.bits.add hj)
  have hx := h.bits.getD_lt (j / 64)
  have d0 : w.cell? ⟨X.b, j / 64, none⟩ = some (vu64 (ws.getD (j / 64) 0)) := h.row.cell (by simp [hw])
  have HH : Hid (hasI l (j : Int) = false) := Lib.hid (by rw [hasI_nat, hno])
  have hsm := h.small
  have HI := Lib.hid h
  have HC := Lib.hid (count_set_true hj hno)
  have hcl := count_le_len l
  have f0 : w.frozen? ⟨X.b, j / 64, none⟩ = false := h.row.frozen _
  generalize ws.getD (j / 64) 0 = x at *
  generalize hr : j % 64 = m at *
  generalize hq : j / 64 = q at *
  have hm : m < 64 := by omega
  have e1 : (j : Int) / 64 = (q : Int) := by omega
  have e2 : (j : Int) % 64 = (m : Int) := by omega
  clear h hr hq hno
  go_enter Tryz.func100, Tryz.ntmps100
  go_wp2_with fail
  refine (sin_any HS.out (j : Int)).mono ?_
  rintro e w1 ⟨rfl, rfl⟩
  rw [HT.out]
  go_wp2_with fail
  refine (shas_any HS.out (j : Int)).mono ?_
  rintro e w1 ⟨rfl, rfl⟩
  rw [HH.out]
  go_upto_region 4 with fail
  rw [or_val1 x m hx hm]
  have HMid := Lib.hid (HI.out.mid q (x ||| 2 ^ m) hw)
  clear d0 f0 c0
  generalize w.setCell _ _ = w1 at *
  obtain ⟨c2, f2⟩ := HMid.out.c2
  go_wp2_with fail
  go_ret
  refine ⟨rfl, HMid.out.done HBits.out (by simp) hsm HI.out.ne ?_⟩
  rw [HC.out]; push_cast; rfl

set_option maxHeartbeats 1000000 in
theorem sadd_not {w : World} {X : SetF} {l : List Bool} (h : SetAt w X l) (a : Int) (hno : hasI l a = true ∨ decide (0 ≤ a ∧ a < (l.length : Int)) = false) :
    Calls Tryz.prog 100 #[vset X, .int .i64 a] w fun e w' => e = .returned (.bool false) ∧ w = w' := by
  have HS := Lib.hid h
  clear h
  cases hd : decide (0 ≤ a ∧ a < (l.length : Int)) with
  | false =>
    have HD := Lib.hid hd
    clear hd hno
    go_enter Tryz.func100, Tryz.ntmps100
    go_wp2_with fail
    refine (sin_any HS.out a).mono ?_
    rintro e w1 ⟨rfl, rfl⟩
    rw [HD.out]
    go_wp2_with fail
    go_ret
    exact ⟨rfl, rfl⟩
  | true =>
    have HD := Lib.hid hd
    have HH : Hid (hasI l a = true) := Lib.hid (hno.resolve_right (by rw [hd]; simp))
    clear hd hno
    go_enter Tryz.func100, Tryz.ntmps100
    go_wp2_with fail
    refine (sin_any HS.out a).mono ?_
    rintro e w1 ⟨rfl, rfl⟩
    rw [HD.out]
    go_wp2_with fail
    refine (shas_any HS.out a).mono ?_
    rintro e w1 ⟨rfl, rfl⟩
    rw [HH.out]
    go_wp2_with fail
    go_ret
    exact ⟨rfl, rfl⟩

/-- May an address be added, being new? -/
def freshI (l : List Bool) (a : Int) : Bool := decide (0 ≤ a ∧ a < (l.length : Int)) && !hasI l a
def addI (l : List Bool) (a : Int) : List Bool := if freshI l a then l.set a.toNat true else l
theorem sadd_any {w : World} {X : SetF} {l : List Bool} (h : SetAt w X l) (a : Int) :
    Calls Tryz.prog 100 #[vset X, .int .i64 a] w fun e w' => e = .returned (.bool (freshI l a)) ∧ SetAt w' X (addI l a) ∧ Touch X.list w w' := by
  unfold addI
  cases hf : freshI l a with
  | true =>
    unfold freshI at hf
    simp only [Bool.and_eq_true, decide_eq_true_eq, Bool.not_eq_true'] at hf
    obtain ⟨⟨h1, h2⟩, h3⟩ := hf
    obtain ⟨j, rfl⟩ := Int.eq_ofNat_of_zero_le h1
    rw [hasI_nat] at h3
    rw [if_pos rfl]
    exact sadd_new h j (by omega) h3
  | false =>
    rw [if_neg (by simp)]
    refine (sadd_not h a ?_).mono ?_
    · unfold freshI at hf
      cases hd : decide (0 ≤ a ∧ a < (l.length : Int)) with
      | false => exact .inr rfl
      | true => rw [hd] at hf; simp at hf; exact .inl hf
    · rintro e w' ⟨rfl, rfl⟩
      exact ⟨rfl, h, Touch.refl _ _⟩

end Go.Proofs.YtfedgcdkagngnaaGreat

/- bits: mask, Get, Put. -/
namespace Go.Proofs.YtfedgcdkagngnaaGreat
open Go.RowKit
set_option linter.unusedVariables false

theorem pow_lt64 {k : Nat} (h : k < 64) : 2 ^ k < 18446744073709551616 := Nat.pow_lt_pow_right (by decide : 1 < 2) (show k < 64 from h)

set_option maxHeartbeats 400000 in
theorem mask_any (k : Nat) (h0 : 0 < k) (h : k < 64) (w : World) : Calls Tryz.prog 238 #[.int .i64 (k : Int)] w fun e w' => e = .returned (vu64 (2 ^ k - 1)) ∧ w = w' := by
  have hp := pow_lt64 h
  have h1 : 0 < 2 ^ k := Nat.two_pow_pos k
  have e1 : (2 : Int) ^ k = ((2 ^ k : Nat) : Int) := by push_cast; rfl
  have E := Lib.hid e1
  clear e1
  go_enter Tryz.func238, Tryz.ntmps238
  go_wp2_with fail
  go_ret
  refine ⟨ret_int ?_, rfl⟩
  rw [E.out, IntKind.wrap_u64, IntKind.wrap_u64]
  omega

/-- A field. -/
def fieldN (x at_ k : Nat) : Nat := x / 2 ^ at_ % 2 ^ k
theorem and_mask (y k : Nat) (hy : y < 18446744073709551616) (h : k < 64) : bits BinOp.and IntKind.u64 (y : Int) ((2 ^ k - 1 : Nat) : Int) = ((y % 2 ^ k : Nat) : Int) := by
  have hp := pow_lt64 h
  rw [u64_and_nat y (2 ^ k - 1) hy (by omega), Nat.and_two_pow_sub_one_eq_mod]

set_option maxHeartbeats 400000 in
theorem get_any (x a k : Nat) (hx : x < 18446744073709551616) (ha : a < 64) (h0 : 0 < k) (h : k < 64) (w : World) :
    Calls Tryz.prog 210 #[vu64 x, .int .i64 (a : Int), .int .i64 (k : Int)] w fun e w' => e = .returned (vu64 (fieldN x a k)) ∧ w = w' := by
  have hy : x / 2 ^ a < 18446744073709551616 := Nat.lt_of_le_of_lt (Nat.div_le_self _ _) hx
  have HY : Hid ((x : Int) / 2 ^ a = ((x / 2 ^ a : Nat) : Int)) := Lib.hid (by push_cast; rfl)
  have HF : Hid (fieldN x a k = x / 2 ^ a % 2 ^ k) := Lib.hid rfl
  have HM := Lib.hid (and_mask _ k hy h)
  obtain ⟨m, hm⟩ : ∃ m, m = 2 ^ k - 1 := ⟨_, rfl⟩
  rw [← hm] at HM
  have HMM := Lib.hid hm
  clear hm
  go_enter Tryz.func210, Tryz.ntmps210
  go_wp2_with fail
  refine (mask_any k h0 h _).mono ?_
  rintro e w1 ⟨rfl, rfl⟩
  rw [← HMM.out]
  go_wp2_with fail
  go_ret
  refine ⟨ret_int ?_, rfl⟩
  rw [HY.out, HM.out, HF.out]

/-- A field above others is set: what was there of it is nought. -/
theorem put_val (x a k n : Nat) (hx : x < 2 ^ a) (hn : n < 2 ^ k) (h : a + k < 64) :
    bits BinOp.or IntKind.u64 (bits BinOp.andNot IntKind.u64 (x : Int) (((2 ^ k - 1) * 2 ^ a : Nat) : Int)) (bits BinOp.and IntKind.u64 ((n * 2 ^ a : Nat) : Int) (((2 ^ k - 1) * 2 ^ a : Nat) : Int)) = ((x + n * 2 ^ a : Nat) : Int) := by
  have p1 := pow_lt64 (show a < 64 by omega)
  have p2 : 2 ^ k * 2 ^ a < 18446744073709551616 := by rw [← Nat.pow_add, Nat.add_comm]; exact pow_lt64 h
  have q1 : n * 2 ^ a ≤ 2 ^ k * 2 ^ a := Nat.mul_le_mul_right _ (by omega)
  have q2 : (2 ^ k - 1) * 2 ^ a ≤ 2 ^ k * 2 ^ a := Nat.mul_le_mul_right _ (by omega)
  have z : x < 18446744073709551616 := by omega
  rw [u64_andNot_nat _ _ z (by omega), u64_and_nat _ _ (by omega) (by omega)]
  have e1 : x &&& (18446744073709551615 - (2 ^ k - 1) * 2 ^ a) = x := by
    apply Nat.eq_of_testBit_eq
    intro i
    have e : 18446744073709551615 - (2 ^ k - 1) * 2 ^ a = 2 ^ 64 - ((2 ^ k - 1) * 2 ^ a + 1) := by omega
    rw [Nat.testBit_and, e, Nat.testBit_two_pow_sub_succ (by omega)]
    by_cases hi : i < a
    · have : ((2 ^ k - 1) * 2 ^ a).testBit i = false := by rw [Nat.mul_comm, Nat.testBit_two_pow_mul]; simp; omega
      rw [this]; simp; omega
    · have : x.testBit i = false := Nat.testBit_lt_two_pow (Nat.lt_of_lt_of_le hx (Nat.pow_le_pow_right (by decide) (by omega)))
      rw [this]; simp
  have e2 : n * 2 ^ a &&& (2 ^ k - 1) * 2 ^ a = n * 2 ^ a := by
    rw [← Nat.shiftLeft_eq, ← Nat.shiftLeft_eq, ← Nat.shiftLeft_and_distrib, Nat.and_two_pow_sub_one_eq_mod, Nat.mod_eq_of_lt hn]
  rw [e1, e2, u64_or_nat _ _ z (by omega)]
  congr 1
  have := Nat.two_pow_add_eq_or_of_lt (i := a) hx n
  rw [Nat.or_comm, Nat.mul_comm n, ← this, Nat.add_comm]

set_option maxHeartbeats 400000 in
theorem put_any (x a k n : Nat) (hx : x < 2 ^ a) (hn : n < 2 ^ k) (h : a + k < 64) (h0 : 0 < k) (w : World) :
    Calls Tryz.prog 213 #[vu64 x, .int .i64 (a : Int), .int .i64 (k : Int), vu64 n] w fun e w' => e = .returned (vu64 (x + n * 2 ^ a)) ∧ w = w' := by
  have hv := put_val x a k n hx hn h
  have p2 : 2 ^ k * 2 ^ a < 18446744073709551616 := by rw [← Nat.pow_add, Nat.add_comm]; exact pow_lt64 h
  have q1 : n * 2 ^ a ≤ 2 ^ k * 2 ^ a := Nat.mul_le_mul_right _ (by omega)
  have q2 : (2 ^ k - 1) * 2 ^ a ≤ 2 ^ k * 2 ^ a := Nat.mul_le_mul_right _ (by omega)
  have z : x < 18446744073709551616 := Nat.lt_trans hx (pow_lt64 (by omega))
  have w1 : IntKind.u64.wrap (((2 ^ k - 1 : Nat) : Int) * 2 ^ a) = (((2 ^ k - 1) * 2 ^ a : Nat) : Int) := by
    rw [show ((2 ^ k - 1 : Nat) : Int) * 2 ^ a = (((2 ^ k - 1) * 2 ^ a : Nat) : Int) by push_cast; rfl, IntKind.wrap_u64]; omega
  have w2 : IntKind.u64.wrap ((n : Int) * 2 ^ a) = ((n * 2 ^ a : Nat) : Int) := by
    rw [show (n : Int) * 2 ^ a = ((n * 2 ^ a : Nat) : Int) by push_cast; rfl, IntKind.wrap_u64]; omega
  obtain ⟨m, hm⟩ : ∃ m, m = 2 ^ k - 1 := ⟨_, rfl⟩
  rw [← hm] at hv w1
  have HM := Lib.hid hm
  have HV := Lib.hid hv
  have W1 := Lib.hid w1
  have W2 := Lib.hid w2
  have ha : a < 64 := by omega
  have hk : k < 64 := by omega
  clear hm hv w1 w2 p2 q1 q2
  go_enter Tryz.func213, Tryz.ntmps213
  go_wp2_with fail
  refine (mask_any k h0 hk _).mono ?_
  rintro e w1 ⟨rfl, rfl⟩
  rw [← HM.out]
  go_wp2_with fail
  go_ret
  refine ⟨ret_int ?_, rfl⟩
  rw [W1.out, W2.out, HV.out]

end Go.Proofs.YtfedgcdkagngnaaGreat

/- bits: Count, Lowest; bitmap: New, Clear, Next. -/
namespace Go.Proofs.YtfedgcdkagngnaaGreat
open Go.RowKit
set_option linter.unusedVariables false

/-- Count, as it is reckoned. -/
def countI (x : Int) : Int :=
  let a := IntKind.u64.wrap (x - bits BinOp.and IntKind.u64 (x / 2) 6148914691236517205)
  let b := IntKind.u64.wrap (bits BinOp.and IntKind.u64 a 3689348814741910323 + bits BinOp.and IntKind.u64 (a / 4) 3689348814741910323)
  let c := bits BinOp.and IntKind.u64 (IntKind.u64.wrap (b + b / 16)) 1085102592571150095
  wrap64 (IntKind.u64.wrap (c * 72340172838076673) / 72057594037927936)
theorem count_fin : ∀ k : Fin 64, countI ((2 ^ k.val - 1 : Nat) : Int) = ((k.val : Nat) : Int) := by decide +kernel

set_option maxHeartbeats 1000000 in
theorem popcount_any (k : Nat) (hk : k < 64) (w : World) : Calls Tryz.prog 237 #[vu64 (2 ^ k - 1)] w fun e w' => e = .returned (.int .i64 (k : Int)) ∧ w = w' := by
  have HF := Lib.hid (count_fin ⟨k, hk⟩)
  dsimp only at HF
  have hx : 2 ^ k - 1 < 18446744073709551616 := by have := pow_lt64 hk; omega
  generalize 2 ^ k - 1 = x at *
  go_enter Tryz.func237, Tryz.ntmps237
  go_wp2_with fail
  go_ret
  refine ⟨?_, rfl⟩
  show Ending.returned (.int .i64 (countI (x : Int))) = _
  rw [HF.out]
theorem low_val {x k : Nat} (hk : LowAt x k) (hx : x < 18446744073709551616) : IntKind.u64.wrap (bits BinOp.and IntKind.u64 (x : Int) (IntKind.u64.wrap (-(x : Int))) - 1) = ((2 ^ k - 1 : Nat) : Int) := by
  have p := pow_lt64 hk.1
  have p1 : 0 < 2 ^ k := Nat.two_pow_pos k
  have hx0 : 0 < x := by
    obtain ⟨m, hm⟩ := low_form hk
    rw [hm]; exact Nat.mul_pos p1 (by omega)
  have e1 : IntKind.u64.wrap (-(x : Int)) = ((18446744073709551616 - x : Nat) : Int) := by rw [IntKind.wrap_u64]; omega
  rw [e1, u64_and_nat _ _ hx (by omega), low_and hk hx]
  generalize 2 ^ k = y at p p1 ⊢
  rw [IntKind.wrap_u64]; omega

set_option maxHeartbeats 1000000 in
theorem lowest_any (x k : Nat) (hk : LowAt x k) (hx : x < 18446744073709551616) (w : World) : Calls Tryz.prog 208 #[vu64 x] w fun e w' => e = .returned (.int .i64 (k : Int)) ∧ w = w' := by
  have HV := Lib.hid (low_val hk hx)
  have hk64 := hk.1
  go_enter Tryz.func208, Tryz.ntmps208
  go_wp2_with fail
  rw [HV.out]
  refine (popcount_any k hk64 _).mono ?_
  rintro e w1 ⟨rfl, rfl⟩
  go_wp2_with fail
  go_ret
  exact ⟨rfl, rfl⟩
theorem up64 (n : Nat) : upN (n : Int) 64 = (((n + 63) / 64 : Nat) : Int) := by
  unfold upN
  split <;> omega

/-- A new set. -/
def NewSet (n : Nat) (w : World) : Ending → World → Prop := fun e w' => ∃ X : SetF, e = .returned (vset X) ∧ SetAt w' X (List.replicate n false) ∧ Below w.heap.size w w' ∧ ∀ k ∈ X.list, w.heap.size ≤ k

set_option maxHeartbeats 1000000 in
theorem snew_any (n : Nat) (h1 : 1 ≤ n) (hn : n ≤ 1000000) (w : World) : Calls Tryz.prog 99 #[.int .i64 (n : Int)] w (NewSet n w) := by
  have HUp := Lib.hid (up64 n)
  have HBits := Lib.hid (bits_new n)
  have hm1 : 1 ≤ (n + 63) / 64 := by omega
  have hm2 : (n + 63) / 64 ≤ 1000000 := by omega
  generalize (n + 63) / 64 = m at *
  have HP : Hid (∀ (X : SetF) (w' : World), SetAt w' X (List.replicate n false) → Below w.heap.size w w' → (∀ k ∈ X.list, w.heap.size ≤ k) → NewSet n w (.returned (vset X)) w') := Lib.hid (fun X w' a b c => ⟨X, rfl, a, b, c⟩)
  generalize NewSet n w = Post at *
  have hmx : max (n : Int) 0 = (n : Int) := by omega
  go_enter Tryz.func99, Tryz.ntmps99
  go_wp2_with fail
  refine (up_any _ _ _ (by omega) (by omega)).mono ?_
  rintro e w1 ⟨rfl, rfl⟩
  rw [HUp.out]
  go_wp2_with (at_make; refine wpList_make_len el64 w.heap.size m rfl rfl rfl (by omega) (by decide) (Nat.le_refl _) rfl rfl rfl rfl ?_; intro w1 hown hgrow; have HR : Hid (RowAt w1 w.heap.size 136 ((List.replicate m 0).map vu64)) := Lib.hid (by rw [List.map_replicate]; exact owned_row hown); have HB := Lib.hid (below_grown hgrow (Nat.le_refl _)); clear hown hgrow)
  have hb := below_alloc w1 (Obj.cells #[Value.slice (some ⟨w.heap.size, 0, none⟩) m m, Value.int IntKind.i64 (n : Int), Value.int IntKind.i64 0] 222)
  have hs := HB.out.size
  have hl := HR.out.lt
  refine HP.out ⟨w1.heap.size, w.heap.size, m⟩ _ ⟨List.replicate m 0, HBits.out, ?_, HR.out.keep (hb.block _ hl), by dsimp only; omega, by simpa using hn⟩ (HB.out.trans (hb.mono hs)) ?_
  · have e : setV ⟨w1.heap.size, w.heap.size, m⟩ (List.replicate m 0).length (List.replicate n false) = #[Value.slice (some ⟨w.heap.size, 0, none⟩) m m, Value.int IntKind.i64 (n : Int), Value.int IntKind.i64 0] := by simp [setV, List.count_replicate]
    rw [e]
    exact heap_alloc_new _ _
  · intro k hk
    simp only [SetF.list, List.mem_cons, List.not_mem_nil, or_false] at hk
    rcases hk with rfl | rfl
    · exact hs
    · exact Nat.le_refl _

/-- On the way to the next one: word q, what of it is left. -/
structure NextInv (ws : List Nat) (l : List Bool) (n q y : Nat) : Prop where
  lt : q < ws.length
  y64 : y < 18446744073709551616
  past : ∀ j, n ≤ j → j < 64 * q → l.getD j false = false
  bit : ∀ b, b < 64 → y.testBit b = (decide (n ≤ 64 * q + b) && l.getD (64 * q + b) false)
theorem BitsOf.at {ws : List Nat} {l : List Bool} (h : BitsOf ws l) (q b : Nat) (hb : b < 64) : (ws.getD q 0).testBit b = l.getD (64 * q + b) false := by
  have := h.bit (64 * q + b)
  unfold bitW at this
  rwa [show (64 * q + b) / 64 = q by omega, show (64 * q + b) % 64 = b by omega] at this
theorem NextInv.start {ws : List Nat} {l : List Bool} (h : BitsOf ws l) {n : Nat} (hn : n < l.length) : NextInv ws l n (n / 64) (ws.getD (n / 64) 0 / 2 ^ (n % 64) * 2 ^ (n % 64)) := by
  refine ⟨h.word hn, Nat.lt_of_le_of_lt (Nat.div_mul_le_self _ _) (h.getD_lt _), fun j h1 h2 => by omega, fun b hb => ?_⟩
  rw [high_bit, h.at _ _ hb]
  congr 1
  rw [Bool.eq_iff_iff]
  simp only [decide_eq_true_eq]
  omega
theorem NextInv.step {ws : List Nat} {l : List Bool} (h : BitsOf ws l) {n q : Nat} (hi : NextInv ws l n q 0) (hn : n < 64 * q + 64) (hq : q + 1 < ws.length) : NextInv ws l n (q + 1) (ws.getD (q + 1) 0) := by
  refine ⟨hq, h.getD_lt _, fun j h1 h2 => ?_, fun b hb => ?_⟩
  · by_cases c : j < 64 * q
    · exact hi.past j h1 c
    · have := hi.bit (j - 64 * q) (by omega)
      rw [Nat.zero_testBit, show 64 * q + (j - 64 * q) = j by omega, decide_eq_true h1] at this
      simpa using this.symm
  · rw [h.at _ _ hb, decide_eq_true (by omega)]; simp
theorem NextInv.found {ws : List Nat} {l : List Bool} {n q y k : Nat} (hi : NextInv ws l n q y) (hk : LowAt y k) : nextB l n = some (64 * q + k) := by
  have h1 := hi.bit k hk.1
  rw [hk.2.1] at h1
  have h2 := h1.symm
  simp only [Bool.and_eq_true, decide_eq_true_eq] at h2
  refine nextB_some h2.1 h2.2 fun j h3 h4 => ?_
  by_cases c : j < 64 * q
  · exact hi.past j h3 c
  · have := hi.bit (j - 64 * q) (by have := hk.1; omega)
    rw [hk.2.2 _ (by omega), show 64 * q + (j - 64 * q) = j by omega, decide_eq_true h3] at this
    simpa using this.symm
theorem NextInv.over {ws : List Nat} {l : List Bool} (h : BitsOf ws l) {n q : Nat} (hi : NextInv ws l n q 0) (hq : ws.length ≤ q + 1) : nextB l n = none := by
  refine nextB_none fun j hj => ?_
  by_cases c : j < 64 * q
  · exact hi.past j hj c
  · by_cases c2 : j < 64 * q + 64
    · have := hi.bit (j - 64 * q) (by omega)
      rw [Nat.zero_testBit, show 64 * q + (j - 64 * q) = j by omega, decide_eq_true hj] at this
      simpa using this.symm
    · have := h.len
      rw [List.getD_eq_getElem?_getD, List.getElem?_eq_none (by omega)]; rfl

def nextV : Option Nat → Value
  | some i => .tuple #[.int .i64 (i : Int), .bool true]
  | none => .tuple #[.int .i64 0, .bool false]

def Same1 (v : Value) (w : World) : Ending → World → Prop := fun e w' => e = .returned v ∧ w = w'

set_option maxHeartbeats 1000000 in
theorem snext_any {w : World} {X : SetF} {l : List Bool} (h : SetAt w X l) (a : Int) :
    Calls Tryz.prog 166 #[vset X, .int .i64 a] w (Same1 (nextV (nextB l a.toNat)) w) := by
  obtain ⟨ws, h⟩ := h
  have c0 := h.c0
  have c1 := h.c1
  have hsm := h.small
  have hlen := h.bits.len
  have hws : ws.length ≤ 1000000 := by omega
  have HBits := Lib.hid h.bits
  have HRow := Lib.hid h.row
  obtain ⟨n, hn⟩ : ∃ n, n = a.toNat := ⟨_, rfl⟩
  have hmx : (if a < 0 then 0 else a) = (n : Int) := by split <;> omega
  have hmx2 : max a 0 = (n : Int) := by omega
  rw [← hn]
  have HP1 : Hid (∀ i, nextB l n = some i → Same1 (nextV (nextB l n)) w (.returned (.tuple #[.int .i64 (i : Int), .bool true])) w) := Lib.hid (fun i hi => by rw [hi]; exact ⟨rfl, rfl⟩)
  have HP0 : Hid (nextB l n = none → Same1 (nextV (nextB l n)) w (.returned (.tuple #[.int .i64 0, .bool false])) w) := Lib.hid (fun hi => by rw [hi]; exact ⟨rfl, rfl⟩)
  have HL := Lib.hid hlen
  generalize Same1 (nextV (nextB l n)) w = Post at *
  clear h hn hlen
  by_cases hlt : n < l.length
  · have HI := Lib.hid (NextInv.start HBits.out hlt)
    have hw := HI.out.lt
    have hlt' : decide (l.length ≤ n) = false := by simp; omega
    have d0 : w.cell? ⟨X.b, n / 64, none⟩ = some (vu64 (ws.getD (n / 64) 0)) := HRow.out.cell (by simp [hw])
    have hx := HBits.out.getD_lt (n / 64)
    have hn64 : n < 64 * (n / 64) + 64 := by omega
    generalize ws.getD (n / 64) 0 = x at *
    generalize hm' : n % 64 = m at *
    generalize hq' : n / 64 = q at *
    have hm : m < 64 := by omega
    have e1 : (n : Int) / 64 = (q : Int) := by omega
    have e2 : (n : Int) % 64 = (m : Int) := by omega
    have HV : Hid (IntKind.u64.wrap ((x : Int) / 2 ^ m * 2 ^ m) = ((x / 2 ^ m * 2 ^ m : Nat) : Int)) := Lib.hid (by
      have h64 := HI.out.y64
      rw [show (x : Int) / 2 ^ m * 2 ^ m = ((x / 2 ^ m * 2 ^ m : Nat) : Int) by push_cast; rfl]
      generalize x / 2 ^ m * 2 ^ m = y at h64 ⊢
      rw [IntKind.wrap_u64]; omega)
    generalize x / 2 ^ m * 2 ^ m = y at *
    clear hm' hq' hlt
    go_enter Tryz.func166, Tryz.ntmps166
    go_wp2_with fail
    rw [HV.out]
    go_loop [6, 7] (fun iv yv => ∃ q y : Nat, iv = .int .i64 (q : Int) ∧ yv = vu64 y ∧ n < 64 * q + 64 ∧ Hid (NextInv ws l n q y)) (fun iv _ => ws.length - (intOf iv).toNat)
    case atStart => exact ⟨q, y, rfl, rfl, hn64, HI⟩
    case round =>
      clear HI HV hw d0 hx hn64 e1 e2
      obtain ⟨q, y, rfl, rfl, hn64, HI⟩ := hrel
      have hql := HI.out.lt
      by_cases hy : y = 0
      · subst hy
        by_cases hq : q + 1 < ws.length
        · have HI2 := Lib.hid (HI.out.step HBits.out hn64 hq)
          have hq' : decide (ws.length ≤ q + 1) = false := by simp; omega
          have d0 : w.cell? ⟨X.b, q + 1, none⟩ = some (vu64 (ws.getD (q + 1) 0)) := HRow.out.cell (by simp [hq])
          generalize ws.getD (q + 1) 0 = z at *
          go_wp2_with fail
          go_round
          case rel => exact ⟨q + 1, z, vint (by omega), rfl, by omega, HI2⟩
          case measure => simp [intOf]; omega
        · have hq' : ws.length ≤ q + 1 := by omega
          have HN := Lib.hid (HI.out.over HBits.out hq')
          go_wp2_with fail
          exact HP0.out HN.out
      · have hy0 : ((y : Int) == 0) = false := by simpa using hy
        have hy64 := HI.out.y64
        obtain ⟨k, hk⟩ := low_exists hy hy64
        have hk64 := hk.1
        have HK := Lib.hid hk
        have HN := Lib.hid (HI.out.found hk)
        clear hk
        go_wp2_with fail
        refine (lowest_any y k HK.out hy64 _).mono ?_
        rintro e w1 ⟨rfl, rfl⟩
        go_wp2_with fail
        have := HP1.out _ HN.out
        rw [show ((64 * q + k : Nat) : Int) = (q : Int) * 64 + (k : Int) by push_cast; omega] at this
        exact this
  · have hle : l.length ≤ n := by omega
    have HN : Hid (nextB l n = none) := Lib.hid (nextB_none fun j hj => by rw [List.getD_eq_getElem?_getD, List.getElem?_eq_none (by omega)]; rfl)
    go_enter Tryz.func166, Tryz.ntmps166
    go_wp2_with fail
    exact HP0.out HN.out
end Go.Proofs.YtfedgcdkagngnaaGreat

/- CRC-32, plainly: bit by bit, and by a table of sixteen. -/
namespace Go.Proofs.YtfedgcdkagngnaaGreat
set_option linter.unusedVariables false

def poly : Nat := 3988292384

/-- One bit. -/
def bitN (s : Nat) : Nat := if s % 2 = 1 then (s / 2) ^^^ poly else s / 2

theorem bitN_xor (x y : Nat) : bitN (x ^^^ y) = bitN x ^^^ bitN y := by
  have hd : (x ^^^ y) / 2 = x / 2 ^^^ y / 2 := Nat.xor_div_two
  have hm : (x ^^^ y) % 2 = (x % 2 + y % 2) % 2 := by
    have h := @Nat.xor_mod_two_eq_one x y
    omega
  unfold bitN
  rw [hd, hm]
  rcases Nat.mod_two_eq_zero_or_one x with hx | hx <;> rcases Nat.mod_two_eq_zero_or_one y with hy | hy <;> rw [hx, hy] <;> simp
  · rw [Nat.xor_assoc]
  · rw [Nat.xor_assoc, Nat.xor_assoc, Nat.xor_comm poly]
  · generalize x / 2 = a
    generalize y / 2 = b
    rw [show a ^^^ poly ^^^ (b ^^^ poly) = a ^^^ b ^^^ (poly ^^^ poly) by
      rw [Nat.xor_assoc, Nat.xor_assoc, ← Nat.xor_assoc poly b poly, Nat.xor_comm poly b, Nat.xor_assoc]]
    simp

theorem bitN_two (q : Nat) : bitN (2 * q) = q := by unfold bitN; rw [if_neg (by omega)]; omega

def bit4 (s : Nat) : Nat := bitN (bitN (bitN (bitN s)))
theorem bit4_xor (x y : Nat) : bit4 (x ^^^ y) = bit4 x ^^^ bit4 y := by unfold bit4; rw [bitN_xor, bitN_xor, bitN_xor, bitN_xor]

theorem bit4_up (q : Nat) : bit4 (16 * q) = q := by
  unfold bit4
  rw [show 16 * q = 2 * (2 * (2 * (2 * q))) by omega, bitN_two, bitN_two, bitN_two, bitN_two]

def tableL : List Nat := [0, 498536548, 997073096, 651767980, 1994146192, 1802195444, 1303535960, 1342533948, 3988292384, 4027552580, 3604390888, 3412177804, 2607071920, 2262029012, 2685067896, 3183342108]

theorem bit4_low : ∀ i : Nat, i < 16 → bit4 i = tableL.getD i 0 := by decide

theorem split16 (x : Nat) : x = (16 * (x / 16)) ^^^ (x % 16) := by
  have h : 16 * (x / 16) ||| x % 16 = 16 * (x / 16) + x % 16 := by
    have := Nat.two_pow_add_eq_or_of_lt (i := 4) (b := x % 16) (Nat.mod_lt _ (by decide)) (x / 16)
    simpa using this.symm
  have h2 : 16 * (x / 16) ^^^ x % 16 = 16 * (x / 16) ||| x % 16 := by
    apply Nat.eq_of_testBit_eq
    intro i
    rw [Nat.testBit_xor, Nat.testBit_or]
    by_cases hi : i < 4
    · have : (16 * (x / 16)).testBit i = false := by
        rw [show 16 * (x / 16) = 2 ^ 4 * (x / 16) by rfl, Nat.testBit_two_pow_mul]
        simp; omega
      rw [this]; simp
    · have : (x % 16).testBit i = false := by
        rw [show x % 16 = x % 2 ^ 4 by rfl, Nat.testBit_mod_two_pow]
        simp; omega
      rw [this]; simp
  rw [h2, h]; omega

theorem bit4_eq (x : Nat) : bit4 x = tableL.getD (x % 16) 0 ^^^ (x / 16) := by
  conv => lhs; rw [split16 x]
  rw [bit4_xor, bit4_up, bit4_low _ (Nat.mod_lt _ (by decide)), Nat.xor_comm]

def tabN (i : Nat) : Nat := tableL.getD (i % 16) 0

/-- One nibble, as the program does it: the low four bits of a byte b. -/
def nib (s b : Nat) : Nat := tabN (s % 256 ^^^ b) ^^^ (s / 16)

theorem xor_mod16 (s b : Nat) : (s % 256 ^^^ b) % 16 = (s ^^^ b) % 16 := by
  have h := fun x y => @Nat.xor_mod_two_pow x y 4
  simp only [show (2:Nat) ^ 4 = 16 by rfl] at h
  rw [h, h, Nat.mod_mod_of_dvd _ (by decide : 16 ∣ 256)]

theorem bit4_nib (s b : Nat) : bit4 (s ^^^ b) = nib s b ^^^ (b / 16) := by
  have hd : (s ^^^ b) / 16 = s / 16 ^^^ b / 16 := by
    have := @Nat.xor_div_two_pow s b 4
    simpa using this
  rw [bit4_eq, nib, tabN, xor_mod16, hd, Nat.xor_assoc]

/-- One byte. -/
def byteN (s b : Nat) : Nat := bit4 (bit4 (s ^^^ b))

theorem byteN_nib (s b : Nat) (h : b < 256) : nib (nib s b) (b / 16) = byteN s b := by
  have h0 : b / 16 / 16 = 0 := by omega
  unfold byteN
  rw [bit4_nib, bit4_nib, h0, Nat.xor_zero]

theorem poly_lt : poly < 2 ^ 32 := by decide
theorem bitN_lt (s : Nat) (h : s < 2 ^ 32) : bitN s < 2 ^ 32 := by
  unfold bitN
  split
  · exact Nat.xor_lt_two_pow (by omega) poly_lt
  · omega

theorem bit4_lt (s : Nat) (h : s < 2 ^ 32) : bit4 s < 2 ^ 32 := bitN_lt _ (bitN_lt _ (bitN_lt _ (bitN_lt _ h)))
theorem byteN_lt (s b : Nat) (h : s < 2 ^ 32) (hb : b < 256) : byteN s b < 2 ^ 32 := bit4_lt _ (bit4_lt _ (Nat.xor_lt_two_pow h (by omega)))
theorem tableL_lt (i : Nat) : tableL.getD i 0 < 2 ^ 32 := by
  by_cases h : i < 16
  · have : ∀ i : Nat, i < 16 → tableL.getD i 0 < 2 ^ 32 := by decide
    exact this i h
  · rw [List.getD_eq_getElem?_getD, List.getElem?_eq_none (by show 16 ≤ i; omega)]; decide
theorem nib_lt (s b : Nat) (h : s < 2 ^ 32) : nib s b < 2 ^ 32 := Nat.xor_lt_two_pow (tableL_lt _) (by omega)

theorem not32 (x : Nat) (h : x < 2 ^ 32) : 4294967295 ^^^ x = 4294967295 - x := by
  apply Nat.eq_of_testBit_eq
  intro i
  have e1 : (4294967295 : Nat) = 2 ^ 32 - 1 := by decide
  have e2 : 4294967295 - x = 2 ^ 32 - (x + 1) := by omega
  rw [e2, Nat.testBit_two_pow_sub_succ h, Nat.testBit_xor, e1, Nat.testBit_two_pow_sub_one]
  by_cases hi : i < 32
  · simp [hi]
  · have : x.testBit i = false := Nat.testBit_lt_two_pow (Nat.lt_of_lt_of_le h (Nat.pow_le_pow_right (by decide) (by omega)))
    simp [hi, this]

/-- The sum of bytes behind others. -/
def foldN (s : Nat) (l : List Nat) : Nat := l.foldl byteN s
def moreN (s : Nat) (l : List Nat) : Nat := 4294967295 - foldN (4294967295 - s) l
theorem foldN_lt (l : List Nat) (h : ∀ z ∈ l, z < 256) : ∀ s, s < 2 ^ 32 → foldN s l < 2 ^ 32 := by
  induction l with
  | nil => intro s hs; exact hs
  | cons z l ih => intro s hs; exact ih (fun y hy => h y (by simp [hy])) _ (byteN_lt s z hs (h z (by simp)))
theorem foldN_take (s : Nat) (l : List Nat) (k : Nat) (h : k < l.length) : foldN s (l.take (k + 1)) = byteN (foldN s (l.take k)) (l.getD k 0) := by
  have e : l.getD k 0 = l[k] := by simp [h]
  rw [List.take_succ_eq_append_getElem h, e]
  unfold foldN
  rw [List.foldl_append]; rfl
theorem moreN_lt (s : Nat) (l : List Nat) : moreN s l < 2 ^ 32 := by unfold moreN; omega

end Go.Proofs.YtfedgcdkagngnaaGreat

/- crc: its table, its sums. -/
namespace Go.Proofs.YtfedgcdkagngnaaGreat
open Go.RowKit
set_option linter.unusedVariables false

abbrev vu32 (n : Nat) : Value := .int .u32 (n : Int)

def tableV : Array Value := (tableL.map vu32).toArray
theorem tableV_at (k : Nat) (h : k < 16) : tableV[k]? = some (vu32 (tableL.getD k 0)) := by
  have hj : k < tableL.length := h
  simp only [tableV, List.getElem?_toArray, List.getElem?_map, List.getElem?_eq_getElem hj, Option.map_some, List.getD_eq_getElem?_getD, Option.getD_some]

set_option maxHeartbeats 400000 in
set_option maxRecDepth 100000 in
theorem table_any (x : Nat) (hx : x < 256) (w : World) : Calls Tryz.prog 271 #[vu8 x] w fun e w' => e = .returned (vu32 (tabN x)) ∧ w = w' := by
  have HV := Lib.hid (tableV_at (x % 16) (Nat.mod_lt _ (by decide)))
  go_enter Tryz.func271, Tryz.ntmps271
  go_wp2_with (refine wpList_index_arr (x % 16) Tryz.underlying310 Tryz.underlying256 rfl (by kernel_rfl) (by omega) (by omega) HV.out rfl rfl rfl rfl ?_)
  go_ret
  exact ⟨ret_int (by rw [tabN, List.getD_eq_getElem?_getD]), rfl⟩

theorem not_val (s : Nat) (h : s < 2 ^ 32) : bits BinOp.xor IntKind.u32 IntKind.u32.max (s : Int) = ((4294967295 - s : Nat) : Int) := by
  have e : IntKind.u32.max = ((4294967295 : Nat) : Int) := by decide
  rw [e, u32_xor_nat _ _ (by decide) h, not32 s h]

theorem nib_val1 (s b : Nat) (h : s < 2 ^ 32) (hb : b < 256) : bits BinOp.xor IntKind.u8 ((s : Int) % 256) (b : Int) = ((s % 256 ^^^ b : Nat) : Int) := by
  rw [show (s : Int) % 256 = ((s % 256 : Nat) : Int) by omega, u8_xor_nat _ _ (Nat.mod_lt _ (by decide)) hb]

theorem nib_val2 (s b : Nat) (h : s < 2 ^ 32) : bits BinOp.xor IntKind.u32 ((tabN (s % 256 ^^^ b) : Nat) : Int) ((s : Int) / 16) = ((nib s b : Nat) : Int) := by
  rw [show (s : Int) / 16 = ((s / 16 : Nat) : Int) by omega, u32_xor_nat _ _ (show tabN _ < 4294967296 from tableL_lt _) (by omega)]; rfl

set_option maxHeartbeats 400000 in
theorem more_any (s : Nat) (hs : s < 2 ^ 32) (a : Option Addr) {n : Nat} (cap : Nat) (zs : List Nat) (hn : zs.length = n) (w : World) (hcs : Cells w a (zs.map vu8)) (hz : ∀ z ∈ zs, z < 256) (hl : zs.length ≤ 1000000) :
    Calls Tryz.prog 264 #[vu32 s, .slice a n cap] w fun e w' => e = .returned (vu32 (moreN s zs)) ∧ w = w' := by
  subst hn
  have HZ := Lib.hid hz
  clear hz
  go_enter Tryz.func264, Tryz.ntmps264
  go_wp2_with fail
  rw [not_val s hs]
  have hs0 : 4294967295 - s < 2 ^ 32 := by omega
  obtain ⟨q, hq⟩ : ∃ q, q = 4294967295 - s := ⟨_, rfl⟩
  rw [← hq] at hs0 ⊢
  have HQ := Lib.hid hq
  clear hq
  go_loop [0, 11] (fun v i => ∃ k : Nat, k ≤ zs.length ∧ i = .int .i64 k ∧ v = vu32 (foldN q (zs.take k))) (fun _ i => zs.length - (intOf i).toNat)
  case atStart => exact ⟨0, Nat.zero_le _, rfl, rfl⟩
  case round =>
    obtain ⟨k, hk, rfl, rfl⟩ := hrel
    by_cases hlt : k < zs.length
    · obtain ⟨b, off, rfl, hbs, hc⟩ := hcs.atMap 0 hlt
      have hcell : w.cell? ⟨b, off + k, none⟩ = some (.int .u8 (zs.getD k 0 : Nat)) := hc k hlt
      have hx := HZ.out (zs.getD k 0) (by simp [hlt])
      have hf := foldN_lt (zs.take k) (fun z hz => HZ.out z (List.mem_of_mem_take hz)) q hs0
      have HS := Lib.hid (foldN_take q zs k hlt)
      clear hc
      generalize zs.getD k 0 = x at *
      generalize foldN q (zs.take k) = s1 at *
      have HB := Lib.hid (byteN_nib s1 x hx)
      have hn1 := nib_lt s1 x hf
      go_wp2_with fail
      rw [nib_val1 s1 x hf hx]
      refine (table_any _ (Nat.xor_lt_two_pow (n := 8) (Nat.mod_lt _ (by decide)) hx) _).mono ?_
      rintro e w1 ⟨rfl, rfl⟩
      go_wp2_with fail
      rw [nib_val2 s1 x hf]
      generalize nib s1 x = s2 at *
      have hx2 : x / 16 < 256 := by omega
      rw [show (x : Int) / 16 = ((x / 16 : Nat) : Int) by omega]
      generalize x / 16 = x2 at *
      go_wp2_with fail
      rw [nib_val1 s2 x2 hn1 hx2]
      refine (table_any _ (Nat.xor_lt_two_pow (n := 8) (Nat.mod_lt _ (by decide)) hx2) _).mono ?_
      rintro e w1 ⟨rfl, rfl⟩
      go_wp2_with fail
      rw [nib_val2 s2 x2 hn1, HB.out, ← HS.out]
      exact ⟨⟨k + 1, by omega, vint (by omega), rfl⟩, by simp [intOf]; omega⟩
    · obtain rfl : k = zs.length := by omega
      rw [List.take_length]
      have hf := foldN_lt zs HZ.out q hs0
      have HM : Hid (moreN s zs = 4294967295 - foldN q zs) := Lib.hid (by rw [HQ.out]; rfl)
      generalize foldN q zs = s1 at *
      go_wp2_with fail
      go_ret
      exact ⟨ret_int (by rw [not_val s1 hf, HM.out]), rfl⟩

set_option maxHeartbeats 400000 in
theorem sum_any (a : Option Addr) {n : Nat} (cap : Nat) (zs : List Nat) (hn : zs.length = n) (w : World) (hcs : Cells w a (zs.map vu8)) (hz : ∀ z ∈ zs, z < 256) (hl : zs.length ≤ 1000000) :
    Calls Tryz.prog 248 #[.slice a n cap] w fun e w' => e = .returned (vu32 (moreN 0 zs)) ∧ w = w' := by
  go_enter Tryz.func248, Tryz.ntmps248
  go_wp2_with fail
  refine (more_any 0 (by decide) a cap zs hn w hcs hz hl).mono ?_
  rintro e w2 ⟨rfl, rfl⟩
  go_wp2_with fail
  go_ret
  exact ⟨rfl, rfl⟩

def wordsN (ws : List Nat) : Nat := moreN 0 (unpack ws)

set_option maxHeartbeats 400000 in
theorem crcWords_any (a : Option Addr) {n : Nat} (cap : Nat) (ws : List Nat) (hn : ws.length = n) (w : World) (h : Cells w a (ws.map vu64)) (hz : ∀ z ∈ ws, z < 18446744073709551616) (hl : ws.length ≤ 1000) :
    Calls Tryz.prog 239 #[.slice a n cap] w fun e w' => e = .returned (vu32 (wordsN ws)) ∧ Below w.heap.size w w' := by
  go_enter Tryz.func239, Tryz.ntmps239
  go_wp2_with fail
  refine (bytes_any a cap ws hn w h hz (by omega)).mono ?_
  rintro e w1 ⟨v, rfl, ho, hb⟩
  obtain ⟨a1, c1, rfl, _, _⟩ := owned_form ho
  have hcs := Cells.owned ho
  have hl1 : (unpack ws).length ≤ 1000000 := by rw [unpack_length]; omega
  have hz1 := unpack_lt ws
  clear ho
  go_wp2_with fail
  refine (sum_any a1 c1 (unpack ws) rfl w1 hcs hz1 hl1).mono ?_
  rintro e w2 ⟨rfl, rfl⟩
  go_wp2_with fail
  go_ret
  exact ⟨rfl, hb⟩

/-- A number below its sum. -/
def sealN (n place : Nat) : Nat := wordsN [n, place] * 4294967296 + n

theorem wordsN_lt (ws : List Nat) : wordsN ws < 4294967296 := moreN_lt _ _

/-- A place, as a word. -/
def pl (p : Int) : Nat := (p % 18446744073709551616).toNat
theorem pl_lt (p : Int) : pl p < 18446744073709551616 := by unfold pl; omega

theorem pl_wrap (p : Int) : IntKind.u64.wrap p = (pl p : Int) := by rw [IntKind.wrap_u64]; unfold pl; omega

theorem seal_val (n : Nat) (h : n < 4294967296) (x : Nat) (hx : x < 4294967296) : bits BinOp.or IntKind.u64 ((x : Int) * 4294967296) (n : Int) = ((x * 4294967296 + n : Nat) : Int) := by
  have e : ((x : Int) * 4294967296) = ((x * 4294967296 : Nat) : Int) := by omega
  rw [e, u64_or_nat _ _ (by omega) (by omega)]
  have := Nat.two_pow_add_eq_or_of_lt (i := 32) (b := n) h x
  congr 1
  rw [Nat.mul_comm x]
  exact this.symm

set_option maxHeartbeats 400000 in
theorem seal_any (n : Nat) (p : Int) (hn : n < 4294967296) (w : World) :
    Calls Tryz.prog 214 #[vu32 n, .int .i64 p] w fun e w' => e = .returned (vu64 (sealN n (pl p))) ∧ Below w.heap.size w w' := by
  go_enter Tryz.func214, Tryz.ntmps214
  go_wp2_with fail
  rw [pl_wrap p]
  have hp := pl_lt p
  obtain ⟨q, hq⟩ : ∃ q, q = pl p := ⟨_, rfl⟩
  rw [← hq] at hp ⊢
  have HQ := Lib.hid hq
  clear hq
  have HS : Hid (sealN n q = wordsN [n, q] * 4294967296 + n) := Lib.hid rfl
  have hb0 := below_alloc w (Obj.cells #[Value.int IntKind.u64 (n : Int), Value.int IntKind.u64 (q : Int)] 136)
  have hc0 : Cells (w.alloc (Obj.cells #[Value.int IntKind.u64 (n : Int), Value.int IntKind.u64 (q : Int)] 136)) (some ⟨w.heap.size, 0, none⟩) ([n, q].map vu64) := by
    refine .inr ⟨_, _, rfl, fun i v hi => ?_⟩
    rw [Nat.zero_add]
    refine cell_alloc_new _ _ _ _ _ ?_
    simpa using hi
  generalize w.alloc (Obj.cells #[Value.int IntKind.u64 (n : Int), Value.int IntKind.u64 (q : Int)] 136) = w0 at *
  refine (crcWords_any _ 2 [n, q] rfl w0 hc0 (by simp; omega) (by simp)).mono ?_
  rintro e w1 ⟨rfl, hb1⟩
  have hb := hb0.trans (hb1.mono hb0.size)
  have hw := wordsN_lt [n, q]
  generalize wordsN [n, q] = x at *
  clear hb0 hb1 hc0
  go_wp2_with fail
  go_ret
  exact ⟨ret_int (by rw [seal_val n hn x hw, ← HQ.out, HS.out]), hb⟩

theorem sealN_mod (n q : Nat) (h : n < 4294967296) : sealN n q % 4294967296 = n := by unfold sealN; omega
theorem sealN_lt (n q : Nat) (h : n < 4294967296) : sealN n q < 18446744073709551616 := by have := wordsN_lt [n, q]; unfold sealN; omega

/-- The number of a sealed word. -/
def openN (x q : Nat) : Option Nat := if sealN (x % 4294967296) q = x then some (x % 4294967296) else none

/-- What crc.Open answers. -/
def openV : Option Nat → Value
  | some n => .tuple #[vu32 n, .bool true]
  | none => .tuple #[vu32 0, .bool false]

set_option maxHeartbeats 400000 in
theorem open_any (x : Nat) (p : Int) (hx : x < 18446744073709551616) (w : World) :
    Calls Tryz.prog 209 #[vu64 x, .int .i64 p] w fun e w' => e = .returned (openV (openN x (pl p))) ∧ Below w.heap.size w w' := by
  go_enter Tryz.func209, Tryz.ntmps209
  go_wp2_with fail
  rw [show (x : Int) % 4294967296 = ((x % 4294967296 : Nat) : Int) by omega]
  have hn : x % 4294967296 < 4294967296 := Nat.mod_lt _ (by decide)
  have HO : Hid (openN x (pl p) = if sealN (x % 4294967296) (pl p) = x then some (x % 4294967296) else none) := Lib.hid rfl
  generalize x % 4294967296 = n at *
  refine (seal_any n p hn w).mono ?_
  rintro e w1 ⟨rfl, hb⟩
  have hs := sealN_lt n (pl p) hn
  generalize sealN n (pl p) = y at *
  by_cases he : y = x
  · have HV : Hid (openV (openN x (pl p)) = .tuple #[vu32 n, .bool true]) := Lib.hid (by rw [HO.out, if_pos he]; rfl)
    subst he
    go_wp2_with fail
    go_ret2
    exact ⟨by rw [HV.out]; rfl, hb⟩
  · have HV : Hid (openV (openN x (pl p)) = .tuple #[vu32 0, .bool false]) := Lib.hid (by rw [HO.out, if_neg he]; rfl)
    have he' : ¬ ((y : Int) = (x : Int)) := by omega
    clear he
    go_wp2_with fail
    go_ret2
    exact ⟨by rw [HV.out]; rfl, hb⟩

end Go.Proofs.YtfedgcdkagngnaaGreat

/- The reference's crc. -/
namespace Go.Proofs.YtfedgcdkagngnaaGreat
open Go.RowKit
set_option linter.unusedVariables false

def itN : Nat → Nat → Nat
  | 0, x => x
  | t + 1, x => bitN (itN t x)
theorem itN_eight (s b : Nat) : itN 8 (s ^^^ b) = byteN s b := rfl
theorem itN_lt (t x : Nat) (h : x < 2 ^ 32) : itN t x < 2 ^ 32 := by
  induction t with
  | zero => exact h
  | succ t ih => exact bitN_lt _ ih

theorem bit_odd (s : Nat) (h : s < 2 ^ 32) : bits BinOp.xor IntKind.u32 ((s / 2 : Nat) : Int) 3988292384 = ((s / 2 ^^^ poly : Nat) : Int) :=
  u32_xor_nat (s / 2) 3988292384 (by omega) (by decide)

set_option maxHeartbeats 400000 in
theorem rmore_any (s : Nat) (hs : s < 2 ^ 32) (a : Option Addr) {n : Nat} (cap : Nat) (zs : List Nat) (hn : zs.length = n) (w : World) (hcs : Cells w a (zs.map vu8)) (hz : ∀ z ∈ zs, z < 256) (hl : zs.length ≤ 1000000) :
    Calls Tryz.prog 262 #[vu32 s, .slice a n cap] w fun e w' => e = .returned (vu32 (moreN s zs)) ∧ w = w' := by
  subst hn
  have HZ := Lib.hid hz
  clear hz
  go_enter Tryz.func262, Tryz.ntmps262
  go_wp2_with fail
  have hs0 : 4294967295 - s < 2 ^ 32 := by omega
  rw [show (4294967295 : Int) - (s : Int) = ((4294967295 - s : Nat) : Int) by omega]
  obtain ⟨q, hq⟩ : ∃ q, q = 4294967295 - s := ⟨_, rfl⟩
  rw [← hq] at hs0 ⊢
  have HQ := Lib.hid hq
  clear hq
  go_loop [5, 6] (fun v i => ∃ k : Nat, k ≤ zs.length ∧ i = .int .i64 k ∧ v = vu32 (foldN q (zs.take k))) (fun _ i => zs.length - (intOf i).toNat)
  case atStart => exact ⟨0, Nat.zero_le _, rfl, rfl⟩
  case round =>
    obtain ⟨k, hk, rfl, rfl⟩ := hrel
    by_cases hlt : k < zs.length
    · obtain ⟨b, off, rfl, hbs, hc⟩ := hcs.atMap 0 hlt
      have hcell : w.cell? ⟨b, off + k, none⟩ = some (.int .u8 (zs.getD k 0 : Nat)) := hc k hlt
      have hx := HZ.out (zs.getD k 0) (by simp [hlt])
      have hf := foldN_lt (zs.take k) (fun z hz => HZ.out z (List.mem_of_mem_take hz)) q hs0
      have HS := Lib.hid (foldN_take q zs k hlt)
      clear hc
      generalize zs.getD k 0 = x at *
      generalize foldN q (zs.take k) = s1 at *
      have hy : s1 ^^^ x < 2 ^ 32 := Nat.xor_lt_two_pow hf (by omega)
      have HE := Lib.hid (itN_eight s1 x)
      go_wp2_with fail
      rw [u32_xor_nat s1 x hf (by omega)]
      generalize s1 ^^^ x = y at *
      go_loop [5, 7] (fun v i => ∃ t : Nat, t ≤ 8 ∧ i = .int .i64 t ∧ v = vu32 (itN t y)) (fun _ i => 8 - (intOf i).toNat)
      case atStart => exact ⟨0, Nat.zero_le _, rfl, rfl⟩
      case round =>
        obtain ⟨t, ht, rfl, rfl⟩ := hrel
        by_cases hlt8 : t < 8
        · have hz := itN_lt t y hy
          have HI : Hid (itN (t + 1) y = bitN (itN t y)) := Lib.hid rfl
          generalize itN t y = z at *
          by_cases hm : z % 2 = 1
          · have HB : Hid (bitN z = (z / 2) ^^^ poly) := Lib.hid (by unfold bitN; rw [if_pos hm])
            have HX := Lib.hid (bit_odd z hz)
            have hm' : (z : Int) % 2 = 1 := by omega
            clear hm
            go_wp2_with fail
            refine ⟨⟨t + 1, by omega, vint (by omega), ?_⟩, by simp [intOf]; omega⟩
            rw [HI.out, HB.out]
            exact vint HX.out
          · have HB : Hid (bitN z = z / 2) := Lib.hid (by unfold bitN; rw [if_neg hm])
            have hm' : (z : Int) % 2 = 0 := by omega
            clear hm
            go_wp2_with fail
            refine ⟨⟨t + 1, by omega, vint (by omega), ?_⟩, by simp [intOf]; omega⟩
            rw [HI.out, HB.out]
            exact vint (by omega)
        · obtain rfl : t = 8 := by omega
          go_wp2_with fail
          refine ⟨⟨k + 1, by omega, vint (by omega), ?_⟩, by simp [intOf]; omega⟩
          rw [HS.out, HE.out]
    · obtain rfl : k = zs.length := by omega
      rw [List.take_length]
      have hf := foldN_lt zs HZ.out q hs0
      have HM : Hid (moreN s zs = 4294967295 - foldN q zs) := Lib.hid (by rw [HQ.out]; rfl)
      generalize foldN q zs = s1 at *
      go_wp2_with fail
      go_ret
      exact ⟨ret_int (by rw [HM.out]; omega), rfl⟩
set_option maxHeartbeats 400000 in
theorem rcrcWords_any (a : Option Addr) {n : Nat} (cap : Nat) (ws : List Nat) (hn : ws.length = n) (w : World) (h : Cells w a (ws.map vu64)) (hz : ∀ z ∈ ws, z < 18446744073709551616) (hl : ws.length ≤ 1000) :
    Calls Tryz.prog 247 #[.slice a n cap] w fun e w' => e = .returned (vu32 (wordsN ws)) ∧ Below w.heap.size w w' := by
  go_enter Tryz.func247, Tryz.ntmps247
  go_wp2_with fail
  refine (rbytes_any a cap ws hn w h hz (by omega)).mono ?_
  rintro e w1 ⟨v, rfl, ho, hb⟩
  obtain ⟨a1, c1, rfl, _, _⟩ := owned_form ho
  have hcs := Cells.owned ho
  have hl1 : (unpack ws).length ≤ 1000000 := by rw [unpack_length]; omega
  have hz1 := unpack_lt ws
  clear ho
  go_wp2_with fail
  refine (rmore_any 0 (by decide) a1 c1 (unpack ws) rfl w1 hcs hz1 hl1).mono ?_
  rintro e w2 ⟨rfl, rfl⟩
  go_wp2_with fail
  go_ret
  exact ⟨rfl, hb⟩
set_option maxHeartbeats 400000 in
theorem rseal_any (n : Nat) (p : Int) (hn : n < 4294967296) (w : World) :
    Calls Tryz.prog 236 #[vu32 n, .int .i64 p] w fun e w' => e = .returned (vu64 (sealN n (pl p))) ∧ Below w.heap.size w w' := by
  go_enter Tryz.func236, Tryz.ntmps236
  go_wp2_with fail
  rw [pl_wrap p]
  have hp := pl_lt p
  obtain ⟨q, hq⟩ : ∃ q, q = pl p := ⟨_, rfl⟩
  rw [← hq] at hp ⊢
  have HQ := Lib.hid hq
  clear hq
  have HS : Hid (sealN n q = wordsN [n, q] * 4294967296 + n) := Lib.hid rfl
  have hb0 := below_alloc w (Obj.cells #[Value.int IntKind.u64 (n : Int), Value.int IntKind.u64 (q : Int)] 136)
  have hc0 : Cells (w.alloc (Obj.cells #[Value.int IntKind.u64 (n : Int), Value.int IntKind.u64 (q : Int)] 136)) (some ⟨w.heap.size, 0, none⟩) ([n, q].map vu64) := by
    refine .inr ⟨_, _, rfl, fun i v hi => ?_⟩
    rw [Nat.zero_add]
    refine cell_alloc_new _ _ _ _ _ ?_
    simpa using hi
  generalize w.alloc (Obj.cells #[Value.int IntKind.u64 (n : Int), Value.int IntKind.u64 (q : Int)] 136) = w0 at *
  refine (rcrcWords_any _ 2 [n, q] rfl w0 hc0 (by simp; omega) (by simp)).mono ?_
  rintro e w1 ⟨rfl, hb1⟩
  have hb := hb0.trans (hb1.mono hb0.size)
  have hw := wordsN_lt [n, q]
  generalize wordsN [n, q] = x at *
  clear hb0 hb1 hc0
  go_wp2_with fail
  go_ret
  exact ⟨ret_int (by rw [← HQ.out, HS.out]; omega), hb⟩
set_option maxHeartbeats 400000 in
theorem ropen_any (x : Nat) (p : Int) (hx : x < 18446744073709551616) (w : World) :
    Calls Tryz.prog 205 #[vu64 x, .int .i64 p] w fun e w' => e = .returned (openV (openN x (pl p))) ∧ Below w.heap.size w w' := by
  go_enter Tryz.func205, Tryz.ntmps205
  go_wp2_with fail
  rw [show (x : Int) % 4294967296 = ((x % 4294967296 : Nat) : Int) by omega]
  have hn : x % 4294967296 < 4294967296 := Nat.mod_lt _ (by decide)
  have HO : Hid (openN x (pl p) = if sealN (x % 4294967296) (pl p) = x then some (x % 4294967296) else none) := Lib.hid rfl
  generalize x % 4294967296 = n at *
  refine (rseal_any n p hn w).mono ?_
  rintro e w1 ⟨rfl, hb⟩
  have hs := sealN_lt n (pl p) hn
  generalize sealN n (pl p) = y at *
  by_cases he : y = x
  · have HV : Hid (openV (openN x (pl p)) = .tuple #[vu32 n, .bool true]) := Lib.hid (by rw [HO.out, if_pos he]; rfl)
    subst he
    go_wp2_with fail
    go_ret2
    exact ⟨by rw [HV.out]; rfl, hb⟩
  · have HV : Hid (openV (openN x (pl p)) = .tuple #[vu32 0, .bool false]) := Lib.hid (by rw [HO.out, if_neg he]; rfl)
    have he' : ¬ ((y : Int) = (x : Int)) := by omega
    clear he
    go_wp2_with fail
    go_ret2
    exact ⟨by rw [HV.out]; rfl, hb⟩
end Go.Proofs.YtfedgcdkagngnaaGreat

/- Headers of blocks: their words; the reference's. -/
namespace Go.Proofs.YtfedgcdkagngnaaGreat
open Go.RowKit
set_option linter.unusedVariables false

/-- May a header be? -/
def HdRight (k c l : Int) : Prop := (k = 0 ∧ c = 0 ∧ l = 0) ∨ (k = 1 ∧ (0 ≤ c ∧ c < 32) ∧ l = 0) ∨ ((k = 2 ∨ k = 3) ∧ c = 0 ∧ 1 ≤ l ∧ l < 256)
instance (k c l : Int) : Decidable (HdRight k c l) := by unfold HdRight; infer_instance
def hdRight (k c l : Int) : Bool := decide (HdRight k c l)

abbrev vhd (k c l : Int) : Value := .agg #[.int .i64 k, .int .i64 c, .int .i64 l]

theorem hdR_t {k c l : Int} (h : HdRight k c l) : true = hdRight k c l := (decide_eq_true h).symm
theorem hdR_f {k c l : Int} (h : ¬ HdRight k c l) : false = hdRight k c l := (decide_eq_false h).symm

set_option maxHeartbeats 1000000 in
theorem bright_any (k c l : Int) (w : World) : Calls Tryz.prog 212 #[vhd k c l] w fun e w' => e = .returned (.bool (hdRight k c l)) ∧ Below w.heap.size w w' := by
  have HB := Lib.hid (below_alloc w)
  by_cases h1 : k = 1
  · subst h1
    have HR : Hid (hdRight 1 c l = (decide (0 ≤ c ∧ c < 32) && decide (l = 0))) := Lib.hid (by unfold hdRight HdRight; simp)
    go_enter Tryz.func212, Tryz.ntmps212
    go_wp2_with fail
    refine (cright_any _ _).mono ?_
    rintro e w1 ⟨rfl, rfl⟩
    by_cases hc : 0 ≤ c ∧ c < 32
    · rw [decide_eq_true hc] at HR ⊢
      clear hc
      go_wp2_with fail
      all_goals
        go_ret
        exact ⟨ret_bool (by rw [HR.out]; rw [Bool.eq_iff_iff]; simp [*]), HB.out _⟩
    · rw [decide_eq_false hc] at HR ⊢
      clear hc
      go_wp2_with fail
      all_goals
        go_ret
        exact ⟨ret_bool (by rw [HR.out]; rw [Bool.eq_iff_iff]; simp [*]), HB.out _⟩
  go_enter Tryz.func212, Tryz.ntmps212
  go_wp2_with fail
  all_goals
    go_ret
    refine ⟨ret_bool ?_, HB.out _⟩
    clear HB
    simp only [beq_iff_eq, beq_eq_false_iff_ne] at *
    first
      | exact hdR_t (by unfold HdRight; omega)
      | exact hdR_f (by unfold HdRight; omega)
      | (by_cases hl : l < 256
         · exact (decide_eq_true hl).trans (hdR_t (by unfold HdRight; omega))
         · exact (decide_eq_false hl).trans (hdR_f (by unfold HdRight; omega)))

/-- A header's number; its word. -/
def hdN (k c l : Int) : Nat := (k + 4 * c + 256 * l).toNat
def encN (b k c l : Int) : Nat := if hdRight k c l = true then sealN (hdN k c l) (pl (256 + b)) else 0

theorem hd_small {k c l : Int} (h : hdRight k c l = true) : (0 ≤ k ∧ k < 4) ∧ (0 ≤ c ∧ c < 64) ∧ (0 ≤ l ∧ l < 65536) := by
  have := of_decide_eq_true h
  unfold HdRight at this
  omega

theorem hdN_lt {k c l : Int} (h : hdRight k c l = true) : hdN k c l < 4294967296 := by
  have := hd_small h
  unfold hdN
  omega

theorem encN_lt (b k c l : Int) : encN b k c l < 18446744073709551616 := by
  unfold encN
  split
  · rename_i h; exact sealN_lt _ _ (hdN_lt h)
  · decide

set_option maxHeartbeats 1000000 in
theorem bencode_any (b k c l : Int) (hb0 : 0 ≤ b) (hb1 : b ≤ 1000000) (w : World) : Calls Tryz.prog 171 #[.int .i64 b, vhd k c l] w fun e w' => e = .returned (vu64 (encN b k c l)) ∧ Below w.heap.size w w' := by
  have hb := below_alloc w (Obj.cells #[Value.int .i64 k, Value.int .i64 c, Value.int .i64 l] 139)
  have hg := heap_alloc_new w (Obj.cells #[Value.int .i64 k, Value.int .i64 c, Value.int .i64 l] 139)
  go_enter Tryz.func171, Tryz.ntmps171
  go_wp2_with fail
  generalize w.alloc (Obj.cells #[Value.int .i64 k, Value.int .i64 c, Value.int .i64 l] 139) = w0 at *
  refine (bright_any k c l w0).mono ?_
  rintro e w1 ⟨rfl, hb1⟩
  have hgl : w.heap.size < w0.heap.size := (Array.getElem?_eq_some_iff.1 hg).1
  have hbb := hb.trans (hb1.mono hb.size)
  have hg1 : w1.heap[w.heap.size]? = _ := (hb1.block _ hgl).trans hg
  have c0 : w1.cell? ⟨w.heap.size, 0, none⟩ = some (.int .i64 k) := cell_of_row _ _ 0 _ _ _ hg1
  have c1 : w1.cell? ⟨w.heap.size, 1, none⟩ = some (.int .i64 c) := cell_of_row _ _ 1 _ _ _ hg1
  have c2 : w1.cell? ⟨w.heap.size, 2, none⟩ = some (.int .i64 l) := cell_of_row _ _ 2 _ _ _ hg1
  clear hb hb1 hg hgl hg1
  cases hr : hdRight k c l
  · have HE : Hid (encN b k c l = 0) := Lib.hid (by unfold encN; rw [hr]; rfl)
    clear hr
    go_wp2_with fail
    go_ret
    exact ⟨ret_int (by rw [HE.out]; rfl), hbb⟩
  · have HE : Hid (encN b k c l = sealN (hdN k c l) (pl (256 + b))) := Lib.hid (by unfold encN; rw [hr]; rfl)
    have hn := hdN_lt hr
    obtain ⟨⟨k0, k1⟩, ⟨c0', c1'⟩, l0, l1⟩ := hd_small hr
    have HN : Hid (hdN k c l = (k.toNat + c.toNat * 4 + l.toNat * 256)) := Lib.hid (by unfold hdN; omega)
    clear hr
    obtain ⟨k, rfl⟩ := Int.eq_ofNat_of_zero_le k0
    obtain ⟨c, rfl⟩ := Int.eq_ofNat_of_zero_le c0'
    obtain ⟨l, rfl⟩ := Int.eq_ofNat_of_zero_le l0
    simp only [Int.toNat_natCast] at HN
    have P0 : Hid (Calls Tryz.prog 213 #[vu64 0, .int .i64 0, .int .i64 2, vu64 k] w1 fun e w' => e = .returned (vu64 k) ∧ w1 = w') := Lib.hid (by have := put_any 0 0 2 k (by decide) (by omega) (by decide) (by decide) w1; simpa using this)
    have P1 : Hid (Calls Tryz.prog 213 #[vu64 k, .int .i64 2, .int .i64 6, vu64 c] w1 fun e w' => e = .returned (vu64 (k + c * 4)) ∧ w1 = w') := Lib.hid (put_any k 2 6 c (by omega) (by omega) (by decide) (by decide) w1)
    have P2 : Hid (Calls Tryz.prog 213 #[vu64 (k + c * 4), .int .i64 8, .int .i64 16, vu64 l] w1 fun e w' => e = .returned (vu64 (k + c * 4 + l * 256)) ∧ w1 = w') := Lib.hid (put_any (k + c * 4) 8 16 l (by omega) (by omega) (by decide) (by decide) w1)
    go_wp2_with fail
    refine P0.out.mono ?_
    rintro e w2 ⟨rfl, rfl⟩
    go_wp2_with fail
    refine P1.out.mono ?_
    rintro e w2 ⟨rfl, rfl⟩
    go_wp2_with fail
    refine P2.out.mono ?_
    rintro e w2 ⟨rfl, rfl⟩
    rw [← HN.out]
    generalize hdN (k : Int) (c : Int) (l : Int) = n at *
    clear P0 P1 P2
    go_wp2_with fail
    refine (seal_any n _ hn _).mono ?_
    rintro e w2 ⟨rfl, hb2⟩
    rw [← HE.out]
    go_wp2_with fail
    go_ret
    exact ⟨rfl, hbb.trans (hb2.mono hbb.size)⟩

end Go.Proofs.YtfedgcdkagngnaaGreat

/- Headers of blocks: decoded. -/
namespace Go.Proofs.YtfedgcdkagngnaaGreat
open Go.RowKit
set_option linter.unusedVariables false

/-- Two results: a struct or an array in a block of its own, and a slot. -/
theorem results_cell_row2 {P : Program} {fn : Func} {p u : Tmp} {ty : TypeId} (h : fn.results = #[.cell p ty, .tmp u]) (tmps : Array Value) (w : World) (g : Nat) (t : TypeId) (cs : Array Value) (fr : Nat × Nat) (d : TypeDesc)
    (hp : tmps.getD p undef = .pointer (some ⟨g, 0, none⟩)) (hg : w.heap[g]? = some (.cells cs t fr))
    (hu : P.underlying ty = some d) (hd : (match d with | .struct _ | .array _ _ => true | _ => false) = true) (hi : (P.info? ty).map (·.size) = some cs.size) :
    (results fn tmps).run P w = .ok (.tuple #[.agg cs, tmps.getD u undef]) w := by
  have hp' : tmps[p]?.getD undef = .pointer (some ⟨g, 0, none⟩) := by simpa using hp
  simp [results, h, hp', asAddr, run_loadVar_row w g t ty cs fr d hg hu hd hi]

theorem aggHd : Agg Tryz.prog 139 #[.int .i64 0, .int .i64 0, .int .i64 0] := ⟨⟨_, Tryz.underlying139, rfl⟩, by kernel_rfl⟩
/-- What a word is as a block's header: kind, class, length, the error's number. -/
structure Dec where
  k : Int
  c : Int
  l : Int
  code : Int
/-- Of a sealed number. -/
def decS (b : Int) (x n : Nat) : Dec :=
  if encN b (n % 4 : Nat) (n / 4 % 64 : Nat) (n / 256 % 65536 : Nat) = x then (if hdRight (n % 4 : Nat) (n / 4 % 64 : Nat) (n / 256 % 65536 : Nat) = true then ⟨(n % 4 : Nat), (n / 4 % 64 : Nat), (n / 256 % 65536 : Nat), 0⟩ else ⟨0, 0, 0, 26⟩) else ⟨0, 0, 0, 26⟩
def decN (b : Int) (x : Nat) : Dec := ((openN x (pl (256 + b))).map (decS b x)).getD ⟨0, 0, 0, 25⟩
def Dec.val (d : Dec) : Value := .tuple #[vhd d.k d.c d.l, .int .i64 d.code]

theorem decN_none {b : Int} {x : Nat} (h : openN x (pl (256 + b)) = none) : (decN b x).val = .tuple #[vhd 0 0 0, .int .i64 25] := by unfold decN; rw [h]; rfl
theorem decN_some {b : Int} {x n : Nat} (h : openN x (pl (256 + b)) = some n) : decN b x = decS b x n := by unfold decN; rw [h]; rfl
theorem openN_some {x q n : Nat} (h : openN x q = some n) : n < 4294967296 ∧ n = x % 4294967296 := by
  unfold openN at h
  split at h
  · cases h; exact ⟨Nat.mod_lt _ (by decide), rfl⟩
  · cases h
theorem right_zero : hdRight 0 0 0 = true := by decide
/-- A word that is its header's word: then that one may be. -/
theorem enc_right {b : Int} {x n : Nat} (h : openN x (pl (256 + b)) = some n) (he : encN b (n % 4 : Nat) (n / 4 % 64 : Nat) (n / 256 % 65536 : Nat) = x) : hdRight (n % 4 : Nat) (n / 4 % 64 : Nat) (n / 256 % 65536 : Nat) = true := by
  obtain ⟨h1, h2⟩ := openN_some h
  cases hr : hdRight (n % 4 : Nat) (n / 4 % 64 : Nat) (n / 256 % 65536 : Nat)
  · unfold encN at he
    rw [hr] at he
    simp at he
    subst he
    subst h2
    exact absurd right_zero (by simpa using hr)
  · rfl
theorem decN_ok {b : Int} {x n : Nat} (h : openN x (pl (256 + b)) = some n) (he : encN b (n % 4 : Nat) (n / 4 % 64 : Nat) (n / 256 % 65536 : Nat) = x) :
    (decN b x).val = .tuple #[vhd (n % 4 : Nat) (n / 4 % 64 : Nat) (n / 256 % 65536 : Nat), .int .i64 0] := by
  have hr := enc_right h he
  rw [decN_some h, decS, if_pos he, if_pos hr]; rfl
theorem decN_bad {b : Int} {x n : Nat} (h : openN x (pl (256 + b)) = some n) (he : encN b (n % 4 : Nat) (n / 4 % 64 : Nat) (n / 256 % 65536 : Nat) ≠ x) :
    (decN b x).val = .tuple #[vhd 0 0 0, .int .i64 26] := by
  rw [decN_some h, decS, if_neg he]; rfl

end Go.Proofs.YtfedgcdkagngnaaGreat

/- bhead.Decode. -/
namespace Go.Proofs.YtfedgcdkagngnaaGreat
open Go.RowKit
set_option linter.unusedVariables false

theorem bits_sum (n : Nat) : n % 4 < 4 ∧ n / 4 % 64 < 64 ∧ n / 256 % 65536 < 65536 := by omega

set_option maxHeartbeats 1000000 in
theorem bdecode_any (b : Int) (x : Nat) (hb0 : 0 ≤ b) (hb1' : b ≤ 1000000) (hx : x < 18446744073709551616) (w : World) :
    Calls Tryz.prog 227 #[.int .i64 b, vu64 x] w fun e w' => e = .returned (decN b x).val ∧ Below w.heap.size w w' := by
  have hbA := below_alloc w (Obj.cells #[Value.int .i64 0, Value.int .i64 0, Value.int .i64 0] 139)
  have hg := heap_alloc_new w (Obj.cells #[Value.int .i64 0, Value.int .i64 0, Value.int .i64 0] 139)
  go_enter Tryz.func227, Tryz.ntmps227
  go_wp2_with fail
  generalize w.alloc (Obj.cells #[Value.int .i64 0, Value.int .i64 0, Value.int .i64 0] 139) = w0 at *
  refine (open_any x _ hx w0).mono ?_
  rintro e w1 ⟨rfl, hbo⟩
  have hgl : w.heap.size < w0.heap.size := (Array.getElem?_eq_some_iff.1 hg).1
  have hbb := hbA.trans (hbo.mono hbA.size)
  have hg1 : w1.heap[w.heap.size]? = _ := (hbo.block _ hgl).trans hg
  clear hbA hbo hg hgl
  cases ho : openN x (pl (256 + b)) with
  | none =>
    have HV := Lib.hid (decN_none ho)
    clear ho
    simp only [openV]
    go_wp2_with (refine wpList_store_row (cs := #[.int .i64 0, .int .i64 0, .int .i64 0]) aggHd hg1 rfl rfl (by simp [Value.oneCell']) rfl rfl rfl rfl ?_; intro w2 hg2 hgr2 hs2)
    refine bodyPost_ret (results_cell_row2 (p := 4) (u := 5) rfl _ _ _ _ _ _ _ rfl hg2 Tryz.underlying139 rfl (by kernel_rfl)) rfl ⟨by rw [HV.out]; rfl, ?_⟩
    exact hbb.grown hgr2 hbb.size (fun k e => by cases e; omega)
  | some n =>
    obtain ⟨hn, -⟩ := openN_some ho
    have HK := Lib.hid (decN_ok ho)
    have HL := Lib.hid (decN_bad ho)
    clear ho
    simp only [openV]
    have G0 : Hid (∀ w, Calls Tryz.prog 210 #[vu64 n, .int .i64 0, .int .i64 2] w fun e w' => e = .returned (vu64 (n % 4)) ∧ w = w') := Lib.hid (fun w => by have := get_any n 0 2 (by omega) (by decide) (by decide) (by decide) w; simpa [fieldN] using this)
    have G1 : Hid (∀ w, Calls Tryz.prog 210 #[vu64 n, .int .i64 2, .int .i64 6] w fun e w' => e = .returned (vu64 (n / 4 % 64)) ∧ w = w') := Lib.hid (fun w => get_any n 2 6 (by omega) (by decide) (by decide) (by decide) w)
    have G2 : Hid (∀ w, Calls Tryz.prog 210 #[vu64 n, .int .i64 8, .int .i64 16] w fun e w' => e = .returned (vu64 (n / 256 % 65536)) ∧ w = w') := Lib.hid (fun w => get_any n 8 16 (by omega) (by decide) (by decide) (by decide) w)
    obtain ⟨h4, h64, h6⟩ := bits_sum n
    generalize n % 4 = k at *
    generalize n / 4 % 64 = c at *
    generalize n / 256 % 65536 = l at *
    go_wp2_with fail
    refine (G0.out _).mono ?_
    rintro e w2 ⟨rfl, rfl⟩
    go_wp2_with fail
    refine (G1.out _).mono ?_
    rintro e w2 ⟨rfl, rfl⟩
    go_wp2_with fail
    refine (G2.out _).mono ?_
    rintro e w2 ⟨rfl, rfl⟩
    clear G0 G1 G2
    go_wp2_with fail
    have hb1 := below_alloc w1 (Obj.cells #[Value.int .i64 (k : Int), Value.int .i64 (c : Int), Value.int .i64 (l : Int)] 139)
    have hg2 := heap_alloc_new w1 (Obj.cells #[Value.int .i64 (k : Int), Value.int .i64 (c : Int), Value.int .i64 (l : Int)] 139)
    generalize w1.alloc (Obj.cells #[Value.int .i64 (k : Int), Value.int .i64 (c : Int), Value.int .i64 (l : Int)] 139) = w2 at *
    refine (bencode_any b k c l hb0 hb1' w2).mono ?_
    rintro e w3 ⟨rfl, hb3⟩
    have hgl : w.heap.size < w1.heap.size := (Array.getElem?_eq_some_iff.1 hg1).1
    have hgl2 : w1.heap.size < w2.heap.size := (Array.getElem?_eq_some_iff.1 hg2).1
    have hb3' := hbb.trans ((hb1.trans (hb3.mono hb1.size)).mono hbb.size)
    have hg3 : w3.heap[w.heap.size]? = _ := (hb3.block _ (by omega)).trans ((hb1.block _ hgl).trans hg1)
    have hg4 : w3.heap[w1.heap.size]? = _ := (hb3.block _ hgl2).trans hg2
    have he := encN_lt b k c l
    clear hb1 hb3 hg1 hg2 hbb
    generalize encN b k c l = y at *
    by_cases hyx : y = x
    · have HV := Lib.hid (HK.out hyx)
      subst hyx
      have d0 : w3.cell? ⟨w1.heap.size, 0, none⟩ = some (.int .i64 k) := cell_of_row _ _ 0 _ _ _ hg4
      have d1 : w3.cell? ⟨w1.heap.size, 1, none⟩ = some (.int .i64 c) := cell_of_row _ _ 1 _ _ _ hg4
      have d2 : w3.cell? ⟨w1.heap.size, 2, none⟩ = some (.int .i64 l) := cell_of_row _ _ 2 _ _ _ hg4
      go_wp2_with (refine wpList_store_row (cs := #[.int .i64 k, .int .i64 c, .int .i64 l]) aggHd hg3 rfl rfl (by simp [Value.oneCell']) rfl rfl rfl rfl ?_; intro w4 hg5 hgr4 hs4)
      refine bodyPost_ret (results_cell_row2 (p := 4) (u := 5) rfl _ _ _ _ _ _ _ rfl hg5 Tryz.underlying139 rfl (by kernel_rfl)) rfl ⟨by rw [HV.out]; rfl, ?_⟩
      exact hb3'.grown hgr4 hb3'.size (fun k e => by cases e; omega)
    · have HV := Lib.hid (HL.out hyx)
      have hne : ¬ ((y : Int) = (x : Int)) := by omega
      clear hyx
      go_wp2_with (refine wpList_store_row (cs := #[.int .i64 0, .int .i64 0, .int .i64 0]) aggHd hg3 rfl rfl (by simp [Value.oneCell']) rfl rfl rfl rfl ?_; intro w4 hg5 hgr4 hs4)
      refine bodyPost_ret (results_cell_row2 (p := 4) (u := 5) rfl _ _ _ _ _ _ _ rfl hg5 Tryz.underlying139 rfl (by kernel_rfl)) rfl ⟨by rw [HV.out]; rfl, ?_⟩
      exact hb3'.grown hgr4 hb3'.size (fun k e => by cases e; omega)

end Go.Proofs.YtfedgcdkagngnaaGreat

/- blocks: Read, Open. -/
namespace Go.Proofs.YtfedgcdkagngnaaGreat
open Go.RowKit
set_option linter.unusedVariables false

/-- A block's header. -/
structure Hd where
  k : Int
  c : Int
  l : Int
deriving DecidableEq
instance : Inhabited Hd := ⟨⟨0, 0, 0⟩⟩
def Hd.cs (h : Hd) : List Value := [.int .i64 h.k, .int .i64 h.c, .int .i64 h.l]
def hdCs (l : List Hd) : List Value := l.flatMap Hd.cs
theorem hdCs_length (l : List Hd) : (hdCs l).length = 3 * l.length := by
  induction l with
  | nil => rfl
  | cons h l ih => simp only [hdCs, List.flatMap_cons, List.length_append, List.length_cons] at *; rw [ih]; simp [Hd.cs]; omega
theorem hdCs_append (l m : List Hd) : hdCs (l ++ m) = hdCs l ++ hdCs m := by simp [hdCs]
theorem hdCs_at (l : List Hd) (i : Nat) (hi : i < l.length) : ∀ j v, (l.getD i default).cs[j]? = some v → (hdCs l)[i * 3 + j]? = some v := by
  intro j v hj
  have e : l = l.take i ++ (l[i] :: l.drop (i + 1)) := by simp
  have hl : (hdCs (l.take i)).length = i * 3 := by rw [hdCs_length, List.length_take, Nat.min_eq_left (by omega)]; omega
  have hg : l.getD i default = l[i] := by simp [hi]
  rw [hg] at hj
  have hj3 : j < (l[i]).cs.length := (List.getElem?_eq_some_iff.1 hj).1
  rw [e, hdCs_append, List.getElem?_append_right (by omega), hl, show i * 3 + j - i * 3 = j by omega]
  simp only [hdCs, List.flatMap_cons]
  rw [List.getElem?_append_left hj3]
  exact hj
theorem hdCs_one (l : List Hd) : ∀ u ∈ hdCs l, u.oneCell' = true := by
  intro u hu
  simp only [hdCs, List.mem_flatMap, Hd.cs, List.mem_cons, List.not_mem_nil, or_false] at hu
  obtain ⟨h, _, rfl | rfl | rfl⟩ := hu <;> rfl

/-- The header that a word is; of block 0 none. -/
def hdF (f : Nat → Nat) (b : Nat) : Hd := if b = 0 then ⟨0, 0, 0⟩ else ⟨(decN b (f b)).k, (decN b (f b)).c, (decN b (f b)).l⟩
def hds (f : Nat → Nat) (k : Nat) : List Hd := (List.range k).map (hdF f)
theorem hds_length (f : Nat → Nat) (k : Nat) : (hds f k).length = k := by simp [hds]
theorem hds_succ (f : Nat → Nat) (k : Nat) : hds f (k + 1) = hds f k ++ [hdF f k] := by simp [hds, List.range_succ]
def AllOk (f : Nat → Nat) (k : Nat) : Prop := ∀ b, 1 ≤ b → b < k → (decN b (f b)).code = 0

/-- What reading all headers answers. -/
def ReadPost (t : Nat) (f : Nat → Nat) (B : Nat) (w : World) : Ending → World → Prop := fun en w' => Below w.heap.size w w' ∧
  ((AllOk f B ∧ ∃ g c, en = .returned (.tuple #[.slice (some ⟨g, 0, none⟩) B c, .int .i64 0, .int .i64 0]) ∧ w.heap.size ≤ g ∧ B ≤ c ∧ RowAt w' g t (hdCs (hds f B))) ∨
   (∃ b : Nat, 1 ≤ b ∧ b < B ∧ AllOk f b ∧ (decN b (f b)).code ≠ 0 ∧ en = .returned (.tuple #[.slice none 0 0, .int .i64 b, .int .i64 21])))

theorem AllOk.succ {f : Nat → Nat} {k : Nat} (h : AllOk f k) (hk : (decN k (f k)).code = 0) : AllOk f (k + 1) := by
  intro b h1 h2
  by_cases e : b = k
  · subst e; exact hk
  · exact h b h1 (by omega)

theorem elHd : Elem Tryz.prog 38 139 (.agg #[.int .i64 0, .int .i64 0, .int .i64 0]) 3 24 := Elem.mk' Tryz.underlying38 (by kernel_rfl) rfl (by decide)

theorem row_step (f : Nat → Nat) (B k : Nat) (hk : k < B) (h : Hd) (he : h = hdF f k) : splice (hdCs (hds f k) ++ List.replicate (3 * (B - k)) (.int .i64 0)) (k * 3) h.cs = hdCs (hds f (k + 1)) ++ List.replicate (3 * (B - (k + 1))) (.int .i64 0) := by
  subst he
  have hl : (hdCs (hds f k)).length = k * 3 := by rw [hdCs_length, hds_length]; omega
  rw [hds_succ, hdCs_append]
  unfold splice
  rw [List.take_left' hl, ← hl, List.drop_length_add_append]
  have : List.drop (hdF f k).cs.length (List.replicate (3 * (B - k)) (Value.int .i64 0)) = List.replicate (3 * (B - (k + 1))) (.int .i64 0) := by
    simp [Hd.cs]; omega
  rw [this]
  simp [hdCs]

theorem peek_lt {l : List Nat} (h : ∀ z ∈ l, z < 18446744073709551616) (i : Int) : peek l i < 18446744073709551616 := by
  unfold peek
  split
  · by_cases hi : i.toNat < l.length
    · simp only [List.getD_eq_getElem?_getD, List.getElem?_eq_getElem hi, Option.getD_some]
      exact h _ (List.getElem_mem hi)
    · simp only [List.getD_eq_getElem?_getD, List.getElem?_eq_none (by omega : l.length ≤ i.toNat), Option.getD_none]
      decide
  · decide

theorem cell_of_touch {L : List Nat} {w w' : World} (h : Touch L w w') {p : Addr} {v : Value} (hp : p.block ∉ L) (hc : w.cell? p = some v) : w'.cell? p = some v := by
  rw [World.cell?_of_block (w := w) (h.block p.block (World.block_lt_of_cell? _ _ hc) hp)]; exact hc
theorem below_touch {B : Nat} {L : List Nat} {w w1 w2 : World} (h : Below B w w1) (ht : Touch L w1 w2) (hL : ∀ k ∈ L, B ≤ k) (hB : B ≤ w.heap.size) : Below B w w2 :=
  h.trans (ht.below (Nat.le_trans hB h.size) hL)

def devWord (S : Dev) (b : Nat) : Nat := peek S.cache (256 + (b : Int))

set_option maxHeartbeats 2000000 in
set_option maxRecDepth 100000 in
theorem read_any {w : World} {F : Foot} {S : Dev} (h : DevAt w F S) (B : Nat) (hB1 : 1 ≤ B) (hB : B ≤ 1000) :
    Calls Tryz.prog 190 #[vdev F, vgeom B] w (ReadPost 139 (devWord S) B w) := by
  have HD := Lib.hid h
  have HP : Hid (ReadPost 139 (devWord S) B w = ReadPost 139 (devWord S) B w) := Lib.hid rfl
  generalize hP : ReadPost 139 (devWord S) B w = Post at HP ⊢
  have HPE := Lib.hid hP
  clear h hP HP
  go_enter Tryz.func190, Tryz.ntmps190
  have hbx : Below w.heap.size w (w.alloc (.cells #[.int .i64 (B : Int)] 42)) := below_alloc _ _
  have hcx : (w.alloc (.cells #[.int .i64 (B : Int)] 42)).cell? ⟨w.heap.size, 0, none⟩ = some (.int .i64 (B : Int)) := cell_alloc_new _ _ _ 0 _ rfl
  have hsx : (w.alloc (.cells #[.int .i64 (B : Int)] 42)).heap.size = w.heap.size + 1 := by simp
  have HSX := Lib.hid hsx
  clear hsx
  go_wp2_with (first
    | (at_make; refine wpList_make_rows elHd (w.heap.size + 1) B (z := .int .i64 0) (by intro i hi; simp at hi; rcases i with _ | _ | _ | i <;> first | rfl | omega) (by omega) (by omega) (by omega) (by decide) (by simp) rfl rfl rfl rfl ?_; intro w1 hown hgrow))
  try rw [HSX.out] at hown
  try rw [HSX.out]
  have hb1 : Below w.heap.size w w1 := hbx.trans (below_grown hgrow (by rw [HSX.out]; omega))
  have hc1 : w1.cell? ⟨w.heap.size, 0, none⟩ = some (.int .i64 (B : Int)) := by
    rw [(below_grown hgrow (Nat.le_refl _)).cell (p := ⟨w.heap.size, 0, none⟩) (by rw [HSX.out]; simp)]; exact hcx
  have hr1 : RowAt w1 (w.heap.size + 1) 139 (List.replicate (B * 3) (.int .i64 0)) := owned_row hown
  have HR1 := Lib.hid hr1
  have HB1 := Lib.hid hb1
  clear hbx hcx hown hgrow hr1 hb1 HSX
  obtain ⟨gx, hgx⟩ : ∃ gx, gx = w.heap.size := ⟨_, rfl⟩
  obtain ⟨g, hg⟩ : ∃ g, g = w.heap.size + 1 := ⟨_, rfl⟩
  have HG : Hid (gx = w.heap.size ∧ g = w.heap.size + 1) := Lib.hid ⟨hgx, hg⟩
  rw [← hg] at HR1 ⊢
  rw [← hgx] at hc1 ⊢
  have hgne : gx ≠ g := by omega
  clear hgx hg
  go_loopw [8] (fun i wr => ∃ k : Nat, 1 ≤ k ∧ k ≤ B ∧ i = .int .i64 k ∧ AllOk (devWord S) k ∧ RowAt wr g 139 (hdCs (hds (devWord S) k) ++ List.replicate (3 * (B - k)) (.int .i64 0)) ∧ wr.cell? ⟨gx, 0, none⟩ = some (.int .i64 (B : Int)) ∧ Below w.heap.size w wr) (fun i _ => B - (intOf i).toNat)
  case atStart => exact ⟨1, Nat.le_refl _, hB1, rfl, (fun b h1 h2 => by omega), by
      have e : hdCs (hds (devWord S) 1) ++ List.replicate (3 * (B - 1)) (Value.int .i64 0) = List.replicate (B * 3) (Value.int .i64 0) := by
        have : hdCs (hds (devWord S) 1) = List.replicate 3 (Value.int .i64 0) := rfl
        rw [this, List.replicate_append_replicate]
        congr 1
        omega
      rw [e]; exact HR1.out, hc1, HB1.out⟩
  case round =>
    clear hc1 HR1 HB1
    obtain ⟨k, hk1, hk2, rfl, hok, hr, hcx, hb⟩ := hrel
    have HOK := Lib.hid hok
    have HR := Lib.hid hr
    have HB := Lib.hid hb
    have HDr := Lib.hid (HD.out.below hb)
    clear hok hr hb
    by_cases hlt : k < B
    · have hlt' : (k : Int) < (B : Int) := by omega
      go_wp2_with fail
      refine (gheader_any _ _ _ (by omega)).mono ?_
      rintro e w2 ⟨rfl, hb2⟩
      have HH : Hid (hdAt (B : Int) (k : Int) = 256 + (k : Int)) := Lib.hid (by unfold hdAt; rw [if_neg (by omega)])
      rw [HH.out]
      have HD2 := Lib.hid (HDr.out.below hb2)
      have HB2 := Lib.hid hb2
      clear hb2
      go_wp2_with fail
      refine (dget_any HD2.out _).mono ?_
      rintro e w3 ⟨rfl, rfl⟩
      have hx : devWord S k < 18446744073709551616 := peek_lt HD2.out.u64C _
      have HX : Hid (peek S.cache (256 + (k : Int)) = devWord S k) := Lib.hid rfl
      rw [HX.out]
      go_wp2_with fail
      refine (bdecode_any (k : Int) (devWord S k) (by omega) (by omega) hx _).mono ?_
      rintro e w4 ⟨rfl, hb4⟩
      have HF : Hid (⟨(decN k (devWord S k)).k, (decN k (devWord S k)).c, (decN k (devWord S k)).l⟩ = hdF (devWord S) k) := Lib.hid (by unfold hdF; rw [if_neg (by omega)])
      have HC : Hid ((decN k (devWord S k)).code = 0 ∨ (decN k (devWord S k)).code ≠ 0) := Lib.hid (by omega)
      have HOK2 : Hid ((decN k (devWord S k)).code = 0 → AllOk (devWord S) (k + 1)) := Lib.hid (fun h => HOK.out.succ h)
      have HBad : Hid ((decN k (devWord S k)).code ≠ 0 → ∀ w', Below w.heap.size w w' → Post (.returned (.tuple #[.slice none 0 0, .int .i64 k, .int .i64 21])) w') := Lib.hid (fun h w' hw' => by
        rw [← HPE.out]; exact ⟨hw', .inr ⟨k, hk1, hlt, HOK.out, h, rfl⟩⟩)
      unfold Dec.val
      generalize decN k (devWord S k) = dd at *
      obtain ⟨dk, dc, dl, dcode⟩ := dd
      dsimp only at *
      have hb24 : Below wr.heap.size wr w4 := HB2.out.trans (hb4.mono HB2.out.size)
      have HB4 := Lib.hid hb24
      clear hb4 hb24 HB2 HD2
      rcases HC.out with hz | hz
      · subst hz
        have hok2 := HOK2.out rfl
        have HOK3 := Lib.hid hok2
        have hr4 : RowAt w4 g 139 _ := HR.out.keep (HB4.out.block g HR.out.lt)
        have hcx4 : w4.cell? ⟨gx, 0, none⟩ = some (.int .i64 (B : Int)) := below_cells HB4.out hcx (Nat.le_refl _)
        have hgl : g < w4.heap.size := hr4.lt
        have hgxl : gx < w4.heap.size := World.block_lt_of_cell? _ _ hcx4
        have HR4 := Lib.hid hr4
        have HCX4 := Lib.hid hcx4
        clear hok2 hr4 hcx hcx4
        have hb5 := below_alloc w4 (Obj.cells #[Value.int .i64 dk, Value.int .i64 dc, Value.int .i64 dl] 139)
        have HR5 : Hid (RowAt (w4.alloc (Obj.cells #[Value.int .i64 dk, Value.int .i64 dc, Value.int .i64 dl] 139)) g 139 (hdCs (hds (devWord S) k) ++ List.replicate (3 * (B - k)) (.int .i64 0))) := Lib.hid (HR4.out.keep (hb5.block g hgl))
        have HCX5 : Hid ((w4.alloc (Obj.cells #[Value.int .i64 dk, Value.int .i64 dc, Value.int .i64 dl] 139)).cell? ⟨gx, 0, none⟩ = some (.int .i64 (B : Int))) := Lib.hid (below_cells hb5 HCX4.out (Nat.le_refl _))
        have HB5 : Hid (Below w.heap.size w (w4.alloc (Obj.cells #[Value.int .i64 dk, Value.int .i64 dc, Value.int .i64 dl] 139))) := Lib.hid (HB.out.trans ((HB4.out.trans (hb5.mono HB4.out.size)).mono HB.out.size))
        have hlen : Hid (k * 3 + 3 ≤ (hdCs (hds (devWord S) k) ++ List.replicate (3 * (B - k)) (Value.int .i64 0)).length) := Lib.hid (by rw [List.length_append, hdCs_length, hds_length, List.length_replicate]; omega)
        have hone : Hid (∀ u ∈ (#[Value.int .i64 dk, Value.int .i64 dc, Value.int .i64 dl] : Array Value).toList, u.oneCell' = true) := Lib.hid (by intro u hu; simp at hu; rcases hu with rfl | rfl | rfl <;> rfl)
        clear hb5 HR4 HCX4 HB4
        go_wp2_with (refine wpList_store_part (off := k * 3) (cs := #[.int .i64 dk, .int .i64 dc, .int .i64 dl]) aggHd HR5.out rfl hlen.out hone.out rfl rfl rfl rfl ?_; intro w6 hr6 ht6; have HR6 := Lib.hid hr6; have HT6 := Lib.hid ht6; clear hr6 ht6)
        refine ⟨⟨k + 1, by omega, by omega, vint (by omega), HOK3.out, ?_, ?_, ?_⟩, by simp [intOf]; omega⟩
        · have := HR6.out
          rw [show #[Value.int .i64 dk, Value.int .i64 dc, Value.int .i64 dl].toList = (⟨dk, dc, dl⟩ : Hd).cs from rfl, row_step _ _ _ hlt _ HF.out] at this
          exact this
        · exact cell_of_touch HT6.out (by simp; exact hgne) HCX5.out
        · exact below_touch HB5.out HT6.out (by have := HG.out; simp; omega) (Nat.le_refl _)
      · have hz1 : (dcode != 0) = true := by simpa using hz
        have HZ := Lib.hid (HBad.out hz)
        have HBE : Hid (Below w.heap.size w w4) := Lib.hid (HB.out.trans (HB4.out.mono HB.out.size))
        clear hz HBad HC HOK2
        go_wp2_with fail
        go_ret3
        exact HZ.out _ (HBE.out.alloc (HBE.out.size) _)
    · obtain rfl : k = B := by omega
      have hlt' : decide ((k : Int) < (k : Int)) = false := by simp
      go_wp2_with fail
      go_ret3
      rw [← HPE.out]
      refine ⟨HB.out, .inl ⟨HOK.out, g, k, rfl, by have := HG.out; omega, Nat.le_refl _, ?_⟩⟩
      have := HR.out
      simpa using this

end Go.Proofs.YtfedgcdkagngnaaGreat

/- Regions that draw their order, in segments: reading operations that may float are taken as early as they can; all others come one behind the other. One walk serves every order. -/
namespace Go.Proofs.YtfedgcdkagngnaaGreat
open Go.RowKit
set_option linter.unusedVariables false

/-- A segment: reading operations that float; or operations one by one (lo: is its last one loose?). -/
inductive Seg where
  | fl (ks : List Nat)
  | sq (ks : List Nat) (lo : Bool)
inductive SegO where
  | fl (os : List Oper)
  | sq (os : List Oper) (lo : Bool)

section
variable {P : Program} {ops : Array Oper} {md : Region.Mode} {C : World → Prop} {Q : Exit → Act → World → Prop}

def picks (l : List Oper) : List Nat → List Oper
  | [] => []
  | k :: ks => match l[k]? with
    | some o => o :: picks l ks
    | none => picks l ks
def segs (l : List Oper) : List Seg → List SegO
  | [] => []
  | .fl ks :: r => .fl (picks l ks) :: segs l r
  | .sq ks lo :: r => .sq (picks l ks) lo :: segs l r

def flFrom (md : Region.Mode) (ops : Array Oper) : List Nat → Array Bool → Bool × Array Bool
  | [], listed => (true, listed)
  | k :: ks, listed => match ops[k]? with
    | none => (false, listed)
    | some o => let r := flFrom md ops ks (listed.setIfInBounds k true)
      (calm o.op && (Region.ready md ops listed).contains k && Region.free md ops listed k && ((List.range ops.size).all fun j => j == k || listed.getD j true || waitsFor md ops ops.size j k || looseOf md ops j) && r.1, r.2)
def sqFrom (md : Region.Mode) (ops : Array Oper) (lo : Bool) : List Nat → Array Bool → Bool × Array Bool
  | [], listed => (true, listed)
  | k :: ks, listed => match ops[k]? with
    | none => (false, listed)
    | some _ => let r := sqFrom md ops lo ks (listed.setIfInBounds k true)
      (Region.ready md ops listed == [k] && (!looseOf md ops k || (lo && ks.isEmpty)) && r.1, r.2)
def segFrom (md : Region.Mode) (ops : Array Oper) : List Seg → Array Bool → Bool
  | [], listed => (Region.ready md ops listed).isEmpty
  | .fl ks :: r, listed => let x := flFrom md ops ks listed; x.1 && segFrom md ops r x.2
  | .sq ks lo :: r, listed => let x := sqFrom md ops lo ks listed; x.1 && segFrom md ops r x.2
def segLen : List Seg → Nat
  | [] => 0
  | .fl ks :: r => segLen r + ks.length
  | .sq ks _ :: r => segLen r + ks.length
def segB (md : Region.Mode) (ops : Array Oper) (is : List Seg) : Bool := Region.noSelect ops && segLen is == ops.size && segFrom md ops is (Array.replicate ops.size false)

/-- The walk. -/
def wpSeg (P : Program) (ops : Array Oper) (C : World → Prop) (Q : Exit → Act → World → Prop) : List SegO → Act → World → Prop
  | [], a, w => Q .normal a w
  | .fl os :: r, a, w => C w ∧ wpQuiet P ops C (fun a' => wpSeg P ops C Q r a' w) os a
  | .sq os lo :: r, a, w => wpList P ops (Exit.then (fun a' w' => (lo = true → C w') ∧ wpSeg P ops C Q r a' w') Q) os a w

theorem fl_ok (hs : Region.noSelect ops = true) (hQ : ∀ c a d v w, Q (.panic c) (a.put d v) w → Q (.panic c) a w) {m : Nat} {R : Act → Prop} {w : World} (hC : C w) : ∀ (ks : List Nat) (listed : Array Bool) (a : Act), Shut md ops listed → (flFrom md ops ks listed).1 = true →
    (∀ a', Shut md ops (flFrom md ops ks listed).2 → R a' → wpAnyF P md ops Q C (looseOf md ops) m (flFrom md ops ks listed).2 a' w) →
    wpQuiet P ops C R (picks ops.toList ks) a → wpAnyF P md ops Q C (looseOf md ops) (m + ks.length) listed a w := by
  intro ks
  induction ks with
  | nil =>
    intro listed a hsh _ hR h
    exact hR a hsh (by simpa [picks, wpQuiet] using h)
  | cons k ks ih =>
    intro listed a hsh hB hR h
    cases hk : ops[k]? with
    | none => simp [flFrom, hk] at hB
    | some o =>
      have e : picks ops.toList (k :: ks) = o :: picks ops.toList ks := by simp [picks, hk]
      rw [e] at h
      simp only [flFrom, hk, Bool.and_eq_true] at hB hR
      obtain ⟨⟨⟨⟨hc, hr⟩, hf⟩, hlo⟩, hB'⟩ := hB
      have hrk : k ∈ Region.ready md ops listed := by simpa using hr
      obtain ⟨v, hy, hK⟩ : ∃ v, Stays P ops C o v a ∧ wpQuiet P ops C R (picks ops.toList ks) (a.put o.dst v) := by
        unfold wpQuiet at h
        by_cases hw : Region.wanted o (yielded ops a.tmps) = true
        · rw [if_pos hw] at h
          obtain ⟨v, h1, h2⟩ := h
          refine ⟨v, .inl ⟨hw, fun x hx => ?_⟩, h2⟩
          have h3 := h1 x hx
          unfold Oper.quietAt at h3
          cases hq : (execOp a.eval o).run P x with
          | ok nx w2 =>
            obtain ⟨u, rfl⟩ := calm_value hc hq
            rw [hq] at h3
            simp only [Oper.quietUpon] at h3
            rw [h3.1, h3.2]
          | halt x' w2 => rw [hq] at h3; simp only [Oper.quietUpon] at h3
        · rw [if_neg hw] at h
          exact ⟨undef, .inr ⟨by simpa using hw, rfl⟩, h⟩
      refine wpAnyF_early (f := ops.size) hk (Region.noSelect_spec hs) hQ (m + ks.length) listed a w ?_ (Region.free_spec hk hf) hrk hsh hy hC (ih _ _ (hsh.set hrk) hB' hR hK)
      intro j oj hj hjk hun
      simp only [List.all_eq_true, List.mem_range, Bool.or_eq_true, beq_iff_eq] at hlo
      rcases hlo j (Array.getElem?_eq_some_iff.1 hj).1 with ((h | h) | h) | h
      · exact absurd h hjk
      · rw [hun] at h; cases h
      · exact .inl h
      · exact .inr h

theorem sq_ok {m : Nat} {lo : Bool} {R : Act → World → Prop} : ∀ (ks : List Nat) (listed : Array Bool) (a : Act) (w : World), Shut md ops listed → (sqFrom md ops lo ks listed).1 = true →
    (∀ a' w', Shut md ops (sqFrom md ops lo ks listed).2 → (lo = true → C w') → R a' w' → wpAnyF P md ops Q C (looseOf md ops) m (sqFrom md ops lo ks listed).2 a' w') →
    wpList P ops (Exit.then (fun a' w' => (lo = true → C w') ∧ R a' w') Q) (picks ops.toList ks) a w → wpAnyF P md ops Q C (looseOf md ops) (m + ks.length) listed a w := by
  intro ks
  induction ks with
  | nil =>
    intro listed a w hsh _ hR h
    have h : (lo = true → C w) ∧ R a w := by simpa [picks, wpList, Exit.then] using h
    exact hR a w hsh h.1 h.2
  | cons k ks ih =>
    intro listed a w hsh hB hR h
    cases hk : ops[k]? with
    | none => simp [sqFrom, hk] at hB
    | some o =>
      have e : picks ops.toList (k :: ks) = o :: picks ops.toList ks := by simp [picks, hk]
      rw [e] at h
      simp only [sqFrom, hk, Bool.and_eq_true, beq_iff_eq] at hB hR
      obtain ⟨⟨hr, hlo⟩, hB'⟩ := hB
      have hrk : k ∈ Region.ready md ops listed := by rw [hr]; simp
      refine ⟨fun h' => (by rw [hr] at h'; cases h'), fun i hi => ?_⟩
      rw [hr] at hi
      obtain rfl : i = k := by simpa using hi
      unfold wpOp
      simp only [hk]
      unfold wpList at h
      have hmono : ∀ a' w', wpList P ops (Exit.then (fun a' w' => (lo = true → C w') ∧ R a' w') Q) (picks ops.toList ks) a' w' →
          (looseOf md ops i = true → C w') ∧ wpAnyF P md ops Q C (looseOf md ops) (m + ks.length) (listed.setIfInBounds i true) a' w' := by
        intro a' w' h'
        refine ⟨fun hl => ?_, ih _ _ _ (hsh.set hrk) hB' hR h'⟩
        simp only [hl, Bool.not_true, Bool.false_or, Bool.and_eq_true, List.isEmpty_iff] at hlo
        obtain ⟨hlo1, rfl⟩ := hlo
        have h' : (lo = true → C w') ∧ R a' w' := by simpa [picks, wpList, Exit.then] using h'
        exact h'.1 hlo1
      by_cases hw : Region.wanted o (yielded ops a.tmps) = true
      · rw [if_pos hw] at h ⊢
        rcases h with h | h
        · refine .inl ?_
          have h := Oper.wp_mono hmono h
          unfold Oper.wp at *
          generalize (execOp a.eval o).run P w = r at *
          cases r with
          | ok n w' => cases n <;> simp only [Oper.upon] at h ⊢ <;> exact h
          | halt x w' => cases x <;> simp only [Oper.upon] at h ⊢ <;> exact h
        · exact .inr h
      · rw [if_neg hw] at h ⊢
        exact hmono _ _ h

theorem seg_ok (hs : Region.noSelect ops = true) (hQ : ∀ c a d v w, Q (.panic c) (a.put d v) w → Q (.panic c) a w) : ∀ (is : List Seg) (listed : Array Bool) (a : Act) (w : World), Shut md ops listed →
    segFrom md ops is listed = true → wpSeg P ops C Q (segs ops.toList is) a w → wpAnyF P md ops Q C (looseOf md ops) (segLen is) listed a w := by
  intro is
  induction is with
  | nil =>
    intro listed a w _ hB h
    exact ⟨by simpa [segFrom] using hB, by simpa [wpSeg, segs] using h⟩
  | cons s is ih =>
    intro listed a w hsh hB h
    cases s with
    | fl ks =>
      simp only [segFrom, Bool.and_eq_true] at hB
      simp only [segs, wpSeg] at h
      exact fl_ok hs hQ h.1 ks listed a hsh hB.1 (fun a' hsh' hR => ih _ a' w hsh' hB.2 hR) h.2
    | sq ks lo =>
      simp only [segFrom, Bool.and_eq_true] at hB
      simp only [segs, wpSeg] at h
      exact sq_ok ks listed a w hsh hB.1 (fun a' w' hsh' _ hR => ih _ a' w' hsh' hB.2 hR) h

/-- One walk serves every order. -/
theorem wp_region_seg {id : Nat} {a : Act} {w : World} {l : List Oper} (is : List Seg) (hm : P.follows .mixedOrders = true) (hB : segB .any l.toArray is = true)
    (hQ : ∀ c a d v w, Q (.panic c) (a.put d v) w → Q (.panic c) a w)
    (h : wpSeg P l.toArray C Q (segs l is) a w.drew) : (Code.region id l.toArray true).wp P Q a w := by
  simp only [segB, Bool.and_eq_true, beq_iff_eq] at hB
  refine wp_region_any hm (wpAny_of_F (C := C) (loose := looseOf .any l.toArray) _ _ _ _ ?_)
  have := seg_ok (md := .any) (C := C) hB.1.1 hQ is (Array.replicate l.toArray.size false) a w.drew (shut_none _) hB.2 h
  rw [hB.1.2] at this
  exact this

theorem wpSeg_fl {os : List Oper} {r : List SegO} {a : Act} {w : World} (hC : C w) (h : wpQuiet P ops C (fun a' => wpSeg P ops C Q r a' w) os a) : wpSeg P ops C Q (.fl os :: r) a w := ⟨hC, h⟩
theorem wpSeg_sq {os : List Oper} {lo : Bool} {r : List SegO} {a : Act} {w : World}
    (h : ∀ K : Act → World → Prop, (∀ a' w', (lo = true → C w') → wpSeg P ops C Q r a' w' → K a' w') → wpList P ops (Exit.then K Q) os a w) : wpSeg P ops C Q (.sq os lo :: r) a w :=
  h _ (fun _ _ h1 h2 => ⟨h1, h2⟩)
theorem exit_then_self (Q : Exit → Act → World → Prop) : Exit.then (Q .normal) Q = Q := by
  funext e a w
  cases e <;> rfl
/-- The last segment. -/
theorem wpSeg_last {os : List Oper} {a : Act} {w : World} (h : wpList P ops Q os a w) : wpSeg P ops C Q [.sq os false] a w := by
  unfold wpSeg
  have e : (fun a' w' => (false = true → C w') ∧ wpSeg P ops C Q [] a' w') = Q .normal := by
    funext a' w'
    simp [wpSeg]
  rw [e, exit_then_self]
  exact h

end
end Go.Proofs.YtfedgcdkagngnaaGreat

/- nvm: Dirty, Crash. -/
namespace Go.Proofs.YtfedgcdkagngnaaGreat
open Go.RowKit
set_option linter.unusedVariables false

theorem elInt : Elem Tryz.prog 26 3 (.int .i64 0) 1 8 := Elem.mk' Tryz.underlying26 (by kernel_rfl) rfl (by decide)
abbrev vi (n : Nat) : Value := .int .i64 (n : Int)

structure Dev.wf (S : Dev) : Prop where
  lenL : S.lasting.length = S.cache.length
  lenF : S.flushed.length = S.cache.length
  lenP : S.pending.length = S.dirty.length
  lenD : S.cache.length = 8 * S.dirty.length
  small : S.cache.length ≤ 1000000
  u64L : ∀ z ∈ S.lasting, z < 18446744073709551616
  u64C : ∀ z ∈ S.cache, z < 18446744073709551616
  u64F : ∀ z ∈ S.flushed, z < 18446744073709551616
theorem DevAt.wf {w : World} {F : Foot} {S : Dev} (h : DevAt w F S) : S.wf := ⟨h.lenL, h.lenF, h.lenP, h.lenD, h.small, h.u64L, h.u64C, h.u64F⟩

end Go.Proofs.YtfedgcdkagngnaaGreat

/- bitmap: All, List: a range over a function. -/
namespace Go.Proofs.YtfedgcdkagngnaaGreat
open Go.RowKit Go.Shelf
set_option linter.unusedVariables false

attribute [local go_sem] Oper.semAt_some

theorem onesF_next {l : List Bool} {a : Nat} : onesF l a = match nextB l a with | some i => i :: onesF l (i + 1) | none => [] := by
  cases h : nextB l a with
  | none => exact onesF_none h
  | some i => exact onesF_step h

/-- All that has come, and what is still to come. -/
def Coming (l : List Bool) (pre : List Nat) (o : Option Nat) : Prop := onesL l = pre ++ (match o with | some i => i :: onesF l (i + 1) | none => [])

theorem Coming.start (l : List Bool) : Coming l [] (nextB l 0) := by unfold Coming; rw [List.nil_append, ← onesF_zero]; exact onesF_next
theorem Coming.next {l : List Bool} {pre : List Nat} {i : Nat} (h : Coming l pre (some i)) : Coming l (pre ++ [i]) (nextB l (i + 1)) := by
  unfold Coming at h ⊢
  rw [h, ← onesF_next]; simp
theorem Coming.done {l : List Bool} {pre : List Nat} (h : Coming l pre none) : pre = onesL l := by unfold Coming at h; simpa using h.symm
theorem Coming.lt {l : List Bool} {pre : List Nat} {i : Nat} (h : Coming l pre (some i)) : pre.length < (onesL l).length := by unfold Coming at h; rw [h]; simp
theorem Coming.pre {l : List Bool} {pre : List Nat} {i : Nat} (h : Coming l pre (some i)) : pre ++ [i] <+: onesL l := by unfold Coming at h; rw [h]; exact ⟨onesF l (i + 1), by simp⟩
theorem Coming.in_ {l : List Bool} {pre : List Nat} {i : Nat} (h : Coming l pre (some i)) : i < l.length := by
  have : i ∈ onesL l := by unfold Coming at h; rw [h]; simp
  unfold onesL at this
  exact List.mem_range.1 (List.mem_filter.1 this).1
theorem nextV_eq (o : Option Nat) : nextV o = .tuple #[.int .i64 ((o.getD 0 : Nat) : Int), .bool o.isSome] := by cases o <;> rfl
/-- How much is left: read off the slots. -/
def leftB (n : Nat) (v b : Value) : Nat := match b with
  | .bool true => n + 1 - (intOf v).toNat
  | _ => 0
theorem leftB_next {l : List Bool} {pre : List Nat} {i : Nat} (h : Coming l pre (some i)) : leftB l.length (.int .i64 (((nextB l (i + 1)).getD 0 : Nat) : Int)) (.bool (nextB l (i + 1)).isSome) < leftB l.length (.int .i64 (i : Int)) (.bool true) := by
  have hi := h.in_
  cases ho : nextB l (i + 1) with
  | none => simp [leftB, intOf]; omega
  | some j =>
    have := nextB_is ho
    simp [leftB, intOf]; omega

/-- What a round keeps: whatever lay below, and a box. -/
def KpB (n₀ Bn : Nat) (A B : World) : Prop := Below n₀ A B ∧ B.heap[Bn]? = A.heap[Bn]?
theorem KpB.trans {n₀ Bn : Nat} {A B C : World} (h : KpB n₀ Bn A B) (k : KpB n₀ Bn B C) : KpB n₀ Bn A C := ⟨h.1.trans k.1, k.2.trans h.2⟩
theorem KpB.book {n₀ Bn : Nat} {w : World} (hn : n₀ ≤ w.heap.size) (hB : Bn < w.heap.size) (W : World) (l : Nat) (o o' : Obj) (hl : w.heap.size ≤ l) (h : W.heap[l]? = some o) (h1 : o.isCells = false) (h2 : o.isWalk = false) : KpB n₀ Bn W (W.putObj l o') :=
  ⟨belowK_b hn W l o o' hl h h1 h2, World.putObj_heap_other (by omega)⟩

set_option maxRecDepth 100000 in
set_option maxHeartbeats 2000000 in
theorem sall1_in {X : SetF} {l : List Bool} (n : Nat) (hn : 1 ≤ n) (lp Bn n₀ : Nat) (J Jx : List Nat → World → Prop)
    (hY : ∀ pre (x : Nat) W, J pre W → pre.length < (onesL l).length → YieldAt Fence.wide (n - 1) Tryz.prog lp #[.int .i64 (x : Int)] W fun e W' =>
      (e = .returned (.bool true) ∧ J (pre ++ [x]) W' ∧ KpB n₀ Bn W W') ∨ (e = .returned (.bool false) ∧ Jx (pre ++ [x]) W'))
    (W : World) (hBn : Boxed W Bn 43 (vset X)) (hS : SetAt W X l) (hX : ∀ k ∈ X.list, k < n₀) (h0 : J [] W) :
    CallsIn Fence.wide n Tryz.prog 179 #[.func (.yield lp) #[] #[], .pointer (some ⟨Bn, 0, none⟩)] W fun e W' => (∃ v, e = .returned v) ∧
      ((∃ ys, ys = onesL l ∧ J ys W') ∨ (∃ pre, pre <+: onesL l ∧ Jx pre W')) := by
  have HS := Lib.hid hS
  refine callsIn_of_wp Tryz.func179 rfl trivial ?_ rfl
  simp only [Tryz.ntmps179, List.size_toArray, List.length_cons, List.length_nil, Nat.reduceAdd, Nat.reduceSub, Array.replicate_succ, Array.replicate_zero, List.push_toArray, List.append_toArray, List.nil_append, List.cons_append]
  have HN0 := Lib.hid (snext_any hS 0)
  rw [show (0 : Int).toNat = 0 from rfl, nextV_eq] at HN0
  have HC0 := Lib.hid (Coming.start l)
  generalize nextB l 0 = o0 at *
  have hc0 := hBn.cell
  clear hS
  gi_wp2_with (refine ⟨trivial, ?_⟩; gi_at_call 166; refine (callsIn_wide.2 HN0.out).mono ?_; rintro e w1 ⟨rfl, rfl⟩)
  gi_loopw [3, 4] (fun v b wr => ∃ (pre : List Nat) (o : Option Nat), v = .int .i64 ((o.getD 0 : Nat) : Int) ∧ b = .bool o.isSome ∧ Hid (Coming l pre o) ∧ Hid (SetAt wr X l) ∧ Boxed wr Bn 43 (vset X) ∧ J pre wr) (fun v b _ => leftB l.length v b)
  case atStart => exact ⟨[], o0, rfl, rfl, HC0, HS, hBn, h0⟩
  case round =>
    clear HN0 hBn h0 HS HC0 hc0
    obtain ⟨pre, o, rfl, rfl, HC, HS, hBn, hJ⟩ := hrel
    cases o with
    | none =>
      simp only [Option.isSome_none, Option.getD_none]
      gi_wp2
      go_end0
      exact ⟨⟨_, rfl⟩, .inl ⟨pre, HC.out.done, hJ⟩⟩
    | some i =>
      simp only [Option.isSome_some, Option.getD_some]
      obtain ⟨fn, tmps, assign, body, hy, hR⟩ := hY pre i wr hJ HC.out.lt
      gi_wp2
      refine hR.mono ?_
      rintro e W3 (⟨rfl, hJ3, hk3⟩ | ⟨rfl, hJx3⟩)
      · have hBn3 : Boxed W3 Bn 43 (vset X) := hk3.2.trans hBn
        have hc3 := hBn3.cell
        have HS3 := Lib.hid (HS.out.keep (fun k hk => hk3.1.block k (hX k hk)))
        have HN := Lib.hid (snext_any HS3.out ((i : Int) + 1))
        rw [show ((i : Int) + 1).toNat = i + 1 by omega, nextV_eq] at HN
        have HL := Lib.hid (leftB_next HC.out)
        have HC3 := Lib.hid HC.out.next
        have hil := HC.out.in_
        have hls := HS.out.small
        clear hk3 hy hR
        generalize nextB l (i + 1) = o at *
        gi_wp2_with (refine ⟨trivial, ?_⟩; gi_at_call 166; refine (callsIn_wide.2 HN.out).mono ?_; rintro e w1 ⟨rfl, rfl⟩)
        go_roundw
        case rel => exact ⟨pre ++ [i], o, rfl, rfl, HC3, HS3, hBn3, hJ3⟩
        case measure => exact HL.out
      · gi_wp2
        refine bodyPost_ret (results_none rfl _ _ _) rfl ?_
        exact ⟨⟨_, rfl⟩, .inr ⟨pre ++ [i], HC.out.pre, hJx3⟩⟩

set_option maxHeartbeats 1000000 in
theorem sall_in (X : SetF) (n : Nat) (w : World) :
    CallsIn Fence.wide n Tryz.prog 127 #[vset X] w fun e w' => e = .returned (.func (.func 179) #[] #[.pointer (some ⟨w.heap.size, 0, none⟩)]) ∧ w' = w.alloc (.cells #[vset X] 43) := by
  refine callsIn_of_wp Tryz.func127 rfl trivial ?_ rfl
  simp only [Tryz.ntmps127, List.size_toArray, List.length_cons, List.length_nil, Nat.reduceAdd, Nat.reduceSub, Array.replicate_succ, Array.replicate_zero, List.push_toArray, List.append_toArray, List.nil_append, List.cons_append]
  gi_wp2
  go_ret
  exact ⟨rfl, rfl⟩

theorem sall_stops {X : SetF} {l : List Bool} (n : Nat) (hn : 1 ≤ n) (Bn n₀ : Nat) (w : World) (hn₀ : n₀ ≤ w.heap.size) (hc : Boxed w Bn 43 (vset X)) (hS : SetAt w X l) (hX : ∀ k ∈ X.list, k < n₀) :
    SeqStopsK Fence.wide n Tryz.prog 179 #[.pointer (some ⟨Bn, 0, none⟩)] (fun x : Nat => #[Value.int .i64 (x : Int)]) (KpB n₀ Bn) (fun ys => ys = onesL l) (fun pre => pre <+: onesL l) (onesL l).length w := fun lp J Jx W hW _ _ hY h0 =>
  sall1_in n hn lp Bn n₀ J Jx hY W ((hW.block Bn hc.lt).trans hc) (hS.below hW) hX h0

theorem infoInt : (Tryz.prog.info? 3).map (fun i => (i.zero, i.size, i.bytes)) = some (some (.int .i64 0), 1, 8) := by kernel_rfl

/-- A list in memory of its own. -/
def ListPost (w : World) (xs : List Nat) : Ending → World → Prop := fun e w' => ∃ v, e = .returned v ∧ w'.ownsRow w.heap.size 3 1 v xs.length (xs.map vi) ∧ (v = .slice none 0 0 ↔ xs = []) ∧ Below w.heap.size w w'

set_option maxRecDepth 100000 in
set_option maxHeartbeats 2000000 in
theorem slist_any {w : World} {X : SetF} {l : List Bool} (h : SetAt w X l) : Calls Tryz.prog 98 #[vset X] w (ListPost w (onesL l)) := by
  have hlen : (onesL l).length ≤ 1000000 := by rw [onesL_length]; exact Nat.le_trans (count_le_len l) h.small
  obtain ⟨i0, hi, hz0, hz1, hz2⟩ := info_parts infoInt
  refine (callsIn_wide (n := 5)).1 ?_
  refine callsIn_of_wp_marks Tryz.func98 rfl trivial ?_ rfl
  simp only [Tryz.ntmps98, List.size_toArray, List.length_cons, List.length_nil, Nat.reduceAdd, Nat.reduceSub, Array.replicate_succ, Array.replicate_zero, List.push_toArray, List.append_toArray, List.nil_append, List.cons_append]
  gi_wp2_with (refine ⟨trivial, ?_⟩; gi_at_call 127; refine (sall_in X _ _).mono ?_; rintro e w' ⟨rfl, rfl⟩)
  have bO := Boxed.new w 26 (.slice none 0 0)
  have bN := Boxed.new (w.alloc (.cells #[.slice none 0 0] 26)) 43 (vset X)
  rw [World.size_alloc] at bN
  have hB0 : Below w.heap.size w ((w.alloc (.cells #[.slice none 0 0] 26)).alloc (.cells #[vset X] 43)) := ((Below.refl _ w).alloc (Nat.le_refl _) _).alloc (by simp) _
  refine wpIn_rangeFunc_ownG rfl (by omega) (gf := 179) (lb := #[.pointer (some ⟨w.heap.size + 1, 0, none⟩)]) rfl trivial (enters_of Tryz.func179 (by kernel_rfl) rfl)
    (sall_stops 4 (by omega) (w.heap.size + 1) w.heap.size _ (by simp; omega) bN (h.below hB0) h.mem) KpB.trans (KpB.book (by simp; omega) (by simp)) (Below.refl _ _) (fun _ => rfl)
    (fun pre W => (∃ v, Boxed W w.heap.size 26 v ∧ W.ownsRow w.heap.size 3 1 v pre.length (pre.map vi) ∧ (v = .slice none 0 0 ↔ pre = [])) ∧ Boxed W (w.heap.size + 1) 43 (vset X) ∧ Below w.heap.size w W)
    (fun _ _ _ => False)
    (OwnFrom.and (Own.from (holdsRow_own w.heap.size w.heap.size 26 3 1 (fun pre : List Nat => pre.length) (fun pre => pre.map vi) (fun pre v => v = .slice none 0 0 ↔ pre = [])) _) (OwnFrom.and (Own.from (boxed_own _ _ _) _) (ownFrom_below (Nat.le_refl _) (by simp; omega))))
    (fun _ _ _ _ _ hs _ _ => hs)
    ⟨⟨_, bO.alloc _, World.ownsRow_nil _ _ _ _, by simp⟩, bN, hB0⟩
    (fun x => { tmps := #[vset X, undef, .slice none 0 0, .pointer (some ⟨w.heap.size, 0, none⟩), .int .i64 (x : Int), vset X, .func (.func 179) #[] #[.pointer (some ⟨w.heap.size + 1, 0, none⟩)], .int .i64 (x : Int), undef, undef, undef, undef, undef], defers := [] }) ?assign ?body ?done ?stop
  case assign =>
    intro l x W K hK
    gi_wp2
    exact hK
  case body =>
    rintro l' pre x W ⟨⟨v, hv, hrow, hnil⟩, hX, hB⟩ hlt
    have hc := hv.cell
    gi_wp2_with (gi_at_builtin; refine wpListIn_append_own _ rfl _ _ 26 rfl w.heap.size 3 i0 (.int .i64 0) 1 8 Tryz.underlying26 hi hz0 hz1 hz2 rfl (by decide) _ _ _ rfl (hrow.alloc _) ⟨W.heap.size, 0, none⟩ 1 1 [.int .i64 (x : Int)] rfl rfl (cell_one_new _ _ _) (by simp [Value.oneCell']) (by have : maxLen = 9223372036854775807 := rfl; omega) (by omega) (by have := hB.size; simp; omega) ?_; intro v' w1 hown' hgrow _; obtain ⟨g', cap', rfl⟩ := ownsRow_succ hown'; obtain ⟨hv1, hv2, hr2, hk2, hb2⟩ := hv.appended (by decide) hrow hB.size (Nat.le_refl _) hown' hgrow; have hc1 := hv1.cell; have hf1 := hv1.frozen)
    have hX2 := Boxed.other ((hX.alloc _).kept hgrow (hX.not_row (by decide) hrow)) (show w.heap.size + 1 ≠ w.heap.size by omega) (Value.slice (some ⟨g', 0, none⟩) (pre.length + 1) cap')
    exact ⟨hk2.from _, ⟨hb2, hX2.trans hX.symm⟩, ⟨_, hv2, by simpa using hr2, by simp⟩, hX2, hB.trans hb2⟩
  case done =>
    rintro D ys W hD rfl ⟨⟨v, hv, hrow, hnil⟩, _, hB⟩ hK
    have hc := hv.cell
    gi_wp2
    refine ⟨by simp, .inl ⟨_, _, rfl, run_takeDeferred hK, ?_⟩⟩
    exact ⟨_, results_tmp rfl _ _ _, v, rfl, ownsRow_putObj hrow _ hK rfl, hnil, hB.trans (belowK_b (w := w) (Nat.le_refl _) W D _ _ (by simp at hD; omega) hK rfl rfl)⟩
  case stop =>
    rintro D c pre W _ _ h _
    exact h.elim

end Go.Proofs.YtfedgcdkagngnaaGreat

/- Maps whose elements are any values (slices), keyed by whatever is keyed: one fact for the block, and the laws at the operations. -/
namespace Go.Proofs.YtfedgcdkagngnaaGreat
open Go.Maps Go.ChangeMaps
set_option linter.unusedVariables false

/-- An element reads as itself. -/
def rawElem (v : Value) : Option (DataW Value × List MemPlace) := some (.held v, [])

open Classical in
/-- One entry is another one. -/
noncomputable def putL (M : Lit → Option Value) (x : Lit) (v : Option Value) : Lit → Option Value := fun y => if y = x then v else M y
theorem putL_same (M : Lit → Option Value) (x : Lit) (v : Option Value) : putL M x v x = v := by unfold putL; rw [if_pos rfl]
theorem putL_other (M : Lit → Option Value) {x y : Lit} (h : y ≠ x) (v : Option Value) : putL M x v y = M y := by unfold putL; rw [if_neg h]

/-- The datum of a map tells M. -/
structure TellsV (D : DataW Value) (M : Lit → Option Value) : Prop where
  isMap : IsMap D
  has : ∀ x, WideAt.IsKeyLit x → has D x = (M x).isSome
  val : ∀ x v, WideAt.IsKeyLit x → M x = some v → ∀ z, D.atKey x z = .held v

theorem TellsV.get {D : DataW Value} {M : Lit → Option Value} (h : TellsV D M) {x : Lit} (hx : WideAt.IsKeyLit x) (z : Value) : D.atKey x (.held z) = .held ((M x).getD z) := by
  cases hm : M x with
  | none => rw [atKey_of_not_has (by rw [h.has x hx, hm]; rfl)]; rfl
  | some c => rw [h.val x c hx hm]; rfl
theorem tellsV_nil : TellsV (.map []) fun _ => none := ⟨isMap_empty, fun _ _ => rfl, fun _ _ _ h => by cases h⟩
theorem TellsV.put {D : DataW Value} {M : Lit → Option Value} (h : TellsV D M) {x : Lit} (hx : WideAt.IsKeyLit x) (v : Value) :
    TellsV (D.put x (.held v)) (putL M x (some v)) := by
  refine ⟨h.isMap.put _ _, fun y hy => ?_, fun y d hy hd z => ?_⟩
  · by_cases e : y = x
    · subst e; rw [has_put_same h.isMap hx, putL_same]; rfl
    · rw [has_put_other e, putL_other _ e, h.has y hy]
  · by_cases e : y = x
    · subst e; rw [putL_same] at hd; cases hd; rw [atKey_put_same h.isMap hx]
    · rw [putL_other _ e] at hd; rw [atKey_put_other e, h.val y d hy hd]
theorem TellsV.del {D : DataW Value} {M : Lit → Option Value} (h : TellsV D M) (x : Lit) : TellsV (D.del x) (putL M x none) := by
  refine ⟨h.isMap.del _, fun y hy => ?_, fun y d hy hd z => ?_⟩
  · by_cases e : y = x
    · subst e; rw [has_del_same, putL_same]; rfl
    · rw [has_del_other e, putL_other _ e, h.has y hy]
  · by_cases e : y = x
    · subst e; rw [putL_same] at hd; cases hd
    · rw [putL_other _ e] at hd; rw [atKey_del_other e, h.val y d hy hd]

/-- Block b is a map of at most n entries: M. -/
def VMap (P : Program) (k : TypeId) (w : World) (b n : Nat) (M : Lit → Option Value) : Prop :=
  ∃ D : DataW Value, w.ownsMap P k rawElem b n D ∧ TellsV D M

section
variable {P : Program} {k e t : TypeId} {w : World} {b n : Nat} {M : Lit → Option Value} {ops : Array Oper} {rest : List Oper} {o : Oper} {a : Act} {Q : Exit → Act → World → Prop}

theorem VMap.mono {n' : Nat} (h : VMap P k w b n M) (hn : n ≤ n') : VMap P k w b n' M := by
  obtain ⟨D, ho, ht⟩ := h; exact ⟨D, ho.mono hn, ht⟩
theorem VMap.made (w : World) (P : Program) (k : TypeId) : VMap P k (w.alloc (.map #[] 0)) w.heap.size 0 fun _ => none :=
  ⟨.map [], World.ownsMap_made w P k _, tellsV_nil⟩
theorem VMap.block (h : VMap P k w b n M) {w' : World} (he : w'.heap[b]? = w.heap[b]?) : VMap P k w' b n M := by
  obtain ⟨D, ⟨es, clock, hb, F, hs, hD⟩, ht⟩ := h; exact ⟨D, ⟨es, clock, he.trans hb, F, hs, hD⟩, ht⟩

/-- What a look-up gives. -/
theorem VMap.look (K : Keyed P k) (ht : P.underlying t = some (.map k e)) {z : Value} (hz : (zeroValue e).run P w = .ok z w) (h : VMap P k w b n M) {key : Value} {kl : Lit} (hkey : keyOf P k key = some kl) :
    (Instr.lookup t (.map (some b)) key false).run P w = .ok ((M kl).getD z) w := by
  obtain ⟨D, ho, hT⟩ := h
  obtain ⟨v, ps, hrun, hv⟩ := ho.lookup K ht hz (zd := .held z) (zp := []) rfl hkey
  rw [hT.get (K.key hkey)] at hv
  have : v = (M kl).getD z := by
    simp only [rawElem, Option.some.injEq, Prod.mk.injEq, DataW.held.injEq] at hv
    exact hv.1
  rw [← this]; exact hrun

theorem wpList_vlook (hg : o.guard = none) (m x : Operand) (t : TypeId) (hop : o.op = Op.lookup t m x false)
    (k e : TypeId) (K : Keyed P k) (ht : P.underlying t = some (.map k e)) (z : Value) (hz : (zeroValue e).run P w = .ok z w) (b n : Nat) (M : Lit → Option Value)
    (hm : a.eval m = .map (some b)) (hown : VMap P k w b n M) (key : Value) (kl : Lit) (hx : a.eval x = key) (hkey : keyOf P k key = some kl)
    (hK : wpList P ops Q rest (a.put o.dst ((M kl).getD z)) w) :
    wpList P ops Q (o :: rest) a w := by
  refine wpList_plain hg fun K' hK' => ?_
  have hrun := hown.look K ht hz hkey
  unfold Oper.wp
  simp [execOp, hop, hm, hx, hrun, Result.andThen]
  exact hK' _ _ hK

theorem wpList_vstore (hg : o.guard = none) (m x v : Operand) (t : TypeId) (hop : o.op = Op.mapUpdate t m x v)
    (k e : TypeId) (K : Keyed P k) (ht : P.underlying t = some (.map k e)) (b n : Nat) (M : Lit → Option Value)
    (hm : a.eval m = .map (some b)) (hown : VMap P k w b n M) (hn : n < maxLen) (key val : Value) (kl : Lit) (hx : a.eval x = key) (hv : a.eval v = val) (hkey : keyOf P k key = some kl)
    (hK : ∀ w', VMap P k w' b (n + 1) (putL M kl (some val)) → w.grownBy w' (some b) → wpList P ops Q rest (a.put o.dst undef) w') :
    wpList P ops Q (o :: rest) a w := by
  obtain ⟨D, ho, hT⟩ := hown
  exact wpList_mapUpdate_own w hg m x v t hop k e K ht rawElem b n D hm ho hn key val kl hx hv hkey (.held val) [] rfl fun w' h1 h2 => hK w' ⟨_, h1, hT.put (K.key hkey) val⟩ h2

theorem wpList_vdelete (hg : o.guard = none) (m x : Operand) (t k : TypeId) (hop : o.op = Op.call { callee := Callee.builtin Builtin.delete, args := #[m, x], argTypes := #[t, k] })
    (e : TypeId) (K : Keyed P k) (ht : P.underlying t = some (.map k e)) (b n : Nat) (M : Lit → Option Value)
    (hm : a.eval m = .map (some b)) (hown : VMap P k w b n M) (key : Value) (kl : Lit) (hx : a.eval x = key) (hkey : keyOf P k key = some kl)
    (hK : ∀ w', VMap P k w' b n (putL M kl none) → w.grownBy w' (some b) → wpList P ops Q rest (a.put o.dst (.tuple #[])) w') :
    wpList P ops Q (o :: rest) a w := by
  obtain ⟨D, ho, hT⟩ := hown
  exact wpList_delete_own w hg m x t k hop e K ht rawElem b n D hm ho key kl hx hkey fun w' h1 h2 => hK w' ⟨_, h1, hT.del kl⟩ h2.grown
end

/-- A key of two numbers: its text. -/
def pairKey (a b : Int) : Lit := .string (keyBytes [.int .i64 a, .int .i64 b])

end Go.Proofs.YtfedgcdkagngnaaGreat

/- Plain: free cells, by classes, and those that mutators keep. -/
namespace Go.Proofs.YtfedgcdkagngnaaGreat
set_option linter.unusedVariables false

/-- All free cells. -/
structure FL where
  g : Nat → List Nat
  c : Nat → Nat → List Nat
def FL.empty : FL := ⟨fun _ => [], fun _ _ => []⟩
def FL.setG (S : FL) (k : Nat) (l : List Nat) : FL := ⟨fun j => if j = k then l else S.g j, S.c⟩
def FL.setC (S : FL) (m k : Nat) (l : List Nat) : FL := ⟨S.g, fun i j => if i = m ∧ j = k then l else S.c i j⟩
def FL.has (S : FL) (k a : Nat) : Bool := (S.g k).contains a || (S.c 0 k).contains a || (S.c 1 k).contains a || (S.c 2 k).contains a || (S.c 3 k).contains a
def FL.pushed (S : FL) (k a : Nat) : FL := if S.has k a then S else S.setG k (S.g k ++ [a])
/-- A mutator's own cells are filled from all. -/
def FL.fill (S : FL) (m k : Nat) : FL :=
  if S.c m k = [] then (S.setG k ((S.g k).take ((S.g k).length - min (S.g k).length 4))).setC m k ((S.g k).drop ((S.g k).length - min (S.g k).length 4)) else S
def FL.taken (S : FL) (m k : Nat) : FL := (S.fill m k).setC m k ((S.fill m k).c m k).dropLast
/-- The cell that is taken: none: there is no room. -/
def FL.cell (S : FL) (m k : Nat) : Option Nat := ((S.fill m k).c m k).getLast?

theorem FL.setG_g (S : FL) (k j : Nat) (l : List Nat) : (S.setG k l).g j = if j = k then l else S.g j := rfl
theorem FL.setG_c (S : FL) (k i j : Nat) (l : List Nat) : (S.setG k l).c i j = S.c i j := rfl
theorem FL.setC_g (S : FL) (m k j : Nat) (l : List Nat) : (S.setC m k l).g j = S.g j := rfl
theorem FL.setC_c (S : FL) (m k i j : Nat) (l : List Nat) : (S.setC m k l).c i j = if i = m ∧ j = k then l else S.c i j := rfl

/-- A block's cells that aren't in use are free, the last one first. -/
def FL.carve (S : FL) (used : Nat → Bool) (at_ : Nat → Nat) (k : Nat) : Nat → FL
  | 0 => S
  | n + 1 => (if used (at_ n) then S else S.pushed k (at_ n)).carve used at_ k n

end Go.Proofs.YtfedgcdkagngnaaGreat
