/- Headers of blocks: their words; the reference's. -/
import Derived.Test.YtjgdplengfnkaaaBt
import Derived.Test.YtjgdplengfnkaaaCs
import Derived.Test.YtjgdplengfnkaaaReg
namespace Go.Proofs.Ytjgdplengfnkaaa
open Go.RowKit
set_option linter.unusedVariables false

/-- May a header be? -/
def HdRight (k c l : Int) : Prop := (k = 0 ∧ c = 0 ∧ l = 0) ∨ (k = 1 ∧ (0 ≤ c ∧ c < 32) ∧ l = 0) ∨ ((k = 2 ∨ k = 3) ∧ c = 0 ∧ 1 ≤ l ∧ l < 256)
instance (k c l : Int) : Decidable (HdRight k c l) := by unfold HdRight; infer_instance
def hdRight (k c l : Int) : Bool := decide (HdRight k c l)

abbrev vhd (k c l : Int) : Value := .agg #[.int .i64 k, .int .i64 c, .int .i64 l]

theorem hdR_t {k c l : Int} (h : HdRight k c l) : true = hdRight k c l := (decide_eq_true h).symm
theorem hdR_f {k c l : Int} (h : ¬ HdRight k c l) : false = hdRight k c l := (decide_eq_false h).symm

set_option maxHeartbeats 1000000 in
theorem bright_any (k c l : Int) (w : World) : Calls Try.prog 66 #[vhd k c l] w fun e w' => e = .returned (.bool (hdRight k c l)) ∧ Below w.heap.size w w' := by
  have HB := Lib.hid (below_alloc w)
  by_cases h1 : k = 1
  · subst h1
    have HR : Hid (hdRight 1 c l = (decide (0 ≤ c ∧ c < 32) && decide (l = 0))) := Lib.hid (by unfold hdRight HdRight; simp)
    go_enter Try.func66, Try.ntmps66
    go_wp2_with fail
    refine (cright_any _ _).mono ?_
    rintro e w1 ⟨rfl, rfl⟩
    by_cases hc : 0 ≤ c ∧ c < 32
    · rw [decide_eq_true hc] at HR ⊢
      clear hc
      go_wp2_with fail
      all_goals
        go_ret
        exact ⟨ret_bool (by rw [HR.out]; rw [Bool.eq_iff_iff]; simp [*]), HB.out _⟩
    · rw [decide_eq_false hc] at HR ⊢
      clear hc
      go_wp2_with fail
      all_goals
        go_ret
        exact ⟨ret_bool (by rw [HR.out]; rw [Bool.eq_iff_iff]; simp [*]), HB.out _⟩
  go_enter Try.func66, Try.ntmps66
  go_wp2_with fail
  all_goals
    go_ret
    refine ⟨ret_bool ?_, HB.out _⟩
    clear HB
    simp only [beq_iff_eq, beq_eq_false_iff_ne] at *
    first
      | exact hdR_t (by unfold HdRight; omega)
      | exact hdR_f (by unfold HdRight; omega)
      | (by_cases hl : l < 256
         · exact (decide_eq_true hl).trans (hdR_t (by unfold HdRight; omega))
         · exact (decide_eq_false hl).trans (hdR_f (by unfold HdRight; omega)))

/-- A header's number; its word. -/
def hdN (k c l : Int) : Nat := (k + 4 * c + 256 * l).toNat
def encN (b k c l : Int) : Nat := if hdRight k c l = true then sealN (hdN k c l) (pl (256 + b)) else 0

theorem hd_small {k c l : Int} (h : hdRight k c l = true) : (0 ≤ k ∧ k < 4) ∧ (0 ≤ c ∧ c < 64) ∧ (0 ≤ l ∧ l < 65536) := by
  have := of_decide_eq_true h
  unfold HdRight at this
  omega

theorem hdN_lt {k c l : Int} (h : hdRight k c l = true) : hdN k c l < 4294967296 := by
  have := hd_small h
  unfold hdN
  omega

theorem encN_lt (b k c l : Int) : encN b k c l < 18446744073709551616 := by
  unfold encN
  split
  · rename_i h; exact sealN_lt _ _ (hdN_lt h)
  · decide

set_option maxHeartbeats 1000000 in
theorem bencode_any (b k c l : Int) (hb0 : 0 ≤ b) (hb1 : b ≤ 1000000) (w : World) : Calls Try.prog 61 #[.int .i64 b, vhd k c l] w fun e w' => e = .returned (vu64 (encN b k c l)) ∧ Below w.heap.size w w' := by
  have hb := below_alloc w (Obj.cells #[Value.int .i64 k, Value.int .i64 c, Value.int .i64 l] 48)
  have hg := heap_alloc_new w (Obj.cells #[Value.int .i64 k, Value.int .i64 c, Value.int .i64 l] 48)
  go_enter Try.func61, Try.ntmps61
  go_wp2_with fail
  generalize w.alloc (Obj.cells #[Value.int .i64 k, Value.int .i64 c, Value.int .i64 l] 48) = w0 at *
  refine (bright_any k c l w0).mono ?_
  rintro e w1 ⟨rfl, hb1⟩
  have hgl : w.heap.size < w0.heap.size := (Array.getElem?_eq_some_iff.1 hg).1
  have hbb := hb.trans (hb1.mono hb.size)
  have hg1 : w1.heap[w.heap.size]? = _ := (hb1.block _ hgl).trans hg
  have c0 : w1.cell? ⟨w.heap.size, 0, none⟩ = some (.int .i64 k) := cell_of_row _ _ 0 _ _ _ hg1
  have c1 : w1.cell? ⟨w.heap.size, 1, none⟩ = some (.int .i64 c) := cell_of_row _ _ 1 _ _ _ hg1
  have c2 : w1.cell? ⟨w.heap.size, 2, none⟩ = some (.int .i64 l) := cell_of_row _ _ 2 _ _ _ hg1
  clear hb hb1 hg hgl hg1
  cases hr : hdRight k c l
  · have HE : Hid (encN b k c l = 0) := Lib.hid (by unfold encN; rw [hr]; rfl)
    clear hr
    go_wp2_with fail
    go_ret
    exact ⟨ret_int (by rw [HE.out]; rfl), hbb⟩
  · have HE : Hid (encN b k c l = sealN (hdN k c l) (pl (256 + b))) := Lib.hid (by unfold encN; rw [hr]; rfl)
    have hn := hdN_lt hr
    obtain ⟨⟨k0, k1⟩, ⟨c0', c1'⟩, l0, l1⟩ := hd_small hr
    have HN : Hid (hdN k c l = (k.toNat + c.toNat * 4 + l.toNat * 256)) := Lib.hid (by unfold hdN; omega)
    clear hr
    obtain ⟨k, rfl⟩ := Int.eq_ofNat_of_zero_le k0
    obtain ⟨c, rfl⟩ := Int.eq_ofNat_of_zero_le c0'
    obtain ⟨l, rfl⟩ := Int.eq_ofNat_of_zero_le l0
    simp only [Int.toNat_natCast] at HN
    have P0 : Hid (Calls Try.prog 91 #[vu64 0, .int .i64 0, .int .i64 2, vu64 k] w1 fun e w' => e = .returned (vu64 k) ∧ w1 = w') := Lib.hid (by have := put_any 0 0 2 k (by decide) (by omega) (by decide) (by decide) w1; simpa using this)
    have P1 : Hid (Calls Try.prog 91 #[vu64 k, .int .i64 2, .int .i64 6, vu64 c] w1 fun e w' => e = .returned (vu64 (k + c * 4)) ∧ w1 = w') := Lib.hid (put_any k 2 6 c (by omega) (by omega) (by decide) (by decide) w1)
    have P2 : Hid (Calls Try.prog 91 #[vu64 (k + c * 4), .int .i64 8, .int .i64 16, vu64 l] w1 fun e w' => e = .returned (vu64 (k + c * 4 + l * 256)) ∧ w1 = w') := Lib.hid (put_any (k + c * 4) 8 16 l (by omega) (by omega) (by decide) (by decide) w1)
    go_wp2_with fail
    refine P0.out.mono ?_
    rintro e w2 ⟨rfl, rfl⟩
    go_wp2_with fail
    refine P1.out.mono ?_
    rintro e w2 ⟨rfl, rfl⟩
    go_wp2_with fail
    refine P2.out.mono ?_
    rintro e w2 ⟨rfl, rfl⟩
    rw [← HN.out]
    generalize hdN (k : Int) (c : Int) (l : Int) = n at *
    clear P0 P1 P2
    go_wp2_with fail
    refine (seal_any n _ hn _).mono ?_
    rintro e w2 ⟨rfl, hb2⟩
    rw [← HE.out]
    go_wp2_with fail
    go_ret
    exact ⟨rfl, hbb.trans (hb2.mono hbb.size)⟩

end Go.Proofs.Ytjgdplengfnkaaa
