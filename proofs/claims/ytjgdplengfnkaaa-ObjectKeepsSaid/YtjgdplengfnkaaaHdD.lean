/- The reference's headers of blocks. -/
import Derived.Test.YtjgdplengfnkaaaHdC
namespace Go.Proofs.Ytjgdplengfnkaaa
open Go.RowKit
set_option linter.unusedVariables false

set_option maxHeartbeats 1000000 in
theorem rhright_any (k c l : Int) (w : World) : Calls Try.prog 79 #[vhd k c l] w fun e w' => e = .returned (.bool (hdRight k c l)) ∧ Below w.heap.size w w' := by
  have HB := Lib.hid (below_alloc w)
  go_enter Try.func79, Try.ntmps79
  go_wp2_with fail
  all_goals
    go_ret
    refine ⟨ret_bool ?_, HB.out _⟩
    clear HB
    simp only [beq_iff_eq, beq_eq_false_iff_ne] at *
    first
      | exact hdR_t (by unfold HdRight; omega)
      | exact hdR_f (by unfold HdRight; omega)
      | (by_cases hl : l ≤ 255
         · exact (decide_eq_true hl).trans (hdR_t (by unfold HdRight; omega))
         · exact (decide_eq_false hl).trans (hdR_f (by unfold HdRight; omega)))
      | (by_cases hl : l = 0
         · exact (beq_iff_eq.2 hl).trans (hdR_t (by unfold HdRight; omega))
         · exact (beq_eq_false_iff_ne.2 hl).trans (hdR_f (by unfold HdRight; omega)))

set_option maxHeartbeats 1000000 in
theorem rencode_any (b k c l : Int) (hb0 : 0 ≤ b) (hb1 : b ≤ 1000000) (w : World) : Calls Try.prog 78 #[.int .i64 b, vhd k c l] w fun e w' => e = .returned (vu64 (encN b k c l)) ∧ Below w.heap.size w w' := by
  have hb := below_alloc w (Obj.cells #[Value.int .i64 k, Value.int .i64 c, Value.int .i64 l] 46)
  have hg := heap_alloc_new w (Obj.cells #[Value.int .i64 k, Value.int .i64 c, Value.int .i64 l] 46)
  go_enter Try.func78, Try.ntmps78
  go_wp2_with fail
  generalize w.alloc (Obj.cells #[Value.int .i64 k, Value.int .i64 c, Value.int .i64 l] 46) = w0 at *
  refine (rhright_any k c l w0).mono ?_
  rintro e w1 ⟨rfl, hb1⟩
  have hgl : w.heap.size < w0.heap.size := (Array.getElem?_eq_some_iff.1 hg).1
  have hbb := hb.trans (hb1.mono hb.size)
  have hg1 : w1.heap[w.heap.size]? = _ := (hb1.block _ hgl).trans hg
  have c0 : w1.cell? ⟨w.heap.size, 0, none⟩ = some (.int .i64 k) := cell_of_row _ _ 0 _ _ _ hg1
  have c1 : w1.cell? ⟨w.heap.size, 1, none⟩ = some (.int .i64 c) := cell_of_row _ _ 1 _ _ _ hg1
  have c2 : w1.cell? ⟨w.heap.size, 2, none⟩ = some (.int .i64 l) := cell_of_row _ _ 2 _ _ _ hg1
  clear hb hb1 hg hgl hg1
  cases hr : hdRight k c l
  · have HE : Hid (encN b k c l = 0) := Lib.hid (by unfold encN; rw [hr]; rfl)
    clear hr
    go_wp2_with fail
    go_ret
    exact ⟨ret_int (by rw [HE.out]; rfl), hbb⟩
  · have HE : Hid (encN b k c l = sealN (hdN k c l) (pl (256 + b))) := Lib.hid (by unfold encN; rw [hr]; rfl)
    have hn := hdN_lt hr
    obtain ⟨⟨k0, k1⟩, ⟨c0', c1'⟩, l0, l1⟩ := hd_small hr
    have HN : Hid (k + 4 * c + 256 * l = (hdN k c l : Int)) := Lib.hid (by unfold hdN; omega)
    clear hr
    generalize hdN k c l = n at *
    go_wp2_with fail
    rw [HN.out]
    refine (rseal_any n _ hn _).mono ?_
    rintro e w2 ⟨rfl, hb2⟩
    rw [← HE.out]
    go_wp2_with fail
    go_ret
    exact ⟨rfl, hbb.trans (hb2.mono hbb.size)⟩

set_option maxHeartbeats 1000000 in
theorem rdecode_any (b : Int) (x : Nat) (hb0 : 0 ≤ b) (hb1' : b ≤ 1000000) (hx : x < 18446744073709551616) (w : World) :
    Calls Try.prog 56 #[.int .i64 b, vu64 x] w fun e w' => e = .returned (decN b x).val ∧ Below w.heap.size w w' := by
  have hbA := below_alloc w (Obj.cells #[Value.int .i64 0, Value.int .i64 0, Value.int .i64 0] 46)
  have hg := heap_alloc_new w (Obj.cells #[Value.int .i64 0, Value.int .i64 0, Value.int .i64 0] 46)
  go_enter Try.func56, Try.ntmps56
  go_wp2_with fail
  generalize w.alloc (Obj.cells #[Value.int .i64 0, Value.int .i64 0, Value.int .i64 0] 46) = w0 at *
  refine (ropen_any x _ hx w0).mono ?_
  rintro e w1 ⟨rfl, hbo⟩
  have hgl : w.heap.size < w0.heap.size := (Array.getElem?_eq_some_iff.1 hg).1
  have hbb := hbA.trans (hbo.mono hbA.size)
  have hg1 : w1.heap[w.heap.size]? = _ := (hbo.block _ hgl).trans hg
  clear hbA hbo hg hgl
  cases ho : openN x (pl (256 + b)) with
  | none =>
    have HV := Lib.hid (decN_none ho)
    clear ho
    simp only [openV]
    go_wp2_with (refine wpList_store_row (cs := #[.int .i64 0, .int .i64 0, .int .i64 0]) aggRh hg1 rfl rfl (by simp [Value.oneCell']) rfl rfl rfl rfl ?_; intro w2 hg2 hgr2 hs2)
    refine bodyPost_ret (results_cell_row2 (p := 4) (u := 5) rfl _ _ _ _ _ _ _ rfl hg2 Try.underlying46 rfl (by kernel_rfl)) rfl ⟨by rw [HV.out]; rfl, ?_⟩
    exact hbb.grown hgr2 hbb.size (fun k e => by cases e; omega)
  | some n =>
    obtain ⟨hn, -⟩ := openN_some ho
    have HK := Lib.hid (decN_ok ho)
    have HRr := Lib.hid (fun he => enc_right (b := b) ho he)
    have HL := Lib.hid (decN_bad ho)
    clear ho
    simp only [openV]
    obtain ⟨h4, h64, h6⟩ := bits_sum n
    go_wp2_with fail
    rw [show (n : Int) % 4 = ((n % 4 : Nat) : Int) by omega, show (n : Int) / 4 % 64 = ((n / 4 % 64 : Nat) : Int) by omega, show (n : Int) / 256 % 65536 = ((n / 256 % 65536 : Nat) : Int) by omega]
    generalize n % 4 = k at *
    generalize n / 4 % 64 = c at *
    generalize n / 256 % 65536 = l at *
    have hb1 := below_alloc w1 (Obj.cells #[Value.int .i64 (k : Int), Value.int .i64 (c : Int), Value.int .i64 (l : Int)] 46)
    have hg2 := heap_alloc_new w1 (Obj.cells #[Value.int .i64 (k : Int), Value.int .i64 (c : Int), Value.int .i64 (l : Int)] 46)
    generalize w1.alloc (Obj.cells #[Value.int .i64 (k : Int), Value.int .i64 (c : Int), Value.int .i64 (l : Int)] 46) = w2 at *
    refine (rencode_any b k c l hb0 hb1' w2).mono ?_
    rintro e w3 ⟨rfl, hb3⟩
    have hgl : w.heap.size < w1.heap.size := (Array.getElem?_eq_some_iff.1 hg1).1
    have hgl2 : w1.heap.size < w2.heap.size := (Array.getElem?_eq_some_iff.1 hg2).1
    have hb3' := hbb.trans ((hb1.trans (hb3.mono hb1.size)).mono hbb.size)
    have hg3 : w3.heap[w.heap.size]? = _ := (hb3.block _ (by omega)).trans ((hb1.block _ hgl).trans hg1)
    have hg4 : w3.heap[w1.heap.size]? = _ := (hb3.block _ hgl2).trans hg2
    have he := encN_lt b k c l
    clear hb1 hb3 hg1 hg2 hbb
    generalize encN b k c l = y at *
    by_cases hyx : y = x
    · have HV := Lib.hid (HK.out hyx)
      have hrt := HRr.out hyx
      subst hyx
      have d0 : w3.cell? ⟨w1.heap.size, 0, none⟩ = some (.int .i64 k) := cell_of_row _ _ 0 _ _ _ hg4
      have d1 : w3.cell? ⟨w1.heap.size, 1, none⟩ = some (.int .i64 c) := cell_of_row _ _ 1 _ _ _ hg4
      have d2 : w3.cell? ⟨w1.heap.size, 2, none⟩ = some (.int .i64 l) := cell_of_row _ _ 2 _ _ _ hg4
      go_wp2_with fail
      refine (rhright_any k c l w3).mono ?_
      rintro e w5 ⟨rfl, hb5⟩
      have hb5' := hb3'.trans (hb5.mono hb3'.size)
      have hg3' : w5.heap[w.heap.size]? = _ := (hb5.block _ (Array.getElem?_eq_some_iff.1 hg3).1).trans hg3
      have hg4' : w5.heap[w1.heap.size]? = _ := (hb5.block _ (Array.getElem?_eq_some_iff.1 hg4).1).trans hg4
      have d0 : w5.cell? ⟨w1.heap.size, 0, none⟩ = some (.int .i64 k) := cell_of_row _ _ 0 _ _ _ hg4'
      have d1 : w5.cell? ⟨w1.heap.size, 1, none⟩ = some (.int .i64 c) := cell_of_row _ _ 1 _ _ _ hg4'
      have d2 : w5.cell? ⟨w1.heap.size, 2, none⟩ = some (.int .i64 l) := cell_of_row _ _ 2 _ _ _ hg4'
      rw [hrt]
      clear hb5 hg3 hg4 hrt HRr HK HL
      go_wp2_with (refine wpList_store_row (cs := #[.int .i64 k, .int .i64 c, .int .i64 l]) aggRh hg3' rfl rfl (by simp [Value.oneCell']) rfl rfl rfl rfl ?_; intro w4 hg5 hgr4 hs4)
      refine bodyPost_ret (results_cell_row2 (p := 4) (u := 5) rfl _ _ _ _ _ _ _ rfl hg5 Try.underlying46 rfl (by kernel_rfl)) rfl ⟨by rw [HV.out]; rfl, ?_⟩
      exact hb5'.grown hgr4 hb5'.size (fun k e => by cases e; omega)
    · have HV := Lib.hid (HL.out hyx)
      have hne : ¬ ((y : Int) = (x : Int)) := by omega
      clear hyx
      go_wp2_with (refine wpList_store_row (cs := #[.int .i64 0, .int .i64 0, .int .i64 0]) aggRh hg3 rfl rfl (by simp [Value.oneCell']) rfl rfl rfl rfl ?_; intro w4 hg5 hgr4 hs4)
      refine bodyPost_ret (results_cell_row2 (p := 4) (u := 5) rfl _ _ _ _ _ _ _ rfl hg5 Try.underlying46 rfl (by kernel_rfl)) rfl ⟨by rw [HV.out]; rfl, ?_⟩
      exact hb3'.grown hgr4 hb3'.size (fun k e => by cases e; omega)

end Go.Proofs.Ytjgdplengfnkaaa
