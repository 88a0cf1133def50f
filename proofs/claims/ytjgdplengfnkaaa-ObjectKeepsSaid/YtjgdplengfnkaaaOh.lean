/- ohead: Encode, Decode, Ptr, Data. -/
import Derived.Test.YtjgdplengfnkaaaHdB
import Derived.Test.YtjgdplengfnkaaaCz
namespace Go.Proofs.Ytjgdplengfnkaaa
open Go.RowKit
set_option linter.unusedVariables false

abbrev vob (p d : Int) : Value := .agg #[.int .i64 p, .int .i64 d]
/-- An object's number; its word. -/
def obN (p d : Int) : Nat := (165 + 256 * p + 16384 * d).toNat
def oencN (a p d : Int) : Nat := if objSize p d = 0 then 0 else sealN (obN p d) (pl a)

theorem obj_small {p d : Int} (h : objSize p d ≠ 0) : (0 ≤ p ∧ p < 64) ∧ (0 ≤ d ∧ d ≤ 16384) := by
  unfold objSize at h
  split at h
  · exact absurd rfl h
  · omega
theorem obN_lt {p d : Int} (h : objSize p d ≠ 0) : obN p d < 4294967296 := by
  have := obj_small h
  unfold obN
  omega
theorem oencN_lt (a p d : Int) : oencN a p d < 18446744073709551616 := by
  unfold oencN
  split
  · decide
  · rename_i h; exact sealN_lt _ _ (obN_lt h)

set_option maxHeartbeats 1000000 in
theorem oencode_any (a p d : Int) (w : World) : Calls Try.prog 68 #[vob p d, .int .i64 a] w fun e w' => e = .returned (vu64 (oencN a p d)) ∧ Below w.heap.size w w' := by
  have hb := below_alloc w (Obj.cells #[Value.int .i64 p, Value.int .i64 d] 73)
  have hg := heap_alloc_new w (Obj.cells #[Value.int .i64 p, Value.int .i64 d] 73)
  go_enter Try.func68, Try.ntmps68
  go_wp2_with fail
  generalize w.alloc (Obj.cells #[Value.int .i64 p, Value.int .i64 d] 73) = w0 at *
  refine (osize_any p d w0).mono ?_
  rintro e w1 ⟨rfl, hb1⟩
  have hgl : w.heap.size < w0.heap.size := (Array.getElem?_eq_some_iff.1 hg).1
  have hbb := hb.trans (hb1.mono hb.size)
  have hg1 : w1.heap[w.heap.size]? = _ := (hb1.block _ hgl).trans hg
  have c0 : w1.cell? ⟨w.heap.size, 0, none⟩ = some (.int .i64 p) := cell_of_row _ _ 0 _ _ _ hg1
  have c1 : w1.cell? ⟨w.heap.size, 1, none⟩ = some (.int .i64 d) := cell_of_row _ _ 1 _ _ _ hg1
  clear hb hb1 hg hgl hg1
  by_cases hr : objSize p d = 0
  · have HE : Hid (oencN a p d = 0) := Lib.hid (by unfold oencN; rw [if_pos hr])
    rw [hr]
    clear hr
    go_wp2_with fail
    go_ret
    exact ⟨ret_int (by rw [HE.out]; rfl), hbb⟩
  · have HE : Hid (oencN a p d = sealN (obN p d) (pl a)) := Lib.hid (by unfold oencN; rw [if_neg hr])
    have hn := obN_lt hr
    obtain ⟨⟨p0, p1⟩, d0, d1⟩ := obj_small hr
    have HN : Hid (obN p d = (165 + p.toNat * 256 + d.toNat * 16384)) := Lib.hid (by unfold obN; omega)
    have hz : (((objSize p d : Nat) : Int) == 0) = false := by simp; omega
    generalize objSize p d = sz at *
    clear hr
    obtain ⟨p, rfl⟩ := Int.eq_ofNat_of_zero_le p0
    obtain ⟨d, rfl⟩ := Int.eq_ofNat_of_zero_le d0
    simp only [Int.toNat_natCast] at HN
    have P1 : Hid (Calls Try.prog 91 #[vu64 165, .int .i64 8, .int .i64 6, vu64 p] w1 fun e w' => e = .returned (vu64 (165 + p * 256)) ∧ w1 = w') := Lib.hid (put_any 165 8 6 p (by omega) (by omega) (by decide) (by decide) w1)
    have P2 : Hid (Calls Try.prog 91 #[vu64 (165 + p * 256), .int .i64 14, .int .i64 15, vu64 d] w1 fun e w' => e = .returned (vu64 (165 + p * 256 + d * 16384)) ∧ w1 = w') := Lib.hid (put_any (165 + p * 256) 14 15 d (by omega) (by omega) (by decide) (by decide) w1)
    go_wp2_with fail
    refine P1.out.mono ?_
    rintro e w2 ⟨rfl, rfl⟩
    go_wp2_with fail
    refine P2.out.mono ?_
    rintro e w2 ⟨rfl, rfl⟩
    rw [← HN.out]
    generalize obN (p : Int) (d : Int) = n at *
    clear P1 P2
    go_wp2_with fail
    refine (seal_any n _ hn _).mono ?_
    rintro e w2 ⟨rfl, hb2⟩
    rw [← HE.out]
    go_wp2_with fail
    go_ret
    exact ⟨rfl, hbb.trans (hb2.mono hbb.size)⟩

theorem aggOb : Agg Try.prog 73 #[.int .i64 0, .int .i64 0] := ⟨⟨_, Try.underlying73, rfl⟩, by kernel_rfl⟩

/-- What a word is as an object's header: pointers, words of data, the error's number. -/
structure Odec where
  p : Int
  d : Int
  code : Int
def odecS (a : Int) (x n : Nat) : Odec := if oencN a (n / 256 % 64 : Nat) (n / 16384 % 32768 : Nat) = x then ⟨(n / 256 % 64 : Nat), (n / 16384 % 32768 : Nat), 0⟩ else ⟨0, 0, 26⟩
def odecN (a : Int) (x : Nat) : Odec := ((openN x (pl a)).map (odecS a x)).getD ⟨0, 0, 25⟩
def Odec.val (o : Odec) : Value := .tuple #[vob o.p o.d, .int .i64 o.code]

theorem odecN_none {a : Int} {x : Nat} (h : openN x (pl a) = none) : (odecN a x).val = .tuple #[vob 0 0, .int .i64 25] := by unfold odecN; rw [h]; rfl
theorem odecN_some {a : Int} {x n : Nat} (h : openN x (pl a) = some n) : odecN a x = odecS a x n := by unfold odecN; rw [h]; rfl
theorem odecN_ok {a : Int} {x n : Nat} (h : openN x (pl a) = some n) (he : oencN a (n / 256 % 64 : Nat) (n / 16384 % 32768 : Nat) = x) :
    (odecN a x).val = .tuple #[vob (n / 256 % 64 : Nat) (n / 16384 % 32768 : Nat), .int .i64 0] := by
  rw [odecN_some h, odecS, if_pos he]; rfl
theorem odecN_bad {a : Int} {x n : Nat} (h : openN x (pl a) = some n) (he : oencN a (n / 256 % 64 : Nat) (n / 16384 % 32768 : Nat) ≠ x) :
    (odecN a x).val = .tuple #[vob 0 0, .int .i64 26] := by
  rw [odecN_some h, odecS, if_neg he]; rfl

set_option maxHeartbeats 1000000 in
theorem odecode_any (a : Int) (x : Nat) (hx : x < 18446744073709551616) (w : World) :
    Calls Try.prog 72 #[.int .i64 a, vu64 x] w fun e w' => e = .returned (odecN a x).val ∧ Below w.heap.size w w' := by
  have hbA := below_alloc w (Obj.cells #[Value.int .i64 0, Value.int .i64 0] 73)
  have hg := heap_alloc_new w (Obj.cells #[Value.int .i64 0, Value.int .i64 0] 73)
  go_enter Try.func72, Try.ntmps72
  go_wp2_with fail
  generalize w.alloc (Obj.cells #[Value.int .i64 0, Value.int .i64 0] 73) = w0 at *
  refine (open_any x _ hx w0).mono ?_
  rintro e w1 ⟨rfl, hbo⟩
  have hgl : w.heap.size < w0.heap.size := (Array.getElem?_eq_some_iff.1 hg).1
  have hbb := hbA.trans (hbo.mono hbA.size)
  have hg1 : w1.heap[w.heap.size]? = _ := (hbo.block _ hgl).trans hg
  clear hbA hbo hg hgl
  cases ho : openN x (pl a) with
  | none =>
    have HV := Lib.hid (odecN_none ho)
    clear ho
    simp only [openV]
    go_wp2_with (refine wpList_store_row (cs := #[.int .i64 0, .int .i64 0]) aggOb hg1 rfl rfl (by simp [Value.oneCell']) rfl rfl rfl rfl ?_; intro w2 hg2 hgr2 hs2)
    refine bodyPost_ret (results_cell_row2 (p := 4) (u := 5) rfl _ _ _ _ _ _ _ rfl hg2 Try.underlying73 rfl (by kernel_rfl)) rfl ⟨by rw [HV.out]; rfl, ?_⟩
    exact hbb.grown hgr2 hbb.size (fun k e => by cases e; omega)
  | some n =>
    obtain ⟨hn, -⟩ := openN_some ho
    have HK := Lib.hid (odecN_ok ho)
    have HL := Lib.hid (odecN_bad ho)
    clear ho
    simp only [openV]
    have G1 : Hid (∀ w, Calls Try.prog 76 #[vu64 n, .int .i64 8, .int .i64 6] w fun e w' => e = .returned (vu64 (n / 256 % 64)) ∧ w = w') := Lib.hid (fun w => get_any n 8 6 (by omega) (by decide) (by decide) (by decide) w)
    have G2 : Hid (∀ w, Calls Try.prog 76 #[vu64 n, .int .i64 14, .int .i64 15] w fun e w' => e = .returned (vu64 (n / 16384 % 32768)) ∧ w = w') := Lib.hid (fun w => get_any n 14 15 (by omega) (by decide) (by decide) (by decide) w)
    have h64 : n / 256 % 64 < 64 := by omega
    have h6 : n / 16384 % 32768 < 32768 := by omega
    generalize n / 256 % 64 = k at *
    generalize n / 16384 % 32768 = l at *
    go_wp2_with fail
    refine (G1.out _).mono ?_
    rintro e w2 ⟨rfl, rfl⟩
    go_wp2_with fail
    refine (G2.out _).mono ?_
    rintro e w2 ⟨rfl, rfl⟩
    clear G1 G2
    go_wp2_with fail
    have hb1 := below_alloc w1 (Obj.cells #[Value.int .i64 (k : Int), Value.int .i64 (l : Int)] 73)
    have hg2 := heap_alloc_new w1 (Obj.cells #[Value.int .i64 (k : Int), Value.int .i64 (l : Int)] 73)
    generalize w1.alloc (Obj.cells #[Value.int .i64 (k : Int), Value.int .i64 (l : Int)] 73) = w2 at *
    refine (oencode_any a k l w2).mono ?_
    rintro e w3 ⟨rfl, hb3⟩
    have hgl : w.heap.size < w1.heap.size := (Array.getElem?_eq_some_iff.1 hg1).1
    have hgl2 : w1.heap.size < w2.heap.size := (Array.getElem?_eq_some_iff.1 hg2).1
    have hb3' := hbb.trans ((hb1.trans (hb3.mono hb1.size)).mono hbb.size)
    have hg3 : w3.heap[w.heap.size]? = _ := (hb3.block _ (by omega)).trans ((hb1.block _ hgl).trans hg1)
    have hg4 : w3.heap[w1.heap.size]? = _ := (hb3.block _ hgl2).trans hg2
    have he := oencN_lt a k l
    clear hb1 hb3 hg1 hg2 hbb
    generalize oencN a k l = y at *
    by_cases hyx : y = x
    · have HV := Lib.hid (HK.out hyx)
      subst hyx
      have d0 : w3.cell? ⟨w1.heap.size, 0, none⟩ = some (.int .i64 k) := cell_of_row _ _ 0 _ _ _ hg4
      have d1 : w3.cell? ⟨w1.heap.size, 1, none⟩ = some (.int .i64 l) := cell_of_row _ _ 1 _ _ _ hg4
      go_wp2_with (refine wpList_store_row (cs := #[.int .i64 k, .int .i64 l]) aggOb hg3 rfl rfl (by simp [Value.oneCell']) rfl rfl rfl rfl ?_; intro w4 hg5 hgr4 hs4)
      refine bodyPost_ret (results_cell_row2 (p := 4) (u := 5) rfl _ _ _ _ _ _ _ rfl hg5 Try.underlying73 rfl (by kernel_rfl)) rfl ⟨by rw [HV.out]; rfl, ?_⟩
      exact hb3'.grown hgr4 hb3'.size (fun k e => by cases e; omega)
    · have HV := Lib.hid (HL.out hyx)
      have hne : ¬ ((y : Int) = (x : Int)) := by omega
      clear hyx
      go_wp2_with (refine wpList_store_row (cs := #[.int .i64 0, .int .i64 0]) aggOb hg3 rfl rfl (by simp [Value.oneCell']) rfl rfl rfl rfl ?_; intro w4 hg5 hgr4 hs4)
      refine bodyPost_ret (results_cell_row2 (p := 4) (u := 5) rfl _ _ _ _ _ _ _ rfl hg5 Try.underlying73 rfl (by kernel_rfl)) rfl ⟨by rw [HV.out]; rfl, ?_⟩
      exact hb3'.grown hgr4 hb3'.size (fun k e => by cases e; omega)

/-- A word that is its object's word: then that one may be. -/
theorem odec_size {a : Int} {x : Nat} (h : (odecN a x).code = 0) : objSize (odecN a x).p (odecN a x).d ≠ 0 ∧ oencN a (odecN a x).p (odecN a x).d = x := by
  unfold odecN at h ⊢
  cases ho : openN x (pl a) with
  | none => rw [ho] at h; simp at h
  | some n =>
    rw [ho] at h
    simp only [Option.map_some, Option.getD_some] at h ⊢
    obtain ⟨h1, h2⟩ := openN_some ho
    unfold odecS at h ⊢
    split
    · rename_i he
      dsimp only
      refine ⟨fun hs => ?_, he⟩
      unfold oencN at he
      rw [if_pos hs] at he
      subst he
      simp at h2
      subst h2
      revert hs
      decide
    · rename_i he
      rw [if_neg he] at h
      simp at h

set_option maxHeartbeats 1000000 in
theorem optr_any (p d i : Int) (w : World) : Calls Try.prog 96 #[vob p d, .int .i64 i] w fun e w' => e = .returned (.tuple #[.int .i64 (IntKind.i64.wrap (1 + i)), .bool (decide (0 ≤ i ∧ i < p))]) ∧ Below w.heap.size w w' := by
  have hb := below_alloc w (Obj.cells #[Value.int .i64 p, Value.int .i64 d] 73)
  have c0 : (w.alloc (Obj.cells #[Value.int .i64 p, Value.int .i64 d] 73)).cell? ⟨w.heap.size, 0, none⟩ = some (.int .i64 p) := cell_alloc_new _ _ _ 0 _ rfl
  have HB := Lib.hid hb
  clear hb
  generalize hz : IntKind.i64.wrap (1 + i) = z
  by_cases h0 : 0 ≤ i
  · have h0d : decide (0 ≤ i) = true := by simpa using h0
    by_cases h1 : i < p
    · go_enter Try.func96, Try.ntmps96
      go_wp2_with fail
      go_quiet (fail)
      go_wp2_with fail
      go_ret2
      exact ⟨by simp [h0, h1, hz], below_drewN HB.out _⟩
    · go_enter Try.func96, Try.ntmps96
      go_wp2_with fail
      go_quiet (fail)
      go_wp2_with fail
      go_ret2
      exact ⟨by simp [h0, h1, hz], below_drewN HB.out _⟩
  · have h0d : decide (0 ≤ i) = false := by simpa using h0
    go_enter Try.func96, Try.ntmps96
    go_wp2_with fail
    go_quiet (fail)
    go_wp2_with fail
    go_ret2
    exact ⟨by simp [h0, hz]; omega, below_drewN HB.out _⟩

set_option maxHeartbeats 1000000 in
theorem odata_any (p d i : Int) (w : World) : Calls Try.prog 97 #[vob p d, .int .i64 i] w fun e w' => e = .returned (.tuple #[.int .i64 (IntKind.i64.wrap (IntKind.i64.wrap (1 + p) + i)), .bool (decide (0 ≤ i ∧ i < d))]) ∧ Below w.heap.size w w' := by
  have hb := below_alloc w (Obj.cells #[Value.int .i64 p, Value.int .i64 d] 73)
  have c0 : (w.alloc (Obj.cells #[Value.int .i64 p, Value.int .i64 d] 73)).cell? ⟨w.heap.size, 0, none⟩ = some (.int .i64 p) := cell_alloc_new _ _ _ 0 _ rfl
  have c1 : (w.alloc (Obj.cells #[Value.int .i64 p, Value.int .i64 d] 73)).cell? ⟨w.heap.size, 1, none⟩ = some (.int .i64 d) := cell_alloc_new _ _ _ 1 _ rfl
  have HB := Lib.hid hb
  clear hb
  generalize hy : IntKind.i64.wrap (1 + p) = y
  generalize hz : IntKind.i64.wrap (y + i) = z
  by_cases h0 : 0 ≤ i
  · have h0d : decide (0 ≤ i) = true := by simpa using h0
    by_cases h1 : i < d
    · go_enter Try.func97, Try.ntmps97
      go_wp2_with fail
      go_quiet (fail)
      go_wp2_with fail
      go_ret2
      exact ⟨by simp [h0, h1, hy, hz], below_drewN HB.out _⟩
    · go_enter Try.func97, Try.ntmps97
      go_wp2_with fail
      go_quiet (fail)
      go_wp2_with fail
      go_ret2
      exact ⟨by simp [h0, h1, hy, hz], below_drewN HB.out _⟩
  · have h0d : decide (0 ≤ i) = false := by simpa using h0
    go_enter Try.func97, Try.ntmps97
    go_wp2_with fail
    go_quiet (fail)
    go_wp2_with fail
    go_ret2
    exact ⟨by simp [h0, hy, hz]; omega, below_drewN HB.out _⟩

end Go.Proofs.Ytjgdplengfnkaaa
