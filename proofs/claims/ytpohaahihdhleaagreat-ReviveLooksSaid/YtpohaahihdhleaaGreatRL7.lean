/- Parts of the proof that ReviveLooks holds. -/
import Derived.Test.YtpohaahihdhleaaGreatRL6
import Derived.Deep.Cut
import Derived.Deep.CutBlock
set_option linter.unusedVariables false
set_option maxHeartbeats 16000000
set_option maxRecDepth 100000
open Go.RowKit
namespace Go.Proofs.YtpohaahihdhleaaGreat
section
abbrev vob (p d : Int) : Value := .agg #[.int .i64 p, .int .i64 d]
def obN (p d : Int) : Nat := (165 + 256 * p + 16384 * d).toNat
def oencN (a p d : Int) : Nat := if objSize p d = 0 then 0 else sealN (obN p d) (pl a)
theorem obj_small {p d : Int} (h : objSize p d ≠ 0) : (0 ≤ p ∧ p < 64) ∧ (0 ≤ d ∧ d ≤ 16384) := by
 unfold objSize at h
 split at h
 ·exact absurd rfl h
 ·omega
theorem obN_lt {p d : Int} (h : objSize p d ≠ 0) : obN p d < 4294967296 := by
 have := obj_small h
 unfold obN
 omega
theorem oencN_lt (a p d : Int) : oencN a p d < 18446744073709551616 := by
 unfold oencN
 split
 ·decide
 ·rename_i h; exact sealN_lt _ _ (obN_lt h)
theorem oencode_any (a p d : Int) (w : World) : Calls Tryz.prog 216 #[vob p d, .int .i64 a] w fun e w' => e = .returned (vu64 (oencN a p d)) ∧ Below w.heap.size w w' := by
 have hb := below_alloc w (Obj.cells #[Value.int .i64 p, Value.int .i64 d] 211)
 have hg := heap_alloc_new w (Obj.cells #[Value.int .i64 p, Value.int .i64 d] 211)
 go_enter Tryz.func216, Tryz.ntmps216
 go_wp2_with fail
 generalize w.alloc (Obj.cells #[Value.int .i64 p, Value.int .i64 d] 211) = w0 at *
 refine (osize_any p d w0).mono ?_
 rintro e w1 ⟨rfl, hb1⟩
 have hgl : w.heap.size < w0.heap.size := (Array.getElem?_eq_some_iff.1 hg).1
 have hbb := hb.trans (hb1.mono hb.size)
 have hg1 : w1.heap[w.heap.size]? = _ := (hb1.block _ hgl).trans hg
 have c0 : w1.cell? ⟨w.heap.size, 0, none⟩ = some (.int .i64 p) := cell_of_row _ _ 0 _ _ _ hg1
 have c1 : w1.cell? ⟨w.heap.size, 1, none⟩ = some (.int .i64 d) := cell_of_row _ _ 1 _ _ _ hg1
 clear hb hb1 hg hgl hg1
 by_cases hr : objSize p d = 0
 ·have HE : Hid (oencN a p d = 0) := LH (by unfold oencN; rw [if_pos hr])
  rw [hr]
  clear hr
  go_wp2_with fail
  go_ret
  exact ⟨ret_int (by rw [HE.out]; rfl), hbb⟩
 ·have HE : Hid (oencN a p d = sealN (obN p d) (pl a)) := LH (by unfold oencN; rw [if_neg hr])
  have hn := obN_lt hr
  obtain ⟨⟨p0, p1⟩, d0, d1⟩ := obj_small hr
  have HN : Hid (obN p d = (165 + p.toNat * 256 + d.toNat * 16384)) := LH (by unfold obN; omega)
  have hz : (((objSize p d : Nat) : Int) == 0) = false := by simp; omega
  generalize objSize p d = sz at *
  clear hr
  obtain ⟨p, rfl⟩ := Int.eq_ofNat_of_zero_le p0
  obtain ⟨d, rfl⟩ := Int.eq_ofNat_of_zero_le d0
  simp only [Int.toNat_natCast] at HN
  have P1 : Hid (Calls Tryz.prog 151 #[vu64 165, .int .i64 8, .int .i64 6, vu64 p] w1 fun e w' => e = .returned (vu64 (165 + p * 256)) ∧ w1 = w') := LH (put_any 165 8 6 p (by omega) (by omega) (by decide) (by decide) w1)
  have P2 : Hid (Calls Tryz.prog 151 #[vu64 (165 + p * 256), .int .i64 14, .int .i64 15, vu64 d] w1 fun e w' => e = .returned (vu64 (165 + p * 256 + d * 16384)) ∧ w1 = w') := LH (put_any (165 + p * 256) 14 15 d (by omega) (by omega) (by decide) (by decide) w1)
  go_wp2_with fail
  refine P1.out.mono ?_
  rintro e w2 ⟨rfl, rfl⟩
  go_wp2_with fail
  refine P2.out.mono ?_
  rintro e w2 ⟨rfl, rfl⟩
  rw [← HN.out]
  generalize obN (p : Int) (d : Int) = n at *
  clear P1 P2
  go_wp2_with fail
  refine (seal_any n _ hn _).mono ?_
  rintro e w2 ⟨rfl, hb2⟩
  rw [← HE.out]
  go_wp2_with fail
  go_ret
  exact ⟨rfl, hbb.trans (hb2.mono hbb.size)⟩
theorem aggOb : Agg Tryz.prog 211 #[.int .i64 0, .int .i64 0] := ⟨⟨_, Tryz.underlying211, rfl⟩, by kernel_rfl⟩
structure Odec where
 p : Int
 d : Int
 code : Int
def odecS (a : Int) (x n : Nat) : Odec := if oencN a (n / 256 % 64 : Nat) (n / 16384 % 32768 : Nat) = x then ⟨(n / 256 % 64 : Nat), (n / 16384 % 32768 : Nat), 0⟩ else ⟨0, 0, 26⟩
def odecN (a : Int) (x : Nat) : Odec := ((openN x (pl a)).map (odecS a x)).getD ⟨0, 0, 25⟩
def Odec.val (o : Odec) : Value := .tuple #[vob o.p o.d, .int .i64 o.code]
theorem odecN_none {a : Int} {x : Nat} (h : openN x (pl a) = none) : (odecN a x).val = .tuple #[vob 0 0, .int .i64 25] := by unfold odecN; rw [h]; rfl
theorem odecN_some {a : Int} {x n : Nat} (h : openN x (pl a) = some n) : odecN a x = odecS a x n := by unfold odecN; rw [h]; rfl
theorem odecN_ok {a : Int} {x n : Nat} (h : openN x (pl a) = some n) (he : oencN a (n / 256 % 64 : Nat) (n / 16384 % 32768 : Nat) = x) :
  (odecN a x).val = .tuple #[vob (n / 256 % 64 : Nat) (n / 16384 % 32768 : Nat), .int .i64 0] := by
 rw [odecN_some h, odecS, if_pos he]; rfl
theorem odecN_bad {a : Int} {x n : Nat} (h : openN x (pl a) = some n) (he : oencN a (n / 256 % 64 : Nat) (n / 16384 % 32768 : Nat) ≠ x) :
  (odecN a x).val = .tuple #[vob 0 0, .int .i64 26] := by
 rw [odecN_some h, odecS, if_neg he]; rfl
theorem odecode_any (a : Int) (x : Nat) (hx : x < 18446744073709551616) (w : World) :
  Calls Tryz.prog 201 #[.int .i64 a, vu64 x] w fun e w' => e = .returned (odecN a x).val ∧ Below w.heap.size w w' := by
 have hbA := below_alloc w (Obj.cells #[Value.int .i64 0, Value.int .i64 0] 211)
 have hg := heap_alloc_new w (Obj.cells #[Value.int .i64 0, Value.int .i64 0] 211)
 go_enter Tryz.func201, Tryz.ntmps201
 go_wp2_with fail
 generalize w.alloc (Obj.cells #[Value.int .i64 0, Value.int .i64 0] 211) = w0 at *
 refine (open_any x _ hx w0).mono ?_
 rintro e w1 ⟨rfl, hbo⟩
 have hgl : w.heap.size < w0.heap.size := (Array.getElem?_eq_some_iff.1 hg).1
 have hbb := hbA.trans (hbo.mono hbA.size)
 have hg1 : w1.heap[w.heap.size]? = _ := (hbo.block _ hgl).trans hg
 clear hbA hbo hg hgl
 cases ho : openN x (pl a) with
 | none =>
  have HV := LH (odecN_none ho)
  clear ho
  simp only [openV]
  go_wp2_with (refine wpList_store_row (cs := #[.int .i64 0, .int .i64 0]) aggOb hg1 rfl rfl (by simp [Value.oneCell']) rfl rfl rfl rfl ?_; intro w2 hg2 hgr2 hs2)
  refine bodyPost_ret (results_cell_row2 (p := 4) (u := 5) rfl _ _ _ _ _ _ _ rfl hg2 Tryz.underlying211 rfl (by kernel_rfl)) rfl ⟨by rw [HV.out]; rfl, ?_⟩
  exact hbb.grown hgr2 hbb.size (fun k e => by cases e; omega)
 | some n =>
  obtain ⟨hn, -⟩ := openN_some ho
  have HK := LH (odecN_ok ho)
  have HL := LH (odecN_bad ho)
  clear ho
  simp only [openV]
  have G1 : Hid (∀ w, Calls Tryz.prog 139 #[vu64 n, .int .i64 8, .int .i64 6] w fun e w' => e = .returned (vu64 (n / 256 % 64)) ∧ w = w') := LH (fun w => get_any n 8 6 (by omega) (by decide) (by decide) (by decide) w)
  have G2 : Hid (∀ w, Calls Tryz.prog 139 #[vu64 n, .int .i64 14, .int .i64 15] w fun e w' => e = .returned (vu64 (n / 16384 % 32768)) ∧ w = w') := LH (fun w => get_any n 14 15 (by omega) (by decide) (by decide) (by decide) w)
  have h64 : n / 256 % 64 < 64 := by omega
  have h6 : n / 16384 % 32768 < 32768 := by omega
  generalize n / 256 % 64 = k at *
  generalize n / 16384 % 32768 = l at *
  go_wp2_with fail
  refine (G1.out _).mono ?_
  rintro e w2 ⟨rfl, rfl⟩
  go_wp2_with fail
  refine (G2.out _).mono ?_
  rintro e w2 ⟨rfl, rfl⟩
  clear G1 G2
  go_wp2_with fail
  have hb1 := below_alloc w1 (Obj.cells #[Value.int .i64 (k : Int), Value.int .i64 (l : Int)] 211)
  have hg2 := heap_alloc_new w1 (Obj.cells #[Value.int .i64 (k : Int), Value.int .i64 (l : Int)] 211)
  generalize w1.alloc (Obj.cells #[Value.int .i64 (k : Int), Value.int .i64 (l : Int)] 211) = w2 at *
  refine (oencode_any a k l w2).mono ?_
  rintro e w3 ⟨rfl, hb3⟩
  have hgl : w.heap.size < w1.heap.size := (Array.getElem?_eq_some_iff.1 hg1).1
  have hgl2 : w1.heap.size < w2.heap.size := (Array.getElem?_eq_some_iff.1 hg2).1
  have hb3' := hbb.trans ((hb1.trans (hb3.mono hb1.size)).mono hbb.size)
  have hg3 : w3.heap[w.heap.size]? = _ := (hb3.block _ (by omega)).trans ((hb1.block _ hgl).trans hg1)
  have hg4 : w3.heap[w1.heap.size]? = _ := (hb3.block _ hgl2).trans hg2
  have he := oencN_lt a k l
  clear hb1 hb3 hg1 hg2 hbb
  generalize oencN a k l = y at *
  by_cases hyx : y = x
  ·have HV := LH (HK.out hyx)
   subst hyx
   have d0 : w3.cell? ⟨w1.heap.size, 0, none⟩ = some (.int .i64 k) := cell_of_row _ _ 0 _ _ _ hg4
   have d1 : w3.cell? ⟨w1.heap.size, 1, none⟩ = some (.int .i64 l) := cell_of_row _ _ 1 _ _ _ hg4
   go_wp2_with (refine wpList_store_row (cs := #[.int .i64 k, .int .i64 l]) aggOb hg3 rfl rfl (by simp [Value.oneCell']) rfl rfl rfl rfl ?_; intro w4 hg5 hgr4 hs4)
   refine bodyPost_ret (results_cell_row2 (p := 4) (u := 5) rfl _ _ _ _ _ _ _ rfl hg5 Tryz.underlying211 rfl (by kernel_rfl)) rfl ⟨by rw [HV.out]; rfl, ?_⟩
   exact hb3'.grown hgr4 hb3'.size (fun k e => by cases e; omega)
  ·have HV := LH (HL.out hyx)
   have hne : ¬ ((y : Int) = (x : Int)) := by omega
   clear hyx
   go_wp2_with (refine wpList_store_row (cs := #[.int .i64 0, .int .i64 0]) aggOb hg3 rfl rfl (by simp [Value.oneCell']) rfl rfl rfl rfl ?_; intro w4 hg5 hgr4 hs4)
   refine bodyPost_ret (results_cell_row2 (p := 4) (u := 5) rfl _ _ _ _ _ _ _ rfl hg5 Tryz.underlying211 rfl (by kernel_rfl)) rfl ⟨by rw [HV.out]; rfl, ?_⟩
   exact hb3'.grown hgr4 hb3'.size (fun k e => by cases e; omega)
theorem odec_size {a : Int} {x : Nat} (h : (odecN a x).code = 0) : objSize (odecN a x).p (odecN a x).d ≠ 0 ∧ oencN a (odecN a x).p (odecN a x).d = x := by
 unfold odecN at h ⊢
 cases ho : openN x (pl a) with
 | none => rw [ho] at h; simp at h
 | some n =>
  rw [ho] at h
  simp only [Option.map_some, Option.getD_some] at h ⊢
  obtain ⟨h1, h2⟩ := openN_some ho
  unfold odecS at h ⊢
  split
  ·rename_i he
   dsimp only
   refine ⟨fun hs => ?_, he⟩
   unfold oencN at he
   rw [if_pos hs] at he
   subst he
   simp at h2
   subst h2
   revert hs
   decide
  ·rename_i he
   rw [if_neg he] at h
   simp at h
theorem optr_any (p d i : Int) (w : World) : Calls Tryz.prog 221 #[vob p d, .int .i64 i] w fun e w' => e = .returned (.tuple #[.int .i64 (IntKind.i64.wrap (1 + i)), .bool (decide (0 ≤ i ∧ i < p))]) ∧ Below w.heap.size w w' := by
 have hb := below_alloc w (Obj.cells #[Value.int .i64 p, Value.int .i64 d] 211)
 have c0 : (w.alloc (Obj.cells #[Value.int .i64 p, Value.int .i64 d] 211)).cell? ⟨w.heap.size, 0, none⟩ = some (.int .i64 p) := cell_alloc_new _ _ _ 0 _ rfl
 have HB := LH hb
 clear hb
 generalize hz : IntKind.i64.wrap (1 + i) = z
 by_cases h0 : 0 ≤ i
 ·have h0d : decide (0 ≤ i) = true := by simpa using h0
  by_cases h1 : i < p
  ·go_enter Tryz.func221, Tryz.ntmps221
   go_wp2_with fail
   go_quiet (fail)
   go_wp2_with fail
   go_ret2
   exact ⟨by simp [h0, h1], below_drewN HB.out _⟩
  ·go_enter Tryz.func221, Tryz.ntmps221
   go_wp2_with fail
   go_quiet (fail)
   go_wp2_with fail
   go_ret2
   exact ⟨by simp [h0], below_drewN HB.out _⟩
 ·have h0d : decide (0 ≤ i) = false := by simpa using h0
  go_enter Tryz.func221, Tryz.ntmps221
  go_wp2_with fail
  go_quiet (fail)
  go_wp2_with fail
  go_ret2
  exact ⟨by simp; omega, below_drewN HB.out _⟩
theorem odata_any (p d i : Int) (w : World) : Calls Tryz.prog 222 #[vob p d, .int .i64 i] w fun e w' => e = .returned (.tuple #[.int .i64 (IntKind.i64.wrap (IntKind.i64.wrap (1 + p) + i)), .bool (decide (0 ≤ i ∧ i < d))]) ∧ Below w.heap.size w w' := by
 have hb := below_alloc w (Obj.cells #[Value.int .i64 p, Value.int .i64 d] 211)
 have c0 : (w.alloc (Obj.cells #[Value.int .i64 p, Value.int .i64 d] 211)).cell? ⟨w.heap.size, 0, none⟩ = some (.int .i64 p) := cell_alloc_new _ _ _ 0 _ rfl
 have c1 : (w.alloc (Obj.cells #[Value.int .i64 p, Value.int .i64 d] 211)).cell? ⟨w.heap.size, 1, none⟩ = some (.int .i64 d) := cell_alloc_new _ _ _ 1 _ rfl
 have HB := LH hb
 clear hb
 generalize hy : IntKind.i64.wrap (1 + p) = y
 generalize hz : IntKind.i64.wrap (y + i) = z
 by_cases h0 : 0 ≤ i
 ·have h0d : decide (0 ≤ i) = true := by simpa using h0
  by_cases h1 : i < d
  ·go_enter Tryz.func222, Tryz.ntmps222
   go_wp2_with fail
   go_quiet (fail)
   go_wp2_with fail
   go_ret2
   exact ⟨by simp [h0, h1], below_drewN HB.out _⟩
  ·go_enter Tryz.func222, Tryz.ntmps222
   go_wp2_with fail
   go_quiet (fail)
   go_wp2_with fail
   go_ret2
   exact ⟨by simp [h0], below_drewN HB.out _⟩
 ·have h0d : decide (0 ≤ i) = false := by simpa using h0
  go_enter Tryz.func222, Tryz.ntmps222
  go_wp2_with fail
  go_quiet (fail)
  go_wp2_with fail
  go_ret2
  exact ⟨by simp; omega, below_drewN HB.out _⟩
def headN (S : Dev) (a : Int) : Odec :=
 if a < 0 ∨ (S.cache.length : Int) ≤ a then ⟨0, 0, 22⟩ else
  if (odecN a (peek S.cache a)).code ≠ 0 ∨ (S.cache.length : Int) - a < (objSize (odecN a (peek S.cache a)).p (odecN a (peek S.cache a)).d : Nat) then ⟨0, 0, 22⟩ else ⟨(odecN a (peek S.cache a)).p, (odecN a (peek S.cache a)).d, 0⟩
theorem headN_code (S : Dev) (a : Int) : ((headN S a).code = 0 ∧ 0 ≤ a ∧ a < S.cache.length ∧ objSize (headN S a).p (headN S a).d ≠ 0 ∧ a + (objSize (headN S a).p (headN S a).d : Nat) ≤ S.cache.length ∧ oencN a (headN S a).p (headN S a).d = peek S.cache a) ∨ headN S a = ⟨0, 0, 22⟩ := by
 have hz := odec_size (a := a) (x := peek S.cache a)
 unfold headN
 generalize odecN a (peek S.cache a) = x at *
 obtain ⟨p, d, c⟩ := x
 dsimp only at hz ⊢
 split
 ·exact .inr rfl
 ·split
  ·exact .inr rfl
  ·rename_i h1 h2
   have hc : c = 0 := Decidable.byContradiction fun h => h2 (.inl h)
   have := hz hc
   generalize oencN a p d = y at *
   generalize objSize p d = s at *
   exact .inl ⟨rfl, by omega, by omega, this.1, by omega, this.2⟩
theorem ohead_any {w : World} {F : Foot} {S : Dev} (h : DevAt w F S) (a : Int) :
  Calls Tryz.prog 180 #[vdev F, .int .i64 a] w fun e w' => e = .returned (headN S a).val ∧ Below w.heap.size w w' := by
 have hbA := below_alloc w (Obj.cells #[Value.int .i64 0, Value.int .i64 0] 211)
 have hg := heap_alloc_new w (Obj.cells #[Value.int .i64 0, Value.int .i64 0] 211)
 have hd := h.below hbA
 have hsm := h.small
 have HE : Hid (∀ x : Odec, x = ⟨0, 0, 22⟩ → x.val = .tuple #[vob 0 0, .int .i64 22]) := LH (by rintro x rfl; rfl)
 have HB := LH hbA
 have HD := LH hd
 clear hbA hd h
 by_cases h0 : a < 0
 ·have HV : Hid (headN S a = ⟨0, 0, 22⟩) := LH (by unfold headN; rw [if_pos (.inl h0)])
  go_enter Tryz.func180, Tryz.ntmps180
  go_wp2_with (refine wpList_store_row (cs := #[.int .i64 0, .int .i64 0]) aggOb hg rfl rfl (by simp [Value.oneCell']) rfl rfl rfl rfl ?_; intro w4 hg5 hgr4 hs4)
  refine bodyPost_ret (results_cell_row2 (p := 4) (u := 5) rfl _ _ _ _ _ _ _ rfl hg5 Tryz.underlying211 rfl (by kernel_rfl)) rfl ⟨by rw [HE.out _ HV.out]; rfl, ?_⟩
  exact HB.out.grown hgr4 HB.out.size (fun k e => by cases e; omega)
 by_cases h1 : (S.cache.length : Int) ≤ a
 ·have HV : Hid (headN S a = ⟨0, 0, 22⟩) := LH (by unfold headN; rw [if_pos (.inr h1)])
  go_enter Tryz.func180, Tryz.ntmps180
  go_wp2_with fail
  refine (dlen_any HD.out).mono ?_
  rintro e w1 ⟨rfl, rfl⟩
  go_wp2_with (refine wpList_store_row (cs := #[.int .i64 0, .int .i64 0]) aggOb hg rfl rfl (by simp [Value.oneCell']) rfl rfl rfl rfl ?_; intro w4 hg5 hgr4 hs4)
  refine bodyPost_ret (results_cell_row2 (p := 4) (u := 5) rfl _ _ _ _ _ _ _ rfl hg5 Tryz.underlying211 rfl (by kernel_rfl)) rfl ⟨by rw [HE.out _ HV.out]; rfl, ?_⟩
  exact HB.out.grown hgr4 HB.out.size (fun k e => by cases e; omega)
 have HV0 : Hid (headN S a = if (odecN a (peek S.cache a)).code ≠ 0 ∨ (S.cache.length : Int) - a < (objSize (odecN a (peek S.cache a)).p (odecN a (peek S.cache a)).d : Nat) then ⟨0, 0, 22⟩ else ⟨(odecN a (peek S.cache a)).p, (odecN a (peek S.cache a)).d, 0⟩) := LH (by unfold headN; rw [if_neg (by omega)])
 go_enter Tryz.func180, Tryz.ntmps180
 go_wp2_with fail
 refine (dlen_any HD.out).mono ?_
 rintro e w1 ⟨rfl, rfl⟩
 go_wp2_with fail
 refine (dget_any HD.out a).mono ?_
 rintro e w1 ⟨rfl, rfl⟩
 have hpk := peek_lt HD.out.u64C a
 generalize w.alloc (Obj.cells #[Value.int .i64 0, Value.int .i64 0] 211) = w0 at *
 go_wp2_with fail
 refine (odecode_any a _ hpk _).mono ?_
 rintro e w1 ⟨rfl, hb1⟩
 have hg0 : w.heap.size < w0.heap.size := (Array.getElem?_eq_some_iff.1 hg).1
 have hg1 : w1.heap[w.heap.size]? = _ := (hb1.block _ hg0).trans hg
 have HB1 := LH (HB.out.trans (hb1.mono HB.out.size))
 have HD1 := LH (HD.out.below hb1)
 clear hb1 hg HB HD hpk
 generalize odecN a (peek S.cache a) = x at *
 obtain ⟨p, d, c⟩ := x
 unfold Odec.val
 dsimp only at HV0 ⊢
 have hbx := below_alloc w1 (Obj.cells #[Value.int .i64 p, Value.int .i64 d] 211)
 have hg2 := (hbx.block w.heap.size (by have := HB1.out.size; exact (Array.getElem?_eq_some_iff.1 hg1).1)).trans hg1
 have HB2 := LH (HB1.out.trans (hbx.mono HB1.out.size))
 have HD2 := LH (HD1.out.below hbx)
 have e0 : (w1.alloc (Obj.cells #[Value.int .i64 p, Value.int .i64 d] 211)).cell? ⟨w1.heap.size, 0, none⟩ = some (.int .i64 p) := cell_alloc_new _ _ _ 0 _ rfl
 have e1 : (w1.alloc (Obj.cells #[Value.int .i64 p, Value.int .i64 d] 211)).cell? ⟨w1.heap.size, 1, none⟩ = some (.int .i64 d) := cell_alloc_new _ _ _ 1 _ rfl
 clear hbx hg1 HB1 HD1
 by_cases hc : c = 0
 ·subst hc
  go_wp2_with fail
  refine (osize_any p d _).mono ?_
  rintro e w2 ⟨rfl, hb2⟩
  generalize w1.alloc (Obj.cells #[Value.int .i64 p, Value.int .i64 d] 211) = w1' at *
  have hg3 : w2.heap[w.heap.size]? = _ := (hb2.block _ (Array.getElem?_eq_some_iff.1 hg2).1).trans hg2
  have HB3 := LH (HB2.out.trans (hb2.mono HB2.out.size))
  have HD3 := LH (HD2.out.below hb2)
  have f0 := below_cells hb2 e0 (Nat.le_refl _)
  have f1 := below_cells hb2 e1 (Nat.le_refl _)
  clear hb2 HB2 HD2 hg2 e0 e1
  go_wp2_with fail
  refine (dlen_any HD3.out).mono ?_
  rintro e w3 ⟨rfl, rfl⟩
  have hw1 : IntKind.i64.wrap ((S.cache.length : Int) - a) = (S.cache.length : Int) - a := IntWalk.i64_in _ (by omega)
  by_cases hs : (S.cache.length : Int) - a < (objSize p d : Nat)
  ·have HV : Hid (headN S a = ⟨0, 0, 22⟩) := LH (by rw [HV0.out, if_pos (.inr hs)])
   go_wp2_with (refine wpList_store_row (cs := #[.int .i64 0, .int .i64 0]) aggOb hg3 rfl rfl (by simp [Value.oneCell']) rfl rfl rfl rfl ?_; intro w4 hg5 hgr4 hs4)
   refine bodyPost_ret (results_cell_row2 (p := 4) (u := 5) rfl _ _ _ _ _ _ _ rfl hg5 Tryz.underlying211 rfl (by kernel_rfl)) rfl ⟨by rw [HE.out _ HV.out]; rfl, ?_⟩
   exact HB3.out.grown hgr4 HB3.out.size (fun k e => by cases e; omega)
  ·have HV : Hid (headN S a = ⟨p, d, 0⟩) := LH (by rw [HV0.out, if_neg (fun h => h.elim (fun h => h rfl) hs)])
   go_wp2_with (refine wpList_store_row (cs := #[.int .i64 p, .int .i64 d]) aggOb hg3 rfl rfl (by simp [Value.oneCell']) rfl rfl rfl rfl ?_; intro w4 hg5 hgr4 hs4)
   refine bodyPost_ret (results_cell_row2 (p := 4) (u := 5) rfl _ _ _ _ _ _ _ rfl hg5 Tryz.underlying211 rfl (by kernel_rfl)) rfl ⟨by rw [HV.out]; rfl, ?_⟩
   exact HB3.out.grown hgr4 HB3.out.size (fun k e => by cases e; omega)
 ·have HV : Hid (headN S a = ⟨0, 0, 22⟩) := LH (by rw [HV0.out, if_pos (.inl hc)])
  have hc1 : (c != 0) = true := by simpa using hc
  clear hc
  go_wp2_with (refine wpList_store_row (cs := #[.int .i64 0, .int .i64 0]) aggOb hg2 rfl rfl (by simp [Value.oneCell']) rfl rfl rfl rfl ?_; intro w4 hg5 hgr4 hs4)
  refine bodyPost_ret (results_cell_row2 (p := 4) (u := 5) rfl _ _ _ _ _ _ _ rfl hg5 Tryz.underlying211 rfl (by kernel_rfl)) rfl ⟨by rw [HE.out _ HV.out]; rfl, ?_⟩
  exact HB2.out.grown hgr4 HB2.out.size (fun k e => by cases e; omega)
structure Place where
 at_ : Int
 code : Int
def placeN (S : Dev) (a i : Int) (data : Bool) : Place :=
 if (headN S a).code ≠ 0 then ⟨0, 22⟩ else
  if data = true then (if 0 ≤ i ∧ i < (headN S a).d then ⟨a + (1 + (headN S a).p + i), 0⟩ else ⟨0, 7⟩) else (if 0 ≤ i ∧ i < (headN S a).p then ⟨a + (1 + i), 0⟩ else ⟨0, 7⟩)
theorem head_small {S : Dev} (hw : S.cache.length ≤ 1000000) {a : Int} (h : (headN S a).code = 0) : (0 ≤ a ∧ a < 1000000) ∧ (0 ≤ (headN S a).p ∧ (headN S a).p < 64) ∧ (0 ≤ (headN S a).d ∧ (headN S a).d ≤ 16384) := by
 rcases headN_code S a with ⟨_, h1, h2, h3, _⟩ | h1
 ·have := obj_small h3
  exact ⟨⟨h1, by omega⟩, this⟩
 ·rw [h1] at h; simp at h
theorem ofield_any {w : World} {F : Foot} {S : Dev} (h : DevAt w F S) (a i : Int) (data : Bool) :
  Calls Tryz.prog 215 #[vdev F, .int .i64 a, .int .i64 i, .bool data] w fun e w' => e = .returned (.tuple #[.int .i64 (placeN S a i data).at_, .int .i64 (placeN S a i data).code]) ∧ Below w.heap.size w w' := by
 have HSm := LH (head_small h.small (a := a))
 have HPL : Hid (placeN S a i data = if (headN S a).code ≠ 0 then ⟨0, 22⟩ else if data = true then (if 0 ≤ i ∧ i < (headN S a).d then ⟨a + (1 + (headN S a).p + i), 0⟩ else ⟨0, 7⟩) else (if 0 ≤ i ∧ i < (headN S a).p then ⟨a + (1 + i), 0⟩ else ⟨0, 7⟩)) := LH rfl
 have HC := LH (headN_code S a)
 have HD := LH h
 clear h
 generalize placeN S a i data = pn at *
 go_enter Tryz.func215, Tryz.ntmps215
 go_wp2_with fail
 refine (ohead_any HD.out a).mono ?_
 rintro e w1 ⟨rfl, hb1⟩
 have hC22 : Hid ((headN S a).code = 0 ∨ (headN S a).code = 22) := LH (HC.out.elim (fun h => .inl h.1) (fun h => .inr (by rw [h])))
 generalize headN S a = x at *
 obtain ⟨p, d, c⟩ := x
 unfold Odec.val
 dsimp only at HSm HPL hC22 ⊢
 have hbx := below_alloc w1 (Obj.cells #[Value.int .i64 p, Value.int .i64 d] 211)
 have HB := LH (hb1.trans (hbx.mono hb1.size))
 have e0 : (w1.alloc (Obj.cells #[Value.int .i64 p, Value.int .i64 d] 211)).cell? ⟨w1.heap.size, 0, none⟩ = some (.int .i64 p) := cell_alloc_new _ _ _ 0 _ rfl
 have e1 : (w1.alloc (Obj.cells #[Value.int .i64 p, Value.int .i64 d] 211)).cell? ⟨w1.heap.size, 1, none⟩ = some (.int .i64 d) := cell_alloc_new _ _ _ 1 _ rfl
 clear hb1 hbx HC HD
 by_cases hc : c = 0
 ·subst hc
  obtain ⟨ha, hp, hd⟩ := HSm.out rfl
  go_wp2_with fail
  refine (optr_any p d i _).mono ?_
  rintro e w2 ⟨rfl, hb2⟩
  generalize w1.alloc (Obj.cells #[Value.int .i64 p, Value.int .i64 d] 211) = w1' at *
  have HB2 := LH (HB.out.trans (hb2.mono HB.out.size))
  have f0 := below_cells hb2 e0 (Nat.le_refl _)
  have f1 := below_cells hb2 e1 (Nat.le_refl _)
  clear hb2 HB e0 e1
  cases data
  ·by_cases hi : 0 ≤ i ∧ i < p
   ·have hw1 : IntKind.i64.wrap (1 + i) = 1 + i := IntWalk.i64_in _ (by omega)
    have hw2 : IntKind.i64.wrap (a + (1 + i)) = a + (1 + i) := IntWalk.i64_in _ (by omega)
    have hd1 : decide (0 ≤ i ∧ i < p) = true := by simpa using hi
    have HV : Hid (pn = ⟨a + (1 + i), 0⟩) := LH (by rw [HPL.out, if_neg (by simp), if_neg (by simp), if_pos hi])
    rw [hd1, hw1]
    clear hi hd1
    go_wp2_with fail
    go_ret2
    exact ⟨by rw [HV.out]; rfl, HB2.out⟩
   ·have hd1 : decide (0 ≤ i ∧ i < p) = false := by simpa using hi
    have HV : Hid (pn = ⟨0, 7⟩) := LH (by rw [HPL.out, if_neg (by simp), if_neg (by simp), if_neg hi])
    rw [hd1]
    clear hi hd1
    go_wp2_with fail
    go_ret2
    exact ⟨by rw [HV.out]; rfl, HB2.out⟩
  ·generalize IntKind.i64.wrap (1 + i) = z1 at *
   generalize decide (0 ≤ i ∧ i < p) = bb at *
   go_wp2_with fail
   refine (odata_any p d i _).mono ?_
   rintro e w3 ⟨rfl, hb3⟩
   have HB3 := LH (HB2.out.trans (hb3.mono HB2.out.size))
   clear hb3 HB2 f0 f1
   have hw1 : IntKind.i64.wrap (1 + p) = 1 + p := IntWalk.i64_in _ (by omega)
   rw [hw1]
   by_cases hi : 0 ≤ i ∧ i < d
   ·have hw2 : IntKind.i64.wrap (1 + p + i) = 1 + p + i := IntWalk.i64_in _ (by omega)
    have hw3 : IntKind.i64.wrap (a + (1 + p + i)) = a + (1 + p + i) := IntWalk.i64_in _ (by omega)
    have hd1 : decide (0 ≤ i ∧ i < d) = true := by simpa using hi
    have HV : Hid (pn = ⟨a + (1 + p + i), 0⟩) := LH (by rw [HPL.out]; simp [hi])
    rw [hd1, hw2]
    clear hi hd1
    go_wp2_with fail
    go_ret2
    exact ⟨by rw [HV.out]; rfl, HB3.out⟩
   ·have hd1 : decide (0 ≤ i ∧ i < d) = false := by simpa using hi
    have HV : Hid (pn = ⟨0, 7⟩) := LH (by rw [HPL.out]; simp [hi])
    rw [hd1]
    clear hi hd1
    go_wp2_with fail
    go_ret2
    exact ⟨by rw [HV.out]; rfl, HB3.out⟩
 ·have hc2 : c = 22 := hC22.out.elim (fun h => absurd h hc) id
  subst hc2
  have HV : Hid (pn = ⟨0, 22⟩) := LH (by rw [HPL.out, if_pos hc])
  clear hc
  go_wp2_with fail
  go_ret2
  exact ⟨by rw [HV.out]; rfl, HB.out⟩
theorem headN_code2 (S : Dev) (a : Int) : (headN S a).code = 0 ∨ (headN S a).code = 22 := (headN_code S a).elim (fun h => .inl h.1) (fun h => .inr (by rw [h]))
def Dev.lastsTo (S : Dev) (a : Int) (k : Nat) : Prop := ∀ i : Nat, i < k → peek S.lasting (a + (i : Int)) = peek S.cache (a + (i : Int))
instance (S : Dev) (a : Int) (k : Nat) : Decidable (S.lastsTo a k) := Nat.decidableBallLT k _
structure AF where
 a : Nat
 X : MF
 U : SetF
 f : Nat
 mb : Nat
 R : List Nat
def AF.fix (A : AF) : List Nat := A.a :: (A.X.list ++ A.U.list)
def AF.list (A : AF) : List Nat := A.fix ++ A.R
def AF.hot (A : AF) : List Nat := A.X.hot ++ (A.U.list ++ A.R)
structure Al where
 bm : Bm
 used : List Bool
 fl : FL
def alV (A : AF) (B : Nat) : Array Value := #[.pointer (some ⟨A.X.m, 0, none⟩), vdev A.X.F, .int .i64 (B : Int), vset A.U, .pointer (some ⟨A.f, 0, none⟩)]
abbrev valloc (A : AF) : Value := .pointer (some ⟨A.a, 0, none⟩)
structure AlAt (w : World) (A : AF) (n B : Nat) (m : Al) : Prop where
 head : w.heap[A.a]? = some (.cells (alV A B) 77 (0, 0))
 man : ManAt w A.X n B m.bm
 set : SetAt w A.U m.used
 free : FreeAt w A.f A.mb n A.R m.fl
 nd : A.fix.Nodup
 nR : ∀ b ∈ A.R, b ∉ A.fix
 lenU : m.used.length = m.bm.dev.cache.length
theorem AlAt.mem {w : World} {A : AF} {n B : Nat} {m : Al} (h : AlAt w A n B m) : ∀ k ∈ A.list, k < w.heap.size := by
 intro k hk
 simp only [AF.list, AF.fix, List.mem_append, List.mem_cons] at hk
 rcases hk with (rfl | hk | hk) | hk
 ·exact (Array.getElem?_eq_some_iff.1 h.head).1
 ·exact h.man.mem k hk
 ·exact h.set.mem k hk
 ·exact h.free.mem k hk
theorem AlAt.keep {w w' : World} {A : AF} {n B : Nat} {m : Al} (h : AlAt w A n B m) (hk : ∀ k ∈ A.list, w'.heap[k]? = w.heap[k]?) : AlAt w' A n B m :=
 ⟨(hk A.a (by simp [AF.list, AF.fix])).trans h.head, h.man.keep (fun k h => hk k (by simp [AF.list, AF.fix, h])), h.set.keep (fun k h => hk k (by simp [AF.list, AF.fix, h])), h.free.keep (fun k h => hk k (by simp [AF.list, h])), h.nd, h.nR, h.lenU⟩
theorem AlAt.below {w w' : World} {A : AF} {n B : Nat} {m : Al} (h : AlAt w A n B m) (hb : Below w.heap.size w w') : AlAt w' A n B m := h.keep (fun k hk => hb.block k (h.mem k hk))
theorem AlAt.c0 {w : World} {A : AF} {n B : Nat} {m : Al} (h : AlAt w A n B m) : w.cell? ⟨A.a, 0, none⟩ = some (.pointer (some ⟨A.X.m, 0, none⟩)) := cell_of_row _ _ 0 _ _ _ h.head
theorem AlAt.c1 {w : World} {A : AF} {n B : Nat} {m : Al} (h : AlAt w A n B m) : w.cell? ⟨A.a, 1, none⟩ = some (vdev A.X.F) := cell_of_row _ _ 1 _ _ _ h.head
theorem AlAt.c2 {w : World} {A : AF} {n B : Nat} {m : Al} (h : AlAt w A n B m) : w.cell? ⟨A.a, 2, none⟩ = some (.int .i64 (B : Int)) := cell_of_row _ _ 2 _ _ _ h.head
theorem AlAt.c3 {w : World} {A : AF} {n B : Nat} {m : Al} (h : AlAt w A n B m) : w.cell? ⟨A.a, 3, none⟩ = some (vset A.U) := cell_of_row _ _ 3 _ _ _ h.head
theorem AlAt.c4 {w : World} {A : AF} {n B : Nat} {m : Al} (h : AlAt w A n B m) : w.cell? ⟨A.a, 4, none⟩ = some (.pointer (some ⟨A.f, 0, none⟩)) := cell_of_row _ _ 4 _ _ _ h.head
theorem tlen_any {w : World} {p g c B : Nat} {F : Foot} {l : List Hd} (h : TabG w p g c F B l) :
  Calls Tryz.prog 120 #[.pointer (some ⟨p, 0, none⟩)] w fun e w' => e = .returned (.int .i64 (B : Int)) ∧ w = w' := by
 have c2 : w.cell? ⟨p, 2, none⟩ = some (.slice (some ⟨g, 0, none⟩) B c) := cell_of_row _ _ 2 _ _ _ h.head
 clear h
 go_enter Tryz.func120, Tryz.ntmps120
 go_wp2_with fail
 go_ret
 exact ⟨rfl, rfl⟩
end
section
def isCell (L : List Hd) (k a : Nat) : Prop :=
 512 ≤ a ∧ a < 512 * L.length ∧ L.getD (a / 512) default = ⟨1, k, 0⟩ ∧ a % 512 % clsWords k = 0 ∧ a % 512 / clsWords k < clsCells k
instance (L : List Hd) (k a : Nat) : Decidable (isCell L k a) := by unfold isCell; infer_instance
def placedN (S : Dev) (L : List Hd) (a : Int) : Option Odec :=
 if a < 512 ∨ 512 * (L.length : Int) ≤ a ∨ (headN S a).code ≠ 0 then none
 else if small (objSize (headN S a).p (headN S a).d) then (if isCell L (ofN (objSize (headN S a).p (headN S a).d : Nat)) a.toNat then some (headN S a) else none)
 else if a.toNat % 512 = 0 ∧ wholeN L (a.toNat / 512) = objBlocks (objSize (headN S a).p (headN S a).d) then some (headN S a) else none
theorem placed_head {S : Dev} {L : List Hd} {a : Int} {o : Odec} (h : placedN S L a = some o) : headN S a = o ∧ o.code = 0 ∧ 512 ≤ a ∧ a < 512 * (L.length : Int) := by
 unfold placedN at h
 split at h
 ·cases h
 ·rename_i h0
  have hc : (headN S a).code = 0 := Decidable.byContradiction fun h => h0 (.inr (.inr h))
  split at h
  ·split at h
   ·cases h; exact ⟨rfl, hc, by omega, by omega⟩
   ·cases h
  ·split at h
   ·cases h; exact ⟨rfl, hc, by omega, by omega⟩
   ·cases h
def roomN (p d : Int) : Nat := if small (objSize p d) then clsWords (ofN (objSize p d : Nat) : Nat) else 512 * objBlocks (objSize p d)
theorem ofN_lt {n : Nat} (h : small n) : ofN (n : Int) < 32 := by
 unfold small at h
 obtain ⟨h1, h2⟩ := h
 unfold ofN
 have : (sizesL.findIdx fun s : Nat => decide ((n : Int) ≤ (s : Int))) < sizesL.length := by
  rw [List.findIdx_lt_length]
  refine ⟨256, by decide, ?_⟩
  simp; omega
 exact this
theorem wholeN_fits {L : List Hd} {b : Nat} (h : wholeN L b ≠ 0) : b < L.length ∧ (L.getD b default).k = 2 ∧ ((wholeN L b : Nat) : Int) = (L.getD b default).l ∧ b + wholeN L b ≤ L.length ∧ ∀ i, 1 ≤ i → i < wholeN L b → L.getD (b + i) default = ⟨3, 0, i⟩ := by
 unfold wholeN at h ⊢
 by_cases c1 : L.length ≤ b ∨ (L.getD b default).k ≠ 2 ∨ (L.getD b default).l < 1 ∨ (L.length : Int) - b < (L.getD b default).l
 ·rw [if_pos c1] at h; exact absurd rfl h
 ·rw [if_neg c1] at h ⊢
  by_cases c2 : contTo L b (L.getD b default).l.toNat = true
  ·rw [if_pos c2] at h ⊢
   exact ⟨by omega, by omega, by omega, by omega, fun i h1 h2 => contTo_at c2 i h1 h2⟩
  ·rw [if_neg c2] at h; exact absurd rfl h
inductive RoomAt (L : List Hd) (a n : Nat) : Prop
 | cell (k : Nat) (hk : k < 32) (hc : isCell L k a) (hn : n = clsWords k)
 | run (m : Nat) (hb : a % 512 = 0) (h1 : 512 ≤ a) (hm : 1 ≤ m) (hw : wholeN L (a / 512) = m) (hn : n = 512 * m)
theorem placed_room {S : Dev} {L : List Hd} {a : Nat} {o : Odec} (h : placedN S L (a : Int) = some o) : RoomAt L a (roomN o.p o.d) := by
 obtain ⟨hh, _, h1, h2⟩ := placed_head h
 unfold placedN at h
 rw [hh] at h
 split at h
 ·cases h
 ·unfold roomN
  by_cases hs : small (objSize o.p o.d)
  ·rw [if_pos hs] at h ⊢
   split at h
   ·next hc => exact .cell _ (ofN_lt hs) hc rfl
   ·cases h
  ·rw [if_neg hs] at h ⊢
   split at h
   ·next hc =>
    refine .run _ hc.1 (by omega) ?_ hc.2 rfl
    have hw := hc.2
    unfold objBlocks
    rw [if_neg hs]
    have h0 : objSize o.p o.d ≠ 0 := by
     have := headN_code S (a : Int)
     rw [hh] at this
     rcases this with this | this
     ·exact this.2.2.2.1
     ·rename_i hb
      rw [this] at hb
      exact absurd (.inr (.inr (by simp))) hb
    omega
   ·cases h
theorem isCell_kind {L : List Hd} {k a : Nat} (h : isCell L k a) : (L.getD (a / 512) default).k = 1 := by rw [h.2.2.1]
theorem wholeN_of {L : List Hd} {b m : Nat} (hm : 1 ≤ m) (h : L.getD b default = ⟨2, 0, m⟩) (hf : b + m ≤ L.length) (hc : ∀ i, 1 ≤ i → i < m → L.getD (b + i) default = ⟨3, 0, i⟩) : wholeN L b = m := by
 unfold wholeN
 rw [h]
 dsimp only
 rw [if_neg (by omega), Int.toNat_natCast, if_pos (contTo_of hc)]
def cellOf (b k i : Nat) : Nat := 512 * b + i * clsWords k
def Al.carved (m : Al) (b k : Nat) : FL := m.fl.carve (fun a => m.used.getD a false) (cellOf b k) k (clsCells k)
variable {B : Nat} {m : Al}
variable {B : Nat} {m : Al}
theorem addI_new {l : List Bool} {a : Nat} (ha : a < l.length) (h : l.getD a false = false) : addI l (a : Int) = l.set a true := by
 unfold addI freshI
 rw [hasI_nat, h, if_pos]
 ·rfl
 ·simp; omega
end
section
def blockOf (B a : Int) : Int := if a < 0 ∨ B * 512 ≤ a then -1 else a / 512
theorem gblockOf_any (B : Nat) (hB : B ≤ 1000) (a : Int) (w : World) : Calls Tryz.prog 109 #[vgeom (B : Int), .int .i64 a] w fun e w' => e = .returned (.int .i64 (blockOf (B : Int) a)) ∧ Below w.heap.size w w' := by
 have HB := LH (below_alloc w (Obj.cells #[.int .i64 (B : Int)] 44))
 have c0 : (w.alloc (Obj.cells #[.int .i64 (B : Int)] 44)).cell? ⟨w.heap.size, 0, none⟩ = some (.int .i64 (B : Int)) := cell_alloc_new _ _ _ 0 _ rfl
 by_cases h1 : a < 0
 ·have HE : Hid (blockOf (B : Int) a = -1) := LH (by unfold blockOf; rw [if_pos (.inl h1)])
  go_enter Tryz.func109, Tryz.ntmps109
  go_wp2_with fail
  go_ret
  exact ⟨ret_int HE.out.symm, HB.out⟩
 by_cases h2 : (B : Int) * 512 ≤ a
 ·have HE : Hid (blockOf (B : Int) a = -1) := LH (by unfold blockOf; rw [if_pos (.inr h2)])
  go_enter Tryz.func109, Tryz.ntmps109
  go_wp2_with fail
  refine (gwords_any _ _ (by omega) (by omega)).mono ?_
  rintro e w1 ⟨rfl, hb1⟩
  have HB1 := LH (HB.out.trans (hb1.mono HB.out.size))
  clear hb1
  go_wp2_with fail
  go_ret
  exact ⟨ret_int HE.out.symm, HB1.out⟩
 have HE : Hid (blockOf (B : Int) a = a / 512) := LH (by unfold blockOf; rw [if_neg (by omega)])
 have h3 : 0 ≤ a := by omega
 have h4 : a < (B : Int) * 512 := by omega
 go_enter Tryz.func109, Tryz.ntmps109
 go_wp2_with fail
 refine (gwords_any _ _ (by omega) (by omega)).mono ?_
 rintro e w1 ⟨rfl, hb1⟩
 have HB1 := LH (HB.out.trans (hb1.mono HB.out.size))
 clear hb1
 go_wp2_with fail
 go_ret
 exact ⟨ret_int HE.out.symm, HB1.out⟩
def firstOf (B b : Int) : Int := if b < 0 ∨ B ≤ b then -1 else b * 512
theorem gfirst_any (B : Nat) (hB : B ≤ 1000) (b : Int) (w : World) : Calls Tryz.prog 183 #[vgeom (B : Int), .int .i64 b] w fun e w' => e = .returned (.int .i64 (firstOf (B : Int) b)) ∧ Below w.heap.size w w' := by
 by_cases h1 : b < 0
 ·have HE : Hid (firstOf (B : Int) b = -1) := LH (by unfold firstOf; rw [if_pos (.inl h1)])
  go_enter Tryz.func183, Tryz.ntmps183
  go_wp2_with fail
  go_ret
  exact ⟨ret_int HE.out.symm, below_alloc _ _⟩
 by_cases h2 : (B : Int) ≤ b
 ·have HE : Hid (firstOf (B : Int) b = -1) := LH (by unfold firstOf; rw [if_pos (.inr h2)])
  go_enter Tryz.func183, Tryz.ntmps183
  go_wp2_with fail
  go_ret
  exact ⟨ret_int HE.out.symm, below_alloc _ _⟩
 have HE : Hid (firstOf (B : Int) b = b * 512) := LH (by unfold firstOf; rw [if_neg (by omega)])
 have h3 : 0 ≤ b := by omega
 have h4 : b < (B : Int) := by omega
 go_enter Tryz.func183, Tryz.ntmps183
 go_wp2_with fail
 go_ret
 exact ⟨ret_int HE.out.symm, below_alloc _ _⟩
theorem gdata_any (B : Nat) (hB : B ≤ 1000) (a : Int) (w : World) : Calls Tryz.prog 204 #[vgeom (B : Int), .int .i64 a] w fun e w' => e = .returned (.bool (decide (1 ≤ blockOf (B : Int) a))) ∧ Below w.heap.size w w' := by
 have HB := LH (below_alloc w (Obj.cells #[.int .i64 (B : Int)] 44))
 go_enter Tryz.func204, Tryz.ntmps204
 go_wp2_with fail
 refine (gblockOf_any B hB a _).mono ?_
 rintro e w1 ⟨rfl, hb1⟩
 have HB1 := LH (HB.out.trans (hb1.mono HB.out.size))
 clear hb1
 go_wp2_with fail
 go_ret
 exact ⟨rfl, HB1.out⟩
def cellAt (B k b i : Int) : Int :=
 if ¬ (0 ≤ k ∧ k < 32) ∨ b < 1 ∨ B ≤ b ∨ i < 0 ∨ (clsCells k : Int) ≤ i then -1 else b * 512 + i * (clsWords k : Int)
theorem caddr_any (B : Nat) (hB : B ≤ 1000) (k b i : Int) (w : World) : Calls Tryz.prog 163 #[vgeom (B : Int), .int .i64 k, .agg #[.int .i64 b, .int .i64 i]] w fun e w' => e = .returned (.int .i64 (cellAt (B : Int) k b i)) ∧ Below w.heap.size w w' := by
 have HM := LH (Mem.two w #[.int .i64 (B : Int)] 44 #[.int .i64 b, .int .i64 i] 266)
 have HP : Hid (∀ (x : Int) (w' : World), x = cellAt (B : Int) k b i → Below w.heap.size w w' → (fun e w' => e = Ending.returned (.int .i64 (cellAt (B : Int) k b i)) ∧ Below w.heap.size w w') (.returned (.int .i64 x)) w') := LH (fun x w' h1 h2 => by subst h1; exact ⟨rfl, h2⟩)
 generalize (fun e w' => e = Ending.returned (.int .i64 (cellAt (B : Int) k b i)) ∧ Below w.heap.size w w') = Post at *
 have HC : Hid (cellAt (B : Int) k b i = if ¬ (0 ≤ k ∧ k < 32) ∨ b < 1 ∨ (B : Int) ≤ b ∨ i < 0 ∨ (clsCells k : Int) ≤ i then -1 else b * 512 + i * (clsWords k : Int)) := LH rfl
 have hcl : clsCells k ≤ 512 := Nat.div_le_self _ _
 have hwl := clsWords_le k
 generalize cellAt (B : Int) k b i = x at *
 go_enter Tryz.func163, Tryz.ntmps163
 go_upto_region 1 with fail
 generalize (w.alloc _).alloc _ = w0 at *
 obtain ⟨q, hq⟩ : ∃ q, q = w.heap.size := ⟨_, rfl⟩
 rw [← hq] at HM ⊢
 clear hq
 have c0 := HM.out.cell 0 0 rfl rfl
 have c1 := HM.out.cell 1 0 rfl rfl
 have c2 := HM.out.cell 1 1 rfl rfl
 have r0 := fun x => later_cell c0 x
 have r1 := fun x => later_cell c1 x
 have r2 := fun x => later_cell c2 x
 have hpos := fun h => clsWords_pos k h
 by_cases hk : 0 ≤ k ∧ k < 32
 case neg =>
  have HE : Hid (-1 = x) := LH (by rw [HC.out, if_pos (.inl hk)])
  have HK : Hid (decide (0 ≤ k ∧ k < 32) = false) := LH (by simpa using hk)
  have HR : Hid (∀ x : Later w0, Calls Tryz.prog 131 #[.int .i64 k] x.val fun e w' => e = .returned (.bool false) ∧ Below x.val.heap.size x.val w') := LH (fun x => (cright_any k x.val).mono (by rintro e w' ⟨rfl, rfl⟩; rw [HK.out]; exact ⟨rfl, Below.refl _ _⟩))
  clear hk hpos
  refine wp_region_later (by kernel_rfl) (by kernel_rfl) ?_
  repeat (quiet_step ((rename_i x; exact calls_later (HR.out x))))
  refine wpQuiet_nil ?_
  rintro w5 ⟨x5, hx5⟩
  have HM5 := LH (HM.out.later (W' := w5) (by rw [hx5]; exact x5.below))
  clear hx5 c0 c1 c2 r0 r1 r2 HM
  go_wp2_with fail
  exact HP.out _ _ HE.out HM5.out.below
 have HR : Hid (∀ x : Later w0, Calls Tryz.prog 131 #[.int .i64 k] x.val fun e w' => e = .returned (.bool true) ∧ Below x.val.heap.size x.val w') := LH (fun x => (cright_any k x.val).mono (by rintro e w' ⟨rfl, rfl⟩; rw [decide_eq_true hk]; exact ⟨rfl, Below.refl _ _⟩))
 have hp2 := hpos hk
 clear hpos
 by_cases hout : b < 1 ∨ (B : Int) ≤ b ∨ i < 0
 ·have HE : Hid (-1 = x) := LH (by rw [HC.out, if_pos (by rcases hout with h | h | h; exact .inr (.inl h); exact .inr (.inr (.inl h)); exact .inr (.inr (.inr (.inl h))))])
  have hc : b < 1 ∨ (1 ≤ b ∧ (B : Int) ≤ b) ∨ (1 ≤ b ∧ b < (B : Int) ∧ i < 0) := by omega
  clear hout hk
  rcases hc with h1 | ⟨h1, h2⟩ | ⟨h1, h2, h3⟩
  all_goals
   refine wp_region_later (by kernel_rfl) (by kernel_rfl) ?_
   repeat (quiet_step ((rename_i x; exact calls_later (HR.out x))))
   refine wpQuiet_nil ?_
   rintro w5 ⟨x5, hx5⟩
   have HM5 := LH (HM.out.later (W' := w5) (by rw [hx5]; exact x5.below))
   clear hx5 c0 c1 c2 r0 r1 r2 HM
   go_wp2_with fail
   exact HP.out _ _ HE.out HM5.out.below
 have h1 : 1 ≤ b := by omega
 have h2 : b < (B : Int) := by omega
 have h3 : 0 ≤ i := by omega
 clear hout
 obtain ⟨cn, hcn⟩ : ∃ cn, cn = clsCells k := ⟨_, rfl⟩
 have HCl : Hid (∀ x : Later w0, Calls Tryz.prog 162 #[.int .i64 k] x.val fun e w' => e = .returned (.int .i64 (cn : Int)) ∧ Below x.val.heap.size x.val w') := LH (fun x => by rw [hcn]; exact ccells_any k x.val)
 rw [← hcn] at HC hcl
 clear hcn
 by_cases h4 : (cn : Int) ≤ i
 ·have HE : Hid (-1 = x) := LH (by rw [HC.out, if_pos (.inr (.inr (.inr (.inr h4))))])
  clear hk
  refine wp_region_later (by kernel_rfl) (by kernel_rfl) ?_
  repeat (quiet_step ((rename_i x; first | (go_at_call 131; exact calls_later (HR.out x)) | (go_at_call 162; exact calls_later (HCl.out x)))))
  refine wpQuiet_nil ?_
  rintro w5 ⟨x5, hx5⟩
  have HM5 := LH (HM.out.later (W' := w5) (by rw [hx5]; exact x5.below))
  clear hx5 c0 c1 c2 r0 r1 r2 HM
  go_wp2_with fail
  exact HP.out _ _ HE.out HM5.out.below
 ·have h5 : i < (cn : Int) := by omega
  have HE : Hid (x = b * 512 + i * (clsWords k : Int)) := LH (by rw [HC.out, if_neg (by rintro (h | h | h | h | h); exact h hk; omega; omega; omega; exact h4 h)])
  clear h4
  refine wp_region_later (by kernel_rfl) (by kernel_rfl) ?_
  repeat (quiet_step ((rename_i x; first | (go_at_call 131; exact calls_later (HR.out x)) | (go_at_call 162; exact calls_later (HCl.out x)))))
  refine wpQuiet_nil ?_
  rintro w5 ⟨x5, hx5⟩
  have HM5 := LH (HM.out.later (W' := w5) (by rw [hx5]; exact x5.below))
  clear hx5 c0 c1 c2 r0 r1 r2 HM
  go_wp2_with fail
  have c0 := HM5.out.cell 0 0 rfl rfl
  have c1 := HM5.out.cell 1 0 rfl rfl
  have c2 := HM5.out.cell 1 1 rfl rfl
  have r0 := fun x => later_cell c0 x
  have r1 := fun x => later_cell c1 x
  have r2 := fun x => later_cell c2 x
  obtain ⟨wn, hwn⟩ : ∃ wn, wn = clsWords k := ⟨_, rfl⟩
  have HFi : Hid (∀ x : Later w5, Calls Tryz.prog 183 #[vgeom (B : Int), .int .i64 b] x.val fun e w' => e = .returned (.int .i64 (b * 512)) ∧ Below x.val.heap.size x.val w') := LH (fun x => by
   have := gfirst_any B hB b x.val
   rw [show firstOf (B : Int) b = b * 512 by unfold firstOf; rw [if_neg (by omega)]] at this
   exact this)
  have HWo : Hid (∀ x : Later w5, Calls Tryz.prog 185 #[.int .i64 k] x.val fun e w' => e = .returned (.int .i64 (wn : Int)) ∧ Below x.val.heap.size x.val w') := LH (fun x => by rw [hwn]; exact cwords_any k x.val)
  rw [← hwn] at HE hwl hp2
  have hm1 : 0 ≤ i * (wn : Int) := Int.mul_nonneg h3 (by omega)
  have hm2 : i * (wn : Int) ≤ 512 * 256 := Int.mul_le_mul (by omega) (by omega) (by omega) (by omega)
  clear hwn hk
  refine wp_region_later (by kernel_rfl) (by kernel_rfl) ?_
  repeat (quiet_step ((rename_i x; first | (go_at_call 183; exact calls_later (HFi.out x)) | (go_at_call 185; exact calls_later (HWo.out x)))))
  refine wpQuiet_nil ?_
  rintro w6 ⟨x6, hx6⟩
  have HM6 := LH (HM5.out.later (W' := w6) (by rw [hx6]; exact x6.below))
  clear hx6 c0 c1 c2 r0 r1 r2 HM5
  go_wp2_with fail
  have e1 : IntKind.i64.wrap (i * (wn : Int)) = i * (wn : Int) := IntWalk.i64_in _ (by omega)
  have e2 : IntKind.i64.wrap (b * 512 + i * (wn : Int)) = b * 512 + i * (wn : Int) := IntWalk.i64_in _ (by omega)
  refine HP.out _ _ ?_ HM6.out.below
  rw [e1, e2, HE.out]
end
section
open Go.Maps
def AF.re (A : AF) (R : List Nat) : AF := { A with R := R }
def AlGo (w w' : World) (A : AF) (n B : Nat) (m : Al) : Prop := ∃ R', AlAt w' (A.re R') n B m ∧ Touch A.hot w w' ∧ ∀ b ∈ R', b ∈ A.R ∨ w.heap.size ≤ b
theorem AlAt.fixlt {w : World} {A : AF} {n B : Nat} {m : Al} (h : AlAt w A n B m) {k : Nat} (hk : k ∈ A.fix) : k < w.heap.size := h.mem k (by simp [AF.list, hk])
theorem AlAt.setUsed {w w' : World} {A : AF} {n B : Nat} {m : Al} {l : List Bool} (h : AlAt w A n B m) (hs : SetAt w' A.U l) (ht : Touch A.U.list w w') (hl : l.length = m.used.length) : AlGo w w' A n B ⟨m.bm, l, m.fl⟩ := by
 have nd := h.nd
 unfold AF.fix at nd
 rw [List.nodup_cons, List.nodup_append] at nd
 refine ⟨A.R, ⟨(ht.block A.a (h.fixlt (by simp [AF.fix])) (fun hm => nd.1 (List.mem_append_right _ hm))).trans h.head, h.man.keep (fun k hk => ht.block k (h.fixlt (by simp [AF.fix, hk])) (fun hm => nd.2.2.2 k hk k hm rfl)), hs, h.free.keep (fun k hk => ht.block k (h.mem k (by simp [AF.list, hk])) (fun hm => h.nR k hk (by simp [AF.fix, hm]))), h.nd, h.nR, by rw [hl]; exact h.lenU⟩, ht.wide (fun b hb => by simp [AF.hot, hb]), fun b hb => .inl hb⟩
theorem cellAt_of {B k b i : Nat} (hk : k < 32) (hb : 1 ≤ b) (hbB : b < B) (hi : i < clsCells k) : cellAt (B : Int) (k : Int) (b : Int) (i : Int) = (cellOf b k i : Nat) := by
 unfold cellAt cellOf
 rw [if_neg (by omega), Int.natCast_add, Int.natCast_mul, Int.natCast_mul]
 omega
theorem nodup_len : ∀ (M : Nat) (l : List Nat), (∀ x ∈ l, x < M) → (∀ a, l.count a ≤ 1) → l.length ≤ M
 | 0, l, h, _ => by
  cases l with
  | nil => simp
  | cons x l => exact absurd (h x (by simp)) (by omega)
 | M + 1, l, h, h1 => by
  have e : l.length = (l.filter (fun x => x == M)).length + (l.filter (fun x => !(x == M))).length := by
   induction l with
   | nil => rfl
   | cons x l ih =>
    have := ih (fun y hy => h y (by simp [hy])) (fun a => Nat.le_trans (List.count_le_count_cons) (h1 a))
    by_cases c : x = M <;> simp [c] <;> omega
  have h2 : (l.filter (fun x => x == M)).length ≤ 1 := by
   rw [← List.countP_eq_length_filter]
   exact h1 M
  have h3 := nodup_len M (l.filter (fun x => !(x == M))) (fun x hx => by
   obtain ⟨g1, g2⟩ := List.mem_filter.1 hx
   have := h x g1
   simp at g2
   omega) (fun a => Nat.le_trans (List.Sublist.count_le a List.filter_sublist) (h1 a))
  omega
theorem FL.carve_upto {used : Nat → Bool} {at_ : Nat → Nat} {k : Nat} : ∀ {S : FL} {N : Nat}, S.upto N → ∀ n, (S.carve used at_ k n).upto (N + n)
 | S, N, h, 0 => h
 | S, N, h, n + 1 => by
  unfold FL.carve
  have h2 : (if used (at_ n) then S else S.pushed k (at_ n)).upto (N + 1) := by
   split
   ·exact h.mono (by omega)
   ·exact FL.pushed_upto h _ _
  exact (FL.carve_upto h2 n).mono (by omega)
theorem gfirstN_any (B : Nat) (hB : B ≤ 1000) (b : Nat) (hb : b < B) (w : World) : Calls Tryz.prog 183 #[vgeom (B : Int), .int .i64 (b : Int)] w fun e w' => e = .returned (.int .i64 ((b : Int) * 512)) ∧ Below w.heap.size w w' := by
 have := gfirst_any B hB (b : Int) w
 rw [show firstOf (B : Int) (b : Int) = (b : Int) * 512 by unfold firstOf; rw [if_neg (by omega)]] at this
 exact this
end
section
def begins (k a : Nat) : Bool := decide (a % 512 % clsWords k = 0 ∧ a % 512 / clsWords k < clsCells k)
theorem aggCell : Agg Tryz.prog 266 #[.int .i64 0, .int .i64 0] := ⟨⟨_, Tryz.underlying266, rfl⟩, by kernel_rfl⟩
theorem begins_at {B k a : Nat} (hk : k < 32) (h1 : 512 ≤ a) (h2 : a < 512 * B) : begins k a = decide (cellAt (B : Int) (k : Int) ((a / 512 : Nat) : Int) ((a % 512 / clsWords k : Nat) : Int) = (a : Int)) := by
 have hp := clsWords_pos (k : Int) (by omega)
 unfold begins
 have e := Nat.div_add_mod (a % 512) (clsWords k)
 have hlt := Nat.mod_lt (a % 512) (show 0 < clsWords (k : Int) by omega)
 by_cases hi : a % 512 / clsWords k < clsCells k
 ·have hc := cellAt_of (B := B) hk (b := a / 512) (by omega) (by omega) hi
  rw [hc]
  unfold cellOf
  rw [Nat.mul_comm (clsWords (k : Int))] at e
  generalize a % 512 / clsWords (k : Int) * clsWords (k : Int) = y at *
  generalize hz : a % 512 % clsWords (k : Int) = z at *
  rw [Bool.eq_iff_iff, decide_eq_true_eq, decide_eq_true_eq]
  omega
 ·have hc : cellAt (B : Int) (k : Int) ((a / 512 : Nat) : Int) ((a % 512 / clsWords k : Nat) : Int) = -1 := by
   unfold cellAt
   rw [if_pos]
   exact .inr (.inr (.inr (.inr (by omega))))
  rw [hc, decide_eq_false (fun h => hi h.2), decide_eq_false (by omega)]
def AtPost (k a : Nat) (w : World) : Ending → World → Prop := fun e w' => (∃ x y : Int, e = .returned (.tuple #[.agg #[.int .i64 x, .int .i64 y], .bool (begins k a)])) ∧ Below w.heap.size w w'
theorem cat_any (B : Nat) (hB : B ≤ 1000) (k a : Nat) (hk : k < 32) (h1 : 512 ≤ a) (h2 : a < 512 * B) (w : World) : Calls Tryz.prog 182 #[vgeom (B : Int), .int .i64 (k : Int), .int .i64 (a : Int)] w (AtPost k a w) := by
 have HM := LH (Mem.two w #[.int .i64 (B : Int)] 44 #[.int .i64 0, .int .i64 0] 266)
 have HP : Hid (∀ (x y : Int) b w', b = begins k a → Below w.heap.size w w' → AtPost k a w (.returned (.tuple #[.agg #[.int .i64 x, .int .i64 y], .bool b])) w') := LH (fun x y b w' h1 h2 => by subst h1; exact ⟨⟨x, y, rfl⟩, h2⟩)
 generalize AtPost k a w = Post at *
 have HBe := LH (begins_at (B := B) hk h1 h2)
 have hp := clsWords_pos (k : Int) (by omega)
 have hbo : blockOf (B : Int) (a : Int) = ((a / 512 : Nat) : Int) := by unfold blockOf; rw [if_neg (by omega)]; omega
 have HData := LH (fun w => gdata_any B hB (a : Int) w)
 have HBlk := LH (fun w => gblockOf_any B hB (a : Int) w)
 rw [hbo] at HData HBlk
 rw [decide_eq_true (show (1 : Int) ≤ ((a / 512 : Nat) : Int) by omega)] at HData
 have HWd := LH (fun w => cwords_any (k : Int) w)
 have HAd := LH (fun w => caddr_any B hB (k : Int) ((a / 512 : Nat) : Int) ((a % 512 / clsWords k : Nat) : Int) w)
 have HRg := LH (fun w => cright_any (k : Int) w)
 rw [decide_eq_true (show (0 : Int) ≤ (k : Int) ∧ (k : Int) < 32 by omega)] at HRg
 have hda : a < 512000 := by omega
 obtain ⟨b, hb⟩ : ∃ b, b = a / 512 := ⟨_, rfl⟩
 obtain ⟨o, ho⟩ : ∃ o, o = a % 512 := ⟨_, rfl⟩
 have ho2 : (a : Int) % 512 = (o : Int) := by omega
 have ho5 : o < 512 := by omega
 rw [← hb] at HBlk HAd HBe
 rw [← ho] at HAd HBe
 obtain ⟨W, hW⟩ : ∃ W, W = clsWords (k : Int) := ⟨_, rfl⟩
 rw [← hW] at HWd HAd HBe hp
 obtain ⟨i, hi⟩ : ∃ i, i = o / W := ⟨_, rfl⟩
 rw [← hi] at HAd HBe
 have hi2 : (o : Int) / (W : Int) = (i : Int) := by rw [hi]; rfl
 have hi3 : i ≤ 512 := by rw [hi]; exact Nat.le_trans (Nat.div_le_self _ _) (by omega)
 generalize cellAt (B : Int) (k : Int) (b : Int) (i : Int) = ca at *
 generalize begins k a = be at *
 clear hbo hb ho hW hi h1 h2
 go_enter Tryz.func182, Tryz.ntmps182
 go_upto_region 1 with fail
 obtain ⟨q, hq⟩ : ∃ q, q = w.heap.size := ⟨_, rfl⟩
 rw [← hq] at HM ⊢
 generalize (w.alloc _).alloc _ = w0 at *
 clear hq
 have c0 := HM.out.cell 0 0 rfl rfl
 go_wp2_with fail
 refine (HRg.out _).mono ?_
 rintro e w1 ⟨rfl, rfl⟩
 go_wp2_with fail
 refine (HData.out _).mono ?_
 rintro e w1 ⟨rfl, hb1⟩
 have HM1 := LH (HM.out.later hb1)
 clear hb1 c0
 have c0 := HM1.out.cell 0 0 rfl rfl
 go_wp2_with fail
 refine (HBlk.out _).mono ?_
 rintro e w2 ⟨rfl, hb2⟩
 have HM2 := LH (HM1.out.later hb2)
 clear hb2 c0
 go_wp2_with fail
 refine (HWd.out _).mono ?_
 rintro e w3 ⟨rfl, hb3⟩
 have HM3 := LH (HM2.out.later hb3)
 clear hb3
 go_upto_region 4 with fail
 have HM4 := LH (HM3.out.alloc #[.int .i64 (b : Int), .int .i64 (i : Int)] 266)
 obtain ⟨q4, hq4⟩ : ∃ q4, q4 = w3.heap.size := ⟨_, rfl⟩
 rw [← hq4] at HM4 ⊢
 generalize w3.alloc _ = w4 at *
 clear hq4
 have d0 := HM4.out.cell 2 0 rfl rfl
 have d1 := HM4.out.cell 2 1 rfl rfl
 have c1 := HM4.out.cell 0 0 rfl rfl
 have hnd := HM4.out.nd
 simp only [List.map_cons, List.map_nil, List.cons_append, List.nil_append, List.nodup_cons, List.mem_cons, List.not_mem_nil, or_false, not_or] at hnd
 have hq1 : q ∉ [q + 1] := by simp
 have hq2 : q4 ∉ [q + 1] := by simp; exact fun e => hnd.2.1 e.symm
 have r0 := fun x => near_cell (L := [q + 1]) d0 hq2 x
 have r1 := fun x => near_cell (L := [q + 1]) d1 hq2 x
 have r2 := fun x => near_cell (L := [q + 1]) c1 hq1 x
 have HT0 : Hid (Touch [q + 1] w4 w4.drew) := LH (Touch.ofBelow (later_below (later_drew w4)))
 have HD0 : Hid (Below w4.heap.size w4 w4.drew) := LH (later_below (later_drew w4))
 have hC1 := near_of HT0.out
 clear d0 d1 c1 hnd hq1 hq2
 refine wp_region_seg (C := fun w' => ∃ x : Near [q + 1] w4, w' = x.val) [.fl [0, 1, 2, 3, 5], .sq [4] true, .fl [6], .sq [7] true, .sq [8] false] (by kernel_rfl) (by kernel_rfl) (by intro c a d v w h; cases d <;> exact h) ?_
 simp only [segs, picks, List.getElem?_cons_succ, List.getElem?_cons_zero]
 refine wpSeg_fl hC1 ?_
 repeat (first | go_big_quiet_step (fail) | quiet_step (fail))
 refine wpQuiet_nil ?_
 clear r0 r1 r2
 generalize w4.drew = w5 at *
 refine wpSeg_sq (fun K hK => ?_)
 go_wp2_with fail
 refine (HAd.out _).mono ?_
 rintro e w6 ⟨rfl, hb6⟩
 have HM6 := LH (HM4.out.later (HD0.out.trans (hb6.mono HD0.out.size)))
 have HT6 : Hid (Touch [q + 1] w4 w6) := LH (HT0.out.later hb6)
 have hC2 := near_of HT6.out
 clear hb6
 go_wp2_with fail
 refine hK _ _ (fun _ => hC2) ?_
 clear hK K
 refine wpSeg_fl hC2 ?_
 repeat (first | go_big_quiet_step (fail) | quiet_step (fail))
 refine wpQuiet_nil ?_
 refine wpSeg_sq (fun K hK => ?_)
 go_wp2_with (refine wpList_store_mem aggCell HM6.out 1 rfl rfl rfl rfl rfl rfl rfl rfl ?_; intro w7 h7 ht7; have H7 := LH h7; have HT7 := LH (HT6.out.trans ht7); clear h7 ht7)
 have hC3 := near_of HT7.out
 go_wp2_with fail
 refine hK _ _ (fun _ => hC3) ?_
 clear hK K
 refine wpSeg_last ?_
 go_wp2_with fail
 refine bodyPost_ret (results_cell_row2 (p := 6) (u := 7) rfl _ _ _ _ _ _ _ rfl (H7.out.exact 1 rfl) Tryz.underlying266 rfl (by kernel_rfl)) rfl ?_
 refine HP.out _ _ _ _ ?_ H7.out.below
 rw [HBe.out]
 rfl
def PlPost (S : Dev) (L : List Hd) (a : Int) (w : World) : Ending → World → Prop := fun e w' => (∃ p d : Int, e = .returned (.tuple #[vob p d, .bool (placedN S L a).isSome]) ∧ ∀ o, placedN S L a = some o → o = ⟨p, d, 0⟩) ∧ Below w.heap.size w w'
theorem headN_cases (S : Dev) (a : Int) : headN S a = ⟨0, 0, 22⟩ ∨ ∃ p d, headN S a = ⟨p, d, 0⟩ := by
 rcases headN_code S a with h | h
 ·refine .inr ⟨(headN S a).p, (headN S a).d, ?_⟩
  have := h.1
  generalize headN S a = o at *
  obtain ⟨p, d, c⟩ := o
  dsimp only at this
  rw [this]
 ·exact .inl h
theorem aplaced_any {w : World} {F : Foot} {S : Dev} (h : DevAt w F S) (a : Option Addr) (B cap : Nat) (L : List Hd) (hlen : L.length = B) (hc : Cells w a (hdCs L)) (hB : B ≤ 1000) (hS : S.cache.length ≤ 1000000) (x : Int) :
  Calls Tryz.prog 159 #[vdev F, vgeom (B : Int), .slice a B cap, .int .i64 x] w (PlPost S L x w) := by
 have HM := LH (Mem.two w #[.int .i64 (B : Int)] 44 #[.int .i64 0, .int .i64 0] 211)
 have HP : Hid (∀ (p d : Int) b w', b = (placedN S L x).isSome → (∀ o, placedN S L x = some o → o = ⟨p, d, 0⟩) → Below w.heap.size w w' → PlPost S L x w (.returned (.tuple #[vob p d, .bool b])) w') := LH (fun p d b w' h1 h2 h3 => by subst h1; exact ⟨⟨p, d, rfl, h2⟩, h3⟩)
 generalize PlPost S L x w = Post at *
 have HD0 := LH (h.below HM.out.below)
 have HC0 := LH (hc.below HM.out.below (Nat.le_refl _))
 have HLen := LH hlen
 have HBlk := LH (fun w => gblockOf_any B hB x w)
 clear h hc hlen
 go_enter Tryz.func159, Tryz.ntmps159
 go_upto_region 1 with fail
 obtain ⟨q, hq⟩ : ∃ q, q = w.heap.size := ⟨_, rfl⟩
 rw [← hq] at HM ⊢
 generalize (w.alloc _).alloc _ = w0 at *
 clear hq
 have c0 := HM.out.cell 0 0 rfl rfl
 by_cases hin : x < 512 ∨ 512 * (B : Int) ≤ x
 ·have HN : Hid (placedN S L x = none) := LH (by unfold placedN; rw [if_pos (by rw [HLen.out]; omega)])
  have hbb : blockOf (B : Int) x < 1 := by unfold blockOf; split <;> omega
  have HBb := LH HBlk.out
  generalize blockOf (B : Int) x = bb at *
  clear hin
  go_wp2_with fail
  refine (HBlk.out _).mono ?_
  rintro e w1 ⟨rfl, hb1⟩
  have HM1 := LH (HM.out.later hb1)
  clear hb1 c0
  go_wp2_with (refine wpList_store_mem aggOb HM1.out 1 rfl rfl rfl rfl rfl rfl rfl rfl ?_; intro w7 h7 ht7; have H7 := LH h7; clear h7 ht7)
  refine bodyPost_ret (results_cell_row2 (p := 8) (u := 9) rfl _ _ _ _ _ _ _ rfl (H7.out.exact 1 rfl) Tryz.underlying211 rfl (by kernel_rfl)) rfl ?_
  refine HP.out _ _ _ _ (by rw [HN.out]; rfl) (fun o ho => by rw [HN.out] at ho; cases ho) H7.out.below
 obtain ⟨y, hy⟩ : ∃ y : Nat, x = (y : Int) := ⟨x.toNat, by omega⟩
 subst hy
 have h1 : 512 ≤ y := by omega
 have h2 : y < 512 * B := by omega
 have hbo : blockOf (B : Int) (y : Int) = ((y / 512 : Nat) : Int) := by unfold blockOf; rw [if_neg (by omega)]; omega
 rw [hbo] at HBlk
 obtain ⟨b, hb⟩ : ∃ b, b = y / 512 := ⟨_, rfl⟩
 have hb1 : 1 ≤ b := by omega
 have hb2 : b < B := by omega
 rw [← hb] at HBlk
 have HBy := LH hb
 have HPl : Hid (placedN S L (y : Int) = if (headN S (y : Int)).code ≠ 0 then none
  else if small (objSize (headN S (y : Int)).p (headN S (y : Int)).d) then (if isCell L (ofN (objSize (headN S (y : Int)).p (headN S (y : Int)).d : Nat)) y then some (headN S (y : Int)) else none)
  else if y % 512 = 0 ∧ wholeN L b = objBlocks (objSize (headN S (y : Int)).p (headN S (y : Int)).d) then some (headN S (y : Int)) else none) := LH (by
  unfold placedN
  rw [Int.toNat_natCast, ← hb, HLen.out]
  by_cases c : (headN S (y : Int)).code ≠ 0
  ·rw [if_pos (.inr (.inr c)), if_pos c]
  ·rw [if_neg (by omega), if_neg c])
 clear hbo hin hb
 go_wp2_with fail
 refine (HBlk.out _).mono ?_
 rintro e w1 ⟨rfl, hb1'⟩
 have HM1 := LH (HM.out.later hb1')
 have HD1 := LH (HD0.out.below hb1')
 have HC1 := LH (HC0.out.below hb1' (Nat.le_refl _))
 clear hb1' c0
 go_wp2_with fail
 refine (ohead_any HD1.out (y : Int)).mono ?_
 rintro e w2 ⟨rfl, hb2'⟩
 have HM2 := LH (HM1.out.later hb2')
 have HD2 := LH (HD1.out.below hb2')
 have HC2 := LH (HC1.out.below hb2' (Nat.le_refl _))
 clear hb2'
 unfold Odec.val
 rcases headN_cases S (y : Int) with hh | ⟨p, d, hh⟩
 ·have HN : Hid (placedN S L (y : Int) = none) := LH (by rw [HPl.out, hh]; rfl)
  rw [hh]
  dsimp only
  go_upto_region 5 with fail
  have HM3 := LH (HM2.out.alloc #[.int .i64 0, .int .i64 0] 211)
  generalize w2.alloc _ = w3 at *
  go_wp2_with (refine wpList_store_mem aggOb HM3.out 1 rfl rfl rfl rfl rfl rfl rfl rfl ?_; intro w7 h7 ht7; have H7 := LH h7; clear h7 ht7)
  refine bodyPost_ret (results_cell_row2 (p := 8) (u := 9) rfl _ _ _ _ _ _ _ rfl (H7.out.exact 1 rfl) Tryz.underlying211 rfl (by kernel_rfl)) rfl ?_
  refine HP.out _ _ _ _ (by rw [HN.out]; rfl) (fun o ho => by rw [HN.out] at ho; cases ho) H7.out.below
 have HS0 : Hid (objSize p d ≠ 0) := LH (by
  have := headN_code S (y : Int)
  rw [hh] at this
  rcases this with h | h
  ·exact h.2.2.2.1
  ·injection h with _ _ h3; cases h3)
 rw [hh]
 have HPl2 : Hid (placedN S L (y : Int) = if small (objSize p d) then (if isCell L (ofN (objSize p d : Nat)) y then some ⟨p, d, 0⟩ else none)
  else if y % 512 = 0 ∧ wholeN L b = objBlocks (objSize p d) then some ⟨p, d, 0⟩ else none) := LH (by rw [HPl.out, hh, if_neg (by simp)])
 dsimp only
 clear HPl HBlk
 have HSm := LH (fun w => osmall_any p d w)
 have HBl := LH (fun w => oblocks_any p d w)
 generalize objSize p d = s at *
 go_upto_region 7 with fail
 have HB3 := LH (below_alloc w2 (Obj.cells #[.int .i64 p, .int .i64 d] 211))
 have HM3 := LH (HM2.out.alloc #[.int .i64 p, .int .i64 d] 211)
 have HC3 := LH (HC2.out.below HB3.out (Nat.le_refl _))
 obtain ⟨q3, hq3⟩ : ∃ q3, q3 = w2.heap.size := ⟨_, rfl⟩
 rw [← hq3] at HM3 ⊢
 generalize w2.alloc _ = w3 at *
 clear hq3
 obtain ⟨k, c, z, he⟩ := hdGetD L b
 obtain ⟨b1, o1, rfl, e0, e1, e2⟩ := hd_cells HC3.out (by rw [HLen.out]; exact hb2) he
 have HEb := LH he
 clear he
 have hbB : (b : Int) < (B : Int) := by omega
 go_upto_region 8 with fail
 have HB4 := LH (below_alloc w3 (Obj.cells #[.int .i64 k, .int .i64 c, .int .i64 z] 107))
 have HM4 := LH (HM3.out.alloc #[.int .i64 k, .int .i64 c, .int .i64 z] 107)
 have HC4 := LH (HC3.out.below HB4.out (Nat.le_refl _))
 obtain ⟨q4, hq4⟩ : ∃ q4, q4 = w3.heap.size := ⟨_, rfl⟩
 rw [← hq4] at HM4 ⊢
 generalize w3.alloc _ = w4 at *
 clear hq4 e0 e1 e2
 have d0 := HM4.out.cell 2 0 rfl rfl
 have d1 := HM4.out.cell 2 1 rfl rfl
 go_wp2_with fail
 refine (HSm.out _).mono ?_
 rintro e w5 ⟨rfl, hb5⟩
 have HM5 := LH (HM4.out.later hb5)
 have HC5 := LH (HC4.out.below hb5 (Nat.le_refl _))
 clear hb5 d0 d1
 have hnd := HM5.out.nd
 simp only [List.map_cons, List.map_nil, List.cons_append, List.nil_append, List.nodup_cons, List.mem_cons, List.not_mem_nil, or_false, not_or] at hnd
 have hn0 : q ∉ [q + 1] := by simp
 have hn2 : q3 ∉ [q + 1] := by simp; exact fun e => hnd.2.1.1 e.symm
 have hn3 : q4 ∉ [q + 1] := by simp; exact fun e => hnd.2.1.2 e.symm
 have HNs := LH (And.intro hn0 (And.intro hn2 hn3))
 clear hnd hn0 hn2 hn3
 by_cases hsm : small s
 ·have hk := ofN_lt hsm
  rw [ofV_small _ hsm]
  have HPl3 : Hid (placedN S L (y : Int) = if isCell L (ofN (s : Int)) y then some ⟨p, d, 0⟩ else none) := LH (by rw [HPl2.out, if_pos hsm])
  generalize ofN (s : Int) = kk at *
  have HIs : Hid (isCell L kk y ↔ begins kk y = true ∧ (⟨k, c, z⟩ : Hd) = ⟨1, kk, 0⟩) := LH (by
   unfold isCell begins
   rw [← HBy.out, HEb.out, decide_eq_true_eq, HLen.out]
   constructor
   ·rintro ⟨_, _, h3, h4, h5⟩; exact ⟨⟨h4, h5⟩, h3⟩
   ·rintro ⟨⟨h4, h5⟩, h3⟩; exact ⟨h1, h2, h3, h4, h5⟩)
  have HAt := LH (fun w => cat_any B hB kk y hk h1 h2 w)
  clear HPl2 hsm HSm HBl
  have c0 := HM5.out.cell 0 0 rfl rfl
  go_wp2_with fail
  refine (HAt.out _).mono ?_
  rintro e w6 ⟨⟨ax, ay, rfl⟩, hb6⟩
  have HM6 := LH (HM5.out.later hb6)
  clear hb6 c0 HAt
  go_upto_region 11 with fail
  have HM7 := LH (HM6.out.alloc #[.int .i64 ax, .int .i64 ay] 266)
  generalize w6.alloc _ = w7 at *
  have d0 := HM7.out.cell 2 0 rfl rfl
  have d1 := HM7.out.cell 2 1 rfl rfl
  have d3 := HM7.out.cell 3 0 rfl rfl
  have d4 := HM7.out.cell 3 1 rfl rfl
  have d5 := HM7.out.cell 3 2 rfl rfl
  have r0 := fun x => near_cell (L := [q + 1]) d0 HNs.out.2.1 x
  have r1 := fun x => near_cell (L := [q + 1]) d1 HNs.out.2.1 x
  have r3 := fun x => near_cell (L := [q + 1]) d3 HNs.out.2.2 x
  have r4 := fun x => near_cell (L := [q + 1]) d4 HNs.out.2.2 x
  have r5 := fun x => near_cell (L := [q + 1]) d5 HNs.out.2.2 x
  have HT0 : Hid (Touch [q + 1] w7 w7.drew) := LH (Touch.ofBelow (later_below (later_drew w7)))
  have HD0 : Hid (Below w7.heap.size w7 w7.drew) := LH (later_below (later_drew w7))
  have hC1 := near_of HT0.out
  clear d0 d1 d3 d4 d5
  have hgd := gsBh
  cases hbg : begins kk y with
  | false =>
   have HN : Hid (placedN S L (y : Int) = none) := LH (by rw [HPl3.out, if_neg (fun h => by have := (HIs.out.1 h).1; rw [hbg] at this; cases this)])
   clear hbg HPl3 HIs
   refine wp_region_seg (C := fun w' => ∃ x : Near [q + 1] w7, w' = x.val) [.fl [0, 1, 2, 3, 4, 5, 6, 7], .sq [8] true, .sq [9] false] (by kernel_rfl) (by kernel_rfl) (by intro c a d v w h; cases d <;> exact h) ?_
   simp only [segs, picks, List.getElem?_cons_succ, List.getElem?_cons_zero]
   refine wpSeg_fl hC1 ?_
   repeat (first | go_big_quiet_step (fail) | quiet_step (fail))
   refine wpQuiet_nil ?_
   refine wpSeg_sq (fun K hK => ?_)
   go_wp2_with (refine wpList_store_mem aggOb (HM7.out.later HD0.out) 1 rfl rfl rfl rfl rfl rfl rfl rfl ?_; intro w8 h8 ht8; have H8 := LH h8; have HT8 := LH (HT0.out.trans ht8); clear h8 ht8)
   have hC2 := near_of HT8.out
   go_wp2_with fail
   refine hK _ _ (fun _ => hC2) ?_
   clear hK K
   refine wpSeg_last ?_
   go_wp2_with fail
   refine bodyPost_ret (results_cell_row2 (p := 8) (u := 9) rfl _ _ _ _ _ _ _ rfl (H8.out.exact 1 rfl) Tryz.underlying211 rfl (by kernel_rfl)) rfl ?_
   refine HP.out _ _ _ _ (by rw [HN.out]; rfl) (fun o ho => by rw [HN.out] at ho; cases ho) H8.out.below
  | true =>
   by_cases hq : (⟨k, c, z⟩ : Hd) = ⟨1, kk, 0⟩
   ·have heq : ∀ w', (Op.equalIn 10000 107 (.agg #[.int .i64 k, .int .i64 c, .int .i64 z]) (.agg #[.int .i64 1, .int .i64 (kk : Int), .int .i64 0])).run Tryz.prog w' = .ok true w' := fun w' => equalBh w' _ _ _ _ _ _ _ (by rw [← hd_beq]; simp [hq])
    have HN : Hid (placedN S L (y : Int) = some ⟨p, d, 0⟩) := LH (by rw [HPl3.out, if_pos (HIs.out.2 ⟨hbg, hq⟩)])
    clear hbg HPl3 HIs hq
    refine wp_region_seg (C := fun w' => ∃ x : Near [q + 1] w7, w' = x.val) [.fl [0, 1, 2, 3, 4, 5, 6, 7], .sq [8] true, .sq [9] false] (by kernel_rfl) (by kernel_rfl) (by intro c a d v w h; cases d <;> exact h) ?_
    simp only [segs, picks, List.getElem?_cons_succ, List.getElem?_cons_zero]
    refine wpSeg_fl hC1 ?_
    repeat (first | go_big_quiet_step (fail) | quiet_step (fail))
    refine wpQuiet_nil ?_
    refine wpSeg_sq (fun K hK => ?_)
    go_wp2_with (refine wpList_store_mem aggOb (HM7.out.later HD0.out) 1 rfl rfl rfl rfl rfl rfl rfl rfl ?_; intro w8 h8 ht8; have H8 := LH h8; have HT8 := LH (HT0.out.trans ht8); clear h8 ht8)
    have hC2 := near_of HT8.out
    go_wp2_with fail
    refine hK _ _ (fun _ => hC2) ?_
    clear hK K
    refine wpSeg_last ?_
    go_wp2_with fail
    refine bodyPost_ret (results_cell_row2 (p := 8) (u := 9) rfl _ _ _ _ _ _ _ rfl (H8.out.exact 1 rfl) Tryz.underlying211 rfl (by kernel_rfl)) rfl ?_
    refine HP.out _ _ _ _ (by rw [HN.out]; rfl) (fun o ho => by rw [HN.out] at ho; cases ho; rfl) H8.out.below
   ·have heq : ∀ w', (Op.equalIn 10000 107 (.agg #[.int .i64 k, .int .i64 c, .int .i64 z]) (.agg #[.int .i64 1, .int .i64 (kk : Int), .int .i64 0])).run Tryz.prog w' = .ok false w' := fun w' => equalBh w' _ _ _ _ _ _ _ (by rw [← hd_beq]; simp [hq])
    have HN : Hid (placedN S L (y : Int) = none) := LH (by rw [HPl3.out, if_neg (fun h => hq (HIs.out.1 h).2)])
    clear hbg HPl3 HIs hq
    refine wp_region_seg (C := fun w' => ∃ x : Near [q + 1] w7, w' = x.val) [.fl [0, 1, 2, 3, 4, 5, 6, 7], .sq [8] true, .sq [9] false] (by kernel_rfl) (by kernel_rfl) (by intro c a d v w h; cases d <;> exact h) ?_
    simp only [segs, picks, List.getElem?_cons_succ, List.getElem?_cons_zero]
    refine wpSeg_fl hC1 ?_
    repeat (first | go_big_quiet_step (fail) | quiet_step (fail))
    refine wpQuiet_nil ?_
    refine wpSeg_sq (fun K hK => ?_)
    go_wp2_with (refine wpList_store_mem aggOb (HM7.out.later HD0.out) 1 rfl rfl rfl rfl rfl rfl rfl rfl ?_; intro w8 h8 ht8; have H8 := LH h8; have HT8 := LH (HT0.out.trans ht8); clear h8 ht8)
    have hC2 := near_of HT8.out
    go_wp2_with fail
    refine hK _ _ (fun _ => hC2) ?_
    clear hK K
    refine wpSeg_last ?_
    go_wp2_with fail
    refine bodyPost_ret (results_cell_row2 (p := 8) (u := 9) rfl _ _ _ _ _ _ _ rfl (H8.out.exact 1 rfl) Tryz.underlying211 rfl (by kernel_rfl)) rfl ?_
    refine HP.out _ _ _ _ (by rw [HN.out]; rfl) (fun o ho => by rw [HN.out] at ho; cases ho) H8.out.below
 rw [ofV_large _ hsm]
 have HNb : Hid (1 ≤ objBlocks s) := LH (by
  unfold objBlocks
  rw [if_neg hsm]
  have := HS0.out
  omega)
 have HPl3 : Hid (placedN S L (y : Int) = if y % 512 = 0 ∧ wholeN L b = objBlocks s then some ⟨p, d, 0⟩ else none) := LH (by rw [HPl2.out, if_neg hsm])
 clear HPl2 hsm HSm
 have HWh := LH (bwhole_any (some ⟨b1, o1, none⟩) B cap L HLen.out w5 HC5.out hB b hb2)
 go_wp2_with fail
 refine HWh.out.mono ?_
 rintro e w6 hp6
 obtain ⟨hv6, hb6⟩ := hp6
 have HM6 := LH (HM5.out.later hb6)
 clear hb6 HWh
 have c0 := HM6.out.cell 0 0 rfl rfl
 have d0 := HM6.out.cell 2 0 rfl rfl
 have d1 := HM6.out.cell 2 1 rfl rfl
 have r0 := fun x => near_cell (L := [q + 1]) d0 HNs.out.2.1 x
 have r1 := fun x => near_cell (L := [q + 1]) d1 HNs.out.2.1 x
 have r2 := fun x => near_cell (L := [q + 1]) c0 HNs.out.1 x
 have HT0 : Hid (Touch [q + 1] w6 w6.drew) := LH (Touch.ofBelow (later_below (later_drew w6)))
 have HD0 : Hid (Below w6.heap.size w6 w6.drew) := LH (later_below (later_drew w6))
 have hC1 := near_of HT0.out
 clear c0 d0 d1
 have HFi := LH (fun w => gfirstN_any B hB b hb2 w)
 obtain ⟨nb, hnb⟩ : ∃ nb, nb = objBlocks s := ⟨_, rfl⟩
 rw [← hnb] at HPl3 HNb HBl
 obtain ⟨wn, hwn⟩ : ∃ wn, wn = wholeN L b := ⟨_, rfl⟩
 rw [← hwn] at HPl3 hv6
 clear hnb hwn
 by_cases hw0 : wn = 0
 ·subst hw0
  have hv7 : e = .returned (.tuple #[.int .i64 0, .bool false]) := by rw [hv6]; rfl
  have HN : Hid (placedN S L (y : Int) = none) := LH (by rw [HPl3.out, if_neg (by have := HNb.out; omega)])
  subst hv7
  clear hv6
  go_upto_region 13 with fail
  refine wp_region_seg (C := fun w' => ∃ x : Near [q + 1] w6, w' = x.val) [.fl [0, 1, 2, 3, 4, 5], .sq [6] true, .fl [7, 8, 9, 10, 11], .sq [12] true, .fl [13, 14], .sq [15] true, .sq [16] false] (by kernel_rfl) (by kernel_rfl) (by intro c a d v w h; cases d <;> exact h) ?_
  simp only [segs, picks, List.getElem?_cons_succ, List.getElem?_cons_zero]
  refine wpSeg_fl hC1 ?_
  repeat (first | go_big_quiet_step (fail) | quiet_step (fail))
  refine wpQuiet_nil ?_
  refine wpSeg_sq (fun K hK => ?_)
  go_wp2_with fail
  go_wp2_with fail
  refine hK _ _ (fun _ => hC1) ?_
  clear hK K
  refine wpSeg_fl hC1 ?_
  repeat (first | go_big_quiet_step (fail) | quiet_step (fail))
  refine wpQuiet_nil ?_
  refine wpSeg_sq (fun K hK => ?_)
  go_wp2_with fail
  go_wp2_with fail
  refine hK _ _ (fun _ => hC1) ?_
  clear hK K
  refine wpSeg_fl hC1 ?_
  repeat (first | go_big_quiet_step (fail) | quiet_step (fail))
  refine wpQuiet_nil ?_
  refine wpSeg_sq (fun K hK => ?_)
  go_wp2_with (refine wpList_store_mem aggOb (HM6.out.later HD0.out) 1 rfl rfl rfl rfl rfl rfl rfl rfl ?_; intro w8 h8 ht8; have H8 := LH h8; have HT8 := LH (HT0.out.trans ht8); clear h8 ht8)
  have hC2 := near_of HT8.out
  go_wp2_with fail
  refine hK _ _ (fun _ => hC2) ?_
  clear hK K
  refine wpSeg_last ?_
  go_wp2_with fail
  refine bodyPost_ret (results_cell_row2 (p := 8) (u := 9) rfl _ _ _ _ _ _ _ rfl (H8.out.exact 1 rfl) Tryz.underlying211 rfl (by kernel_rfl)) rfl ?_
  refine HP.out _ _ _ _ (by rw [HN.out]; rfl) (fun o ho => by rw [HN.out] at ho; cases ho) H8.out.below
 have hv7 : e = .returned (.tuple #[.int .i64 (wn : Int), .bool true]) := by rw [hv6, decide_eq_true hw0]
 subst hv7
 clear hv6
 have hb512 : b < 1000 := by omega
 go_upto_region 13 with fail
 by_cases hy5 : y = b * 512
 case neg =>
  have hy6 : ((y : Int) == (b : Int) * 512) = false := by simp; omega
  have HN : Hid (placedN S L (y : Int) = none) := LH (by rw [HPl3.out, if_neg (by have := HBy.out; omega)])
  clear hy5
  refine wp_region_seg (C := fun w' => ∃ x : Near [q + 1] w6, w' = x.val) [.fl [0, 1, 2, 3, 4, 5], .sq [6] true, .fl [7, 8, 9, 10, 11], .sq [12] true, .fl [13, 14], .sq [15] true, .sq [16] false] (by kernel_rfl) (by kernel_rfl) (by intro c a d v w h; cases d <;> exact h) ?_
  simp only [segs, picks, List.getElem?_cons_succ, List.getElem?_cons_zero]
  refine wpSeg_fl hC1 ?_
  repeat (first | go_big_quiet_step (fail) | quiet_step (fail))
  refine wpQuiet_nil ?_
  refine wpSeg_sq (fun K hK => ?_)
  go_wp2_with fail
  refine (HFi.out _).mono ?_
  rintro e w7 ⟨rfl, hb7⟩
  have HD7 := LH (HD0.out.trans (hb7.mono HD0.out.size))
  have HT7 := LH (HT0.out.later hb7)
  have hC2 := near_of HT7.out
  clear hb7
  go_wp2_with fail
  refine hK _ _ (fun _ => hC2) ?_
  clear hK K
  refine wpSeg_fl hC2 ?_
  repeat (first | go_big_quiet_step (fail) | quiet_step (fail))
  refine wpQuiet_nil ?_
  refine wpSeg_sq (fun K hK => ?_)
  go_wp2_with fail
  go_wp2_with fail
  refine hK _ _ (fun _ => hC2) ?_
  clear hK K
  refine wpSeg_fl hC2 ?_
  repeat (first | go_big_quiet_step (fail) | quiet_step (fail))
  refine wpQuiet_nil ?_
  refine wpSeg_sq (fun K hK => ?_)
  go_wp2_with (refine wpList_store_mem aggOb (HM6.out.later HD7.out) 1 rfl rfl rfl rfl rfl rfl rfl rfl ?_; intro w8 h8 ht8; have H8 := LH h8; have HT8 := LH (HT7.out.trans ht8); clear h8 ht8)
  have hC3 := near_of HT8.out
  go_wp2_with fail
  refine hK _ _ (fun _ => hC3) ?_
  clear hK K
  refine wpSeg_last ?_
  go_wp2_with fail
  refine bodyPost_ret (results_cell_row2 (p := 8) (u := 9) rfl _ _ _ _ _ _ _ rfl (H8.out.exact 1 rfl) Tryz.underlying211 rfl (by kernel_rfl)) rfl ?_
  refine HP.out _ _ _ _ (by rw [HN.out]; rfl) (fun o ho => by rw [HN.out] at ho; cases ho) H8.out.below
 have hy6 : ((y : Int) == (b : Int) * 512) = true := by simp; omega
 have HN : Hid (placedN S L (y : Int) = if wn = nb then some ⟨p, d, 0⟩ else none) := LH (by
  rw [HPl3.out]
  by_cases c : wn = nb
  ·rw [if_pos ⟨by omega, c⟩, if_pos c]
  ·rw [if_neg (fun h => c h.2), if_neg c])
 clear hy5
 refine wp_region_seg (C := fun w' => ∃ x : Near [q + 1] w6, w' = x.val) [.fl [0, 1, 2, 3, 4, 5], .sq [6] true, .fl [7, 8, 9, 10, 11], .sq [12] true, .fl [13, 14], .sq [15] true, .sq [16] false] (by kernel_rfl) (by kernel_rfl) (by intro c a d v w h; cases d <;> exact h) ?_
 simp only [segs, picks, List.getElem?_cons_succ, List.getElem?_cons_zero]
 refine wpSeg_fl hC1 ?_
 repeat (first | go_big_quiet_step (fail) | quiet_step (fail))
 refine wpQuiet_nil ?_
 refine wpSeg_sq (fun K hK => ?_)
 go_wp2_with fail
 refine (HFi.out _).mono ?_
 rintro e w7 ⟨rfl, hb7⟩
 have HD7 := LH (HD0.out.trans (hb7.mono HD0.out.size))
 have HT7 := LH (HT0.out.later hb7)
 have hC2 := near_of HT7.out
 clear hb7
 go_wp2_with fail
 refine hK _ _ (fun _ => hC2) ?_
 clear hK K
 refine wpSeg_fl hC2 ?_
 repeat (first | go_big_quiet_step (fail) | quiet_step (fail))
 refine wpQuiet_nil ?_
 refine wpSeg_sq (fun K hK => ?_)
 go_wp2_with fail
 refine (HBl.out _).mono ?_
 rintro e w8 ⟨rfl, hb8⟩
 have HD8 := LH (HD7.out.trans (hb8.mono HD7.out.size))
 have HT8 := LH (HT7.out.later hb8)
 have hC3 := near_of HT8.out
 clear hb8
 go_wp2_with fail
 refine hK _ _ (fun _ => hC3) ?_
 clear hK K
 refine wpSeg_fl hC3 ?_
 repeat (first | go_big_quiet_step (fail) | quiet_step (fail))
 refine wpQuiet_nil ?_
 refine wpSeg_sq (fun K hK => ?_)
 go_wp2_with (refine wpList_store_mem aggOb (HM6.out.later HD8.out) 1 rfl rfl rfl rfl rfl rfl rfl rfl ?_; intro w9 h9 ht9; have H9 := LH h9; have HT9 := LH (HT8.out.trans ht9); clear h9 ht9)
 have hC4 := near_of HT9.out
 go_wp2_with fail
 refine hK _ _ (fun _ => hC4) ?_
 clear hK K
 refine wpSeg_last ?_
 go_wp2_with fail
 refine bodyPost_ret (results_cell_row2 (p := 8) (u := 9) rfl _ _ _ _ _ _ _ rfl (H9.out.exact 1 rfl) Tryz.underlying211 rfl (by kernel_rfl)) rfl ?_
 refine HP.out _ _ _ _ ?_ (fun o ho => ?_) H9.out.below
 ·rw [HN.out]
  by_cases c : wn = nb
  ·subst c; simp
  ·rw [if_neg c]; simp; omega
 ·rw [HN.out] at ho
  split at ho
  ·cases ho; rfl
  ·cases ho
theorem aplace_any {w : World} {A : AF} {n B : Nat} {m : Al} (h : AlAt w A n B m) (hB : B ≤ 1000) (x : Int) :
  Calls Tryz.prog 118 #[valloc A, .int .i64 x] w (PlPost m.bm.dev m.bm.list x w) := by
 have HM := LH (Mem.one w #[.int .i64 0, .int .i64 0] 211)
 have HP : Hid (∀ (p d : Int) b w', b = (placedN m.bm.dev m.bm.list x).isSome → (∀ o, placedN m.bm.dev m.bm.list x = some o → o = ⟨p, d, 0⟩) → Below w.heap.size w w' → PlPost m.bm.dev m.bm.list x w (.returned (.tuple #[vob p d, .bool b])) w') := LH (fun p d b w' h1 h2 h3 => by subst h1; exact ⟨⟨p, d, rfl, h2⟩, h3⟩)
 have HLn : Hid (m.bm.list.length = B) := LH h.man.tab.len
 have HSm : Hid (m.bm.dev.cache.length ≤ 1000000) := LH h.man.dev.small
 generalize PlPost m.bm.dev m.bm.list x w = Post at *
 have HA0 := LH (h.below HM.out.below)
 have HAh := LH h
 clear h
 go_enter Tryz.func118, Tryz.ntmps118
 go_upto_region 1 with fail
 obtain ⟨q, hq⟩ : ∃ q, q = w.heap.size := ⟨_, rfl⟩
 have HQn : Hid (∀ k ∈ A.list, k ∉ [q]) := LH (fun k hk hm => by
  have := HAh.out.mem k hk
  simp at hm
  omega)
 rw [← hq] at HM ⊢
 generalize w.alloc _ = w0 at *
 clear hq
 have c0 := HA0.out.c0
 have c1 := HA0.out.c1
 have c2 := HA0.out.c2
 have c3 := HA0.out.man.c0
 have r0 := fun x => near_cell (L := [q]) c0 (HQn.out _ (by simp [AF.list, AF.fix])) x
 have r1 := fun x => near_cell (L := [q]) c1 (HQn.out _ (by simp [AF.list, AF.fix])) x
 have r2 := fun x => near_cell (L := [q]) c2 (HQn.out _ (by simp [AF.list, AF.fix])) x
 have r3 := fun x => near_cell (L := [q]) c3 (HQn.out _ (by simp [AF.list, AF.fix, MF.list])) x
 have HT0 : Hid (Touch [q] w0 w0.drew) := LH (Touch.ofBelow (later_below (later_drew w0)))
 have HD0 : Hid (Below w0.heap.size w0 w0.drew) := LH (later_below (later_drew w0))
 have hC1 := near_of HT0.out
 clear c0 c1 c2 c3
 refine wp_region_seg (C := fun w' => ∃ x : Near [q] w0, w' = x.val) [.fl [0, 1, 2, 3, 4, 5, 6, 7, 8, 9, 10, 11, 12, 13, 14, 16], .sq [15] true, .sq [17] false, .fl [18, 19], .sq [20, 21] false] (by kernel_rfl) (by kernel_rfl) (by intro c a d v w h; cases d <;> exact h) ?_
 simp only [segs, picks, List.getElem?_cons_succ, List.getElem?_cons_zero]
 refine wpSeg_fl hC1 ?_
 repeat (first | go_big_quiet_step (fail) | quiet_step (fail))
 refine wpQuiet_nil ?_
 clear r0 r1 r2 r3
 generalize w0.drew = w1 at *
 have HA1 := LH (HA0.out.below HD0.out)
 refine wpSeg_sq (fun K hK => ?_)
 go_wp2_with fail
 refine (tall_any HA1.out.man.tab hB).mono ?_
 rintro e w2 ⟨g, cg, rfl, hg1, hg2, hrow, hb2⟩
 have HD2 := LH (HD0.out.trans (hb2.mono HD0.out.size))
 have HT2 := LH (HT0.out.later hb2)
 have hC2 := near_of HT2.out
 have HR2 := LH hrow.cells
 clear hb2 hrow
 go_wp2_with fail
 refine hK _ _ (fun _ => hC2) ?_
 clear hK K
 have HA2 := LH (HA0.out.below HD2.out)
 refine wpSeg_sq (fun K hK => ?_)
 go_wp2_with fail
 refine (aplaced_any HA2.out.man.dev _ B cg m.bm.list HLn.out HR2.out hB HSm.out x).mono ?_
 rintro e w3 ⟨⟨p, d, rfl, ho⟩, hb3⟩
 have HO := LH ho
 have HD3 := LH (HD2.out.trans (hb3.mono HD2.out.size))
 have HT3 := LH (HT2.out.later hb3)
 have hC3 := near_of HT3.out
 clear ho hb3
 go_wp2_with fail
 refine hK _ _ (fun _ => hC3) ?_
 clear hK K
 refine wpSeg_fl hC3 ?_
 repeat (first | go_big_quiet_step (fail) | quiet_step (fail))
 refine wpQuiet_nil ?_
 refine wpSeg_last ?_
 go_wp2_with (refine wpList_store_mem aggOb (HM.out.later HD3.out) 0 rfl rfl rfl rfl rfl rfl rfl rfl ?_; intro w9 h9 ht9; have H9 := LH h9; clear h9 ht9)
 refine bodyPost_ret (results_cell_row2 (p := 4) (u := 5) rfl _ _ _ _ _ _ _ rfl (H9.out.exact 0 rfl) Tryz.underlying211 rfl (by kernel_rfl)) rfl ?_
 exact HP.out _ _ _ _ rfl HO.out H9.out.below
theorem aggRo : Agg Tryz.prog 109 #[.int .i64 0, .int .i64 0] := ⟨⟨_, Tryz.underlying109, rfl⟩, by kernel_rfl⟩
theorem rsize8_any (p d : Int) (w : World) : Calls Tryz.prog 38 #[vob p d] w fun e w' => e = .returned (.int .i64 (objSize p d : Nat)) ∧ Below w.heap.size w w' := by
 have HM := LH (Mem.one w #[.int .i64 p, .int .i64 d] 109)
 have HS : Hid (objSize p d = if p < 0 ∨ 63 < p ∨ d < 0 ∨ 16384 < d then 0 else (1 + p + d).toNat) := LH rfl
 generalize objSize p d = n at *
 go_enter Tryz.func38, Tryz.ntmps38
 go_upto_region 1 with fail
 generalize w.alloc _ = w0 at *
 have c0 := HM.out.cell 0 0 rfl rfl
 have c1 := HM.out.cell 0 1 rfl rfl
 by_cases h1 : p < 0
 ·have HV : Hid (n = 0) := LH (by rw [HS.out, if_pos (.inl h1)])
  go_wp2_with fail
  go_ret
  exact ⟨by rw [HV.out]; rfl, HM.out.below⟩
 by_cases h2 : 63 < p
 ·have HV : Hid (n = 0) := LH (by rw [HS.out, if_pos (.inr (.inl h2))])
  go_wp2_with fail
  go_ret
  exact ⟨by rw [HV.out]; rfl, HM.out.below⟩
 by_cases h3 : d < 0
 ·have HV : Hid (n = 0) := LH (by rw [HS.out, if_pos (.inr (.inr (.inl h3)))])
  go_wp2_with fail
  go_ret
  exact ⟨by rw [HV.out]; rfl, HM.out.below⟩
 by_cases h4 : 16384 < d
 ·have HV : Hid (n = 0) := LH (by rw [HS.out, if_pos (.inr (.inr (.inr h4)))])
  go_wp2_with fail
  go_ret
  exact ⟨by rw [HV.out]; rfl, HM.out.below⟩
 have HV : Hid ((n : Int) = 1 + p + d) := LH (by rw [HS.out, if_neg (by omega)]; omega)
 go_wp2_with fail
 go_ret
 exact ⟨ret_int HV.out.symm, HM.out.below⟩
theorem rencode8_any (p d a : Int) (w : World) : Calls Tryz.prog 39 #[vob p d, .int .i64 a] w fun e w' => e = .returned (vu64 (oencN a p d)) ∧ Below w.heap.size w w' := by
 have HM := LH (Mem.one w #[.int .i64 p, .int .i64 d] 109)
 have HE : Hid (oencN a p d = if objSize p d = 0 then 0 else sealN (obN p d) (pl a)) := LH rfl
 generalize oencN a p d = y at *
 go_enter Tryz.func39, Tryz.ntmps39
 go_upto_region 1 with fail
 generalize w.alloc _ = w0 at *
 go_wp2_with (refine wpList_load_mem aggRo HM.out 0 rfl rfl rfl rfl rfl ?_)
 refine (rsize8_any p d _).mono ?_
 rintro e w1 ⟨rfl, hb1⟩
 have HM1 := LH (HM.out.later hb1)
 clear hb1 HM
 by_cases hr : objSize p d = 0
 ·have HV : Hid (y = 0) := LH (by rw [HE.out, if_pos hr])
  rw [hr]
  clear hr
  go_wp2_with fail
  go_ret
  exact ⟨ret_int (by rw [HV.out]; rfl), HM1.out.below⟩
 ·have HV : Hid (y = sealN (obN p d) (pl a)) := LH (by rw [HE.out, if_neg hr])
  have hn := obN_lt hr
  obtain ⟨⟨p0, p1⟩, d0, d1⟩ := obj_small hr
  have HN : Hid (165 + 256 * p + 16384 * d = (obN p d : Int)) := LH (by unfold obN; omega)
  have hz : (((objSize p d : Nat) : Int) == 0) = false := by simp; omega
  have c0 := HM1.out.cell 0 0 rfl rfl
  have c1 := HM1.out.cell 0 1 rfl rfl
  generalize objSize p d = sz at *
  generalize obN p d = n at *
  clear hr
  have hw : IntKind.u32.wrap (165 + 256 * p + 16384 * d) = 165 + 256 * p + 16384 * d := IntWalk.u32_in _ (by omega)
  go_wp2_with fail
  rw [HN.out]
  refine (rseal_any n _ hn _).mono ?_
  rintro e w2 ⟨rfl, hb2⟩
  rw [← HV.out]
  go_wp2_with fail
  go_ret
  exact ⟨rfl, (HM1.out.later hb2).below⟩
theorem rdecode8_any (a : Int) (x : Nat) (hx : x < 18446744073709551616) (w : World) :
  Calls Tryz.prog 124 #[.int .i64 a, vu64 x] w fun e w' => e = .returned (odecN a x).val ∧ Below w.heap.size w w' := by
 have HM := LH (Mem.one w #[.int .i64 0, .int .i64 0] 109)
 have HOS : Hid ((odecN a x).code = 0 → objSize (odecN a x).p (odecN a x).d ≠ 0) := LH (fun h => (odec_size h).1)
 go_enter Tryz.func124, Tryz.ntmps124
 go_upto_region 1 with fail
 generalize w.alloc _ = w0 at *
 go_wp2_with fail
 refine (ropen_any x _ hx _).mono ?_
 rintro e w1 ⟨rfl, hbo⟩
 have HM1 := LH (HM.out.later hbo)
 clear hbo HM
 cases ho : openN x (pl a) with
 | none =>
  have HV := LH (odecN_none ho)
  clear ho
  simp only [openV]
  go_wp2_with (refine wpList_store_mem aggRo HM1.out 0 rfl rfl rfl rfl rfl rfl rfl rfl ?_; intro w9 h9 _; have H9 := LH h9; clear h9)
  refine bodyPost_ret (results_cell_row2 (p := 4) (u := 5) rfl _ _ _ _ _ _ _ rfl (H9.out.exact 0 rfl) Tryz.underlying109 rfl (by kernel_rfl)) rfl ⟨by rw [HV.out]; rfl, H9.out.below⟩
 | some n =>
  obtain ⟨hn, -⟩ := openN_some ho
  have HK := LH (odecN_ok ho)
  have HL := LH (odecN_bad ho)
  have HD := LH (odecN_some ho)
  have HDS : Hid (odecS a x n = if oencN a (n / 256 % 64 : Nat) (n / 16384 % 32768 : Nat) = x then ⟨(n / 256 % 64 : Nat), (n / 16384 % 32768 : Nat), 0⟩ else ⟨0, 0, 26⟩) := LH rfl
  clear ho
  simp only [openV]
  have h64 : n / 256 % 64 < 64 := by omega
  have h6 : n / 16384 % 32768 < 32768 := by omega
  have hmod1 : (n : Int) / 256 % 64 = ((n / 256 % 64 : Nat) : Int) := by omega
  have hmod2 : (n : Int) / 16384 % 32768 = ((n / 16384 % 32768 : Nat) : Int) := by omega
  have HM1' := LH (HM1.out.alloc #[.int .i64 ((n : Int) / 256 % 64), .int .i64 ((n : Int) / 16384 % 32768)] 109)
  have HMOD1 := LH hmod1
  have HMOD2 := LH hmod2
  clear hmod1 hmod2
  go_upto_region 5 with fail
  rw [HMOD1.out, HMOD2.out] at HM1' ⊢
  clear HMOD1 HMOD2
  generalize n / 256 % 64 = k at *
  generalize n / 16384 % 32768 = l at *
  generalize w1.alloc _ = w2 at *
  generalize w1.heap.size = g at *
  clear HM1
  go_wp2_with (refine wpList_load_mem aggRo HM1'.out 1 rfl rfl rfl rfl rfl ?_)
  refine (rsize8_any k l _).mono ?_
  rintro e w3 ⟨rfl, hb3⟩
  have HM3 := LH (HM1'.out.later hb3)
  clear hb3 HM1'
  by_cases hyx : oencN a k l = x
  ·have HV := LH (HK.out hyx)
   have hsz : objSize (k : Int) (l : Int) ≠ 0 := by
    have h1 := HOS.out
    rw [HD.out, HDS.out, if_pos hyx] at h1
    exact h1 rfl
   have hz : (((objSize (k : Int) (l : Int) : Nat) : Int) == 0) = false := by simp; omega
   generalize objSize (k : Int) (l : Int) = sz at *
   clear hsz
   have HYX := LH hyx
   clear hyx
   have c0 := HM3.out.cell 1 0 rfl rfl
   have c1 := HM3.out.cell 1 1 rfl rfl
   go_wp2_with fail
   clear c0 c1
   refine (rencode8_any k l a _).mono ?_
   rintro e w4 ⟨rfl, hb4⟩
   rw [HYX.out]
   have HM4 := LH (HM3.out.later hb4)
   clear hb4 HM3
   go_wp2_with (first | (refine wpList_load_mem aggRo HM4.out 1 rfl rfl rfl rfl rfl ?_) | (refine wpList_store_mem aggRo HM4.out 0 rfl rfl rfl rfl rfl rfl rfl rfl ?_; intro w9 h9 _; have H9 := LH h9; clear h9))
   refine bodyPost_ret (results_cell_row2 (p := 4) (u := 5) rfl _ _ _ _ _ _ _ rfl (H9.out.exact 0 rfl) Tryz.underlying109 rfl (by kernel_rfl)) rfl ⟨by rw [HV.out]; rfl, H9.out.below⟩
  ·have HV := LH (HL.out hyx)
   by_cases hsz : objSize (k : Int) (l : Int) = 0
   ·rw [hsz]
    clear hsz
    go_wp2_with (first | (refine wpList_load_mem aggRo HM3.out 1 rfl rfl rfl rfl rfl ?_) | (refine wpList_store_mem aggRo HM3.out 0 rfl rfl rfl rfl rfl rfl rfl rfl ?_; intro w9 h9 _; have H9 := LH h9; clear h9))
    refine bodyPost_ret (results_cell_row2 (p := 4) (u := 5) rfl _ _ _ _ _ _ _ rfl (H9.out.exact 0 rfl) Tryz.underlying109 rfl (by kernel_rfl)) rfl ⟨by rw [HV.out]; rfl, H9.out.below⟩
   have hz : (((objSize (k : Int) (l : Int) : Nat) : Int) == 0) = false := by simp; omega
   generalize objSize (k : Int) (l : Int) = sz at *
   clear hsz
   have HYX := LH hyx
   clear hyx
   have c0 := HM3.out.cell 1 0 rfl rfl
   have c1 := HM3.out.cell 1 1 rfl rfl
   go_wp2_with fail
   clear c0 c1
   refine (rencode8_any k l a _).mono ?_
   rintro e w4 ⟨rfl, hb4⟩
   have HM4 := LH (HM3.out.later hb4)
   clear hb4 HM3
   have hne : ¬ ((oencN a (k : Int) (l : Int) : Int) = (x : Int)) := by have := HYX.out; omega
   have hne2 : ((oencN a (k : Int) (l : Int) : Int) != (x : Int)) = true := by simp; have := HYX.out; omega
   generalize oencN a (k : Int) (l : Int) = y at *
   go_wp2_with (first | (refine wpList_load_mem aggRo HM4.out 1 rfl rfl rfl rfl rfl ?_) | (refine wpList_store_mem aggRo HM4.out 0 rfl rfl rfl rfl rfl rfl rfl rfl ?_; intro w9 h9 _; have H9 := LH h9; clear h9))
   refine bodyPost_ret (results_cell_row2 (p := 4) (u := 5) rfl _ _ _ _ _ _ _ rfl (H9.out.exact 0 rfl) Tryz.underlying109 rfl (by kernel_rfl)) rfl ⟨by rw [HV.out]; rfl, H9.out.below⟩
def headV (o : Odec) : Value := .tuple #[vob o.p o.d, .bool (decide (o.code = 0))]
theorem rhead15_any {w : World} {v : Value} {S : Dev} {m : Nat} (hm : S.dirty.length = m) (h : RAt w v m S.ref) {N : Nat} (hf : S.fit N) (a : Int) :
  Calls Tryz.prog 75 #[v, .int .i64 a] w fun e w' => e = .returned (headV (headN S a)) ∧ Below w.heap.size w w' := by
 subst hm
 obtain ⟨an, cn, al, cl, aw, cw, ad, cd, ap, cp, m, sv, fz, dd, rfl, ho, hdl, hm8, hsv, hfz⟩ := ropen h hf
 have HV : Hid (headN S a = if a < 0 ∨ (S.cache.length : Int) ≤ a then ⟨0, 0, 22⟩ else
  if (odecN a (peek S.cache a)).code ≠ 0 ∨ (S.cache.length : Int) - a < (objSize (odecN a (peek S.cache a)).p (odecN a (peek S.cache a)).d : Nat) then ⟨0, 0, 22⟩ else ⟨(odecN a (peek S.cache a)).p, (odecN a (peek S.cache a)).d, 0⟩) := LH rfl
 generalize headN S a = R at *
 have HPk := LH (peek_lt hf.wf.u64C a)
 have HO := LH ho
 have HCL := LH ho.cl
 clear h hf ho hdl
 have HM := LH (Mem.two w #[.slice an m cn, .slice al m cl, .slice aw m cw, .slice ad m cd, .slice ap m cp, .int .i64 sv, .int .i64 fz, .bool dd] 38 #[.int .i64 0, .int .i64 0] 109)
 go_enter Tryz.func75, Tryz.ntmps75
 go_upto_region 1 with fail
 generalize (w.alloc _).alloc _ = w0 at *
 have c0 := HM.out.cell 0 0 rfl rfl
 by_cases h1 : a < 0
 ·have HR : Hid (R = ⟨0, 0, 22⟩) := LH (by rw [HV.out, if_pos (.inl h1)])
  go_wp2_with (refine wpList_store_mem aggRo HM.out 1 rfl rfl rfl rfl rfl rfl rfl rfl ?_; intro w9 h9 _; have H9 := LH h9; clear h9)
  exact bodyPost_ret (results_cell_row2 (p := 4) (u := 5) rfl _ _ _ _ _ _ _ rfl (H9.out.exact 1 rfl) Tryz.underlying109 rfl (by kernel_rfl)) rfl ⟨by rw [HR.out]; rfl, H9.out.below⟩
 by_cases h2 : 8 * (m : Int) ≤ a
 ·have HR : Hid (R = ⟨0, 0, 22⟩) := LH (by rw [HV.out, if_pos (.inr (by rw [HCL.out]; omega))])
  go_wp2_with (refine wpList_store_mem aggRo HM.out 1 rfl rfl rfl rfl rfl rfl rfl rfl ?_; intro w9 h9 _; have H9 := LH h9; clear h9)
  exact bodyPost_ret (results_cell_row2 (p := 4) (u := 5) rfl _ _ _ _ _ _ _ rfl (H9.out.exact 1 rfl) Tryz.underlying109 rfl (by kernel_rfl)) rfl ⟨by rw [HR.out]; rfl, H9.out.below⟩
 have HV2 : Hid (R = if (odecN a (peek S.cache a)).code ≠ 0 ∨ 8 * (m : Int) - a < (objSize (odecN a (peek S.cache a)).p (odecN a (peek S.cache a)).d : Nat) then ⟨0, 0, 22⟩ else ⟨(odecN a (peek S.cache a)).p, (odecN a (peek S.cache a)).d, 0⟩) := LH (by
  rw [HV.out, if_neg (by rw [HCL.out]; omega), show (S.cache.length : Int) = 8 * (m : Int) by rw [HCL.out]; omega])
 clear HV
 go_wp2_with fail
 refine (rget_any an m cn S.cache _ (HO.out.k1.below HM.out.below (Nat.le_refl _)) HCL.out (by omega) a).mono ?_
 rintro e w1 ⟨rfl, rfl⟩
 generalize peek S.cache a = x at *
 go_wp2_with fail
 refine (rdecode8_any a x HPk.out _).mono ?_
 rintro e w1 ⟨rfl, hb1⟩
 have HM1 := LH (HM.out.later hb1)
 generalize odecN a x = o at *
 obtain ⟨p, d, c⟩ := o
 unfold Odec.val
 dsimp only at HV2 ⊢
 have HM2 := LH (HM1.out.alloc #[.int .i64 p, .int .i64 d] 109)
 clear hb1 HM c0 HM1
 go_upto_region 4 with fail
 generalize w1.alloc _ = w2 at *
 generalize w1.heap.size = g at *
 by_cases hc : c = 0
 ·subst hc
  have c0 := HM2.out.cell 0 0 rfl rfl
  have d0 := HM2.out.cell 2 0 rfl rfl
  have d1 := HM2.out.cell 2 1 rfl rfl
  have r0 := fun x => later_cell c0 x
  have r1 := fun x => later_cell d0 x
  have r2 := fun x => later_cell d1 x
  have hw : IntKind.i64.wrap (8 * (m : Int) - a) = 8 * (m : Int) - a := IntWalk.i64_in _ (by omega)
  refine wp_region_seg (C := fun w' => ∃ x : Later (w2), w' = x.val) [.sq [0, 1, 2] false, .fl [3, 5, 6, 7, 8, 9, 10], .sq [4] true, .sq [11, 12] false] (by kernel_rfl) (by kernel_rfl) (by intro c a d v w h; cases d <;> exact h) ?_
  simp only [segs, picks, List.getElem?_cons_succ, List.getElem?_cons_zero]
  have hC1 := later_drew (w2)
  refine wpSeg_sq (fun K hK => ?_)
  go_wp2_with fail
  refine hK _ _ (fun h => nomatch h) ?_
  clear hK K
  refine wpSeg_fl hC1 ?_
  repeat (first | go_big_quiet_step (fail) | quiet_step (fail))
  refine wpQuiet_nil ?_
  refine wpSeg_sq (fun K hK => ?_)
  go_wp2_with fail
  have HM3 := LH (HM2.out.later (later_below hC1))
  refine (rsize8_any p d _).mono ?_
  rintro e w3 ⟨rfl, hb3⟩
  have hC2 := later_step hC1 hb3
  have HM4 := LH (HM3.out.later hb3)
  clear hb3 HM3
  go_wp2_with fail
  refine hK _ _ (fun _ => hC2) ?_
  clear hK K
  clear HM2 c0 d0 d1 r0 r1 r2 hC1 hC2
  generalize objSize p d = sz at *
  by_cases h3 : 8 * (m : Int) - a < (sz : Int)
  ·have HR : Hid (R = ⟨0, 0, 22⟩) := LH (by rw [HV2.out, if_pos (.inr h3)])
   refine wpSeg_last ?_
   go_wp2_with (refine wpList_store_mem aggRo HM4.out 1 rfl rfl rfl rfl rfl rfl rfl rfl ?_; intro w9 h9 _; have H9 := LH h9; clear h9)
   exact bodyPost_ret (results_cell_row2 (p := 4) (u := 5) rfl _ _ _ _ _ _ _ rfl (H9.out.exact 1 rfl) Tryz.underlying109 rfl (by kernel_rfl)) rfl ⟨by rw [HR.out]; rfl, H9.out.below⟩
  ·have HR : Hid (R = ⟨p, d, 0⟩) := LH (by rw [HV2.out, if_neg (by simp; omega)])
   refine wpSeg_last ?_
   go_wp2_with (first | (refine wpList_load_mem aggRo HM4.out 2 rfl rfl rfl rfl rfl ?_) | (refine wpList_store_mem aggRo HM4.out 1 rfl rfl rfl rfl rfl rfl rfl rfl ?_; intro w9 h9 _; have H9 := LH h9; clear h9))
   exact bodyPost_ret (results_cell_row2 (p := 4) (u := 5) rfl _ _ _ _ _ _ _ rfl (H9.out.exact 1 rfl) Tryz.underlying109 rfl (by kernel_rfl)) rfl ⟨by rw [HR.out]; rfl, H9.out.below⟩
 ·have HR : Hid (R = ⟨0, 0, 22⟩) := LH (by rw [HV2.out, if_pos (.inl hc)])
  have hc1 : (c != 0) = true := by simpa using hc
  clear hc
  refine wp_region_seg (C := fun w' => ∃ x : Later (w2), w' = x.val) [.sq [0, 1, 2] false, .fl [3, 5, 6, 7, 8, 9, 10], .sq [4] true, .sq [11, 12] false] (by kernel_rfl) (by kernel_rfl) (by intro c a d v w h; cases d <;> exact h) ?_
  simp only [segs, picks, List.getElem?_cons_succ, List.getElem?_cons_zero]
  have hC1 := later_drew (w2)
  refine wpSeg_sq (fun K hK => ?_)
  go_wp2_with fail
  refine hK _ _ (fun h => nomatch h) ?_
  clear hK K
  refine wpSeg_fl hC1 ?_
  repeat (first | go_big_quiet_step (fail) | quiet_step (fail))
  refine wpQuiet_nil ?_
  refine wpSeg_sq (fun K hK => ?_)
  go_wp2_with fail
  go_wp2_with fail
  refine hK _ _ (fun _ => hC1) ?_
  clear hK K
  have HM4 := LH (HM2.out.later (later_below hC1))
  clear HM2 hC1
  refine wpSeg_last ?_
  go_wp2_with (refine wpList_store_mem aggRo HM4.out 1 rfl rfl rfl rfl rfl rfl rfl rfl ?_; intro w9 h9 _; have H9 := LH h9; clear h9)
  exact bodyPost_ret (results_cell_row2 (p := 4) (u := 5) rfl _ _ _ _ _ _ _ rfl (H9.out.exact 1 rfl) Tryz.underlying109 rfl (by kernel_rfl)) rfl ⟨by rw [HR.out]; rfl, H9.out.below⟩
def capP (x : Nat) : Nat := if 1099511627776 < x then 1099511627776 else x
theorem capP_le (x : Nat) : capP x ≤ 1099511627776 := by unfold capP; split <;> omega
theorem optrG_any {w : World} {F : Foot} {S : Dev} (h : DevAt w F S) (a i : Int) :
  Calls Tryz.prog 200 #[vdev F, .int .i64 a, .int .i64 i] w fun e w' => e = .returned (.tuple #[.int .i64 ((if (placeN S a i false).code = 0 then capP (peek S.cache (placeN S a i false).at_) else 0 : Nat) : Int), .int .i64 (placeN S a i false).code]) ∧ Below w.heap.size w w' := by
 have HD := LH h
 clear h
 obtain ⟨pn, hpn⟩ : ∃ pn, pn = placeN S a i false := ⟨_, rfl⟩
 rw [← hpn]
 have HPN := LH hpn
 clear hpn
 generalize hR : (if pn.code = 0 then capP (peek S.cache pn.at_) else 0 : Nat) = R
 have HR := LH hR
 clear hR
 go_enter Tryz.func200, Tryz.ntmps200
 go_wp2_with fail
 refine (ofield_any HD.out a i false).mono ?_
 rw [← HPN.out]
 rintro e w1 ⟨rfl, hb1⟩
 clear HPN
 obtain ⟨q, c⟩ := pn
 dsimp only at HR ⊢
 have HB := LH hb1
 have HD1 := LH (HD.out.below hb1)
 clear hb1 HD
 by_cases hc : c = 0
 ·subst hc
  go_wp2_with fail
  refine (dget_any HD1.out q).mono ?_
  rintro e w2 ⟨rfl, rfl⟩
  rw [if_pos trivial] at HR
  generalize peek S.cache q = x at *
  by_cases hx : 1099511627776 < x
  ·have HV : Hid (R = 1099511627776) := LH (by rw [← HR.out]; unfold capP; rw [if_pos hx])
   have hmin : min (x : Int) 1099511627776 = 1099511627776 := Int.min_eq_right (by omega)
   go_wp2_with fail
   go_ret2
   exact ⟨by rw [HV.out]; rfl, HB.out⟩
  ·have HV : Hid (R = x) := LH (by rw [← HR.out]; unfold capP; rw [if_neg hx])
   have hmin : min (x : Int) 1099511627776 = (x : Int) := Int.min_eq_left (by omega)
   go_wp2_with fail
   go_ret2
   exact ⟨by rw [HV.out]; rfl, HB.out⟩
 ·have hc1 : (c != 0) = true := by simpa using hc
  have HV : Hid (R = 0) := LH (by rw [← HR.out, if_neg hc])
  clear hc
  go_wp2_with fail
  go_ret2
  exact ⟨by rw [HV.out]; rfl, HB.out⟩
theorem rptr_any (x : Nat) (w : World) : Calls Tryz.prog 148 #[vu64 x] w fun e w' => e = .returned (.int .i64 (capP x : Nat)) ∧ w = w' := by
 by_cases hx : 1099511627776 < x
 ·have HV : Hid (capP x = 1099511627776) := LH (by unfold capP; rw [if_pos hx])
  have hx' : (1099511627776 : Int) < (x : Int) := by omega
  go_enter Tryz.func148, Tryz.ntmps148
  go_wp2_with fail
  go_ret
  exact ⟨by rw [HV.out]; rfl, rfl⟩
 ·have HV : Hid (capP x = x) := LH (by unfold capP; rw [if_neg hx])
  have hx' : ¬ (1099511627776 : Int) < (x : Int) := by omega
  go_enter Tryz.func148, Tryz.ntmps148
  go_wp2_with fail
  go_ret
  exact ⟨by rw [HV.out]; rfl, rfl⟩
def ptrL (S : Dev) (a : Int) (k : Nat) : List Nat := (List.range k).map fun i : Nat => capP (peek S.cache (a + 1 + (i : Int)))
theorem ptrL_succ (S : Dev) (a : Int) (k : Nat) : ptrL S a (k + 1) = ptrL S a k ++ [capP (peek S.cache (a + 1 + (k : Int)))] := by simp [ptrL, List.range_succ]
theorem ptrL_length (S : Dev) (a : Int) (k : Nat) : (ptrL S a k).length = k := by simp [ptrL]
def PtrsPost (S : Dev) (a : Int) (w : World) : Ending → World → Prop := fun e w' => Below w.heap.size w w' ∧
      (((headN S a).code = 0 ∧ ∃ v, e = .returned (.tuple #[v, .int .i64 0]) ∧ w'.ownsRow w.heap.size 3 1 v (headN S a).p.toNat ((ptrL S a (headN S a).p.toNat).map vi)) ∨
       ((headN S a).code = 22 ∧ e = .returned (.tuple #[.slice none 0 0, .int .i64 22])))
theorem optrs_any {w : World} {F : Foot} {S : Dev} (h : DevAt w F S) (a : Int) :
  Calls Tryz.prog 173 #[vdev F, .int .i64 a] w (PtrsPost S a w) := by
 generalize hP : PtrsPost S a w = Post
 have HP := LH hP
 clear hP
 have HSm := LH (head_small h.small (a := a))
 have HD := LH h
 have HPl : Hid (∀ i, placeN S a i false = if (headN S a).code ≠ 0 then ⟨0, 22⟩ else if false = true then (if 0 ≤ i ∧ i < (headN S a).d then ⟨a + (1 + (headN S a).p + i), 0⟩ else ⟨0, 7⟩) else (if 0 ≤ i ∧ i < (headN S a).p then ⟨a + (1 + i), 0⟩ else ⟨0, 7⟩)) := LH (fun i => rfl)
 clear h
 go_enter Tryz.func173, Tryz.ntmps173
 go_wp2_with fail
 refine (ohead_any HD.out a).mono ?_
 rintro e w1 ⟨rfl, hb1⟩
 have hC22 := headN_code2 S a
 generalize hX : headN S a = x at *
 have HX := LH hX
 clear hX
 obtain ⟨p, d, c⟩ := x
 unfold Odec.val
 dsimp only at HSm HPl hC22 ⊢
 have HM := LH (((Mem.start w).later hb1).alloc #[.int .i64 p, .int .i64 d] 211)
 clear hb1
 go_upto_region 2 with fail
 generalize w1.alloc _ = w2 at *
 generalize w1.heap.size = g at *
 have c0 := HM.out.cell 0 0 rfl rfl
 by_cases hc : c = 0
 ·subst hc
  obtain ⟨ha, ⟨hp0, hp1⟩, _⟩ := HSm.out rfl
  obtain ⟨n, rfl⟩ := Int.eq_ofNat_of_zero_le hp0
  have HPk : Hid (∀ k : Nat, k < n → placeN S a (k : Int) false = ⟨a + (1 + (k : Int)), 0⟩) := LH (fun k hk => by rw [HPl.out, if_neg (by simp), if_neg (by simp), if_pos (by omega)])
  clear hC22 HSm HPl
  go_wp2_with fail
  go_loopw [8, 23] (fun v i wr => ∃ k : Nat, k ≤ n ∧ i = .int .i64 k ∧ wr.ownsRow w2.heap.size 3 1 v k ((ptrL S a k).map vi) ∧ Below w2.heap.size w2 wr) (fun _ i _ => n - (intOf i).toNat)
  case atStart => exact ⟨0, Nat.zero_le _, rfl, ⟨rfl, .inl ⟨rfl, rfl⟩⟩, Below.refl _ _⟩
  case round =>
   obtain ⟨k, hk, rfl, ho, hb⟩ := hrel
   obtain ⟨a1, c1, rfl, hc1, hm1⟩ := owned_form ho
   have HO := LH ho
   have HB := LH hb
   clear ho hb
   by_cases hlt : k < n
   ·have hlt' : (k : Int) < (n : Int) := by omega
    have HS := LH (ptrL_succ S a k)
    go_wp2_with fail
    refine (optrG_any ((HD.out.below HM.out.below).below HB.out) a k).mono ?_
    rw [HPk.out k hlt]
    rintro e w3 ⟨rfl, hb3⟩
    rw [if_pos rfl]
    dsimp only
    rw [show a + (1 + (k : Int)) = a + 1 + (k : Int) by omega]
    generalize capP (peek S.cache (a + 1 + (k : Int))) = y at *
    have HO3 := LH (owned_below HO.out hb3 (Nat.le_refl _))
    have HB3 := LH (HB.out.trans (hb3.mono HB.out.size))
    have hone : Hid (∀ u ∈ (#[vi y] : Array Value).toList, u.oneCell' = true) := LH (by intro u hu; simp at hu; subst hu; rfl)
    have hbase : Hid (w2.heap.size ≤ w3.heap.size) := LH HB3.out.size
    have hk9 : k < 1000000000000 := by omega
    clear hb3 HO HB
    go_wp2_with (at_builtin; refine wpList_append_new (us := #[vi y]) elInt HO3.out rfl hone.out hk9 (by decide) hbase.out rfl rfl rfl (by simp [Act.eval]) ?_; intro g6 c6 w6 ho6 hg6 hc6 hm6 hb6 hl6; have HO6 := LH ho6; have HG6 := LH hg6; clear ho6 hg6)
    refine ⟨⟨k + 1, by omega, vint (by omega), ?_, below_grownBy HB3.out HO3.out HG6.out (Nat.le_refl _) (Nat.le_refl _)⟩, by simp [intOf]; omega⟩
    rw [HS.out]
    simpa using HO6.out
   ·obtain rfl : k = n := by omega
    have hlt' : decide ((k : Int) < (k : Int)) = false := by simp
    go_wp2_with fail
    rw [← HP.out]
    refine ⟨(HM.out.later HB.out).below, .inl ⟨by rw [HX.out], _, rfl, ?_⟩⟩
    rw [HX.out]
    exact owned_base HO.out HM.out.below.size
 ·have hc2 : c = 22 := hC22.elim (fun h => absurd h hc) id
  subst hc2
  clear hc hC22
  go_wp2_with fail
  rw [← HP.out]
  exact ⟨HM.out.below, .inr ⟨by rw [HX.out], rfl⟩⟩
def RList (e n : Nat) (vs : List Value) (w : World) : Ending → World → Prop := fun r w' => ∃ v, r = .returned v ∧ w'.ownsRow w.heap.size e 1 v n vs ∧ Below w.heap.size w w'
theorem rptrs15_any {w : World} {v : Value} {S : Dev} {m : Nat} (hm : S.dirty.length = m) (h : RAt w v m S.ref) {N : Nat} (hf : S.fit N) (a : Int) :
  Calls Tryz.prog 102 #[v, .int .i64 a] w (RList 3 (if (headN S a).code = 0 then (headN S a).p.toNat else 0) ((ptrL S a (if (headN S a).code = 0 then (headN S a).p.toNat else 0)).map vi) w) := by
 subst hm
 obtain ⟨an, cn, al, cl, aw, cw, ad, cd, ap, cp, m, sv, fz, dd, rfl, ho, hdl, hm8, hsv, hfz⟩ := ropen h hf
 have HRA := LH h
 have HF := LH hf
 have HSm := LH (head_small hf.wf.small (a := a))
 rw [hdl] at HRA
 have HK1 := LH ho.k1
 have HCL := LH ho.cl
 obtain ⟨n, hn⟩ : ∃ n, n = if (headN S a).code = 0 then (headN S a).p.toNat else 0 := ⟨_, rfl⟩
 rw [← hn]
 generalize hpo : RList 3 n ((ptrL S a n).map vi) w = Post
 have HDL := LH hdl
 have HN := LH hn
 have HPO := LH hpo
 clear hdl hn hpo
 clear h hf ho
 have HM := LH (Mem.one w #[.slice an m cn, .slice al m cl, .slice aw m cw, .slice ad m cd, .slice ap m cp, .int .i64 sv, .int .i64 fz, .bool dd] 38)
 go_enter Tryz.func102, Tryz.ntmps102
 go_upto_region 1 with fail
 generalize w.alloc _ = w0 at *
 go_wp2_with (refine wpList_load_mem aggRd HM.out 0 rfl rfl rfl rfl rfl ?_)
 refine (rhead15_any HDL.out (HRA.out.below HM.out.below (Nat.le_refl _)) HF.out a).mono ?_
 rintro e w1 ⟨rfl, hb1⟩
 generalize headN S a = x at *
 obtain ⟨p, d, c⟩ := x
 unfold headV
 dsimp only at HSm HN ⊢
 have HM2 := LH ((HM.out.later hb1).alloc #[.int .i64 p, .int .i64 d] 109)
 clear hb1 HM
 by_cases hc : c = 0
 ·subst hc
  obtain ⟨ha, ⟨hp0, hp1⟩, _⟩ := HSm.out rfl
  have hnp : p = (n : Int) := by have := HN.out; rw [if_pos rfl] at this; omega
  subst hnp
  rw [decide_eq_true (show (0 : Int) = 0 from rfl)]
  go_upto_region 2 with fail
  generalize w1.alloc _ = w2 at *
  generalize w1.heap.size = g at *
  go_wp2_with fail
  go_loopw [7, 8] (fun v i wr => ∃ k : Nat, k ≤ n ∧ i = .int .i64 k ∧ wr.ownsRow w2.heap.size 3 1 v k ((ptrL S a k).map vi) ∧ Below w2.heap.size w2 wr) (fun _ i _ => n - (intOf i).toNat)
  case atStart => exact ⟨0, Nat.zero_le _, rfl, ⟨rfl, .inl ⟨rfl, rfl⟩⟩, Below.refl _ _⟩
  case round =>
   obtain ⟨k, hk, rfl, ho, hb⟩ := hrel
   obtain ⟨a1, c1, rfl, hc1, hm1⟩ := owned_form ho
   have c0 := (HM2.out.later hb).cell 0 0 rfl rfl
   have o0 := (HM2.out.later hb).cell 1 0 rfl rfl
   have HO := LH ho
   have HB := LH hb
   clear ho hb
   by_cases hlt : k < n
   ·have hlt' : (k : Int) < (n : Int) := by omega
    have HS := LH (ptrL_succ S a k)
    go_wp2_with fail
    refine (rget_any an m cn S.cache _ (HK1.out.below (HM2.out.later HB.out).below (Nat.le_refl _)) HCL.out (by omega) _).mono ?_
    rintro e w3 ⟨rfl, rfl⟩
    generalize peek S.cache (a + 1 + (k : Int)) = y at *
    go_wp2_with fail
    refine (rptr_any y _).mono ?_
    rintro e w3 ⟨rfl, rfl⟩
    generalize capP y = y2 at *
    have hone : Hid (∀ u ∈ (#[vi y2] : Array Value).toList, u.oneCell' = true) := LH (by intro u hu; simp at hu; subst hu; rfl)
    have hbase : Hid (w2.heap.size ≤ wr.heap.size) := LH HB.out.size
    have hk9 : k < 1000000000000 := by omega
    clear c0 o0
    go_wp2_with (at_builtin; refine wpList_append_new (us := #[vi y2]) elInt HO.out rfl hone.out hk9 (by decide) hbase.out rfl rfl rfl (by simp [Act.eval]) ?_; intro g6 c6 w6 ho6 hg6 hc6 hm6 hb6 hl6; have HO6 := LH ho6; have HG6 := LH hg6; clear ho6 hg6)
    refine ⟨⟨k + 1, by omega, vint (by omega), ?_, below_grownBy HB.out HO.out HG6.out (Nat.le_refl _) (Nat.le_refl _)⟩, by simp [intOf]; omega⟩
    rw [HS.out]
    simpa using HO6.out
   ·obtain rfl : k = n := by omega
    have hlt' : decide ((k : Int) < (k : Int)) = false := by simp
    go_wp2_with fail
    rw [← HPO.out]
    exact ⟨_, rfl, owned_base HO.out HM2.out.below.size, (HM2.out.later HB.out).below⟩
 ·have hn0 : n = 0 := by rw [HN.out, if_neg hc]
  subst hn0
  rw [decide_eq_false hc]
  clear hc
  go_upto_region 2 with fail
  generalize w1.alloc _ = w2 at *
  generalize w1.heap.size = g at *
  go_wp2_with fail
  go_loopw [7, 8] (fun v i wr => v = .slice none 0 0 ∧ i = .int .i64 0 ∧ wr = w2) (fun _ i _ => 0)
  case atStart => exact ⟨rfl, rfl, rfl⟩
  case round =>
   obtain ⟨rfl, rfl, rfl⟩ := hrel
   go_wp2_with fail
   rw [← HPO.out]
   exact ⟨_, rfl, ⟨rfl, .inl ⟨rfl, rfl⟩⟩, HM2.out.below⟩
end
section
open Go.Maps
end
end Go.Proofs.YtpohaahihdhleaaGreat
