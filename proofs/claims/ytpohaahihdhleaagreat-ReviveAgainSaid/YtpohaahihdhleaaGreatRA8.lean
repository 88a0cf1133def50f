/- Parts of the proof, one behind the other: Ua, Dl, Ub, Yo, Lp, Yp, Yq, Yr, Eb, Oh, Ob, Oc, Od, Kp, Zm, Zf, Za, Zb, Ze, Zg, Ec, Vq. -/
import Derived.Test.YtpohaahihdhleaaGreatRA7
import Derived.Deep.QuietTactic
import Derived.BigQuiet
import Derived.Maps.OwnOps
import Derived.Maps.OwnSet
import Derived.Maps.Views
import Derived.DeepKeys4
import Derived.Laws.BitsAllLaws
import Derived.Outline
import Derived.Deep.Cut
import Derived.Laws.CopyOwn
set_option linter.unusedVariables false
namespace Go.Proofs.YtpohaahihdhleaaGreat
open Go.RowKit
set_option maxHeartbeats 400000 in
theorem dall_any {w : World} {F : Foot} {S : Dev} (h : DevAt w F S) :
  Calls Tryz.prog 29 #[vdev F] w fun e w' => ∃ v, e = .returned v ∧ w'.ownsRow w.heap.size 40 1 v S.cache.length (S.lasting.map vu64) ∧ Below w.heap.size w w' := by
 have c1 : w.cell? ⟨F.d, 0, none⟩ = some (.slice (some ⟨F.l, 0, none⟩) S.cache.length F.cl) := cell_of_row _ _ 0 _ _ _ h.head
 have HL := LH h.lenL
 have HR := LH h.lasting
 have hsm := h.small
 clear h
 go_enter Tryz.func29, Tryz.ntmps29
 go_wp2_with fail
 refine (clone_any F.l 0 F.cl S.lasting HL.out w (fun i v hi => by rw [Nat.zero_add]; exact HR.out.cell hi) (by rw [HL.out]; exact hsm)).mono ?_
 rintro e w1 ⟨v, rfl, ho, hb, _⟩
 have HO := LH ho
 have HB := LH hb
 clear ho hb
 go_wp2_with fail
 go_ret
 exact ⟨v, rfl, HO.out, HB.out⟩
def Dev.arm (S : Dev) (n : Int) : Dev := { S with fuse := n, armed := decide (0 ≤ n) }
set_option maxHeartbeats 1000000 in
theorem darm_any {w : World} {F : Foot} {S : Dev} (h : DevAt w F S) (n : Int) :
  Calls Tryz.prog 21 #[vdev F, .int .i64 n] w fun e w' => e = .returned (.tuple #[]) ∧ DevAt w' F (S.arm n) ∧ Touch [F.d] w w' := by
 have hh := h.head
 have c6 : w.cell? ⟨F.d, 6, none⟩ = some (.int .i64 S.fuse) := cell_of_row _ _ 6 _ _ _ hh
 have c7 : w.cell? ⟨F.d, 7, none⟩ = some (.bool S.armed) := cell_of_row _ _ 7 _ _ _ hh
 have z6 : w.frozen? ⟨F.d, 6, none⟩ = false := frozen_of_row _ _ 6 _ _ hh
 have z7 : w.frozen? ⟨F.d, 7, none⟩ = false := frozen_of_row _ _ 7 _ _ hh
 have HF : Hid (DevAt ((w.setCell ⟨F.d, 6, none⟩ (.int .i64 n)).setCell ⟨F.d, 7, none⟩ (.bool (decide (0 ≤ n)))) F (S.arm n) ∧ Touch [F.d] w ((w.setCell ⟨F.d, 6, none⟩ (.int .i64 n)).setCell ⟨F.d, 7, none⟩ (.bool (decide (0 ≤ n))))) := by
  have t : Touch [F.d] w ((w.setCell ⟨F.d, 6, none⟩ (.int .i64 n)).setCell ⟨F.d, 7, none⟩ (.bool (decide (0 ≤ n)))) := (Touch.setCell _ (by simp) _).trans (Touch.setCell _ (by simp) _)
  refine LH ⟨h.head' ?_ t ⟨rfl, rfl, rfl, rfl, rfl⟩, t⟩
  rw [heap_setCell_same _ F.d 7 _ _ _ (heap_setCell_same w F.d 6 _ _ _ hh)]; rfl
 clear hh h
 go_enter Tryz.func21, Tryz.ntmps21
 go_wp2_with fail
 go_end0
 exact ⟨rfl, HF.out⟩
set_option maxHeartbeats 1000000 in
set_option maxRecDepth 20000 in
theorem rints_eq (a b : Option Addr) (n cap cap2 : Nat) (l : List Nat) (hn : l.length = n) (w : World) (hc : Cells w a (l.map vi)) (hc2 : Cells w b (l.map vi)) (hl : n ≤ 1000000000) :
  Calls Tryz.prog 25 #[.slice a n cap, .slice b n cap2] w fun e w' => e = .returned (.bool true) ∧ ∃ q, w' = w.drewN q := by
 have HN := LH hn
 have HC := LH hc
 have HC2 := LH hc2
 clear hn hc hc2
 have hne : (n != n) = false := by simp
 have hne2 : ((n : Int) != (n : Int)) = false := by simp
 go_enter Tryz.func25, Tryz.ntmps25
 go_wp2_with fail
 go_loopw [5] (fun i wr => ∃ k : Nat, k ≤ n ∧ i = .int .i64 k ∧ ∃ q, wr = w.drewN q) (fun i _ => n - (intOf i).toNat)
 case atStart => exact ⟨0, Nat.zero_le _, rfl, 0, rfl⟩
 case round =>
  obtain ⟨k, hk, rfl, q, rfl⟩ := hrel
  by_cases hlt : k < n
  ·have hlt' : (k : Int) < (n : Int) := by omega
   have hkl : k < l.length := by rw [HN.out]; exact hlt
   obtain ⟨b1, o1, rfl, _, h1⟩ := HC.out.atMap 0 hkl
   obtain ⟨b2, o2, rfl, _, h2⟩ := HC2.out.atMap 0 hkl
   have d0 := h1 k hkl
   have d1 := h2 k hkl
   clear h1 h2 hkl
   generalize l.getD k 0 = x at *
   have hx : ((x : Int) != (x : Int)) = false := by simp
   have hx2 : (x != x) = false := by simp
   go_wp2_with fail
   go_quiet (fail)
   go_wp2_with fail
   exact ⟨⟨k + 1, by omega, vint (by omega), _, rfl⟩, by simp [intOf]; omega⟩
  ·obtain rfl : k = n := by omega
   have hlt' : decide ((k : Int) < (k : Int)) = false := by simp
   go_wp2_with fail
   go_ret
   exact ⟨rfl, _, rfl⟩
set_option maxHeartbeats 1000000 in
set_option maxRecDepth 20000 in
theorem rsame_eq (a b : Option Addr) (n cap cap2 : Nat) (l : List Nat) (hn : l.length = n) (w : World) (hc : Cells w a (l.map vu64)) (hc2 : Cells w b (l.map vu64)) (hl : n ≤ 1000000000) :
  Calls Tryz.prog 30 #[.slice a n cap, .slice b n cap2] w fun e w' => e = .returned (.bool true) ∧ ∃ q, w' = w.drewN q := by
 have HN := LH hn
 have HC := LH hc
 have HC2 := LH hc2
 clear hn hc hc2
 have hne : (n != n) = false := by simp
 have hne2 : ((n : Int) != (n : Int)) = false := by simp
 go_enter Tryz.func30, Tryz.ntmps30
 go_wp2_with fail
 go_loopw [5] (fun i wr => ∃ k : Nat, k ≤ n ∧ i = .int .i64 k ∧ ∃ q, wr = w.drewN q) (fun i _ => n - (intOf i).toNat)
 case atStart => exact ⟨0, Nat.zero_le _, rfl, 0, rfl⟩
 case round =>
  obtain ⟨k, hk, rfl, q, rfl⟩ := hrel
  by_cases hlt : k < n
  ·have hlt' : (k : Int) < (n : Int) := by omega
   have hkl : k < l.length := by rw [HN.out]; exact hlt
   obtain ⟨b1, o1, rfl, _, h1⟩ := HC.out.atMap 0 hkl
   obtain ⟨b2, o2, rfl, _, h2⟩ := HC2.out.atMap 0 hkl
   have d0 := h1 k hkl
   have d1 := h2 k hkl
   clear h1 h2 hkl
   generalize l.getD k 0 = x at *
   have hx : ((x : Int) != (x : Int)) = false := by simp
   have hx2 : (x != x) = false := by simp
   go_wp2_with fail
   go_quiet (fail)
   go_wp2_with fail
   exact ⟨⟨k + 1, by omega, vint (by omega), _, rfl⟩, by simp [intOf]; omega⟩
  ·obtain rfl : k = n := by omega
   have hlt' : decide ((k : Int) < (k : Int)) = false := by simp
   go_wp2_with fail
   go_ret
   exact ⟨rfl, _, rfl⟩
theorem owned_base {w : World} {base B e size n : Nat} {v : Value} {xs : List Value} (h : w.ownsRow base e size v n xs) (hB : B ≤ base) : w.ownsRow B e size v n xs := by
 refine ⟨h.1, ?_⟩
 rcases h.2 with hn | ⟨g, cap, cur, hv, hb, r⟩
 ·exact .inl hn
 ·exact .inr ⟨g, cap, cur, hv, Nat.le_trans hB hb, r⟩
end Go.Proofs.YtpohaahihdhleaaGreat
namespace Go.Proofs.YtpohaahihdhleaaGreat
structure Clean (S : Dev) (B : Nat) : Prop where
 inv : S.inv
 fits : 256 + B ≤ S.cache.length
 clean : ∀ b, 1 ≤ b → b < B → S.dirty.getD ((256 + b) / 8) false = false
section
variable {S : Dev} {i : Nat} {V : Nat → Prop}
end
structure BmOk (B : Nat) (m : Bm) : Prop where
 lenL : m.list.length = B
 lenF : m.free.length = B
 clean : Clean m.dev B
 right : ∀ b, b < B → hdRight (m.list.getD b default).k (m.list.getD b default).c (m.list.getD b default).l = true
 word : ∀ b, 1 ≤ b → b < B → m.dev.cache.getD (256 + b) 0 = encN (b : Int) (m.list.getD b default).k (m.list.getD b default).c (m.list.getD b default).l
 free : ∀ b, fb m.free b = true ↔ 1 ≤ b ∧ b < B ∧ (m.list.getD b default).k = 0
 large : ∀ b, 1 ≤ b → b < B → (m.list.getD b default).k = 2 → (b : Int) + (m.list.getD b default).l ≤ B ∧ ∀ i : Nat, 1 ≤ i → (i : Int) < (m.list.getD b default).l → m.list.getD (b + i) default = ⟨3, 0, i⟩
variable {B : Nat} {m : Bm}
variable {B : Nat} {m : Bm}
variable {B : Nat} {m : Bm}
theorem hdGet_at (h : BmOk B m) {a : Nat} (a1 : 1 ≤ a) (a2 : a < B) : hdGet m.list (a : Int) = m.list.getD a default := by unfold hdGet; rw [if_neg (by rw [h.lenL]; omega)]; rfl
end Go.Proofs.YtpohaahihdhleaaGreat
namespace Go.Proofs.YtpohaahihdhleaaGreat
open Go.RowKit
abbrev vob (p d : Int) : Value := .agg #[.int .i64 p, .int .i64 d]
def obN (p d : Int) : Nat := (165 + 256 * p + 16384 * d).toNat
def oencN (a p d : Int) : Nat := if objSize p d = 0 then 0 else sealN (obN p d) (pl a)
theorem obj_small {p d : Int} (h : objSize p d ≠ 0) : (0 ≤ p ∧ p < 64) ∧ (0 ≤ d ∧ d ≤ 16384) := by
 unfold objSize at h
 split at h
 ·exact absurd rfl h
 ·omega
theorem obN_lt {p d : Int} (h : objSize p d ≠ 0) : obN p d < 4294967296 := by
 have := obj_small h
 unfold obN
 omega
theorem oencN_lt (a p d : Int) : oencN a p d < 18446744073709551616 := by
 unfold oencN
 split
 ·decide
 ·rename_i h; exact sealN_lt _ _ (obN_lt h)
set_option maxHeartbeats 1000000 in
theorem oencode_any (a p d : Int) (w : World) : Calls Tryz.prog 216 #[vob p d, .int .i64 a] w fun e w' => e = .returned (vu64 (oencN a p d)) ∧ Below w.heap.size w w' := by
 have hb := below_alloc w (Obj.cells #[Value.int .i64 p, Value.int .i64 d] 211)
 have hg := heap_alloc_new w (Obj.cells #[Value.int .i64 p, Value.int .i64 d] 211)
 go_enter Tryz.func216, Tryz.ntmps216
 go_wp2_with fail
 generalize w.alloc (Obj.cells #[Value.int .i64 p, Value.int .i64 d] 211) = w0 at *
 refine (osize_any p d w0).mono ?_
 rintro e w1 ⟨rfl, hb1⟩
 have hgl : w.heap.size < w0.heap.size := (Array.getElem?_eq_some_iff.1 hg).1
 have hbb := hb.trans (hb1.mono hb.size)
 have hg1 : w1.heap[w.heap.size]? = _ := (hb1.block _ hgl).trans hg
 have c0 : w1.cell? ⟨w.heap.size, 0, none⟩ = some (.int .i64 p) := cell_of_row _ _ 0 _ _ _ hg1
 have c1 : w1.cell? ⟨w.heap.size, 1, none⟩ = some (.int .i64 d) := cell_of_row _ _ 1 _ _ _ hg1
 clear hb hb1 hg hgl hg1
 by_cases hr : objSize p d = 0
 ·have HE : Hid (oencN a p d = 0) := LH (by unfold oencN; rw [if_pos hr])
  rw [hr]
  clear hr
  go_wp2_with fail
  go_ret
  exact ⟨ret_int (by rw [HE.out]; rfl), hbb⟩
 ·have HE : Hid (oencN a p d = sealN (obN p d) (pl a)) := LH (by unfold oencN; rw [if_neg hr])
  have hn := obN_lt hr
  obtain ⟨⟨p0, p1⟩, d0, d1⟩ := obj_small hr
  have HN : Hid (obN p d = (165 + p.toNat * 256 + d.toNat * 16384)) := LH (by unfold obN; omega)
  have hz : (((objSize p d : Nat) : Int) == 0) = false := by simp; omega
  generalize objSize p d = sz at *
  clear hr
  obtain ⟨p, rfl⟩ := Int.eq_ofNat_of_zero_le p0
  obtain ⟨d, rfl⟩ := Int.eq_ofNat_of_zero_le d0
  simp only [Int.toNat_natCast] at HN
  have P1 : Hid (Calls Tryz.prog 151 #[vu64 165, .int .i64 8, .int .i64 6, vu64 p] w1 fun e w' => e = .returned (vu64 (165 + p * 256)) ∧ w1 = w') := LH (put_any 165 8 6 p (by omega) (by omega) (by decide) (by decide) w1)
  have P2 : Hid (Calls Tryz.prog 151 #[vu64 (165 + p * 256), .int .i64 14, .int .i64 15, vu64 d] w1 fun e w' => e = .returned (vu64 (165 + p * 256 + d * 16384)) ∧ w1 = w') := LH (put_any (165 + p * 256) 14 15 d (by omega) (by omega) (by decide) (by decide) w1)
  go_wp2_with fail
  refine P1.out.mono ?_
  rintro e w2 ⟨rfl, rfl⟩
  go_wp2_with fail
  refine P2.out.mono ?_
  rintro e w2 ⟨rfl, rfl⟩
  rw [← HN.out]
  generalize obN (p : Int) (d : Int) = n at *
  clear P1 P2
  go_wp2_with fail
  refine (seal_any n _ hn _).mono ?_
  rintro e w2 ⟨rfl, hb2⟩
  rw [← HE.out]
  go_wp2_with fail
  go_ret
  exact ⟨rfl, hbb.trans (hb2.mono hbb.size)⟩
theorem aggOb : Agg Tryz.prog 211 #[.int .i64 0, .int .i64 0] := ⟨⟨_, Tryz.underlying211, rfl⟩, by kernel_rfl⟩
structure Odec where
 p : Int
 d : Int
 code : Int
def odecS (a : Int) (x n : Nat) : Odec := if oencN a (n / 256 % 64 : Nat) (n / 16384 % 32768 : Nat) = x then ⟨(n / 256 % 64 : Nat), (n / 16384 % 32768 : Nat), 0⟩ else ⟨0, 0, 26⟩
def odecN (a : Int) (x : Nat) : Odec := ((openN x (pl a)).map (odecS a x)).getD ⟨0, 0, 25⟩
def Odec.val (o : Odec) : Value := .tuple #[vob o.p o.d, .int .i64 o.code]
theorem odecN_none {a : Int} {x : Nat} (h : openN x (pl a) = none) : (odecN a x).val = .tuple #[vob 0 0, .int .i64 25] := by unfold odecN; rw [h]; rfl
theorem odecN_some {a : Int} {x n : Nat} (h : openN x (pl a) = some n) : odecN a x = odecS a x n := by unfold odecN; rw [h]; rfl
theorem odecN_ok {a : Int} {x n : Nat} (h : openN x (pl a) = some n) (he : oencN a (n / 256 % 64 : Nat) (n / 16384 % 32768 : Nat) = x) :
  (odecN a x).val = .tuple #[vob (n / 256 % 64 : Nat) (n / 16384 % 32768 : Nat), .int .i64 0] := by
 rw [odecN_some h, odecS, if_pos he]; rfl
theorem odecN_bad {a : Int} {x n : Nat} (h : openN x (pl a) = some n) (he : oencN a (n / 256 % 64 : Nat) (n / 16384 % 32768 : Nat) ≠ x) :
  (odecN a x).val = .tuple #[vob 0 0, .int .i64 26] := by
 rw [odecN_some h, odecS, if_neg he]; rfl
set_option maxHeartbeats 1000000 in
theorem odecode_any (a : Int) (x : Nat) (hx : x < 18446744073709551616) (w : World) :
  Calls Tryz.prog 201 #[.int .i64 a, vu64 x] w fun e w' => e = .returned (odecN a x).val ∧ Below w.heap.size w w' := by
 have hbA := below_alloc w (Obj.cells #[Value.int .i64 0, Value.int .i64 0] 211)
 have hg := heap_alloc_new w (Obj.cells #[Value.int .i64 0, Value.int .i64 0] 211)
 go_enter Tryz.func201, Tryz.ntmps201
 go_wp2_with fail
 generalize w.alloc (Obj.cells #[Value.int .i64 0, Value.int .i64 0] 211) = w0 at *
 refine (open_any x _ hx w0).mono ?_
 rintro e w1 ⟨rfl, hbo⟩
 have hgl : w.heap.size < w0.heap.size := (Array.getElem?_eq_some_iff.1 hg).1
 have hbb := hbA.trans (hbo.mono hbA.size)
 have hg1 : w1.heap[w.heap.size]? = _ := (hbo.block _ hgl).trans hg
 clear hbA hbo hg hgl
 cases ho : openN x (pl a) with
 | none =>
  have HV := LH (odecN_none ho)
  clear ho
  simp only [openV]
  go_wp2_with (refine wpList_store_row (cs := #[.int .i64 0, .int .i64 0]) aggOb hg1 rfl rfl (by simp [Value.oneCell']) rfl rfl rfl rfl ?_; intro w2 hg2 hgr2 hs2)
  refine bodyPost_ret (results_cell_row2 (p := 4) (u := 5) rfl _ _ _ _ _ _ _ rfl hg2 Tryz.underlying211 rfl (by kernel_rfl)) rfl ⟨by rw [HV.out]; rfl, ?_⟩
  exact hbb.grown hgr2 hbb.size (fun k e => by cases e; omega)
 | some n =>
  obtain ⟨hn, -⟩ := openN_some ho
  have HK := LH (odecN_ok ho)
  have HL := LH (odecN_bad ho)
  clear ho
  simp only [openV]
  have G1 : Hid (∀ w, Calls Tryz.prog 139 #[vu64 n, .int .i64 8, .int .i64 6] w fun e w' => e = .returned (vu64 (n / 256 % 64)) ∧ w = w') := LH (fun w => get_any n 8 6 (by omega) (by decide) (by decide) (by decide) w)
  have G2 : Hid (∀ w, Calls Tryz.prog 139 #[vu64 n, .int .i64 14, .int .i64 15] w fun e w' => e = .returned (vu64 (n / 16384 % 32768)) ∧ w = w') := LH (fun w => get_any n 14 15 (by omega) (by decide) (by decide) (by decide) w)
  have h64 : n / 256 % 64 < 64 := by omega
  have h6 : n / 16384 % 32768 < 32768 := by omega
  generalize n / 256 % 64 = k at *
  generalize n / 16384 % 32768 = l at *
  go_wp2_with fail
  refine (G1.out _).mono ?_
  rintro e w2 ⟨rfl, rfl⟩
  go_wp2_with fail
  refine (G2.out _).mono ?_
  rintro e w2 ⟨rfl, rfl⟩
  clear G1 G2
  go_wp2_with fail
  have hb1 := below_alloc w1 (Obj.cells #[Value.int .i64 (k : Int), Value.int .i64 (l : Int)] 211)
  have hg2 := heap_alloc_new w1 (Obj.cells #[Value.int .i64 (k : Int), Value.int .i64 (l : Int)] 211)
  generalize w1.alloc (Obj.cells #[Value.int .i64 (k : Int), Value.int .i64 (l : Int)] 211) = w2 at *
  refine (oencode_any a k l w2).mono ?_
  rintro e w3 ⟨rfl, hb3⟩
  have hgl : w.heap.size < w1.heap.size := (Array.getElem?_eq_some_iff.1 hg1).1
  have hgl2 : w1.heap.size < w2.heap.size := (Array.getElem?_eq_some_iff.1 hg2).1
  have hb3' := hbb.trans ((hb1.trans (hb3.mono hb1.size)).mono hbb.size)
  have hg3 : w3.heap[w.heap.size]? = _ := (hb3.block _ (by omega)).trans ((hb1.block _ hgl).trans hg1)
  have hg4 : w3.heap[w1.heap.size]? = _ := (hb3.block _ hgl2).trans hg2
  have he := oencN_lt a k l
  clear hb1 hb3 hg1 hg2 hbb
  generalize oencN a k l = y at *
  by_cases hyx : y = x
  ·have HV := LH (HK.out hyx)
   subst hyx
   have d0 : w3.cell? ⟨w1.heap.size, 0, none⟩ = some (.int .i64 k) := cell_of_row _ _ 0 _ _ _ hg4
   have d1 : w3.cell? ⟨w1.heap.size, 1, none⟩ = some (.int .i64 l) := cell_of_row _ _ 1 _ _ _ hg4
   go_wp2_with (refine wpList_store_row (cs := #[.int .i64 k, .int .i64 l]) aggOb hg3 rfl rfl (by simp [Value.oneCell']) rfl rfl rfl rfl ?_; intro w4 hg5 hgr4 hs4)
   refine bodyPost_ret (results_cell_row2 (p := 4) (u := 5) rfl _ _ _ _ _ _ _ rfl hg5 Tryz.underlying211 rfl (by kernel_rfl)) rfl ⟨by rw [HV.out]; rfl, ?_⟩
   exact hb3'.grown hgr4 hb3'.size (fun k e => by cases e; omega)
  ·have HV := LH (HL.out hyx)
   have hne : ¬ ((y : Int) = (x : Int)) := by omega
   clear hyx
   go_wp2_with (refine wpList_store_row (cs := #[.int .i64 0, .int .i64 0]) aggOb hg3 rfl rfl (by simp [Value.oneCell']) rfl rfl rfl rfl ?_; intro w4 hg5 hgr4 hs4)
   refine bodyPost_ret (results_cell_row2 (p := 4) (u := 5) rfl _ _ _ _ _ _ _ rfl hg5 Tryz.underlying211 rfl (by kernel_rfl)) rfl ⟨by rw [HV.out]; rfl, ?_⟩
   exact hb3'.grown hgr4 hb3'.size (fun k e => by cases e; omega)
theorem odec_size {a : Int} {x : Nat} (h : (odecN a x).code = 0) : objSize (odecN a x).p (odecN a x).d ≠ 0 ∧ oencN a (odecN a x).p (odecN a x).d = x := by
 unfold odecN at h ⊢
 cases ho : openN x (pl a) with
 | none => rw [ho] at h; simp at h
 | some n =>
  rw [ho] at h
  simp only [Option.map_some, Option.getD_some] at h ⊢
  obtain ⟨h1, h2⟩ := openN_some ho
  unfold odecS at h ⊢
  split
  ·rename_i he
   dsimp only
   refine ⟨fun hs => ?_, he⟩
   unfold oencN at he
   rw [if_pos hs] at he
   subst he
   simp at h2
   subst h2
   revert hs
   decide
  ·rename_i he
   rw [if_neg he] at h
   simp at h
set_option maxHeartbeats 1000000 in
theorem optr_any (p d i : Int) (w : World) : Calls Tryz.prog 221 #[vob p d, .int .i64 i] w fun e w' => e = .returned (.tuple #[.int .i64 (IntKind.i64.wrap (1 + i)), .bool (decide (0 ≤ i ∧ i < p))]) ∧ Below w.heap.size w w' := by
 have hb := below_alloc w (Obj.cells #[Value.int .i64 p, Value.int .i64 d] 211)
 have c0 : (w.alloc (Obj.cells #[Value.int .i64 p, Value.int .i64 d] 211)).cell? ⟨w.heap.size, 0, none⟩ = some (.int .i64 p) := cell_alloc_new _ _ _ 0 _ rfl
 have HB := LH hb
 clear hb
 generalize hz : IntKind.i64.wrap (1 + i) = z
 by_cases h0 : 0 ≤ i
 ·have h0d : decide (0 ≤ i) = true := by simpa using h0
  by_cases h1 : i < p
  ·go_enter Tryz.func221, Tryz.ntmps221
   go_wp2_with fail
   go_quiet (fail)
   go_wp2_with fail
   go_ret2
   exact ⟨by simp [h0, h1], below_drewN HB.out _⟩
  ·go_enter Tryz.func221, Tryz.ntmps221
   go_wp2_with fail
   go_quiet (fail)
   go_wp2_with fail
   go_ret2
   exact ⟨by simp [h0], below_drewN HB.out _⟩
 ·have h0d : decide (0 ≤ i) = false := by simpa using h0
  go_enter Tryz.func221, Tryz.ntmps221
  go_wp2_with fail
  go_quiet (fail)
  go_wp2_with fail
  go_ret2
  exact ⟨by simp; omega, below_drewN HB.out _⟩
set_option maxHeartbeats 1000000 in
theorem odata_any (p d i : Int) (w : World) : Calls Tryz.prog 222 #[vob p d, .int .i64 i] w fun e w' => e = .returned (.tuple #[.int .i64 (IntKind.i64.wrap (IntKind.i64.wrap (1 + p) + i)), .bool (decide (0 ≤ i ∧ i < d))]) ∧ Below w.heap.size w w' := by
 have hb := below_alloc w (Obj.cells #[Value.int .i64 p, Value.int .i64 d] 211)
 have c0 : (w.alloc (Obj.cells #[Value.int .i64 p, Value.int .i64 d] 211)).cell? ⟨w.heap.size, 0, none⟩ = some (.int .i64 p) := cell_alloc_new _ _ _ 0 _ rfl
 have c1 : (w.alloc (Obj.cells #[Value.int .i64 p, Value.int .i64 d] 211)).cell? ⟨w.heap.size, 1, none⟩ = some (.int .i64 d) := cell_alloc_new _ _ _ 1 _ rfl
 have HB := LH hb
 clear hb
 generalize hy : IntKind.i64.wrap (1 + p) = y
 generalize hz : IntKind.i64.wrap (y + i) = z
 by_cases h0 : 0 ≤ i
 ·have h0d : decide (0 ≤ i) = true := by simpa using h0
  by_cases h1 : i < d
  ·go_enter Tryz.func222, Tryz.ntmps222
   go_wp2_with fail
   go_quiet (fail)
   go_wp2_with fail
   go_ret2
   exact ⟨by simp [h0, h1], below_drewN HB.out _⟩
  ·go_enter Tryz.func222, Tryz.ntmps222
   go_wp2_with fail
   go_quiet (fail)
   go_wp2_with fail
   go_ret2
   exact ⟨by simp [h0], below_drewN HB.out _⟩
 ·have h0d : decide (0 ≤ i) = false := by simpa using h0
  go_enter Tryz.func222, Tryz.ntmps222
  go_wp2_with fail
  go_quiet (fail)
  go_wp2_with fail
  go_ret2
  exact ⟨by simp; omega, below_drewN HB.out _⟩
def headN (S : Dev) (a : Int) : Odec :=
 if a < 0 ∨ (S.cache.length : Int) ≤ a then ⟨0, 0, 22⟩ else
  if (odecN a (peek S.cache a)).code ≠ 0 ∨ (S.cache.length : Int) - a < (objSize (odecN a (peek S.cache a)).p (odecN a (peek S.cache a)).d : Nat) then ⟨0, 0, 22⟩ else ⟨(odecN a (peek S.cache a)).p, (odecN a (peek S.cache a)).d, 0⟩
theorem headN_code (S : Dev) (a : Int) : ((headN S a).code = 0 ∧ 0 ≤ a ∧ a < S.cache.length ∧ objSize (headN S a).p (headN S a).d ≠ 0 ∧ a + (objSize (headN S a).p (headN S a).d : Nat) ≤ S.cache.length ∧ oencN a (headN S a).p (headN S a).d = peek S.cache a) ∨ headN S a = ⟨0, 0, 22⟩ := by
 have hz := odec_size (a := a) (x := peek S.cache a)
 unfold headN
 generalize odecN a (peek S.cache a) = x at *
 obtain ⟨p, d, c⟩ := x
 dsimp only at hz ⊢
 split
 ·exact .inr rfl
 ·split
  ·exact .inr rfl
  ·rename_i h1 h2
   have hc : c = 0 := Decidable.byContradiction fun h => h2 (.inl h)
   have := hz hc
   generalize oencN a p d = y at *
   generalize objSize p d = s at *
   exact .inl ⟨rfl, by omega, by omega, this.1, by omega, this.2⟩
set_option maxHeartbeats 2000000 in
set_option maxRecDepth 20000 in
theorem ohead_any {w : World} {F : Foot} {S : Dev} (h : DevAt w F S) (a : Int) :
  Calls Tryz.prog 180 #[vdev F, .int .i64 a] w fun e w' => e = .returned (headN S a).val ∧ Below w.heap.size w w' := by
 have hbA := below_alloc w (Obj.cells #[Value.int .i64 0, Value.int .i64 0] 211)
 have hg := heap_alloc_new w (Obj.cells #[Value.int .i64 0, Value.int .i64 0] 211)
 have hd := h.below hbA
 have hsm := h.small
 have HE : Hid (∀ x : Odec, x = ⟨0, 0, 22⟩ → x.val = .tuple #[vob 0 0, .int .i64 22]) := LH (by rintro x rfl; rfl)
 have HB := LH hbA
 have HD := LH hd
 clear hbA hd h
 by_cases h0 : a < 0
 ·have HV : Hid (headN S a = ⟨0, 0, 22⟩) := LH (by unfold headN; rw [if_pos (.inl h0)])
  go_enter Tryz.func180, Tryz.ntmps180
  go_wp2_with (refine wpList_store_row (cs := #[.int .i64 0, .int .i64 0]) aggOb hg rfl rfl (by simp [Value.oneCell']) rfl rfl rfl rfl ?_; intro w4 hg5 hgr4 hs4)
  refine bodyPost_ret (results_cell_row2 (p := 4) (u := 5) rfl _ _ _ _ _ _ _ rfl hg5 Tryz.underlying211 rfl (by kernel_rfl)) rfl ⟨by rw [HE.out _ HV.out]; rfl, ?_⟩
  exact HB.out.grown hgr4 HB.out.size (fun k e => by cases e; omega)
 by_cases h1 : (S.cache.length : Int) ≤ a
 ·have HV : Hid (headN S a = ⟨0, 0, 22⟩) := LH (by unfold headN; rw [if_pos (.inr h1)])
  go_enter Tryz.func180, Tryz.ntmps180
  go_wp2_with fail
  refine (dlen_any HD.out).mono ?_
  rintro e w1 ⟨rfl, rfl⟩
  go_wp2_with (refine wpList_store_row (cs := #[.int .i64 0, .int .i64 0]) aggOb hg rfl rfl (by simp [Value.oneCell']) rfl rfl rfl rfl ?_; intro w4 hg5 hgr4 hs4)
  refine bodyPost_ret (results_cell_row2 (p := 4) (u := 5) rfl _ _ _ _ _ _ _ rfl hg5 Tryz.underlying211 rfl (by kernel_rfl)) rfl ⟨by rw [HE.out _ HV.out]; rfl, ?_⟩
  exact HB.out.grown hgr4 HB.out.size (fun k e => by cases e; omega)
 have HV0 : Hid (headN S a = if (odecN a (peek S.cache a)).code ≠ 0 ∨ (S.cache.length : Int) - a < (objSize (odecN a (peek S.cache a)).p (odecN a (peek S.cache a)).d : Nat) then ⟨0, 0, 22⟩ else ⟨(odecN a (peek S.cache a)).p, (odecN a (peek S.cache a)).d, 0⟩) := LH (by unfold headN; rw [if_neg (by omega)])
 go_enter Tryz.func180, Tryz.ntmps180
 go_wp2_with fail
 refine (dlen_any HD.out).mono ?_
 rintro e w1 ⟨rfl, rfl⟩
 go_wp2_with fail
 refine (dget_any HD.out a).mono ?_
 rintro e w1 ⟨rfl, rfl⟩
 have hpk := peek_lt HD.out.u64C a
 generalize w.alloc (Obj.cells #[Value.int .i64 0, Value.int .i64 0] 211) = w0 at *
 go_wp2_with fail
 refine (odecode_any a _ hpk _).mono ?_
 rintro e w1 ⟨rfl, hb1⟩
 have hg0 : w.heap.size < w0.heap.size := (Array.getElem?_eq_some_iff.1 hg).1
 have hg1 : w1.heap[w.heap.size]? = _ := (hb1.block _ hg0).trans hg
 have HB1 := LH (HB.out.trans (hb1.mono HB.out.size))
 have HD1 := LH (HD.out.below hb1)
 clear hb1 hg HB HD hpk
 generalize odecN a (peek S.cache a) = x at *
 obtain ⟨p, d, c⟩ := x
 unfold Odec.val
 dsimp only at HV0 ⊢
 have hbx := below_alloc w1 (Obj.cells #[Value.int .i64 p, Value.int .i64 d] 211)
 have hg2 := (hbx.block w.heap.size (by have := HB1.out.size; exact (Array.getElem?_eq_some_iff.1 hg1).1)).trans hg1
 have HB2 := LH (HB1.out.trans (hbx.mono HB1.out.size))
 have HD2 := LH (HD1.out.below hbx)
 have e0 : (w1.alloc (Obj.cells #[Value.int .i64 p, Value.int .i64 d] 211)).cell? ⟨w1.heap.size, 0, none⟩ = some (.int .i64 p) := cell_alloc_new _ _ _ 0 _ rfl
 have e1 : (w1.alloc (Obj.cells #[Value.int .i64 p, Value.int .i64 d] 211)).cell? ⟨w1.heap.size, 1, none⟩ = some (.int .i64 d) := cell_alloc_new _ _ _ 1 _ rfl
 clear hbx hg1 HB1 HD1
 by_cases hc : c = 0
 ·subst hc
  go_wp2_with fail
  refine (osize_any p d _).mono ?_
  rintro e w2 ⟨rfl, hb2⟩
  generalize w1.alloc (Obj.cells #[Value.int .i64 p, Value.int .i64 d] 211) = w1' at *
  have hg3 : w2.heap[w.heap.size]? = _ := (hb2.block _ (Array.getElem?_eq_some_iff.1 hg2).1).trans hg2
  have HB3 := LH (HB2.out.trans (hb2.mono HB2.out.size))
  have HD3 := LH (HD2.out.below hb2)
  have f0 := below_cells hb2 e0 (Nat.le_refl _)
  have f1 := below_cells hb2 e1 (Nat.le_refl _)
  clear hb2 HB2 HD2 hg2 e0 e1
  go_wp2_with fail
  refine (dlen_any HD3.out).mono ?_
  rintro e w3 ⟨rfl, rfl⟩
  have hw1 : IntKind.i64.wrap ((S.cache.length : Int) - a) = (S.cache.length : Int) - a := IntWalk.i64_in _ (by omega)
  by_cases hs : (S.cache.length : Int) - a < (objSize p d : Nat)
  ·have HV : Hid (headN S a = ⟨0, 0, 22⟩) := LH (by rw [HV0.out, if_pos (.inr hs)])
   go_wp2_with (refine wpList_store_row (cs := #[.int .i64 0, .int .i64 0]) aggOb hg3 rfl rfl (by simp [Value.oneCell']) rfl rfl rfl rfl ?_; intro w4 hg5 hgr4 hs4)
   refine bodyPost_ret (results_cell_row2 (p := 4) (u := 5) rfl _ _ _ _ _ _ _ rfl hg5 Tryz.underlying211 rfl (by kernel_rfl)) rfl ⟨by rw [HE.out _ HV.out]; rfl, ?_⟩
   exact HB3.out.grown hgr4 HB3.out.size (fun k e => by cases e; omega)
  ·have HV : Hid (headN S a = ⟨p, d, 0⟩) := LH (by rw [HV0.out, if_neg (fun h => h.elim (fun h => h rfl) hs)])
   go_wp2_with (refine wpList_store_row (cs := #[.int .i64 p, .int .i64 d]) aggOb hg3 rfl rfl (by simp [Value.oneCell']) rfl rfl rfl rfl ?_; intro w4 hg5 hgr4 hs4)
   refine bodyPost_ret (results_cell_row2 (p := 4) (u := 5) rfl _ _ _ _ _ _ _ rfl hg5 Tryz.underlying211 rfl (by kernel_rfl)) rfl ⟨by rw [HV.out]; rfl, ?_⟩
   exact HB3.out.grown hgr4 HB3.out.size (fun k e => by cases e; omega)
 ·have HV : Hid (headN S a = ⟨0, 0, 22⟩) := LH (by rw [HV0.out, if_pos (.inl hc)])
  have hc1 : (c != 0) = true := by simpa using hc
  clear hc
  go_wp2_with (refine wpList_store_row (cs := #[.int .i64 0, .int .i64 0]) aggOb hg2 rfl rfl (by simp [Value.oneCell']) rfl rfl rfl rfl ?_; intro w4 hg5 hgr4 hs4)
  refine bodyPost_ret (results_cell_row2 (p := 4) (u := 5) rfl _ _ _ _ _ _ _ rfl hg5 Tryz.underlying211 rfl (by kernel_rfl)) rfl ⟨by rw [HE.out _ HV.out]; rfl, ?_⟩
  exact HB2.out.grown hgr4 HB2.out.size (fun k e => by cases e; omega)
structure Place where
 at_ : Int
 code : Int
def placeN (S : Dev) (a i : Int) (data : Bool) : Place :=
 if (headN S a).code ≠ 0 then ⟨0, 22⟩ else
  if data = true then (if 0 ≤ i ∧ i < (headN S a).d then ⟨a + (1 + (headN S a).p + i), 0⟩ else ⟨0, 7⟩) else (if 0 ≤ i ∧ i < (headN S a).p then ⟨a + (1 + i), 0⟩ else ⟨0, 7⟩)
theorem head_small {S : Dev} (hw : S.cache.length ≤ 1000000) {a : Int} (h : (headN S a).code = 0) : (0 ≤ a ∧ a < 1000000) ∧ (0 ≤ (headN S a).p ∧ (headN S a).p < 64) ∧ (0 ≤ (headN S a).d ∧ (headN S a).d ≤ 16384) := by
 rcases headN_code S a with ⟨_, h1, h2, h3, _⟩ | h1
 ·have := obj_small h3
  exact ⟨⟨h1, by omega⟩, this⟩
 ·rw [h1] at h; simp at h
set_option maxHeartbeats 2000000 in
set_option maxRecDepth 20000 in
theorem ofield_any {w : World} {F : Foot} {S : Dev} (h : DevAt w F S) (a i : Int) (data : Bool) :
  Calls Tryz.prog 215 #[vdev F, .int .i64 a, .int .i64 i, .bool data] w fun e w' => e = .returned (.tuple #[.int .i64 (placeN S a i data).at_, .int .i64 (placeN S a i data).code]) ∧ Below w.heap.size w w' := by
 have HSm := LH (head_small h.small (a := a))
 have HPL : Hid (placeN S a i data = if (headN S a).code ≠ 0 then ⟨0, 22⟩ else if data = true then (if 0 ≤ i ∧ i < (headN S a).d then ⟨a + (1 + (headN S a).p + i), 0⟩ else ⟨0, 7⟩) else (if 0 ≤ i ∧ i < (headN S a).p then ⟨a + (1 + i), 0⟩ else ⟨0, 7⟩)) := LH rfl
 have HC := LH (headN_code S a)
 have HD := LH h
 clear h
 generalize placeN S a i data = pn at *
 go_enter Tryz.func215, Tryz.ntmps215
 go_wp2_with fail
 refine (ohead_any HD.out a).mono ?_
 rintro e w1 ⟨rfl, hb1⟩
 have hC22 : Hid ((headN S a).code = 0 ∨ (headN S a).code = 22) := LH (HC.out.elim (fun h => .inl h.1) (fun h => .inr (by rw [h])))
 generalize headN S a = x at *
 obtain ⟨p, d, c⟩ := x
 unfold Odec.val
 dsimp only at HSm HPL hC22 ⊢
 have hbx := below_alloc w1 (Obj.cells #[Value.int .i64 p, Value.int .i64 d] 211)
 have HB := LH (hb1.trans (hbx.mono hb1.size))
 have e0 : (w1.alloc (Obj.cells #[Value.int .i64 p, Value.int .i64 d] 211)).cell? ⟨w1.heap.size, 0, none⟩ = some (.int .i64 p) := cell_alloc_new _ _ _ 0 _ rfl
 have e1 : (w1.alloc (Obj.cells #[Value.int .i64 p, Value.int .i64 d] 211)).cell? ⟨w1.heap.size, 1, none⟩ = some (.int .i64 d) := cell_alloc_new _ _ _ 1 _ rfl
 clear hb1 hbx HC HD
 by_cases hc : c = 0
 ·subst hc
  obtain ⟨ha, hp, hd⟩ := HSm.out rfl
  go_wp2_with fail
  refine (optr_any p d i _).mono ?_
  rintro e w2 ⟨rfl, hb2⟩
  generalize w1.alloc (Obj.cells #[Value.int .i64 p, Value.int .i64 d] 211) = w1' at *
  have HB2 := LH (HB.out.trans (hb2.mono HB.out.size))
  have f0 := below_cells hb2 e0 (Nat.le_refl _)
  have f1 := below_cells hb2 e1 (Nat.le_refl _)
  clear hb2 HB e0 e1
  cases data
  ·by_cases hi : 0 ≤ i ∧ i < p
   ·have hw1 : IntKind.i64.wrap (1 + i) = 1 + i := IntWalk.i64_in _ (by omega)
    have hw2 : IntKind.i64.wrap (a + (1 + i)) = a + (1 + i) := IntWalk.i64_in _ (by omega)
    have hd1 : decide (0 ≤ i ∧ i < p) = true := by simpa using hi
    have HV : Hid (pn = ⟨a + (1 + i), 0⟩) := LH (by rw [HPL.out, if_neg (by simp), if_neg (by simp), if_pos hi])
    rw [hd1, hw1]
    clear hi hd1
    go_wp2_with fail
    go_ret2
    exact ⟨by rw [HV.out]; rfl, HB2.out⟩
   ·have hd1 : decide (0 ≤ i ∧ i < p) = false := by simpa using hi
    have HV : Hid (pn = ⟨0, 7⟩) := LH (by rw [HPL.out, if_neg (by simp), if_neg (by simp), if_neg hi])
    rw [hd1]
    clear hi hd1
    go_wp2_with fail
    go_ret2
    exact ⟨by rw [HV.out]; rfl, HB2.out⟩
  ·generalize IntKind.i64.wrap (1 + i) = z1 at *
   generalize decide (0 ≤ i ∧ i < p) = bb at *
   go_wp2_with fail
   refine (odata_any p d i _).mono ?_
   rintro e w3 ⟨rfl, hb3⟩
   have HB3 := LH (HB2.out.trans (hb3.mono HB2.out.size))
   clear hb3 HB2 f0 f1
   have hw1 : IntKind.i64.wrap (1 + p) = 1 + p := IntWalk.i64_in _ (by omega)
   rw [hw1]
   by_cases hi : 0 ≤ i ∧ i < d
   ·have hw2 : IntKind.i64.wrap (1 + p + i) = 1 + p + i := IntWalk.i64_in _ (by omega)
    have hw3 : IntKind.i64.wrap (a + (1 + p + i)) = a + (1 + p + i) := IntWalk.i64_in _ (by omega)
    have hd1 : decide (0 ≤ i ∧ i < d) = true := by simpa using hi
    have HV : Hid (pn = ⟨a + (1 + p + i), 0⟩) := LH (by rw [HPL.out]; simp [hi])
    rw [hd1, hw2]
    clear hi hd1
    go_wp2_with fail
    go_ret2
    exact ⟨by rw [HV.out]; rfl, HB3.out⟩
   ·have hd1 : decide (0 ≤ i ∧ i < d) = false := by simpa using hi
    have HV : Hid (pn = ⟨0, 7⟩) := LH (by rw [HPL.out]; simp [hi])
    rw [hd1]
    clear hi hd1
    go_wp2_with fail
    go_ret2
    exact ⟨by rw [HV.out]; rfl, HB3.out⟩
 ·have hc2 : c = 22 := hC22.out.elim (fun h => absurd h hc) id
  subst hc2
  have HV : Hid (pn = ⟨0, 22⟩) := LH (by rw [HPL.out, if_pos hc])
  clear hc
  go_wp2_with fail
  go_ret2
  exact ⟨by rw [HV.out]; rfl, HB.out⟩
theorem headN_code2 (S : Dev) (a : Int) : (headN S a).code = 0 ∨ (headN S a).code = 22 := (headN_code S a).elim (fun h => .inl h.1) (fun h => .inr (by rw [h]))
def wordsAt (l : List Nat) (a : Int) (k : Nat) : List Nat := (List.range k).map fun i : Nat => peek l (a + (i : Int))
theorem wordsAt_succ (l : List Nat) (a : Int) (k : Nat) : wordsAt l a (k + 1) = wordsAt l a k ++ [peek l (a + (k : Int))] := by simp [wordsAt, List.range_succ]
theorem wordsAt_length (l : List Nat) (a : Int) (k : Nat) : (wordsAt l a k).length = k := by simp [wordsAt]
def Dev.lastsTo (S : Dev) (a : Int) (k : Nat) : Prop := ∀ i : Nat, i < k → peek S.lasting (a + (i : Int)) = peek S.cache (a + (i : Int))
instance (S : Dev) (a : Int) (k : Nat) : Decidable (S.lastsTo a k) := Nat.decidableBallLT k _
end Go.Proofs.YtpohaahihdhleaaGreat
namespace Go.Proofs.YtpohaahihdhleaaGreat
end Go.Proofs.YtpohaahihdhleaaGreat
namespace Go.Proofs.YtpohaahihdhleaaGreat
open Go.Maps Go.ChangeMaps
def rawElem (v : Value) : Option (DataW Value × List MemPlace) := some (.held v, [])
open Classical in
noncomputable def putL (M : Lit → Option Value) (x : Lit) (v : Option Value) : Lit → Option Value := fun y => if y = x then v else M y
theorem putL_same (M : Lit → Option Value) (x : Lit) (v : Option Value) : putL M x v x = v := by unfold putL; rw [if_pos rfl]
theorem putL_other (M : Lit → Option Value) {x y : Lit} (h : y ≠ x) (v : Option Value) : putL M x v y = M y := by unfold putL; rw [if_neg h]
structure TellsV (D : DataW Value) (M : Lit → Option Value) : Prop where
 isMap : IsMap D
 has : ∀ x, WideAt.IsKeyLit x → has D x = (M x).isSome
 val : ∀ x v, WideAt.IsKeyLit x → M x = some v → ∀ z, D.atKey x z = .held v
theorem TellsV.get {D : DataW Value} {M : Lit → Option Value} (h : TellsV D M) {x : Lit} (hx : WideAt.IsKeyLit x) (z : Value) : D.atKey x (.held z) = .held ((M x).getD z) := by
 cases hm : M x with
 | none => rw [atKey_of_not_has (by rw [h.has x hx, hm]; rfl)]; rfl
 | some c => rw [h.val x c hx hm]; rfl
theorem tellsV_nil : TellsV (.map []) fun _ => none := ⟨isMap_empty, fun _ _ => rfl, fun _ _ _ h => by cases h⟩
theorem TellsV.put {D : DataW Value} {M : Lit → Option Value} (h : TellsV D M) {x : Lit} (hx : WideAt.IsKeyLit x) (v : Value) :
  TellsV (D.put x (.held v)) (putL M x (some v)) := by
 refine ⟨h.isMap.put _ _, fun y hy => ?_, fun y d hy hd z => ?_⟩
 ·by_cases e : y = x
  ·subst e; rw [has_put_same h.isMap hx, putL_same]; rfl
  ·rw [has_put_other e, putL_other _ e, h.has y hy]
 ·by_cases e : y = x
  ·subst e; rw [putL_same] at hd; cases hd; rw [atKey_put_same h.isMap hx]
  ·rw [putL_other _ e] at hd; rw [atKey_put_other e, h.val y d hy hd]
def VMap (P : Program) (k : TypeId) (w : World) (b n : Nat) (M : Lit → Option Value) : Prop :=
 ∃ D : DataW Value, w.ownsMap P k rawElem b n D ∧ TellsV D M
section
variable {P : Program} {k e t : TypeId} {w : World} {b n : Nat} {M : Lit → Option Value} {ops : Array Oper} {rest : List Oper} {o : Oper} {a : Act} {Q : Exit → Act → World → Prop}
theorem VMap.mono {n' : Nat} (h : VMap P k w b n M) (hn : n ≤ n') : VMap P k w b n' M := by
 obtain ⟨D, ho, ht⟩ := h; exact ⟨D, ho.mono hn, ht⟩
theorem VMap.lt (h : VMap P k w b n M) : b < w.heap.size := by obtain ⟨D, ho, _⟩ := h; exact ho.lt
theorem VMap.made (w : World) (P : Program) (k : TypeId) : VMap P k (w.alloc (.map #[] 0)) w.heap.size 0 fun _ => none :=
 ⟨.map [], World.ownsMap_made w P k _, tellsV_nil⟩
theorem VMap.block (h : VMap P k w b n M) {w' : World} (he : w'.heap[b]? = w.heap[b]?) : VMap P k w' b n M := by
 obtain ⟨D, ⟨es, clock, hb, F, hs, hD⟩, ht⟩ := h; exact ⟨D, ⟨es, clock, he.trans hb, F, hs, hD⟩, ht⟩
theorem VMap.look (K : Keyed P k) (ht : P.underlying t = some (.map k e)) {z : Value} (hz : (zeroValue e).run P w = .ok z w) (h : VMap P k w b n M) {key : Value} {kl : Lit} (hkey : keyOf P k key = some kl) :
  (Instr.lookup t (.map (some b)) key false).run P w = .ok ((M kl).getD z) w := by
 obtain ⟨D, ho, hT⟩ := h
 obtain ⟨v, ps, hrun, hv⟩ := ho.lookup K ht hz (zd := .held z) (zp := []) rfl hkey
 rw [hT.get (K.key hkey)] at hv
 have : v = (M kl).getD z := by
  simp only [rawElem, Option.some.injEq, Prod.mk.injEq, DataW.held.injEq] at hv
  exact hv.1
 rw [← this]; exact hrun
theorem wpList_vlook (hg : o.guard = none) (m x : Operand) (t : TypeId) (hop : o.op = Op.lookup t m x false)
  (k e : TypeId) (K : Keyed P k) (ht : P.underlying t = some (.map k e)) (z : Value) (hz : (zeroValue e).run P w = .ok z w) (b n : Nat) (M : Lit → Option Value)
  (hm : a.eval m = .map (some b)) (hown : VMap P k w b n M) (key : Value) (kl : Lit) (hx : a.eval x = key) (hkey : keyOf P k key = some kl)
  (hK : wpList P ops Q rest (a.put o.dst ((M kl).getD z)) w) :
  wpList P ops Q (o :: rest) a w := by
 refine wpList_plain hg fun K' hK' => ?_
 have hrun := hown.look K ht hz hkey
 unfold Oper.wp
 simp [execOp, hop, hm, hx, hrun, Result.andThen]
 exact hK' _ _ hK
theorem wpList_vstore (hg : o.guard = none) (m x v : Operand) (t : TypeId) (hop : o.op = Op.mapUpdate t m x v)
  (k e : TypeId) (K : Keyed P k) (ht : P.underlying t = some (.map k e)) (b n : Nat) (M : Lit → Option Value)
  (hm : a.eval m = .map (some b)) (hown : VMap P k w b n M) (hn : n < maxLen) (key val : Value) (kl : Lit) (hx : a.eval x = key) (hv : a.eval v = val) (hkey : keyOf P k key = some kl)
  (hK : ∀ w', VMap P k w' b (n + 1) (putL M kl (some val)) → w.grownBy w' (some b) → wpList P ops Q rest (a.put o.dst undef) w') :
  wpList P ops Q (o :: rest) a w := by
 obtain ⟨D, ho, hT⟩ := hown
 exact wpList_mapUpdate_own w hg m x v t hop k e K ht rawElem b n D hm ho hn key val kl hx hv hkey (.held val) [] rfl fun w' h1 h2 => hK w' ⟨_, h1, hT.put (K.key hkey) val⟩ h2
end
def pairKey (a b : Int) : Lit := .string (keyBytes [.int .i64 a, .int .i64 b])
end Go.Proofs.YtpohaahihdhleaaGreat
namespace Go.Proofs.YtpohaahihdhleaaGreat
open Go.RowKit Go.Maps
def OwnI (w : World) (v : Value) (xs : List Nat) : Prop := w.ownsRow 0 3 1 v xs.length (xs.map vi) ∨ (∃ a, v = .slice (some a) 0 0 ∧ xs = [])
def rowOf : Value → Option Nat
 | .slice (some a) _ c => if c = 0 then none else some a.block
 | _ => none
theorem OwnI.nil (w : World) : OwnI w (.slice none 0 0) [] := .inl ⟨rfl, .inl ⟨rfl, rfl⟩⟩
theorem OwnI.cells {w : World} {v : Value} {xs : List Nat} (h : OwnI w v xs) : ∃ a c, v = .slice a xs.length c ∧ Cells w a (xs.map vi) ∧ xs.length ≤ c ∧ c ≤ maxLen := by
 rcases h with h | ⟨a, rfl, rfl⟩
 ·rcases h.2 with ⟨rfl, h0⟩ | ⟨g, cap, cur, rfl, hb, hg, h1, h2, h3, h4⟩
  ·have : xs = [] := List.length_eq_zero_iff.1 h0
   subst this
   exact ⟨none, 0, rfl, .inl rfl, Nat.le_refl _, by unfold maxLen; omega⟩
  ·refine ⟨_, _, rfl, .inr ⟨g, 0, rfl, fun i u hi => ?_⟩, h1, h2⟩
   have hc : RowAt w g 3 (xs.map vi) := ⟨cur, hg, cur.toList.drop (xs.length * 1), by rw [← h4, List.take_append_drop]⟩
   rw [Nat.zero_add]; exact hc.cell hi
 ·exact ⟨some a, 0, rfl, .inl rfl, Nat.le_refl _, by unfold maxLen; omega⟩
theorem OwnI.keep {w w' : World} {v : Value} {xs : List Nat} (h : OwnI w v xs) (hk : ∀ b, rowOf v = some b → w'.heap[b]? = w.heap[b]?) : OwnI w' v xs := by
 rcases h with h | h
 ·rcases h.2 with ⟨rfl, h0⟩ | ⟨g, cap, cur, rfl, hb, hg, h1, h2, h3, h4⟩
  ·exact .inl ⟨h.1, .inl ⟨rfl, h0⟩⟩
  ·by_cases hc : cap = 0
   ·subst hc
    have : xs = [] := List.length_eq_zero_iff.1 (by omega)
    subst this
    exact .inr ⟨_, rfl, rfl⟩
   ·exact .inl ⟨h.1, .inr ⟨g, cap, cur, rfl, hb, (hk g (by show (if cap = 0 then none else some g) = some g; rw [if_neg hc])).trans hg, h1, h2, h3, h4⟩⟩
 ·exact .inr h
theorem OwnI.lt {w : World} {v : Value} {xs : List Nat} (h : OwnI w v xs) : ∀ b, rowOf v = some b → b < w.heap.size := by
 intro b hb
 rcases h with h | ⟨a, rfl, rfl⟩
 ·rcases h.2 with ⟨rfl, h0⟩ | ⟨g, cap, cur, rfl, hb', hg, h1, h2, h3, h4⟩
  ·cases hb
  ·have hb2 : (if cap = 0 then none else some g) = some b := hb
   by_cases hc : cap = 0
   ·rw [if_pos hc] at hb2; cases hb2
   ·rw [if_neg hc] at hb2; cases hb2; exact (Array.getElem?_eq_some_iff.1 hg).1
 ·have hb2 : (if 0 = 0 then none else some a.block) = some b := hb
  rw [if_pos rfl] at hb2; cases hb2
def slotI (m k : Nat) : Nat := 32 + 32 * m + k
def FL.at (S : FL) (i : Nat) : List Nat := if i < 32 then S.g i else S.c ((i - 32) / 32) ((i - 32) % 32)
theorem FL.at_g (S : FL) {k : Nat} (h : k < 32) : S.at k = S.g k := by unfold FL.at; rw [if_pos h]
theorem FL.at_c (S : FL) (m : Nat) {k : Nat} (h : k < 32) : S.at (slotI m k) = S.c m k := by
 unfold FL.at slotI
 rw [if_neg (by omega), show (32 + 32 * m + k - 32) / 32 = m by omega, show (32 + 32 * m + k - 32) % 32 = k by omega]
theorem keyed_slot : Keyed Tryz.prog 237 := Keyed.of_law (deep_law_laid (by kernel_rfl) (m := 2) (by omega) (of_decide_eq_true (by kernel_rfl)) (by kernel_rfl) (by rw [Tryz.underlying237]))
abbrev slotV (m k : Int) : Value := .agg #[.int .i64 m, .int .i64 k]
theorem fsSlot : Tryz.prog.fieldsOf 237 = #[{ name := "Mutator", type := 3, offset := 0, embedded := false, tag := "", pkgPath := "", byteOffset := 0 }, { name := "Class", type := 3, offset := 1, embedded := false, tag := "", pkgPath := "", byteOffset := 8 }] := by kernel_rfl
theorem usSlot : Tryz.prog.underlying 237 = some (.struct (Tryz.prog.fieldsOf 237)) := by kernel_rfl
theorem ctSlot : Tryz.prog.cellsOf 237 = 2 := by kernel_rfl
theorem ciSlot : Tryz.prog.cellsOf 3 = 1 := by kernel_rfl
theorem ktSlot : Tryz.prog.keyType 237 = true := by kernel_rfl
theorem tsSlot : ∃ z, Tryz.prog.types.size = z + 1 := ⟨Tryz.prog.types.size - 1, by kernel_rfl⟩
theorem key_slot (m k : Int) (hm : (Lit.int .i64 m).wf = true) (hk : (Lit.int .i64 k).wf = true) : keyOf Tryz.prog 237 (slotV m k) = some (pairKey m k) := by
 have h3 : (slotV m k).formed Tryz.prog 237 = true := by simp [Value.formed, usSlot, ctSlot]
 obtain ⟨z, hz⟩ := tsSlot
 unfold keyOf pairKey
 rw [usSlot]
 simp only
 rw [ktSlot, h3, if_pos (by rfl), hz]
 unfold Program.keyLits
 simp only [usSlot, fsSlot, ctSlot, Value.cells]
 rw [if_pos ⟨rfl, by decide +kernel⟩]
 simp [Program.keyLits, Tryz.underlying3, ciSlot, hm, hk]
structure FreeIn (w : World) (f mb n : Nat) (V : Nat → Value) (S : FL) : Prop where
 head : w.heap[f]? = some (.cells ((List.range 32).map V ++ [Value.map (some mb)]).toArray 235 (0, 0))
 map : ∃ M, VMap Tryz.prog 237 w mb n M ∧ ∀ m k : Nat, m < 4 → k < 32 → (M (pairKey m k)).getD (.slice none 0 0) = V (slotI m k)
 rows : ∀ i, i < 160 → OwnI w (V i) (S.at i)
 apart : ∀ i j, i < 160 → j < 160 → i ≠ j → ∀ b, rowOf (V i) = some b → rowOf (V j) ≠ some b
 neF : ∀ i, i < 160 → rowOf (V i) ≠ some f ∧ rowOf (V i) ≠ some mb
 ne : f ≠ mb
def FreeAt (w : World) (f mb n : Nat) (R : List Nat) (S : FL) : Prop := ∃ V, FreeIn w f mb n V S ∧ f ∈ R ∧ mb ∈ R ∧ (∀ b ∈ R, b < w.heap.size) ∧ ∀ i, i < 160 → ∀ b, rowOf (V i) = some b → b ∈ R
theorem FreeAt.keep {w w' : World} {f mb n : Nat} {R : List Nat} {S : FL} (h : FreeAt w f mb n R S) (hk : ∀ k ∈ R, w'.heap[k]? = w.heap[k]?) : FreeAt w' f mb n R S := by
 obtain ⟨V, hi, h1, h2, h3, h4⟩ := h
 obtain ⟨M, hm, hv⟩ := hi.map
 refine ⟨V, ⟨(hk f h1).trans hi.head, ⟨M, hm.block (hk mb h2), hv⟩, fun i hi' => (hi.rows i hi').keep fun b hb => hk b (h4 i hi' b hb), hi.apart, hi.neF, hi.ne⟩, h1, h2, fun b hb => ?_, h4⟩
 have hb3 := h3 b hb
 have : w'.heap[b]? ≠ none := by rw [hk b hb, Array.getElem?_eq_getElem hb3]; simp
 apply Classical.byContradiction
 intro c
 exact this (Array.getElem?_eq_none (by omega))
theorem FreeAt.below {w w' : World} {f mb n : Nat} {R : List Nat} {S : FL} (h : FreeAt w f mb n R S) (hb : Below w.heap.size w w') : FreeAt w' f mb n R S := by
 obtain ⟨V, _, _, _, h3, _⟩ := id h
 exact h.keep (fun k hk => hb.block k (h3 k hk))
theorem FreeAt.mem {w : World} {f mb n : Nat} {R : List Nat} {S : FL} (h : FreeAt w f mb n R S) : ∀ b ∈ R, b < w.heap.size := by
 obtain ⟨V, _, _, _, h3, _⟩ := h; exact h3
theorem FreeAt.mono {w : World} {f mb n n' : Nat} {R : List Nat} {S : FL} (h : FreeAt w f mb n R S) (hn : n ≤ n') : FreeAt w f mb n' R S := by
 obtain ⟨V, hi, r⟩ := h
 obtain ⟨M, hm, hv⟩ := hi.map
 exact ⟨V, { hi with map := ⟨M, hm.mono hn, hv⟩ }, r⟩
def NewFree (w : World) : Ending → World → Prop := fun e w' => ∃ f mb, e = .returned (.pointer (some ⟨f, 0, none⟩)) ∧ FreeAt w' f mb 0 [f, mb] FL.empty ∧ Below w.heap.size w w' ∧ w.heap.size ≤ f ∧ w.heap.size ≤ mb
theorem FL.at_empty (i : Nat) : FL.empty.at i = [] := by unfold FL.at FL.empty; split <;> rfl
set_option maxHeartbeats 1000000 in
theorem fnew_any (w : World) : Calls Tryz.prog 117 #[] w (NewFree w) := by
 have HV := LH (VMap.made w Tryz.prog 237)
 have HB := LH (below_alloc w (.map #[] 0))
 have HP : Hid (∀ f mb w', FreeAt w' f mb 0 [f, mb] FL.empty → Below w.heap.size w w' → w.heap.size ≤ f → w.heap.size ≤ mb → NewFree w (.returned (.pointer (some ⟨f, 0, none⟩))) w') := LH (fun f mb w' a b c d => ⟨f, mb, rfl, a, b, c, d⟩)
 generalize NewFree w = Post at *
 have hmm := @run_makeMap Tryz.prog
 go_enter Tryz.func117, Tryz.ntmps117
 go_wp2_with fail
 have hs : (w.alloc (.map #[] 0)).heap.size = w.heap.size + 1 := by simp
 generalize w.alloc _ = w1 at *
 have hb2 := below_alloc w1 (Obj.cells ((List.range 32).map (fun _ => Value.slice none 0 0) ++ [Value.map (some w.heap.size)]).toArray 235)
 have hh := heap_alloc_new w1 (Obj.cells ((List.range 32).map (fun _ => Value.slice none 0 0) ++ [Value.map (some w.heap.size)]).toArray 235)
 rw [hs] at hh
 refine HP.out (w.heap.size + 1) w.heap.size _ ⟨fun _ => .slice none 0 0, ⟨hh, ⟨_, HV.out.block (hb2.block _ (by omega)), fun _ _ _ _ => rfl⟩, fun i _ => (by rw [FL.at_empty]; exact OwnI.nil _), fun i j _ _ _ b hb => (by cases hb), fun i _ => ⟨(by intro h; cases h), (by intro h; cases h)⟩, by omega⟩, by simp, by simp, ?_, fun i _ b hb => (by cases hb)⟩ ?_ (by omega) (Nat.le_refl _)
 ·intro b hb
  simp only [List.mem_cons, List.not_mem_nil, or_false] at hb
  rcases hb with rfl | rfl <;> simp <;> omega
 ·exact HB.out.trans (hb2.mono (by omega))
end Go.Proofs.YtpohaahihdhleaaGreat
namespace Go.Proofs.YtpohaahihdhleaaGreat
def bitW (ws : List Nat) (i : Nat) : Bool := (ws.getD (i / 64) 0).testBit (i % 64)
structure BitsOf (ws : List Nat) (l : List Bool) : Prop where
 len : ws.length = (l.length + 63) / 64
 lt : ∀ z ∈ ws, z < 18446744073709551616
 bit : ∀ i, bitW ws i = l.getD i false
theorem BitsOf.getD_lt {ws : List Nat} {l : List Bool} (h : BitsOf ws l) (i : Nat) : ws.getD i 0 < 18446744073709551616 := by
 rw [List.getD_eq_getElem?_getD]
 by_cases c : i < ws.length
 ·rw [List.getElem?_eq_getElem c]; exact h.lt _ (List.getElem_mem c)
 ·rw [List.getElem?_eq_none (by omega)]; simp
theorem bits_new (n : Nat) : BitsOf (List.replicate ((n + 63) / 64) 0) (List.replicate n false) := by
 refine ⟨by simp, fun z hz => by rw [List.eq_of_mem_replicate hz]; decide, fun i => ?_⟩
 have h1 : (List.replicate ((n + 63) / 64) 0).getD (i / 64) 0 = 0 := by
  rw [List.getD_eq_getElem?_getD, List.getElem?_replicate]; split <;> rfl
 have h2 : (List.replicate n false).getD i false = false := by
  rw [List.getD_eq_getElem?_getD, List.getElem?_replicate]; split <;> rfl
 unfold bitW
 rw [h1, h2, Nat.zero_testBit]
theorem BitsOf.word {ws : List Nat} {l : List Bool} (h : BitsOf ws l) {i : Nat} (hi : i < l.length) : i / 64 < ws.length := by
 rw [h.len]; omega
theorem getD_set_bool (l : List Bool) (a i : Nat) (v : Bool) (ha : a < l.length) : (l.set a v).getD i false = if i = a then v else l.getD i false := by
 rw [List.getD_eq_getElem?_getD, List.getElem?_set, List.getD_eq_getElem?_getD]
 by_cases e : a = i
 ·subst e; simp [ha]
 ·rw [if_neg e, if_neg (fun c => e c.symm)]
theorem BitsOf.set {ws : List Nat} {l : List Bool} (h : BitsOf ws l) {a : Nat} (ha : a < l.length) (v : Bool) {x : Nat} (hx : x < 18446744073709551616)
  (hb : ∀ j, j < 64 → x.testBit j = if j = a % 64 then v else (ws.getD (a / 64) 0).testBit j) : BitsOf (ws.set (a / 64) x) (l.set a v) := by
 refine ⟨by simp [h.len], fun z hz => ?_, fun i => ?_⟩
 ·rcases List.mem_or_eq_of_mem_set hz with hz | rfl
  ·exact h.lt z hz
  ·exact hx
 ·have hw := h.word ha
  have h0 := h.bit i
  unfold bitW at h0 ⊢
  rw [List.getD_eq_getElem?_getD, List.getElem?_set]
  by_cases e : a / 64 = i / 64
  ·rw [if_pos e, if_pos hw]
   simp only [Option.getD_some]
   rw [hb _ (Nat.mod_lt _ (by decide)), getD_set_bool l a i v ha]
   by_cases e2 : a = i
   ·subst e2; simp
   ·rw [if_neg (by omega), if_neg (fun c => e2 c.symm), e, h0]
  ·have e2 : a ≠ i := fun c => e (by rw [c])
   rw [if_neg e, ← List.getD_eq_getElem?_getD, h0, getD_set_bool l a i v ha, if_neg (fun c => e2 c.symm)]
theorem or_bit (x k : Nat) (_hk : k < 64) (j : Nat) (_hj : j < 64) : (x ||| 2 ^ k).testBit j = if j = k then true else x.testBit j := by
 rw [Nat.testBit_or, Nat.testBit_two_pow]
 by_cases e : j = k
 ·subst e; simp
 ·have : ¬ k = j := fun c => e c.symm
  simp [e, this]
theorem or_lt64 (x k : Nat) (hx : x < 18446744073709551616) (hk : k < 64) : x ||| 2 ^ k < 18446744073709551616 :=
 Nat.or_lt_two_pow (n := 64) hx (Nat.pow_lt_pow_right (by decide) hk)
theorem BitsOf.add {ws : List Nat} {l : List Bool} (h : BitsOf ws l) {a : Nat} (ha : a < l.length) : BitsOf (ws.set (a / 64) (ws.getD (a / 64) 0 ||| 2 ^ (a % 64))) (l.set a true) :=
 h.set ha true (or_lt64 _ _ (h.getD_lt _) (Nat.mod_lt _ (by decide))) (or_bit _ _ (Nat.mod_lt _ (by decide)))
theorem bit_shift (x k : Nat) : (x / 2 ^ k % 2 = 1) ↔ x.testBit k = true := by
 rw [Nat.testBit_eq_decide_div_mod_eq]; simp
def LowAt (x k : Nat) : Prop := k < 64 ∧ x.testBit k = true ∧ ∀ j, j < k → x.testBit j = false
theorem low_form {x k : Nat} (h : LowAt x k) : ∃ m, x = 2 ^ k * (2 * m + 1) := by
 obtain ⟨_, h1, h2⟩ := h
 have e : x % 2 ^ k = 0 := by
  apply Nat.eq_of_testBit_eq
  intro i
  rw [Nat.testBit_mod_two_pow, Nat.zero_testBit]
  by_cases c : i < k
  ·simp [h2 i c]
  ·simp [c]
 have e2 := (bit_shift x k).2 h1
 refine ⟨x / 2 ^ k / 2, ?_⟩
 have e3 : 2 * (x / 2 ^ k / 2) + 1 = x / 2 ^ k := by omega
 rw [e3]
 have := Nat.div_add_mod x (2 ^ k)
 omega
theorem low_and {x k : Nat} (h : LowAt x k) (hx : x < 18446744073709551616) : x &&& (18446744073709551616 - x) = 2 ^ k := by
 obtain ⟨m, hm⟩ := low_form h
 have hk := h.1
 have p : 0 < 2 ^ k := Nat.two_pow_pos k
 have hxp : 0 < x := by rw [hm]; exact Nat.mul_pos p (by omega)
 have hy : x - 1 = 2 ^ k * (2 * m) + (2 ^ k - 1) := by rw [hm, Nat.mul_add, Nat.mul_one]; omega
 have e : 18446744073709551616 - x = 2 ^ 64 - (x - 1 + 1) := by omega
 apply Nat.eq_of_testBit_eq
 intro i
 rw [Nat.testBit_and, e, Nat.testBit_two_pow_sub_succ (by omega), Nat.testBit_two_pow]
 rcases Nat.lt_trichotomy i k with c | rfl | c
 ·rw [h.2.2 i c]
  have : ¬ k = i := by omega
  simp [this]
 ·rw [h.2.1]
  have : (x - 1).testBit i = false := by
   rw [hy, Nat.testBit_two_pow_mul_add _ (by omega)]
   simp
  simp [this, hk]
 ·have c1 : ¬ k = i := by omega
  have a1 : x.testBit i = (2 * m + 1).testBit (i - k) := by
   have := Nat.testBit_two_pow_mul_add (i := k) (b := 0) (2 * m + 1) p i
   rw [Nat.add_zero] at this
   rw [hm, this, if_neg (by omega)]
  have a2 : (x - 1).testBit i = (2 * m).testBit (i - k) := by
   rw [hy, Nat.testBit_two_pow_mul_add _ (by omega), if_neg (by omega)]
  obtain ⟨d, hd⟩ : ∃ d, i - k = d + 1 := ⟨i - k - 1, by omega⟩
  rw [a1, a2, hd, Nat.testBit_succ, Nat.testBit_succ]
  have : (2 * m + 1) / 2 = 2 * m / 2 := by omega
  rw [this, decide_eq_false c1]
  cases (2 * m / 2).testBit d <;> simp
theorem low_exists {x : Nat} (h0 : x ≠ 0) (hx : x < 18446744073709551616) : ∃ k, LowAt x k := by
 have hex : ∃ k, x.testBit k = true := by
  apply Classical.byContradiction
  intro hc
  apply h0
  apply Nat.eq_of_testBit_eq
  intro i
  rw [Nat.zero_testBit]
  cases hb : x.testBit i with
  | false => rfl
  | true => exact absurd ⟨i, hb⟩ hc
 have hm : ∀ n, (∃ k, k < n ∧ x.testBit k = true) → ∃ k, x.testBit k = true ∧ ∀ j, j < k → x.testBit j = false := by
  intro n
  induction n with
  | zero => rintro ⟨k, hk, _⟩; omega
  | succ n ih =>
   rintro ⟨k, hk, hb⟩
   by_cases c : ∃ k, k < n ∧ x.testBit k = true
   ·exact ih c
   ·refine ⟨k, hb, fun j hj => ?_⟩
    cases hj2 : x.testBit j with
    | false => rfl
    | true => exact absurd ⟨j, by omega, hj2⟩ c
 obtain ⟨k, hk⟩ := hex
 obtain ⟨k, h1, h2⟩ := hm (k + 1) ⟨k, by omega, hk⟩
 refine ⟨k, ?_, h1, h2⟩
 apply Classical.byContradiction
 intro hc
 rw [Nat.testBit_lt_two_pow (Nat.lt_of_lt_of_le hx (Nat.pow_le_pow_right (n := 2) (by decide) (show 64 ≤ k by omega)))] at h1
 cases h1
theorem high_bit (x r i : Nat) : (x / 2 ^ r * 2 ^ r).testBit i = (decide (r ≤ i) && x.testBit i) := by
 rw [Nat.mul_comm, Nat.testBit_two_pow_mul]
 by_cases c : r ≤ i
 ·rw [Nat.testBit_div_two_pow, show i - r + r = i by omega]
 ·simp [c]
def nextB (l : List Bool) (a : Nat) : Option Nat := ((l.drop a).findIdx? id).map (· + a)
theorem nextB_some {l : List Bool} {a i : Nat} (h1 : a ≤ i) (h2 : l.getD i false = true) (h3 : ∀ j, a ≤ j → j < i → l.getD j false = false) : nextB l a = some i := by
 unfold nextB
 have hi : i < l.length := by
  apply Classical.byContradiction
  intro c
  rw [List.getD_eq_getElem?_getD, List.getElem?_eq_none (by omega)] at h2
  simp at h2
 have : (l.drop a).findIdx? id = some (i - a) := by
  rw [List.findIdx?_eq_some_iff_getElem]
  refine ⟨by simp; omega, ?_, fun j hj => ?_⟩
  ·rw [List.getD_eq_getElem?_getD, List.getElem?_eq_getElem hi] at h2
   simp only [List.getElem_drop]
   simpa [show a + (i - a) = i by omega] using h2
  ·have := h3 (a + j) (by omega) (by omega)
   rw [List.getD_eq_getElem?_getD, List.getElem?_eq_getElem (by omega)] at this
   simpa using this
 rw [this]
 simp; omega
theorem nextB_none {l : List Bool} {a : Nat} (h : ∀ j, a ≤ j → l.getD j false = false) : nextB l a = none := by
 unfold nextB
 have : (l.drop a).findIdx? id = none := by
  rw [List.findIdx?_eq_none_iff]
  intro x hx
  obtain ⟨j, hj, rfl⟩ := List.mem_iff_getElem.1 hx
  have := h (a + j) (by omega)
  simp at hj
  rw [List.getD_eq_getElem?_getD, List.getElem?_eq_getElem (by omega)] at this
  simpa using this
 rw [this]; rfl
theorem nextB_is {l : List Bool} {a i : Nat} (h : nextB l a = some i) : a ≤ i ∧ l.getD i false = true ∧ i < l.length ∧ ∀ j, a ≤ j → j < i → l.getD j false = false := by
 unfold nextB at h
 cases hf : (l.drop a).findIdx? id with
 | none => rw [hf] at h; cases h
 | some k =>
  rw [hf] at h
  obtain rfl : k + a = i := by simpa using h
  rw [List.findIdx?_eq_some_iff_getElem] at hf
  obtain ⟨hk, h1, h2⟩ := hf
  simp at hk
  refine ⟨by omega, ?_, by omega, fun j h3 h4 => ?_⟩
  ·rw [List.getD_eq_getElem?_getD, List.getElem?_eq_getElem (by omega)]
   simpa [Nat.add_comm] using h1
  ·have := h2 (j - a) (by omega)
   rw [List.getD_eq_getElem?_getD, List.getElem?_eq_getElem (by omega)]
   simpa [show a + (j - a) = j by omega] using this
theorem nextB_not {l : List Bool} {a : Nat} (h : nextB l a = none) : ∀ j, a ≤ j → l.getD j false = false := by
 intro j hj
 cases hb : l.getD j false with
 | false => rfl
 | true =>
  exfalso
  have hl : j < l.length := by
   apply Classical.byContradiction
   intro c
   rw [List.getD_eq_getElem?_getD, List.getElem?_eq_none (by omega)] at hb
   simp at hb
  unfold nextB at h
  rw [Option.map_eq_none_iff, List.findIdx?_eq_none_iff] at h
  have := h l[j] (by rw [List.mem_iff_getElem]; exact ⟨j - a, by simp; omega, by simp [show a + (j - a) = j by omega]⟩)
  rw [List.getD_eq_getElem?_getD, List.getElem?_eq_getElem hl] at hb
  simp at this hb
  rw [this] at hb; cases hb
def onesL (l : List Bool) : List Nat := (List.range l.length).filter (fun i => l.getD i false)
def onesF (l : List Bool) (a : Nat) : List Nat := (onesL l).filter (fun i => decide (a ≤ i))
theorem onesF_zero (l : List Bool) : onesF l 0 = onesL l := by unfold onesF; simp
theorem range_split (n a : Nat) (h : a ≤ n) : List.range n = List.range a ++ (List.range (n - a)).map (a + ·) := by
 have : n = a + (n - a) := by omega
 rw [this, List.range_add, show a + (n - a) - a = n - a by omega]
theorem onesF_eq (l : List Bool) (a : Nat) (h : a ≤ l.length) : onesF l a = ((List.range (l.length - a)).map (a + ·)).filter (fun i => l.getD i false) := by
 unfold onesF onesL
 rw [range_split l.length a h, List.filter_append, List.filter_append]
 have e1 : (List.filter (fun i => decide (a ≤ i)) (List.filter (fun i => l.getD i false) (List.range a))) = [] := by
  rw [List.filter_eq_nil_iff]
  intro x hx
  have := List.mem_range.1 (List.mem_filter.1 hx).1
  simp; omega
 rw [e1, List.nil_append, List.filter_eq_self]
 intro x hx
 obtain ⟨j, _, rfl⟩ := List.mem_map.1 (List.mem_filter.1 hx).1
 simp
theorem onesF_step {l : List Bool} {a i : Nat} (h : nextB l a = some i) : onesF l a = i :: onesF l (i + 1) := by
 obtain ⟨h1, h2, h3, h4⟩ := nextB_is h
 rw [onesF_eq l a (by omega), onesF_eq l (i + 1) (by omega)]
 have e : List.range (l.length - a) = List.range (i - a) ++ (List.range (l.length - a - (i - a))).map ((i - a) + ·) := range_split _ _ (by omega)
 obtain ⟨m, hm⟩ : ∃ m, l.length - a - (i - a) = m + 1 := ⟨l.length - i - 1, by omega⟩
 rw [e, hm, List.range_succ_eq_map, List.map_append, List.filter_append]
 have e1 : List.filter (fun i => l.getD i false) (List.map (a + ·) (List.range (i - a))) = [] := by
  rw [List.filter_eq_nil_iff]
  intro x hx
  obtain ⟨j, hj, rfl⟩ := List.mem_map.1 hx
  have := List.mem_range.1 hj
  rw [h4 (a + j) (by omega) (by omega)]
  simp
 rw [e1, List.nil_append]
 simp only [List.map_cons, List.map_map]
 rw [List.filter_cons, if_pos (by simpa [show a + (i - a) = i by omega] using h2)]
 rw [show a + (i - a + 0) = i by omega, show l.length - (i + 1) = m by omega]
 congr 2
 apply List.map_congr_left
 intro x _
 simp only [Function.comp_apply]
 omega
theorem onesF_none {l : List Bool} {a : Nat} (h : nextB l a = none) : onesF l a = [] := by
 unfold onesF onesL
 rw [List.filter_filter, List.filter_eq_nil_iff]
 intro x _
 simp only [Bool.and_eq_true, decide_eq_true_eq, not_and]
 intro h1
 rw [nextB_not h x h1]; simp
theorem onesL_length (l : List Bool) : (onesL l).length = l.count true := by
 have : ∀ (l : List Bool) (k : Nat), ((List.range l.length).filter (fun i => l.getD i false)).length = l.count true := by
  intro l k
  induction l with
  | nil => rfl
  | cons b t ih =>
   rw [List.length_cons, List.range_succ_eq_map, List.filter_cons, List.filter_map, List.count_cons]
   have e : (fun i => (b :: t).getD i false) ∘ Nat.succ = fun i => t.getD i false := by funext i; simp
   rw [e]
   cases b <;> (simp at ih ⊢; exact ih)
 exact this l 0
theorem count_set_true {l : List Bool} {a : Nat} (ha : a < l.length) (h : l.getD a false = false) : (l.set a true).count true = l.count true + 1 := by
 have := List.count_set (a := true) (b := true) ha
 rw [List.getD_eq_getElem?_getD, List.getElem?_eq_getElem ha] at h
 simp at h
 rw [this, h]
 simp
theorem count_le_len (l : List Bool) : l.count true ≤ l.length := List.count_le_length
end Go.Proofs.YtpohaahihdhleaaGreat
namespace Go.Proofs.YtpohaahihdhleaaGreat
open Go.RowKit
structure SetF where
 u : Nat
 b : Nat
 c : Nat
def SetF.list (X : SetF) : List Nat := [X.u, X.b]
def setV (X : SetF) (n : Nat) (l : List Bool) : Array Value := #[.slice (some ⟨X.b, 0, none⟩) n X.c, .int .i64 (l.length : Int), .int .i64 (l.count true : Int)]
structure SetIn (w : World) (X : SetF) (ws : List Nat) (l : List Bool) : Prop where
 bits : BitsOf ws l
 head : w.heap[X.u]? = some (.cells (setV X ws.length l) 262 (0, 0))
 row : RowAt w X.b 40 (ws.map vu64)
 ne : X.u ≠ X.b
 small : l.length ≤ 1000000
def SetAt (w : World) (X : SetF) (l : List Bool) : Prop := ∃ ws, SetIn w X ws l
abbrev vset (X : SetF) : Value := .pointer (some ⟨X.u, 0, none⟩)
theorem SetIn.keep {w w' : World} {X : SetF} {ws : List Nat} {l : List Bool} (h : SetIn w X ws l) (hk : ∀ k ∈ X.list, w'.heap[k]? = w.heap[k]?) : SetIn w' X ws l :=
 ⟨h.bits, (hk X.u (by simp [SetF.list])).trans h.head, h.row.keep (hk X.b (by simp [SetF.list])), h.ne, h.small⟩
theorem SetAt.keep {w w' : World} {X : SetF} {l : List Bool} (h : SetAt w X l) (hk : ∀ k ∈ X.list, w'.heap[k]? = w.heap[k]?) : SetAt w' X l := by
 obtain ⟨ws, h⟩ := h; exact ⟨ws, h.keep hk⟩
theorem SetAt.mem {w : World} {X : SetF} {l : List Bool} (h : SetAt w X l) : ∀ k ∈ X.list, k < w.heap.size := by
 obtain ⟨ws, h⟩ := h
 have h1 := (Array.getElem?_eq_some_iff.1 h.head).1
 have h2 := h.row.lt
 simp only [SetF.list, List.mem_cons, List.not_mem_nil, or_false, forall_eq_or_imp, forall_eq]
 exact ⟨h1, h2⟩
theorem SetAt.below {w w' : World} {X : SetF} {l : List Bool} (h : SetAt w X l) (hb : Below w.heap.size w w') : SetAt w' X l := h.keep (fun k hk => hb.block k (h.mem k hk))
theorem SetAt.small {w : World} {X : SetF} {l : List Bool} (h : SetAt w X l) : l.length ≤ 1000000 := by obtain ⟨_, h⟩ := h; exact h.small
theorem SetIn.c0 {w : World} {X : SetF} {ws : List Nat} {l : List Bool} (h : SetIn w X ws l) : w.cell? ⟨X.u, 0, none⟩ = some (.slice (some ⟨X.b, 0, none⟩) ws.length X.c) := cell_of_row _ _ 0 _ _ _ h.head
theorem SetIn.c1 {w : World} {X : SetF} {ws : List Nat} {l : List Bool} (h : SetIn w X ws l) : w.cell? ⟨X.u, 1, none⟩ = some (.int .i64 (l.length : Int)) := cell_of_row _ _ 1 _ _ _ h.head
set_option maxHeartbeats 1000000 in
theorem sin_any {w : World} {X : SetF} {l : List Bool} (h : SetAt w X l) (a : Int) :
  Calls Tryz.prog 160 #[vset X, .int .i64 a] w fun e w' => e = .returned (.bool (decide (0 ≤ a ∧ a < (l.length : Int)))) ∧ w = w' := by
 obtain ⟨ws, h⟩ := h
 have c1 := h.c1
 have hs := h.small
 clear h
 by_cases h0 : 0 ≤ a
 ·have h0' : decide (0 ≤ a) = true := by simpa using h0
  by_cases h1 : a < (l.length : Int)
  ·have HR : Hid (decide (0 ≤ a ∧ a < (l.length : Int)) = true) := LH (by simp [h0, h1])
   generalize decide (0 ≤ a ∧ a < (l.length : Int)) = r at *
   go_enter Tryz.func160, Tryz.ntmps160
   go_wp2_with fail
   go_ret
   exact ⟨by rw [HR.out]; rfl, rfl⟩
  ·have HR : Hid (decide (0 ≤ a ∧ a < (l.length : Int)) = false) := LH (by simp [h1])
   have h1' : (l.length : Int) ≤ a := by omega
   generalize decide (0 ≤ a ∧ a < (l.length : Int)) = r at *
   go_enter Tryz.func160, Tryz.ntmps160
   go_wp2_with fail
   go_ret
   exact ⟨by rw [HR.out]; rfl, rfl⟩
 ·have HR : Hid (decide (0 ≤ a ∧ a < (l.length : Int)) = false) := LH (by simp [h0])
  have h0' : decide (0 ≤ a) = false := by simpa using h0
  generalize decide (0 ≤ a ∧ a < (l.length : Int)) = r at *
  go_enter Tryz.func160, Tryz.ntmps160
  go_wp2_with fail
  go_ret
  exact ⟨by rw [HR.out]; rfl, rfl⟩
def hasI (l : List Bool) (a : Int) : Bool := decide (0 ≤ a) && l.getD a.toNat false
theorem hasI_nat (l : List Bool) (j : Nat) : hasI l (j : Int) = l.getD j false := by unfold hasI; simp
theorem hasI_out {l : List Bool} {a : Int} (h : decide (0 ≤ a ∧ a < (l.length : Int)) = false) : hasI l a = false := by
 unfold hasI
 by_cases h0 : 0 ≤ a
 ·have : ¬ a < (l.length : Int) := by simpa [h0] using h
  rw [List.getD_eq_getElem?_getD, List.getElem?_eq_none (by omega)]; simp
 ·simp [h0]
theorem bit_one (x r : Nat) (hx : x < 18446744073709551616) : bits BinOp.and IntKind.u64 ((x / 2 ^ r : Nat) : Int) 1 = ((x / 2 ^ r % 2 : Nat) : Int) := by
 have h1 : x / 2 ^ r < 18446744073709551616 := Nat.lt_of_le_of_lt (Nat.div_le_self _ _) hx
 have := u64_and_nat (x / 2 ^ r) 1 h1 (by decide)
 rw [show (1 : Int) = ((1 : Nat) : Int) from rfl, this, Nat.and_one_is_mod]
theorem bit_eq (x m : Nat) : (((x / 2 ^ m % 2 : Nat) : Int) == 1) = x.testBit m := by
 have h := bit_shift x m
 cases hb : x.testBit m with
 | false =>
  have : x / 2 ^ m % 2 = 0 := by
   have : ¬ x / 2 ^ m % 2 = 1 := fun c => by rw [h.1 c] at hb; cases hb
   omega
  rw [this]; rfl
 | true =>
  have := h.2 hb
  rw [this]; rfl
set_option maxHeartbeats 1000000 in
theorem shas_any {w : World} {X : SetF} {l : List Bool} (h : SetAt w X l) (a : Int) :
  Calls Tryz.prog 161 #[vset X, .int .i64 a] w fun e w' => e = .returned (.bool (hasI l a)) ∧ w = w' := by
 have HS := LH h
 obtain ⟨ws, h⟩ := h
 have c0 := h.c0
 by_cases hin : 0 ≤ a ∧ a < (l.length : Int)
 ·obtain ⟨j, rfl⟩ := Int.eq_ofNat_of_zero_le hin.1
  have hj : j < l.length := by omega
  have HT : Hid (decide (0 ≤ (j : Int) ∧ (j : Int) < (l.length : Int)) = true) := LH (by simp [hj])
  have hw := h.bits.word hj
  have HB := LH (h.bits.bit j)
  have hx := h.bits.getD_lt (j / 64)
  have d0 : w.cell? ⟨X.b, j / 64, none⟩ = some (vu64 (ws.getD (j / 64) 0)) := h.row.cell (by simp [hw])
  have HH := LH (hasI_nat l j)
  unfold bitW at HB
  have HO := LH (bit_one (ws.getD (j / 64) 0) (j % 64) hx)
  have HE := LH (bit_shift (ws.getD (j / 64) 0) (j % 64))
  have hsm := h.small
  generalize ws.getD (j / 64) 0 = x at *
  generalize hasI l (j : Int) = r at *
  generalize l.getD j false = r2 at *
  generalize hr : j % 64 = m at *
  generalize hq : j / 64 = q at *
  have hm : m < 64 := by omega
  have e1 : (j : Int) / 64 = (q : Int) := by omega
  have e2 : (j : Int) % 64 = (m : Int) := by omega
  clear h hin hr hq
  go_enter Tryz.func161, Tryz.ntmps161
  go_wp2_with fail
  refine (sin_any HS.out (j : Int)).mono ?_
  rintro e w1 ⟨rfl, rfl⟩
  rw [HT.out]
  go_wp2_with fail
  go_ret
  have e : ((x : Int) / 2 ^ m) = ((x / 2 ^ m : Nat) : Int) := by push_cast; rfl
  refine ⟨?_, rfl⟩
  rw [HH.out, ← HB.out, ← bit_eq, ← HO.out, ← e]
  rfl
 ·have HT : Hid (decide (0 ≤ a ∧ a < (l.length : Int)) = false) := LH (by simpa using hin)
  have HH := LH (hasI_out HT.out)
  generalize hasI l a = r at *
  clear h hin c0
  go_enter Tryz.func161, Tryz.ntmps161
  go_wp2_with fail
  refine (sin_any HS.out a).mono ?_
  rintro e w1 ⟨rfl, rfl⟩
  rw [HT.out]
  go_wp2_with fail
  go_ret
  exact ⟨by rw [HH.out]; rfl, rfl⟩
theorem or_val1 (x m : Nat) (hx : x < 18446744073709551616) (hm : m < 64) : bits BinOp.or IntKind.u64 (x : Int) (IntKind.u64.wrap ((2 : Int) ^ m)) = ((x ||| 2 ^ m : Nat) : Int) := by
 have p : 2 ^ m < 18446744073709551616 := Nat.pow_lt_pow_right (n := 64) (by decide) hm
 have e : IntKind.u64.wrap ((2 : Int) ^ m) = ((2 ^ m : Nat) : Int) := by
  rw [show (2 : Int) ^ m = ((2 ^ m : Nat) : Int) by push_cast; rfl]
  generalize 2 ^ m = y at p ⊢
  rw [IntKind.wrap_u64]; omega
 rw [e, u64_or_nat _ _ hx p]
structure SetMid (w w1 : World) (X : SetF) (ws : List Nat) (l : List Bool) : Prop where
 head : w1.heap[X.u]? = some (.cells (setV X ws.length l) 262 (0, 0))
 row : RowAt w1 X.b 40 (ws.map vu64)
 touch : Touch X.list w w1
theorem SetIn.mid {w : World} {X : SetF} {ws : List Nat} {l : List Bool} (h : SetIn w X ws l) (q y : Nat) (hq : q < ws.length) : SetMid w (w.setCell ⟨X.b, q, none⟩ (vu64 y)) X (ws.set q y) l := by
 refine ⟨?_, ?_, Touch.setCell _ (by simp [SetF.list]) _⟩
 ·rw [List.length_set]
  exact (Below.heap_setCell _ _ _ _ h.ne).trans h.head
 ·rw [List.map_set]; exact h.row.set q (by simpa using hq) _
theorem SetMid.done {w w1 : World} {X : SetF} {ws : List Nat} {l l' : List Bool} (h : SetMid w w1 X ws l) (hb : BitsOf ws l') (hl : l'.length = l.length) (hs : l.length ≤ 1000000) (hn : X.u ≠ X.b) {c : Int} (hc : c = (l'.count true : Int)) :
  SetAt (w1.setCell ⟨X.u, 2, none⟩ (.int .i64 c)) X l' ∧ Touch X.list w (w1.setCell ⟨X.u, 2, none⟩ (.int .i64 c)) := by
 subst hc
 refine ⟨⟨ws, hb, ?_, h.row.keep (Below.heap_setCell _ _ _ _ (fun e => hn e.symm)), hn, by omega⟩, h.touch.trans (Touch.setCell _ (by simp [SetF.list]) _)⟩
 rw [heap_setCell_same w1 X.u 2 _ _ _ h.head]
 unfold setV
 rw [hl]
 rfl
theorem SetMid.c2 {w w1 : World} {X : SetF} {ws : List Nat} {l : List Bool} (h : SetMid w w1 X ws l) : w1.cell? ⟨X.u, 2, none⟩ = some (.int .i64 (l.count true : Int)) ∧ w1.frozen? ⟨X.u, 2, none⟩ = false := ⟨cell_of_row _ _ 2 _ _ _ h.head, frozen_of_row _ _ _ _ _ h.head⟩
set_option maxHeartbeats 1000000 in
theorem sadd_new {w : World} {X : SetF} {l : List Bool} (h : SetAt w X l) (j : Nat) (hj : j < l.length) (hno : l.getD j false = false) :
  Calls Tryz.prog 119 #[vset X, .int .i64 (j : Int)] w fun e w' => e = .returned (.bool true) ∧ SetAt w' X (l.set j true) ∧ Touch X.list w w' := by
 have HS := LH h
 obtain ⟨ws, h⟩ := h
 have c0 := h.c0
 have HT : Hid (decide (0 ≤ (j : Int) ∧ (j : Int) < (l.length : Int)) = true) := LH (by simp [hj])
 have hw := h.bits.word hj
 have HBits := LH (h.bits.add hj)
 have hx := h.bits.getD_lt (j / 64)
 have d0 : w.cell? ⟨X.b, j / 64, none⟩ = some (vu64 (ws.getD (j / 64) 0)) := h.row.cell (by simp [hw])
 have HH : Hid (hasI l (j : Int) = false) := LH (by rw [hasI_nat, hno])
 have hsm := h.small
 have HI := LH h
 have HC := LH (count_set_true hj hno)
 have hcl := count_le_len l
 have f0 : w.frozen? ⟨X.b, j / 64, none⟩ = false := h.row.frozen _
 generalize ws.getD (j / 64) 0 = x at *
 generalize hr : j % 64 = m at *
 generalize hq : j / 64 = q at *
 have hm : m < 64 := by omega
 have e1 : (j : Int) / 64 = (q : Int) := by omega
 have e2 : (j : Int) % 64 = (m : Int) := by omega
 clear h hr hq hno
 go_enter Tryz.func119, Tryz.ntmps119
 go_wp2_with fail
 refine (sin_any HS.out (j : Int)).mono ?_
 rintro e w1 ⟨rfl, rfl⟩
 rw [HT.out]
 go_wp2_with fail
 refine (shas_any HS.out (j : Int)).mono ?_
 rintro e w1 ⟨rfl, rfl⟩
 rw [HH.out]
 go_upto_region 4 with fail
 rw [or_val1 x m hx hm]
 have HMid := LH (HI.out.mid q (x ||| 2 ^ m) hw)
 clear d0 f0 c0
 generalize w.setCell _ _ = w1 at *
 obtain ⟨c2, f2⟩ := HMid.out.c2
 go_wp2_with fail
 go_ret
 refine ⟨rfl, HMid.out.done HBits.out (by simp) hsm HI.out.ne ?_⟩
 rw [HC.out]; push_cast; rfl
set_option maxHeartbeats 1000000 in
theorem sadd_not {w : World} {X : SetF} {l : List Bool} (h : SetAt w X l) (a : Int) (hno : hasI l a = true ∨ decide (0 ≤ a ∧ a < (l.length : Int)) = false) :
  Calls Tryz.prog 119 #[vset X, .int .i64 a] w fun e w' => e = .returned (.bool false) ∧ w = w' := by
 have HS := LH h
 clear h
 cases hd : decide (0 ≤ a ∧ a < (l.length : Int)) with
 | false =>
  have HD := LH hd
  clear hd hno
  go_enter Tryz.func119, Tryz.ntmps119
  go_wp2_with fail
  refine (sin_any HS.out a).mono ?_
  rintro e w1 ⟨rfl, rfl⟩
  rw [HD.out]
  go_wp2_with fail
  go_ret
  exact ⟨rfl, rfl⟩
 | true =>
  have HD := LH hd
  have HH : Hid (hasI l a = true) := LH (hno.resolve_right (by rw [hd]; simp))
  clear hd hno
  go_enter Tryz.func119, Tryz.ntmps119
  go_wp2_with fail
  refine (sin_any HS.out a).mono ?_
  rintro e w1 ⟨rfl, rfl⟩
  rw [HD.out]
  go_wp2_with fail
  refine (shas_any HS.out a).mono ?_
  rintro e w1 ⟨rfl, rfl⟩
  rw [HH.out]
  go_wp2_with fail
  go_ret
  exact ⟨rfl, rfl⟩
def freshI (l : List Bool) (a : Int) : Bool := decide (0 ≤ a ∧ a < (l.length : Int)) && !hasI l a
def addI (l : List Bool) (a : Int) : List Bool := if freshI l a then l.set a.toNat true else l
theorem sadd_any {w : World} {X : SetF} {l : List Bool} (h : SetAt w X l) (a : Int) :
  Calls Tryz.prog 119 #[vset X, .int .i64 a] w fun e w' => e = .returned (.bool (freshI l a)) ∧ SetAt w' X (addI l a) ∧ Touch X.list w w' := by
 unfold addI
 cases hf : freshI l a with
 | true =>
  unfold freshI at hf
  simp only [Bool.and_eq_true, decide_eq_true_eq, Bool.not_eq_true'] at hf
  obtain ⟨⟨h1, h2⟩, h3⟩ := hf
  obtain ⟨j, rfl⟩ := Int.eq_ofNat_of_zero_le h1
  rw [hasI_nat] at h3
  rw [if_pos rfl]
  exact sadd_new h j (by omega) h3
 | false =>
  rw [if_neg (by simp)]
  refine (sadd_not h a ?_).mono ?_
  ·unfold freshI at hf
   cases hd : decide (0 ≤ a ∧ a < (l.length : Int)) with
   | false => exact .inr rfl
   | true => rw [hd] at hf; simp at hf; exact .inl hf
  ·rintro e w' ⟨rfl, rfl⟩
   exact ⟨rfl, h, Touch.refl _ _⟩
def countI (x : Int) : Int :=
 let a := IntKind.u64.wrap (x - bits BinOp.and IntKind.u64 (x / 2) 6148914691236517205)
 let b := IntKind.u64.wrap (bits BinOp.and IntKind.u64 a 3689348814741910323 + bits BinOp.and IntKind.u64 (a / 4) 3689348814741910323)
 let c := bits BinOp.and IntKind.u64 (IntKind.u64.wrap (b + b / 16)) 1085102592571150095
 wrap64 (IntKind.u64.wrap (c * 72340172838076673) / 72057594037927936)
theorem count_fin : ∀ k : Fin 64, countI ((2 ^ k.val - 1 : Nat) : Int) = ((k.val : Nat) : Int) := by decide +kernel
set_option maxHeartbeats 1000000 in
theorem popcount_any (k : Nat) (hk : k < 64) (w : World) : Calls Tryz.prog 207 #[vu64 (2 ^ k - 1)] w fun e w' => e = .returned (.int .i64 (k : Int)) ∧ w = w' := by
 have HF := LH (count_fin ⟨k, hk⟩)
 dsimp only at HF
 have hx : 2 ^ k - 1 < 18446744073709551616 := by have := pow_lt64 hk; omega
 generalize 2 ^ k - 1 = x at *
 go_enter Tryz.func207, Tryz.ntmps207
 go_wp2_with fail
 go_ret
 refine ⟨?_, rfl⟩
 show Ending.returned (.int .i64 (countI (x : Int))) = _
 rw [HF.out]
theorem low_val {x k : Nat} (hk : LowAt x k) (hx : x < 18446744073709551616) : IntKind.u64.wrap (bits BinOp.and IntKind.u64 (x : Int) (IntKind.u64.wrap (-(x : Int))) - 1) = ((2 ^ k - 1 : Nat) : Int) := by
 have p := pow_lt64 hk.1
 have p1 : 0 < 2 ^ k := Nat.two_pow_pos k
 have hx0 : 0 < x := by
  obtain ⟨m, hm⟩ := low_form hk
  rw [hm]; exact Nat.mul_pos p1 (by omega)
 have e1 : IntKind.u64.wrap (-(x : Int)) = ((18446744073709551616 - x : Nat) : Int) := by rw [IntKind.wrap_u64]; omega
 rw [e1, u64_and_nat _ _ hx (by omega), low_and hk hx]
 generalize 2 ^ k = y at p p1 ⊢
 rw [IntKind.wrap_u64]; omega
set_option maxHeartbeats 1000000 in
theorem lowest_any (x k : Nat) (hk : LowAt x k) (hx : x < 18446744073709551616) (w : World) : Calls Tryz.prog 187 #[vu64 x] w fun e w' => e = .returned (.int .i64 (k : Int)) ∧ w = w' := by
 have HV := LH (low_val hk hx)
 have hk64 := hk.1
 go_enter Tryz.func187, Tryz.ntmps187
 go_wp2_with fail
 rw [HV.out]
 refine (popcount_any k hk64 _).mono ?_
 rintro e w1 ⟨rfl, rfl⟩
 go_wp2_with fail
 go_ret
 exact ⟨rfl, rfl⟩
theorem up64 (n : Nat) : upN (n : Int) 64 = (((n + 63) / 64 : Nat) : Int) := by
 unfold upN
 split <;> omega
def NewSet (n : Nat) (w : World) : Ending → World → Prop := fun e w' => ∃ X : SetF, e = .returned (vset X) ∧ SetAt w' X (List.replicate n false) ∧ Below w.heap.size w w' ∧ ∀ k ∈ X.list, w.heap.size ≤ k
set_option maxHeartbeats 1000000 in
theorem snew_any (n : Nat) (h1 : 1 ≤ n) (hn : n ≤ 1000000) (w : World) : Calls Tryz.prog 116 #[.int .i64 (n : Int)] w (NewSet n w) := by
 have HUp := LH (up64 n)
 have HBits := LH (bits_new n)
 have hm1 : 1 ≤ (n + 63) / 64 := by omega
 have hm2 : (n + 63) / 64 ≤ 1000000 := by omega
 generalize (n + 63) / 64 = m at *
 have HP : Hid (∀ (X : SetF) (w' : World), SetAt w' X (List.replicate n false) → Below w.heap.size w w' → (∀ k ∈ X.list, w.heap.size ≤ k) → NewSet n w (.returned (vset X)) w') := LH (fun X w' a b c => ⟨X, rfl, a, b, c⟩)
 generalize NewSet n w = Post at *
 have hmx : max (n : Int) 0 = (n : Int) := by omega
 go_enter Tryz.func116, Tryz.ntmps116
 go_wp2_with fail
 refine (up_any _ _ _ (by omega) (by omega)).mono ?_
 rintro e w1 ⟨rfl, rfl⟩
 rw [HUp.out]
 go_wp2_with (at_make; refine wpList_make_len el64 w.heap.size m rfl rfl rfl (by omega) (by decide) (Nat.le_refl _) rfl rfl rfl rfl ?_; intro w1 hown hgrow; have HR : Hid (RowAt w1 w.heap.size 40 ((List.replicate m 0).map vu64)) := LH (by rw [List.map_replicate]; exact owned_row hown); have HB := LH (below_grown hgrow (Nat.le_refl _)); clear hown hgrow)
 have hb := below_alloc w1 (Obj.cells #[Value.slice (some ⟨w.heap.size, 0, none⟩) m m, Value.int IntKind.i64 (n : Int), Value.int IntKind.i64 0] 262)
 have hs := HB.out.size
 have hl := HR.out.lt
 refine HP.out ⟨w1.heap.size, w.heap.size, m⟩ _ ⟨List.replicate m 0, HBits.out, ?_, HR.out.keep (hb.block _ hl), by dsimp only; omega, by simpa using hn⟩ (HB.out.trans (hb.mono hs)) ?_
 ·have e : setV ⟨w1.heap.size, w.heap.size, m⟩ (List.replicate m 0).length (List.replicate n false) = #[Value.slice (some ⟨w.heap.size, 0, none⟩) m m, Value.int IntKind.i64 (n : Int), Value.int IntKind.i64 0] := by simp [setV, List.count_replicate]
  rw [e]
  exact heap_alloc_new _ _
 ·intro k hk
  simp only [SetF.list, List.mem_cons, List.not_mem_nil, or_false] at hk
  rcases hk with rfl | rfl
  ·exact hs
  ·exact Nat.le_refl _
structure NextInv (ws : List Nat) (l : List Bool) (n q y : Nat) : Prop where
 lt : q < ws.length
 y64 : y < 18446744073709551616
 past : ∀ j, n ≤ j → j < 64 * q → l.getD j false = false
 bit : ∀ b, b < 64 → y.testBit b = (decide (n ≤ 64 * q + b) && l.getD (64 * q + b) false)
theorem BitsOf.at {ws : List Nat} {l : List Bool} (h : BitsOf ws l) (q b : Nat) (hb : b < 64) : (ws.getD q 0).testBit b = l.getD (64 * q + b) false := by
 have := h.bit (64 * q + b)
 unfold bitW at this
 rwa [show (64 * q + b) / 64 = q by omega, show (64 * q + b) % 64 = b by omega] at this
theorem NextInv.start {ws : List Nat} {l : List Bool} (h : BitsOf ws l) {n : Nat} (hn : n < l.length) : NextInv ws l n (n / 64) (ws.getD (n / 64) 0 / 2 ^ (n % 64) * 2 ^ (n % 64)) := by
 refine ⟨h.word hn, Nat.lt_of_le_of_lt (Nat.div_mul_le_self _ _) (h.getD_lt _), fun j h1 h2 => by omega, fun b hb => ?_⟩
 rw [high_bit, h.at _ _ hb]
 congr 1
 rw [Bool.eq_iff_iff]
 simp only [decide_eq_true_eq]
 omega
theorem NextInv.step {ws : List Nat} {l : List Bool} (h : BitsOf ws l) {n q : Nat} (hi : NextInv ws l n q 0) (hn : n < 64 * q + 64) (hq : q + 1 < ws.length) : NextInv ws l n (q + 1) (ws.getD (q + 1) 0) := by
 refine ⟨hq, h.getD_lt _, fun j h1 h2 => ?_, fun b hb => ?_⟩
 ·by_cases c : j < 64 * q
  ·exact hi.past j h1 c
  ·have := hi.bit (j - 64 * q) (by omega)
   rw [Nat.zero_testBit, show 64 * q + (j - 64 * q) = j by omega, decide_eq_true h1] at this
   simpa using this.symm
 ·rw [h.at _ _ hb, decide_eq_true (by omega)]; simp
theorem NextInv.found {ws : List Nat} {l : List Bool} {n q y k : Nat} (hi : NextInv ws l n q y) (hk : LowAt y k) : nextB l n = some (64 * q + k) := by
 have h1 := hi.bit k hk.1
 rw [hk.2.1] at h1
 have h2 := h1.symm
 simp only [Bool.and_eq_true, decide_eq_true_eq] at h2
 refine nextB_some h2.1 h2.2 fun j h3 h4 => ?_
 by_cases c : j < 64 * q
 ·exact hi.past j h3 c
 ·have := hi.bit (j - 64 * q) (by have := hk.1; omega)
  rw [hk.2.2 _ (by omega), show 64 * q + (j - 64 * q) = j by omega, decide_eq_true h3] at this
  simpa using this.symm
theorem NextInv.over {ws : List Nat} {l : List Bool} (h : BitsOf ws l) {n q : Nat} (hi : NextInv ws l n q 0) (hq : ws.length ≤ q + 1) : nextB l n = none := by
 refine nextB_none fun j hj => ?_
 by_cases c : j < 64 * q
 ·exact hi.past j hj c
 ·by_cases c2 : j < 64 * q + 64
  ·have := hi.bit (j - 64 * q) (by omega)
   rw [Nat.zero_testBit, show 64 * q + (j - 64 * q) = j by omega, decide_eq_true hj] at this
   simpa using this.symm
  ·have := h.len
   rw [List.getD_eq_getElem?_getD, List.getElem?_eq_none (by omega)]; rfl
def nextV : Option Nat → Value
 | some i => .tuple #[.int .i64 (i : Int), .bool true]
 | none => .tuple #[.int .i64 0, .bool false]
def Same1 (v : Value) (w : World) : Ending → World → Prop := fun e w' => e = .returned v ∧ w = w'
set_option maxHeartbeats 1000000 in
theorem snext_any {w : World} {X : SetF} {l : List Bool} (h : SetAt w X l) (a : Int) :
  Calls Tryz.prog 166 #[vset X, .int .i64 a] w (Same1 (nextV (nextB l a.toNat)) w) := by
 obtain ⟨ws, h⟩ := h
 have c0 := h.c0
 have c1 := h.c1
 have hsm := h.small
 have hlen := h.bits.len
 have hws : ws.length ≤ 1000000 := by omega
 have HBits := LH h.bits
 have HRow := LH h.row
 obtain ⟨n, hn⟩ : ∃ n, n = a.toNat := ⟨_, rfl⟩
 have hmx : (if a < 0 then 0 else a) = (n : Int) := by split <;> omega
 have hmx2 : max a 0 = (n : Int) := by omega
 rw [← hn]
 have HP1 : Hid (∀ i, nextB l n = some i → Same1 (nextV (nextB l n)) w (.returned (.tuple #[.int .i64 (i : Int), .bool true])) w) := LH (fun i hi => by rw [hi]; exact ⟨rfl, rfl⟩)
 have HP0 : Hid (nextB l n = none → Same1 (nextV (nextB l n)) w (.returned (.tuple #[.int .i64 0, .bool false])) w) := LH (fun hi => by rw [hi]; exact ⟨rfl, rfl⟩)
 have HL := LH hlen
 generalize Same1 (nextV (nextB l n)) w = Post at *
 clear h hn hlen
 by_cases hlt : n < l.length
 ·have HI := LH (NextInv.start HBits.out hlt)
  have hw := HI.out.lt
  have hlt' : decide (l.length ≤ n) = false := by simp; omega
  have d0 : w.cell? ⟨X.b, n / 64, none⟩ = some (vu64 (ws.getD (n / 64) 0)) := HRow.out.cell (by simp [hw])
  have hx := HBits.out.getD_lt (n / 64)
  have hn64 : n < 64 * (n / 64) + 64 := by omega
  generalize ws.getD (n / 64) 0 = x at *
  generalize hm' : n % 64 = m at *
  generalize hq' : n / 64 = q at *
  have hm : m < 64 := by omega
  have e1 : (n : Int) / 64 = (q : Int) := by omega
  have e2 : (n : Int) % 64 = (m : Int) := by omega
  have HV : Hid (IntKind.u64.wrap ((x : Int) / 2 ^ m * 2 ^ m) = ((x / 2 ^ m * 2 ^ m : Nat) : Int)) := LH (by
   have h64 := HI.out.y64
   rw [show (x : Int) / 2 ^ m * 2 ^ m = ((x / 2 ^ m * 2 ^ m : Nat) : Int) by push_cast; rfl]
   generalize x / 2 ^ m * 2 ^ m = y at h64 ⊢
   rw [IntKind.wrap_u64]; omega)
  generalize x / 2 ^ m * 2 ^ m = y at *
  clear hm' hq' hlt
  go_enter Tryz.func166, Tryz.ntmps166
  go_wp2_with fail
  rw [HV.out]
  go_loop [6, 7] (fun iv yv => ∃ q y : Nat, iv = .int .i64 (q : Int) ∧ yv = vu64 y ∧ n < 64 * q + 64 ∧ Hid (NextInv ws l n q y)) (fun iv _ => ws.length - (intOf iv).toNat)
  case atStart => exact ⟨q, y, rfl, rfl, hn64, HI⟩
  case round =>
   clear HI HV hw d0 hx hn64 e1 e2
   obtain ⟨q, y, rfl, rfl, hn64, HI⟩ := hrel
   have hql := HI.out.lt
   by_cases hy : y = 0
   ·subst hy
    by_cases hq : q + 1 < ws.length
    ·have HI2 := LH (HI.out.step HBits.out hn64 hq)
     have hq' : decide (ws.length ≤ q + 1) = false := by simp; omega
     have d0 : w.cell? ⟨X.b, q + 1, none⟩ = some (vu64 (ws.getD (q + 1) 0)) := HRow.out.cell (by simp [hq])
     generalize ws.getD (q + 1) 0 = z at *
     go_wp2_with fail
     go_round
     case rel => exact ⟨q + 1, z, vint (by omega), rfl, by omega, HI2⟩
     case measure => simp [intOf]; omega
    ·have hq' : ws.length ≤ q + 1 := by omega
     have HN := LH (HI.out.over HBits.out hq')
     go_wp2_with fail
     exact HP0.out HN.out
   ·have hy0 : ((y : Int) == 0) = false := by simpa using hy
    have hy64 := HI.out.y64
    obtain ⟨k, hk⟩ := low_exists hy hy64
    have hk64 := hk.1
    have HK := LH hk
    have HN := LH (HI.out.found hk)
    clear hk
    go_wp2_with fail
    refine (lowest_any y k HK.out hy64 _).mono ?_
    rintro e w1 ⟨rfl, rfl⟩
    go_wp2_with fail
    have := HP1.out _ HN.out
    rw [show ((64 * q + k : Nat) : Int) = (q : Int) * 64 + (k : Int) by push_cast; omega] at this
    exact this
 ·have hle : l.length ≤ n := by omega
  have HN : Hid (nextB l n = none) := LH (nextB_none fun j hj => by rw [List.getD_eq_getElem?_getD, List.getElem?_eq_none (by omega)]; rfl)
  go_enter Tryz.func166, Tryz.ntmps166
  go_wp2_with fail
  exact HP0.out HN.out
structure AF where
 a : Nat
 X : MF
 U : SetF
 f : Nat
 mb : Nat
 R : List Nat
def AF.fix (A : AF) : List Nat := A.a :: (A.X.list ++ A.U.list)
def AF.list (A : AF) : List Nat := A.fix ++ A.R
def AF.hot (A : AF) : List Nat := A.X.hot ++ (A.U.list ++ A.R)
structure Al where
 bm : Bm
 used : List Bool
 fl : FL
def alV (A : AF) (B : Nat) : Array Value := #[.pointer (some ⟨A.X.m, 0, none⟩), vdev A.X.F, .int .i64 (B : Int), vset A.U, .pointer (some ⟨A.f, 0, none⟩)]
abbrev valloc (A : AF) : Value := .pointer (some ⟨A.a, 0, none⟩)
structure AlAt (w : World) (A : AF) (n B : Nat) (m : Al) : Prop where
 head : w.heap[A.a]? = some (.cells (alV A B) 77 (0, 0))
 man : ManAt w A.X n B m.bm
 set : SetAt w A.U m.used
 free : FreeAt w A.f A.mb n A.R m.fl
 nd : A.fix.Nodup
 nR : ∀ b ∈ A.R, b ∉ A.fix
 lenU : m.used.length = m.bm.dev.cache.length
theorem AlAt.mem {w : World} {A : AF} {n B : Nat} {m : Al} (h : AlAt w A n B m) : ∀ k ∈ A.list, k < w.heap.size := by
 intro k hk
 simp only [AF.list, AF.fix, List.mem_append, List.mem_cons] at hk
 rcases hk with (rfl | hk | hk) | hk
 ·exact (Array.getElem?_eq_some_iff.1 h.head).1
 ·exact h.man.mem k hk
 ·exact h.set.mem k hk
 ·exact h.free.mem k hk
theorem AlAt.keep {w w' : World} {A : AF} {n B : Nat} {m : Al} (h : AlAt w A n B m) (hk : ∀ k ∈ A.list, w'.heap[k]? = w.heap[k]?) : AlAt w' A n B m :=
 ⟨(hk A.a (by simp [AF.list, AF.fix])).trans h.head, h.man.keep (fun k h => hk k (by simp [AF.list, AF.fix, h])), h.set.keep (fun k h => hk k (by simp [AF.list, AF.fix, h])), h.free.keep (fun k h => hk k (by simp [AF.list, h])), h.nd, h.nR, h.lenU⟩
theorem AlAt.below {w w' : World} {A : AF} {n B : Nat} {m : Al} (h : AlAt w A n B m) (hb : Below w.heap.size w w') : AlAt w' A n B m := h.keep (fun k hk => hb.block k (h.mem k hk))
theorem AlAt.c0 {w : World} {A : AF} {n B : Nat} {m : Al} (h : AlAt w A n B m) : w.cell? ⟨A.a, 0, none⟩ = some (.pointer (some ⟨A.X.m, 0, none⟩)) := cell_of_row _ _ 0 _ _ _ h.head
theorem AlAt.c1 {w : World} {A : AF} {n B : Nat} {m : Al} (h : AlAt w A n B m) : w.cell? ⟨A.a, 1, none⟩ = some (vdev A.X.F) := cell_of_row _ _ 1 _ _ _ h.head
theorem AlAt.c2 {w : World} {A : AF} {n B : Nat} {m : Al} (h : AlAt w A n B m) : w.cell? ⟨A.a, 2, none⟩ = some (.int .i64 (B : Int)) := cell_of_row _ _ 2 _ _ _ h.head
theorem AlAt.c3 {w : World} {A : AF} {n B : Nat} {m : Al} (h : AlAt w A n B m) : w.cell? ⟨A.a, 3, none⟩ = some (vset A.U) := cell_of_row _ _ 3 _ _ _ h.head
theorem AlAt.c4 {w : World} {A : AF} {n B : Nat} {m : Al} (h : AlAt w A n B m) : w.cell? ⟨A.a, 4, none⟩ = some (.pointer (some ⟨A.f, 0, none⟩)) := cell_of_row _ _ 4 _ _ _ h.head
set_option maxHeartbeats 400000 in
theorem tlen_any {w : World} {p g c B : Nat} {F : Foot} {l : List Hd} (h : TabG w p g c F B l) :
  Calls Tryz.prog 120 #[.pointer (some ⟨p, 0, none⟩)] w fun e w' => e = .returned (.int .i64 (B : Int)) ∧ w = w' := by
 have c2 : w.cell? ⟨p, 2, none⟩ = some (.slice (some ⟨g, 0, none⟩) B c) := cell_of_row _ _ 2 _ _ _ h.head
 clear h
 go_enter Tryz.func120, Tryz.ntmps120
 go_wp2_with fail
 go_ret
 exact ⟨rfl, rfl⟩
end Go.Proofs.YtpohaahihdhleaaGreat
namespace Go.Proofs.YtpohaahihdhleaaGreat
def isCell (L : List Hd) (k a : Nat) : Prop :=
 512 ≤ a ∧ a < 512 * L.length ∧ L.getD (a / 512) default = ⟨1, k, 0⟩ ∧ a % 512 % clsWords k = 0 ∧ a % 512 / clsWords k < clsCells k
instance (L : List Hd) (k a : Nat) : Decidable (isCell L k a) := by unfold isCell; infer_instance
def placedN (S : Dev) (L : List Hd) (a : Int) : Option Odec :=
 if a < 512 ∨ 512 * (L.length : Int) ≤ a ∨ (headN S a).code ≠ 0 then none
 else if small (objSize (headN S a).p (headN S a).d) then (if isCell L (ofN (objSize (headN S a).p (headN S a).d : Nat)) a.toNat then some (headN S a) else none)
 else if a.toNat % 512 = 0 ∧ wholeN L (a.toNat / 512) = objBlocks (objSize (headN S a).p (headN S a).d) then some (headN S a) else none
theorem placed_head {S : Dev} {L : List Hd} {a : Int} {o : Odec} (h : placedN S L a = some o) : headN S a = o ∧ o.code = 0 ∧ 512 ≤ a ∧ a < 512 * (L.length : Int) := by
 unfold placedN at h
 split at h
 ·cases h
 ·rename_i h0
  have hc : (headN S a).code = 0 := Decidable.byContradiction fun h => h0 (.inr (.inr h))
  split at h
  ·split at h
   ·cases h; exact ⟨rfl, hc, by omega, by omega⟩
   ·cases h
  ·split at h
   ·cases h; exact ⟨rfl, hc, by omega, by omega⟩
   ·cases h
def roomN (p d : Int) : Nat := if small (objSize p d) then clsWords (ofN (objSize p d : Nat) : Nat) else 512 * objBlocks (objSize p d)
theorem ofN_lt {n : Nat} (h : small n) : ofN (n : Int) < 32 := by
 unfold small at h
 obtain ⟨h1, h2⟩ := h
 unfold ofN
 have : (sizesL.findIdx fun s : Nat => decide ((n : Int) ≤ (s : Int))) < sizesL.length := by
  rw [List.findIdx_lt_length]
  refine ⟨256, by decide, ?_⟩
  simp; omega
 exact this
theorem wholeN_fits {L : List Hd} {b : Nat} (h : wholeN L b ≠ 0) : b < L.length ∧ (L.getD b default).k = 2 ∧ ((wholeN L b : Nat) : Int) = (L.getD b default).l ∧ b + wholeN L b ≤ L.length ∧ ∀ i, 1 ≤ i → i < wholeN L b → L.getD (b + i) default = ⟨3, 0, i⟩ := by
 unfold wholeN at h ⊢
 by_cases c1 : L.length ≤ b ∨ (L.getD b default).k ≠ 2 ∨ (L.getD b default).l < 1 ∨ (L.length : Int) - b < (L.getD b default).l
 ·rw [if_pos c1] at h; exact absurd rfl h
 ·rw [if_neg c1] at h ⊢
  by_cases c2 : contTo L b (L.getD b default).l.toNat = true
  ·rw [if_pos c2] at h ⊢
   exact ⟨by omega, by omega, by omega, by omega, fun i h1 h2 => contTo_at c2 i h1 h2⟩
  ·rw [if_neg c2] at h; exact absurd rfl h
inductive RoomAt (L : List Hd) (a n : Nat) : Prop
 | cell (k : Nat) (hk : k < 32) (hc : isCell L k a) (hn : n = clsWords k)
 | run (m : Nat) (hb : a % 512 = 0) (h1 : 512 ≤ a) (hm : 1 ≤ m) (hw : wholeN L (a / 512) = m) (hn : n = 512 * m)
theorem placed_room {S : Dev} {L : List Hd} {a : Nat} {o : Odec} (h : placedN S L (a : Int) = some o) : RoomAt L a (roomN o.p o.d) := by
 obtain ⟨hh, _, h1, h2⟩ := placed_head h
 unfold placedN at h
 rw [hh] at h
 split at h
 ·cases h
 ·unfold roomN
  by_cases hs : small (objSize o.p o.d)
  ·rw [if_pos hs] at h ⊢
   split at h
   ·next hc => exact .cell _ (ofN_lt hs) hc rfl
   ·cases h
  ·rw [if_neg hs] at h ⊢
   split at h
   ·next hc =>
    refine .run _ hc.1 (by omega) ?_ hc.2 rfl
    have hw := hc.2
    unfold objBlocks
    rw [if_neg hs]
    have h0 : objSize o.p o.d ≠ 0 := by
     have := headN_code S (a : Int)
     rw [hh] at this
     rcases this with this | this
     ·exact this.2.2.2.1
     ·rename_i hb
      rw [this] at hb
      exact absurd (.inr (.inr (by simp))) hb
    omega
   ·cases h
end Go.Proofs.YtpohaahihdhleaaGreat
namespace Go.Proofs.YtpohaahihdhleaaGreat
open Go.RowKit
theorem run_copy_rows {P : Program} (w : World) (dT sT ty elem : TypeId) (g o dLen dCap : Nat) (a : Addr) (sLen sCap size : Nat) (cur : Array Value) (t : TypeId) (cs : List Value)
  (hu : P.underlying dT = some (.slice elem)) (hs : (P.info? elem).map (·.size) = some size)
  (hg : w.heap[g]? = some (.cells cur t (0, 0))) (hn : cs.length = Nat.min sLen dLen * size)
  (hsrc : ∀ j v, cs[j]? = some v → w.cell? (a.add j) = some v) (hfit : o + cs.length ≤ cur.size) (h1 : ∀ v ∈ cs, v.oneCell' = true) :
  (Builtin.copy_ #[dT, sT] ty #[.slice (some ⟨g, o, none⟩) dLen dCap, .slice (some a) sLen sCap]).run P w =
   .ok (goInt (Nat.min sLen dLen : Nat)) (w.setRow g (cur.toList.take o ++ cs ++ cur.toList.drop (o + cs.length)).toArray) := by
 have hl := run_loadCells_list (P := P) w a cs hsrc
 have hst := run_storeCells_at P g o t cs 0 cur w hg (by simpa using hfit) h1
 cases hq : P.info? elem with
 | none => simp [hq] at hs
 | some i =>
  have hi : i.size = size := by simpa [hq] using hs
  simp [Builtin.copy_, run_underlying hu, Builtin.lenOf, Builtin.firstCells, sizeOf, typeInfo, hq, hi, ← hn, hl, hst]
theorem wpList_copy_rows {P : Program} {w : World} {ops : Array Oper} {rest : List Oper} {o : Oper} {a : Act} {Q : Exit → Act → World → Prop} (hgd : o.guard = none) {d s : Operand} {dT sT : TypeId}
  (ho : o.op = .call { callee := .builtin .copy, args := #[d, s], argTypes := #[dT, sT] }) {elem : TypeId} {size : Nat} (hu : P.underlying dT = some (.slice elem)) (hsz : (P.info? elem).map (·.size) = some size)
  {g off dLen dCap g2 off2 sLen sCap : Nat} (hd : a.eval d = .slice (some ⟨g, off, none⟩) dLen dCap) (hs : a.eval s = .slice (some ⟨g2, off2, none⟩) sLen sCap)
  {t : TypeId} {vs : List Value} (hr : RowAt w g t vs) (cs : List Value) (hn : cs.length = Nat.min sLen dLen * size) (hsrc : ∀ j v, cs[j]? = some v → w.cell? ⟨g2, off2 + j, none⟩ = some v)
  (hfit : off + cs.length ≤ vs.length) (h1 : ∀ v ∈ cs, v.oneCell' = true)
  (h : ∀ w', RowAt w' g t (splice vs off cs) → Touch [g] w w' → wpList P ops Q rest (a.put o.dst (goInt (Nat.min sLen dLen : Nat))) w') : wpList P ops Q (o :: rest) a w := by
 obtain ⟨xs, hg, more, hx⟩ := hr
 have hsz2 : xs.size = vs.length + more.length := by rw [← Array.length_toList, hx, List.length_append]
 have hrun := run_copy_rows (P := P) w dT sT o.type elem g off dLen dCap ⟨g2, off2, none⟩ sLen sCap size xs t cs hu hsz hg hn (fun j v hj => by
  have e : (⟨g2, off2, none⟩ : Addr).add j = ⟨g2, off2 + j, none⟩ := by unfold Addr.add; split <;> simp_all
  rw [e]; exact hsrc j v hj) (by omega) h1
 refine wpList_plain hgd fun K hK' => ?_
 unfold Oper.wp
 simp [execOp, ho, resolve, invoke, builtin, hd, hs, hrun, Result.andThen]
 refine hK' _ _ (h _ ⟨_, setRow_heap w g xs _ t _ hg, more, ?_⟩ ⟨rfl, rfl, rfl, by simp [World.setRow], fun k _ hk => setRow_other w g k _ (fun e => hk (by simp [e]))⟩)
 rw [hx, splice]
 simp only [List.append_assoc]
 rw [List.take_append_of_le_length (by omega), List.drop_append_of_le_length (by omega)]
theorem RowAt.below {w w' : World} {g e : Nat} {vs : List Value} (h : RowAt w g e vs) (hb : Below w.heap.size w w') : RowAt w' g e vs := h.keep (hb.block _ h.lt)
theorem splice_length {α : Type} (l s : List α) (o : Nat) (h : o + s.length ≤ l.length) : (splice l o s).length = l.length := by
 unfold splice
 simp only [List.length_append, List.length_take, List.length_drop]
 omega
section
variable {P : Program} {C : World → Prop} {ops : Array Oper} {rest : List Oper} {o : Oper} {a : Act} {Q : Act → Prop}
theorem wpQuiet_slice_mid {x lo hi : Operand} {t e : TypeId} {z : Value} {size bytes : Nat} (E : Elem P t e z size bytes) {ad : Option Addr} {n cap : Nat} {k k2 : IntKind} {L H : Int} (l h : Nat)
  (hL : L = (l : Int)) (hH : H = (h : Int)) (hl : l ≤ h) (hh : h ≤ n) (hn : n ≤ cap)
  (hgd : o.guard = none) (ho : o.op = .slice t x (some lo) (some hi) none) (hx : a.eval x = .slice ad n cap) (hlo : a.eval lo = .int k L) (hhi : a.eval hi = .int k2 H)
  (hK : wpQuiet P ops C Q rest (a.put o.dst (.slice (if cap = l then ad else ad.map (·.add (l * size))) (h - l) (cap - l)))) :
  wpQuiet P ops C Q (o :: rest) a := by
 subst hL
 subst hH
 have hw : Region.wanted o (yielded ops a.tmps) = true := by simp [Region.wanted, hgd]
 unfold wpQuiet
 rw [if_pos hw]
 refine ⟨_, fun w hC => ?_, hK⟩
 have hr := run_slice_any (w := w) E ad n cap l h (some (.int k l)) (some (.int k2 h)) (by
  have h1 : (0 : Int) ≤ (l : Int) ∧ (l : Int) ≤ (h : Int) := by omega
  have h2 : (0 : Int) ≤ (h : Int) ∧ (h : Int) ≤ (cap : Int) := by omega
  simp [Instr.sliceBounds, Instr.sliceBound, asIntOf, hl, Nat.le_trans hh hn])
 unfold Oper.quietAt
 simp only [execOp, ho, hx, hlo, hhi, Option.map_some]
 simp [hr, Result.andThen, Oper.quietUpon]
end
def keepN (L : List Hd) (b : Nat) : Nat := max 1 (wholeN L b)
def keep1 (L out : List Hd) (x : Nat) : List Hd := if x < 512 ∨ 512 * L.length ≤ x then out else splice out (x / 512) ((L.drop (x / 512)).take (keepN L (x / 512)))
def keepL (L : List Hd) (live : List Nat) : List Hd := live.foldl (keep1 L) (List.replicate L.length default)
theorem keepN_fits {L : List Hd} {b : Nat} (hb : b < L.length) : 1 ≤ keepN L b ∧ b + keepN L b ≤ L.length := by
 unfold keepN
 by_cases h : wholeN L b = 0
 ·rw [h]; simp; omega
 ·have := (wholeN_fits h).2.2.2.1
  omega
theorem keep1_len (L out : List Hd) (x : Nat) (h : out.length = L.length) : (keep1 L out x).length = L.length := by
 unfold keep1
 split
 ·exact h
 ·have hb : x / 512 < L.length := by omega
  have := keepN_fits hb
  rw [splice_length _ _ _ (by rw [List.length_take, List.length_drop]; omega), h]
theorem keepL_len (L : List Hd) (live : List Nat) : (keepL L live).length = L.length := by
 unfold keepL
 have : ∀ (l : List Nat) (out : List Hd), out.length = L.length → (l.foldl (keep1 L) out).length = L.length := by
  intro l
  induction l with
  | nil => intro out h; exact h
  | cons x l ih => intro out h; exact ih _ (keep1_len L out x h)
 exact this live _ (by simp)
theorem keepL_snoc (L : List Hd) (l : List Nat) (x : Nat) : keepL L (l ++ [x]) = keep1 L (keepL L l) x := by unfold keepL; rw [List.foldl_append]; rfl
theorem hdCs_splice (out s : List Hd) (b : Nat) : hdCs (splice out b s) = splice (hdCs out) (b * 3) (hdCs s) := by
 unfold splice
 rw [hdCs_append, hdCs_append]
 have ht : ∀ (l : List Hd) (n : Nat), hdCs (l.take n) = (hdCs l).take (n * 3) := by
  intro l
  induction l with
  | nil => intro n; simp [hdCs]
  | cons x l ih =>
   intro n
   cases n with
   | zero => simp [hdCs]
   | succ n =>
    rw [List.take_succ_cons]
    show x.cs ++ hdCs (l.take n) = (x.cs ++ hdCs l).take ((n + 1) * 3)
    rw [ih, show (n + 1) * 3 = x.cs.length + n * 3 by show _ = 3 + n * 3; omega, List.take_length_add_append]
 have hd : ∀ (l : List Hd) (n : Nat), hdCs (l.drop n) = (hdCs l).drop (n * 3) := by
  intro l
  induction l with
  | nil => intro n; simp [hdCs]
  | cons x l ih =>
   intro n
   cases n with
   | zero => simp
   | succ n =>
    rw [List.drop_succ_cons]
    show hdCs (l.drop n) = (x.cs ++ hdCs l).drop ((n + 1) * 3)
    rw [ih, show (n + 1) * 3 = x.cs.length + n * 3 by show _ = 3 + n * 3; omega, List.drop_length_add_append]
 rw [ht, hd, hdCs_length]
 congr 3
 omega
def KeepPost (L : List Hd) (xs : List Nat) (w : World) : Ending → World → Prop := fun e w' => ∃ g c, e = .returned (.slice (some ⟨g, 0, none⟩) L.length c) ∧ w.heap.size ≤ g ∧ L.length ≤ c ∧ RowAt w' g 107 (hdCs (keepL L xs)) ∧ Below w.heap.size w w'
set_option maxHeartbeats 8000000 in
set_option maxRecDepth 20000 in
theorem keep_any {w : World} {B lg lc : Nat} {L : List Hd} (hlen : L.length = B) (hB1 : 1 ≤ B) (hB : B ≤ 1000) (hr : RowAt w lg 107 (hdCs L)) (hlc : B ≤ lc)
  (va : Option Addr) (vl vc : Nat) (xs : List Nat) (hvl : xs.length = vl) (hv : Cells w va (xs.map vi)) (hvs : vl ≤ 1000000) (hxb : ∀ x ∈ xs, x ≤ 4611686018427387904) :
  Calls Tryz.prog 68 #[vgeom (B : Int), .slice (some ⟨lg, 0, none⟩) B lc, .slice va vl vc] w (KeepPost L xs w) := by
 have HP : Hid (∀ g c w', w.heap.size ≤ g → B ≤ c → RowAt w' g 107 (hdCs (keepL L xs)) → Below w.heap.size w w' → KeepPost L xs w (.returned (.slice (some ⟨g, 0, none⟩) B c)) w') := LH (fun g c w' h1 h2 h3 h4 => ⟨g, c, by rw [hlen], h1, by rw [hlen]; exact h2, h3, h4⟩)
 generalize KeepPost L xs w = Post at *
 have HM := LH (Mem.one w #[.int .i64 (B : Int)] 44)
 have HLn := LH hlen
 have HL := LH hr
 have HV := LH hv
 have HVl := LH hvl
 have HXb := LH hxb
 have HRep : Hid (List.replicate (B * 3) (Value.int .i64 0) = hdCs (keepL L [])) := LH (by
  show _ = hdCs (List.replicate L.length default)
  rw [hlen]
  clear hlen HP HLn HL HM hr hlc hB hB1
  induction B with
  | zero => rfl
  | succ n ih => rw [Nat.succ_mul, ← List.replicate_append_replicate (n := n * 3), List.replicate_succ' (n := n) (a := (default : Hd)), hdCs_append, ← ih]; rfl)
 clear hlen hr hv hvl hxb
 go_enter Tryz.func68, Tryz.ntmps68
 go_upto_region 1 with fail
 obtain ⟨q, hq⟩ : ∃ q, q = w.heap.size := ⟨_, rfl⟩
 rw [← hq] at HM ⊢
 generalize w.alloc _ = w1 at *
 have HQ := LH hq
 clear hq
 have HM1 : Hid (Mem w w1 [⟨q, 44, [.int .i64 (B : Int)], true⟩]) := LH (by simpa using HM.out)
 clear HM
 go_wp2_with (at_make; refine wpList_make_rows elHd w1.heap.size B (z := .int .i64 0) (by intro i hi; simp at hi; rcases i with _ | _ | _ | i <;> first | rfl | omega) (by omega) (by omega) (by omega) (by decide) (Nat.le_refl _) rfl rfl rfl rfl ?_; intro w2 hown hgrow; have HOw := LH hown; have HGr := LH hgrow; clear hown hgrow)
 have HM2 : Hid (Mem w w2 [⟨q, 44, [.int .i64 (B : Int)], true⟩, ⟨w1.heap.size, 107, hdCs (keepL L (xs.take 0)), false⟩]) := LH (by
  rw [List.take_zero, ← HRep.out]
  obtain ⟨g', cap', cur, hv', _, hg', _, _, _, ht'⟩ := HOw.out.2.resolve_left (fun ⟨h, _⟩ => by cases h)
  injection hv' with e1 e2 e3
  injection e1 with e1
  injection e1 with e1 _ _
  subst e1
  exact HM1.out.row (below_grown HGr.out (Nat.le_refl _)) ⟨cur, hg', cur.toList.drop (B * 3), by
   have : cur.toList.take (B * 3) = List.replicate (B * 3) (Value.int .i64 0) := ht'
   rw [← this, List.take_append_drop]⟩ (Nat.le_refl _))
 obtain ⟨g, hg⟩ : ∃ g, g = w1.heap.size := ⟨_, rfl⟩
 rw [← hg] at HM2 ⊢
 clear hg HOw HGr HM1
 go_loopw [19] (fun iv wr => ∃ k : Nat, k ≤ vl ∧ iv = .int .i64 (k : Int) ∧ Hid (Mem w wr [⟨q, 44, [.int .i64 (B : Int)], true⟩, ⟨g, 107, hdCs (keepL L (xs.take k)), false⟩])) (fun iv _ => vl - (intOf iv).toNat)
 case atStart => exact ⟨0, by omega, rfl, HM2⟩
 case round =>
  obtain ⟨k, hk, rfl, HMr⟩ := hrel
  by_cases hlt : k < vl
  case neg =>
   have hltd : decide ((k : Int) < (vl : Int)) = false := by simp; omega
   have hke : k = vl := by omega
   have HRow : Hid (RowAt wr g 107 (hdCs (keepL L xs))) := LH (by
    have := HMr.out.at 1 rfl
    rw [hke, ← HVl.out, List.take_length] at this
    exact this)
   have hgb := HMr.out.gbase 1 rfl
   have HGb := LH hgb
   clear hke hgb
   go_wp2_with fail
   exact HP.out _ _ _ HGb.out (Nat.le_refl _) HRow.out HMr.out.below
  have hlt' : (k : Int) < (vl : Int) := by omega
  obtain ⟨x, hx⟩ : ∃ x, xs[k]? = some x := ⟨_, List.getElem?_eq_getElem (by rw [HVl.out]; exact hlt)⟩
  obtain ⟨b1, o1, q1, _, hcx⟩ := (HV.out.below HMr.out.below (Nat.le_refl _)).at (i := k) (by rw [List.length_map, HVl.out]; exact hlt)
  have cx : wr.cell? ⟨b1, o1 + k, none⟩ = some (.int .i64 (x : Int)) := hcx k (vi x) (by rw [List.getElem?_map, hx]; rfl)
  have HTk : Hid (keepL L (xs.take (k + 1)) = keep1 L (keepL L (xs.take k)) x) := LH (by
   have h1 := (List.getElem?_eq_some_iff.1 hx).1
   rw [List.take_succ_eq_append_getElem h1, (List.getElem?_eq_some_iff.1 hx).2, keepL_snoc])
  have HXx := LH (HXb.out x (List.mem_of_getElem? hx))
  have c0 := HMr.out.cell 0 0 rfl rfl
  subst q1
  clear hcx hx
  by_cases hin : x < 512 ∨ 512 * B ≤ x
  ·have HSame : Hid (Mem w wr [⟨q, 44, [.int .i64 (B : Int)], true⟩, ⟨g, 107, hdCs (keepL L (xs.take (k + 1))), false⟩]) := LH (by
    rw [HTk.out]
    unfold keep1
    rw [if_pos (by rw [HLn.out]; exact hin)]
    exact HMr.out)
   have hbb : blockOf (B : Int) (x : Int) < 1 := by unfold blockOf; split <;> omega
   have HBk := LH (gblockOf_any B hB (x : Int) wr)
   generalize blockOf (B : Int) (x : Int) = bb at *
   clear hin
   go_wp2_with fail
   refine HBk.out.mono ?_
   rintro e w3 ⟨rfl, hb3⟩
   have HM3 := LH (HSame.out.later hb3)
   clear hb3 c0 cx
   go_wp2_with fail
   exact ⟨⟨k + 1, by omega, vint (by omega), HM3⟩, by simp [intOf]; omega⟩
  have h1 : 512 ≤ x := by omega
  have h2 : x < 512 * B := by omega
  have hbo : blockOf (B : Int) (x : Int) = ((x / 512 : Nat) : Int) := by unfold blockOf; rw [if_neg (by omega)]; omega
  have HBk := LH (gblockOf_any B hB (x : Int) wr)
  rw [hbo] at HBk
  have HK1 : Hid (keep1 L (keepL L (xs.take k)) x = splice (keepL L (xs.take k)) (x / 512) ((L.drop (x / 512)).take (keepN L (x / 512)))) := LH (by unfold keep1; rw [if_neg (by rw [HLn.out]; exact hin)])
  obtain ⟨b, hb⟩ : ∃ b, b = x / 512 := ⟨_, rfl⟩
  rw [← hb] at HBk HK1
  have hb1 : 1 ≤ b := by omega
  have hb2 : b < B := by omega
  clear hin hbo hb h1 h2
  have hfit := keepN_fits (L := L) (b := b) (by rw [HLn.out]; exact hb2)
  rw [HLn.out] at hfit
  have hkn : keepN L b = max 1 (wholeN L b) := rfl
  obtain ⟨m, hm⟩ : ∃ m, m = wholeN L b := ⟨_, rfl⟩
  obtain ⟨n, hn⟩ : ∃ n, n = keepN L b := ⟨_, rfl⟩
  rw [← hm, ← hn] at hkn
  rw [← hn] at hfit HK1
  go_wp2_with fail
  refine HBk.out.mono ?_
  rintro e w3 ⟨rfl, hb3⟩
  have HM3 := LH (HMr.out.later hb3)
  clear hb3 c0 cx HMr
  go_wp2_with fail
  refine (bwhole_any (some ⟨lg, 0, none⟩) B lc L HLn.out w3 ((HL.out.below HM3.out.below).cells) hB b hb2).mono ?_
  rintro e w4 ⟨rfl, hb4⟩
  have HM4 := LH (HM3.out.later hb4)
  rw [← hm]
  obtain ⟨okk, hok⟩ : ∃ o, o = decide (m ≠ 0) := ⟨_, rfl⟩
  rw [← hok]
  have HOk := LH hok
  clear hb4 hm hn HM3 hok
  go_upto_if 40 with fail
  go_cut [11] from 57 (fun nv wc => nv = .int .i64 (n : Int) ∧ wc = w4)
  case first =>
   cases okk with
   | false =>
    have hm0 : m = 0 := by have := HOk.out; simpa using this
    have hn1 : n = 1 := by omega
    subst hn1
    go_wp2_with fail
    go_meet
    exact ⟨rfl, rfl⟩
   | true =>
    have hm0 : ¬ m = 0 := by have := HOk.out; simpa using this
    have hn1 : n = m := by omega
    subst hn1
    go_wp2_with fail
    go_meet
    exact ⟨rfl, rfl⟩
  case rest =>
   obtain ⟨rfl, rfl⟩ := hcut
   have HKn : Hid (n = max 1 m) := LH hkn
   obtain ⟨hf1, hf2⟩ := hfit
   have hsum : (b : Int) + (n : Int) = ((b + n : Nat) : Int) := by omega
   obtain ⟨e9, he9⟩ : ∃ e, e = b + n := ⟨_, rfl⟩
   rw [← he9] at hsum hf2
   have hbe : b ≤ e9 := by omega
   have hBb : ¬ B = b := by omega
   have hLb : ¬ lc = b := by omega
   have HE9 : Hid (e9 - b = n) := LH (by omega)
   clear hkn he9
   go_upto_region 11 with fail
   refine wp_region_seg (C := fun w' => ∃ x : Later (wc), w' = x.val) [.fl [0, 1, 2, 3, 4, 5, 6, 7, 8, 9, 10, 11], .sq [12] false] (by kernel_rfl) (by kernel_rfl) (by intro c a d v w h; cases d <;> exact h) ?_
   simp only [segs, picks, List.getElem?_cons_succ, List.getElem?_cons_zero]
   have hC1 := later_drew (wc)
   have HAg : Hid ((⟨g, 0, none⟩ : Addr).add (b * 3) = ⟨g, b * 3, none⟩) := LH (by
    unfold Addr.add
    split
    ·exfalso; omega
    ·simp)
   have HAl : Hid ((⟨lg, 0, none⟩ : Addr).add (b * 3) = ⟨lg, b * 3, none⟩) := LH (by
    unfold Addr.add
    split
    ·exfalso; omega
    ·simp)
   refine wpSeg_fl hC1 ?_
   repeat (first
    | (refine wpQuiet_slice_mid elHd b e9 rfl rfl hbe hf2 (Nat.le_refl _) rfl rfl rfl rfl rfl ?_; rw [if_neg hBb, Option.map_some, HAg.out, HE9.out])
    | (refine wpQuiet_slice_mid elHd b e9 rfl rfl hbe hf2 hlc rfl rfl rfl rfl rfl ?_; rw [if_neg hLb, Option.map_some, HAl.out, HE9.out])
    | go_big_quiet_step (fail) | quiet_step (fail))
   refine wpQuiet_nil ?_
   have HM5 := LH (HM4.out.later (later_below hC1))
   generalize wc.drew = wd at *
   clear hC1 HM4
   have HSeg : Hid ((hdCs ((L.drop b).take n)).length = Nat.min n n * 3) := LH (by
    rw [hdCs_length, List.length_take, List.length_drop, HLn.out, show Nat.min n n = n from Nat.min_self n]
    omega)
   have HSrc : Hid (∀ j v, (hdCs ((L.drop b).take n))[j]? = some v → wd.cell? ⟨lg, b * 3 + j, none⟩ = some v) := LH (fun j v hj => by
    have hrow : RowAt wd lg 107 (hdCs L) := HL.out.below HM5.out.below
    refine hrow.cell ?_
    have hdt : hdCs L = hdCs (L.take b) ++ (hdCs ((L.drop b).take n) ++ hdCs ((L.drop b).drop n)) := by
     rw [← hdCs_append, List.take_append_drop, ← hdCs_append, List.take_append_drop]
    have hlt3 : (hdCs (L.take b)).length = b * 3 := by rw [hdCs_length, List.length_take, HLn.out]; omega
    rw [hdt, List.getElem?_append_right (by omega), hlt3, show b * 3 + j - b * 3 = j by omega, List.getElem?_append_left (List.getElem?_eq_some_iff.1 hj).1]
    exact hj)
   have HFit : Hid (b * 3 + (hdCs ((L.drop b).take n)).length ≤ (hdCs (keepL L (xs.take k))).length) := LH (by
    rw [hdCs_length, hdCs_length, keepL_len, HLn.out, List.length_take, List.length_drop, HLn.out]
    omega)
   refine wpSeg_last ?_
   go_wp2_with (refine wpList_copy_rows rfl rfl (Tryz.underlying22) (size := 3) (by kernel_rfl) rfl rfl (HM5.out.at 1 rfl) (hdCs ((L.drop b).take n)) HSeg.out HSrc.out HFit.out (hdCs_one _) ?_; intro w6 h6 ht6; have H6 := LH h6; have HT6 := LH ht6; clear h6 ht6)
   have HNew : Hid (Mem w w6 [⟨q, 44, [.int .i64 (B : Int)], true⟩, ⟨g, 107, hdCs (keepL L (xs.take (k + 1))), false⟩]) := LH (by
    have := HM5.out.upd 1 (y := ⟨g, 107, hdCs (keepL L (xs.take (k + 1))), false⟩) rfl rfl HT6.out (by
     rw [HTk.out, HK1.out, hdCs_splice]
     exact RowX.of H6.out)
    exact this)
   exact ⟨⟨k + 1, by omega, vint (by omega), HNew⟩, by simp [intOf]; omega⟩
end Go.Proofs.YtpohaahihdhleaaGreat
