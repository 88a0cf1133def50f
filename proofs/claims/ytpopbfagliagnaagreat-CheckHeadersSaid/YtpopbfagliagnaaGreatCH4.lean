/- Parts of the proof, one behind the other: Eg, Tr, Eh, Ei, Ej, HdD, Rk, Bo, Sa, Sc, Sp, Sq, Fm, Pu, Va, Vb, Vc, Vd, Ve, Im, Io. -/
import Derived.Test.YtpopbfagliagnaaGreatCH3
import Derived.Deep.QuietTactic
import Derived.BigQuiet
import Derived.WalkKit
import Derived.Deep.Cut
import Derived.Maps.OwnOps
import Derived.Maps.RangeWalk
import Derived.Maps.OwnSet
import Derived.Maps.Views
import Derived.WideKeyEntry
set_option linter.unusedVariables false
namespace Go.Proofs.YtpopbfagliagnaaGreat
open Go.RowKit Go.Maps
theorem grown_drew_alloc (w : World) (o : Obj) (row : Option Nat) : w.grownBy (w.drew.alloc o) row := ⟨rfl, rfl, rfl, by simp, fun k hk _ => (below_alloc w.drew o).block k hk⟩
theorem grown_self (w : World) (row : Option Nat) : w.grownBy w row := ⟨rfl, rfl, rfl, Nat.le_refl _, fun _ _ _ => rfl⟩
theorem vi_one (xs : List Nat) : ∀ u ∈ xs.map vi, u.oneCell' = true := by
 intro u hu
 obtain ⟨x, _, rfl⟩ := List.mem_map.1 hu
 rfl
theorem rowOf_new (g n c : Nat) : ∀ b, rowOf (.slice (some ⟨g, 0, none⟩) n c) = some b → b = g := by
 intro b hb
 have hb2 : (if c = 0 then none else some g) = some b := hb
 by_cases h : c = 0
 ·rw [if_pos h] at hb2; cases hb2
 ·rw [if_neg h] at hb2; cases hb2; rfl
theorem run_append_ownI {w : World} {v : Value} {xs ys : List Nat} {a : Option Addr} {m c : Nat} (ty : TypeId) (h : OwnI w v xs) (hy : Cells w a (ys.map vi)) (hm : ys.length = m) (hn : xs.length + m ≤ 1000000000000) :
  ∃ v' w', (Builtin.append_ #[47, 47] ty #[v, .slice a m c]).run Tryz.prog w = .ok v' w' ∧ OwnI w' v' (xs ++ ys) ∧ w.grownBy w' (rowOf v) ∧ ∀ b, rowOf v' = some b → rowOf v = some b ∨ b = w.heap.size := by
 obtain ⟨i, i1, i2, i3, i4⟩ := el_int.info
 have hby : (xs.length + m) * i.bytes ≤ 140737488355328 := by rw [i4]; omega
 have h63 : xs.length + m ≤ maxLen := by unfold maxLen; omega
 by_cases hm0 : m = 0
 ·have hys : ys = [] := List.length_eq_zero_iff.1 (by omega)
  subst hm0 hys
  refine ⟨v, w, ?_, by simpa using h, grown_self _ _, fun b hb => .inl hb⟩
  rcases h with h | ⟨p, rfl, rfl⟩
  ·cases a with
   | none => exact run_append_owned_none' el_int.under i1 h
   | some d =>
    rcases h.2 with ⟨rfl, h0⟩ | ⟨g, cap, cur, rfl, hb, hg, h1, h2, h3, h4⟩
    ·simp [Builtin.append_, run_underlying el_int.under, sizeOf, typeInfo, i1, Builtin.lenOf, Builtin.firstCells, loadCells, loadCellsFrom]
    ·simp [Builtin.append_, run_underlying el_int.under, sizeOf, typeInfo, i1, Builtin.lenOf, Builtin.firstCells, loadCells, loadCellsFrom, storeCells, h1]
  ·cases a with
   | none => simp [Builtin.append_, run_underlying el_int.under, sizeOf, typeInfo, i1, Builtin.lenOf, Builtin.firstCells, storeCells]
   | some d => simp [Builtin.append_, run_underlying el_int.under, sizeOf, typeInfo, i1, Builtin.lenOf, Builtin.firstCells, loadCells, loadCellsFrom, storeCells]
 ·rcases hy with h0 | ⟨b, off, rfl, hyc⟩
  ·exfalso
   have := congrArg List.length h0
   simp at this
   rw [this] at hm; simp at hm; omega
  have hyc' : ∀ j u, (ys.map vi)[j]? = some u → w.cell? ((⟨b, off, none⟩ : Addr).add j) = some u := fun j u hj => by
   rw [add_none]; exact hyc j u hj
  have hl : (ys.map vi).length = m * 1 := by simp [hm]
  have hl' : (ys.map vi).length = m * i.size := by rw [i3]; exact hl
  have nilcase := run_append_own (P := Tryz.prog) (w := w) 0 47 ty 3 i _ 1 i.bytes el_int.under i1 i2 i3 rfl el_int.cells (by decide) (.slice none 0 0) 0 [] (World.ownsRow_nil w 0 3 1) ⟨b, off, none⟩ m c (ys.map vi) hl hyc' (vi_one ys) (by unfold maxLen at h63 ⊢; omega) (by rw [i4]; omega) (Nat.zero_le _)
  have hnr := run_append_nil (P := Tryz.prog) w 47 ty 3 i _ el_int.under i1 i2 ⟨b, off, none⟩ m c (ys.map vi) hl' hyc' (by omega) (by omega) (by rw [i4]; omega)
  obtain ⟨v1, w1, r1, o1, g1, n1⟩ := nilcase
  have hv1 : v1 = .slice (some ⟨w.heap.size, 0, none⟩) m (grownCap w m 0 3) ∧ w1 = w.drew.alloc (.cells ((ys.map vi).toArray ++ Builtin.zeroCells (Value.int .i64 0).cells (grownCap w m 0 3 - m)) 3) := by
   rw [hnr] at r1
   have e := r1
   injection e with e1 e2
   exact ⟨e1.symm, e2.symm⟩
  rcases h with h | ⟨p, rfl, rfl⟩
  ·rcases h.2 with ⟨rfl, h0⟩ | ⟨g, cap, cur, rfl, hb, hg, h1, h2, h3, h4⟩
   ·have hx : xs = [] := List.length_eq_zero_iff.1 h0
    subst hx
    refine ⟨v1, w1, r1, .inl ?_, ?_, fun b' hb' => .inr ?_⟩
    ·simpa [hm] using o1
    ·rw [hv1.2]; exact grown_drew_alloc _ _ _
    ·rw [hv1.1] at hb'; exact rowOf_new _ _ _ _ hb'
   ·obtain ⟨v2, w2, r2, o2, g2, n2⟩ := run_append_own (P := Tryz.prog) (w := w) 0 47 ty 3 i _ 1 i.bytes el_int.under i1 i2 i3 rfl el_int.cells (by decide) (.slice (some ⟨g, 0, none⟩) xs.length cap) xs.length (xs.map vi) h ⟨b, off, none⟩ m c (ys.map vi) hl hyc' (vi_one ys) h63 hby (Nat.zero_le _)
    have ho2 : OwnI w2 v2 (xs ++ ys) := .inl (by rw [List.length_append, List.map_append, hm]; exact o2)
    by_cases hroom : xs.length + m ≤ cap
    ·have hr := run_append_room (P := Tryz.prog) w 47 ty 3 i el_int.under i1 g xs.length cap cur hg ⟨b, off, none⟩ m c (ys.map vi) hl' hyc' (vi_one ys) hroom (by rw [i3, List.length_map, h3, hm]; omega)
     rw [hr] at r2
     have e := r2
     injection e with e1 e2
     have hcap : cap ≠ 0 := by omega
     refine ⟨v2, w2, by rw [hr, e1, e2], ho2, ?_, fun b' hb' => .inl ?_⟩
     ·have : rowOf (.slice (some ⟨g, 0, none⟩) xs.length cap) = some g := by show (if cap = 0 then none else some g) = some g; rw [if_neg hcap]
      rw [this]; exact g2
     ·rw [← e1] at hb'
      exact hb'
    ·have hr := run_append_grow (P := Tryz.prog) w 47 ty 3 i _ el_int.under i1 i2 ⟨g, 0, none⟩ xs.length cap (xs.map vi) (by simp [i3]) (fun j u hj => by
      have hc : RowAt w g 3 (xs.map vi) := ⟨cur, hg, cur.toList.drop (xs.length * 1), by rw [← h4, List.take_append_drop]⟩
      rw [add_none, Nat.zero_add]; exact hc.cell hj) ⟨b, off, none⟩ m c (ys.map vi) hl' hyc' (by omega) (by omega) (growslice_fits (by omega) hby)
     rw [hr] at r2
     have e := r2
     injection e with e1 e2
     refine ⟨v2, w2, by rw [hr, e1, e2], ho2, ?_, fun b' hb' => .inr ?_⟩
     ·rw [← e2]; exact grown_drew_alloc _ _ _
     ·rw [← e1] at hb'; exact rowOf_new _ _ _ _ hb'
  ·have hr := run_append_grow (P := Tryz.prog) w 47 ty 3 i _ el_int.under i1 i2 p 0 0 [] (by simp) (fun j u hj => by simp at hj) ⟨b, off, none⟩ m c (ys.map vi) hl' hyc' (by omega) (by omega) (growslice_fits (by omega) (by simpa using hby))
   refine ⟨v1, w1, ?_, .inl (by simpa [hm] using o1), ?_, fun b' hb' => .inr ?_⟩
   ·rw [hr, hv1.1, hv1.2]
    simp
   ·rw [hv1.2]; exact grown_drew_alloc _ _ _
   ·rw [hv1.1] at hb'; exact rowOf_new _ _ _ _ hb'
section
variable {w : World} {ops : Array Oper} {rest : List Oper} {o : Oper} {act : Act} {Q : Exit → Act → World → Prop}
theorem wpList_append_ownI {s x : Operand} {v : Value} {xs ys : List Nat} {a : Option Addr} {m c : Nat} (h : OwnI w v xs) (hy : Cells w a (ys.map vi)) (hm : ys.length = m) (hn : xs.length + m ≤ 1000000000000)
  (hgd : o.guard = none) (ho : o.op = .call { callee := .builtin .append, args := #[s, x], argTypes := #[47, 47] })
  (hs : act.eval s = v) (hx : act.eval x = .slice a m c)
  (hK : ∀ v' w', OwnI w' v' (xs ++ ys) → w.grownBy w' (rowOf v) → (∀ b, rowOf v' = some b → rowOf v = some b ∨ b = w.heap.size) → wpList Tryz.prog ops Q rest (act.put o.dst v') w') :
  wpList Tryz.prog ops Q (o :: rest) act w := by
 obtain ⟨v', w', hr, h1, h2, h3⟩ := run_append_ownI (c := c) o.type h hy hm hn
 refine wpList_plain hgd fun K hK' => ?_
 unfold Oper.wp
 simp [execOp, ho, resolve, invoke, builtin, hs, hx, hr, Result.andThen]
 exact hK' _ _ (hK v' w' h1 h2 h3)
theorem wpList_append_newI {s x : Operand} {wa : World} {v : Value} {xs ys : List Nat} {a : Option Addr} {m c B : Nat} (h : OwnI wa v xs) (hb : Below wa.heap.size wa w) (hrow : ∀ b, rowOf v = some b → B ≤ b) (hB : B ≤ w.heap.size) (hy : Cells w a (ys.map vi)) (hm : ys.length = m) (hn : xs.length + m ≤ 1000000000000)
  (hgd : o.guard = none) (ho : o.op = .call { callee := .builtin .append, args := #[s, x], argTypes := #[47, 47] })
  (hs : act.eval s = v) (hx : act.eval x = .slice a m c)
  (hK : ∀ v' w', OwnI w' v' (xs ++ ys) → Below B w w' → (∀ b, rowOf v' = some b → B ≤ b) → wpList Tryz.prog ops Q rest (act.put o.dst v') w') :
  wpList Tryz.prog ops Q (o :: rest) act w := by
 refine wpList_append_ownI (h.keep (fun b hb' => hb.block b (h.lt b hb'))) hy hm hn hgd ho hs hx fun v' w' h1 h2 h3 => hK v' w' h1 ?_ ?_
 ·exact ⟨h2.os, h2.tape, h2.output, h2.size, fun k hk => h2.block k (by omega) (fun e => by have := hrow k e.symm; omega)⟩
 ·intro b hb'
  rcases h3 b hb' with c | c
  ·exact hrow b c
  ·omega
end
end Go.Proofs.YtpopbfagliagnaaGreat
namespace Go.Proofs.YtpopbfagliagnaaGreat
open Go.RowKit
section
variable {P : Program} {ops : Array Oper} {md : Region.Mode} {C : World → Prop} {Q : Exit → Act → World → Prop}
end
end Go.Proofs.YtpopbfagliagnaaGreat
namespace Go.Proofs.YtpopbfagliagnaaGreat
open Go.RowKit Go.Maps
structure FreeV (w : World) (f mb n : Nat) (V : Nat → Value) (R : List Nat) (S : FL) : Prop where
 inn : FreeIn w f mb n V S
 f : f ∈ R
 mb : mb ∈ R
 lt : ∀ b ∈ R, b < w.heap.size
 rows : ∀ j, j < 160 → ∀ b, rowOf (V j) = some b → b ∈ R
theorem FreeAt.v {w : World} {f mb n : Nat} {R : List Nat} {S : FL} (h : FreeAt w f mb n R S) : ∃ V, FreeV w f mb n V R S := by
 obtain ⟨V, h1, h2, h3, h4, h5⟩ := h
 exact ⟨V, h1, h2, h3, h4, h5⟩
theorem FreeV.below {w w' : World} {f mb n : Nat} {V : Nat → Value} {R : List Nat} {S : FL} (h : FreeV w f mb n V R S) (hb : Below w.heap.size w w') : FreeV w' f mb n V R S := by
 have hk : ∀ k ∈ R, w'.heap[k]? = w.heap[k]? := fun k hk => hb.block k (h.lt k hk)
 obtain ⟨M, hm, hv⟩ := h.inn.map
 exact ⟨⟨(hk f h.f).trans h.inn.head, ⟨M, hm.block (hk mb h.mb), hv⟩, fun i hi' => (h.inn.rows i hi').keep fun b hb => hk b (h.rows i hi' b hb), h.inn.apart, h.inn.neF, h.inn.ne⟩, h.f, h.mb, fun b hb' => Nat.lt_of_lt_of_le (h.lt b hb') hb.size, h.rows⟩
def FL.upto (S : FL) (N : Nat) : Prop := ∀ i, i < 160 → (S.at i).length ≤ N
theorem FL.upto.mono {S : FL} {N M : Nat} (h : S.upto N) (hN : N ≤ M) : S.upto M := fun i hi => Nat.le_trans (h i hi) hN
theorem grown_touchO {w w' : World} {row : Option Nat} (h : w.grownBy w' row) : Touch row.toList w w' :=
 ⟨h.os, h.tape, h.output, h.size, fun k hk hn => h.block k hk (fun e => hn (by rw [← e]; simp))⟩
def NewI (w : World) (xs : List Nat) : Ending → World → Prop := fun e w' => ∃ v, e = .returned v ∧ OwnI w' v xs ∧ (∀ b, rowOf v = some b → w.heap.size ≤ b) ∧ Below w.heap.size w w'
set_option maxHeartbeats 1000000 in
set_option maxRecDepth 20000 in
theorem cloneI_any {w : World} (a : Option Addr) (n c : Nat) (xs : List Nat) (hn : xs.length = n) (hc : Cells w a (xs.map vi)) (h9 : xs.length ≤ 1000000) (hnil : a = none → c = 0) :
  Calls Tryz.prog 221 #[.slice a n c] w (NewI w xs) := by
 subst hn
 cases a with
 | none =>
  have hx : xs = [] := by
   rcases hc with h | ⟨_, _, h, _⟩
   ·simpa using h
   ·cases h
  subst hx
  obtain rfl := hnil rfl
  have hnl := fun w' => Lib.run_eql_slice_nil_nil (P := Tryz.prog) w' (t := 47) 0 0 Tryz.underlying47
  go_enter Tryz.func221, Tryz.ntmps221
  go_wp2_with fail
  go_ret
  exact ⟨.slice none 0 0, rfl, OwnI.nil _, fun b hb => (by cases hb), Below.refl _ _⟩
 | some d =>
  have HC0 := LH hc
  have HO : Hid (OwnI (w.alloc (.cells #[] 3)) (.slice (some ⟨w.heap.size, 0, none⟩) 0 0) []) :=
   LH (.inl ⟨rfl, .inr ⟨w.heap.size, 0, #[], rfl, Nat.zero_le _, heap_alloc_new w _, Nat.le_refl _, Nat.zero_le _, rfl, rfl⟩⟩)
  have HB := LH (below_alloc w (.cells #[] 3))
  have HC : Hid (Cells (w.alloc (.cells #[] 3)) (some d) (xs.map vi)) := LH (by
   rcases hc with h | ⟨b, off, e, h⟩
   ·exact .inl h
   ·exact .inr ⟨b, off, e, fun i v hi => by
     have := h i v hi
     rw [HB.out.cell (World.block_lt_of_cell? _ _ this)]; exact this⟩)
  have HN : Hid (([] : List Nat).length + xs.length ≤ 1000000000000) := LH (by simp; omega)
  have hnl := fun w' => Lib.run_eql_slice_some_nil (P := Tryz.prog) w' (t := 47) d xs.length c Tryz.underlying47
  obtain ⟨l, hl⟩ : ∃ l, l = xs.length := ⟨_, rfl⟩
  rw [← hl] at HN hnl ⊢
  have HL := LH hl.symm
  clear hc hl h9 hnil
  go_enter Tryz.func221, Tryz.ntmps221
  go_wp2_with (at_builtin; refine wpList_append_ownI (m := l) HO.out HC.out HL.out HN.out rfl rfl rfl rfl ?_; intro v' w2 ho hg hr; have HO2 := LH ho; have HG2 := LH hg; have HR2 := LH hr; clear ho hg hr)
  go_ret
  refine ⟨_, rfl, by simpa using HO2.out, fun b hb => ?_, ?_⟩
  ·rcases HR2.out b hb with h | h
   ·have : rowOf (.slice (some ⟨w.heap.size, 0, none⟩) 0 0) = none := rfl
    rw [this] at h; cases h
   ·rw [h]; exact HB.out.size
  ·have hg : World.grownBy _ w2 none := HG2.out
   exact HB.out.trans ((below_grown hg (Nat.le_refl _)).mono HB.out.size)
end Go.Proofs.YtpopbfagliagnaaGreat
namespace Go.Proofs.YtpopbfagliagnaaGreat
open Go.RowKit
set_option maxHeartbeats 1000000 in
theorem rhright_any (k c l : Int) (w : World) : Calls Tryz.prog 129 #[vhd k c l] w fun e w' => e = .returned (.bool (hdRight k c l)) ∧ Below w.heap.size w w' := by
  have HB := LH (below_alloc w)
  go_enter Tryz.func129, Tryz.ntmps129
  go_wp2_with fail
  all_goals
    go_ret
    refine ⟨ret_bool ?_, HB.out _⟩
    clear HB
    simp only [beq_iff_eq, beq_eq_false_iff_ne] at *
    first
      | exact hdR_t (by unfold HdRight; omega)
      | exact hdR_f (by unfold HdRight; omega)
      | (by_cases hl : l ≤ 255
         · exact (decide_eq_true hl).trans (hdR_t (by unfold HdRight; omega))
         · exact (decide_eq_false hl).trans (hdR_f (by unfold HdRight; omega)))
      | (by_cases hl : l = 0
         · exact (beq_iff_eq.2 hl).trans (hdR_t (by unfold HdRight; omega))
         · exact (beq_eq_false_iff_ne.2 hl).trans (hdR_f (by unfold HdRight; omega)))
set_option maxHeartbeats 1000000 in
theorem rencode_any (b k c l : Int) (hb0 : 0 ≤ b) (hb1 : b ≤ 1000000) (w : World) : Calls Tryz.prog 45 #[.int .i64 b, vhd k c l] w fun e w' => e = .returned (vu64 (encN b k c l)) ∧ Below w.heap.size w w' := by
 have hb := below_alloc w (Obj.cells #[Value.int .i64 k, Value.int .i64 c, Value.int .i64 l] 101)
 have hg := heap_alloc_new w (Obj.cells #[Value.int .i64 k, Value.int .i64 c, Value.int .i64 l] 101)
 go_enter Tryz.func45, Tryz.ntmps45
 go_wp2_with fail
 generalize w.alloc (Obj.cells #[Value.int .i64 k, Value.int .i64 c, Value.int .i64 l] 101) = w0 at *
 refine (rhright_any k c l w0).mono ?_
 rintro e w1 ⟨rfl, hb1⟩
 have hgl : w.heap.size < w0.heap.size := (Array.getElem?_eq_some_iff.1 hg).1
 have hbb := hb.trans (hb1.mono hb.size)
 have hg1 : w1.heap[w.heap.size]? = _ := (hb1.block _ hgl).trans hg
 have c0 : w1.cell? ⟨w.heap.size, 0, none⟩ = some (.int .i64 k) := cell_of_row _ _ 0 _ _ _ hg1
 have c1 : w1.cell? ⟨w.heap.size, 1, none⟩ = some (.int .i64 c) := cell_of_row _ _ 1 _ _ _ hg1
 have c2 : w1.cell? ⟨w.heap.size, 2, none⟩ = some (.int .i64 l) := cell_of_row _ _ 2 _ _ _ hg1
 clear hb hb1 hg hgl hg1
 cases hr : hdRight k c l
 ·have HE : Hid (encN b k c l = 0) := LH (by unfold encN; rw [hr]; rfl)
  clear hr
  go_wp2_with fail
  go_ret
  exact ⟨ret_int (by rw [HE.out]; rfl), hbb⟩
 ·have HE : Hid (encN b k c l = sealN (hdN k c l) (pl (256 + b))) := LH (by unfold encN; rw [hr]; rfl)
  have hn := hdN_lt hr
  obtain ⟨⟨k0, k1⟩, ⟨c0', c1'⟩, l0, l1⟩ := hd_small hr
  have HN : Hid (k + 4 * c + 256 * l = (hdN k c l : Int)) := LH (by unfold hdN; omega)
  clear hr
  generalize hdN k c l = n at *
  go_wp2_with fail
  rw [HN.out]
  refine (rseal_any n _ hn _).mono ?_
  rintro e w2 ⟨rfl, hb2⟩
  rw [← HE.out]
  go_wp2_with fail
  go_ret
  exact ⟨rfl, hbb.trans (hb2.mono hbb.size)⟩
set_option maxHeartbeats 1000000 in
theorem rdecode_any (b : Int) (x : Nat) (hb0 : 0 ≤ b) (hb1' : b ≤ 1000000) (hx : x < 18446744073709551616) (w : World) :
  Calls Tryz.prog 144 #[.int .i64 b, vu64 x] w fun e w' => e = .returned (decN b x).val ∧ Below w.heap.size w w' := by
 have hbA := below_alloc w (Obj.cells #[Value.int .i64 0, Value.int .i64 0, Value.int .i64 0] 101)
 have hg := heap_alloc_new w (Obj.cells #[Value.int .i64 0, Value.int .i64 0, Value.int .i64 0] 101)
 go_enter Tryz.func144, Tryz.ntmps144
 go_wp2_with fail
 generalize w.alloc (Obj.cells #[Value.int .i64 0, Value.int .i64 0, Value.int .i64 0] 101) = w0 at *
 refine (ropen_any x _ hx w0).mono ?_
 rintro e w1 ⟨rfl, hbo⟩
 have hgl : w.heap.size < w0.heap.size := (Array.getElem?_eq_some_iff.1 hg).1
 have hbb := hbA.trans (hbo.mono hbA.size)
 have hg1 : w1.heap[w.heap.size]? = _ := (hbo.block _ hgl).trans hg
 clear hbA hbo hg hgl
 cases ho : openN x (pl (256 + b)) with
 | none =>
  have HV := LH (decN_none ho)
  clear ho
  simp only [openV]
  go_wp2_with (refine wpList_store_row (cs := #[.int .i64 0, .int .i64 0, .int .i64 0]) aggRh hg1 rfl rfl (by simp [Value.oneCell']) rfl rfl rfl rfl ?_; intro w2 hg2 hgr2 hs2)
  refine bodyPost_ret (results_cell_row2 (p := 4) (u := 5) rfl _ _ _ _ _ _ _ rfl hg2 Tryz.underlying101 rfl (by kernel_rfl)) rfl ⟨by rw [HV.out]; rfl, ?_⟩
  exact hbb.grown hgr2 hbb.size (fun k e => by cases e; omega)
 | some n =>
  obtain ⟨hn, -⟩ := openN_some ho
  have HK := LH (decN_ok ho)
  have HRr := LH (fun he => enc_right (b := b) ho he)
  have HL := LH (decN_bad ho)
  clear ho
  simp only [openV]
  obtain ⟨h4, h64, h6⟩ := bits_sum n
  go_wp2_with fail
  rw [show (n : Int) % 4 = ((n % 4 : Nat) : Int) by omega, show (n : Int) / 4 % 64 = ((n / 4 % 64 : Nat) : Int) by omega, show (n : Int) / 256 % 65536 = ((n / 256 % 65536 : Nat) : Int) by omega]
  generalize n % 4 = k at *
  generalize n / 4 % 64 = c at *
  generalize n / 256 % 65536 = l at *
  have hb1 := below_alloc w1 (Obj.cells #[Value.int .i64 (k : Int), Value.int .i64 (c : Int), Value.int .i64 (l : Int)] 101)
  have hg2 := heap_alloc_new w1 (Obj.cells #[Value.int .i64 (k : Int), Value.int .i64 (c : Int), Value.int .i64 (l : Int)] 101)
  generalize w1.alloc (Obj.cells #[Value.int .i64 (k : Int), Value.int .i64 (c : Int), Value.int .i64 (l : Int)] 101) = w2 at *
  refine (rencode_any b k c l hb0 hb1' w2).mono ?_
  rintro e w3 ⟨rfl, hb3⟩
  have hgl : w.heap.size < w1.heap.size := (Array.getElem?_eq_some_iff.1 hg1).1
  have hgl2 : w1.heap.size < w2.heap.size := (Array.getElem?_eq_some_iff.1 hg2).1
  have hb3' := hbb.trans ((hb1.trans (hb3.mono hb1.size)).mono hbb.size)
  have hg3 : w3.heap[w.heap.size]? = _ := (hb3.block _ (by omega)).trans ((hb1.block _ hgl).trans hg1)
  have hg4 : w3.heap[w1.heap.size]? = _ := (hb3.block _ hgl2).trans hg2
  have he := encN_lt b k c l
  clear hb1 hb3 hg1 hg2 hbb
  generalize encN b k c l = y at *
  by_cases hyx : y = x
  ·have HV := LH (HK.out hyx)
   have hrt := HRr.out hyx
   subst hyx
   have d0 : w3.cell? ⟨w1.heap.size, 0, none⟩ = some (.int .i64 k) := cell_of_row _ _ 0 _ _ _ hg4
   have d1 : w3.cell? ⟨w1.heap.size, 1, none⟩ = some (.int .i64 c) := cell_of_row _ _ 1 _ _ _ hg4
   have d2 : w3.cell? ⟨w1.heap.size, 2, none⟩ = some (.int .i64 l) := cell_of_row _ _ 2 _ _ _ hg4
   go_wp2_with fail
   refine (rhright_any k c l w3).mono ?_
   rintro e w5 ⟨rfl, hb5⟩
   have hb5' := hb3'.trans (hb5.mono hb3'.size)
   have hg3' : w5.heap[w.heap.size]? = _ := (hb5.block _ (Array.getElem?_eq_some_iff.1 hg3).1).trans hg3
   have hg4' : w5.heap[w1.heap.size]? = _ := (hb5.block _ (Array.getElem?_eq_some_iff.1 hg4).1).trans hg4
   have d0 : w5.cell? ⟨w1.heap.size, 0, none⟩ = some (.int .i64 k) := cell_of_row _ _ 0 _ _ _ hg4'
   have d1 : w5.cell? ⟨w1.heap.size, 1, none⟩ = some (.int .i64 c) := cell_of_row _ _ 1 _ _ _ hg4'
   have d2 : w5.cell? ⟨w1.heap.size, 2, none⟩ = some (.int .i64 l) := cell_of_row _ _ 2 _ _ _ hg4'
   rw [hrt]
   clear hb5 hg3 hg4 hrt HRr HK HL
   go_wp2_with (refine wpList_store_row (cs := #[.int .i64 k, .int .i64 c, .int .i64 l]) aggRh hg3' rfl rfl (by simp [Value.oneCell']) rfl rfl rfl rfl ?_; intro w4 hg5 hgr4 hs4)
   refine bodyPost_ret (results_cell_row2 (p := 4) (u := 5) rfl _ _ _ _ _ _ _ rfl hg5 Tryz.underlying101 rfl (by kernel_rfl)) rfl ⟨by rw [HV.out]; rfl, ?_⟩
   exact hb5'.grown hgr4 hb5'.size (fun k e => by cases e; omega)
  ·have HV := LH (HL.out hyx)
   have hne : ¬ ((y : Int) = (x : Int)) := by omega
   clear hyx
   go_wp2_with (refine wpList_store_row (cs := #[.int .i64 0, .int .i64 0, .int .i64 0]) aggRh hg3 rfl rfl (by simp [Value.oneCell']) rfl rfl rfl rfl ?_; intro w4 hg5 hgr4 hs4)
   refine bodyPost_ret (results_cell_row2 (p := 4) (u := 5) rfl _ _ _ _ _ _ _ rfl hg5 Tryz.underlying101 rfl (by kernel_rfl)) rfl ⟨by rw [HV.out]; rfl, ?_⟩
   exact hb3'.grown hgr4 hb3'.size (fun k e => by cases e; omega)
theorem peek_neg (l : List Nat) (i : Int) (h : i < 0) : peek l i = 0 := by unfold peek; rw [if_neg (by omega)]
theorem peek_out (l : List Nat) (j : Nat) (h : l.length ≤ j) : peek l (j : Int) = 0 := by
 unfold peek; rw [if_pos (by omega)]; simp [List.getElem?_eq_none h]
theorem peek_in (l : List Nat) (j : Nat) : peek l (j : Int) = l.getD j 0 := by unfold peek; rw [if_pos (by omega)]; rfl
set_option maxHeartbeats 400000 in
theorem rget_any (a : Option Addr) (n cap : Nat) (ls : List Nat) (w : World) (hc : Cells w a (ls.map vu64)) (hl : ls.length = 8 * n) (hn : n ≤ 1000000) (i : Int) :
  Calls Tryz.prog 98 #[.slice a n cap, .int .i64 i] w fun e w' => e = .returned (vu64 (peek ls i)) ∧ w = w' := by
 by_cases h0 : i < 0
 ·have HV := LH (peek_neg ls i h0)
  clear hl hc
  go_enter Tryz.func98, Tryz.ntmps98
  go_wp2_with fail
  go_ret
  exact ⟨ret_int (by rw [HV.out]; rfl), rfl⟩
 obtain ⟨j, rfl⟩ := Int.eq_ofNat_of_zero_le (show 0 ≤ i by omega)
 by_cases h1 : j < 8 * n
 ·obtain ⟨b, off, rfl, hb, hcs⟩ := hc.atMap 0 (show j < ls.length by omega)
  have hcell : w.cell? ⟨b, off + j / 8 * 8 + j % 8, none⟩ = some (vu64 (ls.getD j 0)) := by
   rw [show off + j / 8 * 8 + j % 8 = off + j by omega]; exact hcs j (by omega)
  have HV := LH (peek_in ls j)
  generalize ls.getD j 0 = x at *
  have hj8 : j / 8 < n := by omega
  have hj1 : (j : Int) < 8 * (n : Int) := by omega
  clear hl hc hcs h1
  go_enter Tryz.func98, Tryz.ntmps98
  go_wp2_with fail
  go_ret
  exact ⟨ret_int (by rw [HV.out]), rfl⟩
 ·have HV := LH (peek_out ls j (by omega))
  have h2 : 8 * (n : Int) ≤ (j : Int) := by omega
  clear hl hc
  go_enter Tryz.func98, Tryz.ntmps98
  go_wp2_with fail
  go_ret
  exact ⟨ret_int (by rw [HV.out]; rfl), rfl⟩
theorem elRh : Elem Tryz.prog 53 101 (.agg #[.int .i64 0, .int .i64 0, .int .i64 0]) 3 24 := Elem.mk' Tryz.underlying53 (by kernel_rfl) rfl (by decide)
theorem grown_cell {w w' : World} {v : Value} {base e size n : Nat} {xs : List Value} (hg : w.grownBy w' v.ownBlock) (ho : w.ownsRow base e size v n xs) {p : Addr} {x : Value} (hb : p.block < base) (h : w.cell? p = some x) : w'.cell? p = some x := by
 have hlt := World.block_lt_of_cell? _ _ h
 rw [World.cell?_of_block (w := w) (hg.block p.block hlt (fun c => by have := (ho.lt p.block c.symm).1; omega))]; exact h
set_option maxHeartbeats 2000000 in
set_option maxRecDepth 100000 in
theorem rread_any (a : Option Addr) (n cap : Nat) (ls : List Nat) (v1 v2 v3 v4 v5 v6 v7 : Value) (w : World) (hc : Cells w a (ls.map vu64)) (hl : ls.length = 8 * n) (hn : n ≤ 100000) (hu : ∀ z ∈ ls, z < 18446744073709551616) (B : Nat) (hB1 : 1 ≤ B) (hB : B ≤ 1000) :
  Calls Tryz.prog 100 #[.agg #[.slice a n cap, v1, v2, v3, v4, v5, v6, v7], .int .i64 (B : Int)] w (ReadPost 101 (fun b : Nat => peek ls (256 + (b : Int))) B w) := by
 obtain ⟨f, hf⟩ : ∃ f : Nat → Nat, f = fun b : Nat => peek ls (256 + (b : Int)) := ⟨_, rfl⟩
 rw [← hf]
 have HF0 := LH hf
 generalize hP : ReadPost 101 f B w = Post
 have HPE := LH hP
 have HC := LH hc
 have HL := LH hl
 have HU := LH hu
 clear hf hP hc hl hu
 obtain ⟨w0, hw0⟩ : ∃ w0, w0 = (w.alloc (.cells #[.slice a n cap, v1, v2, v3, v4, v5, v6, v7] 38)).alloc (.cells #[.int .i64 0, .int .i64 0, .int .i64 0] 101) := ⟨_, rfl⟩
 have hb0 : Below w.heap.size w w0 := by rw [hw0]; exact (below_alloc _ _).alloc (by simp) _
 have hc0 : w0.cell? ⟨w.heap.size, 0, none⟩ = some (.slice a n cap) := by
  rw [hw0]
  exact below_cells (below_alloc _ _) (cell_alloc_new _ _ _ 0 _ rfl) (Nat.le_refl _)
 have ho0 : w0.ownsRow (w.heap.size + 1) 101 3 (.slice (some ⟨w.heap.size + 1, 0, none⟩) 1 1) 1 (hdCs (hds f 1)) := by
  refine ⟨rfl, .inr ⟨w.heap.size + 1, 1, #[.int .i64 0, .int .i64 0, .int .i64 0], rfl, Nat.le_refl _, ?_, Nat.le_refl _, by unfold maxLen; omega, rfl, rfl⟩⟩
  rw [hw0]
  have := heap_alloc_new (w.alloc (.cells #[.slice a n cap, v1, v2, v3, v4, v5, v6, v7] 38)) (.cells #[.int .i64 0, .int .i64 0, .int .i64 0] 101)
  simpa using this
 have HW0 := LH hw0
 have HB0 := LH hb0
 have HC0 := LH hc0
 have HO0 := LH ho0
 clear hw0 hb0 hc0 ho0
 go_enter Tryz.func100, Tryz.ntmps100
 go_wp2_with fail
 rw [← HW0.out]
 go_loopw [7, 8] (fun v i wr => ∃ k : Nat, 1 ≤ k ∧ k ≤ B ∧ i = .int .i64 k ∧ AllOk f k ∧ (∃ g c, v = .slice (some ⟨g, 0, none⟩) k c ∧ k ≤ c ∧ w.heap.size ≤ g) ∧ wr.ownsRow (w.heap.size + 1) 101 3 v k (hdCs (hds f k)) ∧ wr.cell? ⟨w.heap.size, 0, none⟩ = some (.slice a n cap) ∧ Below w.heap.size w wr) (fun _ i _ => B - (intOf i).toNat)
 case atStart => exact ⟨1, Nat.le_refl _, hB1, rfl, (fun b h1 h2 => by omega), ⟨_, _, rfl, Nat.le_refl _, by omega⟩, HO0.out, HC0.out, HB0.out⟩
 case round =>
  obtain ⟨k, hk1, hk2, rfl, hok, ⟨g, c, rfl, hkc, hgw⟩, ho, hcx, hb⟩ := hrel
  have HOK := LH hok
  have HO := LH ho
  have HB := LH hb
  have HCr := LH (HC.out.below hb (Nat.le_refl _))
  clear hok ho hb
  by_cases hlt : k < B
  ·have hlt' : (k : Int) < (B : Int) := by omega
   go_wp2_with fail
   refine (rget_any a n cap ls _ HCr.out HL.out (by omega) _).mono ?_
   rintro e w3 ⟨rfl, rfl⟩
   have HX : Hid (peek ls (256 + (k : Int)) = f k) := LH (by rw [HF0.out])
   have hx : f k < 18446744073709551616 := by rw [← HX.out]; exact peek_lt HU.out _
   rw [HX.out]
   go_wp2_with fail
   refine (rdecode_any (k : Int) (f k) (by omega) (by omega) hx _).mono ?_
   rintro e w4 ⟨rfl, hb4⟩
   have HF : Hid (⟨(decN k (f k)).k, (decN k (f k)).c, (decN k (f k)).l⟩ = hdF f k) := LH (by unfold hdF; rw [if_neg (by omega)])
   have HCc : Hid ((decN k (f k)).code = 0 ∨ (decN k (f k)).code ≠ 0) := LH (by omega)
   have HOK2 : Hid ((decN k (f k)).code = 0 → AllOk f (k + 1)) := LH (fun h => HOK.out.succ h)
   have HBad : Hid ((decN k (f k)).code ≠ 0 → ∀ w', Below w.heap.size w w' → Post (.returned (.tuple #[.slice none 0 0, .int .i64 k, .int .i64 21])) w') := LH (fun h w' hw' => by
    rw [← HPE.out]; exact ⟨hw', .inr ⟨k, hk1, hlt, HOK.out, h, rfl⟩⟩)
   unfold Dec.val
   generalize decN k (f k) = dd at *
   obtain ⟨dk, dc, dl, dcode⟩ := dd
   dsimp only at *
   have HB4 := LH hb4
   clear hb4
   rcases HCc.out with hz | hz
   ·subst hz
    have HOK3 := LH (HOK2.out rfl)
    have HBE : Hid (Below w.heap.size w w4) := LH (HB.out.trans (HB4.out.mono HB.out.size))
    have hb5 := below_alloc w4 (Obj.cells #[Value.int .i64 dk, Value.int .i64 dc, Value.int .i64 dl] 101)
    have HO5 : Hid ((w4.alloc (Obj.cells #[Value.int .i64 dk, Value.int .i64 dc, Value.int .i64 dl] 101)).ownsRow (w.heap.size + 1) 101 3 (.slice (some ⟨g, 0, none⟩) k c) k (hdCs (hds f k))) := LH ((owned_below HO.out HB4.out (Nat.le_refl _)).alloc _)
    have HCX5 : Hid ((w4.alloc (Obj.cells #[Value.int .i64 dk, Value.int .i64 dc, Value.int .i64 dl] 101)).cell? ⟨w.heap.size, 0, none⟩ = some (.slice a n cap)) := LH (below_cells hb5 (below_cells HB4.out hcx (Nat.le_refl _)) (Nat.le_refl _))
    have HB5 : Hid (Below w.heap.size w (w4.alloc (Obj.cells #[Value.int .i64 dk, Value.int .i64 dc, Value.int .i64 dl] 101))) := LH (HBE.out.alloc HBE.out.size _)
    have hone : Hid (∀ u ∈ (#[Value.int .i64 dk, Value.int .i64 dc, Value.int .i64 dl] : Array Value).toList, u.oneCell' = true) := LH (by intro u hu; simp at hu; rcases hu with rfl | rfl | rfl <;> rfl)
    have hbase : Hid (w.heap.size + 1 ≤ (w4.alloc (Obj.cells #[Value.int .i64 dk, Value.int .i64 dc, Value.int .i64 dl] 101)).heap.size) := LH (by have := HBE.out.size; simp; omega)
    have hk9 : k < 1000000000000 := by omega
    clear hb5 hcx
    go_wp2_with (at_builtin; refine wpList_append_new (us := #[.int .i64 dk, .int .i64 dc, .int .i64 dl]) elRh HO5.out rfl hone.out hk9 (by decide) hbase.out rfl rfl rfl (by simp [Act.eval]) ?_; intro g6 c6 w6 ho6 hg6 hc6 hm6 hb6 hl6; have HO6 := LH ho6; have HG6 := LH hg6; clear ho6 hg6)
    refine ⟨⟨k + 1, by omega, by omega, vint (by omega), HOK3.out, ⟨g6, c6, rfl, hc6, by omega⟩, ?_, ?_, ?_⟩, by simp [intOf]; omega⟩
    ·rw [hds_succ, hdCs_append, ← HF.out]
     exact HO6.out
    ·exact grown_cell HG6.out HO5.out (by simp) HCX5.out
    ·exact below_grownBy HB5.out HO5.out HG6.out (Nat.le_refl _) (by omega)
   ·have hz1 : (dcode != 0) = true := by simpa using hz
    have HZ := LH (HBad.out hz)
    have HBE : Hid (Below w.heap.size w w4) := LH (HB.out.trans (HB4.out.mono HB.out.size))
    clear hz HBad HCc HOK2
    go_wp2_with fail
    go_ret3
    exact HZ.out _ (HBE.out.alloc (HBE.out.size) _)
  ·obtain rfl : k = B := by omega
   have hlt' : decide ((k : Int) < (k : Int)) = false := by simp
   go_wp2_with fail
   go_ret3
   rw [← HPE.out]
   exact ⟨HB.out, .inl ⟨HOK.out, g, c, rfl, hgw, hkc, owned_row HO.out⟩⟩
structure TabAt (w : World) (p : Nat) (F : Foot) (B : Nat) (l : List Hd) : Prop where
 ex : ∃ g c, w.heap[p]? = some (.cells #[vdev F, .int .i64 (B : Int), .slice (some ⟨g, 0, none⟩) l.length c] 223 (0, 0)) ∧ l.length ≤ c ∧ RowAt w g 103 (hdCs l) ∧ p ≠ g
def Hd.val (h : Hd) : Value := .agg #[.int .i64 h.k, .int .i64 h.c, .int .i64 h.l]
def hdGet (l : List Hd) (b : Int) : Hd := if b < 1 ∨ (l.length : Int) ≤ b then ⟨0, 0, 0⟩ else l.getD b.toNat default
set_option maxHeartbeats 1000000 in
theorem tget_any {w : World} {p B : Nat} {F : Foot} {l : List Hd} (h : TabAt w p F B l) (b : Int) (hl : l.length ≤ 1000) :
  Calls Tryz.prog 213 #[.pointer (some ⟨p, 0, none⟩), .int .i64 b] w fun e w' => e = .returned (hdGet l b).val ∧ Below w.heap.size w w' := by
 obtain ⟨g, c, hp, hc, hr, hne⟩ := h.ex
 have c2 : w.cell? ⟨p, 2, none⟩ = some (.slice (some ⟨g, 0, none⟩) l.length c) := cell_of_row _ _ 2 _ _ _ hp
 have hpl : p < w.heap.size := (Array.getElem?_eq_some_iff.1 hp).1
 have hgl := hr.lt
 by_cases h1 : b < 1
 ·have HE : Hid (hdGet l b = ⟨0, 0, 0⟩) := LH (by unfold hdGet; rw [if_pos (.inl h1)])
  clear hp hr h
  go_enter Tryz.func213, Tryz.ntmps213
  go_wp2_with fail
  exact bodyPost_ret (v := .agg #[.int .i64 0, .int .i64 0, .int .i64 0]) (by simp [results, Tryz.results213, go_sem]) rfl ⟨by rw [HE.out]; rfl, below_alloc _ _⟩
 by_cases h2 : (l.length : Int) ≤ b
 ·have HE : Hid (hdGet l b = ⟨0, 0, 0⟩) := LH (by unfold hdGet; rw [if_pos (.inr h2)])
  clear hp hr h
  go_enter Tryz.func213, Tryz.ntmps213
  go_wp2_with fail
  exact bodyPost_ret (v := .agg #[.int .i64 0, .int .i64 0, .int .i64 0]) (by simp [results, Tryz.results213, go_sem]) rfl ⟨by rw [HE.out]; rfl, below_alloc _ _⟩
 obtain ⟨j, rfl⟩ := Int.eq_ofNat_of_zero_le (show 0 ≤ b by omega)
 have hj : j < l.length := by omega
 have HE : Hid (hdGet l (j : Int) = l.getD j default) := LH (by unfold hdGet; rw [if_neg (by omega)]; rfl)
 have HA := hdCs_at l j hj
 generalize l.getD j default = hd at *
 obtain ⟨hk, hcl, hln⟩ := hd
 have d0 : w.cell? ⟨g, j * 3, none⟩ = some (.int .i64 hk) := hr.cell (HA 0 _ rfl)
 have d1 : w.cell? ⟨g, j * 3 + 1, none⟩ = some (.int .i64 hcl) := hr.cell (HA 1 _ rfl)
 have d2 : w.cell? ⟨g, j * 3 + 2, none⟩ = some (.int .i64 hln) := hr.cell (HA 2 _ rfl)
 clear hp hr h HA
 go_enter Tryz.func213, Tryz.ntmps213
 go_wp2_with fail
 exact bodyPost_ret (v := .agg #[.int .i64 hk, .int .i64 hcl, .int .i64 hln]) (by simp [results, Tryz.results213, go_sem]) rfl ⟨by rw [HE.out]; rfl, below_alloc _ _⟩
set_option maxHeartbeats 400000 in
theorem ref_any (h : Hd) (w : World) : Calls Tryz.prog 46 #[h.val] w fun e w' => e = .returned h.val ∧ Below w.heap.size w w' := by
 obtain ⟨k, c, l⟩ := h
 unfold Hd.val
 dsimp only
 have hb : Below w.heap.size w ((w.alloc (.cells #[.int .i64 k, .int .i64 c, .int .i64 l] 103)).alloc (.cells #[.int .i64 k, .int .i64 c, .int .i64 l] 101)) := (below_alloc _ _).alloc (by simp) _
 have HB := LH hb
 clear hb
 go_enter Tryz.func46, Tryz.ntmps46
 go_wp2_with fail
 exact bodyPost_ret (v := .agg #[.int .i64 k, .int .i64 c, .int .i64 l]) (by simp [results, Tryz.results46, go_sem]) rfl ⟨rfl, HB.out⟩
theorem hdGetD (l : List Hd) (j : Nat) : ∃ k c n, l.getD j default = ⟨k, c, n⟩ := ⟨_, _, _, rfl⟩
set_option maxHeartbeats 1000000 in
set_option maxRecDepth 20000 in
theorem refs_any (a : Option Addr) (n cap : Nat) (l : List Hd) (hn : l.length = n) (w : World) (hc : Cells w a (hdCs l)) (hl : n ≤ 1000) :
  Calls Tryz.prog 25 #[.slice a n cap] w fun e w' => ∃ v, e = .returned v ∧ w'.ownsRow w.heap.size 101 3 v n (hdCs l) ∧ Below w.heap.size w w' := by
 have HN := LH hn
 have HC := LH hc
 clear hn hc
 go_enter Tryz.func25, Tryz.ntmps25
 go_wp2_with fail
 go_loopw [3, 4] (fun v i wr => ∃ k : Nat, k ≤ n ∧ i = .int .i64 k ∧ wr.ownsRow w.heap.size 101 3 v k (hdCs (l.take k)) ∧ Below w.heap.size w wr) (fun _ i _ => n - (intOf i).toNat)
 case atStart => exact ⟨0, Nat.zero_le _, rfl, ⟨rfl, .inl ⟨rfl, rfl⟩⟩, Below.refl _ _⟩
 case round =>
  obtain ⟨k, hk, rfl, ho, hb⟩ := hrel
  obtain ⟨a1, c1, rfl, hc1, hm1⟩ := owned_form ho
  have HO := LH ho
  have HB := LH hb
  clear ho hb
  by_cases hlt : k < n
  ·have hlt' : (k : Int) < (n : Int) := by omega
   have hkl : k < l.length := by rw [HN.out]; exact hlt
   have HA := hdCs_at l k hkl
   have HS : Hid (hdCs (l.take (k + 1)) = hdCs (l.take k) ++ (l.getD k default).cs) := LH (by
    rw [List.take_succ_eq_append_getElem hkl, hdCs_append]; simp [hdCs, hkl])
   generalize l.getD k default = hd at *
   obtain ⟨hk', hcl, hln⟩ := hd
   obtain ⟨b, off, rfl, hcs⟩ : ∃ b off, a = some ⟨b, off, none⟩ ∧ ∀ i v, (hdCs l)[i]? = some v → wr.cell? ⟨b, off + i, none⟩ = some v := by
    rcases HC.out.below HB.out (Nat.le_refl _) with h | ⟨b, off, rfl, h⟩
    ·have := congrArg List.length h
     rw [hdCs_length] at this
     simp only [List.length_nil] at this
     omega
    ·exact ⟨b, off, rfl, h⟩
   have d0 : wr.cell? ⟨b, off + k * 3, none⟩ = some (.int .i64 hk') := hcs _ _ (HA 0 _ rfl)
   have d1 : wr.cell? ⟨b, off + k * 3 + 1, none⟩ = some (.int .i64 hcl) := hcs _ _ (HA 1 _ rfl)
   have d2 : wr.cell? ⟨b, off + k * 3 + 2, none⟩ = some (.int .i64 hln) := hcs _ _ (HA 2 _ rfl)
   clear HA hcs
   go_wp2_with fail
   refine (ref_any ⟨hk', hcl, hln⟩ _).mono ?_
   rintro e w1 ⟨rfl, hb1⟩
   unfold Hd.val
   dsimp only
   have HB1 := LH (HB.out.trans (hb1.mono HB.out.size))
   have HO1 := LH (owned_below HO.out hb1 (Nat.le_refl _))
   have hone : Hid (∀ u ∈ (#[Value.int .i64 hk', Value.int .i64 hcl, Value.int .i64 hln] : Array Value).toList, u.oneCell' = true) := LH (by intro u hu; simp at hu; rcases hu with rfl | rfl | rfl <;> rfl)
   have hbase : Hid (w.heap.size ≤ w1.heap.size) := LH HB1.out.size
   have hk9 : k < 1000000000000 := by omega
   clear hb1 d0 d1 d2
   go_wp2_with (at_builtin; refine wpList_append_new (us := #[.int .i64 hk', .int .i64 hcl, .int .i64 hln]) elRh HO1.out rfl hone.out hk9 (by decide) hbase.out rfl rfl rfl (by simp [Act.eval]) ?_; intro g6 c6 w6 ho6 hg6 hc6 hm6 hb6 hl6; have HO6 := LH ho6; have HG6 := LH hg6; clear ho6 hg6)
   refine ⟨⟨k + 1, by omega, vint (by omega), ?_, below_grownBy HB1.out HO1.out HG6.out (Nat.le_refl _) (Nat.le_refl _)⟩, by simp [intOf]; omega⟩
   rw [HS.out]
   exact HO6.out
  ·obtain rfl : k = n := by omega
   have hlt' : decide ((k : Int) < (k : Int)) = false := by simp
   go_wp2_with fail
   go_ret
   refine ⟨_, rfl, ?_, HB.out⟩
   have := HO.out
   rwa [List.take_of_length_le (by rw [HN.out]; exact Nat.le_refl _)] at this
theorem fsRh : (Tryz.prog.fieldsOf 101) = #[{ name := "Kind", type := 3, offset := 0, embedded := false, tag := "", pkgPath := "", byteOffset := 0 },
        { name := "Class", type := 3, offset := 1, embedded := false, tag := "", pkgPath := "", byteOffset := 8 },
        { name := "Len", type := 3, offset := 2, embedded := false, tag := "", pkgPath := "", byteOffset := 16 }] := by kernel_rfl
theorem usRh : Tryz.prog.underlying 101 = some (.struct (Tryz.prog.fieldsOf 101)) := by kernel_rfl
theorem ssRh : Tryz.prog.stoodInHeld 101 = false := by kernel_rfl
theorem gsRh : Tryz.prog.eqGuardType Tryz.prog.depth 101 = false := by kernel_rfl
theorem equalRh (w : World) (a b c a' b' c' : Int) (r : Bool) (hr : r = ((a == a') && (b == b') && (c == c'))) : (Op.equalIn 10000 101 (.agg #[.int .i64 a, .int .i64 b, .int .i64 c]) (.agg #[.int .i64 a', .int .i64 b', .int .i64 c'])).run Tryz.prog w = .ok r w := by
 rw [hr, show (10000 : Nat) = 9999 + 1 from rfl, run_equalIn_agg w 9999 101 _ _ usRh ssRh, fsRh]
 by_cases h1 : a = a' <;> by_cases h2 : b = b' <;> by_cases h3 : c = c' <;> simp [Op.eqFields, go_sem, h1, h2, h3, Tryz.underlying3, part]
theorem fsBh : (Tryz.prog.fieldsOf 103) = #[{ name := "Kind", type := 3, offset := 0, embedded := false, tag := "", pkgPath := "", byteOffset := 0 },
        { name := "Class", type := 3, offset := 1, embedded := false, tag := "", pkgPath := "", byteOffset := 8 },
        { name := "Len", type := 3, offset := 2, embedded := false, tag := "", pkgPath := "", byteOffset := 16 }] := by kernel_rfl
theorem usBh : Tryz.prog.underlying 103 = some (.struct (Tryz.prog.fieldsOf 103)) := by kernel_rfl
theorem ssBh : Tryz.prog.stoodInHeld 103 = false := by kernel_rfl
theorem gsBh : Tryz.prog.eqGuardType Tryz.prog.depth 103 = false := by kernel_rfl
theorem equalBh (w : World) (a b c a' b' c' : Int) (r : Bool) (hr : r = ((a == a') && (b == b') && (c == c'))) : (Op.equalIn 10000 103 (.agg #[.int .i64 a, .int .i64 b, .int .i64 c]) (.agg #[.int .i64 a', .int .i64 b', .int .i64 c'])).run Tryz.prog w = .ok r w := by
 rw [hr, show (10000 : Nat) = 9999 + 1 from rfl, run_equalIn_agg w 9999 103 _ _ usBh ssBh, fsBh]
 by_cases h1 : a = a' <;> by_cases h2 : b = b' <;> by_cases h3 : c = c' <;> simp [Op.eqFields, go_sem, h1, h2, h3, Tryz.underlying3, part]
theorem hd_beq (k c n k' c' n' : Int) : decide ((⟨k, c, n⟩ : Hd) = ⟨k', c', n'⟩) = ((k == k') && (c == c') && (n == n')) := by
 rw [Bool.eq_iff_iff]; simp [Hd.mk.injEq, and_assoc]
theorem hd_cells {w : World} {a : Option Addr} {l : List Hd} (h : Cells w a (hdCs l)) {j : Nat} (hj : j < l.length) {k c n : Int} (he : l.getD j default = ⟨k, c, n⟩) :
  ∃ b off, a = some ⟨b, off, none⟩ ∧ w.cell? ⟨b, off + j * 3, none⟩ = some (.int .i64 k) ∧ w.cell? ⟨b, off + j * 3 + 1, none⟩ = some (.int .i64 c) ∧ w.cell? ⟨b, off + j * 3 + 2, none⟩ = some (.int .i64 n) := by
 have HA := hdCs_at l j hj
 rw [he] at HA
 rcases h with h | ⟨b, off, rfl, h⟩
 ·have := congrArg List.length h
  rw [hdCs_length] at this
  simp only [List.length_nil] at this
  omega
 ·exact ⟨b, off, rfl, h _ _ (HA 0 _ rfl), h _ _ (HA 1 _ rfl), h _ _ (HA 2 _ rfl)⟩
theorem take_eq_succ {l m : List Hd} {k : Nat} (h1 : k < l.length) (h2 : k < m.length) (h : l.take k = m.take k) (he : l.getD k default = m.getD k default) : l.take (k + 1) = m.take (k + 1) := by
 rw [List.take_succ_eq_append_getElem h1, List.take_succ_eq_append_getElem h2, h]
 simp [h1, h2] at he
 rw [he]
def sameHd (l m : List Hd) : Bool := decide (l = m)
set_option maxHeartbeats 1000000 in
set_option maxRecDepth 20000 in
theorem rsame_any (a b : Option Addr) (n m cap cap2 : Nat) (l r : List Hd) (hn : l.length = n) (hm : r.length = m) (w : World) (hc : Cells w a (hdCs l)) (hc2 : Cells w b (hdCs r)) (hl : n ≤ 1000) (hl2 : m ≤ 1000) :
  Calls Tryz.prog 24 #[.slice a n cap, .slice b m cap2] w fun e w' => e = .returned (.bool (sameHd l r)) ∧ ∃ q, w' = w.drewN q := by
 have HN := LH hn
 have HM := LH hm
 have HC := LH hc
 have HC2 := LH hc2
 by_cases hnm : n = m
 ·subst hnm
  have hne : (n != n) = false := by simp
  have hne2 : ((n : Int) != (n : Int)) = false := by simp
  clear hn hm hc hc2
  go_enter Tryz.func24, Tryz.ntmps24
  go_wp2_with fail
  go_loopw [5] (fun i wr => ∃ k : Nat, k ≤ n ∧ i = .int .i64 k ∧ l.take k = r.take k ∧ ∃ q, wr = w.drewN q) (fun i _ => n - (intOf i).toNat)
  case atStart => exact ⟨0, Nat.zero_le _, rfl, by simp, 0, rfl⟩
  case round =>
   obtain ⟨k, hk, rfl, heq, q, rfl⟩ := hrel
   have HE := LH heq
   clear heq
   by_cases hlt : k < n
   ·have hlt' : (k : Int) < (n : Int) := by omega
    have hkl : k < l.length := by rw [HN.out]; exact hlt
    have hkr : k < r.length := by rw [HM.out]; exact hlt
    obtain ⟨k1, c1, l1, e1⟩ := hdGetD l k
    obtain ⟨k2, c2, l2, e2⟩ := hdGetD r k
    obtain ⟨b1, o1, rfl, d0, d1, d2⟩ := hd_cells HC.out hkl e1
    obtain ⟨b2, o2, rfl, d3, d4, d5⟩ := hd_cells HC2.out hkr e2
    have E1 := LH e1
    have E2 := LH e2
    clear e1 e2 hkl hkr
    by_cases hq : (⟨k1, c1, l1⟩ : Hd) = ⟨k2, c2, l2⟩
    ·have heq : ∀ w', (Op.equalIn 10000 101 (.agg #[.int .i64 k1, .int .i64 c1, .int .i64 l1]) (.agg #[.int .i64 k2, .int .i64 c2, .int .i64 l2])).run Tryz.prog w' = .ok true w' := fun w' => equalRh w' _ _ _ _ _ _ _ (by rw [← hd_beq]; simp [hq])
     have hgd := gsRh
     have HQ := LH hq
     clear hq
     go_wp2_with fail
     go_quiet (fail)
     go_wp2_with fail
     refine ⟨⟨k + 1, by omega, vint (by omega), ?_, _, rfl⟩, by simp [intOf]; omega⟩
     exact take_eq_succ (by rw [HN.out]; exact hlt) (by rw [HM.out]; exact hlt) HE.out (by rw [E1.out, E2.out, HQ.out])
    ·have heq : ∀ w', (Op.equalIn 10000 101 (.agg #[.int .i64 k1, .int .i64 c1, .int .i64 l1]) (.agg #[.int .i64 k2, .int .i64 c2, .int .i64 l2])).run Tryz.prog w' = .ok false w' := fun w' => equalRh w' _ _ _ _ _ _ _ (by rw [← hd_beq]; simp [hq])
     have hgd := gsRh
     have HQ := LH hq
     clear hq
     go_wp2_with fail
     go_quiet (fail)
     go_wp2_with fail
     go_ret
     refine ⟨ret_bool (decide_eq_false (fun h => HQ.out ?_)).symm, _, World.drewN_drewN _ _ _⟩
     rw [← E1.out, ← E2.out, h]
   ·obtain rfl : k = n := by omega
    have hlt' : decide ((k : Int) < (k : Int)) = false := by simp
    go_wp2_with fail
    go_ret
    refine ⟨ret_bool (decide_eq_true ?_).symm, _, rfl⟩
    have := HE.out
    rwa [List.take_of_length_le (by rw [HN.out]; exact Nat.le_refl _), List.take_of_length_le (by rw [HM.out]; exact Nat.le_refl _)] at this
 ·have hne : (n != m) = true := by simpa using hnm
  have hne2 : ((n : Int) != (m : Int)) = true := by simp; omega
  have HH := LH hnm
  clear hnm hn hm hc hc2
  go_enter Tryz.func24, Tryz.ntmps24
  go_wp2_with fail
  go_ret
  exact ⟨ret_bool (decide_eq_false (fun h => HH.out (by rw [← HN.out, ← HM.out, h]))).symm, 0, rfl⟩
abbrev Sp := Nat × Nat
def spCs (l : List Sp) : List Value := l.flatMap fun s => [.int .i64 s.1, .int .i64 s.2]
theorem spCs_length (l : List Sp) : (spCs l).length = 2 * l.length := by
 induction l with
 | nil => rfl
 | cons h l ih => simp only [spCs, List.flatMap_cons, List.length_append, List.length_cons] at *; rw [ih]; simp; omega
theorem spCs_append (l m : List Sp) : spCs (l ++ m) = spCs l ++ spCs m := by simp [spCs]
theorem spCs_last (l : List Sp) (s n : Nat) : (spCs (l ++ [(s, n)]))[l.length * 2]? = some (.int .i64 (s : Int)) ∧ (spCs (l ++ [(s, n)]))[l.length * 2 + 1]? = some (.int .i64 (n : Int)) := by
 have hl := spCs_length l
 rw [spCs_append]
 constructor
 ·rw [List.getElem?_append_right (by omega), show l.length * 2 - (spCs l).length = 0 by omega]; rfl
 ·rw [List.getElem?_append_right (by omega), show l.length * 2 + 1 - (spCs l).length = 1 by omega]; rfl
theorem spCs_bump (l : List Sp) (s n m : Nat) : (spCs (l ++ [(s, n)])).set (l.length * 2 + 1) (.int .i64 (m : Int)) = spCs (l ++ [(s, m)]) := by
 have hl := spCs_length l
 rw [spCs_append, spCs_append, List.set_append_right _ _ (by omega), show l.length * 2 + 1 - (spCs l).length = 1 by omega]
 rfl
def bump (l : List Sp) : List Sp := match l.getLast? with
 | none => l
 | some s => l.dropLast ++ [(s.1, s.2 + 1)]
theorem bump_last (l : List Sp) (s n : Nat) : bump (l ++ [(s, n)]) = l ++ [(s, n + 1)] := by simp [bump]
theorem sp_cells {w : World} {a : Option Addr} {l : List Sp} (h : Cells w a (spCs l)) {j : Nat} (hj : j < l.length) {s n : Nat} (he : l.getD j (0, 0) = (s, n)) :
  ∃ b off, a = some ⟨b, off, none⟩ ∧ w.cell? ⟨b, off + j * 2, none⟩ = some (.int .i64 (s : Int)) ∧ w.cell? ⟨b, off + j * 2 + 1, none⟩ = some (.int .i64 (n : Int)) := by
 have e : l = (l.take j ++ [(s, n)]) ++ l.drop (j + 1) := by
  have : l[j] = (s, n) := by rw [← he]; simp [hj]
  rw [← this, ← List.take_succ_eq_append_getElem hj, List.take_append_drop]
 have hl := spCs_last (l.take j) s n
 have hjl : (l.take j).length = j := by simp; omega
 rw [hjl] at hl
 have hlen := spCs_length (l.take j ++ [(s, n)])
 simp [hjl] at hlen
 rcases h with h | ⟨b, off, rfl, h⟩
 ·have := congrArg List.length h
  rw [spCs_length] at this
  simp only [List.length_nil] at this
  omega
 ·refine ⟨b, off, rfl, h (j * 2) _ ?_, h (j * 2 + 1) _ ?_⟩
  ·rw [e, spCs_append, List.getElem?_append_left (by simp [spCs_length]; omega)]; exact hl.1
  ·rw [e, spCs_append, List.getElem?_append_left (by simp [spCs_length]; omega)]; exact hl.2
def spanL (ks : Nat → Bool) : Nat → List Sp
 | 0 => []
 | b + 1 => if b = 0 ∨ ks b = false then spanL ks b else if 1 < b ∧ ks (b - 1) = true then bump (spanL ks b) else spanL ks b ++ [(b, 1)]
theorem spanL_last (ks : Nat → Bool) (b : Nat) (hb : 1 ≤ b) : if 1 < b ∧ ks (b - 1) = true then ∃ l s n, spanL ks b = l ++ [(s, n)] ∧ s + n = b ∧ l.length < b else (spanL ks b = [] ∨ ∃ l s n, spanL ks b = l ++ [(s, n)] ∧ s + n < b ∧ l.length < b) := by
 induction b with
 | zero => omega
 | succ b ih =>
  by_cases h0 : b = 0
  ·subst h0; rw [if_neg (by omega)]; left; rfl
  have ih := ih (by omega)
  rw [Nat.add_sub_cancel]
  by_cases hk : ks b = true
  ·rw [if_pos ⟨by omega, hk⟩]
   by_cases hp : 1 < b ∧ ks (b - 1) = true
   ·rw [if_pos hp] at ih
    obtain ⟨l, s, n, h1, h2, h3⟩ := ih
    refine ⟨l, s, n + 1, ?_, by omega, by omega⟩
    rw [spanL, if_neg (by simp [h0, hk]), if_pos hp, h1, bump_last]
   ·rw [if_neg hp] at ih
    refine ⟨spanL ks b, b, 1, ?_, rfl, ?_⟩
    ·rw [spanL, if_neg (by simp [h0, hk]), if_neg hp]
    ·rcases ih with h | ⟨l, s, n, h1, h2, h3⟩
     ·rw [h]; simp
     ·rw [h1]; simp; omega
  ·have hk' : ks b = false := by simpa using hk
   rw [if_neg (by simp [hk'])]
   have he : spanL ks (b + 1) = spanL ks b := by rw [spanL, if_pos (.inr hk')]
   rw [he]
   split at ih
   ·obtain ⟨l, s, n, h1, h2, h3⟩ := ih
    exact .inr ⟨l, s, n, h1, by omega, by omega⟩
   ·rcases ih with h | ⟨l, s, n, h1, h2, h3⟩
    ·exact .inl h
    ·exact .inr ⟨l, s, n, h1, by omega, by omega⟩
theorem spanL_len (ks : Nat → Bool) (b : Nat) : (spanL ks b).length ≤ b := by
 induction b with
 | zero => simp [spanL]
 | succ b ih =>
  unfold spanL
  split
  ·omega
  ·split
   ·unfold bump
    split
    ·omega
    ·simp; omega
   ·simp; omega
def freeAt (l : List Hd) (b : Nat) : Bool := (l.getD b default).k == 0
def spansOf (l : List Hd) : List Sp := spanL (freeAt l) l.length
theorem elBs : Elem Tryz.prog 283 286 (.agg #[.int .i64 0, .int .i64 0]) 2 16 := Elem.mk' Tryz.underlying283 (by kernel_rfl) rfl (by decide)
def SpansPost (t : Nat) (l : List Sp) (w : World) : Ending → World → Prop := fun e w' => ∃ v, e = .returned v ∧ w'.ownsRow w.heap.size t 2 v l.length (spCs l) ∧ Below w.heap.size w w'
theorem span_round (ks : Nat → Bool) (b : Nat) (hb : 1 ≤ b) :
  (ks b = false ∧ spanL ks (b + 1) = spanL ks b) ∨
  (ks b = true ∧ 1 < b ∧ ks (b - 1) = true ∧ ∃ l s n, spanL ks b = l ++ [(s, n)] ∧ s + n = b ∧ spanL ks (b + 1) = l ++ [(s, n + 1)]) ∨
  (ks b = true ∧ ¬ (1 < b ∧ ks (b - 1) = true) ∧ spanL ks b = [] ∧ spanL ks (b + 1) = [(b, 1)]) ∨
  (ks b = true ∧ ¬ (1 < b ∧ ks (b - 1) = true) ∧ ∃ l s n, spanL ks b = l ++ [(s, n)] ∧ s + n < b ∧ spanL ks (b + 1) = l ++ [(s, n)] ++ [(b, 1)]) := by
 have h := spanL_last ks b hb
 by_cases hk : ks b = true
 ·by_cases hp : 1 < b ∧ ks (b - 1) = true
  ·rw [if_pos hp] at h
   obtain ⟨l, s, n, h1, h2, h3⟩ := h
   exact .inr (.inl ⟨hk, hp.1, hp.2, l, s, n, h1, h2, by rw [spanL, if_neg (by simp [hk]; omega), if_pos hp, h1, bump_last]⟩)
  ·rw [if_neg hp] at h
   have e : spanL ks (b + 1) = spanL ks b ++ [(b, 1)] := by rw [spanL, if_neg (by simp [hk]; omega), if_neg hp]
   rcases h with h | ⟨l, s, n, h1, h2, h3⟩
   ·exact .inr (.inr (.inl ⟨hk, hp, h, by rw [e, h]; rfl⟩))
   ·exact .inr (.inr (.inr ⟨hk, hp, l, s, n, h1, h2, by rw [e, h1]⟩))
 ·have hk' : ks b = false := by simpa using hk
  exact .inl ⟨hk', by rw [spanL, if_pos (.inr hk')]⟩
theorem hd_kind {w : World} {a : Option Addr} {l : List Hd} (h : Cells w a (hdCs l)) {j : Nat} (hj : j < l.length) :
  ∃ b off, a = some ⟨b, off, none⟩ ∧ ∃ k, freeAt l j = (k == 0) ∧ w.cell? ⟨b, off + j * 3, none⟩ = some (.int .i64 k) := by
 obtain ⟨k, c, n, he⟩ := hdGetD l j
 obtain ⟨b, off, rfl, h0, _, _⟩ := hd_cells h hj he
 exact ⟨b, off, rfl, k, by unfold freeAt; rw [he], h0⟩
set_option maxHeartbeats 2000000 in
set_option maxRecDepth 20000 in
theorem bspans_any (a : Option Addr) (n cap : Nat) (l : List Hd) (hn : l.length = n) (w : World) (hc : Cells w a (hdCs l)) (hl : n ≤ 1000) :
  Calls Tryz.prog 278 #[.slice a n cap] w (SpansPost 286 (spansOf l) w) := by
 have HN := LH hn
 have HC := LH hc
 generalize hP : SpansPost 286 (spansOf l) w = Post
 have HP := LH hP
 clear hn hc hP
 go_enter Tryz.func278, Tryz.ntmps278
 go_wp2_with fail
 go_loopw [3, 4] (fun v i wr => ∃ b : Nat, 1 ≤ b ∧ (b ≤ n ∨ b = 1) ∧ i = .int .i64 b ∧ wr.ownsRow w.heap.size 286 2 v (spanL (freeAt l) b).length (spCs (spanL (freeAt l) b)) ∧ Below w.heap.size w wr) (fun _ i _ => n - (intOf i).toNat)
 case atStart => exact ⟨1, Nat.le_refl _, .inr rfl, rfl, ⟨rfl, .inl ⟨rfl, rfl⟩⟩, Below.refl _ _⟩
 case round =>
  obtain ⟨b, hb1, hbn, rfl, ho, hb⟩ := hrel
  by_cases hlt : b < n
  ·have hlt' : (b : Int) < (n : Int) := by omega
   have HB := LH hb
   obtain ⟨bl, off, rfl, kd, hfk, d0⟩ := hd_kind (HC.out.below hb (Nat.le_refl _)) (j := b) (by rw [HN.out]; exact hlt)
   have hr := span_round (freeAt l) b hb1
   rw [hfk] at hr
   have HLb := LH (spanL_len (freeAt l) b)
   clear hfk hbn hb
   rcases hr with ⟨hk, hs⟩ | ⟨hk, h1b, hk2, pl, s, m, hs1, hs2, hs3⟩ | ⟨hk, hp, hs1, hs3⟩ | ⟨hk, hp, pl, s, m, hs1, hs2, hs3⟩
   ·have hk1 : (kd != 0) = true := by simpa using hk
    obtain ⟨a1, c1, rfl, hc1, hm1⟩ := owned_form ho
    have HO : Hid (wr.ownsRow w.heap.size 286 2 (.slice a1 (spanL (freeAt l) b).length c1) (spanL (freeAt l) (b + 1)).length (spCs (spanL (freeAt l) (b + 1)))) := LH (by rw [hs]; exact ho)
    clear ho hs hk HLb
    go_wp2_with fail
    exact ⟨⟨b + 1, by omega, by omega, vint (by omega), HO.out, HB.out⟩, by simp [intOf]; omega⟩
   ·have hk1 : (kd != 0) = false := by simpa using hk
    rw [hs1] at ho
    obtain ⟨L, hL⟩ : ∃ L, L = pl.length := ⟨_, rfl⟩
    rw [show (pl ++ [(s, m)]).length = L + 1 by simp [hL]] at ho
    obtain ⟨g, c1, rfl, hc1, hm1, hg1, hg2⟩ := owned_some ho (by omega)
    have hr := owned_row ho
    have hla := spCs_last pl s m
    rw [← hL] at hla
    have e0 : wr.cell? ⟨g, L * 2, none⟩ = some (.int .i64 (s : Int)) := hr.cell hla.1
    have e1 : wr.cell? ⟨g, L * 2 + 1, none⟩ = some (.int .i64 (m : Int)) := hr.cell hla.2
    have f1 : wr.frozen? ⟨g, L * 2 + 1, none⟩ = false := hr.frozen _
    have hsm : ((s : Int) + (m : Int) == (b : Int)) = true := by simp; omega
    have HL := LH hL
    have HS3 := LH hs3
    have HO1 := LH ho
    have hsb : (s : Int) ≤ 1000 := by omega
    have hmb : (m : Int) ≤ 1000 := by omega
    have hLb : L < 1000 := by have := HLb.out; rw [hs1] at this; simp [← hL] at this; omega
    clear ho hs1 hs2 hs3 hL hla hr hk hk2 HLb
    have hw1 : IntKind.i64.wrap (L : Int) = L := IntWalk.i64_in _ (by omega)
    have hw2 : IntKind.i64.wrap ((s : Int) + (m : Int)) = s + m := IntWalk.i64_in _ (by omega)
    go_wp2_with fail
    go_quiet (fail)
    clear hw1 hw2
    have HO2 : Hid ((wr.drewN nq).ownsRow w.heap.size 286 2 (.slice (some ⟨g, 0, none⟩) (L + 1) c1) (L + 1) (spCs (pl ++ [(s, m)]))) := LH HO1.out
    go_wp2_with fail
    refine ⟨⟨b + 1, by omega, by omega, vint (by omega), ?_, ?_⟩, by simp [intOf]; omega⟩
    ·rw [HS3.out, ← show ((m + 1 : Nat) : Int) = (m : Int) + 1 from rfl, ← spCs_bump pl s m (m + 1), show (pl ++ [(s, m + 1)] : List Sp).length = L + 1 by simp [HL.out], ← HL.out]
     exact (HO2.out.stored (L * 2 + 1) _).1
    ·exact below_grownBy (below_drewN HB.out _) HO2.out (HO2.out.stored (L * 2 + 1) _).2 (Nat.le_refl _) (Nat.le_refl _)
   ·have hk1 : (kd != 0) = false := by simpa using hk
    rw [hs1] at ho
    obtain ⟨a1, c1, rfl, hc1, hm1⟩ := owned_form ho
    have HO := LH ho
    have HS3 := LH hs3
    have hone : Hid (∀ u ∈ (#[Value.int .i64 (b : Int), Value.int .i64 1] : Array Value).toList, u.oneCell' = true) := LH (by intro u hu; simp at hu; rcases hu with rfl | rfl <;> rfl)
    clear ho hs1 hs3 hk hp HLb
    go_wp2_with fail
    go_quiet (fail)
    have HO1 : Hid ((wr.drewN nq).ownsRow w.heap.size 286 2 (.slice a1 0 c1) 0 []) := LH HO.out
    have hbase : Hid (w.heap.size ≤ (wr.drewN nq).heap.size) := LH HB.out.size
    go_wp2_with (at_builtin; refine wpList_append_new (us := #[.int .i64 (b : Int), .int .i64 1]) elBs HO1.out rfl hone.out (by omega) (by decide) hbase.out rfl rfl rfl (by simp [Act.eval]) ?_; intro g6 c6 w6 ho6 hg6 hc6 hm6 hb6 hl6; have HO6 := LH ho6; have HG6 := LH hg6; clear ho6 hg6)
    refine ⟨⟨b + 1, by omega, by omega, vint (by omega), ?_, below_grownBy (below_drewN HB.out _) HO1.out HG6.out (Nat.le_refl _) (Nat.le_refl _)⟩, by simp [intOf]; omega⟩
    rw [HS3.out]
    exact HO6.out
   ·have hk1 : (kd != 0) = false := by simpa using hk
    rw [hs1] at ho
    obtain ⟨L, hL⟩ : ∃ L, L = pl.length := ⟨_, rfl⟩
    rw [show (pl ++ [(s, m)]).length = L + 1 by simp [hL]] at ho
    obtain ⟨g, c1, rfl, hc1, hm1, hg1, hg2⟩ := owned_some ho (by omega)
    have hr := owned_row ho
    have hla := spCs_last pl s m
    rw [← hL] at hla
    have e0 : wr.cell? ⟨g, L * 2, none⟩ = some (.int .i64 (s : Int)) := hr.cell hla.1
    have e1 : wr.cell? ⟨g, L * 2 + 1, none⟩ = some (.int .i64 (m : Int)) := hr.cell hla.2
    have hsm : ((s : Int) + (m : Int) == (b : Int)) = false := by simp; omega
    have HL := LH hL
    have HS3 := LH hs3
    have HO := LH ho
    have hsb : (s : Int) ≤ 1000 := by omega
    have hmb : (m : Int) ≤ 1000 := by omega
    have hone : Hid (∀ u ∈ (#[Value.int .i64 (b : Int), Value.int .i64 1] : Array Value).toList, u.oneCell' = true) := LH (by intro u hu; simp at hu; rcases hu with rfl | rfl <;> rfl)
    have hLb : L < 1000 := by have := HLb.out; rw [hs1] at this; simp [← hL] at this; omega
    have hL9 : L + 1 < 1000000000000 := by omega
    clear ho hs1 hs2 hs3 hL hla hr hk hp HLb
    have hw1 : IntKind.i64.wrap (L : Int) = L := IntWalk.i64_in _ (by omega)
    have hw2 : IntKind.i64.wrap ((s : Int) + (m : Int)) = s + m := IntWalk.i64_in _ (by omega)
    go_wp2_with fail
    go_quiet (fail)
    clear hw1 hw2
    have HO1 : Hid ((wr.drewN nq).ownsRow w.heap.size 286 2 (.slice (some ⟨g, 0, none⟩) (L + 1) c1) (L + 1) (spCs (pl ++ [(s, m)]))) := LH HO.out
    have hbase : Hid (w.heap.size ≤ (wr.drewN nq).heap.size) := LH HB.out.size
    go_wp2_with (at_builtin; refine wpList_append_new (us := #[.int .i64 (b : Int), .int .i64 1]) elBs HO1.out rfl hone.out hL9 (by decide) hbase.out rfl rfl rfl (by simp [Act.eval]) ?_; intro g6 c6 w6 ho6 hg6 hc6 hm6 hb6 hl6; have HO6 := LH ho6; have HG6 := LH hg6; clear ho6 hg6)
    refine ⟨⟨b + 1, by omega, by omega, vint (by omega), ?_, below_grownBy (below_drewN HB.out _) HO1.out HG6.out (Nat.le_refl _) (Nat.le_refl _)⟩, by simp [intOf]; omega⟩
    rw [HS3.out, spCs_append, show (pl ++ [(s, m)] ++ [(b, 1)] : List Sp).length = L + 1 + 1 by simp [HL.out]]
    exact HO6.out
  ·have hlt' : decide (b < n) = false := by simp; omega
   have hlt2 : n ≤ b := by omega
   obtain ⟨a1, c1, rfl, hc1, hm1⟩ := owned_form ho
   have HE : Hid (spansOf l = spanL (freeAt l) b) := LH (by
    unfold spansOf; rw [HN.out]
    rcases hbn with h | h
    ·rw [show n = b by omega]
    ·by_cases h0 : n = 0
     ·rw [h0, h]; rfl
     ·rw [show n = b by omega])
   have HO := LH ho
   have HB := LH hb
   clear ho hb
   go_wp2_with fail
   rw [← HP.out]
   refine ⟨_, rfl, ?_, HB.out⟩
   rw [HE.out]
   exact HO.out
theorem dec_enc (b k c l : Int) (h : hdRight k c l = true) : decN b (encN b k c l) = ⟨k, c, l, 0⟩ := by
 have hr : HdRight k c l := by simpa [hdRight] using h
 obtain ⟨n, hn⟩ : ∃ n, n = hdN k c l := ⟨_, rfl⟩
 have hn2 : (n : Int) = k + 4 * c + 256 * l := by rw [hn]; unfold hdN; unfold HdRight at hr; omega
 have hlt : n < 4294967296 := by unfold HdRight at hr; omega
 have he : encN b k c l = sealN n (pl (256 + b)) := by unfold encN; rw [if_pos h, hn]
 have hm : sealN n (pl (256 + b)) % 4294967296 = n := by
  unfold sealN
  rw [Nat.mul_comm, Nat.mul_add_mod, Nat.mod_eq_of_lt hlt]
 have ho : openN (encN b k c l) (pl (256 + b)) = some n := by
  unfold openN; rw [he, hm, if_pos rfl]
 have e1 : ((n % 4 : Nat) : Int) = k := by unfold HdRight at hr; omega
 have e2 : ((n / 4 % 64 : Nat) : Int) = c := by unfold HdRight at hr; omega
 have e3 : ((n / 256 % 65536 : Nat) : Int) = l := by unfold HdRight at hr; omega
 rw [decN_some ho]
 unfold decS
 rw [e1, e2, e3, if_pos rfl, if_pos h]
def Dev.live (S : Dev) : Prop := S.dead = false ∧ S.armed = false
theorem Dev.live.stop {S : Dev} (h : S.live) : S.stop = false := by unfold Dev.stop; rw [h.1, h.2]; rfl
theorem Dev.live.step {S : Dev} (h : S.live) : S.step.live := by unfold Dev.step; rw [h.stop]; exact h
theorem Dev.live.store {S : Dev} (h : S.live) (i : Int) (x : Nat) : (S.store i x).live := by
 unfold Dev.store
 split
 ·exact h
 ·rw [h.stop]; exact h.step
theorem Dev.live.store_ok {S : Dev} (h : S.live) (i : Nat) (x : Nat) (hi : i < S.cache.length) : S.storeE i = 0 ∧ (S.store i x).cache = S.cache.set i x := by
 constructor
 ·unfold Dev.storeE; rw [if_neg (by omega), h.stop]; rfl
 ·unfold Dev.store; rw [if_neg (by omega), h.stop]
  simp only [Bool.false_eq_true, if_false, Dev.put, (Dev.step_rest S).2.1, Int.toNat_natCast]
theorem Dev.store_okN {S : Dev} {N : Nat} (h : S.ok N) (i : Int) (x : Nat) : (S.store i x).ok (N + 1) := by
 unfold Dev.store
 split
 ·exact h.mono (by omega)
 ·split
  ·exact Dev.step_ok h
  ·exact (Dev.step_ok h : S.step.ok (N + 1))
def Dev.fmtTo (S : Dev) : Nat → Dev
 | 0 => S
 | k + 1 => if k = 0 then S else (S.fmtTo k).store ((256 + k : Nat) : Int) (encN k 0 0 0)
theorem fmtTo_props {S : Dev} (h : S.live) {N : Nat} (ho : S.ok N) (k : Nat) (hk : 256 + k ≤ S.cache.length) : (S.fmtTo k).live ∧ (S.fmtTo k).ok (N + k) ∧ (S.fmtTo k).cache.length = S.cache.length ∧ (S.fmtTo k).dirty.length = S.dirty.length ∧ (∀ b, 1 ≤ b → b < k → (S.fmtTo k).cache.getD (256 + b) 0 = encN b 0 0 0) := by
 induction k with
 | zero => exact ⟨h, ho, rfl, rfl, fun b h1 h2 => by omega⟩
 | succ k ih =>
  obtain ⟨i1, i2, i3, i5, i4⟩ := ih (by omega)
  unfold Dev.fmtTo
  split
  ·exact ⟨h, ho.mono (by omega), rfl, rfl, fun b h1 h2 => by omega⟩
  ·have hs := i1.store_ok (256 + k) (encN k 0 0 0) (by omega)
   refine ⟨i1.store _ _, Dev.store_okN i2 _ _, by rw [hs.2, List.length_set, i3], ?_, fun b h1 h2 => ?_⟩
   ·rw [← i5]
    unfold Dev.store
    split
    ·rfl
    ·split
     ·rw [(Dev.step_rest _).2.2.2.1]
     ·simp [Dev.put, (Dev.step_rest _).2.2.2.1]
   ·rw [hs.2]
    by_cases e : b = k
    ·subst e; rw [List.getD_eq_getElem?_getD, List.getElem?_set_self (by omega)]; rfl
    ·rw [List.getD_eq_getElem?_getD, List.getElem?_set_ne (by omega), ← List.getD_eq_getElem?_getD]
     exact i4 b h1 (by omega)
theorem Dev.live.flush {S : Dev} (h : S.live) (j : Int) : (S.flush j).live := by
 unfold Dev.flush
 split
 ·exact h
 ·rw [h.stop]
  simp only [Bool.false_eq_true, if_false]
  unfold Dev.hold
  split
  ·exact h.step
  ·exact h.step
theorem Dev.live.flushE {S : Dev} (h : S.live) (j : Nat) (hj : j < S.dirty.length) : S.flushE j = 0 := by unfold Dev.flushE; rw [if_neg (by omega), h.stop]; rfl
theorem Dev.live.flushRun {S : Dev} (h : S.live) (a : Nat) : ∀ m, a + m ≤ S.dirty.length → (S.flushRun a m).err = 0 ∧ (S.flushRun a m).dev.live ∧ (S.flushRun a m).dev.cache = S.cache ∧ (S.flushRun a m).dev.dirty = S.dirty := by
 intro m
 induction m with
 | zero => intro _; exact ⟨rfl, h, rfl, rfl⟩
 | succ m ih =>
  intro hm
  obtain ⟨i1, i2, i3, i4⟩ := ih (by omega)
  unfold Dev.flushRun
  rw [if_neg (by rw [i1]; simp)]
  refine ⟨i2.flushE _ (by rw [i4]; omega), i2.flush _, ?_, ?_⟩
  ·exact (Dev.flush_len _ _).1.trans i3
  ·exact (Dev.flush_len _ _).2.trans i4
theorem Dev.live.persist {S : Dev} (h : S.live) (p n : Nat) (hn : 0 < n) (hd : S.cache.length = 8 * S.dirty.length) (hp : p + n ≤ S.cache.length) : (S.persist p n).err = 0 ∧ (S.persist p n).dev.cache = S.cache := by
 unfold Dev.persist
 rw [if_neg (by omega), if_pos (by omega)]
 unfold Dev.persistN
 obtain ⟨i1, i2, i3, i4⟩ := h.flushRun ((p : Int) / 8).toNat (((p : Int) + (n : Int) - 1) / 8 - (p : Int) / 8 + 1).toNat (by omega)
 rw [if_neg (by rw [i1]; simp)]
 constructor
 ·show Dev.fenceE _ = 0
  unfold Dev.fenceE; rw [i2.stop]; rfl
 ·show (Dev.fence _).cache = _
  unfold Dev.fence; rw [i2.stop]
  simp only [Bool.false_eq_true, if_false]
  rw [(fenceTo_len _ _).2.1, (Dev.step_rest _).2.1, i3]
def Dev.fmt (S : Dev) (B : Nat) : Dev := ((S.fmtTo B).persist 257 ((B : Int) - 1)).dev
set_option maxHeartbeats 2000000 in
set_option maxRecDepth 100000 in
theorem format_any {w : World} {F : Foot} {S : Dev} (h : DevAt w F S) (hv : S.live) (ho : S.ok 100) (B : Nat) (hB2 : 2 ≤ B) (hB : B ≤ 1000) (hlen : 256 + B ≤ S.cache.length) :
  Calls Tryz.prog 112 #[vdev F, vgeom B] w fun e w' => e = .returned (.int .i64 0) ∧ DevAt w' F (S.fmt B) ∧ Touch F.list w w' := by
 have hbx := below_alloc w (.cells #[.int .i64 (B : Int)] 44)
 have hcx : (w.alloc (.cells #[.int .i64 (B : Int)] 44)).cell? ⟨w.heap.size, 0, none⟩ = some (.int .i64 (B : Int)) := cell_alloc_new _ _ _ 0 _ rfl
 have HD := LH (h.below hbx)
 have HT : Hid (Touch F.list w (w.alloc (.cells #[.int .i64 (B : Int)] 44))) := LH (Touch.ofBelow hbx)
 have HF : Hid (∀ k ∈ F.list, k < w.heap.size) := LH h.mem
 have HP := LH (fun k hk => fmtTo_props hv ho k (Nat.le_trans (show 256 + k ≤ 256 + B by exact Nat.add_le_add_left hk _) hlen))
 have HL := LH h.lenD
 clear h hbx hv ho
 go_enter Tryz.func112, Tryz.ntmps112
 go_wp2_with fail
 go_loopw [5] (fun i wr => ∃ b : Nat, 1 ≤ b ∧ b ≤ B ∧ i = .int .i64 b ∧ DevAt wr F (S.fmtTo b) ∧ Touch F.list w wr ∧ wr.cell? ⟨w.heap.size, 0, none⟩ = some (.int .i64 (B : Int))) (fun i _ => B - (intOf i).toNat)
 case atStart => exact ⟨1, Nat.le_refl _, by omega, rfl, HD.out, HT.out, hcx⟩
 case round =>
  obtain ⟨b, hb1, hb2, rfl, hd, ht, hc⟩ := hrel
  have HDr := LH hd
  have HTr := LH ht
  clear hd ht hcx
  by_cases hlt : b < B
  ·have hlt' : (b : Int) < (B : Int) := by omega
   go_wp2_with fail
   refine (gheader_any _ _ _ (by omega)).mono ?_
   rintro e w1 ⟨rfl, hb1'⟩
   have HH : Hid (hdAt (B : Int) (b : Int) = 256 + (b : Int)) := LH (by unfold hdAt; rw [if_neg (by omega)])
   rw [HH.out]
   have hc1 := below_cells hb1' hc (Nat.le_refl _)
   have HD1 := LH (HDr.out.below hb1')
   have HT1 : Hid (Touch F.list w w1) := LH (HTr.out.trans (Touch.ofBelow hb1'))
   clear hb1' hc HDr HTr
   go_wp2_with fail
   refine (bencode_any (b : Int) 0 0 0 (by omega) (by omega) _).mono ?_
   rintro e w2 ⟨rfl, hb2'⟩
   have hc2 := below_cells hb2' hc1 (Nat.le_refl _)
   have HD2 := LH (HD1.out.below hb2')
   have HT2 : Hid (Touch F.list w w2) := LH (HT1.out.trans (Touch.ofBelow hb2'))
   clear hb2' hc1 HD1 HT1
   go_wp2_with fail
   refine (store_any HD2.out (N := 100 + b) (by omega) (HP.out b hb2).2.1 _ _ (encN_lt _ _ _ _)).mono ?_
   rintro e w3 ⟨rfl, hd3, ht3⟩
   have HE : Hid ((S.fmtTo b).storeE (256 + (b : Int)) = 0) := LH ((HP.out b hb2).1.store_ok (256 + b) 0 (by rw [(HP.out b hb2).2.2.1]; omega)).1
   rw [HE.out]
   have hc3 : w3.cell? ⟨w.heap.size, 0, none⟩ = some (.int .i64 (B : Int)) := cell_of_touch ht3 (fun hm => by have := HF.out _ hm; simp at this) hc2
   have HD3 : Hid (DevAt w3 F (S.fmtTo (b + 1))) := LH (by unfold Dev.fmtTo; rw [if_neg (by omega)]; exact hd3)
   have HT3 : Hid (Touch F.list w w3) := LH (HT2.out.trans ht3)
   clear hd3 ht3 hc2 HD2 HT2
   go_wp2_with fail
   exact ⟨⟨b + 1, by omega, by omega, vint (by omega), HD3.out, HT3.out, hc3⟩, by simp [intOf]; omega⟩
  ·obtain rfl : b = B := by omega
   have hlt' : decide ((b : Int) < (b : Int)) = false := by simp
   have hw1 : IntKind.i64.wrap ((b : Int) - 1) = (b : Int) - 1 := IntWalk.i64_in _ (by omega)
   go_wp2_with fail
   have hcl : ∀ x : Later wr, x.val.cell? ⟨w.heap.size, 0, none⟩ = some (.int .i64 (b : Int)) := fun x => later_cell hc x
   refine wp_region_later_tail 6 ?hn ?hm ?hB ?_
   case hn => exact Nat.le_of_ble_eq_true rfl
   case hm => kernel_rfl
   case hB => kernel_rfl
   simp only [List.take_succ_cons, List.take_zero, List.drop_succ_cons, List.drop_zero]
   repeat (quiet_step ((rename_i x; exact calls_later (gheader_any _ _ _ (by omega)))))
   refine wpQuiet_nil ?_
   rintro w5 ⟨x, hx5⟩
   have hd5 := HDr.out.below x.below
   have ht5 : Touch F.list w x.val := HTr.out.trans (Touch.ofBelow x.below)
   rw [← hx5] at hd5 ht5
   have HD5 := LH hd5
   have HT5 := LH ht5
   have HH : Hid (hdAt (b : Int) 1 = 257) := LH (by unfold hdAt; rw [if_neg (by omega)]; rfl)
   rw [HH.out]
   clear hx5 x HDr HTr hd5 ht5 hw1
   have HQ : Hid (((S.fmtTo b).persist 257 ((b : Int) - 1)).err = 0) := LH (by
    have := ((HP.out b (Nat.le_refl _)).1.persist 257 (b - 1) (by omega) (by rw [(HP.out b (Nat.le_refl _)).2.2.1, (HP.out b (Nat.le_refl _)).2.2.2.1]; exact HL.out) (by rw [(HP.out b (Nat.le_refl _)).2.2.1]; omega)).1
    rw [show ((b - 1 : Nat) : Int) = (b : Int) - 1 by omega] at this
    exact this)
   go_wp2_with fail
   refine (persist_any HD5.out (N := 100 + b) (by omega) (HP.out b (Nat.le_refl _)).2.1 _ _ (by omega) (by omega)).mono ?_
   rintro e w6 ⟨rfl, hd6, ht6⟩
   rw [HQ.out]
   have HD6 := LH hd6
   have HT6 : Hid (Touch F.list w w6) := LH (HT5.out.trans ht6)
   clear hd6 ht6
   go_wp2_with fail
   go_ret
   exact ⟨rfl, HD6.out, HT6.out⟩
structure TabG (w : World) (p g c : Nat) (F : Foot) (B : Nat) (l : List Hd) : Prop where
 head : w.heap[p]? = some (.cells #[vdev F, .int .i64 (B : Int), .slice (some ⟨g, 0, none⟩) B c] 223 (0, 0))
 len : l.length = B
 cap : B ≤ c
 row : RowAt w g 103 (hdCs l)
theorem TabG.at {w : World} {p g c B : Nat} {F : Foot} {l : List Hd} (h : TabG w p g c F B l) (hne : p ≠ g) : TabAt w p F B l := ⟨g, c, by rw [h.len]; exact h.head, by rw [h.len]; exact h.cap, h.row, hne⟩
theorem TabG.keep {w w' : World} {p g c B : Nat} {F : Foot} {l : List Hd} (h : TabG w p g c F B l) (h1 : w'.heap[p]? = w.heap[p]?) (h2 : w'.heap[g]? = w.heap[g]?) : TabG w' p g c F B l :=
 ⟨h1.trans h.head, h.len, h.cap, h.row.keep h2⟩
theorem TabG.lt {w : World} {p g c B : Nat} {F : Foot} {l : List Hd} (h : TabG w p g c F B l) : p < w.heap.size ∧ g < w.heap.size := ⟨(Array.getElem?_eq_some_iff.1 h.head).1, h.row.lt⟩
def OpenPostG (f : Nat → Nat) (F : Foot) (B : Nat) (w : World) : Ending → World → Prop := fun en w' => Below w.heap.size w w' ∧
  ((AllOk f B ∧ ∃ p g c, en = .returned (.tuple #[.pointer (some ⟨p, 0, none⟩), .int .i64 0]) ∧ w.heap.size ≤ p ∧ w.heap.size ≤ g ∧ p ≠ g ∧ TabG w' p g c F B (hds f B)) ∨
   (∃ b : Nat, 1 ≤ b ∧ b < B ∧ AllOk f b ∧ (decN b (f b)).code ≠ 0 ∧ en = .returned (.tuple #[.pointer none, .int .i64 21])))
set_option maxHeartbeats 1000000 in
set_option maxRecDepth 100000 in
theorem open_tabG {w : World} {F : Foot} {S : Dev} (h : DevAt w F S) (B : Nat) (hB1 : 1 ≤ B) (hB : B ≤ 1000) :
  Calls Tryz.prog 207 #[vdev F, vgeom B] w (OpenPostG (devWord S) F B w) := by
 have hbx := below_alloc w (.cells #[.int .i64 (B : Int)] 44)
 have HD := LH (h.below hbx)
 have HB := LH hbx
 have hcx : (w.alloc (.cells #[.int .i64 (B : Int)] 44)).cell? ⟨w.heap.size, 0, none⟩ = some (.int .i64 (B : Int)) := cell_alloc_new _ _ _ 0 _ rfl
 generalize hP : OpenPostG (devWord S) F B w = Post
 have HPE := LH hP
 clear h hP hbx
 go_enter Tryz.func207, Tryz.ntmps207
 go_wp2_with fail
 refine (read_any HD.out B hB1 hB).mono ?_
 rintro e w1 ⟨hb1, ⟨hok, g, c, rfl, hg, hgc, hr⟩ | ⟨b, hb0, hbB, hok, hbad, rfl⟩⟩
 ·have hcx1 : w1.cell? ⟨w.heap.size, 0, none⟩ = some (.int .i64 (B : Int)) := below_cells hb1 hcx (Nat.le_refl _)
  have HB1 := LH (HB.out.trans (hb1.mono HB.out.size))
  have HOK := LH hok
  have HR := LH hr
  have hgl := hr.lt
  clear hcx hok hr hb1 HD
  go_wp2_with fail
  rw [← HPE.out]
  refine ⟨HB1.out.alloc HB1.out.size _, .inl ⟨HOK.out, w1.heap.size, g, c, rfl, HB1.out.size, by simp at hg; omega, by omega, ⟨?_, hds_length _ _, hgc, HR.out.keep (Below.heap_alloc _ _ _ hgl)⟩⟩⟩
  rw [heap_alloc_new]
 ·have HB1 := LH (HB.out.trans (hb1.mono HB.out.size))
  have HOK := LH hok
  have HBad := LH hbad
  clear hok hbad hb1 HD
  go_wp2_with fail
  rw [← HPE.out]
  exact ⟨HB1.out, .inr ⟨b, hb0, hbB, HOK.out, HBad.out, rfl⟩⟩
def allRight (l : List Hd) (k : Nat) : Prop := ∀ i, i < k → hdRight (l.getD i default).k (l.getD i default).c (l.getD i default).l = true
instance (l : List Hd) (k : Nat) : Decidable (allRight l k) := Nat.decidableBallLT k _
end Go.Proofs.YtpopbfagliagnaaGreat
namespace Go.Proofs.YtpopbfagliagnaaGreat
def IsRun (f : Nat → Bool) (s n : Nat) : Prop :=
 1 ≤ n ∧ (∀ b, s ≤ b → b < s + n → f b = true) ∧ (∀ b, b + 1 = s → f b = false) ∧ f (s + n) = false
theorem IsRun.meet {f : Nat → Bool} {s n s' n' b : Nat} (h : IsRun f s n) (h' : IsRun f s' n') (h1 : s ≤ b) (h2 : b < s + n) (h3 : s' ≤ b) (h4 : b < s' + n') : s = s' ∧ n = n' := by
 obtain ⟨hn, ha, hb, hc⟩ := h
 obtain ⟨hn', ha', hb', hc'⟩ := h'
 have es : s = s' := by
  rcases Nat.lt_trichotomy s s' with hlt | he | hlt
  ·have x := hb' (s' - 1) (by omega)
   have y := ha (s' - 1) (by omega) (by omega)
   rw [x] at y; cases y
  ·exact he
  ·have x := hb (s - 1) (by omega)
   have y := ha' (s - 1) (by omega) (by omega)
   rw [x] at y; cases y
 subst es
 refine ⟨rfl, ?_⟩
 rcases Nat.lt_trichotomy n n' with hlt | he | hlt
 ·have y := ha' (s + n) (by omega) (by omega)
  rw [hc] at y; cases y
 ·exact he
 ·have y := ha (s + n') (by omega) (by omega)
  rw [hc'] at y; cases y
theorem IsRun.one {f : Nat → Bool} {s n n' : Nat} (h : IsRun f s n) (h' : IsRun f s n') : n = n' :=
 (h.meet h' (b := s) (Nat.le_refl _) (by have := h.1; omega) (Nat.le_refl _) (by have := h'.1; omega)).2
theorem IsRun.back {f : Nat → Bool} {s n s' n' : Nat} (h : IsRun f s n) (h' : IsRun f s' n') (he : s + n = s' + n') : s = s' ∧ n = n' :=
 h.meet h' (b := s + n - 1) (by have := h.1; omega) (by have := h.1; omega) (by have := h'.1; omega) (by have := h'.1; omega)
theorem run_start (f : Nat → Bool) : ∀ b, f b = true → ∃ s, s ≤ b ∧ (∀ x, s ≤ x → x ≤ b → f x = true) ∧ ∀ x, x + 1 = s → f x = false
 | 0, h => ⟨0, Nat.le_refl _, fun x _ hx => by rw [show x = 0 by omega]; exact h, fun x hx => by omega⟩
 | b + 1, h => by
  cases hb : f b with
  | false => exact ⟨b + 1, Nat.le_refl _, fun x h1 h2 => by rw [show x = b + 1 by omega]; exact h, fun x hx => by rw [show x = b by omega]; exact hb⟩
  | true =>
   obtain ⟨s, h1, h2, h3⟩ := run_start f b hb
   refine ⟨s, by omega, fun x hx hx' => ?_, h3⟩
   by_cases hxe : x = b + 1
   ·rw [hxe]; exact h
   ·exact h2 x hx (by omega)
theorem run_end (f : Nat → Bool) (L : Nat) (hL : f L = false) : ∀ k b, b + k = L → f b = true → ∃ e, b < e ∧ (∀ x, b ≤ x → x < e → f x = true) ∧ f e = false
 | 0, b, hb, h => by rw [show b = L by omega, hL] at h; cases h
 | k + 1, b, hb, h => by
  cases hn : f (b + 1) with
  | false => exact ⟨b + 1, by omega, fun x h1 h2 => by rw [show x = b by omega]; exact h, hn⟩
  | true =>
   obtain ⟨e, h1, h2, h3⟩ := run_end f L hL k (b + 1) (by omega) hn
   refine ⟨e, by omega, fun x hx hx' => ?_, h3⟩
   by_cases hxe : x = b
   ·rw [hxe]; exact h
   ·exact h2 x (by omega) hx'
theorem has_run {f : Nat → Bool} {L b : Nat} (hL : ∀ x, L ≤ x → f x = false) (h : f b = true) : ∃ s n, IsRun f s n ∧ s ≤ b ∧ b < s + n := by
 have hb : b < L := by
  rcases Nat.lt_or_ge b L with h1 | h1
  ·exact h1
  ·rw [hL b h1] at h; cases h
 obtain ⟨s, h1, h2, h3⟩ := run_start f b h
 obtain ⟨e, h4, h5, h6⟩ := run_end f L (hL L (Nat.le_refl _)) (L - b) b (by omega) h
 refine ⟨s, e - s, ⟨by omega, fun x hx hx' => ?_, h3, by rw [show s + (e - s) = e by omega]; exact h6⟩, h1, by omega⟩
 rcases Nat.lt_or_ge b x with hbx | hbx
 ·exact h5 x (by omega) (by omega)
 ·exact h2 x hx hbx
theorem give_run {f f' : Nat → Bool} {a m s0 e0 : Nat} (hm : 1 ≤ m) (h0 : ∀ b, a ≤ b → b < a + m → f b = false)
  (hin : ∀ b, a ≤ b → b < a + m → f' b = true) (hout : ∀ b, b < a ∨ a + m ≤ b → f' b = f b)
  (hs : s0 = a ∧ (∀ b, b + 1 = a → f b = false) ∨ s0 < a ∧ IsRun f s0 (a - s0))
  (he : e0 = a + m ∧ f (a + m) = false ∨ a + m < e0 ∧ IsRun f (a + m) (e0 - (a + m))) (s n : Nat) :
  IsRun f' s n ↔ (s = s0 ∧ n = e0 - s0) ∨ (IsRun f s n ∧ s + n ≠ a ∧ s ≠ a + m) := by
 have hs0 : s0 ≤ a := by rcases hs with ⟨h, _⟩ | ⟨h, _⟩ <;> omega
 have he0 : a + m ≤ e0 := by rcases he with ⟨h, _⟩ | ⟨h, _⟩ <;> omega
 have hfe : f e0 = false := by
  rcases he with ⟨h, h'⟩ | ⟨h, _, _, _, h'⟩
  ·rw [h]; exact h'
  ·rw [show e0 = a + m + (e0 - (a + m)) by omega]; exact h'
 have hfs : ∀ b, b + 1 = s0 → f b = false := by
  rcases hs with ⟨h, h'⟩ | ⟨h, _, _, h', _⟩
  ·rw [h]; exact h'
  ·exact h'
 have hnew : IsRun f' s0 (e0 - s0) := by
  refine ⟨by omega, fun b h1 h2 => ?_, fun b hb => by rw [hout b (by omega)]; exact hfs b hb, by rw [show s0 + (e0 - s0) = e0 by omega, hout e0 (by omega)]; exact hfe⟩
  rcases Nat.lt_or_ge b a with h3 | h3
  ·rw [hout b (by omega)]
   rcases hs with ⟨h, _⟩ | ⟨h, _, h', _⟩
   ·omega
   ·exact h' b h1 (by omega)
  ·rcases Nat.lt_or_ge b (a + m) with h4 | h4
   ·exact hin b h3 h4
   ·rw [hout b (by omega)]
    rcases he with ⟨h, _⟩ | ⟨h, _, h', _⟩
    ·omega
    ·exact h' b h4 (by omega)
 have hold : ∀ s n, IsRun f s n → s + n ≤ a ∨ a + m ≤ s := by
  intro s n ⟨h1, h2, _, _⟩
  rcases Nat.lt_or_ge a (s + n) with h5 | h5
  ·rcases Nat.lt_or_ge s (a + m) with h6 | h6
   ·by_cases h7 : a ≤ s
    ·have := h2 s (Nat.le_refl _) (by omega); rw [h0 s h7 h6] at this; cases this
    ·have := h2 a (by omega) h5; rw [h0 a (Nat.le_refl _) (by omega)] at this; cases this
   ·exact .inr h6
  ·exact .inl h5
 constructor
 ·intro h
  by_cases hc : s < e0 ∧ s0 < s + n
  ·left
   have hb : ∃ b, s ≤ b ∧ b < s + n ∧ s0 ≤ b ∧ b < s0 + (e0 - s0) := by
    have := h.1
    by_cases hx : s0 ≤ s
    ·exact ⟨s, by omega, by omega, hx, by omega⟩
    ·exact ⟨s0, by omega, by omega, by omega, by omega⟩
   obtain ⟨b, h1, h2, h3, h4⟩ := hb
   exact h.meet hnew h1 h2 h3 h4
  ·right
   obtain ⟨h1, h2, h3, h4⟩ := h
   have hne : s ≠ e0 := by
    rintro rfl
    have := h2 _ (Nat.le_refl _) (by omega); rw [hout _ (by omega), hfe] at this; cases this
   have hne' : s + n ≠ s0 := by
    intro e
    have := h2 (s0 - 1) (by omega) (by omega); rw [hout _ (by omega), hfs (s0 - 1) (by omega)] at this; cases this
   have hfar : e0 < s ∨ s + n < s0 := by omega
   refine ⟨⟨h1, fun b hb hb' => by rw [← hout b (by omega)]; exact h2 b hb hb', fun b hb => by rw [← hout b (by omega)]; exact h3 b hb, by rw [← hout _ (by omega)]; exact h4⟩, by omega, by omega⟩
 ·rintro (⟨rfl, rfl⟩ | ⟨h, h1, h2⟩)
  ·exact hnew
  ·have ho := hold s n h
   obtain ⟨h3, h4, h5, h6⟩ := h
   refine ⟨h3, fun b hb hb' => by rw [hout b (by omega)]; exact h4 b hb hb', fun b hb => by rw [hout b (by omega)]; exact h5 b hb, ?_⟩
   rw [hout _ (by omega)]; exact h6
def cutAt (f : Nat → Bool) (L b : Nat) : Bool := decide (b < L) && f b
def runsTo (f : Nat → Bool) : Nat → List (Nat × Nat)
 | 0 => []
 | b + 1 => if f b then
   if 0 < b ∧ f (b - 1) = true then
    match (runsTo f b).getLast? with
    | none => []
    | some x => (runsTo f b).dropLast ++ [(x.1, x.2 + 1)]
   else runsTo f b ++ [(b, 1)]
  else runsTo f b
def Rising (l : List (Nat × Nat)) : Prop := l.Pairwise fun x y => x.1 < y.1
structure IsRuns (f : Nat → Bool) (l : List (Nat × Nat)) : Prop where
 rising : Rising l
 mem : ∀ s n, (s, n) ∈ l ↔ IsRun f s n
theorem isRuns_congr {f g : Nat → Bool} {l : List (Nat × Nat)} (h : IsRuns f l) (hfg : ∀ b, f b = g b) : IsRuns g l := by
 have : f = g := funext hfg
 rw [← this]; exact h
theorem runsTo_step {f f' : Nat → Bool} {l : List (Nat × Nat)} {L : Nat} (h : IsRuns f l) (h0 : ∀ b, L ≤ b → f b = false)
  (hin : f' L = true) (hout : ∀ b, b ≠ L → f' b = f b) :
  IsRuns f' (if 0 < L ∧ f (L - 1) = true then
    match l.getLast? with
    | none => []
    | some x => l.dropLast ++ [(x.1, x.2 + 1)]
   else l ++ [(L, 1)]) := by
 have hlt : ∀ s n, (s, n) ∈ l → s < L := by
  intro s n hm
  have hr := (h.mem s n).1 hm
  rcases Nat.lt_or_ge s L with h1 | h1
  ·exact h1
  ·have := hr.2.1 s (Nat.le_refl _) (by have := hr.1; omega); rw [h0 s h1] at this; cases this
 split
 ·rename_i hc
  obtain ⟨s0, n0, hr0, hs0, he0⟩ := has_run h0 hc.2
  have hend : s0 + n0 = L := by
   rcases Nat.lt_or_ge L (s0 + n0) with h1 | h1
   ·have := hr0.2.1 L (by omega) h1; rw [h0 L (Nat.le_refl _)] at this; cases this
   ·omega
  have hm0 := (h.mem s0 n0).2 hr0
  obtain ⟨q, x, hq⟩ : ∃ q x, l = q ++ [x] := by
   rcases List.eq_nil_or_concat l with e | ⟨q, x, e⟩
   ·rw [e] at hm0; exact absurd hm0 (by simp)
   ·exact ⟨q, x, by rw [e]; simp⟩
  have hx : x = (s0, n0) := by
   rw [hq] at hm0
   rcases List.mem_append.1 hm0 with h1 | h1
   ·exfalso
    have hp := h.rising
    unfold Rising at hp
    rw [hq] at hp
    have h2 : s0 < x.1 := (List.pairwise_append.1 hp).2.2 _ h1 x (by simp)
    have hxm : (x.1, x.2) ∈ l := by rw [hq]; simp
    have h3 := hlt _ _ hxm
    have hrx := (h.mem _ _).1 hxm
    have := hrx.1
    have := (hr0.meet hrx (b := x.1) (by omega) (by omega) (Nat.le_refl _) (by omega)).1
    omega
   ·exact (List.mem_singleton.1 h1).symm
  subst hx
  have hG := fun s n => give_run (f := f) (f' := f') (a := L) (m := 1) (s0 := s0) (e0 := L + 1) (Nat.le_refl _) (fun b h1 _ => h0 b h1)
   (fun b h1 h2 => by rw [show b = L by omega]; exact hin) (fun b hb => hout b (by omega)) (.inr ⟨by omega, by rw [show L - s0 = n0 by omega]; exact hr0⟩) (.inl ⟨rfl, h0 _ (by omega)⟩) s n
  rw [hq, List.getLast?_concat]
  simp only [List.dropLast_concat]
  have hp := h.rising
  unfold Rising at hp
  rw [hq] at hp
  constructor
  ·exact List.pairwise_append.2 ⟨(List.pairwise_append.1 hp).1, by simp, fun y hy z hz => by
    rw [List.mem_singleton.1 hz]; exact (List.pairwise_append.1 hp).2.2 y hy (s0, n0) (by simp)⟩
  ·intro s n
   rw [hG s n]
   constructor
   ·intro hm
    rcases List.mem_append.1 hm with h1 | h1
    ·right
     have hr := (h.mem s n).1 (by rw [hq]; simp [h1])
     have h2 : s < s0 := (List.pairwise_append.1 hp).2.2 _ h1 (s0, n0) (by simp)
     refine ⟨hr, ?_, by omega⟩
     intro e
     have := (hr.back hr0 (by omega)).1
     omega
    ·left
     have := List.mem_singleton.1 h1
     injection this with e1 e2
     omega
   ·rintro (⟨rfl, rfl⟩ | ⟨hr, h1, _⟩)
    ·exact List.mem_append.2 (.inr (by rw [show L + 1 - s = n0 + 1 by omega]; simp))
    ·have hm := (h.mem s n).2 hr
     rw [hq] at hm
     rcases List.mem_append.1 hm with h2 | h2
     ·exact List.mem_append.2 (.inl h2)
     ·have := List.mem_singleton.1 h2
      injection this with e1 e2
      omega
 ·rename_i hc
  have hfl : ∀ b, b + 1 = L → f b = false := by
   intro b hb
   cases hv : f b with
   | false => rfl
   | true => exact absurd ⟨by omega, by rw [show L - 1 = b by omega]; exact hv⟩ hc
  have hG := fun s n => give_run (f := f) (f' := f') (a := L) (m := 1) (s0 := L) (e0 := L + 1) (Nat.le_refl _) (fun b h1 _ => h0 b h1)
   (fun b h1 h2 => by rw [show b = L by omega]; exact hin) (fun b hb => hout b (by omega)) (.inl ⟨rfl, hfl⟩) (.inl ⟨rfl, h0 _ (by omega)⟩) s n
  constructor
  ·exact List.pairwise_append.2 ⟨h.rising, by simp, fun y hy z hz => by
    rw [List.mem_singleton.1 hz]; exact hlt y.1 y.2 hy⟩
  ·intro s n
   rw [hG s n]
   constructor
   ·intro hm
    rcases List.mem_append.1 hm with h1 | h1
    ·right
     have hr := (h.mem s n).1 h1
     refine ⟨hr, ?_, by have := hlt s n h1; omega⟩
     intro e
     have hn := hr.1
     have := hr.2.1 (L - 1) (by omega) (by omega)
     rw [hfl (L - 1) (by omega)] at this; cases this
    ·left
     have := List.mem_singleton.1 h1
     injection this with e1 e2
     omega
   ·rintro (⟨rfl, rfl⟩ | ⟨hr, _, _⟩)
    ·exact List.mem_append.2 (.inr (by rw [show s + 1 - s = 1 by omega]; simp))
    ·exact List.mem_append.2 (.inl ((h.mem s n).2 hr))
theorem runsTo_is (f : Nat → Bool) : ∀ L, IsRuns (cutAt f L) (runsTo f L)
 | 0 => ⟨List.Pairwise.nil, fun s n => ⟨fun h => absurd h (by simp [runsTo]), fun h => by
   have := h.2.1 s (Nat.le_refl _) (by have := h.1; omega); simp [cutAt] at this⟩⟩
 | L + 1 => by
  have ih := runsTo_is f L
  unfold runsTo
  cases hf : f L with
  | false =>
   simp only [Bool.false_eq_true, if_false]
   refine isRuns_congr ih fun b => ?_
   unfold cutAt
   by_cases hb : b < L
   ·simp [hb, Nat.lt_succ_of_lt hb]
   ·by_cases he : b = L
    ·subst he; simp [hf]
    ·rw [decide_eq_false hb, decide_eq_false (by omega)]
  | true =>
   simp only [if_true]
   have hst := runsTo_step (f' := cutAt f (L + 1)) (L := L) ih (fun b hb => by unfold cutAt; rw [decide_eq_false (by omega)]; rfl) (by unfold cutAt; simp [hf]) (fun b hb => by
    unfold cutAt
    by_cases h1 : b < L
    ·simp [h1, Nat.lt_succ_of_lt h1]
    ·rw [decide_eq_false h1, decide_eq_false (by omega)])
   have hc : (0 < L ∧ cutAt f L (L - 1) = true) ↔ (0 < L ∧ f (L - 1) = true) := by
    unfold cutAt
    constructor
    ·rintro ⟨h1, h2⟩; exact ⟨h1, by simpa [show L - 1 < L by omega] using h2⟩
    ·rintro ⟨h1, h2⟩; exact ⟨h1, by simpa [show L - 1 < L by omega] using h2⟩
   simp only [hc] at hst
   exact hst
theorem rising_ext : ∀ {l r : List (Nat × Nat)}, Rising l → Rising r → (∀ x, x ∈ l ↔ x ∈ r) → l = r
 | [], [], _, _, _ => rfl
 | [], b :: r, _, _, h => absurd ((h b).2 (by simp)) (by simp)
 | a :: l, [], _, _, h => absurd ((h a).1 (by simp)) (by simp)
 | a :: l, b :: r, hl, hr, h => by
  have hl' := List.pairwise_cons.1 hl
  have hr' := List.pairwise_cons.1 hr
  have hab : a = b := by
   rcases List.mem_cons.1 ((h a).1 (by simp)) with e | e
   ·exact e
   ·rcases List.mem_cons.1 ((h b).2 (by simp)) with e' | e'
    ·exact e'.symm
    ·have := hr'.1 a e; have := hl'.1 b e'; omega
  subst hab
  congr 1
  refine rising_ext hl'.2 hr'.2 fun x => ⟨fun hx => ?_, fun hx => ?_⟩
  ·rcases List.mem_cons.1 ((h x).1 (by simp [hx])) with e | e
   ·have := hl'.1 x hx; rw [e] at this; omega
   ·exact e
  ·rcases List.mem_cons.1 ((h x).2 (by simp [hx])) with e | e
   ·have := hr'.1 x hx; rw [e] at this; omega
   ·exact e
theorem rising_nodup {l : List (Nat × Nat)} (h : Rising l) : l.Nodup :=
 List.Pairwise.imp (fun {x y} hxy e => by rw [e] at hxy; omega) h
def sumOf (l : List (Nat × Nat)) : Nat := (l.map (·.2)).sum
theorem sum_add (l : List (Nat × Nat)) (x : Nat × Nat) : sumOf (l ++ [x]) = sumOf l + x.2 := by simp [sumOf]
def Best (n : Nat) (A : Nat → Nat → Prop) : Option (Nat × Nat) → Prop
 | none => ∀ s k, A s k → k < n
 | some x => A x.1 x.2 ∧ n ≤ x.2 ∧ ∀ s k, A s k → n ≤ k → x.2 < k ∨ (x.2 = k ∧ x.1 ≤ s)
def shorter (n : Nat) (o : Option (Nat × Nat)) (k : Nat) : Bool :=
 decide (n ≤ k) && match o with
  | none => true
  | some y => decide (k < y.2)
def pickGo (n : Nat) : Option (Nat × Nat) → List (Nat × Nat) → Option (Nat × Nat)
 | o, [] => o
 | o, x :: l => pickGo n (if shorter n o x.2 then some x else o) l
def pick (n : Nat) (l : List (Nat × Nat)) : Option (Nat × Nat) := pickGo n none l
def fb (l : List Bool) (b : Nat) : Bool := l.getD b false
theorem fb_far (l : List Bool) (b : Nat) (h : l.length ≤ b) : fb l b = false := by
 unfold fb; rw [List.getD_eq_getElem?_getD, List.getElem?_eq_none h]; rfl
def setTo (l : List Bool) (a : Nat) (v : Bool) : Nat → List Bool
 | 0 => l
 | m + 1 => (setTo l a v m).set (a + m) v
theorem setTo_length (l : List Bool) (a : Nat) (v : Bool) : ∀ m, (setTo l a v m).length = l.length
 | 0 => rfl
 | m + 1 => by rw [setTo, List.length_set, setTo_length l a v m]
theorem setTo_fb (l : List Bool) (a : Nat) (v : Bool) : ∀ m, a + m ≤ l.length → ∀ b, fb (setTo l a v m) b = if a ≤ b ∧ b < a + m then v else fb l b
 | 0, _, b => by rw [if_neg (by omega)]; rfl
 | m + 1, h, b => by
  have ih := setTo_fb l a v m (by omega) b
  unfold fb at ih ⊢
  rw [setTo, List.getD_eq_getElem?_getD, List.getElem?_set]
  by_cases hb : a + m = b
  ·rw [if_pos hb, if_pos (by rw [setTo_length]; omega), if_pos (by omega)]; rfl
  ·rw [if_neg hb, ← List.getD_eq_getElem?_getD, ih]
   by_cases h1 : a ≤ b ∧ b < a + m
   ·rw [if_pos h1, if_pos (by omega)]
   ·rw [if_neg h1, if_neg (by omega)]
def runsOf (l : List Bool) : List (Nat × Nat) := runsTo (fb l) l.length
theorem runsOf_is (l : List Bool) : IsRuns (fb l) (runsOf l) :=
 isRuns_congr (runsTo_is (fb l) l.length) fun b => by
  unfold cutAt
  by_cases h : b < l.length
  ·simp [h]
  ·rw [decide_eq_false h, fb_far l b (by omega)]; rfl
def anyFree (l : List Bool) (a : Nat) : Nat → Bool
 | 0 => false
 | m + 1 => anyFree l a m || fb l (a + m)
theorem anyFree_false {l : List Bool} {a : Nat} : ∀ {m : Nat}, anyFree l a m = false → ∀ b, a ≤ b → b < a + m → fb l b = false
 | 0, _, b, h1, h2 => by omega
 | m + 1, h, b, h1, h2 => by
  rw [anyFree, Bool.or_eq_false_iff] at h
  by_cases hb : b = a + m
  ·rw [hb]; exact h.2
  ·exact anyFree_false h.1 b h1 (by omega)
theorem anyFree_true {l : List Bool} {a : Nat} : ∀ {m : Nat}, anyFree l a m = true → ∃ b, a ≤ b ∧ b < a + m ∧ fb l b = true
 | 0, h => by cases h
 | m + 1, h => by
  rw [anyFree, Bool.or_eq_true_iff] at h
  rcases h with h | h
  ·obtain ⟨b, h1, h2, h3⟩ := anyFree_true h; exact ⟨b, h1, by omega, h3⟩
  ·exact ⟨a + m, by omega, by omega, h⟩
theorem anyFree_one {l : List Bool} {a b : Nat} : ∀ {m : Nat}, a ≤ b → b < a + m → fb l b = true → anyFree l a m = true
 | 0, h1, h2, _ => by omega
 | m + 1, h1, h2, h3 => by
  rw [anyFree, Bool.or_eq_true_iff]
  by_cases hb : b = a + m
  ·right; rw [← hb]; exact h3
  ·left; exact anyFree_one h1 (by omega) h3
def giveR (l : List Bool) (a m : Int) : List Bool × Int :=
 if a < 1 ∨ m < 1 ∨ (l.length : Int) ≤ a ∨ (l.length : Int) - a < m then (l, 1)
 else if anyFree l a.toNat m.toNat then (l, 41)
 else (setTo l a.toNat true m.toNat, 0)
theorem runEnds {l : List Bool} {s n : Nat} (h : IsRun (fb l) s n) : s + n ≤ l.length := by
 rcases Nat.lt_or_ge l.length (s + n) with h1 | h1
 ·have := h.2.1 (s + n - 1) (by have := h.1; omega) (by have := h.1; omega)
  rw [fb_far l _ (by omega)] at this; cases this
 ·exact h1
theorem give_runs {l : List Bool} {a m s0 e0 : Nat} (hm : 1 ≤ m) (ha : a + m ≤ l.length) (h0 : anyFree l a m = false)
  (hs : s0 = a ∧ (∀ b, b + 1 = a → fb l b = false) ∨ s0 < a ∧ IsRun (fb l) s0 (a - s0))
  (he : e0 = a + m ∧ fb l (a + m) = false ∨ a + m < e0 ∧ IsRun (fb l) (a + m) (e0 - (a + m))) (s n : Nat) :
  IsRun (fb (setTo l a true m)) s n ↔ (s = s0 ∧ n = e0 - s0) ∨ (IsRun (fb l) s n ∧ s + n ≠ a ∧ s ≠ a + m) :=
 give_run hm (anyFree_false h0) (fun b h1 h2 => by rw [setTo_fb l a true m ha, if_pos ⟨h1, h2⟩]) (fun b h1 => by rw [setTo_fb l a true m ha, if_neg (by omega)]) hs he s n
def MOf (l : List Bool) (M : Int → Option Int) : Prop := ∀ s c : Int, M s = some c ↔ 0 ≤ s ∧ 0 ≤ c ∧ IsRun (fb l) s.toNat c.toNat
def EOf (l : List Bool) (E : Int → Option Int) : Prop := ∀ e s : Int, E e = some s ↔ 0 ≤ s ∧ s ≤ e ∧ IsRun (fb l) s.toNat (e - s).toNat
theorem mof_nil {l : List Bool} (h : ∀ b, fb l b = false) : MOf l fun _ => none := fun s c => ⟨fun e => (by cases e), fun ⟨_, h1, hr⟩ => by
 have := hr.2.1 s.toNat (Nat.le_refl _) (by have := hr.1; omega); rw [h] at this; cases this⟩
theorem eof_nil {l : List Bool} (h : ∀ b, fb l b = false) : EOf l fun _ => none := fun e s => ⟨fun e => (by cases e), fun ⟨_, h1, hr⟩ => by
 have := hr.2.1 s.toNat (Nat.le_refl _) (by have := hr.1; omega); rw [h] at this; cases this⟩
section
variable {l : List Bool} {M E : Int → Option Int} {a m s0 e0 : Nat}
theorem give_M (hM : MOf l M) (hm : 1 ≤ m) (ha : a + m ≤ l.length) (h0 : anyFree l a m = false)
  (hs : s0 = a ∧ (∀ b, b + 1 = a → fb l b = false) ∨ s0 < a ∧ IsRun (fb l) s0 (a - s0))
  (he : e0 = a + m ∧ fb l (a + m) = false ∨ a + m < e0 ∧ IsRun (fb l) (a + m) (e0 - (a + m))) {M' : Int → Option Int}
  (hnew : M' s0 = some ((e0 : Int) - s0)) (hgone : ∀ s, s ≠ (s0 : Int) → (s = (a : Int) + m ∨ M s = some ((a : Int) - s)) → M' s = none)
  (hold : ∀ s, s ≠ (s0 : Int) → s ≠ (a : Int) + m → M s ≠ some ((a : Int) - s) → M' s = M s) : MOf (setTo l a true m) M' := by
 have hs0 : s0 ≤ a := by rcases hs with ⟨h, _⟩ | ⟨h, _⟩ <;> omega
 have he0 : a + m ≤ e0 := by rcases he with ⟨h, _⟩ | ⟨h, _⟩ <;> omega
 intro s c
 have hG := give_runs hm ha h0 hs he s.toNat c.toNat
 by_cases h1 : s = (s0 : Int)
 ·rw [h1, hnew]
  constructor
  ·intro e
   have e' : (e0 : Int) - s0 = c := by injection e
   refine ⟨by omega, by omega, ?_⟩
   rw [← h1, hG]; left; constructor <;> omega
  ·rintro ⟨_, hc, hr⟩
   rw [← h1, hG] at hr
   rcases hr with ⟨_, h2⟩ | ⟨hr, h2, h3⟩
   ·congr 1; omega
   ·exfalso
    rcases hs with ⟨e, _⟩ | ⟨hlt, hr0⟩
    ·have := hr.2.1 s.toNat (Nat.le_refl _) (by have := hr.1; omega)
     rw [anyFree_false h0 s.toNat (by omega) (by omega)] at this; cases this
    ·have := hr.one (n' := a - s0) (by rw [show s.toNat = s0 by omega]; exact hr0); omega
 ·by_cases h2 : s = (a : Int) + m ∨ M s = some ((a : Int) - s)
  ·rw [hgone s h1 h2]
   refine ⟨fun e => (by cases e), ?_⟩
   rintro ⟨hs1, hc, hr⟩
   rw [hG] at hr
   exfalso
   rcases hr with ⟨h3, _⟩ | ⟨hr, h3, h4⟩
   ·omega
   ·rcases h2 with h2 | h2
    ·omega
    ·obtain ⟨h5, h6, hr'⟩ := (hM _ _).1 h2
     have := hr.one hr'; omega
  ·rw [hold s h1 (fun e => h2 (.inl e)) (fun e => h2 (.inr e)), hM s c]
   constructor
   ·rintro ⟨h3, h4, hr⟩
    refine ⟨h3, h4, hG.2 (.inr ⟨hr, fun e => h2 (.inr ((hM _ _).2 ⟨h3, by omega, ?_⟩)), fun e => h2 (.inl (by omega))⟩)⟩
    rw [show ((a : Int) - s).toNat = c.toNat by omega]; exact hr
   ·rintro ⟨h3, h4, hr⟩
    rcases hG.1 hr with ⟨h5, _⟩ | ⟨hr', _⟩
    ·omega
    ·exact ⟨h3, h4, hr'⟩
theorem give_E (hE : EOf l E) (hm : 1 ≤ m) (ha : a + m ≤ l.length) (h0 : anyFree l a m = false)
  (hs : s0 = a ∧ (∀ b, b + 1 = a → fb l b = false) ∨ s0 < a ∧ IsRun (fb l) s0 (a - s0))
  (he : e0 = a + m ∧ fb l (a + m) = false ∨ a + m < e0 ∧ IsRun (fb l) (a + m) (e0 - (a + m))) {E' : Int → Option Int}
  (hnew : E' e0 = some (s0 : Int)) (hgone : ∀ e, e ≠ (e0 : Int) → (e = (a : Int) ∨ E e = some ((a : Int) + m)) → E' e = none)
  (hold : ∀ e, e ≠ (e0 : Int) → e ≠ (a : Int) → E e ≠ some ((a : Int) + m) → E' e = E e) : EOf (setTo l a true m) E' := by
 have hs0 : s0 ≤ a := by rcases hs with ⟨h, _⟩ | ⟨h, _⟩ <;> omega
 have he0 : a + m ≤ e0 := by rcases he with ⟨h, _⟩ | ⟨h, _⟩ <;> omega
 intro e s
 have hG := give_runs hm ha h0 hs he s.toNat (e - s).toNat
 by_cases h1 : e = (e0 : Int)
 ·rw [h1, hnew]
  constructor
  ·intro x
   have x' : (s0 : Int) = s := by injection x
   refine ⟨by omega, by omega, ?_⟩
   rw [← h1, hG]; left; constructor <;> omega
  ·rintro ⟨hs1, hc, hr⟩
   rw [← h1, hG] at hr
   rcases hr with ⟨h2, _⟩ | ⟨hr, h2, h3⟩
   ·congr 1; omega
   ·exfalso
    rcases he with ⟨x, hf⟩ | ⟨hlt, hr0⟩
    ·have hx := hr.2.1 (s.toNat + (e - s).toNat - 1) (by have := hr.1; omega) (by have := hr.1; omega)
     rw [anyFree_false h0 _ (by have := hr.1; omega) (by have := hr.1; omega)] at hx; cases hx
    ·have := (hr.back hr0 (by omega)).1; omega
 ·by_cases h2 : e = (a : Int) ∨ E e = some ((a : Int) + m)
  ·rw [hgone e h1 h2]
   refine ⟨fun x => (by cases x), ?_⟩
   rintro ⟨hs1, hc, hr⟩
   rw [hG] at hr
   exfalso
   rcases hr with ⟨h3, h4⟩ | ⟨hr, h3, h4⟩
   ·omega
   ·rcases h2 with h2 | h2
    ·omega
    ·obtain ⟨h5, h6, hr'⟩ := (hE _ _).1 h2
     have := (hr.back hr' (by omega)).1; omega
  ·rw [hold e h1 (fun x => h2 (.inl x)) (fun x => h2 (.inr x)), hE e s]
   constructor
   ·rintro ⟨h3, h4, hr⟩
    refine ⟨h3, h4, hG.2 (.inr ⟨hr, fun x => h2 (.inl (by omega)), fun x => h2 (.inr ((hE _ _).2 ⟨by omega, by omega, ?_⟩))⟩)⟩
    rw [show ((a : Int) + m).toNat = s.toNat by omega, show (e - ((a : Int) + m)).toNat = (e - s).toNat by omega]; exact hr
   ·rintro ⟨h3, h4, hr⟩
    rcases hG.1 hr with ⟨h5, h6⟩ | ⟨hr', _⟩
    ·omega
    ·exact ⟨h3, h4, hr'⟩
end
section
variable {l : List Bool} {M E : Int → Option Int} {a k m : Nat}
end
end Go.Proofs.YtpopbfagliagnaaGreat
namespace Go.Proofs.YtpopbfagliagnaaGreat
open Go.Maps Go.ChangeMaps
structure Tells (D : DataW Unit) (M : Int → Option Int) : Prop where
 isMap : IsMap D
 has : ∀ x, has D (.int .i64 x) = (M x).isSome
 val : ∀ x c, M x = some c → ∀ z, D.atKey (.int .i64 x) z = .lit (.int .i64 c)
theorem Tells.get {D : DataW Unit} {M : Int → Option Int} (h : Tells D M) (x : Int) : D.atKey (.int .i64 x) (.lit (.int .i64 0)) = .lit (.int .i64 ((M x).getD 0)) := by
 cases hm : M x with
 | none => rw [atKey_of_not_has (by rw [h.has, hm]; rfl)]; rfl
 | some c => rw [h.val x c hm]; rfl
theorem key_wf {x : Int} (_hw : (Lit.int .i64 x).wf = true) : WideAt.IsKeyLit (.int .i64 x) := by
 trivial
theorem tells_nil : Tells (.map []) fun _ => none := ⟨isMap_empty, fun _ => rfl, fun _ _ h => by cases h⟩
theorem Tells.put {D : DataW Unit} {M : Int → Option Int} (h : Tells D M) {x : Int} (hw : (Lit.int .i64 x).wf = true) (c : Int) :
  Tells (D.put (.int .i64 x) (.lit (.int .i64 c))) fun y => if y = x then some c else M y := by
 refine ⟨h.isMap.put _ _, fun y => ?_, fun y d hy z => ?_⟩
 ·by_cases e : y = x
  ·subst e; rw [has_put_same h.isMap (key_wf hw), if_pos rfl]; rfl
  ·rw [has_put_other (by simpa using e), if_neg e, h.has]
 ·by_cases e : y = x
  ·subst e; rw [if_pos rfl] at hy; cases hy; rw [atKey_put_same h.isMap (key_wf hw)]
  ·rw [if_neg e] at hy; rw [atKey_put_other (by simpa using e), h.val y d hy]
theorem Tells.del {D : DataW Unit} {M : Int → Option Int} (h : Tells D M) (x : Int) : Tells (D.del (.int .i64 x)) fun y => if y = x then none else M y := by
 refine ⟨h.isMap.del _, fun y => ?_, fun y d hy z => ?_⟩
 ·by_cases e : y = x
  ·subst e; rw [has_del_same, if_pos rfl]; rfl
  ·rw [has_del_other (by simpa using e), if_neg e, h.has]
 ·by_cases e : y = x
  ·rw [if_pos e] at hy; cases hy
  ·rw [if_neg e] at hy; rw [atKey_del_other (by simpa using e), h.val y d hy]
def IMap (P : Program) (k : TypeId) (w : World) (b n : Nat) (M : Int → Option Int) : Prop :=
 ∃ D : DataW Unit, w.ownsMap P k (plainElem P k) b n D ∧ Tells D M
section
variable {P : Program} {k t : TypeId} {w : World} {b n : Nat} {M : Int → Option Int} {ops : Array Oper} {rest : List Oper} {o : Oper} {a : Act} {Q : Exit → Act → World → Prop}
theorem IMap.kept {w' : World} {row : Option Nat} (h : IMap P k w b n M) (hg : w.grownBy w' row) (hne : some b ≠ row) : IMap P k w' b n M := by
 obtain ⟨D, ho, ht⟩ := h; exact ⟨D, ho.kept hg hne, ht⟩
theorem IMap.alloc (h : IMap P k w b n M) (ob : Obj) : IMap P k (w.alloc ob) b n M := by
 obtain ⟨D, ho, ht⟩ := h; exact ⟨D, ho.alloc ob, ht⟩
theorem IMap.mono {n' : Nat} (h : IMap P k w b n M) (hn : n ≤ n') : IMap P k w b n' M := by
 obtain ⟨D, ho, ht⟩ := h; exact ⟨D, ho.mono hn, ht⟩
theorem IMap.lt (h : IMap P k w b n M) : b < w.heap.size := by obtain ⟨D, ho, _⟩ := h; exact ho.lt
theorem IMap.made (w : World) (P : Program) (k : TypeId) : IMap P k (w.alloc (.map #[] 0)) w.heap.size 0 fun _ => none :=
 ⟨.map [], World.ownsMap_made w P k _, tells_nil⟩
theorem IMap.block (h : IMap P k w b n M) {w' : World} (he : w'.heap[b]? = w.heap[b]?) : IMap P k w' b n M := by
 obtain ⟨D, ⟨es, clock, hb, F, hs, hD⟩, ht⟩ := h; exact ⟨D, ⟨es, clock, he.trans hb, F, hs, hD⟩, ht⟩
theorem wpList_ilook_ok (hg : o.guard = none) (m x : Operand) (t : TypeId) (hop : o.op = Op.lookup t m x true)
  (k : TypeId) (hk : P.underlying k = some (.int .i64)) (ht : P.underlying t = some (.map k k)) (hz : (zeroValue k).run P w = .ok (.int .i64 0) w) (b n : Nat) (M : Int → Option Int)
  (hm : a.eval m = .map (some b)) (hown : IMap P k w b n M) (y : Int) (hx : a.eval x = .int .i64 y) (hw : (Lit.int .i64 y).wf = true)
  (hK : wpList P ops Q rest (a.put o.dst (.tuple #[.int .i64 ((M y).getD 0), .bool (M y).isSome])) w) :
  wpList P ops Q (o :: rest) a w := by
 obtain ⟨D, ho, hT⟩ := hown
 refine wpList_lookup_own_ok_int w hg m x t hop k k .i64 (int_keyed hk) ht hk hz b n D hm ho _ _ hx (keyOf_int_mk hk hw) fun c hat _ => ?_
 rw [hT.get y] at hat
 have e : (M y).getD 0 = c := by injection hat with h1; injection h1
 rw [← e, hT.has y]
 exact hK
theorem wpList_ilook (hg : o.guard = none) (m x : Operand) (t : TypeId) (hop : o.op = Op.lookup t m x false)
  (k : TypeId) (hk : P.underlying k = some (.int .i64)) (ht : P.underlying t = some (.map k k)) (hz : (zeroValue k).run P w = .ok (.int .i64 0) w) (b n : Nat) (M : Int → Option Int)
  (hm : a.eval m = .map (some b)) (hown : IMap P k w b n M) (y : Int) (hx : a.eval x = .int .i64 y) (hw : (Lit.int .i64 y).wf = true)
  (hK : wpList P ops Q rest (a.put o.dst (.int .i64 ((M y).getD 0))) w) :
  wpList P ops Q (o :: rest) a w := by
 obtain ⟨D, ho, hT⟩ := hown
 refine wpList_lookup_own_int w hg m x t hop k k .i64 (int_keyed hk) ht hk hz b n D hm ho _ _ hx (keyOf_int_mk hk hw) fun c hat _ => ?_
 rw [hT.get y] at hat
 have e : (M y).getD 0 = c := by injection hat with h1; injection h1
 rw [← e]
 exact hK
theorem wpList_idelete (hg : o.guard = none) (m x : Operand) (t k : TypeId) (hop : o.op = Op.call { callee := Callee.builtin Builtin.delete, args := #[m, x], argTypes := #[t, k] })
  (hk : P.underlying k = some (.int .i64)) (ht : P.underlying t = some (.map k k)) (b n : Nat) (M : Int → Option Int)
  (hm : a.eval m = .map (some b)) (hown : IMap P k w b n M) (y : Int) (hx : a.eval x = .int .i64 y) (hw : (Lit.int .i64 y).wf = true)
  (hK : ∀ w', IMap P k w' b n (fun z => if z = y then none else M z) → w.grownBy w' (some b) → wpList P ops Q rest (a.put o.dst (.tuple #[])) w') :
  wpList P ops Q (o :: rest) a w := by
 obtain ⟨D, ho, hT⟩ := hown
 exact wpList_delete_own w hg m x t k hop k (int_keyed hk) ht (plainElem P k) b n D hm ho _ _ hx (keyOf_int_mk hk hw) fun w' h1 h2 => hK w' ⟨_, h1, hT.del y⟩ h2.grown
def IRange (P : Program) (k : TypeId) (w : World) (b r n : Nat) (M : Int → Option Int) (L : Int → Bool) (cnt : Nat) : Prop :=
 ∃ (D : DataW Unit) (left : Lit → Bool), w.ranges P k (plainElem P k) b r n D left cnt ∧ Tells D M ∧ ∀ x, left (.int .i64 x) = L x
theorem IRange.left_eq {L : Int → Bool} {cnt r : Nat} (h : IRange P k w b r n M L cnt) : w.rangeLeft b r = cnt := by
 obtain ⟨D, left, h1, _⟩ := h; exact h1.left_eq
theorem IRange.kept {L : Int → Bool} {cnt r : Nat} {w' : World} {row : Option Nat} (h : IRange P k w b r n M L cnt) (hg : w.grownBy w' row) (h1 : some b ≠ row) (h2 : some r ≠ row) : IRange P k w' b r n M L cnt := by
 obtain ⟨D, left, h3, h4, h5⟩ := h; exact ⟨D, left, h3.kept hg h1 h2, h4, h5⟩
theorem wpList_irange (hg : o.guard = none) (m : Operand) (t : TypeId) (hop : o.op = Op.range t m) (k : TypeId) (hk : P.underlying k = some (.int .i64)) (ht : P.underlying t = some (.map k k)) (b n : Nat) (M : Int → Option Int)
  (hm : a.eval m = .map (some b)) (hown : IMap P k w b n M)
  (hK : ∀ w' cnt, IRange P k w' b w.heap.size n M (fun x => (M x).isSome) cnt → w.grownBy w' none → w'.heap.size = w.heap.size + 1 → wpList P ops Q rest (a.put o.dst (.pointer (some ⟨w.heap.size, 0, none⟩))) w') :
  wpList P ops Q (o :: rest) a w := by
 obtain ⟨D, ho, hT⟩ := hown
 exact wpList_range_own w hg m t hop k k (int_keyed hk) ht (plainElem P k) b n D hm ho fun w' h1 h2 h3 => hK w' _ ⟨D, _, h1, hT, hT.has⟩ h2 h3
theorem wpList_inext (hg : o.guard = none) (it : Operand) (hop : o.op = Op.next it false) (k : TypeId) (hk : P.underlying k = some (.int .i64))
  (b r n : Nat) (M : Int → Option Int) (L : Int → Bool) (cnt : Nat) (hit : a.eval it = .pointer (some ⟨r, 0, none⟩)) (h : IRange P k w b r n M L cnt)
  (hDone : (∀ x, L x = false) → wpList P ops Q rest (a.put o.dst (.tuple #[.bool false])) w)
  (hMore : ∀ (x c : Int) (w' : World) (cnt' : Nat), (Lit.int .i64 x).wf = true → (Lit.int .i64 c).wf = true → L x = true → M x = some c → IRange P k w' b r n M (fun z => L z && !decide (z = x)) cnt' → cnt' < cnt →
   w.grownBy w' (some r) → w'.heap.size = w.heap.size → (Instr.entry (.pointer (some ⟨r, 0, none⟩))).run P w' = .ok (.tuple #[.int .i64 x, .int .i64 c]) w' → wpList P ops Q rest (a.put o.dst (.tuple #[.bool true, .int .i64 x, .int .i64 c])) w') :
  wpList P ops Q (o :: rest) a w := by
 obtain ⟨D, left, h1, hT, hL⟩ := h
 refine wpList_next_ranges_ii w hg it hop k k .i64 .i64 (int_keyed hk) hk hk b r n D left cnt hit h1 (fun _ h0 => hDone fun x => by rw [← hL, h0]) ?_
 intro x c w' cnt' hwx hwc hlx hat hrg hlt hgr hsz hen
 have hhas : has D (.int .i64 x) = true := has_true_of_atKey hat
 rw [hT.has] at hhas
 have hM : M x = some c := by
  cases hm : M x with
  | none => rw [hm] at hhas; cases hhas
  | some c' =>
   have e := hat (.lit (.int .i64 0))
   rw [hT.val x c' hm] at e
   have : c' = c := by injection e with h1; injection h1
   rw [this]
 refine hMore x c w' cnt' hwx hwc (by rw [← hL]; exact hlx) hM ⟨D, _, hrg, hT, fun z => ?_⟩ hlt hgr hsz hen
 simp only [hL]
 congr 2
 by_cases e : z = x
 ·subst e; rw [WideAt.sameKey_self (key_wf hwx)]; simp
 ·rw [Maps.sameKey_ne (by simpa using e)]; simp [e]
end
end Go.Proofs.YtpopbfagliagnaaGreat
namespace Go.Proofs.YtpopbfagliagnaaGreat
open Go.Maps Go.ChangeMaps Go.MapKept Go.WideElems
section
variable {P : Program} {k t : TypeId} {w : World} {b n : Nat} {M : Int → Option Int}
theorem entry_store_at {es : Array MapEntry} {clock j : Nat} {e0 : MapEntry} (hb : w.heap[b]? = some (.map es clock)) (hn : (es.toList.map (·.born)).Nodup) (hj : es.toList[j]? = some e0) (val : Value) :
  (Instr.entryStore t (.map (some b)) (goInt e0.born) val).run P w = .ok () (setBlock w b (.map (es.modify j fun e => { e with val := val }) clock)) := by
 have hidx : es.findIdx? (fun e => ((e.born : Nat) : Int) == ((e0.born : Nat) : Int)) = some j := by
  rw [findIdx_arr]; exact findIdx_born hn hj
 simp [Instr.entryStore, MapKept.run_getObj_map hb, asInt, asIntOf, goInt, hidx, MapKept.run_setObj_map _ hb, Result.andThen, setBlock]
theorem imap_entry (h : IMap P k w b n M) (hk : P.underlying k = some (.int .i64)) (ht : P.underlying t = some (.map k k)) (hz : ∀ u : World, (zeroValue k).run P u = .ok (.int .i64 0) u) (hn : n < maxLen) {y : Int} (hw : (Lit.int .i64 y).wf = true) :
  ∃ (v0 : Value) (st : Nat) (es1 : Array MapEntry) (clock1 : Nat), (Instr.mapEntry t (.map (some b)) (.int .i64 y)).run P w = .ok (.tuple #[v0, goInt st]) (setBlock w b (.map es1 clock1)) ∧
   ∀ (w2 : World) (c : Int), (Lit.int .i64 c).wf = true → w2.heap[b]? = some (.map es1 clock1) → ∃ es' clock', (Instr.entryStore t (.map (some b)) (goInt st) (.int .i64 c)).run P w2 = .ok () (setBlock w2 b (.map es' clock')) ∧
    IMap P k (setBlock w2 b (.map es' clock')) b (n + 1) (fun z => if z = y then some c else M z) := by
 have K := int_keyed hk
 obtain ⟨D, ho, hT⟩ := h
 have hup : ∀ c : Int, (Lit.int .i64 c).wf = true → ∃ w', (Instr.mapUpdate t (.map (some b)) (.int .i64 y) (.int .i64 c)).run P w = .ok () w' ∧ IMap P k w' b (n + 1) (fun z => if z = y then some c else M z) := fun c hc => by
  obtain ⟨w', h1, h2, _⟩ := ho.update K ht hn (keyOf_int_mk hk hw) (plainElem_int hk hc)
  exact ⟨w', h1, _, h2, hT.put hw c⟩
 have hmove : ∀ (w2 : World) (c : Int) (es' : Array MapEntry) (clock' : Nat) (e2 : Array MapEntry) (c2 : Nat), (Lit.int .i64 c).wf = true → w2.heap[b]? = some (.map e2 c2) →
   (Instr.mapUpdate t (.map (some b)) (.int .i64 y) (.int .i64 c)).run P w = .ok () (setBlock w b (.map es' clock')) → IMap P k (setBlock w2 b (.map es' clock')) b (n + 1) (fun z => if z = y then some c else M z) := by
  intro w2 c es' clock' e2 c2 hc h2 hrun
  obtain ⟨w', h3, h4⟩ := hup c hc
  rw [hrun] at h3
  injection h3 with _ h5
  rw [← h5] at h4
  obtain ⟨es, clock, hb, _⟩ := ho
  exact h4.block ((heap_setBlock_same h2 _).trans (heap_setBlock_same hb _).symm)
 obtain ⟨es, clock, hb, F, _, _⟩ := ho
 obtain ⟨s1, s2, _⟩ := F.stamped
 have hkey := keyOf_int_mk (k := k) hk hw
 rcases K.find w hkey es.toList F.keys with ⟨h1, h2⟩ | ⟨j, e0, h1, h2, h3⟩
 ·have hlast : (es.push ⟨.int .i64 y, .int .i64 0, clock⟩).toList[es.size]? = some ⟨.int .i64 y, .int .i64 0, clock⟩ := by simp
  have hnd : ((es.push ⟨.int .i64 y, .int .i64 0, clock⟩).toList.map (·.born)).Nodup := by
   rw [Array.toList_push, List.map_append]
   refine List.nodup_append.2 ⟨s2, by simp, fun a ha c hc e => ?_⟩
   obtain ⟨x, hx, rfl⟩ := List.mem_map.1 ha
   have := s1 x hx
   simp at hc; omega
  refine ⟨.int .i64 0, clock, _, clock + 1, ?_, fun w2 c hc hw2 => ⟨_, _, entry_store_at hw2 hnd hlast _, hmove w2 c _ _ _ _ hc hw2 ?_⟩⟩
  ·simp [Instr.mapEntry, run_underlying ht, MapKept.run_getObj_map hb, K.check w false hkey, h1, hz, MapKept.run_setObj_map _ hb, Result.andThen, setBlock]
  ·have hmod : (es.push ⟨.int .i64 y, .int .i64 0, clock⟩).modify es.size (fun e => { e with val := .int .i64 c }) = es.push ⟨.int .i64 y, .int .i64 c, clock⟩ := by
    apply Array.ext'
    rw [Array.toList_modify, Array.toList_push, Array.toList_push, ← Array.length_toList, modify_last]
   rw [hmod]
   simp [Instr.mapUpdate, run_underlying ht, MapKept.run_getObj_map hb, K.check w false hkey, h1, MapKept.run_setObj_map _ hb, Result.andThen, setBlock]
 ·have hj : es[j]? = some e0 := by simpa using h2
  have hsame : es.modify j (fun e => { e with key := .int .i64 y }) = es := by
   apply Array.ext'
   rw [Array.toList_modify, modify_eq_set _ _ _ _ h2, show ({ e0 with key := .int .i64 y } : MapEntry) = e0 by rw [← h3]]
   exact set_self _ _ _ h2
  refine ⟨e0.val, e0.born, es, clock, ?_, fun w2 c hc hw2 => ⟨_, _, entry_store_at hw2 s2 h2 _, hmove w2 c _ _ _ _ hc hw2 ?_⟩⟩
  ·simp [Instr.mapEntry, run_underlying ht, MapKept.run_getObj_map hb, K.check w false hkey, h1, hj, h3, K.stays w hkey, hsame, MapKept.run_setObj_map _ hb, Result.andThen, setBlock]
  ·have hmod : es.modify j (fun e => { e with val := .int .i64 c }) = es.modify j (fun e' => { e' with key := .int .i64 y, val := .int .i64 c }) := by
    apply Array.ext'
    rw [Array.toList_modify, Array.toList_modify, modify_eq_set _ _ _ _ h2, modify_eq_set _ _ _ _ h2, ← h3]
   rw [hmod]
   simp [Instr.mapUpdate, run_underlying ht, MapKept.run_getObj_map hb, K.check w false hkey, h1, hj, h3, K.stays w hkey, MapKept.run_setObj_map _ hb, Result.andThen, setBlock]
end
end Go.Proofs.YtpopbfagliagnaaGreat
