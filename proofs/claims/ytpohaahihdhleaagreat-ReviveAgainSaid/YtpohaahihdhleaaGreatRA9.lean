/- Parts of the proof, one behind the other: Lc, Ef, Eg, Eh, Ei, Ej, Ek, El, Em, Ed, Ee, En, Eo, Ep, Eq, Er, Es, Vr, Wa, Vh, Rx. -/
import Derived.Test.YtpohaahihdhleaaGreatRA8
import Derived.Shelf.Slices.Turned
import Derived.Test.YtpohaahihdhleaaGreatProg
import Derived.Deep.Cut
import Derived.Deep.CutBlock
import Derived.Maps.RangeWalk
set_option linter.unusedVariables false
namespace Go.Proofs
open Go.Shelf
def Tryz.lays107_ren : Go.Shelf.Ren := ⟨fun | 107 => 206 | 108 => 219 | n => n, fun | 28 => 47 | 3 => 3 | 4 => 4 | 0 => 0 | n => n, fun | n => n⟩
theorem Tryz.lays107 : Go.Proofs.Lays.n107 Tryz.prog Tryz.lays107_ren := {
 mixed := by kernel_rfl
 f107 := Tryz.func206.trans (congrArg some (by kernel_rfl))
 f108 := Tryz.func219.trans (congrArg some (by kernel_rfl))
 t0 := Tryz.underlying0
 a0 := Tryz.isAgg0
 z0 := Tryz.sizeOf0
 v0 := Tryz.zeroValue0
 t3 := Tryz.underlying3
 a3 := Tryz.isAgg3
 z3 := Tryz.sizeOf3
 v3 := Tryz.zeroValue3
 t4 := Tryz.underlying4
 a4 := Tryz.isAgg4
 z4 := Tryz.sizeOf4
 v4 := Tryz.zeroValue4
 t28 := Tryz.underlying47
 a28 := Tryz.isAgg47
 z28 := Tryz.sizeOf47
 v28 := Tryz.zeroValue47 }
end Go.Proofs
namespace Go.Proofs.YtpohaahihdhleaaGreat
open Go.RowKit Go.Maps
theorem nat_contains (xs : List Nat) (a : Nat) : (xs.map fun x : Nat => (x : Int)).contains (a : Int) = xs.contains a := by
 rw [Bool.eq_iff_iff, List.contains_iff_mem, List.contains_iff_mem, List.mem_map]
 constructor
 ·rintro ⟨x, hx, e⟩
  have : x = a := by omega
  rw [← this]; exact hx
 ·intro h; exact ⟨a, h, rfl⟩
theorem contains_any {w : World} (a : Option Addr) (n c : Nat) (xs : List Nat) (hn : xs.length = n) (hc : Cells w a (xs.map vi)) (h9 : xs.length ≤ 1000000000000) (x : Nat) :
  Calls Tryz.prog 206 #[.slice a n c, .int .i64 (x : Int)] w (Same1 (.bool (xs.contains x)) w) := by
 subst hn
 cases xs with
 | nil =>
  refine (Any.slices_Contains_int_empty Tryz.lays107 a c (x : Int) w).mono ?_
  rintro e w' ⟨rfl, rfl⟩
  exact ⟨rfl, rfl⟩
 | cons y ys =>
  rcases hc with h | ⟨b, off, rfl, hc⟩
  ·cases h
  ·refine (Any.slices_Contains_int Tryz.lays107 b off (y :: ys).length c ((y :: ys).map fun x : Nat => (x : Int)) (x : Int) w (by simp) (by omega) (fun j hj => ?_)).mono ?_
   ·refine hc j _ ?_
    rw [List.length_map] at hj
    simp only [List.getElem?_map, List.getElem?_eq_getElem hj, Option.map_some, List.getD_eq_getElem?_getD, Option.getD_some]
   ·rintro e w' ⟨rfl, rfl⟩
    refine ⟨?_, rfl⟩
    rw [List.take_of_length_le (by simp), nat_contains]
theorem FreeIn.lt {w : World} {f mb n : Nat} {V : Nat → Value} {S : FL} (h : FreeIn w f mb n V S) {k : Nat} (hk : k < 32) : ((List.range 32).map V ++ [Value.map (some mb)]).toArray[k]? = some (V k) := by
 rw [List.getElem?_toArray, List.getElem?_append_left (by simpa using hk)]
 simp [hk]
theorem FreeIn.g {w : World} {f mb n : Nat} {V : Nat → Value} {S : FL} (h : FreeIn w f mb n V S) {k : Nat} (hk : k < 32) : w.cell? ⟨f, k, none⟩ = some (V k) :=
 (cell_of_row _ _ k _ _ _ h.head).trans (h.lt hk)
theorem FreeIn.m {w : World} {f mb n : Nat} {V : Nat → Value} {S : FL} (h : FreeIn w f mb n V S) : w.cell? ⟨f, 32, none⟩ = some (.map (some mb)) :=
 (cell_of_row _ _ 32 _ _ _ h.head).trans (by rw [List.getElem?_toArray, List.getElem?_append_right (by simp)]; simp)
abbrev vfree (f : Nat) : Value := .pointer (some ⟨f, 0, none⟩)
theorem zero_ints (w : World) : (zeroValue 47).run Tryz.prog w = .ok (.slice none 0 0) w := Tryz.zeroValue47 w
def FL.hasTo (S : FL) (k a : Nat) : Nat → Bool
 | 0 => (S.g k).contains a
 | i + 1 => S.hasTo k a i || (S.c i k).contains a
theorem FL.hasTo_all (S : FL) (k a : Nat) : S.hasTo k a 4 = S.has k a := rfl
theorem FL.hasTo_false {S : FL} {k a : Nat} : ∀ {i j : Nat}, S.hasTo k a i = true → i ≤ j → S.hasTo k a j = true
  | i, 0, h, hj => by obtain rfl : i = 0 := by omega
                      exact h
  | i, j + 1, h, hj => by
    by_cases e : i = j + 1
    · subst e; exact h
    · unfold FL.hasTo
      rw [FL.hasTo_false h (by omega)]; rfl
theorem wf_small (k : Nat) (h : k < 1000) : (Lit.int .i64 (k : Int)).wf = true := by
 exact WalkArith.wf_i64 (by omega)
set_option maxHeartbeats 2000000 in
set_option maxRecDepth 20000 in
theorem fhas_any {w : World} {f mb n : Nat} {R : List Nat} {S : FL} (h : FreeAt w f mb n R S) (hL : ∀ i, i < 160 → (S.at i).length ≤ 1000000) (k a : Nat) (hk : k < 32) :
  Calls Tryz.prog 186 #[vfree f, .int .i64 (k : Int), .int .i64 (a : Int)] w (Same1 (.bool (S.has k a)) w) := by
 obtain ⟨V, hi, _⟩ := h
 obtain ⟨M, hm, hv⟩ := hi.map
 have HI := LH hi
 have HM := LH hm
 have HV := LH hv
 have HL := LH hL
 have c32 := hi.m
 have ck := hi.g hk
 obtain ⟨ag, cg, eg, hcg, _, _⟩ := (hi.rows k (by omega)).cells
 rw [S.at_g hk] at eg hcg
 rw [eg] at ck
 have HCg := LH hcg
 have HLg : Hid ((S.g k).length ≤ 1000000) := LH (by have := hL k (by omega); rwa [S.at_g hk] at this)
 have HP : Hid (∀ b, b = S.has k a → Same1 (.bool (S.has k a)) w (.returned (.bool b)) w) := LH (by rintro b rfl; exact ⟨rfl, rfl⟩)
 generalize Same1 (.bool (S.has k a)) w = Post at *
 have hlen : (S.g k).length = (S.g k).length := rfl
 obtain ⟨lg, hlg⟩ : ∃ lg, lg = (S.g k).length := ⟨_, rfl⟩
 rw [← hlg] at ck
 have HLe := LH hlg
 clear hi hm hv hL eg hcg hlen hlg
 go_enter Tryz.func186, Tryz.ntmps186
 go_wp2_with fail
 refine (cright_any _ _).mono ?_
 rintro e w1 ⟨rfl, rfl⟩
 rw [decide_eq_true (show (0 : Int) ≤ (k : Int) ∧ (k : Int) < 32 by omega)]
 go_wp2_with fail
 refine (contains_any ag lg cg (S.g k) HLe.out.symm HCg.out (by have := HLg.out; omega) a).mono ?_
 rintro e w1 ⟨rfl, rfl⟩
 cases hg0 : (S.g k).contains a with
 | true =>
  have HB : Hid (true = S.has k a) := LH (by rw [← FL.hasTo_all]; exact (FL.hasTo_false (i := 0) hg0 (by omega)).symm)
  clear hg0
  go_wp2_with fail
  exact HP.out _ HB.out
 | false =>
  have H0 : Hid (S.hasTo k a 0 = false) := LH hg0
  clear hg0
  go_wp2_with fail
  go_loop [19] (fun iv => ∃ i : Nat, i ≤ 4 ∧ iv = .int .i64 (i : Int) ∧ Hid (S.hasTo k a i = false)) (fun iv => 4 - (intOf iv).toNat)
  case atStart => exact ⟨0, by omega, rfl, H0⟩
  case round =>
   clear H0
   obtain ⟨i, hi4, rfl, HT⟩ := hrel
   by_cases hlt : i < 4
   ·obtain ⟨ac, cc, ec, hcc, _, _⟩ := (HI.out.rows (slotI i k) (by unfold slotI; omega)).cells
    rw [S.at_c i hk] at ec hcc
    have hlc := HL.out (slotI i k) (by unfold slotI; omega)
    rw [S.at_c i hk] at hlc
    have HVi := HV.out i k hlt hk
    have HCc := LH hcc
    have HLc := LH hlc
    have HStep : Hid (S.hasTo k a (i + 1) = (S.hasTo k a i || (S.c i k).contains a)) := LH rfl
    rw [ec] at HVi
    have HVi := LH HVi
    obtain ⟨lc, hlcx⟩ : ∃ lc, lc = (S.c i k).length := ⟨_, rfl⟩
    rw [← hlcx] at HVi
    have HLx := LH hlcx
    clear ec hcc hlc hlcx
    have hkey := key_slot (i : Int) (k : Int) (wf_small i (by omega)) (wf_small k (by omega))
    go_wp2_with (refine wpList_vlook rfl _ _ 233 rfl 237 47 keyed_slot Tryz.underlying233 _ (zero_ints _) mb n M rfl HM.out _ _ rfl hkey ?_; rw [HVi.out])
    refine (contains_any ac lc cc (S.c i k) HLx.out.symm HCc.out (by have := HLc.out; omega) a).mono ?_
    rintro e w1 ⟨rfl, rfl⟩
    cases hc0 : (S.c i k).contains a with
    | true =>
     have HB : Hid (true = S.has k a) := LH (by rw [← FL.hasTo_all]; exact (FL.hasTo_false (i := i + 1) (by rw [HStep.out, hc0]; simp) (by omega)).symm)
     clear hc0
     go_wp2_with fail
     exact HP.out _ HB.out
    | false =>
     have HT2 : Hid (S.hasTo k a (i + 1) = false) := LH (by rw [HStep.out, hc0, HT.out]; rfl)
     clear hc0
     go_wp2_with fail
     go_round
     case rel => exact ⟨i + 1, by omega, vint (by omega), HT2⟩
     case measure => simp [intOf]; omega
   ·obtain rfl : i = 4 := by omega
    have HB : Hid (false = S.has k a) := LH (by rw [← FL.hasTo_all]; exact HT.out.symm)
    go_wp2_with fail
    exact HP.out _ HB.out
theorem grown_drew_alloc (w : World) (o : Obj) (row : Option Nat) : w.grownBy (w.drew.alloc o) row := ⟨rfl, rfl, rfl, by simp, fun k hk _ => (below_alloc w.drew o).block k hk⟩
theorem grown_self (w : World) (row : Option Nat) : w.grownBy w row := ⟨rfl, rfl, rfl, Nat.le_refl _, fun _ _ _ => rfl⟩
theorem vi_one (xs : List Nat) : ∀ u ∈ xs.map vi, u.oneCell' = true := by
 intro u hu
 obtain ⟨x, _, rfl⟩ := List.mem_map.1 hu
 rfl
theorem rowOf_new (g n c : Nat) : ∀ b, rowOf (.slice (some ⟨g, 0, none⟩) n c) = some b → b = g := by
 intro b hb
 have hb2 : (if c = 0 then none else some g) = some b := hb
 by_cases h : c = 0
 ·rw [if_pos h] at hb2; cases hb2
 ·rw [if_neg h] at hb2; cases hb2; rfl
theorem run_append_ownI {w : World} {v : Value} {xs ys : List Nat} {a : Option Addr} {m c : Nat} (ty : TypeId) (h : OwnI w v xs) (hy : Cells w a (ys.map vi)) (hm : ys.length = m) (hn : xs.length + m ≤ 1000000000000) :
  ∃ v' w', (Builtin.append_ #[47, 47] ty #[v, .slice a m c]).run Tryz.prog w = .ok v' w' ∧ OwnI w' v' (xs ++ ys) ∧ w.grownBy w' (rowOf v) ∧ ∀ b, rowOf v' = some b → rowOf v = some b ∨ b = w.heap.size := by
 obtain ⟨i, i1, i2, i3, i4⟩ := el_int.info
 have hby : (xs.length + m) * i.bytes ≤ 140737488355328 := by rw [i4]; omega
 have h63 : xs.length + m ≤ maxLen := by unfold maxLen; omega
 by_cases hm0 : m = 0
 ·have hys : ys = [] := List.length_eq_zero_iff.1 (by omega)
  subst hm0 hys
  refine ⟨v, w, ?_, by simpa using h, grown_self _ _, fun b hb => .inl hb⟩
  rcases h with h | ⟨p, rfl, rfl⟩
  ·cases a with
   | none => exact run_append_owned_none' el_int.under i1 h
   | some d =>
    rcases h.2 with ⟨rfl, h0⟩ | ⟨g, cap, cur, rfl, hb, hg, h1, h2, h3, h4⟩
    ·simp [Builtin.append_, run_underlying el_int.under, sizeOf, typeInfo, i1, Builtin.lenOf, Builtin.firstCells, loadCells, loadCellsFrom]
    ·simp [Builtin.append_, run_underlying el_int.under, sizeOf, typeInfo, i1, Builtin.lenOf, Builtin.firstCells, loadCells, loadCellsFrom, storeCells, h1]
  ·cases a with
   | none => simp [Builtin.append_, run_underlying el_int.under, sizeOf, typeInfo, i1, Builtin.lenOf, Builtin.firstCells, storeCells]
   | some d => simp [Builtin.append_, run_underlying el_int.under, sizeOf, typeInfo, i1, Builtin.lenOf, Builtin.firstCells, loadCells, loadCellsFrom, storeCells]
 ·rcases hy with h0 | ⟨b, off, rfl, hyc⟩
  ·exfalso
   have := congrArg List.length h0
   simp at this
   rw [this] at hm; simp at hm; omega
  have hyc' : ∀ j u, (ys.map vi)[j]? = some u → w.cell? ((⟨b, off, none⟩ : Addr).add j) = some u := fun j u hj => by
   rw [add_none]; exact hyc j u hj
  have hl : (ys.map vi).length = m * 1 := by simp [hm]
  have hl' : (ys.map vi).length = m * i.size := by rw [i3]; exact hl
  have nilcase := run_append_own (P := Tryz.prog) (w := w) 0 47 ty 3 i _ 1 i.bytes el_int.under i1 i2 i3 rfl el_int.cells (by decide) (.slice none 0 0) 0 [] (World.ownsRow_nil w 0 3 1) ⟨b, off, none⟩ m c (ys.map vi) hl hyc' (vi_one ys) (by unfold maxLen at h63 ⊢; omega) (by rw [i4]; omega) (Nat.zero_le _)
  have hnr := run_append_nil (P := Tryz.prog) w 47 ty 3 i _ el_int.under i1 i2 ⟨b, off, none⟩ m c (ys.map vi) hl' hyc' (by omega) (by omega) (by rw [i4]; omega)
  obtain ⟨v1, w1, r1, o1, g1, n1⟩ := nilcase
  have hv1 : v1 = .slice (some ⟨w.heap.size, 0, none⟩) m (grownCap w m 0 3) ∧ w1 = w.drew.alloc (.cells ((ys.map vi).toArray ++ Builtin.zeroCells (Value.int .i64 0).cells (grownCap w m 0 3 - m)) 3) := by
   rw [hnr] at r1
   have e := r1
   injection e with e1 e2
   exact ⟨e1.symm, e2.symm⟩
  rcases h with h | ⟨p, rfl, rfl⟩
  ·rcases h.2 with ⟨rfl, h0⟩ | ⟨g, cap, cur, rfl, hb, hg, h1, h2, h3, h4⟩
   ·have hx : xs = [] := List.length_eq_zero_iff.1 h0
    subst hx
    refine ⟨v1, w1, r1, .inl ?_, ?_, fun b' hb' => .inr ?_⟩
    ·simpa [hm] using o1
    ·rw [hv1.2]; exact grown_drew_alloc _ _ _
    ·rw [hv1.1] at hb'; exact rowOf_new _ _ _ _ hb'
   ·obtain ⟨v2, w2, r2, o2, g2, n2⟩ := run_append_own (P := Tryz.prog) (w := w) 0 47 ty 3 i _ 1 i.bytes el_int.under i1 i2 i3 rfl el_int.cells (by decide) (.slice (some ⟨g, 0, none⟩) xs.length cap) xs.length (xs.map vi) h ⟨b, off, none⟩ m c (ys.map vi) hl hyc' (vi_one ys) h63 hby (Nat.zero_le _)
    have ho2 : OwnI w2 v2 (xs ++ ys) := .inl (by rw [List.length_append, List.map_append, hm]; exact o2)
    by_cases hroom : xs.length + m ≤ cap
    ·have hr := run_append_room (P := Tryz.prog) w 47 ty 3 i el_int.under i1 g xs.length cap cur hg ⟨b, off, none⟩ m c (ys.map vi) hl' hyc' (vi_one ys) hroom (by rw [i3, List.length_map, h3, hm]; omega)
     rw [hr] at r2
     have e := r2
     injection e with e1 e2
     have hcap : cap ≠ 0 := by omega
     refine ⟨v2, w2, by rw [hr, e1, e2], ho2, ?_, fun b' hb' => .inl ?_⟩
     ·have : rowOf (.slice (some ⟨g, 0, none⟩) xs.length cap) = some g := by show (if cap = 0 then none else some g) = some g; rw [if_neg hcap]
      rw [this]; exact g2
     ·rw [← e1] at hb'
      exact hb'
    ·have hr := run_append_grow (P := Tryz.prog) w 47 ty 3 i _ el_int.under i1 i2 ⟨g, 0, none⟩ xs.length cap (xs.map vi) (by simp [i3]) (fun j u hj => by
      have hc : RowAt w g 3 (xs.map vi) := ⟨cur, hg, cur.toList.drop (xs.length * 1), by rw [← h4, List.take_append_drop]⟩
      rw [add_none, Nat.zero_add]; exact hc.cell hj) ⟨b, off, none⟩ m c (ys.map vi) hl' hyc' (by omega) (by omega) (growslice_fits (by omega) hby)
     rw [hr] at r2
     have e := r2
     injection e with e1 e2
     refine ⟨v2, w2, by rw [hr, e1, e2], ho2, ?_, fun b' hb' => .inr ?_⟩
     ·rw [← e2]; exact grown_drew_alloc _ _ _
     ·rw [← e1] at hb'; exact rowOf_new _ _ _ _ hb'
  ·have hr := run_append_grow (P := Tryz.prog) w 47 ty 3 i _ el_int.under i1 i2 p 0 0 [] (by simp) (fun j u hj => by simp at hj) ⟨b, off, none⟩ m c (ys.map vi) hl' hyc' (by omega) (by omega) (growslice_fits (by omega) (by simpa using hby))
   refine ⟨v1, w1, ?_, .inl (by simpa [hm] using o1), ?_, fun b' hb' => .inr ?_⟩
   ·rw [hr, hv1.1, hv1.2]
    simp
   ·rw [hv1.2]; exact grown_drew_alloc _ _ _
   ·rw [hv1.1] at hb'; exact rowOf_new _ _ _ _ hb'
section
variable {w : World} {ops : Array Oper} {rest : List Oper} {o : Oper} {act : Act} {Q : Exit → Act → World → Prop}
theorem wpList_append_ownI {s x : Operand} {v : Value} {xs ys : List Nat} {a : Option Addr} {m c : Nat} (h : OwnI w v xs) (hy : Cells w a (ys.map vi)) (hm : ys.length = m) (hn : xs.length + m ≤ 1000000000000)
  (hgd : o.guard = none) (ho : o.op = .call { callee := .builtin .append, args := #[s, x], argTypes := #[47, 47] })
  (hs : act.eval s = v) (hx : act.eval x = .slice a m c)
  (hK : ∀ v' w', OwnI w' v' (xs ++ ys) → w.grownBy w' (rowOf v) → (∀ b, rowOf v' = some b → rowOf v = some b ∨ b = w.heap.size) → wpList Tryz.prog ops Q rest (act.put o.dst v') w') :
  wpList Tryz.prog ops Q (o :: rest) act w := by
 obtain ⟨v', w', hr, h1, h2, h3⟩ := run_append_ownI (c := c) o.type h hy hm hn
 refine wpList_plain hgd fun K hK' => ?_
 unfold Oper.wp
 simp [execOp, ho, resolve, invoke, builtin, hs, hx, hr, Result.andThen]
 exact hK' _ _ (hK v' w' h1 h2 h3)
end
theorem OwnI.cut {w : World} {xs : List Nat} {a : Option Addr} {c : Nat} (h : OwnI w (.slice a xs.length c) xs) {n : Nat} (hn : n ≤ xs.length) : OwnI w (.slice a n c) (xs.take n) := by
 have hl : (xs.take n).length = n := by rw [List.length_take]; omega
 rcases h with h | ⟨p, h, rfl⟩
 ·rcases h.2 with ⟨e, h0⟩ | ⟨g, cap, cur, e, hb, hg, h1, h2, h3, h4⟩
  ·have hx : xs = [] := List.length_eq_zero_iff.1 h0
   subst hx
   cases e
   obtain rfl : n = 0 := by simpa using hn
   exact .inl ⟨rfl, .inl ⟨rfl, rfl⟩⟩
  ·cases e
   refine .inl ⟨by simp, .inr ⟨g, c, cur, by rw [hl], hb, hg, by rw [hl]; omega, h2, h3, ?_⟩⟩
   rw [hl, List.map_take, ← h4, List.take_take]
   congr 1; omega
 ·cases h
  obtain rfl : n = 0 := by simpa using hn
  exact .inr ⟨p, rfl, rfl⟩
theorem OwnI.cutN {w : World} {xs : List Nat} {a : Option Addr} {c l : Nat} (h : OwnI w (.slice a l c) xs) (hl : l = xs.length) {n : Nat} (hn : n ≤ l) : OwnI w (.slice a n c) (xs.take n) := by
 subst hl; exact h.cut hn
structure Step1 (w w' : World) (f mb n : Nat) (V : Nat → Value) (S S' : FL) (i : Nat) (v : Value) (xs : List Nat) : Prop where
 head : w'.heap[f]? = some (.cells ((List.range 32).map (fun j => if j = i then v else V j) ++ [Value.map (some mb)]).toArray 235 (0, 0))
 map : ∃ M, VMap Tryz.prog 237 w' mb n M ∧ ∀ m k : Nat, m < 4 → k < 32 → (M (pairKey m k)).getD (.slice none 0 0) = if slotI m k = i then v else V (slotI m k)
 own : OwnI w' v xs
 row : ∀ b, rowOf v = some b → rowOf (V i) = some b ∨ w.heap.size ≤ b
 rest : ∀ b, b < w.heap.size → b ≠ f → b ≠ mb → rowOf (V i) ≠ some b → w'.heap[b]? = w.heap[b]?
 size : w.heap.size ≤ w'.heap.size
 lists : ∀ j, j < 160 → S'.at j = if j = i then xs else S.at j
theorem FreeIn.step {w w' : World} {f mb n n' : Nat} {R : List Nat} {V : Nat → Value} {S S' : FL} {i : Nat} {v : Value} {xs : List Nat} (h : FreeIn w f mb n V S) (hi : i < 160)
  (h1 : f ∈ R) (h2 : mb ∈ R) (h3 : ∀ b ∈ R, b < w.heap.size) (h4 : ∀ j, j < 160 → ∀ b, rowOf (V j) = some b → b ∈ R) (t : Step1 w w' f mb n' V S S' i v xs) :
  FreeIn w' f mb n' (fun j => if j = i then v else V j) S' ∧ FreeAt w' f mb n' (R ++ (rowOf v).toList) S' := by
 obtain ⟨M, hm, hv⟩ := t.map
 have hfl := h3 f h1
 have hml := h3 mb h2
 have hnew : ∀ b, rowOf v = some b → b < w'.heap.size := t.own.lt
 have key : FreeIn w' f mb n' (fun j => if j = i then v else V j) S' := by
  refine ⟨t.head, ⟨M, hm, hv⟩, fun j hj => ?_, fun j k hj hk hne b hb => ?_, fun j hj => ?_, h.ne⟩
  ·rw [t.lists j hj]
   by_cases e : j = i
   ·rw [if_pos e, if_pos e]; exact t.own
   ·rw [if_neg e, if_neg e]
    refine (h.rows j hj).keep fun b hb => t.rest b (h3 b (h4 j hj b hb)) (fun e2 => (h.neF j hj).1 (e2 ▸ hb)) (fun e2 => (h.neF j hj).2 (e2 ▸ hb)) (h.apart j i hj hi e b hb)
  ·by_cases e1 : j = i
   ·rw [if_pos e1] at hb
    rw [if_neg (fun c => hne (e1.trans c.symm))]
    rcases t.row b hb with hb | hb
    ·exact fun c => h.apart i k hi hk (fun c => hne (e1.trans c)) b hb c
    ·exact fun c => by have := h3 b (h4 k hk b c); omega
   ·rw [if_neg e1] at hb
    by_cases e2 : k = i
    ·rw [if_pos e2]
     intro c
     rcases t.row b c with c | c
     ·exact h.apart j i hj hi e1 b hb c
     ·have := h3 b (h4 j hj b hb); omega
    ·rw [if_neg e2]
     exact h.apart j k hj hk hne b hb
  ·by_cases e : j = i
   ·rw [if_pos e]
    refine ⟨fun c => ?_, fun c => ?_⟩
    ·rcases t.row f c with c | c
     ·exact (h.neF i hi).1 c
     ·omega
    ·rcases t.row mb c with c | c
     ·exact (h.neF i hi).2 c
     ·omega
   ·rw [if_neg e]; exact h.neF j hj
 refine ⟨key, _, key, List.mem_append_left _ h1, List.mem_append_left _ h2, fun b hb => ?_, fun j hj b hb => ?_⟩
 ·rcases List.mem_append.1 hb with hb | hb
  ·exact Nat.lt_of_lt_of_le (h3 b hb) t.size
  ·exact hnew b (by simpa using hb)
 ·by_cases e : j = i
  ·rw [if_pos e] at hb
   exact List.mem_append_right _ (by simp [hb])
  ·rw [if_neg e] at hb
   exact List.mem_append_left _ (h4 j hj b hb)
def FreeGo (w w' : World) (f mb n : Nat) (R : List Nat) (S : FL) : Prop := ∃ R', FreeAt w' f mb n R' S ∧ Touch R w w' ∧ ∀ b ∈ R', b ∈ R ∨ w.heap.size ≤ b
theorem FreeGo.refl {w : World} {f mb n : Nat} {R : List Nat} {S : FL} (h : FreeAt w f mb n R S) : FreeGo w w f mb n R S := ⟨R, h, Touch.refl _ _, fun _ h => .inl h⟩
theorem Step1.go {w w' : World} {f mb n n' : Nat} {R : List Nat} {V : Nat → Value} {S S' : FL} {i : Nat} {v : Value} {xs : List Nat} (h : FreeIn w f mb n V S) (hi : i < 160)
  (h1 : f ∈ R) (h2 : mb ∈ R) (h3 : ∀ b ∈ R, b < w.heap.size) (h4 : ∀ j, j < 160 → ∀ b, rowOf (V j) = some b → b ∈ R) (t : Step1 w w' f mb n' V S S' i v xs) (ht : w'.os = w.os ∧ w'.tape = w.tape ∧ w'.output = w.output) :
  FreeGo w w' f mb n' R S' := by
 refine ⟨_, (h.step hi h1 h2 h3 h4 t).2, ⟨ht.1, ht.2.1, ht.2.2, t.size, fun b hb hn => t.rest b hb (fun e => hn (e ▸ h1)) (fun e => hn (e ▸ h2)) (fun e => hn (h4 i hi b e))⟩, fun b hb => ?_⟩
 rcases List.mem_append.1 hb with hb | hb
 ·exact .inl hb
 ·rcases t.row b (by simpa using hb) with c | c
  ·exact .inl (h4 i hi b c)
  ·exact .inr c
theorem step_g {w wd w1 : World} {f mb n : Nat} {R : List Nat} {V : Nat → Value} {S : FL} {k : Nat} {v : Value} {xs : List Nat} (hi : FreeIn w f mb n V S) (hk : k < 32)
  (h1 : f ∈ R) (h2 : mb ∈ R) (h3 : ∀ b ∈ R, b < w.heap.size) (hd : Below w.heap.size w wd) (hg : wd.grownBy w1 (rowOf (V k))) (hv : OwnI w1 v xs) (hrow : ∀ b, rowOf v = some b → rowOf (V k) = some b ∨ w.heap.size ≤ b) :
  Step1 w (w1.setCell ⟨f, k, none⟩ v) f mb n V S (S.setG k xs) k v xs := by
 have hfl := h3 f h1
 have hml := h3 mb h2
 obtain ⟨M, hm, hvv⟩ := hi.map
 have hb : ∀ b, b < w.heap.size → rowOf (V k) ≠ some b → w1.heap[b]? = w.heap[b]? := fun b hb hn => (hg.block b (Nat.lt_of_lt_of_le hb hd.size) (fun e => hn e.symm)).trans (hd.block b hb)
 have hf1 := (hb f hfl (hi.neF k (by omega)).1).trans hi.head
 have hne : ∀ b, rowOf v = some b → b ≠ f := fun b hb e => by
  subst e
  rcases hrow b hb with c | c
  ·exact (hi.neF k (by omega)).1 c
  ·omega
 refine ⟨?_, ⟨M, (hm.block ?_), fun m j hm4 hj => ?_⟩, hv.keep (fun b hb => Below.heap_setCell _ _ _ _ (hne b hb)), hrow, fun b hbl h5 h6 h7 => ?_, ?_, fun j hj => ?_⟩
 ·rw [heap_setCell_same w1 f k _ _ _ hf1]
  congr 2
  apply Array.ext'
  rw [Array.toList_setIfInBounds]
  simp only
  apply List.ext_getElem?
  intro t
  rw [List.getElem?_set]
  by_cases e : k = t
  ·subst e
   rw [if_pos rfl, if_pos (by simp; omega), List.getElem?_append_left (by simpa using hk)]
   simp [hk]
  ·rw [if_neg e]
   by_cases ht : t < 32
   ·rw [List.getElem?_append_left (by simpa using ht), List.getElem?_append_left (by simpa using ht)]
    have : ¬ t = k := fun c => e c.symm
    simp [ht, this]
   ·rw [List.getElem?_append_right (by simpa using ht), List.getElem?_append_right (by simpa using ht)]
    simp
 ·rw [Below.heap_setCell _ _ _ _ (fun e => hi.ne e.symm)]
  exact hb mb hml (hi.neF k (by omega)).2
 ·rw [hvv m j hm4 hj, if_neg (by unfold slotI; omega)]
 ·rw [Below.heap_setCell _ _ _ _ h5]
  exact hb b hbl h7
 ·have := hg.size; have := hd.size; simp; omega
 ·unfold FL.at
  simp only [FL.setG_g, FL.setG_c]
  by_cases e : j < 32
  ·rw [if_pos e, if_pos e]
  ·rw [if_neg e, if_neg e, if_neg (by omega)]
def FL.upto (S : FL) (N : Nat) : Prop := ∀ i, i < 160 → (S.at i).length ≤ N
theorem FL.upto.mono {S : FL} {N M : Nat} (h : S.upto N) (hN : N ≤ M) : S.upto M := fun i hi => Nat.le_trans (h i hi) hN
theorem FL.pushed_upto {S : FL} {N : Nat} (h : S.upto N) (k a : Nat) : (S.pushed k a).upto (N + 1) := by
 intro i hi
 have := h i hi
 unfold FL.pushed
 split
 ·omega
 ·unfold FL.at at this ⊢
  simp only [FL.setG_g, FL.setG_c]
  by_cases e : i < 32
  ·rw [if_pos e] at this ⊢
   split
   ·rename_i e2; subst e2; simp; omega
   ·omega
  ·rw [if_neg e] at this ⊢; omega
theorem grown_touchO {w w' : World} {row : Option Nat} (h : w.grownBy w' row) : Touch row.toList w w' :=
 ⟨h.os, h.tape, h.output, h.size, fun k hk hn => h.block k hk (fun e => hn (by rw [← e]; simp))⟩
def Pushed (w : World) (f mb n : Nat) (R : List Nat) (S : FL) (k a : Nat) : Ending → World → Prop := fun e w' => e = .returned (.int .i64 (if S.has k a then 41 else 0)) ∧ FreeGo w w' f mb n R (S.pushed k a)
set_option maxHeartbeats 2000000 in
set_option maxRecDepth 20000 in
theorem fpush_any {w : World} {f mb n : Nat} {R : List Nat} {S : FL} (h : FreeAt w f mb n R S) (hL : S.upto 1000000) (k a : Nat) (hk : k < 32) :
  Calls Tryz.prog 164 #[vfree f, .int .i64 (k : Int), .int .i64 (a : Int)] w (Pushed w f mb n R S k a) := by
 have HF := LH h
 have HHas := LH (fhas_any h hL k a hk)
 have HP : Hid (∀ x w', x = (if S.has k a then 41 else 0) → FreeGo w w' f mb n R (S.pushed k a) → Pushed w f mb n R S k a (.returned (.int .i64 x)) w') := LH (fun x w' h1 h2 => by subst h1; exact ⟨rfl, h2⟩)
 generalize Pushed w f mb n R S k a = Post at *
 obtain ⟨V, hi, h1, h2, h3, h4⟩ := h
 have HI := LH hi
 have HR1 := LH h1
 have HR2 := LH h2
 have HR3 := LH h3
 have HR4 := LH h4
 have ck := hi.g hk
 have HOwn := LH (hi.rows k (by omega))
 have HLk : Hid ((S.g k).length ≤ 1000000) := LH (by have := hL k (by omega); rwa [S.at_g hk] at this)
 clear hi h1 h2 h3 h4 hL
 go_enter Tryz.func164, Tryz.ntmps164
 go_wp2_with fail
 refine (cright_any _ _).mono ?_
 rintro e w1 ⟨rfl, rfl⟩
 rw [decide_eq_true (show (0 : Int) ≤ (k : Int) ∧ (k : Int) < 32 by omega)]
 go_wp2_with fail
 refine HHas.out.mono ?_
 rintro e w1 ⟨rfl, rfl⟩
 cases hh : S.has k a with
 | true =>
  have HE : Hid (41 = (if S.has k a then (41 : Int) else 0) ∧ FreeGo w w f mb n R (S.pushed k a)) := LH ⟨by rw [hh]; rfl, by unfold FL.pushed; rw [hh]; exact FreeGo.refl HF.out⟩
  clear hh
  go_wp2_with fail
  exact HP.out _ _ HE.out.1 HE.out.2
 | false =>
  have HE : Hid (0 = (if S.has k a then (41 : Int) else 0) ∧ S.pushed k a = S.setG k (S.g k ++ [a])) := LH ⟨by rw [hh]; rfl, by unfold FL.pushed; rw [hh]; rfl⟩
  clear hh
  go_upto_region 5 with fail
  have hfn : f ∉ (rowOf (V k)).toList := fun hm => (HI.out.neF k (by omega)).1 (by simpa using hm)
  have r0 := fun x => near_cell (L := (rowOf (V k)).toList) ck hfn x
  clear ck hfn
  have hC1 : ∃ x : Near (rowOf (V k)).toList w, w.drew = x.val := near_of (Touch.ofBelow (later_below (later_drew w)))
  have HD0 : Hid (Below w.heap.size w w.drew) := LH (later_below (later_drew w))
  refine wp_region_seg (C := fun w' => ∃ x : Near (rowOf (V k)).toList w, w' = x.val) [.fl [0, 1, 2, 3, 4, 5, 6, 7, 8, 11, 12], .sq [9] true, .sq [10] true, .sq [13, 14] false] (by kernel_rfl) (by kernel_rfl) (by intro c a d v w h; cases d <;> exact h) ?_
  simp only [segs, picks, List.getElem?_cons_succ, List.getElem?_cons_zero]
  refine wpSeg_fl hC1 ?_
  repeat (first | go_big_quiet_step (fail) | quiet_step (fail))
  refine wpQuiet_nil ?_
  clear r0
  generalize w.drew = wd at *
  refine wpSeg_sq (fun K hK => ?_)
  go_wp2_with fail
  have hbn := below_alloc wd (.cells #[.int .i64 (a : Int)] 3)
  have HB2 : Hid (Below w.heap.size w (wd.alloc (.cells #[.int .i64 (a : Int)] 3))) := LH (HD0.out.trans (hbn.mono HD0.out.size))
  have hC2 : ∃ x : Near (rowOf (V k)).toList w, wd.alloc (.cells #[.int .i64 (a : Int)] 3) = x.val := near_of (Touch.ofBelow HB2.out)
  have HC2 : Hid (Cells (wd.alloc (.cells #[.int .i64 (a : Int)] 3)) (some ⟨wd.heap.size, 0, none⟩) ([a].map vi)) := LH (RowAt.cells ⟨_, heap_alloc_new _ _, [], rfl⟩)
  clear hbn
  go_wp2_with fail
  refine hK _ _ (fun _ => hC2) ?_
  clear hK K
  obtain ⟨q, hq⟩ : ∃ q, q = wd.heap.size := ⟨_, rfl⟩
  rw [← hq] at HC2 ⊢
  clear hq
  generalize wd.alloc _ = we at *
  have HOe : Hid (OwnI we (V k) (S.g k)) := LH (by rw [← S.at_g hk]; exact HOwn.out.keep (fun b hb => HB2.out.block b (HR3.out b (HR4.out k (by omega) b hb))))
  have HN1 : Hid ((S.g k).length + 1 ≤ 1000000000000) := LH (by have := HLk.out; omega)
  refine wpSeg_sq (fun K hK => ?_)
  go_wp2_with (refine wpList_append_ownI (m := 1) HOe.out HC2.out rfl HN1.out rfl rfl rfl rfl ?_; intro v' w1 ho hg hr; have HO1 := LH ho; have HG1 := LH hg; have HR := LH hr; clear ho hg hr)
  have HT1 : Hid (Touch (rowOf (V k)).toList w w1) := LH ((Touch.ofBelow HB2.out).trans (grown_touchO HG1.out))
  have hC3 := near_of HT1.out
  go_wp2_with fail
  refine hK _ _ (fun _ => hC3) ?_
  clear hK K
  have hst := step_g HI.out hk HR1.out HR2.out HR3.out HB2.out HG1.out HO1.out (fun b hb => by
   rcases HR.out b hb with c | c
   ·exact .inl c
   ·exact .inr (by rw [c]; exact HB2.out.size))
  have HGo : Hid (FreeGo w (w1.setCell ⟨f, k, none⟩ v') f mb n R (S.pushed k a)) := LH (by
   rw [HE.out.2]
   exact hst.go HI.out (by omega) HR1.out HR2.out HR3.out HR4.out ⟨HG1.out.os.trans HB2.out.os, HG1.out.tape.trans HB2.out.tape, HG1.out.output.trans HB2.out.output⟩)
  have HE0 := LH HE.out.1
  have HF1 : Hid (w1.heap[f]? = some (.cells ((List.range 32).map V ++ [Value.map (some mb)]).toArray 235 (0, 0))) := LH (by
   have := (HG1.out.block f (Nat.lt_of_lt_of_le (HR3.out f HR1.out) HB2.out.size) (fun e => (HI.out.neF k (by omega)).1 e.symm)).trans (HB2.out.block f (HR3.out f HR1.out))
   exact this.trans HI.out.head)
  have fr : w1.frozen? ⟨f, k, none⟩ = false := frozen_of_row _ _ _ _ _ HF1.out
  have ck1 : w1.cell? ⟨f, k, none⟩ = some (V k) := (cell_of_row _ _ k _ _ _ HF1.out).trans (HI.out.lt hk)
  obtain ⟨a', c', e', _⟩ := HO1.out.cells
  obtain ⟨l', hl'⟩ : ∃ l', l' = (S.g k ++ [a]).length := ⟨_, rfl⟩
  rw [← hl'] at e'
  subst e'
  clear hst hl'
  refine wpSeg_last ?_
  go_wp2_with fail
  generalize w1.setCell _ _ = w2 at *
  go_wp2_with fail
  exact HP.out _ _ HE0.out HGo.out
section
variable {P : Program} {C : World → Prop} {ops : Array Oper} {rest : List Oper} {o : Oper} {a : Act} {Q : Act → Prop}
end
end Go.Proofs.YtpohaahihdhleaaGreat
namespace Go.Proofs.YtpohaahihdhleaaGreat
theorem isCell_kind {L : List Hd} {k a : Nat} (h : isCell L k a) : (L.getD (a / 512) default).k = 1 := by rw [h.2.2.1]
theorem wholeN_of {L : List Hd} {b m : Nat} (hm : 1 ≤ m) (h : L.getD b default = ⟨2, 0, m⟩) (hf : b + m ≤ L.length) (hc : ∀ i, 1 ≤ i → i < m → L.getD (b + i) default = ⟨3, 0, i⟩) : wholeN L b = m := by
 unfold wholeN
 rw [h]
 dsimp only
 rw [if_neg (by omega), Int.toNat_natCast, if_pos (contTo_of hc)]
def cellOf (b k i : Nat) : Nat := 512 * b + i * clsWords k
def Al.carved (m : Al) (b k : Nat) : FL := m.fl.carve (fun a => m.used.getD a false) (cellOf b k) k (clsCells k)
variable {B : Nat} {m : Al}
variable {B : Nat} {m : Al}
theorem addI_new {l : List Bool} {a : Nat} (ha : a < l.length) (h : l.getD a false = false) : addI l (a : Int) = l.set a true := by
 unfold addI freshI
 rw [hasI_nat, h, if_pos]
 ·rfl
 ·simp; omega
end Go.Proofs.YtpohaahihdhleaaGreat
namespace Go.Proofs.YtpohaahihdhleaaGreat
open Go.RowKit Go.Maps
def AF.re (A : AF) (R : List Nat) : AF := { A with R := R }
def AlGo (w w' : World) (A : AF) (n B : Nat) (m : Al) : Prop := ∃ R', AlAt w' (A.re R') n B m ∧ Touch A.hot w w' ∧ ∀ b ∈ R', b ∈ A.R ∨ w.heap.size ≤ b
theorem AlAt.fixlt {w : World} {A : AF} {n B : Nat} {m : Al} (h : AlAt w A n B m) {k : Nat} (hk : k ∈ A.fix) : k < w.heap.size := h.mem k (by simp [AF.list, hk])
theorem AlAt.setUsed {w w' : World} {A : AF} {n B : Nat} {m : Al} {l : List Bool} (h : AlAt w A n B m) (hs : SetAt w' A.U l) (ht : Touch A.U.list w w') (hl : l.length = m.used.length) : AlGo w w' A n B ⟨m.bm, l, m.fl⟩ := by
 have nd := h.nd
 unfold AF.fix at nd
 rw [List.nodup_cons, List.nodup_append] at nd
 refine ⟨A.R, ⟨(ht.block A.a (h.fixlt (by simp [AF.fix])) (fun hm => nd.1 (List.mem_append_right _ hm))).trans h.head, h.man.keep (fun k hk => ht.block k (h.fixlt (by simp [AF.fix, hk])) (fun hm => nd.2.2.2 k hk k hm rfl)), hs, h.free.keep (fun k hk => ht.block k (h.mem k (by simp [AF.list, hk])) (fun hm => h.nR k hk (by simp [AF.fix, hm]))), h.nd, h.nR, by rw [hl]; exact h.lenU⟩, ht.wide (fun b hb => by simp [AF.hot, hb]), fun b hb => .inl hb⟩
theorem cellAt_of {B k b i : Nat} (hk : k < 32) (hb : 1 ≤ b) (hbB : b < B) (hi : i < clsCells k) : cellAt (B : Int) (k : Int) (b : Int) (i : Int) = (cellOf b k i : Nat) := by
 unfold cellAt cellOf
 rw [if_neg (by omega), Int.natCast_add, Int.natCast_mul, Int.natCast_mul]
 omega
theorem nodup_len : ∀ (M : Nat) (l : List Nat), (∀ x ∈ l, x < M) → (∀ a, l.count a ≤ 1) → l.length ≤ M
 | 0, l, h, _ => by
  cases l with
  | nil => simp
  | cons x l => exact absurd (h x (by simp)) (by omega)
 | M + 1, l, h, h1 => by
  have e : l.length = (l.filter (fun x => x == M)).length + (l.filter (fun x => !(x == M))).length := by
   induction l with
   | nil => rfl
   | cons x l ih =>
    have := ih (fun y hy => h y (by simp [hy])) (fun a => Nat.le_trans (List.count_le_count_cons) (h1 a))
    by_cases c : x = M <;> simp [c] <;> omega
  have h2 : (l.filter (fun x => x == M)).length ≤ 1 := by
   rw [← List.countP_eq_length_filter]
   exact h1 M
  have h3 := nodup_len M (l.filter (fun x => !(x == M))) (fun x hx => by
   obtain ⟨g1, g2⟩ := List.mem_filter.1 hx
   have := h x g1
   simp at g2
   omega) (fun a => Nat.le_trans (List.Sublist.count_le a List.filter_sublist) (h1 a))
  omega
theorem FL.carve_upto {used : Nat → Bool} {at_ : Nat → Nat} {k : Nat} : ∀ {S : FL} {N : Nat}, S.upto N → ∀ n, (S.carve used at_ k n).upto (N + n)
 | S, N, h, 0 => h
 | S, N, h, n + 1 => by
  unfold FL.carve
  have h2 : (if used (at_ n) then S else S.pushed k (at_ n)).upto (N + 1) := by
   split
   ·exact h.mono (by omega)
   ·exact FL.pushed_upto h _ _
  exact (FL.carve_upto h2 n).mono (by omega)
set_option maxHeartbeats 1000000 in
theorem gfirstN_any (B : Nat) (hB : B ≤ 1000) (b : Nat) (hb : b < B) (w : World) : Calls Tryz.prog 183 #[vgeom (B : Int), .int .i64 (b : Int)] w fun e w' => e = .returned (.int .i64 ((b : Int) * 512)) ∧ Below w.heap.size w w' := by
 have := gfirst_any B hB (b : Int) w
 rw [show firstOf (B : Int) (b : Int) = (b : Int) * 512 by unfold firstOf; rw [if_neg (by omega)]] at this
 exact this
end Go.Proofs.YtpohaahihdhleaaGreat
namespace Go.Proofs.YtpohaahihdhleaaGreat
open Go.RowKit
def begins (k a : Nat) : Bool := decide (a % 512 % clsWords k = 0 ∧ a % 512 / clsWords k < clsCells k)
theorem aggCell : Agg Tryz.prog 266 #[.int .i64 0, .int .i64 0] := ⟨⟨_, Tryz.underlying266, rfl⟩, by kernel_rfl⟩
theorem begins_at {B k a : Nat} (hk : k < 32) (h1 : 512 ≤ a) (h2 : a < 512 * B) : begins k a = decide (cellAt (B : Int) (k : Int) ((a / 512 : Nat) : Int) ((a % 512 / clsWords k : Nat) : Int) = (a : Int)) := by
 have hp := clsWords_pos (k : Int) (by omega)
 unfold begins
 have e := Nat.div_add_mod (a % 512) (clsWords k)
 have hlt := Nat.mod_lt (a % 512) (show 0 < clsWords (k : Int) by omega)
 by_cases hi : a % 512 / clsWords k < clsCells k
 ·have hc := cellAt_of (B := B) hk (b := a / 512) (by omega) (by omega) hi
  rw [hc]
  unfold cellOf
  rw [Nat.mul_comm (clsWords (k : Int))] at e
  generalize a % 512 / clsWords (k : Int) * clsWords (k : Int) = y at *
  generalize hz : a % 512 % clsWords (k : Int) = z at *
  rw [Bool.eq_iff_iff, decide_eq_true_eq, decide_eq_true_eq]
  omega
 ·have hc : cellAt (B : Int) (k : Int) ((a / 512 : Nat) : Int) ((a % 512 / clsWords k : Nat) : Int) = -1 := by
   unfold cellAt
   rw [if_pos]
   exact .inr (.inr (.inr (.inr (by omega))))
  rw [hc, decide_eq_false (fun h => hi h.2), decide_eq_false (by omega)]
def AtPost (k a : Nat) (w : World) : Ending → World → Prop := fun e w' => (∃ x y : Int, e = .returned (.tuple #[.agg #[.int .i64 x, .int .i64 y], .bool (begins k a)])) ∧ Below w.heap.size w w'
set_option maxHeartbeats 2000000 in
set_option maxRecDepth 20000 in
theorem cat_any (B : Nat) (hB : B ≤ 1000) (k a : Nat) (hk : k < 32) (h1 : 512 ≤ a) (h2 : a < 512 * B) (w : World) : Calls Tryz.prog 182 #[vgeom (B : Int), .int .i64 (k : Int), .int .i64 (a : Int)] w (AtPost k a w) := by
 have HM := LH (Mem.two w #[.int .i64 (B : Int)] 44 #[.int .i64 0, .int .i64 0] 266)
 have HP : Hid (∀ (x y : Int) b w', b = begins k a → Below w.heap.size w w' → AtPost k a w (.returned (.tuple #[.agg #[.int .i64 x, .int .i64 y], .bool b])) w') := LH (fun x y b w' h1 h2 => by subst h1; exact ⟨⟨x, y, rfl⟩, h2⟩)
 generalize AtPost k a w = Post at *
 have HBe := LH (begins_at (B := B) hk h1 h2)
 have hp := clsWords_pos (k : Int) (by omega)
 have hbo : blockOf (B : Int) (a : Int) = ((a / 512 : Nat) : Int) := by unfold blockOf; rw [if_neg (by omega)]; omega
 have HData := LH (fun w => gdata_any B hB (a : Int) w)
 have HBlk := LH (fun w => gblockOf_any B hB (a : Int) w)
 rw [hbo] at HData HBlk
 rw [decide_eq_true (show (1 : Int) ≤ ((a / 512 : Nat) : Int) by omega)] at HData
 have HWd := LH (fun w => cwords_any (k : Int) w)
 have HAd := LH (fun w => caddr_any B hB (k : Int) ((a / 512 : Nat) : Int) ((a % 512 / clsWords k : Nat) : Int) w)
 have HRg := LH (fun w => cright_any (k : Int) w)
 rw [decide_eq_true (show (0 : Int) ≤ (k : Int) ∧ (k : Int) < 32 by omega)] at HRg
 have hda : a < 512000 := by omega
 obtain ⟨b, hb⟩ : ∃ b, b = a / 512 := ⟨_, rfl⟩
 obtain ⟨o, ho⟩ : ∃ o, o = a % 512 := ⟨_, rfl⟩
 have ho2 : (a : Int) % 512 = (o : Int) := by omega
 have ho5 : o < 512 := by omega
 rw [← hb] at HBlk HAd HBe
 rw [← ho] at HAd HBe
 obtain ⟨W, hW⟩ : ∃ W, W = clsWords (k : Int) := ⟨_, rfl⟩
 rw [← hW] at HWd HAd HBe hp
 obtain ⟨i, hi⟩ : ∃ i, i = o / W := ⟨_, rfl⟩
 rw [← hi] at HAd HBe
 have hi2 : (o : Int) / (W : Int) = (i : Int) := by rw [hi]; rfl
 have hi3 : i ≤ 512 := by rw [hi]; exact Nat.le_trans (Nat.div_le_self _ _) (by omega)
 generalize cellAt (B : Int) (k : Int) (b : Int) (i : Int) = ca at *
 generalize begins k a = be at *
 clear hbo hb ho hW hi h1 h2
 go_enter Tryz.func182, Tryz.ntmps182
 go_upto_region 1 with fail
 obtain ⟨q, hq⟩ : ∃ q, q = w.heap.size := ⟨_, rfl⟩
 rw [← hq] at HM ⊢
 generalize (w.alloc _).alloc _ = w0 at *
 clear hq
 have c0 := HM.out.cell 0 0 rfl rfl
 go_wp2_with fail
 refine (HRg.out _).mono ?_
 rintro e w1 ⟨rfl, rfl⟩
 go_wp2_with fail
 refine (HData.out _).mono ?_
 rintro e w1 ⟨rfl, hb1⟩
 have HM1 := LH (HM.out.later hb1)
 clear hb1 c0
 have c0 := HM1.out.cell 0 0 rfl rfl
 go_wp2_with fail
 refine (HBlk.out _).mono ?_
 rintro e w2 ⟨rfl, hb2⟩
 have HM2 := LH (HM1.out.later hb2)
 clear hb2 c0
 go_wp2_with fail
 refine (HWd.out _).mono ?_
 rintro e w3 ⟨rfl, hb3⟩
 have HM3 := LH (HM2.out.later hb3)
 clear hb3
 go_upto_region 4 with fail
 have HM4 := LH (HM3.out.alloc #[.int .i64 (b : Int), .int .i64 (i : Int)] 266)
 obtain ⟨q4, hq4⟩ : ∃ q4, q4 = w3.heap.size := ⟨_, rfl⟩
 rw [← hq4] at HM4 ⊢
 generalize w3.alloc _ = w4 at *
 clear hq4
 have d0 := HM4.out.cell 2 0 rfl rfl
 have d1 := HM4.out.cell 2 1 rfl rfl
 have c1 := HM4.out.cell 0 0 rfl rfl
 have hnd := HM4.out.nd
 simp only [List.map_cons, List.map_nil, List.map_append, List.cons_append, List.nil_append, List.nodup_cons, List.mem_cons, List.not_mem_nil, or_false, not_or] at hnd
 have hq1 : q ∉ [q + 1] := by simp
 have hq2 : q4 ∉ [q + 1] := by simp; exact fun e => hnd.2.1 e.symm
 have r0 := fun x => near_cell (L := [q + 1]) d0 hq2 x
 have r1 := fun x => near_cell (L := [q + 1]) d1 hq2 x
 have r2 := fun x => near_cell (L := [q + 1]) c1 hq1 x
 have HT0 : Hid (Touch [q + 1] w4 w4.drew) := LH (Touch.ofBelow (later_below (later_drew w4)))
 have HD0 : Hid (Below w4.heap.size w4 w4.drew) := LH (later_below (later_drew w4))
 have hC1 := near_of HT0.out
 clear d0 d1 c1 hnd hq1 hq2
 refine wp_region_seg (C := fun w' => ∃ x : Near [q + 1] w4, w' = x.val) [.fl [0, 1, 2, 3, 5], .sq [4] true, .fl [6], .sq [7] true, .sq [8] false] (by kernel_rfl) (by kernel_rfl) (by intro c a d v w h; cases d <;> exact h) ?_
 simp only [segs, picks, List.getElem?_cons_succ, List.getElem?_cons_zero]
 refine wpSeg_fl hC1 ?_
 repeat (first | go_big_quiet_step (fail) | quiet_step (fail))
 refine wpQuiet_nil ?_
 clear r0 r1 r2
 generalize w4.drew = w5 at *
 refine wpSeg_sq (fun K hK => ?_)
 go_wp2_with fail
 refine (HAd.out _).mono ?_
 rintro e w6 ⟨rfl, hb6⟩
 have HM6 := LH (HM4.out.later (HD0.out.trans (hb6.mono HD0.out.size)))
 have HT6 : Hid (Touch [q + 1] w4 w6) := LH (HT0.out.later hb6)
 have hC2 := near_of HT6.out
 clear hb6
 go_wp2_with fail
 refine hK _ _ (fun _ => hC2) ?_
 clear hK K
 refine wpSeg_fl hC2 ?_
 repeat (first | go_big_quiet_step (fail) | quiet_step (fail))
 refine wpQuiet_nil ?_
 refine wpSeg_sq (fun K hK => ?_)
 go_wp2_with (refine wpList_store_mem aggCell HM6.out 1 rfl rfl rfl rfl rfl rfl rfl rfl ?_; intro w7 h7 ht7; have H7 := LH h7; have HT7 := LH (HT6.out.trans ht7); clear h7 ht7)
 have hC3 := near_of HT7.out
 go_wp2_with fail
 refine hK _ _ (fun _ => hC3) ?_
 clear hK K
 refine wpSeg_last ?_
 go_wp2_with fail
 refine bodyPost_ret (results_cell_row2 (p := 6) (u := 7) rfl _ _ _ _ _ _ _ rfl (H7.out.exact 1 rfl) Tryz.underlying266 rfl (by kernel_rfl)) rfl ?_
 refine HP.out _ _ _ _ ?_ H7.out.below
 rw [HBe.out]
 rfl
def PlPost (S : Dev) (L : List Hd) (a : Int) (w : World) : Ending → World → Prop := fun e w' => (∃ p d : Int, e = .returned (.tuple #[vob p d, .bool (placedN S L a).isSome]) ∧ ∀ o, placedN S L a = some o → o = ⟨p, d, 0⟩) ∧ Below w.heap.size w w'
theorem headN_cases (S : Dev) (a : Int) : headN S a = ⟨0, 0, 22⟩ ∨ ∃ p d, headN S a = ⟨p, d, 0⟩ := by
 rcases headN_code S a with h | h
 ·refine .inr ⟨(headN S a).p, (headN S a).d, ?_⟩
  have := h.1
  generalize headN S a = o at *
  obtain ⟨p, d, c⟩ := o
  dsimp only at this
  rw [this]
 ·exact .inl h
set_option maxHeartbeats 4000000 in
set_option maxRecDepth 20000 in
theorem aplaced_any {w : World} {F : Foot} {S : Dev} (h : DevAt w F S) (a : Option Addr) (B cap : Nat) (L : List Hd) (hlen : L.length = B) (hc : Cells w a (hdCs L)) (hB : B ≤ 1000) (hS : S.cache.length ≤ 1000000) (x : Int) :
  Calls Tryz.prog 159 #[vdev F, vgeom (B : Int), .slice a B cap, .int .i64 x] w (PlPost S L x w) := by
 have HM := LH (Mem.two w #[.int .i64 (B : Int)] 44 #[.int .i64 0, .int .i64 0] 211)
 have HP : Hid (∀ (p d : Int) b w', b = (placedN S L x).isSome → (∀ o, placedN S L x = some o → o = ⟨p, d, 0⟩) → Below w.heap.size w w' → PlPost S L x w (.returned (.tuple #[vob p d, .bool b])) w') := LH (fun p d b w' h1 h2 h3 => by subst h1; exact ⟨⟨p, d, rfl, h2⟩, h3⟩)
 generalize PlPost S L x w = Post at *
 have HD0 := LH (h.below HM.out.below)
 have HC0 := LH (hc.below HM.out.below (Nat.le_refl _))
 have HLen := LH hlen
 have HBlk := LH (fun w => gblockOf_any B hB x w)
 clear h hc hlen
 go_enter Tryz.func159, Tryz.ntmps159
 go_upto_region 1 with fail
 obtain ⟨q, hq⟩ : ∃ q, q = w.heap.size := ⟨_, rfl⟩
 rw [← hq] at HM ⊢
 generalize (w.alloc _).alloc _ = w0 at *
 clear hq
 have c0 := HM.out.cell 0 0 rfl rfl
 by_cases hin : x < 512 ∨ 512 * (B : Int) ≤ x
 ·have HN : Hid (placedN S L x = none) := LH (by unfold placedN; rw [if_pos (by rw [HLen.out]; omega)])
  have hbb : blockOf (B : Int) x < 1 := by unfold blockOf; split <;> omega
  have HBb := LH HBlk.out
  generalize blockOf (B : Int) x = bb at *
  clear hin
  go_wp2_with fail
  refine (HBlk.out _).mono ?_
  rintro e w1 ⟨rfl, hb1⟩
  have HM1 := LH (HM.out.later hb1)
  clear hb1 c0
  go_wp2_with (refine wpList_store_mem aggOb HM1.out 1 rfl rfl rfl rfl rfl rfl rfl rfl ?_; intro w7 h7 ht7; have H7 := LH h7; clear h7 ht7)
  refine bodyPost_ret (results_cell_row2 (p := 8) (u := 9) rfl _ _ _ _ _ _ _ rfl (H7.out.exact 1 rfl) Tryz.underlying211 rfl (by kernel_rfl)) rfl ?_
  refine HP.out _ _ _ _ (by rw [HN.out]; rfl) (fun o ho => by rw [HN.out] at ho; cases ho) H7.out.below
 obtain ⟨y, hy⟩ : ∃ y : Nat, x = (y : Int) := ⟨x.toNat, by omega⟩
 subst hy
 have h1 : 512 ≤ y := by omega
 have h2 : y < 512 * B := by omega
 have hbo : blockOf (B : Int) (y : Int) = ((y / 512 : Nat) : Int) := by unfold blockOf; rw [if_neg (by omega)]; omega
 rw [hbo] at HBlk
 obtain ⟨b, hb⟩ : ∃ b, b = y / 512 := ⟨_, rfl⟩
 have hb1 : 1 ≤ b := by omega
 have hb2 : b < B := by omega
 rw [← hb] at HBlk
 have HBy := LH hb
 have HPl : Hid (placedN S L (y : Int) = if (headN S (y : Int)).code ≠ 0 then none
  else if small (objSize (headN S (y : Int)).p (headN S (y : Int)).d) then (if isCell L (ofN (objSize (headN S (y : Int)).p (headN S (y : Int)).d : Nat)) y then some (headN S (y : Int)) else none)
  else if y % 512 = 0 ∧ wholeN L b = objBlocks (objSize (headN S (y : Int)).p (headN S (y : Int)).d) then some (headN S (y : Int)) else none) := LH (by
  unfold placedN
  rw [Int.toNat_natCast, ← hb, HLen.out]
  by_cases c : (headN S (y : Int)).code ≠ 0
  ·rw [if_pos (.inr (.inr c)), if_pos c]
  ·rw [if_neg (by omega), if_neg c])
 clear hbo hin hb
 go_wp2_with fail
 refine (HBlk.out _).mono ?_
 rintro e w1 ⟨rfl, hb1'⟩
 have HM1 := LH (HM.out.later hb1')
 have HD1 := LH (HD0.out.below hb1')
 have HC1 := LH (HC0.out.below hb1' (Nat.le_refl _))
 clear hb1' c0
 go_wp2_with fail
 refine (ohead_any HD1.out (y : Int)).mono ?_
 rintro e w2 ⟨rfl, hb2'⟩
 have HM2 := LH (HM1.out.later hb2')
 have HD2 := LH (HD1.out.below hb2')
 have HC2 := LH (HC1.out.below hb2' (Nat.le_refl _))
 clear hb2'
 unfold Odec.val
 rcases headN_cases S (y : Int) with hh | ⟨p, d, hh⟩
 ·have HN : Hid (placedN S L (y : Int) = none) := LH (by rw [HPl.out, hh]; rfl)
  rw [hh]
  dsimp only
  go_upto_region 5 with fail
  have HM3 := LH (HM2.out.alloc #[.int .i64 0, .int .i64 0] 211)
  generalize w2.alloc _ = w3 at *
  go_wp2_with (refine wpList_store_mem aggOb HM3.out 1 rfl rfl rfl rfl rfl rfl rfl rfl ?_; intro w7 h7 ht7; have H7 := LH h7; clear h7 ht7)
  refine bodyPost_ret (results_cell_row2 (p := 8) (u := 9) rfl _ _ _ _ _ _ _ rfl (H7.out.exact 1 rfl) Tryz.underlying211 rfl (by kernel_rfl)) rfl ?_
  refine HP.out _ _ _ _ (by rw [HN.out]; rfl) (fun o ho => by rw [HN.out] at ho; cases ho) H7.out.below
 have HS0 : Hid (objSize p d ≠ 0) := LH (by
  have := headN_code S (y : Int)
  rw [hh] at this
  rcases this with h | h
  ·exact h.2.2.2.1
  ·injection h with _ _ h3; cases h3)
 rw [hh]
 have HPl2 : Hid (placedN S L (y : Int) = if small (objSize p d) then (if isCell L (ofN (objSize p d : Nat)) y then some ⟨p, d, 0⟩ else none)
  else if y % 512 = 0 ∧ wholeN L b = objBlocks (objSize p d) then some ⟨p, d, 0⟩ else none) := LH (by rw [HPl.out, hh, if_neg (by simp)])
 dsimp only
 clear HPl HBlk
 have HSm := LH (fun w => osmall_any p d w)
 have HBl := LH (fun w => oblocks_any p d w)
 generalize objSize p d = s at *
 go_upto_region 7 with fail
 have HB3 := LH (below_alloc w2 (Obj.cells #[.int .i64 p, .int .i64 d] 211))
 have HM3 := LH (HM2.out.alloc #[.int .i64 p, .int .i64 d] 211)
 have HC3 := LH (HC2.out.below HB3.out (Nat.le_refl _))
 obtain ⟨q3, hq3⟩ : ∃ q3, q3 = w2.heap.size := ⟨_, rfl⟩
 rw [← hq3] at HM3 ⊢
 generalize w2.alloc _ = w3 at *
 clear hq3
 obtain ⟨k, c, z, he⟩ := hdGetD L b
 obtain ⟨b1, o1, rfl, e0, e1, e2⟩ := hd_cells HC3.out (by rw [HLen.out]; exact hb2) he
 have HEb := LH he
 clear he
 have hbB : (b : Int) < (B : Int) := by omega
 go_upto_region 8 with fail
 have HB4 := LH (below_alloc w3 (Obj.cells #[.int .i64 k, .int .i64 c, .int .i64 z] 107))
 have HM4 := LH (HM3.out.alloc #[.int .i64 k, .int .i64 c, .int .i64 z] 107)
 have HC4 := LH (HC3.out.below HB4.out (Nat.le_refl _))
 obtain ⟨q4, hq4⟩ : ∃ q4, q4 = w3.heap.size := ⟨_, rfl⟩
 rw [← hq4] at HM4 ⊢
 generalize w3.alloc _ = w4 at *
 clear hq4 e0 e1 e2
 have d0 := HM4.out.cell 2 0 rfl rfl
 have d1 := HM4.out.cell 2 1 rfl rfl
 go_wp2_with fail
 refine (HSm.out _).mono ?_
 rintro e w5 ⟨rfl, hb5⟩
 have HM5 := LH (HM4.out.later hb5)
 have HC5 := LH (HC4.out.below hb5 (Nat.le_refl _))
 clear hb5 d0 d1
 have hnd := HM5.out.nd
 simp only [List.map_cons, List.map_nil, List.map_append, List.cons_append, List.nil_append, List.nodup_cons, List.mem_cons, List.not_mem_nil, or_false, not_or] at hnd
 have hn0 : q ∉ [q + 1] := by simp
 have hn2 : q3 ∉ [q + 1] := by simp; exact fun e => hnd.2.1.1 e.symm
 have hn3 : q4 ∉ [q + 1] := by simp; exact fun e => hnd.2.1.2 e.symm
 have HNs := LH (And.intro hn0 (And.intro hn2 hn3))
 clear hnd hn0 hn2 hn3
 by_cases hsm : small s
 ·have hk := ofN_lt hsm
  rw [ofV_small _ hsm]
  have HPl3 : Hid (placedN S L (y : Int) = if isCell L (ofN (s : Int)) y then some ⟨p, d, 0⟩ else none) := LH (by rw [HPl2.out, if_pos hsm])
  generalize ofN (s : Int) = kk at *
  have HIs : Hid (isCell L kk y ↔ begins kk y = true ∧ (⟨k, c, z⟩ : Hd) = ⟨1, kk, 0⟩) := LH (by
   unfold isCell begins
   rw [← HBy.out, HEb.out, decide_eq_true_eq, HLen.out]
   constructor
   ·rintro ⟨_, _, h3, h4, h5⟩; exact ⟨⟨h4, h5⟩, h3⟩
   ·rintro ⟨⟨h4, h5⟩, h3⟩; exact ⟨h1, h2, h3, h4, h5⟩)
  have HAt := LH (fun w => cat_any B hB kk y hk h1 h2 w)
  clear HPl2 hsm HSm HBl
  have c0 := HM5.out.cell 0 0 rfl rfl
  go_wp2_with fail
  refine (HAt.out _).mono ?_
  rintro e w6 ⟨⟨ax, ay, rfl⟩, hb6⟩
  have HM6 := LH (HM5.out.later hb6)
  clear hb6 c0 HAt
  go_upto_region 11 with fail
  have HM7 := LH (HM6.out.alloc #[.int .i64 ax, .int .i64 ay] 266)
  generalize w6.alloc _ = w7 at *
  have d0 := HM7.out.cell 2 0 rfl rfl
  have d1 := HM7.out.cell 2 1 rfl rfl
  have d3 := HM7.out.cell 3 0 rfl rfl
  have d4 := HM7.out.cell 3 1 rfl rfl
  have d5 := HM7.out.cell 3 2 rfl rfl
  have r0 := fun x => near_cell (L := [q + 1]) d0 HNs.out.2.1 x
  have r1 := fun x => near_cell (L := [q + 1]) d1 HNs.out.2.1 x
  have r3 := fun x => near_cell (L := [q + 1]) d3 HNs.out.2.2 x
  have r4 := fun x => near_cell (L := [q + 1]) d4 HNs.out.2.2 x
  have r5 := fun x => near_cell (L := [q + 1]) d5 HNs.out.2.2 x
  have HT0 : Hid (Touch [q + 1] w7 w7.drew) := LH (Touch.ofBelow (later_below (later_drew w7)))
  have HD0 : Hid (Below w7.heap.size w7 w7.drew) := LH (later_below (later_drew w7))
  have hC1 := near_of HT0.out
  clear d0 d1 d3 d4 d5
  have hgd := gsBh
  cases hbg : begins kk y with
  | false =>
   have HN : Hid (placedN S L (y : Int) = none) := LH (by rw [HPl3.out, if_neg (fun h => by have := (HIs.out.1 h).1; rw [hbg] at this; cases this)])
   clear hbg HPl3 HIs
   refine wp_region_seg (C := fun w' => ∃ x : Near [q + 1] w7, w' = x.val) [.fl [0, 1, 2, 3, 4, 5, 6, 7], .sq [8] true, .sq [9] false] (by kernel_rfl) (by kernel_rfl) (by intro c a d v w h; cases d <;> exact h) ?_
   simp only [segs, picks, List.getElem?_cons_succ, List.getElem?_cons_zero]
   refine wpSeg_fl hC1 ?_
   repeat (first | go_big_quiet_step (fail) | quiet_step (fail))
   refine wpQuiet_nil ?_
   refine wpSeg_sq (fun K hK => ?_)
   go_wp2_with (refine wpList_store_mem aggOb (HM7.out.later HD0.out) 1 rfl rfl rfl rfl rfl rfl rfl rfl ?_; intro w8 h8 ht8; have H8 := LH h8; have HT8 := LH (HT0.out.trans ht8); clear h8 ht8)
   have hC2 := near_of HT8.out
   go_wp2_with fail
   refine hK _ _ (fun _ => hC2) ?_
   clear hK K
   refine wpSeg_last ?_
   go_wp2_with fail
   refine bodyPost_ret (results_cell_row2 (p := 8) (u := 9) rfl _ _ _ _ _ _ _ rfl (H8.out.exact 1 rfl) Tryz.underlying211 rfl (by kernel_rfl)) rfl ?_
   refine HP.out _ _ _ _ (by rw [HN.out]; rfl) (fun o ho => by rw [HN.out] at ho; cases ho) H8.out.below
  | true =>
   by_cases hq : (⟨k, c, z⟩ : Hd) = ⟨1, kk, 0⟩
   ·have heq : ∀ w', (Op.equalIn 10000 107 (.agg #[.int .i64 k, .int .i64 c, .int .i64 z]) (.agg #[.int .i64 1, .int .i64 (kk : Int), .int .i64 0])).run Tryz.prog w' = .ok true w' := fun w' => equalBh w' _ _ _ _ _ _ _ (by rw [← hd_beq]; simp [hq])
    have HN : Hid (placedN S L (y : Int) = some ⟨p, d, 0⟩) := LH (by rw [HPl3.out, if_pos (HIs.out.2 ⟨hbg, hq⟩)])
    clear hbg HPl3 HIs hq
    refine wp_region_seg (C := fun w' => ∃ x : Near [q + 1] w7, w' = x.val) [.fl [0, 1, 2, 3, 4, 5, 6, 7], .sq [8] true, .sq [9] false] (by kernel_rfl) (by kernel_rfl) (by intro c a d v w h; cases d <;> exact h) ?_
    simp only [segs, picks, List.getElem?_cons_succ, List.getElem?_cons_zero]
    refine wpSeg_fl hC1 ?_
    repeat (first | go_big_quiet_step (fail) | quiet_step (fail))
    refine wpQuiet_nil ?_
    refine wpSeg_sq (fun K hK => ?_)
    go_wp2_with (refine wpList_store_mem aggOb (HM7.out.later HD0.out) 1 rfl rfl rfl rfl rfl rfl rfl rfl ?_; intro w8 h8 ht8; have H8 := LH h8; have HT8 := LH (HT0.out.trans ht8); clear h8 ht8)
    have hC2 := near_of HT8.out
    go_wp2_with fail
    refine hK _ _ (fun _ => hC2) ?_
    clear hK K
    refine wpSeg_last ?_
    go_wp2_with fail
    refine bodyPost_ret (results_cell_row2 (p := 8) (u := 9) rfl _ _ _ _ _ _ _ rfl (H8.out.exact 1 rfl) Tryz.underlying211 rfl (by kernel_rfl)) rfl ?_
    refine HP.out _ _ _ _ (by rw [HN.out]; rfl) (fun o ho => by rw [HN.out] at ho; cases ho; rfl) H8.out.below
   ·have heq : ∀ w', (Op.equalIn 10000 107 (.agg #[.int .i64 k, .int .i64 c, .int .i64 z]) (.agg #[.int .i64 1, .int .i64 (kk : Int), .int .i64 0])).run Tryz.prog w' = .ok false w' := fun w' => equalBh w' _ _ _ _ _ _ _ (by rw [← hd_beq]; simp [hq])
    have HN : Hid (placedN S L (y : Int) = none) := LH (by rw [HPl3.out, if_neg (fun h => hq (HIs.out.1 h).2)])
    clear hbg HPl3 HIs hq
    refine wp_region_seg (C := fun w' => ∃ x : Near [q + 1] w7, w' = x.val) [.fl [0, 1, 2, 3, 4, 5, 6, 7], .sq [8] true, .sq [9] false] (by kernel_rfl) (by kernel_rfl) (by intro c a d v w h; cases d <;> exact h) ?_
    simp only [segs, picks, List.getElem?_cons_succ, List.getElem?_cons_zero]
    refine wpSeg_fl hC1 ?_
    repeat (first | go_big_quiet_step (fail) | quiet_step (fail))
    refine wpQuiet_nil ?_
    refine wpSeg_sq (fun K hK => ?_)
    go_wp2_with (refine wpList_store_mem aggOb (HM7.out.later HD0.out) 1 rfl rfl rfl rfl rfl rfl rfl rfl ?_; intro w8 h8 ht8; have H8 := LH h8; have HT8 := LH (HT0.out.trans ht8); clear h8 ht8)
    have hC2 := near_of HT8.out
    go_wp2_with fail
    refine hK _ _ (fun _ => hC2) ?_
    clear hK K
    refine wpSeg_last ?_
    go_wp2_with fail
    refine bodyPost_ret (results_cell_row2 (p := 8) (u := 9) rfl _ _ _ _ _ _ _ rfl (H8.out.exact 1 rfl) Tryz.underlying211 rfl (by kernel_rfl)) rfl ?_
    refine HP.out _ _ _ _ (by rw [HN.out]; rfl) (fun o ho => by rw [HN.out] at ho; cases ho) H8.out.below
 rw [ofV_large _ hsm]
 have HNb : Hid (1 ≤ objBlocks s) := LH (by
  unfold objBlocks
  rw [if_neg hsm]
  have := HS0.out
  omega)
 have HPl3 : Hid (placedN S L (y : Int) = if y % 512 = 0 ∧ wholeN L b = objBlocks s then some ⟨p, d, 0⟩ else none) := LH (by rw [HPl2.out, if_neg hsm])
 clear HPl2 hsm HSm
 have HWh := LH (bwhole_any (some ⟨b1, o1, none⟩) B cap L HLen.out w5 HC5.out hB b hb2)
 go_wp2_with fail
 refine HWh.out.mono ?_
 rintro e w6 hp6
 obtain ⟨hv6, hb6⟩ := hp6
 have HM6 := LH (HM5.out.later hb6)
 clear hb6 HWh
 have c0 := HM6.out.cell 0 0 rfl rfl
 have d0 := HM6.out.cell 2 0 rfl rfl
 have d1 := HM6.out.cell 2 1 rfl rfl
 have r0 := fun x => near_cell (L := [q + 1]) d0 HNs.out.2.1 x
 have r1 := fun x => near_cell (L := [q + 1]) d1 HNs.out.2.1 x
 have r2 := fun x => near_cell (L := [q + 1]) c0 HNs.out.1 x
 have HT0 : Hid (Touch [q + 1] w6 w6.drew) := LH (Touch.ofBelow (later_below (later_drew w6)))
 have HD0 : Hid (Below w6.heap.size w6 w6.drew) := LH (later_below (later_drew w6))
 have hC1 := near_of HT0.out
 clear c0 d0 d1
 have HFi := LH (fun w => gfirstN_any B hB b hb2 w)
 obtain ⟨nb, hnb⟩ : ∃ nb, nb = objBlocks s := ⟨_, rfl⟩
 rw [← hnb] at HPl3 HNb HBl
 obtain ⟨wn, hwn⟩ : ∃ wn, wn = wholeN L b := ⟨_, rfl⟩
 rw [← hwn] at HPl3 hv6
 clear hnb hwn
 by_cases hw0 : wn = 0
 ·subst hw0
  have hv7 : e = .returned (.tuple #[.int .i64 0, .bool false]) := by rw [hv6]; rfl
  have HN : Hid (placedN S L (y : Int) = none) := LH (by rw [HPl3.out, if_neg (by have := HNb.out; omega)])
  subst hv7
  clear hv6
  go_upto_region 13 with fail
  refine wp_region_seg (C := fun w' => ∃ x : Near [q + 1] w6, w' = x.val) [.fl [0, 1, 2, 3, 4, 5], .sq [6] true, .fl [7, 8, 9, 10, 11], .sq [12] true, .fl [13, 14], .sq [15] true, .sq [16] false] (by kernel_rfl) (by kernel_rfl) (by intro c a d v w h; cases d <;> exact h) ?_
  simp only [segs, picks, List.getElem?_cons_succ, List.getElem?_cons_zero]
  refine wpSeg_fl hC1 ?_
  repeat (first | go_big_quiet_step (fail) | quiet_step (fail))
  refine wpQuiet_nil ?_
  refine wpSeg_sq (fun K hK => ?_)
  go_wp2_with fail
  go_wp2_with fail
  refine hK _ _ (fun _ => hC1) ?_
  clear hK K
  refine wpSeg_fl hC1 ?_
  repeat (first | go_big_quiet_step (fail) | quiet_step (fail))
  refine wpQuiet_nil ?_
  refine wpSeg_sq (fun K hK => ?_)
  go_wp2_with fail
  go_wp2_with fail
  refine hK _ _ (fun _ => hC1) ?_
  clear hK K
  refine wpSeg_fl hC1 ?_
  repeat (first | go_big_quiet_step (fail) | quiet_step (fail))
  refine wpQuiet_nil ?_
  refine wpSeg_sq (fun K hK => ?_)
  go_wp2_with (refine wpList_store_mem aggOb (HM6.out.later HD0.out) 1 rfl rfl rfl rfl rfl rfl rfl rfl ?_; intro w8 h8 ht8; have H8 := LH h8; have HT8 := LH (HT0.out.trans ht8); clear h8 ht8)
  have hC2 := near_of HT8.out
  go_wp2_with fail
  refine hK _ _ (fun _ => hC2) ?_
  clear hK K
  refine wpSeg_last ?_
  go_wp2_with fail
  refine bodyPost_ret (results_cell_row2 (p := 8) (u := 9) rfl _ _ _ _ _ _ _ rfl (H8.out.exact 1 rfl) Tryz.underlying211 rfl (by kernel_rfl)) rfl ?_
  refine HP.out _ _ _ _ (by rw [HN.out]; rfl) (fun o ho => by rw [HN.out] at ho; cases ho) H8.out.below
 have hv7 : e = .returned (.tuple #[.int .i64 (wn : Int), .bool true]) := by rw [hv6, decide_eq_true hw0]
 subst hv7
 clear hv6
 have hb512 : b < 1000 := by omega
 go_upto_region 13 with fail
 by_cases hy5 : y = b * 512
 case neg =>
  have hy6 : ((y : Int) == (b : Int) * 512) = false := by simp; omega
  have HN : Hid (placedN S L (y : Int) = none) := LH (by rw [HPl3.out, if_neg (by have := HBy.out; omega)])
  clear hy5
  refine wp_region_seg (C := fun w' => ∃ x : Near [q + 1] w6, w' = x.val) [.fl [0, 1, 2, 3, 4, 5], .sq [6] true, .fl [7, 8, 9, 10, 11], .sq [12] true, .fl [13, 14], .sq [15] true, .sq [16] false] (by kernel_rfl) (by kernel_rfl) (by intro c a d v w h; cases d <;> exact h) ?_
  simp only [segs, picks, List.getElem?_cons_succ, List.getElem?_cons_zero]
  refine wpSeg_fl hC1 ?_
  repeat (first | go_big_quiet_step (fail) | quiet_step (fail))
  refine wpQuiet_nil ?_
  refine wpSeg_sq (fun K hK => ?_)
  go_wp2_with fail
  refine (HFi.out _).mono ?_
  rintro e w7 ⟨rfl, hb7⟩
  have HD7 := LH (HD0.out.trans (hb7.mono HD0.out.size))
  have HT7 := LH (HT0.out.later hb7)
  have hC2 := near_of HT7.out
  clear hb7
  go_wp2_with fail
  refine hK _ _ (fun _ => hC2) ?_
  clear hK K
  refine wpSeg_fl hC2 ?_
  repeat (first | go_big_quiet_step (fail) | quiet_step (fail))
  refine wpQuiet_nil ?_
  refine wpSeg_sq (fun K hK => ?_)
  go_wp2_with fail
  go_wp2_with fail
  refine hK _ _ (fun _ => hC2) ?_
  clear hK K
  refine wpSeg_fl hC2 ?_
  repeat (first | go_big_quiet_step (fail) | quiet_step (fail))
  refine wpQuiet_nil ?_
  refine wpSeg_sq (fun K hK => ?_)
  go_wp2_with (refine wpList_store_mem aggOb (HM6.out.later HD7.out) 1 rfl rfl rfl rfl rfl rfl rfl rfl ?_; intro w8 h8 ht8; have H8 := LH h8; have HT8 := LH (HT7.out.trans ht8); clear h8 ht8)
  have hC3 := near_of HT8.out
  go_wp2_with fail
  refine hK _ _ (fun _ => hC3) ?_
  clear hK K
  refine wpSeg_last ?_
  go_wp2_with fail
  refine bodyPost_ret (results_cell_row2 (p := 8) (u := 9) rfl _ _ _ _ _ _ _ rfl (H8.out.exact 1 rfl) Tryz.underlying211 rfl (by kernel_rfl)) rfl ?_
  refine HP.out _ _ _ _ (by rw [HN.out]; rfl) (fun o ho => by rw [HN.out] at ho; cases ho) H8.out.below
 have hy6 : ((y : Int) == (b : Int) * 512) = true := by simp; omega
 have HN : Hid (placedN S L (y : Int) = if wn = nb then some ⟨p, d, 0⟩ else none) := LH (by
  rw [HPl3.out]
  by_cases c : wn = nb
  ·rw [if_pos ⟨by omega, c⟩, if_pos c]
  ·rw [if_neg (fun h => c h.2), if_neg c])
 clear hy5
 refine wp_region_seg (C := fun w' => ∃ x : Near [q + 1] w6, w' = x.val) [.fl [0, 1, 2, 3, 4, 5], .sq [6] true, .fl [7, 8, 9, 10, 11], .sq [12] true, .fl [13, 14], .sq [15] true, .sq [16] false] (by kernel_rfl) (by kernel_rfl) (by intro c a d v w h; cases d <;> exact h) ?_
 simp only [segs, picks, List.getElem?_cons_succ, List.getElem?_cons_zero]
 refine wpSeg_fl hC1 ?_
 repeat (first | go_big_quiet_step (fail) | quiet_step (fail))
 refine wpQuiet_nil ?_
 refine wpSeg_sq (fun K hK => ?_)
 go_wp2_with fail
 refine (HFi.out _).mono ?_
 rintro e w7 ⟨rfl, hb7⟩
 have HD7 := LH (HD0.out.trans (hb7.mono HD0.out.size))
 have HT7 := LH (HT0.out.later hb7)
 have hC2 := near_of HT7.out
 clear hb7
 go_wp2_with fail
 refine hK _ _ (fun _ => hC2) ?_
 clear hK K
 refine wpSeg_fl hC2 ?_
 repeat (first | go_big_quiet_step (fail) | quiet_step (fail))
 refine wpQuiet_nil ?_
 refine wpSeg_sq (fun K hK => ?_)
 go_wp2_with fail
 refine (HBl.out _).mono ?_
 rintro e w8 ⟨rfl, hb8⟩
 have HD8 := LH (HD7.out.trans (hb8.mono HD7.out.size))
 have HT8 := LH (HT7.out.later hb8)
 have hC3 := near_of HT8.out
 clear hb8
 go_wp2_with fail
 refine hK _ _ (fun _ => hC3) ?_
 clear hK K
 refine wpSeg_fl hC3 ?_
 repeat (first | go_big_quiet_step (fail) | quiet_step (fail))
 refine wpQuiet_nil ?_
 refine wpSeg_sq (fun K hK => ?_)
 go_wp2_with (refine wpList_store_mem aggOb (HM6.out.later HD8.out) 1 rfl rfl rfl rfl rfl rfl rfl rfl ?_; intro w9 h9 ht9; have H9 := LH h9; have HT9 := LH (HT8.out.trans ht9); clear h9 ht9)
 have hC4 := near_of HT9.out
 go_wp2_with fail
 refine hK _ _ (fun _ => hC4) ?_
 clear hK K
 refine wpSeg_last ?_
 go_wp2_with fail
 refine bodyPost_ret (results_cell_row2 (p := 8) (u := 9) rfl _ _ _ _ _ _ _ rfl (H9.out.exact 1 rfl) Tryz.underlying211 rfl (by kernel_rfl)) rfl ?_
 refine HP.out _ _ _ _ ?_ (fun o ho => ?_) H9.out.below
 ·rw [HN.out]
  by_cases c : wn = nb
  ·subst c; simp
  ·rw [if_neg c]; simp; omega
 ·rw [HN.out] at ho
  split at ho
  ·cases ho; rfl
  ·cases ho
set_option maxHeartbeats 2000000 in
set_option maxRecDepth 20000 in
theorem aplace_any {w : World} {A : AF} {n B : Nat} {m : Al} (h : AlAt w A n B m) (hB : B ≤ 1000) (x : Int) :
  Calls Tryz.prog 118 #[valloc A, .int .i64 x] w (PlPost m.bm.dev m.bm.list x w) := by
 have HM := LH (Mem.one w #[.int .i64 0, .int .i64 0] 211)
 have HP : Hid (∀ (p d : Int) b w', b = (placedN m.bm.dev m.bm.list x).isSome → (∀ o, placedN m.bm.dev m.bm.list x = some o → o = ⟨p, d, 0⟩) → Below w.heap.size w w' → PlPost m.bm.dev m.bm.list x w (.returned (.tuple #[vob p d, .bool b])) w') := LH (fun p d b w' h1 h2 h3 => by subst h1; exact ⟨⟨p, d, rfl, h2⟩, h3⟩)
 have HLn : Hid (m.bm.list.length = B) := LH h.man.tab.len
 have HSm : Hid (m.bm.dev.cache.length ≤ 1000000) := LH h.man.dev.small
 generalize PlPost m.bm.dev m.bm.list x w = Post at *
 have HA0 := LH (h.below HM.out.below)
 have HAh := LH h
 clear h
 go_enter Tryz.func118, Tryz.ntmps118
 go_upto_region 1 with fail
 obtain ⟨q, hq⟩ : ∃ q, q = w.heap.size := ⟨_, rfl⟩
 have HQn : Hid (∀ k ∈ A.list, k ∉ [q]) := LH (fun k hk hm => by
  have := HAh.out.mem k hk
  simp at hm
  omega)
 rw [← hq] at HM ⊢
 generalize w.alloc _ = w0 at *
 clear hq
 have c0 := HA0.out.c0
 have c1 := HA0.out.c1
 have c2 := HA0.out.c2
 have c3 := HA0.out.man.c0
 have r0 := fun x => near_cell (L := [q]) c0 (HQn.out _ (by simp [AF.list, AF.fix])) x
 have r1 := fun x => near_cell (L := [q]) c1 (HQn.out _ (by simp [AF.list, AF.fix])) x
 have r2 := fun x => near_cell (L := [q]) c2 (HQn.out _ (by simp [AF.list, AF.fix])) x
 have r3 := fun x => near_cell (L := [q]) c3 (HQn.out _ (by simp [AF.list, AF.fix, MF.list])) x
 have HT0 : Hid (Touch [q] w0 w0.drew) := LH (Touch.ofBelow (later_below (later_drew w0)))
 have HD0 : Hid (Below w0.heap.size w0 w0.drew) := LH (later_below (later_drew w0))
 have hC1 := near_of HT0.out
 clear c0 c1 c2 c3
 refine wp_region_seg (C := fun w' => ∃ x : Near [q] w0, w' = x.val) [.fl [0, 1, 2, 3, 4, 5, 6, 7, 8, 9, 10, 11, 12, 13, 14, 16], .sq [15] true, .sq [17] false, .fl [18, 19], .sq [20, 21] false] (by kernel_rfl) (by kernel_rfl) (by intro c a d v w h; cases d <;> exact h) ?_
 simp only [segs, picks, List.getElem?_cons_succ, List.getElem?_cons_zero]
 refine wpSeg_fl hC1 ?_
 repeat (first | go_big_quiet_step (fail) | quiet_step (fail))
 refine wpQuiet_nil ?_
 clear r0 r1 r2 r3
 generalize w0.drew = w1 at *
 have HA1 := LH (HA0.out.below HD0.out)
 refine wpSeg_sq (fun K hK => ?_)
 go_wp2_with fail
 refine (tall_any HA1.out.man.tab hB).mono ?_
 rintro e w2 ⟨g, cg, rfl, hg1, hg2, hrow, hb2⟩
 have HD2 := LH (HD0.out.trans (hb2.mono HD0.out.size))
 have HT2 := LH (HT0.out.later hb2)
 have hC2 := near_of HT2.out
 have HR2 := LH hrow.cells
 clear hb2 hrow
 go_wp2_with fail
 refine hK _ _ (fun _ => hC2) ?_
 clear hK K
 have HA2 := LH (HA0.out.below HD2.out)
 refine wpSeg_sq (fun K hK => ?_)
 go_wp2_with fail
 refine (aplaced_any HA2.out.man.dev _ B cg m.bm.list HLn.out HR2.out hB HSm.out x).mono ?_
 rintro e w3 ⟨⟨p, d, rfl, ho⟩, hb3⟩
 have HO := LH ho
 have HD3 := LH (HD2.out.trans (hb3.mono HD2.out.size))
 have HT3 := LH (HT2.out.later hb3)
 have hC3 := near_of HT3.out
 clear ho hb3
 go_wp2_with fail
 refine hK _ _ (fun _ => hC3) ?_
 clear hK K
 refine wpSeg_fl hC3 ?_
 repeat (first | go_big_quiet_step (fail) | quiet_step (fail))
 refine wpQuiet_nil ?_
 refine wpSeg_last ?_
 go_wp2_with (refine wpList_store_mem aggOb (HM.out.later HD3.out) 0 rfl rfl rfl rfl rfl rfl rfl rfl ?_; intro w9 h9 ht9; have H9 := LH h9; clear h9 ht9)
 refine bodyPost_ret (results_cell_row2 (p := 4) (u := 5) rfl _ _ _ _ _ _ _ rfl (H9.out.exact 0 rfl) Tryz.underlying211 rfl (by kernel_rfl)) rfl ?_
 exact HP.out _ _ _ _ rfl HO.out H9.out.below
def chgL (was now : List Hd) (k B : Nat) : List (Nat × Nat) := ((List.range' k (B - k)).filter (fun b => decide (was.getD b default ≠ now.getD b default))).map (fun b => (256 + b, encN (b : Int) (now.getD b default).k (now.getD b default).c (now.getD b default).l))
theorem chgL_skip {was now : List Hd} {k B : Nat} (h : k < B) (he : was.getD k default = now.getD k default) : chgL was now k B = chgL was now (k + 1) B := by
 unfold chgL
 rw [show B - k = (B - (k + 1)) + 1 by omega, List.range'_succ, List.filter_cons_of_neg (by simpa using he)]
theorem chgL_cons {was now : List Hd} {k B : Nat} (h : k < B) (he : was.getD k default ≠ now.getD k default) : chgL was now k B = (256 + k, encN (k : Int) (now.getD k default).k (now.getD k default).c (now.getD k default).l) :: chgL was now (k + 1) B := by
 unfold chgL
 rw [show B - k = (B - (k + 1)) + 1 by omega, List.range'_succ, List.filter_cons_of_pos (by simpa using he)]
 rfl
theorem chgL_nil (was now : List Hd) (B : Nat) : chgL was now B B = [] := by unfold chgL; rw [Nat.sub_self]; rfl
def Dev.rewrite (S : Dev) (was now : List Hd) (B : Nat) : Done := if chgL was now 1 B = [] then ⟨S, 0⟩ else (S.stores (chgL was now 1 B)).bind (fun S => S.persist 257 ((B : Int) - 1))
set_option maxHeartbeats 8000000 in
set_option maxRecDepth 20000 in
theorem rvwrite_any {w : World} {F : Foot} {S : Dev} (h : DevAt w F S) {N : Nat} (hN : N ≤ 900000000) (ho : S.ok N) {B wg wc' ng nc : Nat} {was now : List Hd} (hw : was.length = B) (hn : now.length = B) (hB1 : 1 ≤ B) (hB : B ≤ 1000)
  (hrw : RowAt w wg 107 (hdCs was)) (hrn : RowAt w ng 107 (hdCs now)) (hwf : wg ∉ F.list) (hnf : ng ∉ F.list) :
  Calls Tryz.prog 67 #[vdev F, vgeom (B : Int), .slice (some ⟨wg, 0, none⟩) B wc', .slice (some ⟨ng, 0, none⟩) B nc] w (DonePost (S.rewrite was now B) F w) := by
 have HP : Hid (∀ (D : Done) w', D = S.rewrite was now B → DevAt w' F D.dev → Touch F.list w w' → DonePost (S.rewrite was now B) F w (.returned (.int .i64 D.err)) w') := LH (fun D w' h1 h2 h3 => by rw [← h1]; exact ⟨rfl, h2, h3⟩)
 generalize DonePost (S.rewrite was now B) F w = Post at *
 have hbx := below_alloc w (.cells #[.int .i64 (B : Int)] 44)
 have hcx : (w.alloc (.cells #[.int .i64 (B : Int)] 44)).cell? ⟨w.heap.size, 0, none⟩ = some (.int .i64 (B : Int)) := cell_alloc_new _ _ _ 0 _ rfl
 have HD := LH (h.below hbx)
 have HT : Hid (Touch F.list w (w.alloc (.cells #[.int .i64 (B : Int)] 44))) := LH (Touch.ofBelow hbx)
 have HQ : Hid (w.heap.size ∉ F.list) := LH (fun hm => by have := h.mem _ hm; omega)
 have HO := LH ho
 have HRw := LH (hrw.below hbx)
 have HRn := LH (hrn.below hbx)
 have HWl := LH hw
 have HNl := LH hn
 have HWf := LH hwf
 have HNf := LH hnf
 clear h hbx ho hrw hrn hw hn hwf hnf
 go_enter Tryz.func67, Tryz.ntmps67
 go_upto_region 1 with fail
 obtain ⟨q, hq⟩ : ∃ q, q = w.heap.size := ⟨_, rfl⟩
 rw [← hq] at hcx HQ ⊢
 generalize w.alloc _ = w0 at *
 clear hq
 go_wp2_with fail
 go_loopw [9, 10] (fun cv iv wr => ∃ (b : Nat) (T : Dev) (ch : Bool), 1 ≤ b ∧ b ≤ B ∧ cv = .bool ch ∧ iv = .int .i64 (b : Int) ∧ Hid (DevAt wr F T) ∧ Hid (Touch F.list w wr) ∧ Hid (T.ok (N + b)) ∧ wr.cell? ⟨q, 0, none⟩ = some (.int .i64 (B : Int)) ∧
  Hid (T.stores (chgL was now b B) = S.stores (chgL was now 1 B)) ∧ Hid ((ch = false → chgL was now 1 B = chgL was now b B) ∧ (ch = true → chgL was now 1 B ≠ [])) ∧ Hid (RowAt wr wg 107 (hdCs was)) ∧ Hid (RowAt wr ng 107 (hdCs now))) (fun _ iv _ => B - (RowKit.intOf iv).toNat)
 case atStart => exact ⟨1, S, false, Nat.le_refl _, by omega, rfl, rfl, HD, HT, LH (HO.out.mono (by omega)), hcx, LH rfl, LH ⟨fun _ => rfl, fun h => by cases h⟩, HRw, HRn⟩
 case round =>
  obtain ⟨b, T, ch, hb1, hb2, rfl, rfl, HDr, HTr, HOr, hc, HSt, HCh, HRwr, HRnr⟩ := hrel
  clear hcx HD HT HRw HRn
  by_cases hlt : b < B
  ·have hlt' : (b : Int) < (B : Int) := by omega
   obtain ⟨k1, c1, z1, he1⟩ := hdGetD was b
   obtain ⟨k2, c2, z2, he2⟩ := hdGetD now b
   obtain ⟨bw, ow, qw, x0, x1, x2⟩ := hd_cells HRwr.out.cells (by rw [HWl.out]; exact hlt) he1
   obtain ⟨bn, on, qn, y0, y1, y2⟩ := hd_cells HRnr.out.cells (by rw [HNl.out]; exact hlt) he2
   injection qw with qw
   injection qw with qw1 qw2
   injection qn with qn
   injection qn with qn1 qn2
   subst qw1 qw2 qn1 qn2
   rw [Nat.zero_add] at x0 x1 x2 y0 y1 y2
   have rx0 := fun x => later_cell x0 x
   have rx1 := fun x => later_cell x1 x
   have rx2 := fun x => later_cell x2 x
   have ry0 := fun x => later_cell y0 x
   have ry1 := fun x => later_cell y1 x
   have ry2 := fun x => later_cell y2 x
   have HE1 := LH he1
   have HE2 := LH he2
   clear he1 he2 x0 x1 x2
   by_cases hqe : (⟨k1, c1, z1⟩ : Hd) = ⟨k2, c2, z2⟩
   ·have heq : ∀ w', (Op.equalIn 10000 107 (.agg #[.int .i64 k1, .int .i64 c1, .int .i64 z1]) (.agg #[.int .i64 k2, .int .i64 c2, .int .i64 z2])).run Tryz.prog w' = .ok true w' := fun w' => equalBh w' _ _ _ _ _ _ _ (by rw [← hd_beq]; simp [hqe])
    have HSk := LH (chgL_skip (was := was) (now := now) hlt (by rw [HE1.out, HE2.out, hqe]))
    have HSt2 : Hid (T.stores (chgL was now (b + 1) B) = S.stores (chgL was now 1 B)) := LH (by rw [← HSk.out]; exact HSt.out)
    have HCh2 : Hid ((ch = false → chgL was now 1 B = chgL was now (b + 1) B) ∧ (ch = true → chgL was now 1 B ≠ [])) := LH (by rw [← HSk.out]; exact HCh.out)
    clear hqe y0 y1 y2
    go_upto_region 5 with fail
    refine wp_region_later (by kernel_rfl) (by kernel_rfl) ?_
    repeat (first | go_big_quiet_step (fail) | quiet_step (fail))
    refine wpQuiet_nil ?_
    rintro w1 ⟨z, hz⟩
    have hbz : Below wr.heap.size wr w1 := by rw [hz]; exact z.below
    have HD1 := LH (HDr.out.below hbz)
    have HT1 : Hid (Touch F.list w w1) := LH (HTr.out.trans (Touch.ofBelow hbz))
    have hc1 := below_cells hbz hc (Nat.le_refl _)
    have HR1 := LH (HRwr.out.below hbz)
    have HR2 := LH (HRnr.out.below hbz)
    clear hz hbz rx0 rx1 rx2 ry0 ry1 ry2 hc HDr HTr HRwr HRnr heq
    go_wp2_with fail
    exact ⟨⟨b + 1, T, ch, by omega, by omega, rfl, vint (by omega), HD1, HT1, LH (HOr.out.mono (by omega)), hc1, HSt2, HCh2, HR1, HR2⟩, by simp [RowKit.intOf]; omega⟩
   ·have heq : ∀ w', (Op.equalIn 10000 107 (.agg #[.int .i64 k1, .int .i64 c1, .int .i64 z1]) (.agg #[.int .i64 k2, .int .i64 c2, .int .i64 z2])).run Tryz.prog w' = .ok false w' := fun w' => equalBh w' _ _ _ _ _ _ _ (by rw [← hd_beq]; simp [hqe])
    have HCo := LH (chgL_cons (was := was) (now := now) hlt (by rw [HE1.out, HE2.out]; exact hqe))
    rw [HE2.out] at HCo
    dsimp only at HCo
    have HSt1 := LH (by rw [HCo.out] at HSt; exact HSt.out)
    obtain ⟨x, hx⟩ : ∃ x, x = encN (b : Int) k2 c2 z2 := ⟨_, rfl⟩
    have HXl : Hid (x < 18446744073709551616) := LH (by rw [hx]; exact encN_lt _ _ _ _)
    have HXe := LH hx
    rw [← hx] at HSt1
    have HSc := LH (stores_cons T (256 + b) x (chgL was now (b + 1) B))
    have HSt2 := LH (HSc.out.symm.trans HSt1.out)
    have HNe : Hid (chgL was now 1 B ≠ []) := LH (by
     cases hch : ch with
     | true => exact HCh.out.2 hch
     | false => rw [HCh.out.1 hch, HCo.out]; simp)
    clear hqe HSc HSt1 HSt hx
    go_upto_region 5 with fail
    refine wp_region_later (by kernel_rfl) (by kernel_rfl) ?_
    repeat (first | go_big_quiet_step (fail) | quiet_step (fail))
    refine wpQuiet_nil ?_
    rintro w1 ⟨z, hz⟩
    have hbz : Below wr.heap.size wr w1 := by rw [hz]; exact z.below
    have HD1 := LH (HDr.out.below hbz)
    have HT1 : Hid (Touch F.list w w1) := LH (HTr.out.trans (Touch.ofBelow hbz))
    have hc1 := below_cells hbz hc (Nat.le_refl _)
    have HR1 := LH (HRwr.out.below hbz)
    have HR2 := LH (HRnr.out.below hbz)
    have y0' := below_cells hbz y0 (Nat.le_refl _)
    have y1' := below_cells hbz y1 (Nat.le_refl _)
    have y2' := below_cells hbz y2 (Nat.le_refl _)
    clear hz hbz rx0 rx1 rx2 ry0 ry1 ry2 hc HDr HTr HRwr HRnr heq y0 y1 y2
    have rc := fun x => later_cell hc1 x
    have ry0 := fun x => later_cell y0' x
    have ry1 := fun x => later_cell y1' x
    have ry2 := fun x => later_cell y2' x
    have HH : Hid (hdAt (B : Int) (b : Int) = ((256 + b : Nat) : Int)) := LH (by unfold hdAt; rw [if_neg (by omega)]; omega)
    go_upto_region 7 with fail
    refine wp_region_seg (C := fun w' => ∃ x : Later (w1), w' = x.val) [.fl [0, 1, 2, 4, 5, 6, 7, 8], .sq [3] true, .sq [9] true, .sq [10, 11] false] (by kernel_rfl) (by kernel_rfl) (by intro c a d v w h; cases d <;> exact h) ?_
    simp only [segs, picks, List.getElem?_cons_succ, List.getElem?_cons_zero]
    have hC1 := later_drew (w1)
    refine wpSeg_fl hC1 ?_
    repeat (first | go_big_quiet_step (fail) | quiet_step (fail))
    refine wpQuiet_nil ?_
    have HB2 := LH (later_below hC1)
    generalize w1.drew = w2 at *
    clear rc ry0 ry1 ry2 y0' y1' y2'
    refine wpSeg_sq (fun K hK => ?_)
    go_wp2_with fail
    refine (gheader_any (B : Int) (b : Int) w2 (by omega)).mono ?_
    rintro e w3 ⟨rfl, hb3⟩
    rw [HH.out]
    obtain ⟨j, hj⟩ : ∃ j, j = 256 + b := ⟨_, rfl⟩
    have hj9 : j ≤ 2000 := by omega
    rw [← hj] at HSt2 ⊢
    have hC2 := later_step hC1 hb3
    have HB3 := LH (HB2.out.trans (hb3.mono HB2.out.size))
    clear hj HH hb3
    go_wp2_with fail
    refine hK _ _ (fun _ => hC2) ?_
    clear hK K
    refine wpSeg_sq (fun K hK => ?_)
    go_wp2_with fail
    refine (bencode_any (b : Int) k2 c2 z2 (by omega) (by omega) w3).mono ?_
    rintro e w4 ⟨rfl, hb4⟩
    rw [← HXe.out]
    have hC3 := later_step hC2 hb4
    have HB4 := LH (HB3.out.trans (hb4.mono HB3.out.size))
    clear hb4
    go_wp2_with fail
    refine hK _ _ (fun _ => hC3) ?_
    clear hK K
    clear hC1 hC2 hC3
    have HD4 := LH (HD1.out.below HB4.out)
    have HT4 : Hid (Touch F.list w w4) := LH (HT1.out.trans (Touch.ofBelow HB4.out))
    have hc4 := below_cells HB4.out hc1 (Nat.le_refl _)
    have HR3 := LH (HR1.out.below HB4.out)
    have HR4 := LH (HR2.out.below HB4.out)
    clear hc1 HD1 HT1 HR1 HR2 HB2 HB3 HB4
    refine wpSeg_last ?_
    go_wp2_with fail
    refine (store_any HD4.out (N := N + b) (by omega) HOr.out (j : Int) x HXl.out).mono ?_
    rintro e w5 ⟨rfl, hd5, ht5⟩
    have hc5 := cell_of_touch ht5 HQ.out hc4
    have HD5 := LH hd5
    have HT5 : Hid (Touch F.list w w5) := LH (HT4.out.trans ht5)
    have HO5 := LH (Dev.store_okN HOr.out (j : Int) x)
    have HR5 := LH (HR3.out.keep (ht5.block wg HR3.out.lt HWf.out))
    have HR6 := LH (HR4.out.keep (ht5.block ng HR4.out.lt HNf.out))
    clear hd5 ht5 hc4 HD4 HT4 HR3 HR4
    by_cases he : T.storeE (j : Int) = 0
    ·have HSt3 := LH (by rw [if_neg (by simp [he])] at HSt2; exact HSt2.out)
     rw [he]
     generalize T.store (j : Int) x = T' at *
     clear he HSt2 HOr
     go_wp2_with fail
     exact ⟨⟨b + 1, T', true, by omega, by omega, rfl, vint (by omega), HD5, HT5, LH (HO5.out.mono (by omega)), hc5, HSt3, LH ⟨fun h => (by cases h), fun _ => HNe.out⟩, HR5, HR6⟩, by simp [RowKit.intOf]; omega⟩
    ·have HSt3 := LH (by rw [if_pos he] at HSt2; exact HSt2.out)
     obtain ⟨er, her⟩ : ∃ er, er = T.storeE (j : Int) := ⟨_, rfl⟩
     rw [← her] at he HSt3 ⊢
     have he' : (er != 0) = true := by simpa using he
     generalize T.store (j : Int) x = T' at *
     have HF3 := LH (fun w' => HP.out ⟨T', er⟩ w' (by unfold Dev.rewrite; rw [if_neg HNe.out, ← HSt3.out, Done.bind_err _ he]))
     clear he her HSt2 HOr HSt3
     go_wp2_with fail
     exact HF3.out _ HD5.out HT5.out
  ·have hbe : b = B := by omega
   have HSt2 : Hid (S.stores (chgL was now 1 B) = ⟨T, 0⟩) := LH (by rw [← HSt.out, hbe, chgL_nil]; rfl)
   have hltd : decide ((b : Int) < (B : Int)) = false := by simp; omega
   cases ch with
   | false =>
    have hnil : chgL was now 1 B = [] := by rw [HCh.out.1 rfl, hbe, chgL_nil]
    have HTS : Hid (T = S) := LH (by
     have := HSt2.out
     rw [hnil] at this
     have h2 : (⟨S, 0⟩ : Done) = ⟨T, 0⟩ := this
     injection h2 with h2
     exact h2.symm)
    have HF3 := LH (fun w' => HP.out ⟨S, 0⟩ w' (by unfold Dev.rewrite; rw [if_pos hnil]))
    clear hnil hbe HSt
    go_wp2_with fail
    exact HF3.out _ (by rw [← HTS.out]; exact HDr.out) HTr.out
   | true =>
    have HF3 := LH (fun (D : Done) w' (h1 : D = T.persist 257 ((B : Int) - 1)) => HP.out D w' (by unfold Dev.rewrite; rw [if_neg (HCh.out.2 rfl), HSt2.out, Done.bind_ok, h1]))
    have HO2 : Hid (T.ok (N + B)) := LH (by rw [← hbe]; exact HOr.out)
    have HH : Hid (hdAt (B : Int) 1 = if B = 1 then -1 else 257) := LH (by
     unfold hdAt
     by_cases c : B = 1
     ·rw [if_pos (by omega), if_pos c]
     ·rw [if_neg (by omega), if_neg c]; rfl)
    clear hbe HSt HOr
    by_cases hB2 : B = 1
    ·exact absurd (by rw [hB2]; exact chgL_nil was now 1) (HCh.out.2 rfl)
    rw [if_neg hB2] at HH
    go_wp2_with fail
    refine (gheader_any (B : Int) 1 _ (by omega)).mono ?_
    rintro e w3 ⟨rfl, hb3⟩
    rw [HH.out]
    have HD3 := LH (HDr.out.below hb3)
    have HT3 : Hid (Touch F.list w w3) := LH (HTr.out.trans (Touch.ofBelow hb3))
    clear hb3 hc
    go_wp2_with fail
    refine (persist_any HD3.out (N := N + B) (by omega) HO2.out 257 ((B : Int) - 1) (by omega) (by omega)).mono ?_
    rintro e w6 ⟨rfl, hd6, ht6⟩
    have HT6 := LH (HT3.out.trans ht6)
    have HD6 := LH hd6
    have HF4 := LH (fun w' => HF3.out _ w' rfl)
    clear hd6 ht6 HF3
    generalize T.persist 257 ((B : Int) - 1) = D at *
    go_wp2_with fail
    exact HF4.out _ HD6.out HT6.out
end Go.Proofs.YtpohaahihdhleaaGreat
namespace Go.Proofs.YtpohaahihdhleaaGreat
inductive Rch (ok : Nat → Prop) (P : Nat → List Nat) (from_ : List Nat) : Nat → Prop
 | base {x : Nat} (h : x ∈ from_) (hx : ok x) : Rch ok P from_ x
 | step {y x : Nat} (hy : Rch ok P from_ y) (h : x ∈ P y) (hx : ok x) : Rch ok P from_ x
theorem Rch.ok' {ok : Nat → Prop} {P : Nat → List Nat} {f : List Nat} {x : Nat} (h : Rch ok P f x) : ok x := by cases h <;> assumption
section
variable {ok : Nat → Prop} {P : Nat → List Nat} {f seen rest : List Nat}
end
structure Mk where
 ms : List Bool
 sc : List Bool
 st : List Nat
 most : Nat
 miss : Nat
 again : Bool
 cur : Nat
section
variable {U : List Bool} {P : Nat → List Nat} {M : Mk}
end
end Go.Proofs.YtpohaahihdhleaaGreat
namespace Go.Proofs.YtpohaahihdhleaaGreat
open Go.RowKit Go.Maps Go.ChangeMaps
structure Trc (ok : Nat → Prop) (P : Nat → List Nat) (f seen opn rest : List Nat) (bad : Bool) : Prop where
 nd : seen.Nodup
 in_ : ∀ x ∈ seen, Rch ok P f x
 sub : ∀ x ∈ opn, x ∈ seen
 from_ : ∀ x ∈ rest, x ∈ f ∨ ∃ y ∈ seen, x ∈ P y
 base : ∀ x ∈ f, ok x → x ∈ seen ∨ x ∈ rest
 next : ∀ y ∈ seen, y ∈ opn ∨ ∀ x ∈ P y, ok x → x ∈ seen ∨ x ∈ rest
 clean : bad = false → (∀ x ∈ f, x ≠ 0 → ok x ∨ x ∈ rest) ∧ (∀ y ∈ seen, y ∈ opn ∨ ∀ x ∈ P y, x ≠ 0 → ok x ∨ x ∈ rest)
 dirty : bad = true → ∃ x, x ≠ 0 ∧ ¬ ok x ∧ (x ∈ f ∨ ∃ y ∈ seen, x ∈ P y)
def CloOk (ok : Nat → Prop) (P : Nat → List Nat) (f : List Nat) : Prop := ∀ x, x ≠ 0 → (x ∈ f ∨ ∃ y, Rch ok P f y ∧ x ∈ P y) → ok x
section
variable {ok : Nat → Prop} {P : Nat → List Nat} {f seen opn rest : List Nat} {bad : Bool}
theorem Trc.start (ok : Nat → Prop) (P : Nat → List Nat) (f : List Nat) : Trc ok P f [] [] f false :=
 ⟨List.nodup_nil, fun _ h => by simp at h, fun _ h => by simp at h, fun _ h => .inl h, fun _ h _ => .inr h, fun _ h => by simp at h, fun _ => ⟨fun _ h _ => .inr h, fun _ h => by simp at h⟩, fun h => by cases h⟩
theorem Trc.skip {a : Nat} (h : Trc ok P f seen opn (a :: rest) bad) (h0 : ¬ ok 0) (ha : a = 0 ∨ a ∈ seen) : Trc ok P f seen opn rest bad := by
 have go : ∀ x, ok x → x ∈ seen ∨ x ∈ a :: rest → x ∈ seen ∨ x ∈ rest := fun x hx hm => by
  rcases hm with hm | hm
  ·exact .inl hm
  ·rcases List.mem_cons.1 hm with rfl | hm
   ·rcases ha with rfl | ha
    ·exact absurd hx h0
    ·exact .inl ha
   ·exact .inr hm
 have go2 : ∀ x, x ≠ 0 → ok x ∨ x ∈ a :: rest → ok x ∨ x ∈ rest := fun x hx hm => by
  rcases hm with hm | hm
  ·exact .inl hm
  ·rcases List.mem_cons.1 hm with rfl | hm
   ·rcases ha with rfl | ha
    ·exact absurd rfl hx
    ·exact .inl (h.in_ _ ha).ok'
   ·exact .inr hm
 refine ⟨h.nd, h.in_, h.sub, fun x hx => h.from_ x (List.mem_cons_of_mem _ hx), fun x hm hx => go x hx (h.base x hm hx), fun y hy => ?_, fun hb => ⟨fun x hm hx => go2 x hx ((h.clean hb).1 x hm hx), fun y hy => ?_⟩, h.dirty⟩
 ·rcases h.next y hy with c | c
  ·exact .inl c
  ·exact .inr (fun x hm hx => go x hx (c x hm hx))
 ·rcases (h.clean hb).2 y hy with c | c
  ·exact .inl c
  ·exact .inr (fun x hm hx => go2 x hx (c x hm hx))
theorem Trc.fail {a : Nat} (h : Trc ok P f seen opn (a :: rest) bad) (ha : a ≠ 0) (hn : ¬ ok a) : Trc ok P f seen opn rest true := by
 have go : ∀ x, ok x → x ∈ seen ∨ x ∈ a :: rest → x ∈ seen ∨ x ∈ rest := fun x hx hm => by
  rcases hm with hm | hm
  ·exact .inl hm
  ·rcases List.mem_cons.1 hm with rfl | hm
   ·exact absurd hx hn
   ·exact .inr hm
 refine ⟨h.nd, h.in_, h.sub, fun x hx => h.from_ x (List.mem_cons_of_mem _ hx), fun x hm hx => go x hx (h.base x hm hx), fun y hy => ?_, fun hb => (by cases hb), fun _ => ⟨a, ha, hn, h.from_ a List.mem_cons_self⟩⟩
 rcases h.next y hy with c | c
 ·exact .inl c
 ·exact .inr (fun x hm hx => go x hx (c x hm hx))
theorem Trc.take {a : Nat} (h : Trc ok P f seen opn (a :: rest) bad) (ha : ok a) (hs : a ∉ seen) : Trc ok P f (seen ++ [a]) (opn ++ [a]) rest bad := by
 have hr : Rch ok P f a := by
  rcases h.from_ a List.mem_cons_self with c | ⟨y, hy, c⟩
  ·exact .base c ha
  ·exact .step (h.in_ y hy) c ha
 have go : ∀ x, x ∈ seen ∨ x ∈ a :: rest → x ∈ seen ++ [a] ∨ x ∈ rest := fun x hm => by
  rcases hm with hm | hm
  ·exact .inl (List.mem_append_left _ hm)
  ·rcases List.mem_cons.1 hm with rfl | hm
   ·exact .inl (by simp)
   ·exact .inr hm
 have go2 : ∀ x, ok x ∨ x ∈ a :: rest → ok x ∨ x ∈ rest := fun x hm => by
  rcases hm with hm | hm
  ·exact .inl hm
  ·rcases List.mem_cons.1 hm with rfl | hm
   ·exact .inl ha
   ·exact .inr hm
 have ft : ∀ x, (x ∈ f ∨ ∃ y ∈ seen, x ∈ P y) → x ∈ f ∨ ∃ y ∈ seen ++ [a], x ∈ P y := fun x hx => hx.elim .inl (fun ⟨y, h1, h2⟩ => .inr ⟨y, List.mem_append_left _ h1, h2⟩)
 refine ⟨?_, fun x hm => ?_, fun x hm => ?_, fun x hx => ft x (h.from_ x (List.mem_cons_of_mem _ hx)), fun x hm hx => go x (h.base x hm hx), fun y hy => ?_, fun hb => ⟨fun x hm hx => go2 x ((h.clean hb).1 x hm hx), fun y hy => ?_⟩, fun hb => ?_⟩
 ·rw [List.nodup_append]
  exact ⟨h.nd, by simp, fun x hx y hy => by simp at hy; subst hy; exact fun e => hs (e ▸ hx)⟩
 ·rcases List.mem_append.1 hm with hm | hm
  ·exact h.in_ x hm
  ·simp at hm; subst hm; exact hr
 ·rcases List.mem_append.1 hm with hm | hm
  ·exact List.mem_append_left _ (h.sub x hm)
  ·exact List.mem_append_right _ hm
 ·rcases List.mem_append.1 hy with hy | hy
  ·rcases h.next y hy with c | c
   ·exact .inl (List.mem_append_left _ c)
   ·exact .inr (fun x hm hx => go x (c x hm hx))
  ·exact .inl (List.mem_append_right _ hy)
 ·rcases List.mem_append.1 hy with hy | hy
  ·rcases (h.clean hb).2 y hy with c | c
   ·exact .inl (List.mem_append_left _ c)
   ·exact .inr (fun x hm hx => go2 x (c x hm hx))
  ·exact .inl (List.mem_append_right _ hy)
 ·obtain ⟨x, h1, h2, h3⟩ := h.dirty hb
  exact ⟨x, h1, h2, ft x h3⟩
theorem Trc.pop {a : Nat} (h : Trc ok P f seen (opn ++ [a]) [] bad) : Trc ok P f seen opn (P a) bad := by
 have ha : a ∈ seen := h.sub a (by simp)
 refine ⟨h.nd, h.in_, fun x hx => h.sub x (List.mem_append_left _ hx), fun x hx => .inr ⟨a, ha, hx⟩, fun x hm hx => ?_, fun y hy => ?_, fun hb => ⟨fun x hm hx => ?_, fun y hy => ?_⟩, h.dirty⟩
 ·rcases h.base x hm hx with c | c
  ·exact .inl c
  ·cases c
 ·rcases h.next y hy with c | c
  ·rcases List.mem_append.1 c with c | c
   ·exact .inl c
   ·simp at c; subst c; exact .inr (fun x hm _ => .inr hm)
  ·refine .inr (fun x hm hx => ?_)
   rcases c x hm hx with c | c
   ·exact .inl c
   ·cases c
 ·rcases (h.clean hb).1 x hm hx with c | c
  ·exact .inl c
  ·cases c
 ·rcases (h.clean hb).2 y hy with c | c
  ·rcases List.mem_append.1 c with c | c
   ·exact .inl c
   ·simp at c; subst c; exact .inr (fun x hm _ => .inr hm)
  ·refine .inr (fun x hm hx => ?_)
   rcases c x hm hx with c | c
   ·exact .inl c
   ·cases c
theorem Trc.done (h : Trc ok P f seen [] [] bad) (x : Nat) : x ∈ seen ↔ Rch ok P f x := by
 refine ⟨h.in_ x, fun hr => ?_⟩
 induction hr with
 | base hm hx => exact (h.base _ hm hx).elim id (fun h => by simp at h)
 | step _ hm hx ih =>
  rcases h.next _ ih with c | c
  ·cases c
  ·exact (c _ hm hx).elim id (fun h => by simp at h)
theorem Trc.verdict (h : Trc ok P f seen [] [] bad) : bad = false ↔ CloOk ok P f := by
 constructor
 ·intro hb x hx hm
  rcases hm with hm | ⟨y, hy, hm⟩
  ·rcases (h.clean hb).1 x hm hx with c | c
   ·exact c
   ·cases c
  ·rcases (h.clean hb).2 y ((h.done y).2 hy) with c | c
   ·cases c
   ·rcases c x hm hx with c | c
    ·exact c
    ·cases c
 ·intro hc
  cases hb : bad with
  | false => rfl
  | true =>
   obtain ⟨x, h1, h2, h3⟩ := h.dirty hb
   exact absurd (hc x h1 (h3.elim .inl (fun ⟨y, hy, hm⟩ => .inr ⟨y, h.in_ y hy, hm⟩))) h2
end
def seenM (seen : List Nat) : Lit → Option Value
 | .int .i64 x => if 0 ≤ x ∧ x.toNat ∈ seen then some (.bool true) else none
 | _ => none
theorem seenM_int (seen : List Nat) (a : Nat) : seenM seen (.int .i64 (a : Int)) = if a ∈ seen then some (.bool true) else none := by
 show (if 0 ≤ (a : Int) ∧ (a : Int).toNat ∈ seen then some (Value.bool true) else none) = _
 simp
theorem seenM_some {seen : List Nat} {l : Lit} {v : Value} (h : seenM seen l = some v) : v = .bool true ∧ ∃ a : Nat, a ∈ seen ∧ l = .int .i64 (a : Int) := by
 unfold seenM at h
 split at h
 ·rename_i x
  split at h
  ·rename_i hx
   injection h with h
   exact ⟨h.symm, x.toNat, hx.2, by rw [Int.toNat_of_nonneg hx.1]⟩
  ·cases h
 ·cases h
theorem seenM_put (seen : List Nat) (a : Nat) : putL (seenM seen) (.int .i64 (a : Int)) (some (.bool true)) = seenM (seen ++ [a]) := by
 funext y
 by_cases e : y = .int .i64 (a : Int)
 ·subst e
  rw [putL_same, seenM_int, if_pos (by simp)]
 ·rw [putL_other _ e]
  unfold seenM
  split
  ·rename_i x
   have hne : x ≠ (a : Int) := fun h => e (by rw [h])
   have : (0 ≤ x ∧ x.toNat ∈ seen ++ [a]) ↔ (0 ≤ x ∧ x.toNat ∈ seen) := by
    constructor
    ·rintro ⟨h1, h2⟩
     refine ⟨h1, ?_⟩
     rcases List.mem_append.1 h2 with h2 | h2
     ·exact h2
     ·simp at h2; omega
    ·rintro ⟨h1, h2⟩; exact ⟨h1, List.mem_append_left _ h2⟩
   simp only [this]
  ·rfl
section
variable {P : Program} {k t : TypeId} {w : World} {b n : Nat} {ops : Array Oper} {rest : List Oper} {o : Oper} {a : Act} {Q : Exit → Act → World → Prop}
def SRange (P : Program) (k : TypeId) (w : World) (b r n : Nat) (seen left : List Nat) (cnt : Nat) : Prop :=
 ∃ (D : DataW Value) (lf : Lit → Bool), w.ranges P k rawElem b r n D lf cnt ∧ TellsV D (seenM seen) ∧ ∀ x : Nat, lf (.int .i64 (x : Int)) = decide (x ∈ left)
theorem SRange.kept {w' : World} {row : Option Nat} {seen left : List Nat} {cnt r : Nat} (h : SRange P k w b r n seen left cnt) (hg : w.grownBy w' row) (h1 : some b ≠ row) (h2 : some r ≠ row) : SRange P k w' b r n seen left cnt := by
 obtain ⟨D, lf, h3, h4, h5⟩ := h; exact ⟨D, lf, h3.kept hg h1 h2, h4, h5⟩
theorem SRange.left_eq {seen left : List Nat} {cnt r : Nat} (h : SRange P k w b r n seen left cnt) : w.rangeLeft b r = cnt := by obtain ⟨D, lf, h3, _⟩ := h; exact h3.left_eq
theorem wpList_srange (hg : o.guard = none) (m : Operand) (t : TypeId) (hop : o.op = Op.range t m) (k e : TypeId) (hk : P.underlying k = some (.int .i64)) (ht : P.underlying t = some (.map k e)) (b n : Nat) (seen : List Nat)
  (hm : a.eval m = .map (some b)) (hown : VMap P k w b n (seenM seen))
  (hK : ∀ w' cnt, SRange P k w' b w.heap.size n seen seen cnt → w.grownBy w' none → w'.heap.size = w.heap.size + 1 → wpList P ops Q rest (a.put o.dst (.pointer (some ⟨w.heap.size, 0, none⟩))) w') :
  wpList P ops Q (o :: rest) a w := by
 obtain ⟨D, ho, hT⟩ := hown
 refine wpList_range_own w hg m t hop k e (int_keyed hk) ht rawElem b n D hm ho fun w' h1 h2 h3 => hK w' _ ⟨D, _, h1, hT, fun x => ?_⟩ h2 h3
 rw [hT.has _ (by trivial), seenM_int]
 by_cases c : x ∈ seen <;> simp [c]
theorem wpList_snext (hg : o.guard = none) (it : Operand) (hop : o.op = Op.next it false) (k : TypeId) (hk : P.underlying k = some (.int .i64))
  (b r n : Nat) (seen left : List Nat) (cnt : Nat) (hnd : left.Nodup) (hsub : ∀ x ∈ left, x ∈ seen) (hit : a.eval it = .pointer (some ⟨r, 0, none⟩)) (h : SRange P k w b r n seen left cnt)
  (hDone : left = [] → wpList P ops Q rest (a.put o.dst (.tuple #[.bool false])) w)
  (hMore : ∀ (x : Nat) (w' : World) (cnt' : Nat), x ∈ left → SRange P k w' b r n seen (left.erase x) cnt' → cnt' < cnt →
   w.grownBy w' (some r) → w'.heap.size = w.heap.size → (Instr.entry (.pointer (some ⟨r, 0, none⟩))).run P w' = .ok (.tuple #[.int .i64 (x : Int), .bool true]) w' → wpList P ops Q rest (a.put o.dst (.tuple #[.bool true, .int .i64 (x : Int), .bool true])) w') :
  wpList P ops Q (o :: rest) a w := by
 obtain ⟨D, lf, h1, hT, hL⟩ := h
 refine wpList_next_ranges w hg it hop k (int_keyed hk) rawElem (Value.int .i64) (fun v : Value => v) (fun key kl hkey => by obtain ⟨x, rfl, _⟩ := Maps.keyOf_int_inv hk hkey; exact ⟨x, rfl⟩) (fun v _ _ => ⟨v, rfl⟩) b r n D lf cnt hit h1 (fun _ h0 => hDone ?_) ?_
 ·cases hl : left with
  | nil => rfl
  | cons x l =>
   have := hL x
   rw [h0, hl] at this
   simp at this
 ·intro z v kl y w' cnt' hkey hlf hv hat hrg hlt hgr hsz hen
  obtain ⟨z', hz1, rfl, hwf⟩ := Maps.keyOf_int_inv hk hkey
  injection hz1 with _ hz1
  subst hz1
  have hhas : has D (.int .i64 z) = true := has_true_of_atKey hat
  rw [hT.has _ (by trivial)] at hhas
  obtain ⟨u, hu⟩ := Option.isSome_iff_exists.1 hhas
  obtain ⟨rfl, x, hxs, hx⟩ := seenM_some hu
  injection hx with _ hx
  subst hx
  have hvt : v = .bool true := by
   have e := hat (.held (.bool true))
   rw [hT.val _ _ (by trivial) hu] at e
   unfold rawElem at hv
   injection hv with hv
   rw [← hv] at e
   injection e with e
   exact e.symm
  subst hvt
  have hxl : x ∈ left := by
   have := hL x
   rw [hlf] at this
   simpa using this.symm
  refine hMore x w' cnt' hxl ⟨D, _, hrg, hT, fun q => ?_⟩ hlt hgr hsz hen
  show (lf (.int .i64 (q : Int)) && !Lit.sameKey (.int .i64 (q : Int)) (.int .i64 (x : Int))) = _
  rw [hL]
  by_cases e : q = x
  ·subst e
   rw [WideAt.sameKey_self (by trivial)]
   have : q ∉ left.erase q := fun hm => by rw [hnd.mem_erase_iff] at hm; exact hm.1 rfl
   simp [this]
  ·rw [Maps.sameKey_ne (by intro hh; injection hh with _ hh; exact e (by omega))]
   have : q ∈ left.erase x ↔ q ∈ left := by rw [hnd.mem_erase_iff]; exact ⟨fun h => h.2, fun h => ⟨e, h⟩⟩
   simp [this]
theorem has_size {H : Type} {D : DataW H} {x : Lit} (h : has D x = true) : 0 < Maps.size D := by
 cases D with
 | map es =>
  cases es with
  | nil => simp [has] at h
  | cons p l => simp [Maps.size]
 | _ => simp [has] at h
def BadAt (P : Program) (k : TypeId) (w : World) (b n : Nat) (bad : Bool) : Prop := ∃ D : DataW Value, w.ownsMap P k rawElem b n D ∧ IsMap D ∧ (bad = false → Maps.size D = 0) ∧ (bad = true → 0 < Maps.size D)
theorem BadAt.made (w : World) (P : Program) (k : TypeId) : BadAt P k (w.alloc (.map #[] 0)) w.heap.size 0 false := ⟨.map [], World.ownsMap_made w P k _, isMap_empty, fun _ => rfl, fun h => by cases h⟩
theorem BadAt.lt {bad : Bool} (h : BadAt P k w b n bad) : b < w.heap.size := by obtain ⟨D, ho, _⟩ := h; exact ho.lt
theorem BadAt.mono {bad : Bool} {n' : Nat} (h : BadAt P k w b n bad) (hn : n ≤ n') : BadAt P k w b n' bad := by obtain ⟨D, ho, h2⟩ := h; exact ⟨D, ho.mono hn, h2⟩
theorem BadAt.block {bad : Bool} (h : BadAt P k w b n bad) {w' : World} (he : w'.heap[b]? = w.heap[b]?) : BadAt P k w' b n bad := by
 obtain ⟨D, ⟨es, clock, hb, hr⟩, h2⟩ := h
 exact ⟨D, ⟨es, clock, he.trans hb, hr⟩, h2⟩
theorem wpList_bstore (hg : o.guard = none) (m x v : Operand) (t : TypeId) (hop : o.op = Op.mapUpdate t m x v)
  (k e : TypeId) (K : Keyed P k) (ht : P.underlying t = some (.map k e)) (b n : Nat) (bad : Bool)
  (hm : a.eval m = .map (some b)) (hown : BadAt P k w b n bad) (hn : n < maxLen) (key val : Value) (kl : Lit) (hx : a.eval x = key) (hv : a.eval v = val) (hkey : keyOf P k key = some kl)
  (hK : ∀ w', BadAt P k w' b (n + 1) true → w.grownBy w' (some b) → wpList P ops Q rest (a.put o.dst undef) w') :
  wpList P ops Q (o :: rest) a w := by
 obtain ⟨D, ho, hI, _⟩ := hown
 exact wpList_mapUpdate_own w hg m x v t hop k e K ht rawElem b n D hm ho hn _ _ _ hx hv hkey _ [] rfl fun w' h1 h2 => hK w' ⟨_, h1, hI.put _ _, fun h => (by cases h), fun _ => has_size (has_put_same hI (K.key hkey) _)⟩ h2
theorem wpList_blen (hg : o.guard = none) (m : Operand) (t : TypeId) (hop : o.op = Op.call { callee := Callee.builtin Builtin.len, args := #[m], argTypes := #[t] })
  (k e : TypeId) (ht : P.underlying t = some (.map k e)) (b n : Nat) (bad : Bool) (hm : a.eval m = .map (some b)) (hown : BadAt P k w b n bad)
  (hK : ∀ s : Nat, s ≤ n → (bad = false → s = 0) → (bad = true → 0 < s) → wpList P ops Q rest (a.put o.dst (.int .i64 (s : Int))) w) :
  wpList P ops Q (o :: rest) a w := by
 obtain ⟨D, ho, _, h1, h2⟩ := hown
 exact wpList_len_own w hg m t hop k e ht rawElem b n D hm ho (hK _ ho.size_le h1 h2)
end
theorem keyed_edge : Keyed Tryz.prog 252 := Keyed.of_law (deep_law_laid (by kernel_rfl) (m := 2) (by omega) (of_decide_eq_true (by kernel_rfl)) (by kernel_rfl) (by rw [Tryz.underlying252]))
theorem fsEdge : Tryz.prog.fieldsOf 252 = #[{ name := "From", type := 3, offset := 0, embedded := false, tag := "", pkgPath := "", byteOffset := 0 }, { name := "Ptr", type := 3, offset := 1, embedded := false, tag := "", pkgPath := "", byteOffset := 8 }] := by kernel_rfl
theorem usEdge : Tryz.prog.underlying 252 = some (.struct (Tryz.prog.fieldsOf 252)) := by kernel_rfl
theorem ctEdge : Tryz.prog.cellsOf 252 = 2 := by kernel_rfl
theorem ciEdge : Tryz.prog.cellsOf 3 = 1 := by kernel_rfl
theorem ktEdge : Tryz.prog.keyType 252 = true := by kernel_rfl
theorem tsEdge : ∃ z, Tryz.prog.types.size = z + 1 := ⟨Tryz.prog.types.size - 1, by kernel_rfl⟩
theorem key_edge (m k : Int) (hm : (Lit.int .i64 m).wf = true) (hk : (Lit.int .i64 k).wf = true) : keyOf Tryz.prog 252 (.agg #[.int .i64 m, .int .i64 k]) = some (pairKey m k) := by
 have h3 : (Value.agg #[.int .i64 m, .int .i64 k]).formed Tryz.prog 252 = true := by simp [Value.formed, usEdge, ctEdge]
 obtain ⟨z, hz⟩ := tsEdge
 unfold keyOf pairKey
 rw [usEdge]
 simp only
 rw [ktEdge, h3, if_pos (by rfl), hz]
 unfold Program.keyLits
 simp only [usEdge, fsEdge, ctEdge, Value.cells]
 rw [if_pos ⟨rfl, by decide +kernel⟩]
 simp [Program.keyLits, Tryz.underlying3, ciEdge, hm, hk]
end Go.Proofs.YtpohaahihdhleaaGreat
namespace Go.Proofs.YtpohaahihdhleaaGreat
open Go.RowKit
theorem aggRo : Agg Tryz.prog 109 #[.int .i64 0, .int .i64 0] := ⟨⟨_, Tryz.underlying109, rfl⟩, by kernel_rfl⟩
set_option maxHeartbeats 1000000 in
theorem rsize8_any (p d : Int) (w : World) : Calls Tryz.prog 38 #[vob p d] w fun e w' => e = .returned (.int .i64 (objSize p d : Nat)) ∧ Below w.heap.size w w' := by
 have HM := LH (Mem.one w #[.int .i64 p, .int .i64 d] 109)
 have HS : Hid (objSize p d = if p < 0 ∨ 63 < p ∨ d < 0 ∨ 16384 < d then 0 else (1 + p + d).toNat) := LH rfl
 generalize objSize p d = n at *
 go_enter Tryz.func38, Tryz.ntmps38
 go_upto_region 1 with fail
 generalize w.alloc _ = w0 at *
 have c0 := HM.out.cell 0 0 rfl rfl
 have c1 := HM.out.cell 0 1 rfl rfl
 by_cases h1 : p < 0
 ·have HV : Hid (n = 0) := LH (by rw [HS.out, if_pos (.inl h1)])
  go_wp2_with fail
  go_ret
  exact ⟨by rw [HV.out]; rfl, HM.out.below⟩
 by_cases h2 : 63 < p
 ·have HV : Hid (n = 0) := LH (by rw [HS.out, if_pos (.inr (.inl h2))])
  go_wp2_with fail
  go_ret
  exact ⟨by rw [HV.out]; rfl, HM.out.below⟩
 by_cases h3 : d < 0
 ·have HV : Hid (n = 0) := LH (by rw [HS.out, if_pos (.inr (.inr (.inl h3)))])
  go_wp2_with fail
  go_ret
  exact ⟨by rw [HV.out]; rfl, HM.out.below⟩
 by_cases h4 : 16384 < d
 ·have HV : Hid (n = 0) := LH (by rw [HS.out, if_pos (.inr (.inr (.inr h4)))])
  go_wp2_with fail
  go_ret
  exact ⟨by rw [HV.out]; rfl, HM.out.below⟩
 have HV : Hid ((n : Int) = 1 + p + d) := LH (by rw [HS.out, if_neg (by omega)]; omega)
 go_wp2_with fail
 go_ret
 exact ⟨ret_int HV.out.symm, HM.out.below⟩
set_option maxHeartbeats 1000000 in
theorem rencode8_any (p d a : Int) (w : World) : Calls Tryz.prog 39 #[vob p d, .int .i64 a] w fun e w' => e = .returned (vu64 (oencN a p d)) ∧ Below w.heap.size w w' := by
 have HM := LH (Mem.one w #[.int .i64 p, .int .i64 d] 109)
 have HE : Hid (oencN a p d = if objSize p d = 0 then 0 else sealN (obN p d) (pl a)) := LH rfl
 generalize oencN a p d = y at *
 go_enter Tryz.func39, Tryz.ntmps39
 go_upto_region 1 with fail
 generalize w.alloc _ = w0 at *
 go_wp2_with (refine wpList_load_mem aggRo HM.out 0 rfl rfl rfl rfl rfl ?_)
 refine (rsize8_any p d _).mono ?_
 rintro e w1 ⟨rfl, hb1⟩
 have HM1 := LH (HM.out.later hb1)
 clear hb1 HM
 by_cases hr : objSize p d = 0
 ·have HV : Hid (y = 0) := LH (by rw [HE.out, if_pos hr])
  rw [hr]
  clear hr
  go_wp2_with fail
  go_ret
  exact ⟨ret_int (by rw [HV.out]; rfl), HM1.out.below⟩
 ·have HV : Hid (y = sealN (obN p d) (pl a)) := LH (by rw [HE.out, if_neg hr])
  have hn := obN_lt hr
  obtain ⟨⟨p0, p1⟩, d0, d1⟩ := obj_small hr
  have HN : Hid (165 + 256 * p + 16384 * d = (obN p d : Int)) := LH (by unfold obN; omega)
  have hz : (((objSize p d : Nat) : Int) == 0) = false := by simp; omega
  have c0 := HM1.out.cell 0 0 rfl rfl
  have c1 := HM1.out.cell 0 1 rfl rfl
  generalize objSize p d = sz at *
  generalize obN p d = n at *
  clear hr
  have hw : IntKind.u32.wrap (165 + 256 * p + 16384 * d) = 165 + 256 * p + 16384 * d := IntWalk.u32_in _ (by omega)
  go_wp2_with fail
  rw [HN.out]
  refine (rseal_any n _ hn _).mono ?_
  rintro e w2 ⟨rfl, hb2⟩
  rw [← HV.out]
  go_wp2_with fail
  go_ret
  exact ⟨rfl, (HM1.out.later hb2).below⟩
set_option maxHeartbeats 1000000 in
theorem rdecode8_any (a : Int) (x : Nat) (hx : x < 18446744073709551616) (w : World) :
  Calls Tryz.prog 124 #[.int .i64 a, vu64 x] w fun e w' => e = .returned (odecN a x).val ∧ Below w.heap.size w w' := by
 have HM := LH (Mem.one w #[.int .i64 0, .int .i64 0] 109)
 have HOS : Hid ((odecN a x).code = 0 → objSize (odecN a x).p (odecN a x).d ≠ 0) := LH (fun h => (odec_size h).1)
 go_enter Tryz.func124, Tryz.ntmps124
 go_upto_region 1 with fail
 generalize w.alloc _ = w0 at *
 go_wp2_with fail
 refine (ropen_any x _ hx _).mono ?_
 rintro e w1 ⟨rfl, hbo⟩
 have HM1 := LH (HM.out.later hbo)
 clear hbo HM
 cases ho : openN x (pl a) with
 | none =>
  have HV := LH (odecN_none ho)
  clear ho
  simp only [openV]
  go_wp2_with (refine wpList_store_mem aggRo HM1.out 0 rfl rfl rfl rfl rfl rfl rfl rfl ?_; intro w9 h9 _; have H9 := LH h9; clear h9)
  refine bodyPost_ret (results_cell_row2 (p := 4) (u := 5) rfl _ _ _ _ _ _ _ rfl (H9.out.exact 0 rfl) Tryz.underlying109 rfl (by kernel_rfl)) rfl ⟨by rw [HV.out]; rfl, H9.out.below⟩
 | some n =>
  obtain ⟨hn, -⟩ := openN_some ho
  have HK := LH (odecN_ok ho)
  have HL := LH (odecN_bad ho)
  have HD := LH (odecN_some ho)
  have HDS : Hid (odecS a x n = if oencN a (n / 256 % 64 : Nat) (n / 16384 % 32768 : Nat) = x then ⟨(n / 256 % 64 : Nat), (n / 16384 % 32768 : Nat), 0⟩ else ⟨0, 0, 26⟩) := LH rfl
  clear ho
  simp only [openV]
  have h64 : n / 256 % 64 < 64 := by omega
  have h6 : n / 16384 % 32768 < 32768 := by omega
  have hmod1 : (n : Int) / 256 % 64 = ((n / 256 % 64 : Nat) : Int) := by omega
  have hmod2 : (n : Int) / 16384 % 32768 = ((n / 16384 % 32768 : Nat) : Int) := by omega
  have HM1' := LH (HM1.out.alloc #[.int .i64 ((n : Int) / 256 % 64), .int .i64 ((n : Int) / 16384 % 32768)] 109)
  have HMOD1 := LH hmod1
  have HMOD2 := LH hmod2
  clear hmod1 hmod2
  go_upto_region 5 with fail
  rw [HMOD1.out, HMOD2.out] at HM1' ⊢
  clear HMOD1 HMOD2
  generalize n / 256 % 64 = k at *
  generalize n / 16384 % 32768 = l at *
  generalize w1.alloc _ = w2 at *
  generalize w1.heap.size = g at *
  clear HM1
  go_wp2_with (refine wpList_load_mem aggRo HM1'.out 1 rfl rfl rfl rfl rfl ?_)
  refine (rsize8_any k l _).mono ?_
  rintro e w3 ⟨rfl, hb3⟩
  have HM3 := LH (HM1'.out.later hb3)
  clear hb3 HM1'
  by_cases hyx : oencN a k l = x
  ·have HV := LH (HK.out hyx)
   have hsz : objSize (k : Int) (l : Int) ≠ 0 := by
    have h1 := HOS.out
    rw [HD.out, HDS.out, if_pos hyx] at h1
    exact h1 rfl
   have hz : (((objSize (k : Int) (l : Int) : Nat) : Int) == 0) = false := by simp; omega
   generalize objSize (k : Int) (l : Int) = sz at *
   clear hsz
   have HYX := LH hyx
   clear hyx
   have c0 := HM3.out.cell 1 0 rfl rfl
   have c1 := HM3.out.cell 1 1 rfl rfl
   go_wp2_with fail
   clear c0 c1
   refine (rencode8_any k l a _).mono ?_
   rintro e w4 ⟨rfl, hb4⟩
   rw [HYX.out]
   have HM4 := LH (HM3.out.later hb4)
   clear hb4 HM3
   go_wp2_with (first | (refine wpList_load_mem aggRo HM4.out 1 rfl rfl rfl rfl rfl ?_) | (refine wpList_store_mem aggRo HM4.out 0 rfl rfl rfl rfl rfl rfl rfl rfl ?_; intro w9 h9 _; have H9 := LH h9; clear h9))
   refine bodyPost_ret (results_cell_row2 (p := 4) (u := 5) rfl _ _ _ _ _ _ _ rfl (H9.out.exact 0 rfl) Tryz.underlying109 rfl (by kernel_rfl)) rfl ⟨by rw [HV.out]; rfl, H9.out.below⟩
  ·have HV := LH (HL.out hyx)
   by_cases hsz : objSize (k : Int) (l : Int) = 0
   ·rw [hsz]
    clear hsz
    go_wp2_with (first | (refine wpList_load_mem aggRo HM3.out 1 rfl rfl rfl rfl rfl ?_) | (refine wpList_store_mem aggRo HM3.out 0 rfl rfl rfl rfl rfl rfl rfl rfl ?_; intro w9 h9 _; have H9 := LH h9; clear h9))
    refine bodyPost_ret (results_cell_row2 (p := 4) (u := 5) rfl _ _ _ _ _ _ _ rfl (H9.out.exact 0 rfl) Tryz.underlying109 rfl (by kernel_rfl)) rfl ⟨by rw [HV.out]; rfl, H9.out.below⟩
   have hz : (((objSize (k : Int) (l : Int) : Nat) : Int) == 0) = false := by simp; omega
   generalize objSize (k : Int) (l : Int) = sz at *
   clear hsz
   have HYX := LH hyx
   clear hyx
   have c0 := HM3.out.cell 1 0 rfl rfl
   have c1 := HM3.out.cell 1 1 rfl rfl
   go_wp2_with fail
   clear c0 c1
   refine (rencode8_any k l a _).mono ?_
   rintro e w4 ⟨rfl, hb4⟩
   have HM4 := LH (HM3.out.later hb4)
   clear hb4 HM3
   have hne : ¬ ((oencN a (k : Int) (l : Int) : Int) = (x : Int)) := by have := HYX.out; omega
   have hne2 : ((oencN a (k : Int) (l : Int) : Int) != (x : Int)) = true := by simp; have := HYX.out; omega
   generalize oencN a (k : Int) (l : Int) = y at *
   go_wp2_with (first | (refine wpList_load_mem aggRo HM4.out 1 rfl rfl rfl rfl rfl ?_) | (refine wpList_store_mem aggRo HM4.out 0 rfl rfl rfl rfl rfl rfl rfl rfl ?_; intro w9 h9 _; have H9 := LH h9; clear h9))
   refine bodyPost_ret (results_cell_row2 (p := 4) (u := 5) rfl _ _ _ _ _ _ _ rfl (H9.out.exact 0 rfl) Tryz.underlying109 rfl (by kernel_rfl)) rfl ⟨by rw [HV.out]; rfl, H9.out.below⟩
end Go.Proofs.YtpohaahihdhleaaGreat
