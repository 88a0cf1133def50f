/- Parts of the proof, one behind the other: Fp, Fq, Fr, Zd, Jx, Zi, Zj, Sb, Js, Zh, Zk, Ga, Gb, Gc, Fs, Gd, Zo, Wd, Ge, Tx. -/
import Derived.Test.YtbimcogdbafjpaaGreatAO11
import Derived.WalkKit
import Derived.Deep.Cut
import Derived.Shelf.Strings.Builder1
import Derived.Test.YtbimcogdbafjpaaGreatProg
set_option linter.unusedVariables false
namespace Go.Proofs.YtbimcogdbafjpaaGreat
open Go.RowKit Go.Maps
section
variable {P : Program} {C : World → Prop} {ops : Array Oper} {rest : List Oper} {o : Oper} {a : Act} {Q : Act → Prop}
theorem wpQuiet_slice_clip {x hi mx : Operand} {t e : TypeId} {z : Value} {size bytes : Nat} (E : Elem P t e z size bytes) {ad : Option Addr} {n cap : Nat} {k k2 : IntKind} {H H2 : Int} (h : Nat)
  (hH : H = (h : Int)) (hH2 : H2 = (h : Int)) (hh : h ≤ n) (hn : n ≤ cap)
  (hgd : o.guard = none) (ho : o.op = .slice t x none (some hi) (some mx)) (hx : a.eval x = .slice ad n cap) (hhi : a.eval hi = .int k H) (hmx : a.eval mx = .int k2 H2)
  (hK : wpQuiet P ops C Q rest (a.put o.dst (.slice ad h h))) :
  wpQuiet P ops C Q (o :: rest) a := by
 subst hH
 subst hH2
 have hw : Region.wanted o (yielded ops a.tmps) = true := by simp [Region.wanted, hgd]
 unfold wpQuiet
 rw [if_pos hw]
 refine ⟨_, fun w hC => ?_, hK⟩
 obtain ⟨i, i1, i2, i3, i4⟩ := E.info
 have hb : (Instr.sliceBounds true n cap none (some (.int k (h : Int))) (some (.int k2 (h : Int)))).run P w = .ok (0, h, h) w := by
  have h1 : (0 : Int) ≤ (h : Int) ∧ (h : Int) ≤ (cap : Int) := by omega
  have h2 : (0 : Int) ≤ (h : Int) ∧ (h : Int) ≤ (h : Int) := by omega
  simp [Instr.sliceBounds, Instr.sliceBound, asIntOf, Nat.le_trans hh hn]
 have hr : (Instr.sliceAt t (.slice ad n cap) none (some (.int k (h : Int))) (some (.int k2 (h : Int)))).run P w = .ok (.slice (if h = 0 then ad else ad.map (·.add (0 * size))) (h - 0) (h - 0)) w := by
  simp [Instr.sliceAt, Instr.slice, run_underlying E.under, hb, sizeOf, typeInfo, i1, i3]
 have e : (if h = 0 then ad else ad.map (·.add (0 * size))) = ad := by
  split
  ·rfl
  ·cases ad <;> simp [Addr.add]
 rw [e, Nat.sub_zero] at hr
 unfold Oper.quietAt
 simp only [execOp, ho, hx, hhi, hmx, Option.map_some, Option.map_none]
 simp [hr, Result.andThen, Oper.quietUpon]
end
theorem run_append_full {P : Program} {w : World} {t ty e : TypeId} {z : Value} {size bytes i : Nat} (E : Elem P t e z size bytes) {ad : Option Addr} {xs ys : List Value} (hc : Cells w ad xs) (hl : xs.length = i * size) {a : Addr} {m c : Nat} (hm : 0 < m) (hys : ys.length = m * size)
  (hyc : ∀ j v, ys[j]? = some v → w.cell? (a.add j) = some v) (hn : i + m < 1000000000000) (hby : bytes ≤ 64) :
  ∃ v' w', (Builtin.append_ #[t, t] ty #[.slice ad i i, .slice (some a) m c]).run P w = .ok v' w' ∧ w'.ownsRow w.heap.size e size v' (i + m) (xs ++ ys) ∧ w.grownBy w' none := by
 obtain ⟨inf, i1, i2, i3, i4⟩ := E.info
 have hbb : (i + m) * inf.bytes ≤ 140737488355328 := by
  rw [i4]
  have : (i + m) * bytes ≤ (i + m) * 64 := Nat.mul_le_mul_left _ hby
  omega
 have h63 : i + m ≤ maxLen := by unfold maxLen; omega
 have key : ∀ (olds : List Value) (k : Nat), olds.length = k * size → k = i → olds = xs → ∀ old : Nat, (w.drew.alloc (.cells (olds.toArray ++ ys.toArray ++ Builtin.zeroCells z.cells (grownCap w (i + m) old e - (i + m))) e)).ownsRow w.heap.size e size (.slice (some ⟨w.heap.size, 0, none⟩) (i + m) (grownCap w (i + m) old e)) (i + m) (xs ++ ys) := by
  rintro olds k ho rfl rfl old
  have hge := grownCap_ge w (k + m) old e
  have hcm := grownCap_le_maxLen w (k + m) old e h63
  have hlen : (olds ++ ys).length = (k + m) * size := by rw [List.length_append, ho, hys, Nat.add_mul]
  refine ⟨hlen, .inr ⟨w.heap.size, _, _, rfl, Nat.le_refl _, heap_alloc_new w.drew _, hge, hcm, ?_, ?_⟩⟩
  ·simp only [Array.size_append, List.size_toArray, size_zeroCells, E.cells, ho, hys, ← Nat.add_mul]
   congr 1
   omega
  ·simp only [Array.toList_append, List.append_assoc]
   rw [← List.append_assoc, ← hlen]
   exact List.take_left
 have hgr : ∀ o : Obj, w.grownBy (w.drew.alloc o) none := fun o => ⟨rfl, rfl, rfl, by simp, fun k hk _ => (below_alloc w.drew o).block k hk⟩
 cases ad with
 | none =>
  have hx : xs = [] := by
   rcases hc with h | ⟨_, _, h, _⟩
   ·exact h
   ·cases h
  subst hx
  have hi0 : i = 0 := by
   have hp := E.pos
   rcases Nat.eq_zero_or_pos i with h | h
   ·exact h
   ·have : 0 < i * size := Nat.mul_pos h hp
    simp at hl; omega
  subst hi0
  have hr := run_append_nil (P := P) w t ty e inf z E.under i1 i2 a m c ys (by rw [i3]; exact hys) hyc (by omega) (by omega) (by rw [Nat.zero_add] at hbb; omega)
  refine ⟨_, _, hr, ?_, hgr _⟩
  have := key [] 0 (by simp) rfl rfl 0
  rw [Nat.zero_add, List.nil_append] at this ⊢
  simpa using this
 | some b =>
  have hcb : ∀ j v, xs[j]? = some v → w.cell? (b.add j) = some v := by
   rcases hc with h | ⟨bk, off, h, h2⟩
   ·intro j v hj; rw [h] at hj; simp at hj
   ·intro j v hj
    cases h
    rw [add_none]; exact h2 j v hj
  have hr := run_append_grow (P := P) w t ty e inf z E.under i1 i2 b i i xs (by rw [i3]; exact hl) hcb a m c ys (by rw [i3]; exact hys) hyc (by omega) (by omega) (growslice_fits (by omega) hbb)
  exact ⟨_, _, hr, key xs i hl rfl rfl i, hgr _⟩
section
variable {w : World} {P : Program} {ops : Array Oper} {rest : List Oper} {o : Oper} {act : Act} {Q : Exit → Act → World → Prop}
theorem wpList_append_full {s x : Operand} {t e : TypeId} {z : Value} {size bytes i : Nat} (E : Elem P t e z size bytes) {ad : Option Addr} {xs ys : List Value} (hc : Cells w ad xs) (hl : xs.length = i * size) {a : Addr} {m c : Nat} (hm : 0 < m) (hys : ys.length = m * size)
  (hyc : ∀ j v, ys[j]? = some v → w.cell? (a.add j) = some v) (hn : i + m < 1000000000000) (hby : bytes ≤ 64)
  (hgd : o.guard = none) (ho : o.op = .call { callee := .builtin .append, args := #[s, x], argTypes := #[t, t] })
  (hs : act.eval s = .slice ad i i) (hx : act.eval x = .slice (some a) m c)
  (hK : ∀ v' w', w'.ownsRow w.heap.size e size v' (i + m) (xs ++ ys) → w.grownBy w' none → wpList P ops Q rest (act.put o.dst v') w') :
  wpList P ops Q (o :: rest) act w := by
 obtain ⟨v', w', hr, h1, h2⟩ := run_append_full (c := c) (ty := o.type) E hc hl hm hys hyc hn hby
 refine wpList_plain hgd fun K hK' => ?_
 unfold Oper.wp
 simp [execOp, ho, resolve, invoke, builtin, hs, hx, hr, Result.andThen]
 exact hK' _ _ (hK v' w' h1 h2)
end
theorem ob_one (xs : List Ob) : ∀ u ∈ recs Ob.cs xs, u.oneCell' = true := by
 intro u hu
 unfold recs at hu
 obtain ⟨o, _, h⟩ := List.mem_flatMap.1 hu
 simp [Ob.cs] at h
 rcases h with rfl | rfl | rfl <;> rfl
theorem Cells.ownedN {w : World} {base e size n cap : Nat} {a : Option Addr} {xs : List Value} (h : w.ownsRow base e size (.slice a n cap) n xs) : Cells w a xs := by
 rcases h.2 with ⟨_, h0⟩ | ⟨g, cap', cur, hv, hb, hg, h1, h2, h3, h4⟩
 ·exact .inl (List.eq_nil_of_length_eq_zero (by rw [h.1, h0, Nat.zero_mul]))
 ·injection hv with e1 _ _
  rw [e1]
  exact RowAt.cells ⟨cur, hg, cur.toList.drop (n * size), by rw [← h4, List.take_append_drop]⟩
theorem recs_take (xs : List Ob) {i : Nat} (h : i ≤ xs.length) : recs Ob.cs (xs.take i) = (recs Ob.cs xs).take (i * 3) := by
 have e : recs Ob.cs xs = recs Ob.cs (xs.take i) ++ recs Ob.cs (xs.drop i) := by rw [← recs_append, List.take_append_drop]
 rw [e]
 exact (List.take_left' (by rw [recs_length Ob.len, List.length_take]; omega)).symm
theorem recs_drop (xs : List Ob) {i : Nat} (h : i ≤ xs.length) : recs Ob.cs (xs.drop i) = (recs Ob.cs xs).drop (i * 3) := by
 have e : recs Ob.cs xs = recs Ob.cs (xs.take i) ++ recs Ob.cs (xs.drop i) := by rw [← recs_append, List.take_append_drop]
 rw [e]
 exact (List.drop_left' (by rw [recs_length Ob.len, List.length_take]; omega)).symm
def InsPost (w : World) (xs : List Ob) (x : Ob) : Ending → World → Prop := fun e w' => ∃ i, i ≤ xs.length ∧ (∀ o ∈ xs.take i, o.a < x.a) ∧ (∀ o, xs[i]? = some o → x.a ≤ o.a) ∧ NewOb w (xs.take i ++ [x] ++ xs.drop i) e w'
set_option maxHeartbeats 4000000 in
set_option maxRecDepth 20000 in
theorem insert16_any {w : World} (a : Option Addr) (n cap : Nat) (xs : List Ob) (hn : xs.length = n) (hnc : n ≤ cap) (hc : Cells w a (recs Ob.cs xs)) (hl : n ≤ 1000000) (x : Ob) :
  Calls Tryz.prog 164 #[.slice a n cap, x.val] w (InsPost w xs x) := by
 have HP : Hid (∀ i v w', i ≤ xs.length → (∀ o ∈ xs.take i, o.a < x.a) → (∀ o, xs[i]? = some o → x.a ≤ o.a) → OwnOb w' w.heap.size v (xs.take i ++ [x] ++ xs.drop i) → Below w.heap.size w w' → InsPost w xs x (.returned v) w') := LH (fun i v w' h1 h2 h3 h4 h5 => ⟨i, h1, h2, h3, v, rfl, h4, h5⟩)
 generalize InsPost w xs x = Post at *
 have HN := LH hn
 have HM := LH (Mem.one w #[.int .i64 (x.a : Int), .int .i64 x.p, .int .i64 x.d] 40)
 have HC := LH (hc.below HM.out.below (Nat.le_refl _))
 have HW0 := LH HM.out.below
 clear hc hn
 obtain ⟨xa, xp, xd⟩ := x
 dsimp only [Ob.val] at *
 go_enter Tryz.func164, Tryz.ntmps164
 go_upto_region 1 with fail
 obtain ⟨q, hq⟩ : ∃ q, q = w.heap.size := ⟨_, rfl⟩
 rw [← hq] at HM ⊢
 have HQ := LH hq
 generalize w.alloc _ = w0 at *
 clear hq
 go_wp2_with fail
 go_loopw [5] (fun iv wr => ∃ i : Nat, i ≤ n ∧ iv = .int .i64 (i : Int) ∧ Hid (Below w0.heap.size w0 wr) ∧ Hid (∀ o ∈ xs.take i, o.a < xa)) (fun iv _ => n - (intOf iv).toNat)
 case atStart => exact ⟨0, by omega, rfl, LH (Below.refl _ _), LH (by simp)⟩
 case round =>
  obtain ⟨i, hi, rfl, HB, HLt⟩ := hrel
  have HMr := LH (HM.out.later HB.out)
  have HCr := LH (HC.out.below HB.out (Nat.le_refl _))
  have rq := fun x => later_cell (HMr.out.cell 0 0 rfl rfl) x
  by_cases hgo : ∃ o, xs[i]? = some o ∧ o.a < xa
  ·obtain ⟨o, ho, hlt⟩ := hgo
   have hin : i < n := by rw [← HN.out]; exact (List.getElem?_eq_some_iff.1 ho).1
   have hinI : (i : Int) < (n : Int) := by omega
   obtain ⟨b, off, rfl, c0, _, _⟩ := ob_cells HCr.out ho
   have r0 := fun x => later_cell c0 x
   have hltI : (o.a : Int) < (xa : Int) := by omega
   have HNx : Hid (∀ o ∈ xs.take (i + 1), o.a < xa) := LH (fun o' h => by
    have h1 := (List.getElem?_eq_some_iff.1 ho).1
    rw [List.take_succ_eq_append_getElem h1, List.mem_append, (List.getElem?_eq_some_iff.1 ho).2] at h
    rcases h with h | h
    ·exact HLt.out o' h
    ·have : o' = o := by simpa using h
     rw [this]; exact hlt)
   clear ho c0 hlt
   go_upto_region 2 with fail
   refine wp_region_later (by kernel_rfl) (by kernel_rfl) ?_
   repeat (first | go_big_quiet_step (fail) | quiet_step (fail))
   refine wpQuiet_nil ?_
   rintro w1 ⟨x1, hx1⟩
   have HB1 := LH (HB.out.trans ((show Below wr.heap.size wr w1 by rw [hx1]; exact x1.below).mono HB.out.size))
   clear hx1 r0 rq
   go_wp2_with fail
   go_roundw
   case rel => exact ⟨i + 1, by omega, vint (by omega), HB1, HNx⟩
   case measure => simp [intOf]; omega
  ·have HStop : Hid (∀ o, xs[i]? = some o → xa ≤ o.a) := LH (fun o ho => by
    have : ¬ o.a < xa := fun h => hgo ⟨o, ho, h⟩
    omega)
   clear hgo
   by_cases hin : i < n
   ·have hinI : (i : Int) < (n : Int) := by omega
    obtain ⟨o, ho⟩ : ∃ o, xs[i]? = some o := ⟨_, List.getElem?_eq_getElem (by rw [HN.out]; exact hin)⟩
    obtain ⟨b, off, rfl, c0, _, _⟩ := ob_cells HCr.out ho
    have r0 := fun x => later_cell c0 x
    have hge : ¬ (o.a : Int) < (xa : Int) := by have := HStop.out o ho; omega
    clear ho c0
    go_upto_region 2 with fail
    have hile : i ≤ n := hi
    refine wp_region_later (by kernel_rfl) (by kernel_rfl) ?_
    repeat (first | go_big_quiet_step (fail) | quiet_step (fail))
    refine wpQuiet_nil ?_
    rintro w1 ⟨x1, hx1⟩
    have HB1 := LH (HB.out.trans ((show Below wr.heap.size wr w1 by rw [hx1]; exact x1.below).mono HB.out.size))
    clear hx1 rq r0 hinI hin hge
    go_upto_region 4 with fail
    have hba := below_alloc w1 (.cells #[] 40)
    have HB2 := LH (HB1.out.trans (hba.mono HB1.out.size))
    have HCe := LH (HC.out.below HB2.out (Nat.le_refl _))
    have HBs : Hid (w.heap.size ≤ w1.heap.size) := LH (Nat.le_trans HW0.out.size HB1.out.size)
    have HOw : Hid ((w1.alloc (.cells #[] 40)).ownsRow w.heap.size 40 3 (.slice (some ⟨w1.heap.size, 0, none⟩) 0 0) 0 []) := LH ⟨rfl, .inr ⟨w1.heap.size, 0, #[], rfl, HBs.out, heap_alloc_new w1 _, Nat.le_refl _, Nat.zero_le _, rfl, rfl⟩⟩
    have HXl : Hid ((recs Ob.cs xs).length = n * 3) := LH (by rw [recs_length Ob.len, HN.out])
    have HDl : Hid (((recs Ob.cs xs).drop (i * 3)).length = (n - i) * 3) := LH (by rw [List.length_drop, HXl.out]; omega)
    have HDo : Hid (∀ u ∈ (recs Ob.cs xs).drop (i * 3), u.oneCell' = true) := LH (fun u hu => ob_one xs u (List.mem_of_mem_drop hu))
    have HNn : Hid (0 + (n - i) < 1000000000000) := LH (by omega)
    have HBs2 : Hid (w.heap.size ≤ (w1.alloc (.cells #[] 40)).heap.size) := LH (Nat.le_trans HBs.out hba.size)
    clear hba
    go_upto_region 5 with (first
     | (refine wpList_slice_from elOb i HCe.out HXl.out rfl hile hnc rfl rfl rfl rfl ?_; intro ad' hc'; have HCd := LH hc'; clear hc')
     | (at_builtin; refine wpList_append_cells elOb HOw.out HCd.out HDl.out HDo.out HNn.out (by decide) HBs2.out rfl rfl rfl rfl ?_; intro v3 w3 h1 h2 h3; have HO3 := LH h1; have HG3 := LH h2; clear h1 h2 h3))
    obtain ⟨a3, c3, rfl, _, _⟩ := owned_form HO3.out
    have HB3 := LH (below_grownBy (base := w1.heap.size) (e := 40) (size := 3) (n := 0) (xs := []) HB2.out ⟨rfl, .inr ⟨w1.heap.size, 0, #[], rfl, Nat.le_refl _, heap_alloc_new w1 _, Nat.le_refl _, Nat.zero_le _, rfl, rfl⟩⟩ HG3.out (Nat.le_refl _) HB1.out.size)
    have HMr3 := LH (HM.out.later HB3.out)
    have hld : ∀ w', (∃ x : Later w3, w' = x.val) → ∀ (i : Nat) (v : Value), (#[.int .i64 (xa : Int), .int .i64 xp, .int .i64 xd] : Array Value).toList[i]? = some v → w'.cell? ⟨q, 0 + i, none⟩ = some v := by
     rintro w' ⟨x, rfl⟩ i v hi
     refine later_cell ?_ x
     rw [Nat.zero_add]
     exact HMr3.out.cell 0 i rfl hi
    obtain ⟨ln, hln⟩ : ∃ ln, ln = 0 + (n - i) := ⟨_, rfl⟩
    rw [← hln] at HO3 ⊢
    have HLn := LH hln
    clear hln
    refine wp_region_seg (C := fun w' => ∃ x : Later (w3), w' = x.val) [.fl [0, 1, 2, 3, 4, 7], .sq [5] true, .sq [6] true, .sq [8, 9] false] (by kernel_rfl) (by kernel_rfl) (by intro c a d v w h; cases d <;> exact h) ?_
    simp only [segs, picks, List.getElem?_cons_succ, List.getElem?_cons_zero]
    have hC1 := later_drew (w3)
    refine wpSeg_fl hC1 ?_
    repeat (first | (refine wpQuiet_load_arr aggOb3 #[.int .i64 (xa : Int), .int .i64 xp, .int .i64 xd] hld rfl rfl rfl rfl ?_) | (refine wpQuiet_slice_clip elOb i rfl rfl hile hnc rfl rfl rfl rfl rfl ?_) | go_big_quiet_step (fail) | quiet_step (fail))
    refine wpQuiet_nil ?_
    have HD4 := LH (later_below hC1)
    generalize w3.drew = w4 at *
    refine wpSeg_sq (fun K hK => ?_)
    go_wp2_with fail
    have hba := below_alloc w4 (.cells #[.int .i64 (xa : Int), .int .i64 xp, .int .i64 xd] 40)
    have hC2 := later_step hC1 hba
    obtain ⟨q4, hq4⟩ : ∃ q4, q4 = w4.heap.size := ⟨_, rfl⟩
    have HB5 := LH (HB3.out.trans ((HD4.out.trans (hba.mono HD4.out.size)).mono HB3.out.size))
    have HX5 : Hid (∀ j v, ([.int .i64 (xa : Int), .int .i64 xp, .int .i64 xd] : List Value)[j]? = some v → (w4.alloc (.cells #[.int .i64 (xa : Int), .int .i64 xp, .int .i64 xd] 40)).cell? ((⟨w4.heap.size, 0, none⟩ : Addr).add j) = some v) := LH (fun j v hj => by rw [add_none, Nat.zero_add]; exact cell_alloc_new _ _ _ j _ (by simpa using hj))
    have HC5 := LH ((Cells.ownedN HO3.out).below (HD4.out.trans (hba.mono HD4.out.size)) (Nat.le_refl _))
    rw [List.nil_append] at HC5
    clear hba
    go_wp2_with fail
    refine hK _ _ (fun _ => hC2) ?_
    clear hK K
    rw [← hq4] at HX5 ⊢
    clear hq4
    generalize w4.alloc _ = w5 at *
    have HCt : Hid (Cells w5 _ (recs Ob.cs (xs.take i))) := LH (by rw [recs_take xs (by rw [HN.out]; exact hile)]; exact (HC.out.below HB5.out (Nat.le_refl _)).take _)
    have HTl : Hid ((recs Ob.cs (xs.take i)).length = i * 3) := LH (by rw [recs_length Ob.len, List.length_take]; have := HN.out; omega)
    have HN6 : Hid (i + 1 < 1000000000000) := LH (by omega)
    refine wpSeg_sq (fun K hK => ?_)
    go_wp2_with (refine wpList_append_full elOb HCt.out HTl.out (by decide : 0 < 1) (rfl : ([.int .i64 (xa : Int), .int .i64 xp, .int .i64 xd] : List Value).length = 1 * 3) HX5.out HN6.out (by decide) rfl rfl rfl rfl ?_; intro v6 w6 h1 h2; have HO6 := LH h1; have HG6 := LH h2; clear h1 h2)
    have hb6 := below_grown HG6.out (Nat.le_refl _)
    have hC3 := later_step hC2 hb6
    have HB6 := LH (HB5.out.trans (hb6.mono HB5.out.size))
    have HC6 := LH (HC5.out.below hb6 (Nat.le_refl _))
    have HBw : Hid (w5.heap.size ≤ w6.heap.size) := LH hb6.size
    clear hb6
    go_wp2_with fail
    refine hK _ _ (fun _ => hC3) ?_
    clear hK K
    have HLd : Hid (((recs Ob.cs xs).drop (i * 3)).length = ln * 3) := LH (by rw [HDl.out, HLn.out]; omega)
    have HN7 : Hid (i + 1 + ln < 1000000000000) := LH (by have := HLn.out; omega)
    refine wpSeg_last ?_
    go_wp2_with (refine wpList_append_cells elOb HO6.out HC6.out HLd.out HDo.out HN7.out (by decide) HBw.out rfl rfl rfl rfl ?_; intro v7 w7 h1 h2 h3; have HO7 := LH h1; have HG7 := LH h2; clear h1 h2 h3)
    refine HP.out i v7 w7 (by rw [HN.out]; exact hile) HLt.out HStop.out ?_ ?_
    ·have e1 : recs Ob.cs (xs.take i ++ [⟨xa, xp, xd⟩] ++ xs.drop i) = recs Ob.cs (xs.take i) ++ [.int .i64 (xa : Int), .int .i64 xp, .int .i64 xd] ++ (recs Ob.cs xs).drop (i * 3) := by
      rw [recs_append, recs_append, recs_drop xs (by rw [HN.out]; exact hile)]; rfl
     have e2 : (xs.take i ++ [(⟨xa, xp, xd⟩ : Ob)] ++ xs.drop i).length = i + 1 + ln := by
      rw [List.length_append, List.length_append, List.length_take, List.length_drop, HN.out, HLn.out]; simp; omega
     unfold OwnOb
     rw [e1, e2]
     have hw5 : w.heap.size ≤ w5.heap.size := Nat.le_trans HW0.out.size HB5.out.size
     have h7 := HO7.out
     exact ⟨h7.1, h7.2.imp id (fun ⟨g, cp, cu, k1, k2, k3⟩ => ⟨g, cp, cu, k1, Nat.le_trans hw5 k2, k3⟩)⟩
    ·exact HW0.out.trans ((below_grownBy HB6.out HO6.out HG7.out (Nat.le_refl _) HB5.out.size).mono HW0.out.size)
   ·have hni : ¬ (i : Int) < (n : Int) := by omega
    go_upto_region 2 with fail
    have hile : i ≤ n := hi
    refine wp_region_later (by kernel_rfl) (by kernel_rfl) ?_
    repeat (first | go_big_quiet_step (fail) | quiet_step (fail))
    refine wpQuiet_nil ?_
    rintro w1 ⟨x1, hx1⟩
    have HB1 := LH (HB.out.trans ((show Below wr.heap.size wr w1 by rw [hx1]; exact x1.below).mono HB.out.size))
    clear hx1 rq hni hin
    go_upto_region 4 with fail
    have hba := below_alloc w1 (.cells #[] 40)
    have HB2 := LH (HB1.out.trans (hba.mono HB1.out.size))
    have HCe := LH (HC.out.below HB2.out (Nat.le_refl _))
    have HBs : Hid (w.heap.size ≤ w1.heap.size) := LH (Nat.le_trans HW0.out.size HB1.out.size)
    have HOw : Hid ((w1.alloc (.cells #[] 40)).ownsRow w.heap.size 40 3 (.slice (some ⟨w1.heap.size, 0, none⟩) 0 0) 0 []) := LH ⟨rfl, .inr ⟨w1.heap.size, 0, #[], rfl, HBs.out, heap_alloc_new w1 _, Nat.le_refl _, Nat.zero_le _, rfl, rfl⟩⟩
    have HXl : Hid ((recs Ob.cs xs).length = n * 3) := LH (by rw [recs_length Ob.len, HN.out])
    have HDl : Hid (((recs Ob.cs xs).drop (i * 3)).length = (n - i) * 3) := LH (by rw [List.length_drop, HXl.out]; omega)
    have HDo : Hid (∀ u ∈ (recs Ob.cs xs).drop (i * 3), u.oneCell' = true) := LH (fun u hu => ob_one xs u (List.mem_of_mem_drop hu))
    have HNn : Hid (0 + (n - i) < 1000000000000) := LH (by omega)
    have HBs2 : Hid (w.heap.size ≤ (w1.alloc (.cells #[] 40)).heap.size) := LH (Nat.le_trans HBs.out hba.size)
    clear hba
    go_upto_region 5 with (first
     | (refine wpList_slice_from elOb i HCe.out HXl.out rfl hile hnc rfl rfl rfl rfl ?_; intro ad' hc'; have HCd := LH hc'; clear hc')
     | (at_builtin; refine wpList_append_cells elOb HOw.out HCd.out HDl.out HDo.out HNn.out (by decide) HBs2.out rfl rfl rfl rfl ?_; intro v3 w3 h1 h2 h3; have HO3 := LH h1; have HG3 := LH h2; clear h1 h2 h3))
    obtain ⟨a3, c3, rfl, _, _⟩ := owned_form HO3.out
    have HB3 := LH (below_grownBy (base := w1.heap.size) (e := 40) (size := 3) (n := 0) (xs := []) HB2.out ⟨rfl, .inr ⟨w1.heap.size, 0, #[], rfl, Nat.le_refl _, heap_alloc_new w1 _, Nat.le_refl _, Nat.zero_le _, rfl, rfl⟩⟩ HG3.out (Nat.le_refl _) HB1.out.size)
    have HMr3 := LH (HM.out.later HB3.out)
    have hld : ∀ w', (∃ x : Later w3, w' = x.val) → ∀ (i : Nat) (v : Value), (#[.int .i64 (xa : Int), .int .i64 xp, .int .i64 xd] : Array Value).toList[i]? = some v → w'.cell? ⟨q, 0 + i, none⟩ = some v := by
     rintro w' ⟨x, rfl⟩ i v hi
     refine later_cell ?_ x
     rw [Nat.zero_add]
     exact HMr3.out.cell 0 i rfl hi
    obtain ⟨ln, hln⟩ : ∃ ln, ln = 0 + (n - i) := ⟨_, rfl⟩
    rw [← hln] at HO3 ⊢
    have HLn := LH hln
    clear hln
    refine wp_region_seg (C := fun w' => ∃ x : Later (w3), w' = x.val) [.fl [0, 1, 2, 3, 4, 7], .sq [5] true, .sq [6] true, .sq [8, 9] false] (by kernel_rfl) (by kernel_rfl) (by intro c a d v w h; cases d <;> exact h) ?_
    simp only [segs, picks, List.getElem?_cons_succ, List.getElem?_cons_zero]
    have hC1 := later_drew (w3)
    refine wpSeg_fl hC1 ?_
    repeat (first | (refine wpQuiet_load_arr aggOb3 #[.int .i64 (xa : Int), .int .i64 xp, .int .i64 xd] hld rfl rfl rfl rfl ?_) | (refine wpQuiet_slice_clip elOb i rfl rfl hile hnc rfl rfl rfl rfl rfl ?_) | go_big_quiet_step (fail) | quiet_step (fail))
    refine wpQuiet_nil ?_
    have HD4 := LH (later_below hC1)
    generalize w3.drew = w4 at *
    refine wpSeg_sq (fun K hK => ?_)
    go_wp2_with fail
    have hba := below_alloc w4 (.cells #[.int .i64 (xa : Int), .int .i64 xp, .int .i64 xd] 40)
    have hC2 := later_step hC1 hba
    obtain ⟨q4, hq4⟩ : ∃ q4, q4 = w4.heap.size := ⟨_, rfl⟩
    have HB5 := LH (HB3.out.trans ((HD4.out.trans (hba.mono HD4.out.size)).mono HB3.out.size))
    have HX5 : Hid (∀ j v, ([.int .i64 (xa : Int), .int .i64 xp, .int .i64 xd] : List Value)[j]? = some v → (w4.alloc (.cells #[.int .i64 (xa : Int), .int .i64 xp, .int .i64 xd] 40)).cell? ((⟨w4.heap.size, 0, none⟩ : Addr).add j) = some v) := LH (fun j v hj => by rw [add_none, Nat.zero_add]; exact cell_alloc_new _ _ _ j _ (by simpa using hj))
    have HC5 := LH ((Cells.ownedN HO3.out).below (HD4.out.trans (hba.mono HD4.out.size)) (Nat.le_refl _))
    rw [List.nil_append] at HC5
    clear hba
    go_wp2_with fail
    refine hK _ _ (fun _ => hC2) ?_
    clear hK K
    rw [← hq4] at HX5 ⊢
    clear hq4
    generalize w4.alloc _ = w5 at *
    have HCt : Hid (Cells w5 _ (recs Ob.cs (xs.take i))) := LH (by rw [recs_take xs (by rw [HN.out]; exact hile)]; exact (HC.out.below HB5.out (Nat.le_refl _)).take _)
    have HTl : Hid ((recs Ob.cs (xs.take i)).length = i * 3) := LH (by rw [recs_length Ob.len, List.length_take]; have := HN.out; omega)
    have HN6 : Hid (i + 1 < 1000000000000) := LH (by omega)
    refine wpSeg_sq (fun K hK => ?_)
    go_wp2_with (refine wpList_append_full elOb HCt.out HTl.out (by decide : 0 < 1) (rfl : ([.int .i64 (xa : Int), .int .i64 xp, .int .i64 xd] : List Value).length = 1 * 3) HX5.out HN6.out (by decide) rfl rfl rfl rfl ?_; intro v6 w6 h1 h2; have HO6 := LH h1; have HG6 := LH h2; clear h1 h2)
    have hb6 := below_grown HG6.out (Nat.le_refl _)
    have hC3 := later_step hC2 hb6
    have HB6 := LH (HB5.out.trans (hb6.mono HB5.out.size))
    have HC6 := LH (HC5.out.below hb6 (Nat.le_refl _))
    have HBw : Hid (w5.heap.size ≤ w6.heap.size) := LH hb6.size
    clear hb6
    go_wp2_with fail
    refine hK _ _ (fun _ => hC3) ?_
    clear hK K
    have HLd : Hid (((recs Ob.cs xs).drop (i * 3)).length = ln * 3) := LH (by rw [HDl.out, HLn.out]; omega)
    have HN7 : Hid (i + 1 + ln < 1000000000000) := LH (by have := HLn.out; omega)
    refine wpSeg_last ?_
    go_wp2_with (refine wpList_append_cells elOb HO6.out HC6.out HLd.out HDo.out HN7.out (by decide) HBw.out rfl rfl rfl rfl ?_; intro v7 w7 h1 h2 h3; have HO7 := LH h1; have HG7 := LH h2; clear h1 h2 h3)
    refine HP.out i v7 w7 (by rw [HN.out]; exact hile) HLt.out HStop.out ?_ ?_
    ·have e1 : recs Ob.cs (xs.take i ++ [⟨xa, xp, xd⟩] ++ xs.drop i) = recs Ob.cs (xs.take i) ++ [.int .i64 (xa : Int), .int .i64 xp, .int .i64 xd] ++ (recs Ob.cs xs).drop (i * 3) := by
      rw [recs_append, recs_append, recs_drop xs (by rw [HN.out]; exact hile)]; rfl
     have e2 : (xs.take i ++ [(⟨xa, xp, xd⟩ : Ob)] ++ xs.drop i).length = i + 1 + ln := by
      rw [List.length_append, List.length_append, List.length_take, List.length_drop, HN.out, HLn.out]; simp; omega
     unfold OwnOb
     rw [e1, e2]
     have hw5 : w.heap.size ≤ w5.heap.size := Nat.le_trans HW0.out.size HB5.out.size
     have h7 := HO7.out
     exact ⟨h7.1, h7.2.imp id (fun ⟨g, cp, cu, k1, k2, k3⟩ => ⟨g, cp, cu, k1, Nat.le_trans hw5 k2, k3⟩)⟩
    ·exact HW0.out.trans ((below_grownBy HB6.out HO6.out HG7.out (Nat.le_refl _) HB5.out.size).mono HW0.out.size)
end Go.Proofs.YtbimcogdbafjpaaGreat
namespace Go.Proofs.YtbimcogdbafjpaaGreat
open Go.RowKit
def Now16 (S : Dev) (w : World) : Ending → World → Prop := fun e w' => ∃ a c, e = .returned (.slice a S.cache.length c) ∧ Cells w' a (S.cache.map vu64) ∧ Below w.heap.size w w'
set_option maxHeartbeats 4000000 in
set_option maxRecDepth 20000 in
theorem now16_any {w : World} {F : Foot} {S : Dev} (h : DevAt w F S) (hL : S.cache.length ≤ 8192) :
  Calls Tryz.prog 22 #[vdev F] w (Now16 S w) := by
 have HP : Hid (∀ a c w', Cells w' a (S.cache.map vu64) → Below w.heap.size w w' → Now16 S w (.returned (.slice a S.cache.length c)) w') := LH (fun a c w' h1 h2 => ⟨a, c, rfl, h1, h2⟩)
 generalize Now16 S w = Post at *
 have HD0 := LH h
 obtain ⟨l, hl⟩ : ∃ l, l = S.cache.length := ⟨_, rfl⟩
 rw [← hl] at hL
 have HL := LH hl
 clear h hl
 go_enter Tryz.func22, Tryz.ntmps22
 go_wp2_with fail
 go_loopw [3, 4] (fun v i wr => ∃ k : Nat, k ≤ l ∧ i = .int .i64 (k : Int) ∧ Hid (wr.ownsRow w.heap.size 113 1 v k ((S.cache.take k).map vu64)) ∧ Hid (Below w.heap.size w wr)) (fun _ i _ => l - (intOf i).toNat)
 case atStart => exact ⟨0, Nat.zero_le _, rfl, LH ⟨rfl, .inl ⟨rfl, rfl⟩⟩, LH (Below.refl _ _)⟩
 case round =>
  obtain ⟨k, hk, rfl, HO, HB⟩ := hrel
  obtain ⟨a1, c1, rfl, hc1, hm1⟩ := owned_form HO.out
  have HD1 := LH (HD0.out.below HB.out)
  by_cases hlt : k < l
  ·have hlt' : (k : Int) < (l : Int) := by omega
   have hlt2 : (k : Int) < 8192 := by omega
   have HLn := LH (dlen_any HD1.out)
   rw [← HL.out] at HLn
   have HGet := LH (dget_any HD1.out (k : Int))
   rw [peek_in] at HGet
   have HS : Hid ((S.cache.take (k + 1)).map vu64 = (S.cache.take k).map vu64 ++ [vu64 (S.cache.getD k 0)]) := LH (by
    have : k < S.cache.length := by rw [← HL.out]; exact hlt
    rw [List.take_succ_eq_append_getElem this, List.map_append, List.getD_eq_getElem?_getD, List.getElem?_eq_getElem this]; rfl)
   generalize S.cache.getD k 0 = y at *
   have hone : Hid (∀ u ∈ (#[vu64 y] : Array Value).toList, u.oneCell' = true) := LH (by intro u hu; simp at hu; subst hu; rfl)
   have hbase : Hid (w.heap.size ≤ wr.heap.size) := LH HB.out.size
   have hk9 : k < 1000000000000 := by omega
   go_wp2_with fail
   refine HLn.out.mono ?_
   rintro e w3 ⟨rfl, rfl⟩
   go_wp2_with fail
   refine HGet.out.mono ?_
   rintro e w4 ⟨rfl, rfl⟩
   go_wp2_with (at_builtin; refine wpList_append_new (us := #[vu64 y]) el64 HO.out rfl hone.out hk9 (by decide) hbase.out rfl rfl rfl (by simp [Act.eval]) ?_; intro g6 c6 w6 ho6 hg6 hc6 hm6 hb6 hl6; have HO6 := LH ho6; have HG6 := LH hg6; clear ho6 hg6)
   go_roundw
   case rel =>
    refine ⟨k + 1, by omega, vint (by omega), LH ?_, LH (below_grownBy HB.out HO.out HG6.out (Nat.le_refl _) (Nat.le_refl _))⟩
    rw [HS.out]
    simpa using HO6.out
   case measure => simp [intOf]; omega
  ·obtain rfl : k = l := by omega
   have hlt' : ¬ (k : Int) < (k : Int) := by omega
   have HLn := LH (dlen_any HD1.out)
   rw [← HL.out] at HLn
   go_wp2_with fail
   refine HLn.out.mono ?_
   rintro e w3 ⟨rfl, rfl⟩
   have HC := LH (Cells.owned HO.out)
   have hll : S.cache.take k = S.cache := by rw [HL.out, List.take_length]
   rw [hll] at HC
   have HFin := LH (HP.out a1 c1 wr HC.out HB.out)
   rw [← HL.out] at HFin
   clear hll
   go_wp2_with fail
   exact HFin.out
end Go.Proofs.YtbimcogdbafjpaaGreat
namespace Go.Proofs.YtbimcogdbafjpaaGreat
open Go.Lib (decDigits itoa nDigits)
end Go.Proofs.YtbimcogdbafjpaaGreat
namespace Go.Proofs.YtbimcogdbafjpaaGreat
open Go.RowKit
open Go.Lib (decDigits itoa nDigits)
open Go.Lib (decDigits itoa nDigits)
open Go.Lib (decDigits itoa nDigits)
section
variable {P : Program} {w : World} {ops : Array Oper} {rest : List Oper} {o : Oper} {a : Act} {Q : Exit → Act → World → Prop}
end
end Go.Proofs.YtbimcogdbafjpaaGreat
namespace Go.Proofs
open Go.Shelf
end Go.Proofs
namespace Go.Proofs.YtbimcogdbafjpaaGreat
open Go.RowKit Go.Shelf
end Go.Proofs.YtbimcogdbafjpaaGreat
namespace Go.Proofs.YtbimcogdbafjpaaGreat
open Go.RowKit
def nlB (wd : Int) (b B : Nat) : Prop := 0 < wd ∧ (b : Int) % wd = 0 ∧ (b : Int) < (B : Int) - 1
instance (wd : Int) (b B : Nat) : Decidable (nlB wd b B) := by unfold nlB; infer_instance
open Go.Lib (decDigits itoa nDigits)
open Go.Lib (decDigits itoa nDigits)
set_option maxHeartbeats 2000000 in
theorem rwhole_any (a : Option Addr) (n cap : Nat) (l : List Hd) (hn : l.length = n) (w : World) (hc : Cells w a (hdCs l)) (hl : n ≤ 1000) (b : Nat) (hb : b < n) :
  Calls Tryz.prog 108 #[.slice a n cap, .int .i64 (b : Int)] w (Gives (.int .i64 (wholeN l b : Nat)) w) := by
 have hbl : b < l.length := by rw [hn]; exact hb
 obtain ⟨k, c, z, he⟩ := hdGetD l b
 have HW : Hid (wholeN l b = if k ≠ 2 ∨ z < 1 ∨ (n : Int) - b < z then 0 else if contTo l b z.toNat then z.toNat else 0) := LH (by
  unfold wholeN
  rw [he, hn]
  dsimp only
  by_cases h1 : k ≠ 2 ∨ z < 1 ∨ (n : Int) - b < z
  ·rw [if_pos (.inr h1), if_pos h1]
  ·rw [if_neg h1, if_neg (by rintro (h | h); omega; exact h1 h)])
 obtain ⟨b1, o1, rfl, d0, d1, d2⟩ := hd_cells hc hbl he
 have HC := LH hc
 have HN := LH hn
 have HP : Hid (∀ (x : Int) w', x = (wholeN l b : Int) → Below w.heap.size w w' → Gives (.int .i64 (wholeN l b : Nat)) w (.returned (.int .i64 x)) w') := LH (fun x w' h1 h2 => by subst h1; exact ⟨rfl, h2⟩)
 generalize Gives (.int .i64 (wholeN l b : Nat)) w = Post at *
 have HB1 : Hid (b1 < w.heap.size) := LH (by
  have : (w.cell? ⟨b1, o1 + b * 3, none⟩).isSome = true := by rw [d0]; rfl
  apply Classical.byContradiction
  intro hc
  have hnone : w.heap[b1]? = none := Array.getElem?_eq_none (by omega)
  simp [World.cell?, hnone] at this)
 have HD2 := LH d2
 clear hc hn he d1
 have hbn : (b : Int) < (n : Int) := by omega
 by_cases hk : k = 2
 case neg =>
  have HE : Hid (wholeN l b = 0) := LH (by rw [HW.out, if_pos (.inl hk)])
  have hk' : (k != 2) = true := by simpa using hk
  clear hk
  go_enter Tryz.func108, Tryz.ntmps108
  go_wp2_with fail
  exact HP.out _ _ (by rw [HE.out]; rfl) (Below.refl _ _)
 subst hk
 by_cases hz : z < 1
 ·have HE : Hid (wholeN l b = 0) := LH (by rw [HW.out, if_pos (.inr (.inl hz))])
  go_enter Tryz.func108, Tryz.ntmps108
  go_wp2_with fail
  exact HP.out _ _ (by rw [HE.out]; rfl) (Below.refl _ _)
 by_cases hz2 : (n : Int) - b < z
 ·have HE : Hid (wholeN l b = 0) := LH (by rw [HW.out, if_pos (.inr (.inr hz2))])
  have hw1 : IntKind.i64.wrap ((n : Int) - (b : Int)) = (n : Int) - (b : Int) := IntWalk.i64_in _ (by omega)
  go_enter Tryz.func108, Tryz.ntmps108
  go_wp2_with fail
  exact HP.out _ _ (by rw [HE.out]; rfl) (Below.refl _ _)
 obtain ⟨m, rfl⟩ := Int.eq_ofNat_of_zero_le (show 0 ≤ z by omega)
 have hm1 : 1 ≤ m := by omega
 have hmn : b + m ≤ n := by omega
 have HW2 : Hid (wholeN l b = if contTo l b m then m else 0) := LH (by rw [HW.out, if_neg (by rintro (h | h | h); exact h rfl; omega; omega)]; rfl)
 have hw1 : IntKind.i64.wrap ((n : Int) - (b : Int)) = (n : Int) - (b : Int) := IntWalk.i64_in _ (by omega)
 clear HW hz hz2
 go_enter Tryz.func108, Tryz.ntmps108
 go_wp2_with fail
 go_loopw [5] (fun i wr => ∃ j : Nat, 1 ≤ j ∧ j ≤ m ∧ i = .int .i64 (j : Int) ∧ contTo l b j = true ∧ Below w.heap.size w wr) (fun i _ => m - (intOf i).toNat)
 case atStart => exact ⟨1, Nat.le_refl _, hm1, rfl, by simp [contTo], Below.refl _ _⟩
 case round =>
  obtain ⟨j, hj1, hjm, rfl, hco, hbe⟩ := hrel
  have HCo := LH hco
  have HB := LH hbe
  have e9 := (HB.out.cell (p := ⟨b1, o1 + b * 3 + 2, none⟩) HB1.out).trans HD2.out
  clear hco hbe d0 d2
  by_cases hlt : j < m
  ·have hlt' : (j : Int) < (m : Int) := by omega
   have hin : b + j < n := by omega
   have hin' : (b : Int) + (j : Int) < (n : Int) := by omega
   obtain ⟨k2, c2, z2, he2⟩ := hdGetD l (b + j)
   obtain ⟨b2, o2, hee, e0, e1, e2⟩ := hd_cells (HC.out.below HB.out (Nat.le_refl _)) (by rw [HN.out]; exact hin) he2
   cases hee
   have hto : ((b : Int) + (j : Int)).toNat = b + j := by omega
   have HE2 := LH he2
   have HNo : Hid ((⟨k2, c2, z2⟩ : Hd) ≠ ⟨3, 0, (j : Int)⟩ → wholeN l b = 0) := LH (fun hq => by rw [HW2.out, contTo_no hj1 hlt (by rw [he2]; exact hq)]; rfl)
   clear he2
   go_upto_region 7 with fail
   have HMa := LH (Mem.one wr #[.int .i64 k2, .int .i64 c2, .int .i64 z2] 115)
   have HBa := LH (HB.out.trans (HMa.out.below.mono HB.out.size))
   generalize wr.alloc _ = wa at *
   have f0 := HMa.out.cell 0 0 rfl rfl
   have f1 := HMa.out.cell 0 1 rfl rfl
   have f2 := HMa.out.cell 0 2 rfl rfl
   by_cases h1 : k2 = 3
   ·subst h1
    by_cases h2 : c2 = 0
    ·subst h2
     by_cases h3 : z2 = (j : Int)
     ·subst h3
      have HCo2 : Hid (contTo l b (j + 1) = true) := LH (by rw [contTo, HCo.out, HE2.out]; simp)
      have hne : ((j : Int) != (j : Int)) = false := by simp
      go_wp2_with fail
      exact ⟨⟨j + 1, by omega, by omega, vint (by omega), HCo2.out, HBa.out⟩, by simp [intOf]; omega⟩
     ·have HE : Hid (wholeN l b = 0) := LH (HNo.out (by intro e; injection e with _ _ e3; exact h3 e3))
      have hne : (z2 != (j : Int)) = true := by simpa using h3
      clear h3
      go_wp2_with fail
      exact HP.out _ _ (by rw [HE.out]; rfl) HBa.out
    ·have HE : Hid (wholeN l b = 0) := LH (HNo.out (by intro e; injection e with _ e3 _; exact h2 e3))
     have hne : (c2 != 0) = true := by simpa using h2
     clear h2
     go_wp2_with fail
     exact HP.out _ _ (by rw [HE.out]; rfl) HBa.out
   ·have HE : Hid (wholeN l b = 0) := LH (HNo.out (by intro e; injection e with e3 _ _; exact h1 e3))
    have hne : (k2 != 3) = true := by simpa using h1
    clear h1
    go_wp2_with fail
    exact HP.out _ _ (by rw [HE.out]; rfl) HBa.out
  ·obtain rfl : j = m := by omega
   have hlt' : decide ((j : Int) < (j : Int)) = false := by simp
   have HE : Hid (wholeN l b = j) := LH (by rw [HW2.out, HCo.out]; rfl)
   go_wp2_with fail
   exact HP.out _ _ (by rw [HE.out]) HB.out
def RPlPost (S : Dev) (L : List Hd) (a : Int) (w : World) : Ending → World → Prop := fun e w' => (∃ p d : Int, e = .returned (.tuple #[vob p d, .bool (placedN S L a).isSome]) ∧ ∀ o, placedN S L a = some o → o = ⟨p, d, 0⟩) ∧ Below w.heap.size w w'
set_option maxHeartbeats 8000000 in
set_option maxRecDepth 20000 in
theorem rplaced_any {w : World} {v : Value} {S : Dev} {m : Nat} (hm : S.dirty.length = m) (h : RAt w v m S.ref) {N : Nat} (hf : S.fit N) (a : Option Addr) (n cap : Nat) (L : List Hd) (hn : L.length = n) (hc : Cells w a (hdCs L)) (hl : n ≤ 1000) (x : Int) (hx : In64 x) :
  Calls Tryz.prog 20 #[v, .slice a n cap, .int .i64 x] w (RPlPost S L x w) := by
 have hIn := hx
 unfold In64 at hIn
 have HHead := LH (fun w' (h : RAt w' v m S.ref) => rhead15_any hm h hf x)
 have HP : Hid (∀ (p d : Int) b w', b = (placedN S L x).isSome → (∀ o, placedN S L x = some o → o = ⟨p, d, 0⟩) → Below w.heap.size w w' → RPlPost S L x w (.returned (.tuple #[vob p d, .bool b])) w') := LH (fun p d b w' h1 h2 h3 => by subst h1; exact ⟨⟨p, d, rfl, h2⟩, h3⟩)
 generalize RPlPost S L x w = Post at *
 obtain ⟨D, rfl⟩ := h.agg
 obtain ⟨hD8, hD1⟩ := h.arr
 have HM := LH (Mem.two w D 59 #[.int .i64 0, .int .i64 0] 38)
 have HR0 := LH (h.below HM.out.below (Nat.le_refl _))
 have HCw := LH hc
 have HN := LH hn
 clear h hf hm hc hn hx
 go_enter Tryz.func20, Tryz.ntmps20
 go_upto_region 1 with fail
 generalize (w.alloc _).alloc _ = w0 at *
 obtain ⟨q, hq⟩ : ∃ q, q = w.heap.size := ⟨_, rfl⟩
 rw [← hq] at HM ⊢
 clear hq
 go_wp2_with (refine wpList_load_box aggRd HM.out 0 rfl hD8 rfl rfl rfl ?_)
 refine (HHead.out _ HR0.out).mono ?_
 rintro e w1 ⟨rfl, hb1⟩
 have HM1 := LH (HM.out.later hb1)
 clear hb1 HHead HR0 HM
 rcases headN_cases S x with hh | ⟨p, d, hh⟩
 ·have HE : Hid (placedN S L x = none) := LH (by unfold placedN; rw [hh, if_pos (.inr (.inr (by simp)))])
  rw [hh, show headV (⟨0, 0, 22⟩ : Odec) = .tuple #[vob 0 0, .bool false] from rfl]
  clear hh
  go_upto_region 2 with fail
  have HM2 := LH (HM1.out.alloc #[.int .i64 0, .int .i64 0] 38)
  generalize w1.alloc _ = w2 at *
  go_wp2_with (refine wpList_store_mem aggRo HM2.out 1 rfl rfl rfl rfl rfl rfl rfl rfl ?_; intro w6 h6 ht6; have H6 := LH h6; have HT6 := LH ht6; clear h6 ht6)
  refine bodyPost_ret (results_cell_row2 (p := 6) (u := 7) rfl _ _ _ _ _ _ _ rfl (H6.out.exact 1 rfl) Tryz.underlying38 rfl (by kernel_rfl)) rfl ?_
  exact HP.out _ _ _ _ (by rw [HE.out]; rfl) (fun o ho => by rw [HE.out] at ho; cases ho) H6.out.below
 rw [hh, show headV (⟨p, d, 0⟩ : Odec) = .tuple #[vob p d, .bool true] from rfl]
 have HH := LH hh
 clear hh
 go_upto_region 2 with fail
 have HM2 := LH (HM1.out.alloc #[.int .i64 p, .int .i64 d] 38)
 generalize w1.alloc _ = w2 at *
 obtain ⟨g, hg⟩ : ∃ g, g = w1.heap.size := ⟨_, rfl⟩
 rw [← hg] at HM2 ⊢
 clear hg HM1
 by_cases h5 : x < 512
 ·have HE : Hid (placedN S L x = none) := LH (by unfold placedN; rw [if_pos (.inl h5)])
  go_wp2_with (refine wpList_store_mem aggRo HM2.out 1 rfl rfl rfl rfl rfl rfl rfl rfl ?_; intro w6 h6 ht6; have H6 := LH h6; have HT6 := LH ht6; clear h6 ht6)
  refine bodyPost_ret (results_cell_row2 (p := 6) (u := 7) rfl _ _ _ _ _ _ _ rfl (H6.out.exact 1 rfl) Tryz.underlying38 rfl (by kernel_rfl)) rfl ?_
  exact HP.out _ _ _ _ (by rw [HE.out]; rfl) (fun o ho => by rw [HE.out] at ho; cases ho) H6.out.below
 obtain ⟨y, rfl⟩ := Int.eq_ofNat_of_zero_le (show 0 ≤ x by omega)
 have hyd : ((y : Nat) : Int) / 512 = ((y / 512 : Nat) : Int) := by omega
 have hym : ((y : Nat) : Int) % 512 = ((y % 512 : Nat) : Int) := by omega
 obtain ⟨b, hb⟩ : ∃ b, b = y / 512 := ⟨_, rfl⟩
 obtain ⟨o, ho⟩ : ∃ o, o = y % 512 := ⟨_, rfl⟩
 rw [← hb] at hyd
 rw [← ho] at hym
 have HBO : Hid (b = y / 512 ∧ o = y % 512) := LH ⟨hb, ho⟩
 have hol : o < 512 := by omega
 clear hb ho
 by_cases hbn : n ≤ b
 ·have HE : Hid (placedN S L (y : Int) = none) := LH (by unfold placedN; rw [if_pos (.inr (.inl (by rw [HN.out]; have := HBO.out.1; omega)))])
  have hbn' : (n : Int) ≤ (b : Int) := by omega
  go_wp2_with (refine wpList_store_mem aggRo HM2.out 1 rfl rfl rfl rfl rfl rfl rfl rfl ?_; intro w6 h6 ht6; have H6 := LH h6; have HT6 := LH ht6; clear h6 ht6)
  refine bodyPost_ret (results_cell_row2 (p := 6) (u := 7) rfl _ _ _ _ _ _ _ rfl (H6.out.exact 1 rfl) Tryz.underlying38 rfl (by kernel_rfl)) rfl ?_
  exact HP.out _ _ _ _ (by rw [HE.out]; rfl) (fun o ho => by rw [HE.out] at ho; cases ho) H6.out.below
 have hbn' : b < n := by omega
 have HPl : Hid (placedN S L (y : Int) = if small (objSize p d) then (if isCell L (ofN (objSize p d : Nat)) y then some ⟨p, d, 0⟩ else none)
  else if o = 0 ∧ wholeN L b = objBlocks (objSize p d) then some ⟨p, d, 0⟩ else none) := LH (by
   unfold placedN
   rw [HH.out, HN.out, Int.toNat_natCast, ← HBO.out.1, ← HBO.out.2, if_neg (by have := HBO.out.1; dsimp only; omega)])
 go_upto_region 4 with fail
 obtain ⟨k, c, z, he⟩ := hdGetD L b
 obtain ⟨b1, o1, rfl, e0, e1, e2⟩ := hd_cells (HCw.out.below HM2.out.below (Nat.le_refl _)) (by rw [HN.out]; exact hbn') he
 have HEb := LH he
 clear he
 have hbn2 : (b : Int) < (n : Int) := by omega
 go_cut [10, 11] from 33 (fun hv kv wc => ∃ g2 : Nat, hv = .pointer (some ⟨g2, 0, none⟩) ∧ kv = .int .i64 (rofN (objSize p d : Nat)) ∧ Hid (Mem w wc [⟨q, 59, D.toList, true⟩, ⟨q + 1, 38, [.int .i64 0, .int .i64 0], true⟩, ⟨g, 38, [.int .i64 p, .int .i64 d], true⟩, ⟨g2, 115, [.int .i64 k, .int .i64 c, .int .i64 z], true⟩]))
 case first =>
  have d0 := HM2.out.cell 2 0 rfl rfl
  have d1 := HM2.out.cell 2 1 rfl rfl
  have r0 := fun x => later_cell d0 x
  have r1 := fun x => later_cell d1 x
  have r2 := fun x => later_cell e0 x
  have r3 := fun x => later_cell e1 x
  have r4 := fun x => later_cell e2 x
  clear d0 d1 e0 e1 e2
  refine wp_region_tr (C := fun w' => ∃ x : Later (w2), w' = x.val) (.fl [0, 1, 2, 3, 4, 5] (.br 6 true (.sq [7] true (.sq [8, 9] false (.nil))) 7 true (.sq [6] true (.sq [8, 9] false (.nil))))) (by kernel_rfl) (by kernel_rfl) (by intro c a d v w h; cases d <;> exact h) ?_
  simp only [trO, picks, List.getElem?_cons_succ, List.getElem?_cons_zero]
  have hC1 := later_drew (w2)
  refine wpTr_fl hC1 ?_
  repeat (first | go_big_quiet_step (fail) | quiet_step (fail))
  refine wpQuiet_nil ?_
  clear r0 r1 r2 r3 r4
  have HM3 := LH (HM2.out.later (later_below hC1))
  have HRef : Hid (∀ w', Calls Tryz.prog 15 #[.agg #[.int .i64 p, .int .i64 d]] w' fun e w'' => e = .returned (.int .i64 (rofN (objSize p d : Nat))) ∧ Below w'.heap.size w' w'') := LH (rclass_any p d)
  generalize rofN (objSize p d : Nat) = cls at *
  generalize w2.drew = w3 at *
  refine wpTr_br ?_ ?_
  ·refine wpTr_sq (fun K hK => ?_)
   go_wp2_with fail
   refine (HRef.out _).mono ?_
   rintro e w4 ⟨rfl, hb4⟩
   have hC2 := later_step hC1 hb4
   have HM4 := LH ((HM3.out.later hb4).alloc #[.int .i64 0, .int .i64 0, .int .i64 0] 115)
   clear hb4
   go_wp2_with fail
   refine hK _ _ (fun _ => hC2) ?_
   clear hK K
   refine wpTr_sq (fun K hK => ?_)
   go_wp2_with fail
   have hC3 := later_step hC2 (below_alloc w4 (.cells #[.int .i64 0, .int .i64 0, .int .i64 0] 115))
   go_wp2_with fail
   refine hK _ _ (fun _ => hC3) ?_
   clear hK K
   generalize w4.alloc _ = w5 at *
   obtain ⟨g2, hg2⟩ : ∃ g2, g2 = w4.heap.size := ⟨_, rfl⟩
   rw [← hg2] at HM4 ⊢
   have HG2 : Hid (g2 < w5.heap.size) := LH (HM4.out.glt 3 rfl)
   clear hC1 hC2 hC3 hg2
   refine wpTr_last ?_
   go_wp2_with (refine wpList_store_mem aggRh HM4.out 3 rfl rfl rfl rfl rfl rfl rfl rfl ?_; intro w6 h6 ht6; have H6 := LH h6; have HT6 := LH ht6; clear h6 ht6)
   go_meet
   exact ⟨g2, rfl, rfl, H6⟩
  ·refine wpTr_sq (fun K hK => ?_)
   go_wp2_with fail
   have HM4 := LH (HM3.out.alloc #[.int .i64 0, .int .i64 0, .int .i64 0] 115)
   have hC2 := later_step hC1 (below_alloc w3 (.cells #[.int .i64 0, .int .i64 0, .int .i64 0] 115))
   go_wp2_with fail
   refine hK _ _ (fun _ => hC2) ?_
   clear hK K
   generalize w3.alloc _ = w4 at *
   obtain ⟨g2, hg2⟩ : ∃ g2, g2 = w3.heap.size := ⟨_, rfl⟩
   rw [← hg2] at HM4 ⊢
   clear hg2
   refine wpTr_sq (fun K hK => ?_)
   go_wp2_with fail
   refine (HRef.out _).mono ?_
   rintro e w5 ⟨rfl, hb5⟩
   have hC3 := later_step hC2 hb5
   have HM5 := LH (HM4.out.later hb5)
   clear hb5
   go_wp2_with fail
   refine hK _ _ (fun _ => hC3) ?_
   clear hK K
   clear hC1 hC2 hC3
   refine wpTr_last ?_
   go_wp2_with (refine wpList_store_mem aggRh HM5.out 3 rfl rfl rfl rfl rfl rfl rfl rfl ?_; intro w6 h6 ht6; have H6 := LH h6; have HT6 := LH ht6; clear h6 ht6)
   go_meet
   exact ⟨g2, rfl, rfl, H6⟩
 case rest =>
  obtain ⟨g2, rfl, rfl, HM4⟩ := hcut
  clear HM2 e0 e1 e2
  by_cases hsm : small (objSize p d)
  ·have hk := ofN_lt hsm
   rw [rofN_small _ hsm]
   have HPl2 : Hid (placedN S L (y : Int) = if isCell L (ofN (objSize p d : Nat)) y then some ⟨p, d, 0⟩ else none) := LH (by rw [HPl.out, if_pos hsm])
   generalize ofN (objSize p d : Nat) = kk at *
   have HWd := LH (fun w => rcwords_any (kk : Int) w)
   have HCl := LH (fun w => rccells_any (kk : Int) w)
   have hp := clsWords_pos (kk : Int) (by omega)
   have HIs : Hid (isCell L kk y ↔ (⟨k, c, z⟩ : Hd) = ⟨1, kk, 0⟩ ∧ o % clsWords kk = 0 ∧ o / clsWords kk < clsCells kk) := LH (by
    unfold isCell
    rw [← HBO.out.1, ← HBO.out.2, HEb.out, HN.out]
    have := HBO.out.1
    constructor
    ·rintro ⟨_, _, h⟩; exact h
    ·intro h; exact ⟨by omega, by omega, h⟩)
   generalize clsWords (kk : Int) = W at *
   generalize clsCells (kk : Int) = Cn at *
   clear hsm HPl HBO HEb
   by_cases h1 : k = 1
   case neg =>
    have HE : Hid (placedN S L (y : Int) = none) := LH (by rw [HPl2.out, if_neg (fun h => h1 (by have := (HIs.out.1 h).1; injection this))])
    have h1' : (k == 1) = false := by simpa using h1
    clear h1
    go_upto_region 7 with fail
    have d0 := HM4.out.cell 2 0 rfl rfl
    have d1 := HM4.out.cell 2 1 rfl rfl
    have f0 := HM4.out.cell 3 0 rfl rfl
    have f1 := HM4.out.cell 3 1 rfl rfl
    have f2 := HM4.out.cell 3 2 rfl rfl
    have hnd := HM4.out.nd
    simp only [List.map_cons, List.map_nil, List.nodup_cons, List.mem_cons, List.not_mem_nil, or_false, not_or] at hnd
    have hg1 : g ∉ [q + 1] := by simp; exact fun e => hnd.2.1.1 e.symm
    have hg2 : g2 ∉ [q + 1] := by simp; exact fun e => hnd.2.1.2 e.symm
    have r0 := fun x => near_cell (L := [q + 1]) d0 hg1 x
    have r1 := fun x => near_cell (L := [q + 1]) d1 hg1 x
    have r2 := fun x => near_cell (L := [q + 1]) f0 hg2 x
    have r3 := fun x => near_cell (L := [q + 1]) f1 hg2 x
    have r4 := fun x => near_cell (L := [q + 1]) f2 hg2 x
    have HT0 : Hid (Touch [q + 1] wc wc.drew) := LH (Touch.ofBelow (later_below (later_drew wc)))
    have HD0 : Hid (Below wc.heap.size wc wc.drew) := LH (later_below (later_drew wc))
    have hC1 := near_of HT0.out
    clear d0 d1 f0 f1 f2 hnd hg1 hg2
    refine wp_region_seg (C := fun w' => ∃ x : Near [q + 1] wc, w' = x.val) [.fl [0, 1, 2, 3, 4, 5, 6, 7, 8, 9, 10, 11, 12, 13, 14, 15, 16, 17], .sq [18] true, .fl [19, 20, 21, 22, 23, 24, 27], .sq [25] true, .fl [26], .sq [28] true, .fl [29, 30], .sq [31] true, .sq [32] false] (by kernel_rfl) (by kernel_rfl) (by intro c a d v w h; cases d <;> exact h) ?_
    simp only [segs, picks, List.getElem?_cons_succ, List.getElem?_cons_zero]
    refine wpSeg_fl hC1 ?_
    repeat (first | go_big_quiet_step (fail) | quiet_step (fail))
    refine wpQuiet_nil ?_
    refine wpSeg_sq (fun K hK => ?_)
    go_wp2_with fail
    go_wp2_with fail
    refine hK _ _ (fun _ => hC1) ?_
    clear hK K
    refine wpSeg_fl hC1 ?_
    repeat (first | go_big_quiet_step (fail) | quiet_step (fail))
    refine wpQuiet_nil ?_
    refine wpSeg_sq (fun K hK => ?_)
    go_wp2_with fail
    go_wp2_with fail
    refine hK _ _ (fun _ => hC1) ?_
    clear hK K
    refine wpSeg_fl hC1 ?_
    repeat (first | go_big_quiet_step (fail) | quiet_step (fail))
    refine wpQuiet_nil ?_
    refine wpSeg_sq (fun K hK => ?_)
    go_wp2_with fail
    go_wp2_with fail
    refine hK _ _ (fun _ => hC1) ?_
    clear hK K
    refine wpSeg_fl hC1 ?_
    repeat (first | go_big_quiet_step (fail) | quiet_step (fail))
    refine wpQuiet_nil ?_
    refine wpSeg_sq (fun K hK => ?_)
    go_wp2_with (refine wpList_store_mem aggRo (HM4.out.later HD0.out) 1 rfl rfl rfl rfl rfl rfl rfl rfl ?_; intro w8 h8 ht8; have H8 := LH h8; have HT8 := LH (HT0.out.trans ht8); clear h8 ht8)
    have hC9 := near_of HT8.out
    go_wp2_with fail
    refine hK _ _ (fun _ => hC9) ?_
    clear hK K
    refine wpSeg_last ?_
    go_wp2_with fail
    refine bodyPost_ret (results_cell_row2 (p := 6) (u := 7) rfl _ _ _ _ _ _ _ rfl (H8.out.exact 1 rfl) Tryz.underlying38 rfl (by kernel_rfl)) rfl ?_
    exact HP.out _ _ _ _ (by rw [HE.out]; rfl) (fun o ho => by rw [HE.out] at ho; cases ho) H8.out.below
   subst h1
   by_cases h2 : c = (kk : Int)
   case neg =>
    have HE : Hid (placedN S L (y : Int) = none) := LH (by rw [HPl2.out, if_neg (fun h => h2 (by have := (HIs.out.1 h).1; injection this))])
    have h2' : (c == (kk : Int)) = false := by simpa using h2
    clear h2
    go_upto_region 7 with fail
    have d0 := HM4.out.cell 2 0 rfl rfl
    have d1 := HM4.out.cell 2 1 rfl rfl
    have f0 := HM4.out.cell 3 0 rfl rfl
    have f1 := HM4.out.cell 3 1 rfl rfl
    have f2 := HM4.out.cell 3 2 rfl rfl
    have hnd := HM4.out.nd
    simp only [List.map_cons, List.map_nil, List.nodup_cons, List.mem_cons, List.not_mem_nil, or_false, not_or] at hnd
    have hg1 : g ∉ [q + 1] := by simp; exact fun e => hnd.2.1.1 e.symm
    have hg2 : g2 ∉ [q + 1] := by simp; exact fun e => hnd.2.1.2 e.symm
    have r0 := fun x => near_cell (L := [q + 1]) d0 hg1 x
    have r1 := fun x => near_cell (L := [q + 1]) d1 hg1 x
    have r2 := fun x => near_cell (L := [q + 1]) f0 hg2 x
    have r3 := fun x => near_cell (L := [q + 1]) f1 hg2 x
    have r4 := fun x => near_cell (L := [q + 1]) f2 hg2 x
    have HT0 : Hid (Touch [q + 1] wc wc.drew) := LH (Touch.ofBelow (later_below (later_drew wc)))
    have HD0 : Hid (Below wc.heap.size wc wc.drew) := LH (later_below (later_drew wc))
    have hC1 := near_of HT0.out
    clear d0 d1 f0 f1 f2 hnd hg1 hg2
    refine wp_region_seg (C := fun w' => ∃ x : Near [q + 1] wc, w' = x.val) [.fl [0, 1, 2, 3, 4, 5, 6, 7, 8, 9, 10, 11, 12, 13, 14, 15, 16, 17], .sq [18] true, .fl [19, 20, 21, 22, 23, 24, 27], .sq [25] true, .fl [26], .sq [28] true, .fl [29, 30], .sq [31] true, .sq [32] false] (by kernel_rfl) (by kernel_rfl) (by intro c a d v w h; cases d <;> exact h) ?_
    simp only [segs, picks, List.getElem?_cons_succ, List.getElem?_cons_zero]
    refine wpSeg_fl hC1 ?_
    repeat (first | go_big_quiet_step (fail) | quiet_step (fail))
    refine wpQuiet_nil ?_
    refine wpSeg_sq (fun K hK => ?_)
    go_wp2_with fail
    go_wp2_with fail
    refine hK _ _ (fun _ => hC1) ?_
    clear hK K
    refine wpSeg_fl hC1 ?_
    repeat (first | go_big_quiet_step (fail) | quiet_step (fail))
    refine wpQuiet_nil ?_
    refine wpSeg_sq (fun K hK => ?_)
    go_wp2_with fail
    go_wp2_with fail
    refine hK _ _ (fun _ => hC1) ?_
    clear hK K
    refine wpSeg_fl hC1 ?_
    repeat (first | go_big_quiet_step (fail) | quiet_step (fail))
    refine wpQuiet_nil ?_
    refine wpSeg_sq (fun K hK => ?_)
    go_wp2_with fail
    go_wp2_with fail
    refine hK _ _ (fun _ => hC1) ?_
    clear hK K
    refine wpSeg_fl hC1 ?_
    repeat (first | go_big_quiet_step (fail) | quiet_step (fail))
    refine wpQuiet_nil ?_
    refine wpSeg_sq (fun K hK => ?_)
    go_wp2_with (refine wpList_store_mem aggRo (HM4.out.later HD0.out) 1 rfl rfl rfl rfl rfl rfl rfl rfl ?_; intro w8 h8 ht8; have H8 := LH h8; have HT8 := LH (HT0.out.trans ht8); clear h8 ht8)
    have hC9 := near_of HT8.out
    go_wp2_with fail
    refine hK _ _ (fun _ => hC9) ?_
    clear hK K
    refine wpSeg_last ?_
    go_wp2_with fail
    refine bodyPost_ret (results_cell_row2 (p := 6) (u := 7) rfl _ _ _ _ _ _ _ rfl (H8.out.exact 1 rfl) Tryz.underlying38 rfl (by kernel_rfl)) rfl ?_
    exact HP.out _ _ _ _ (by rw [HE.out]; rfl) (fun o ho => by rw [HE.out] at ho; cases ho) H8.out.below
   subst h2
   by_cases h3 : z = 0
   case neg =>
    have HE : Hid (placedN S L (y : Int) = none) := LH (by rw [HPl2.out, if_neg (fun h => h3 (by have := (HIs.out.1 h).1; injection this))])
    have h3' : (z == 0) = false := by simpa using h3
    have heq : ((kk : Int) == (kk : Int)) = true := by simp
    clear h3
    go_upto_region 7 with fail
    have d0 := HM4.out.cell 2 0 rfl rfl
    have d1 := HM4.out.cell 2 1 rfl rfl
    have f0 := HM4.out.cell 3 0 rfl rfl
    have f1 := HM4.out.cell 3 1 rfl rfl
    have f2 := HM4.out.cell 3 2 rfl rfl
    have hnd := HM4.out.nd
    simp only [List.map_cons, List.map_nil, List.nodup_cons, List.mem_cons, List.not_mem_nil, or_false, not_or] at hnd
    have hg1 : g ∉ [q + 1] := by simp; exact fun e => hnd.2.1.1 e.symm
    have hg2 : g2 ∉ [q + 1] := by simp; exact fun e => hnd.2.1.2 e.symm
    have r0 := fun x => near_cell (L := [q + 1]) d0 hg1 x
    have r1 := fun x => near_cell (L := [q + 1]) d1 hg1 x
    have r2 := fun x => near_cell (L := [q + 1]) f0 hg2 x
    have r3 := fun x => near_cell (L := [q + 1]) f1 hg2 x
    have r4 := fun x => near_cell (L := [q + 1]) f2 hg2 x
    have HT0 : Hid (Touch [q + 1] wc wc.drew) := LH (Touch.ofBelow (later_below (later_drew wc)))
    have HD0 : Hid (Below wc.heap.size wc wc.drew) := LH (later_below (later_drew wc))
    have hC1 := near_of HT0.out
    clear d0 d1 f0 f1 f2 hnd hg1 hg2
    refine wp_region_seg (C := fun w' => ∃ x : Near [q + 1] wc, w' = x.val) [.fl [0, 1, 2, 3, 4, 5, 6, 7, 8, 9, 10, 11, 12, 13, 14, 15, 16, 17], .sq [18] true, .fl [19, 20, 21, 22, 23, 24, 27], .sq [25] true, .fl [26], .sq [28] true, .fl [29, 30], .sq [31] true, .sq [32] false] (by kernel_rfl) (by kernel_rfl) (by intro c a d v w h; cases d <;> exact h) ?_
    simp only [segs, picks, List.getElem?_cons_succ, List.getElem?_cons_zero]
    refine wpSeg_fl hC1 ?_
    repeat (first | go_big_quiet_step (fail) | quiet_step (fail))
    refine wpQuiet_nil ?_
    refine wpSeg_sq (fun K hK => ?_)
    go_wp2_with fail
    go_wp2_with fail
    refine hK _ _ (fun _ => hC1) ?_
    clear hK K
    refine wpSeg_fl hC1 ?_
    repeat (first | go_big_quiet_step (fail) | quiet_step (fail))
    refine wpQuiet_nil ?_
    refine wpSeg_sq (fun K hK => ?_)
    go_wp2_with fail
    go_wp2_with fail
    refine hK _ _ (fun _ => hC1) ?_
    clear hK K
    refine wpSeg_fl hC1 ?_
    repeat (first | go_big_quiet_step (fail) | quiet_step (fail))
    refine wpQuiet_nil ?_
    refine wpSeg_sq (fun K hK => ?_)
    go_wp2_with fail
    go_wp2_with fail
    refine hK _ _ (fun _ => hC1) ?_
    clear hK K
    refine wpSeg_fl hC1 ?_
    repeat (first | go_big_quiet_step (fail) | quiet_step (fail))
    refine wpQuiet_nil ?_
    refine wpSeg_sq (fun K hK => ?_)
    go_wp2_with (refine wpList_store_mem aggRo (HM4.out.later HD0.out) 1 rfl rfl rfl rfl rfl rfl rfl rfl ?_; intro w8 h8 ht8; have H8 := LH h8; have HT8 := LH (HT0.out.trans ht8); clear h8 ht8)
    have hC9 := near_of HT8.out
    go_wp2_with fail
    refine hK _ _ (fun _ => hC9) ?_
    clear hK K
    refine wpSeg_last ?_
    go_wp2_with fail
    refine bodyPost_ret (results_cell_row2 (p := 6) (u := 7) rfl _ _ _ _ _ _ _ rfl (H8.out.exact 1 rfl) Tryz.underlying38 rfl (by kernel_rfl)) rfl ?_
    exact HP.out _ _ _ _ (by rw [HE.out]; rfl) (fun o ho => by rw [HE.out] at ho; cases ho) H8.out.below
   subst h3
   have heq : ((kk : Int) == (kk : Int)) = true := by simp
   by_cases h4 : o % W = 0
   case neg =>
    have HE : Hid (placedN S L (y : Int) = none) := LH (by rw [HPl2.out, if_neg (fun h => h4 (HIs.out.1 h).2.1)])
    obtain ⟨om, hom⟩ : ∃ om, om = o % W := ⟨_, rfl⟩
    rw [← hom] at h4 HIs
    have h4' : (o : Int) % (W : Int) = (om : Int) := by rw [hom]; rfl
    have h4'' : ((om : Int) == 0) = false := by simpa using h4
    clear h4 hom
    go_upto_region 7 with fail
    have d0 := HM4.out.cell 2 0 rfl rfl
    have d1 := HM4.out.cell 2 1 rfl rfl
    have f0 := HM4.out.cell 3 0 rfl rfl
    have f1 := HM4.out.cell 3 1 rfl rfl
    have f2 := HM4.out.cell 3 2 rfl rfl
    have hnd := HM4.out.nd
    simp only [List.map_cons, List.map_nil, List.nodup_cons, List.mem_cons, List.not_mem_nil, or_false, not_or] at hnd
    have hg1 : g ∉ [q + 1] := by simp; exact fun e => hnd.2.1.1 e.symm
    have hg2 : g2 ∉ [q + 1] := by simp; exact fun e => hnd.2.1.2 e.symm
    have r0 := fun x => near_cell (L := [q + 1]) d0 hg1 x
    have r1 := fun x => near_cell (L := [q + 1]) d1 hg1 x
    have r2 := fun x => near_cell (L := [q + 1]) f0 hg2 x
    have r3 := fun x => near_cell (L := [q + 1]) f1 hg2 x
    have r4 := fun x => near_cell (L := [q + 1]) f2 hg2 x
    have HT0 : Hid (Touch [q + 1] wc wc.drew) := LH (Touch.ofBelow (later_below (later_drew wc)))
    have HD0 : Hid (Below wc.heap.size wc wc.drew) := LH (later_below (later_drew wc))
    have hC1 := near_of HT0.out
    clear d0 d1 f0 f1 f2 hnd hg1 hg2
    refine wp_region_seg (C := fun w' => ∃ x : Near [q + 1] wc, w' = x.val) [.fl [0, 1, 2, 3, 4, 5, 6, 7, 8, 9, 10, 11, 12, 13, 14, 15, 16, 17], .sq [18] true, .fl [19, 20, 21, 22, 23, 24, 27], .sq [25] true, .fl [26], .sq [28] true, .fl [29, 30], .sq [31] true, .sq [32] false] (by kernel_rfl) (by kernel_rfl) (by intro c a d v w h; cases d <;> exact h) ?_
    simp only [segs, picks, List.getElem?_cons_succ, List.getElem?_cons_zero]
    refine wpSeg_fl hC1 ?_
    repeat (first | go_big_quiet_step (fail) | quiet_step (fail))
    refine wpQuiet_nil ?_
    refine wpSeg_sq (fun K hK => ?_)
    go_wp2_with fail
    refine (HWd.out _).mono ?_
    rintro e w11 ⟨rfl, hb11⟩
    have HD11 := LH (HD0.out.trans (hb11.mono HD0.out.size))
    have HT11 : Hid (Touch [q + 1] wc w11) := LH (HT0.out.later hb11)
    have hC11 := near_of HT11.out
    clear hb11
    go_wp2_with fail
    refine hK _ _ (fun _ => hC11) ?_
    clear hK K
    refine wpSeg_fl hC11 ?_
    repeat (first | go_big_quiet_step (fail) | quiet_step (fail))
    refine wpQuiet_nil ?_
    refine wpSeg_sq (fun K hK => ?_)
    go_wp2_with fail
    go_wp2_with fail
    refine hK _ _ (fun _ => hC11) ?_
    clear hK K
    refine wpSeg_fl hC11 ?_
    repeat (first | go_big_quiet_step (fail) | quiet_step (fail))
    refine wpQuiet_nil ?_
    refine wpSeg_sq (fun K hK => ?_)
    go_wp2_with fail
    go_wp2_with fail
    refine hK _ _ (fun _ => hC11) ?_
    clear hK K
    refine wpSeg_fl hC11 ?_
    repeat (first | go_big_quiet_step (fail) | quiet_step (fail))
    refine wpQuiet_nil ?_
    refine wpSeg_sq (fun K hK => ?_)
    go_wp2_with (refine wpList_store_mem aggRo (HM4.out.later HD11.out) 1 rfl rfl rfl rfl rfl rfl rfl rfl ?_; intro w8 h8 ht8; have H8 := LH h8; have HT8 := LH (HT11.out.trans ht8); clear h8 ht8)
    have hC9 := near_of HT8.out
    go_wp2_with fail
    refine hK _ _ (fun _ => hC9) ?_
    clear hK K
    refine wpSeg_last ?_
    go_wp2_with fail
    refine bodyPost_ret (results_cell_row2 (p := 6) (u := 7) rfl _ _ _ _ _ _ _ rfl (H8.out.exact 1 rfl) Tryz.underlying38 rfl (by kernel_rfl)) rfl ?_
    exact HP.out _ _ _ _ (by rw [HE.out]; rfl) (fun o ho => by rw [HE.out] at ho; cases ho) H8.out.below
   have h4' : (o : Int) % (W : Int) = 0 := by omega
   have h5' : (o : Int) / (W : Int) = ((o / W : Nat) : Int) := by omega
   have h5l : o / W ≤ 512 := Nat.le_trans (Nat.div_le_self _ _) (by omega)
   by_cases h5 : o / W < Cn
   case neg =>
    have HE : Hid (placedN S L (y : Int) = none) := LH (by rw [HPl2.out, if_neg (fun h => h5 (HIs.out.1 h).2.2)])
    have h5'' : Cn ≤ o / W := by omega
    clear h5
    generalize o / W = ow at *
    go_upto_region 7 with fail
    have d0 := HM4.out.cell 2 0 rfl rfl
    have d1 := HM4.out.cell 2 1 rfl rfl
    have f0 := HM4.out.cell 3 0 rfl rfl
    have f1 := HM4.out.cell 3 1 rfl rfl
    have f2 := HM4.out.cell 3 2 rfl rfl
    have hnd := HM4.out.nd
    simp only [List.map_cons, List.map_nil, List.nodup_cons, List.mem_cons, List.not_mem_nil, or_false, not_or] at hnd
    have hg1 : g ∉ [q + 1] := by simp; exact fun e => hnd.2.1.1 e.symm
    have hg2 : g2 ∉ [q + 1] := by simp; exact fun e => hnd.2.1.2 e.symm
    have r0 := fun x => near_cell (L := [q + 1]) d0 hg1 x
    have r1 := fun x => near_cell (L := [q + 1]) d1 hg1 x
    have r2 := fun x => near_cell (L := [q + 1]) f0 hg2 x
    have r3 := fun x => near_cell (L := [q + 1]) f1 hg2 x
    have r4 := fun x => near_cell (L := [q + 1]) f2 hg2 x
    have HT0 : Hid (Touch [q + 1] wc wc.drew) := LH (Touch.ofBelow (later_below (later_drew wc)))
    have HD0 : Hid (Below wc.heap.size wc wc.drew) := LH (later_below (later_drew wc))
    have hC1 := near_of HT0.out
    clear d0 d1 f0 f1 f2 hnd hg1 hg2
    refine wp_region_seg (C := fun w' => ∃ x : Near [q + 1] wc, w' = x.val) [.fl [0, 1, 2, 3, 4, 5, 6, 7, 8, 9, 10, 11, 12, 13, 14, 15, 16, 17], .sq [18] true, .fl [19, 20, 21, 22, 23, 24, 27], .sq [25] true, .fl [26], .sq [28] true, .fl [29, 30], .sq [31] true, .sq [32] false] (by kernel_rfl) (by kernel_rfl) (by intro c a d v w h; cases d <;> exact h) ?_
    simp only [segs, picks, List.getElem?_cons_succ, List.getElem?_cons_zero]
    refine wpSeg_fl hC1 ?_
    repeat (first | go_big_quiet_step (fail) | quiet_step (fail))
    refine wpQuiet_nil ?_
    refine wpSeg_sq (fun K hK => ?_)
    go_wp2_with fail
    refine (HWd.out _).mono ?_
    rintro e w11 ⟨rfl, hb11⟩
    have HD11 := LH (HD0.out.trans (hb11.mono HD0.out.size))
    have HT11 : Hid (Touch [q + 1] wc w11) := LH (HT0.out.later hb11)
    have hC11 := near_of HT11.out
    clear hb11
    go_wp2_with fail
    refine hK _ _ (fun _ => hC11) ?_
    clear hK K
    refine wpSeg_fl hC11 ?_
    repeat (first | go_big_quiet_step (fail) | quiet_step (fail))
    refine wpQuiet_nil ?_
    refine wpSeg_sq (fun K hK => ?_)
    go_wp2_with fail
    refine (HWd.out _).mono ?_
    rintro e w12 ⟨rfl, hb12⟩
    have HD12 := LH (HD11.out.trans (hb12.mono HD11.out.size))
    have HT12 : Hid (Touch [q + 1] wc w12) := LH (HT11.out.later hb12)
    have hC12 := near_of HT12.out
    clear hb12
    go_wp2_with fail
    refine hK _ _ (fun _ => hC12) ?_
    clear hK K
    refine wpSeg_fl hC12 ?_
    repeat (first | go_big_quiet_step (fail) | quiet_step (fail))
    refine wpQuiet_nil ?_
    refine wpSeg_sq (fun K hK => ?_)
    go_wp2_with fail
    refine (HCl.out _).mono ?_
    rintro e w13 ⟨rfl, hb13⟩
    have HD13 := LH (HD12.out.trans (hb13.mono HD12.out.size))
    have HT13 : Hid (Touch [q + 1] wc w13) := LH (HT12.out.later hb13)
    have hC13 := near_of HT13.out
    clear hb13
    go_wp2_with fail
    refine hK _ _ (fun _ => hC13) ?_
    clear hK K
    refine wpSeg_fl hC13 ?_
    repeat (first | go_big_quiet_step (fail) | quiet_step (fail))
    refine wpQuiet_nil ?_
    refine wpSeg_sq (fun K hK => ?_)
    go_wp2_with (refine wpList_store_mem aggRo (HM4.out.later HD13.out) 1 rfl rfl rfl rfl rfl rfl rfl rfl ?_; intro w8 h8 ht8; have H8 := LH h8; have HT8 := LH (HT13.out.trans ht8); clear h8 ht8)
    have hC9 := near_of HT8.out
    go_wp2_with fail
    refine hK _ _ (fun _ => hC9) ?_
    clear hK K
    refine wpSeg_last ?_
    go_wp2_with fail
    refine bodyPost_ret (results_cell_row2 (p := 6) (u := 7) rfl _ _ _ _ _ _ _ rfl (H8.out.exact 1 rfl) Tryz.underlying38 rfl (by kernel_rfl)) rfl ?_
    exact HP.out _ _ _ _ (by rw [HE.out, decide_eq_false (by omega)]; rfl) (fun o ho => by rw [HE.out] at ho; cases ho) H8.out.below
   have HE : Hid (placedN S L (y : Int) = some ⟨p, d, 0⟩) := LH (by rw [HPl2.out, if_pos (HIs.out.2 ⟨rfl, h4, h5⟩)])
   generalize o / W = ow at *
   go_upto_region 7 with fail
   have d0 := HM4.out.cell 2 0 rfl rfl
   have d1 := HM4.out.cell 2 1 rfl rfl
   have f0 := HM4.out.cell 3 0 rfl rfl
   have f1 := HM4.out.cell 3 1 rfl rfl
   have f2 := HM4.out.cell 3 2 rfl rfl
   have hnd := HM4.out.nd
   simp only [List.map_cons, List.map_nil, List.nodup_cons, List.mem_cons, List.not_mem_nil, or_false, not_or] at hnd
   have hg1 : g ∉ [q + 1] := by simp; exact fun e => hnd.2.1.1 e.symm
   have hg2 : g2 ∉ [q + 1] := by simp; exact fun e => hnd.2.1.2 e.symm
   have r0 := fun x => near_cell (L := [q + 1]) d0 hg1 x
   have r1 := fun x => near_cell (L := [q + 1]) d1 hg1 x
   have r2 := fun x => near_cell (L := [q + 1]) f0 hg2 x
   have r3 := fun x => near_cell (L := [q + 1]) f1 hg2 x
   have r4 := fun x => near_cell (L := [q + 1]) f2 hg2 x
   have HT0 : Hid (Touch [q + 1] wc wc.drew) := LH (Touch.ofBelow (later_below (later_drew wc)))
   have HD0 : Hid (Below wc.heap.size wc wc.drew) := LH (later_below (later_drew wc))
   have hC1 := near_of HT0.out
   clear d0 d1 f0 f1 f2 hnd hg1 hg2
   refine wp_region_seg (C := fun w' => ∃ x : Near [q + 1] wc, w' = x.val) [.fl [0, 1, 2, 3, 4, 5, 6, 7, 8, 9, 10, 11, 12, 13, 14, 15, 16, 17], .sq [18] true, .fl [19, 20, 21, 22, 23, 24, 27], .sq [25] true, .fl [26], .sq [28] true, .fl [29, 30], .sq [31] true, .sq [32] false] (by kernel_rfl) (by kernel_rfl) (by intro c a d v w h; cases d <;> exact h) ?_
   simp only [segs, picks, List.getElem?_cons_succ, List.getElem?_cons_zero]
   refine wpSeg_fl hC1 ?_
   repeat (first | go_big_quiet_step (fail) | quiet_step (fail))
   refine wpQuiet_nil ?_
   refine wpSeg_sq (fun K hK => ?_)
   go_wp2_with fail
   refine (HWd.out _).mono ?_
   rintro e w11 ⟨rfl, hb11⟩
   have HD11 := LH (HD0.out.trans (hb11.mono HD0.out.size))
   have HT11 : Hid (Touch [q + 1] wc w11) := LH (HT0.out.later hb11)
   have hC11 := near_of HT11.out
   clear hb11
   go_wp2_with fail
   refine hK _ _ (fun _ => hC11) ?_
   clear hK K
   refine wpSeg_fl hC11 ?_
   repeat (first | go_big_quiet_step (fail) | quiet_step (fail))
   refine wpQuiet_nil ?_
   refine wpSeg_sq (fun K hK => ?_)
   go_wp2_with fail
   refine (HWd.out _).mono ?_
   rintro e w12 ⟨rfl, hb12⟩
   have HD12 := LH (HD11.out.trans (hb12.mono HD11.out.size))
   have HT12 : Hid (Touch [q + 1] wc w12) := LH (HT11.out.later hb12)
   have hC12 := near_of HT12.out
   clear hb12
   go_wp2_with fail
   refine hK _ _ (fun _ => hC12) ?_
   clear hK K
   refine wpSeg_fl hC12 ?_
   repeat (first | go_big_quiet_step (fail) | quiet_step (fail))
   refine wpQuiet_nil ?_
   refine wpSeg_sq (fun K hK => ?_)
   go_wp2_with fail
   refine (HCl.out _).mono ?_
   rintro e w13 ⟨rfl, hb13⟩
   have HD13 := LH (HD12.out.trans (hb13.mono HD12.out.size))
   have HT13 : Hid (Touch [q + 1] wc w13) := LH (HT12.out.later hb13)
   have hC13 := near_of HT13.out
   clear hb13
   go_wp2_with fail
   refine hK _ _ (fun _ => hC13) ?_
   clear hK K
   refine wpSeg_fl hC13 ?_
   repeat (first | go_big_quiet_step (fail) | quiet_step (fail))
   refine wpQuiet_nil ?_
   refine wpSeg_sq (fun K hK => ?_)
   go_wp2_with (refine wpList_store_mem aggRo (HM4.out.later HD13.out) 1 rfl rfl rfl rfl rfl rfl rfl rfl ?_; intro w8 h8 ht8; have H8 := LH h8; have HT8 := LH (HT13.out.trans ht8); clear h8 ht8)
   have hC9 := near_of HT8.out
   go_wp2_with fail
   refine hK _ _ (fun _ => hC9) ?_
   clear hK K
   refine wpSeg_last ?_
   go_wp2_with fail
   refine bodyPost_ret (results_cell_row2 (p := 6) (u := 7) rfl _ _ _ _ _ _ _ rfl (H8.out.exact 1 rfl) Tryz.underlying38 rfl (by kernel_rfl)) rfl ?_
   exact HP.out _ _ _ _ (by rw [HE.out]; rfl) (fun o ho => by rw [HE.out] at ho; cases ho; rfl) H8.out.below
  ·rw [rofN_large _ hsm]
   have HPl2 : Hid (placedN S L (y : Int) = if o = 0 ∧ wholeN L b = objBlocks (objSize p d) then some ⟨p, d, 0⟩ else none) := LH (by rw [HPl.out, if_neg hsm])
   have HBk := LH (fun w => roblocks_any p d w)
   generalize objBlocks (objSize p d) = nb at *
   clear hsm HPl HBO HEb
   by_cases h1 : o = 0
   case neg =>
    have HE : Hid (placedN S L (y : Int) = none) := LH (by rw [HPl2.out, if_neg (fun h => h1 h.1)])
    have h1' : ((o : Int) == 0) = false := by simpa using h1
    clear h1
    go_upto_region 8 with fail
    have d0 := HM4.out.cell 2 0 rfl rfl
    have d1 := HM4.out.cell 2 1 rfl rfl
    have f0 := HM4.out.cell 3 0 rfl rfl
    have f1 := HM4.out.cell 3 1 rfl rfl
    have f2 := HM4.out.cell 3 2 rfl rfl
    have hnd := HM4.out.nd
    simp only [List.map_cons, List.map_nil, List.nodup_cons, List.mem_cons, List.not_mem_nil, or_false, not_or] at hnd
    have hg1 : g ∉ [q + 1] := by simp; exact fun e => hnd.2.1.1 e.symm
    have hg2 : g2 ∉ [q + 1] := by simp; exact fun e => hnd.2.1.2 e.symm
    have r0 := fun x => near_cell (L := [q + 1]) d0 hg1 x
    have r1 := fun x => near_cell (L := [q + 1]) d1 hg1 x
    have r2 := fun x => near_cell (L := [q + 1]) f0 hg2 x
    have r3 := fun x => near_cell (L := [q + 1]) f1 hg2 x
    have r4 := fun x => near_cell (L := [q + 1]) f2 hg2 x
    have HT0 : Hid (Touch [q + 1] wc wc.drew) := LH (Touch.ofBelow (later_below (later_drew wc)))
    have HD0 : Hid (Below wc.heap.size wc wc.drew) := LH (later_below (later_drew wc))
    have hC1 := near_of HT0.out
    clear d0 d1 f0 f1 f2 hnd hg1 hg2
    refine wp_region_seg (C := fun w' => ∃ x : Near [q + 1] wc, w' = x.val) [.fl [0, 1, 2, 3, 4, 5, 6, 7, 9], .sq [8] true, .sq [10] true, .fl [11, 12], .sq [13] true, .sq [14] false] (by kernel_rfl) (by kernel_rfl) (by intro c a d v w h; cases d <;> exact h) ?_
    simp only [segs, picks, List.getElem?_cons_succ, List.getElem?_cons_zero]
    refine wpSeg_fl hC1 ?_
    repeat (first | go_big_quiet_step (fail) | quiet_step (fail))
    refine wpQuiet_nil ?_
    refine wpSeg_sq (fun K hK => ?_)
    go_wp2_with fail
    go_wp2_with fail
    refine hK _ _ (fun _ => hC1) ?_
    clear hK K
    refine wpSeg_sq (fun K hK => ?_)
    go_wp2_with fail
    go_wp2_with fail
    refine hK _ _ (fun _ => hC1) ?_
    clear hK K
    refine wpSeg_fl hC1 ?_
    repeat (first | go_big_quiet_step (fail) | quiet_step (fail))
    refine wpQuiet_nil ?_
    refine wpSeg_sq (fun K hK => ?_)
    go_wp2_with (refine wpList_store_mem aggRo (HM4.out.later HD0.out) 1 rfl rfl rfl rfl rfl rfl rfl rfl ?_; intro w8 h8 ht8; have H8 := LH h8; have HT8 := LH (HT0.out.trans ht8); clear h8 ht8)
    have hC9 := near_of HT8.out
    go_wp2_with fail
    refine hK _ _ (fun _ => hC9) ?_
    clear hK K
    refine wpSeg_last ?_
    go_wp2_with fail
    refine bodyPost_ret (results_cell_row2 (p := 6) (u := 7) rfl _ _ _ _ _ _ _ rfl (H8.out.exact 1 rfl) Tryz.underlying38 rfl (by kernel_rfl)) rfl ?_
    exact HP.out _ _ _ _ (by rw [HE.out]; rfl) (fun o ho => by rw [HE.out] at ho; cases ho) H8.out.below
   subst h1
   have HE0 := LH HPl2.out
   by_cases h2 : wholeN L b = nb
   ·have HE : Hid (placedN S L (y : Int) = some ⟨p, d, 0⟩) := LH (by rw [HPl2.out, if_pos ⟨rfl, h2⟩])
    have HW2 := LH h2
    go_upto_region 8 with fail
    have d0 := HM4.out.cell 2 0 rfl rfl
    have d1 := HM4.out.cell 2 1 rfl rfl
    have f0 := HM4.out.cell 3 0 rfl rfl
    have f1 := HM4.out.cell 3 1 rfl rfl
    have f2 := HM4.out.cell 3 2 rfl rfl
    have hnd := HM4.out.nd
    simp only [List.map_cons, List.map_nil, List.nodup_cons, List.mem_cons, List.not_mem_nil, or_false, not_or] at hnd
    have hg1 : g ∉ [q + 1] := by simp; exact fun e => hnd.2.1.1 e.symm
    have hg2 : g2 ∉ [q + 1] := by simp; exact fun e => hnd.2.1.2 e.symm
    have r0 := fun x => near_cell (L := [q + 1]) d0 hg1 x
    have r1 := fun x => near_cell (L := [q + 1]) d1 hg1 x
    have r2 := fun x => near_cell (L := [q + 1]) f0 hg2 x
    have r3 := fun x => near_cell (L := [q + 1]) f1 hg2 x
    have r4 := fun x => near_cell (L := [q + 1]) f2 hg2 x
    have HT0 : Hid (Touch [q + 1] wc wc.drew) := LH (Touch.ofBelow (later_below (later_drew wc)))
    have HD0 : Hid (Below wc.heap.size wc wc.drew) := LH (later_below (later_drew wc))
    have hC1 := near_of HT0.out
    clear d0 d1 f0 f1 f2 hnd hg1 hg2
    refine wp_region_seg (C := fun w' => ∃ x : Near [q + 1] wc, w' = x.val) [.fl [0, 1, 2, 3, 4, 5, 6, 7, 9], .sq [8] true, .sq [10] true, .fl [11, 12], .sq [13] true, .sq [14] false] (by kernel_rfl) (by kernel_rfl) (by intro c a d v w h; cases d <;> exact h) ?_
    simp only [segs, picks, List.getElem?_cons_succ, List.getElem?_cons_zero]
    refine wpSeg_fl hC1 ?_
    repeat (first | go_big_quiet_step (fail) | quiet_step (fail))
    refine wpQuiet_nil ?_
    refine wpSeg_sq (fun K hK => ?_)
    go_wp2_with fail
    refine (rwhole_any (some ⟨b1, o1, none⟩) n cap L HN.out _ (HCw.out.below (HM4.out.later HD0.out).below (Nat.le_refl _)) hl b hbn').mono ?_
    rintro e w11 ⟨rfl, hb11⟩
    have HD11 := LH (HD0.out.trans (hb11.mono HD0.out.size))
    have HT11 : Hid (Touch [q + 1] wc w11) := LH (HT0.out.later hb11)
    have hC11 := near_of HT11.out
    clear hb11
    go_wp2_with fail
    refine hK _ _ (fun _ => hC11) ?_
    clear hK K
    refine wpSeg_sq (fun K hK => ?_)
    go_wp2_with fail
    refine (HBk.out _).mono ?_
    rintro e w12 ⟨rfl, hb12⟩
    have HD12 := LH (HD11.out.trans (hb12.mono HD11.out.size))
    have HT12 : Hid (Touch [q + 1] wc w12) := LH (HT11.out.later hb12)
    have hC12 := near_of HT12.out
    clear hb12
    go_wp2_with fail
    refine hK _ _ (fun _ => hC12) ?_
    clear hK K
    refine wpSeg_fl hC12 ?_
    repeat (first | go_big_quiet_step (fail) | quiet_step (fail))
    refine wpQuiet_nil ?_
    refine wpSeg_sq (fun K hK => ?_)
    go_wp2_with (refine wpList_store_mem aggRo (HM4.out.later HD12.out) 1 rfl rfl rfl rfl rfl rfl rfl rfl ?_; intro w8 h8 ht8; have H8 := LH h8; have HT8 := LH (HT12.out.trans ht8); clear h8 ht8)
    have hC9 := near_of HT8.out
    go_wp2_with fail
    refine hK _ _ (fun _ => hC9) ?_
    clear hK K
    refine wpSeg_last ?_
    go_wp2_with fail
    refine bodyPost_ret (results_cell_row2 (p := 6) (u := 7) rfl _ _ _ _ _ _ _ rfl (H8.out.exact 1 rfl) Tryz.underlying38 rfl (by kernel_rfl)) rfl ?_
    exact HP.out _ _ _ _ (by rw [HE.out]; rfl) (fun o ho => by rw [HE.out] at ho; cases ho; rfl) H8.out.below
   ·have HE : Hid (placedN S L (y : Int) = none) := LH (by rw [HPl2.out, if_neg (fun h => h2 h.2)])
    have HW2 := LH h2
    clear h2
    go_upto_region 8 with fail
    have d0 := HM4.out.cell 2 0 rfl rfl
    have d1 := HM4.out.cell 2 1 rfl rfl
    have f0 := HM4.out.cell 3 0 rfl rfl
    have f1 := HM4.out.cell 3 1 rfl rfl
    have f2 := HM4.out.cell 3 2 rfl rfl
    have hnd := HM4.out.nd
    simp only [List.map_cons, List.map_nil, List.nodup_cons, List.mem_cons, List.not_mem_nil, or_false, not_or] at hnd
    have hg1 : g ∉ [q + 1] := by simp; exact fun e => hnd.2.1.1 e.symm
    have hg2 : g2 ∉ [q + 1] := by simp; exact fun e => hnd.2.1.2 e.symm
    have r0 := fun x => near_cell (L := [q + 1]) d0 hg1 x
    have r1 := fun x => near_cell (L := [q + 1]) d1 hg1 x
    have r2 := fun x => near_cell (L := [q + 1]) f0 hg2 x
    have r3 := fun x => near_cell (L := [q + 1]) f1 hg2 x
    have r4 := fun x => near_cell (L := [q + 1]) f2 hg2 x
    have HT0 : Hid (Touch [q + 1] wc wc.drew) := LH (Touch.ofBelow (later_below (later_drew wc)))
    have HD0 : Hid (Below wc.heap.size wc wc.drew) := LH (later_below (later_drew wc))
    have hC1 := near_of HT0.out
    clear d0 d1 f0 f1 f2 hnd hg1 hg2
    refine wp_region_seg (C := fun w' => ∃ x : Near [q + 1] wc, w' = x.val) [.fl [0, 1, 2, 3, 4, 5, 6, 7, 9], .sq [8] true, .sq [10] true, .fl [11, 12], .sq [13] true, .sq [14] false] (by kernel_rfl) (by kernel_rfl) (by intro c a d v w h; cases d <;> exact h) ?_
    simp only [segs, picks, List.getElem?_cons_succ, List.getElem?_cons_zero]
    refine wpSeg_fl hC1 ?_
    repeat (first | go_big_quiet_step (fail) | quiet_step (fail))
    refine wpQuiet_nil ?_
    refine wpSeg_sq (fun K hK => ?_)
    go_wp2_with fail
    refine (rwhole_any (some ⟨b1, o1, none⟩) n cap L HN.out _ (HCw.out.below (HM4.out.later HD0.out).below (Nat.le_refl _)) hl b hbn').mono ?_
    rintro e w11 ⟨rfl, hb11⟩
    have HD11 := LH (HD0.out.trans (hb11.mono HD0.out.size))
    have HT11 : Hid (Touch [q + 1] wc w11) := LH (HT0.out.later hb11)
    have hC11 := near_of HT11.out
    clear hb11
    go_wp2_with fail
    refine hK _ _ (fun _ => hC11) ?_
    clear hK K
    refine wpSeg_sq (fun K hK => ?_)
    go_wp2_with fail
    refine (HBk.out _).mono ?_
    rintro e w12 ⟨rfl, hb12⟩
    have HD12 := LH (HD11.out.trans (hb12.mono HD11.out.size))
    have HT12 : Hid (Touch [q + 1] wc w12) := LH (HT11.out.later hb12)
    have hC12 := near_of HT12.out
    clear hb12
    go_wp2_with fail
    refine hK _ _ (fun _ => hC12) ?_
    clear hK K
    refine wpSeg_fl hC12 ?_
    repeat (first | go_big_quiet_step (fail) | quiet_step (fail))
    refine wpQuiet_nil ?_
    refine wpSeg_sq (fun K hK => ?_)
    go_wp2_with (refine wpList_store_mem aggRo (HM4.out.later HD12.out) 1 rfl rfl rfl rfl rfl rfl rfl rfl ?_; intro w8 h8 ht8; have H8 := LH h8; have HT8 := LH (HT12.out.trans ht8); clear h8 ht8)
    have hC9 := near_of HT8.out
    go_wp2_with fail
    refine hK _ _ (fun _ => hC9) ?_
    clear hK K
    refine wpSeg_last ?_
    go_wp2_with fail
    refine bodyPost_ret (results_cell_row2 (p := 6) (u := 7) rfl _ _ _ _ _ _ _ rfl (H8.out.exact 1 rfl) Tryz.underlying38 rfl (by kernel_rfl)) rfl ?_
    exact HP.out _ _ _ _ (by have := HW2.out; rw [HE.out, beq_eq_false_iff_ne.2 (show ((wholeN L b : Nat) : Int) ≠ (nb : Int) by omega)]; rfl) (fun o ho => by rw [HE.out] at ho; cases ho) H8.out.below
structure ApartOk (S : Dev) (L : List Hd) (xs : List Ob) : Prop where
 placed : ∀ o ∈ xs, placedN S L (o.a : Int) = some ⟨o.p, o.d, 0⟩
 apart : ∀ i x y, xs[i]? = some x → xs[i + 1]? = some y → x.a + roomN x.p x.d ≤ y.a
theorem placed_room_le {S : Dev} {L : List Hd} {a : Nat} {o : Odec} (h : placedN S L (a : Int) = some o) : a + roomN o.p o.d ≤ 512 * L.length := (placed_room h).pos.2.2
set_option maxHeartbeats 8000000 in
set_option maxRecDepth 20000 in
theorem apart16_any {w : World} {v : Value} {S : Dev} {m : Nat} (hm : S.dirty.length = m) (h : RAt w v m S.ref) {N : Nat} (hf : S.fit N) (a : Option Addr) (n cap : Nat) (L : List Hd) (hn : L.length = n) (hc : Cells w a (hdCs L)) (hl : n ≤ 200)
  (b : Option Addr) (k cap2 : Nat) (xs : List Ob) (hk : xs.length = k) (hx : Cells w b (recs Ob.cs xs)) (hk9 : k ≤ 1000000) (hap : ApartOk S L xs) :
  Calls Tryz.prog 105 #[v, .slice a n cap, .slice b k cap2] w (Gives (.bool true) w) := by
 have HP : Hid (∀ w', Below w.heap.size w w' → Gives (.bool true) w (.returned (.bool true)) w') := LH (fun w' h => ⟨rfl, h⟩)
 generalize Gives (.bool true) w = Post at *
 have HPl := LH (fun w' (h : RAt w' v m S.ref) (hc : Cells w' a (hdCs L)) (x : Int) (hx : In64 x) => rplaced_any hm h hf a n cap L hn hc (by omega) x hx)
 obtain ⟨D, rfl⟩ := h.agg
 obtain ⟨hD8, hD1⟩ := h.arr
 have HM := LH (Mem.one w D 59)
 have HRA := LH (h.below HM.out.below (Nat.le_refl _))
 have HC := LH (hc.below HM.out.below (Nat.le_refl _))
 have HX := LH (hx.below HM.out.below (Nat.le_refl _))
 have HK := LH hk
 have HN := LH hn
 have HAp := LH hap
 clear h hc hx hk hn hap
 go_enter Tryz.func105, Tryz.ntmps105
 go_upto_region 1 with fail
 obtain ⟨q, hq⟩ : ∃ q, q = w.heap.size := ⟨_, rfl⟩
 rw [← hq] at HM ⊢
 generalize w.alloc _ = w0 at *
 clear hq
 go_wp2_with fail
 go_loopw [7] (fun iv wr => ∃ i : Nat, i ≤ k ∧ iv = .int .i64 (i : Int) ∧ Hid (Below w0.heap.size w0 wr)) (fun iv _ => k - (intOf iv).toNat)
 case atStart => exact ⟨0, by omega, rfl, LH (Below.refl _ _)⟩
 case round =>
  obtain ⟨i, hi, rfl, HB⟩ := hrel
  by_cases hlt : i < k
  case neg =>
   obtain rfl : i = k := by omega
   have hni : ¬ (i : Int) < (i : Int) := by omega
   have HFin := LH (HP.out _ (HM.out.below.trans (HB.out.mono HM.out.below.size)))
   go_wp2_with fail
   exact HFin.out
  have hltI : (i : Int) < (k : Int) := by omega
  obtain ⟨o, ho⟩ : ∃ o, xs[i]? = some o := ⟨_, List.getElem?_eq_getElem (by rw [HK.out]; exact hlt)⟩
  have HOi := LH ho
  have HPo : Hid (placedN S L (o.a : Int) = some ⟨o.p, o.d, 0⟩) := LH (HAp.out.placed o (List.mem_of_getElem? ho))
  have hoa : o.a < 512 * 200 := by
   have := placed_head HPo.out
   rw [HN.out] at this
   omega
  have HMr := LH (HM.out.later HB.out)
  have HRAr := LH (HRA.out.below HB.out (Nat.le_refl _))
  have HCr := LH (HC.out.below HB.out (Nat.le_refl _))
  have HXr := LH (HX.out.below HB.out (Nat.le_refl _))
  obtain ⟨bb, bo, rfl, c0, c1, c2⟩ := ob_cells HXr.out ho
  clear ho
  obtain ⟨oa, op, od⟩ := o
  dsimp only at HPo hoa c0 c1 c2
  go_upto_region 4 with fail
  go_cut [8, 9] from 64 (fun ov kv wc => ∃ g : Nat, ov = .pointer (some ⟨g, 0, none⟩) ∧ kv = .bool true ∧ Hid (Mem w wc [⟨q, 59, D.toList, true⟩, ⟨g, 38, [.int .i64 op, .int .i64 od], true⟩]) ∧ Hid (Below wr.heap.size wr wc))
  case first =>
   have hld : ∀ w', (∃ x : Later wr, w' = x.val) → ∀ (i : Nat) (v : Value), D.toList[i]? = some v → w'.cell? ⟨q, 0 + i, none⟩ = some v := by
    rintro w' ⟨x, rfl⟩ i v hi
    refine later_cell ?_ x
    rw [Nat.zero_add]
    exact HMr.out.cell 0 i rfl hi
   have r0 := fun x => later_cell c0 x
   clear c0 c1 c2
   refine wp_region_tr (C := fun w' => ∃ x : Later (wr), w' = x.val) (.fl [0, 1, 2, 3, 4, 5, 6] (.br 7 false (.pu [8, 9, 10] (.sq [11] true (.sq [12, 13] false (.nil)))) 11 true (.sq [7, 8] false (.pu [9, 10] (.sq [12, 13] false (.nil)))))) (by kernel_rfl) (by kernel_rfl) (by intro c a d v w h; cases d <;> exact h) ?_
   simp only [trO, picks, List.getElem?_cons_succ, List.getElem?_cons_zero]
   have hC1 := later_drew (wr)
   refine wpTr_fl hC1 ?_
   repeat (first | (refine wpQuiet_load_arr aggRd D hld hD8 rfl rfl rfl ?_) | go_big_quiet_step (fail) | quiet_step (fail))
   refine wpQuiet_nil ?_
   clear r0 hld
   have hbd := later_below hC1
   have HMd := LH (HMr.out.later hbd)
   have HRd := LH (HRAr.out.below hbd (Nat.le_refl _))
   have HCd := LH (HCr.out.below hbd (Nat.le_refl _))
   have HBd := LH hbd
   generalize wr.drew = wd at *
   clear hbd
   have hIn : In64 (oa : Int) := by unfold In64; omega
   refine wpTr_br ?_ ?_
   ·refine wpTr_sq (fun K hK => ?_)
    go_wp2_with fail
    refine (HPl.out _ HRd.out HCd.out (oa : Int) hIn).mono ?_
    rintro e w4 ⟨⟨p, d, rfl, hpd⟩, hb4⟩
    obtain ⟨rfl, rfl⟩ : op = p ∧ od = d := by have := hpd _ HPo.out; injection this with e1 e2 _; exact ⟨e1, e2⟩
    rw [HPo.out, show (some (⟨op, od, 0⟩ : Odec)).isSome = true from rfl]
    have hC2 := later_step hC1 hb4
    have HM4 := LH (HMd.out.later hb4)
    have HB4 := LH (HBd.out.trans (hb4.mono HBd.out.size))
    clear hb4 hpd
    go_wp2_with fail
    refine hK _ _ (fun h => nomatch h) ?_
    clear hK K
    refine wpTr_pu ?_
    repeat (first | go_big_quiet_step (fail) | quiet_step (fail))
    refine wpQuiet_nil ?_
    refine wpTr_sq (fun K hK => ?_)
    go_wp2_with fail
    have hba := below_alloc w4 (.cells #[.int .i64 0, .int .i64 0] 38)
    have hC3 := later_step hC2 hba
    have HM5 := LH (HM4.out.alloc #[.int .i64 0, .int .i64 0] 38)
    have HB5 := LH (HB4.out.trans (hba.mono HB4.out.size))
    clear hba
    go_wp2_with fail
    refine hK _ _ (fun _ => hC3) ?_
    clear hK K
    generalize w4.alloc _ = w5 at *
    obtain ⟨g, hg⟩ : ∃ g, g = w4.heap.size := ⟨_, rfl⟩
    rw [← hg] at HM5 ⊢
    have HGb : Hid (wr.heap.size ≤ g) := LH (by rw [hg]; exact HB4.out.size)
    clear hg hC1 hC2 hC3
    refine wpTr_last ?_
    go_wp2_with (refine wpList_store_mem aggRo HM5.out 1 rfl rfl rfl rfl rfl rfl rfl rfl ?_; intro w6 h6 ht6; have H6 := LH h6; have HT6 := LH ht6; clear h6 ht6)
    go_meet
    exact ⟨g, rfl, rfl, H6, LH (HB5.out.trans (HT6.out.below HB5.out.size (fun y hy => by simp only [List.mem_cons, List.not_mem_nil, or_false] at hy; have := HGb.out; omega)))⟩
   ·refine wpTr_sq (fun K hK => ?_)
    go_wp2_with fail
    have hba := below_alloc wd (.cells #[.int .i64 0, .int .i64 0] 38)
    have hC2 := later_step hC1 hba
    have HM4 := LH (HMd.out.alloc #[.int .i64 0, .int .i64 0] 38)
    have HB4 := LH (HBd.out.trans (hba.mono HBd.out.size))
    have HR4 := LH (HRd.out.below hba (Nat.le_refl _))
    have HC4 := LH (HCd.out.below hba (Nat.le_refl _))
    clear hba
    go_wp2_with fail
    refine hK _ _ (fun _ => hC2) ?_
    clear hK K
    generalize wd.alloc _ = w4 at *
    obtain ⟨g, hg⟩ : ∃ g, g = wd.heap.size := ⟨_, rfl⟩
    rw [← hg] at HM4 ⊢
    have HGb : Hid (wr.heap.size ≤ g) := LH (by rw [hg]; exact HBd.out.size)
    clear hg
    refine wpTr_sq (fun K hK => ?_)
    go_wp2_with fail
    refine (HPl.out _ HR4.out HC4.out (oa : Int) hIn).mono ?_
    rintro e w5 ⟨⟨p, d, rfl, hpd⟩, hb5⟩
    obtain ⟨rfl, rfl⟩ : op = p ∧ od = d := by have := hpd _ HPo.out; injection this with e1 e2 _; exact ⟨e1, e2⟩
    rw [HPo.out, show (some (⟨op, od, 0⟩ : Odec)).isSome = true from rfl]
    have HM5 := LH (HM4.out.later hb5)
    have HB5 := LH (HB4.out.trans (hb5.mono HB4.out.size))
    clear hb5 hpd
    go_wp2_with fail
    refine hK _ _ (fun h => nomatch h) ?_
    clear hK K
    refine wpTr_pu ?_
    repeat (first | go_big_quiet_step (fail) | quiet_step (fail))
    refine wpQuiet_nil ?_
    clear hC1 hC2
    refine wpTr_last ?_
    go_wp2_with (refine wpList_store_mem aggRo HM5.out 1 rfl rfl rfl rfl rfl rfl rfl rfl ?_; intro w6 h6 ht6; have H6 := LH h6; have HT6 := LH ht6; clear h6 ht6)
    go_meet
    exact ⟨g, rfl, rfl, H6, LH (HB5.out.trans (HT6.out.below HB5.out.size (fun y hy => by simp only [List.mem_cons, List.not_mem_nil, or_false] at hy; have := HGb.out; omega)))⟩
  case rest =>
   obtain ⟨g, rfl, rfl, HMc, HBc⟩ := hcut
   have HBw := LH (HB.out.trans (HBc.out.mono HB.out.size))
   have HXc := LH (HX.out.below HBw.out (Nat.le_refl _))
   obtain ⟨bb', bo', ebb, c0, c1, c2⟩ := ob_cells HXc.out HOi.out
   cases ebb
   dsimp only at c0 c1 c2
   have r0 := fun x => later_cell c0 x
   have r1 := fun x => later_cell c1 x
   have r2 := fun x => later_cell c2 x
   have r3 := fun x => later_cell (HMc.out.cell 1 0 rfl rfl) x
   have r4 := fun x => later_cell (HMc.out.cell 1 1 rfl rfl) x
   clear c0 c1 c2
   go_upto_region 5 with fail
   by_cases hi0 : i = 0
   ·subst hi0
    refine wp_region_seg (C := fun w' => ∃ x : Later (wc), w' = x.val) [.sq [0, 1, 2] false, .fl [3, 4, 5, 6, 7, 8], .sq [9, 10, 11, 12, 13, 14] false, .fl [15, 16, 17, 18, 19, 20, 21, 22, 23, 24, 25, 26, 27, 28, 29, 30, 31], .sq [32] true, .fl [33], .sq [34, 35, 36] false] (by kernel_rfl) (by kernel_rfl) (by intro c a d v w h; cases d <;> exact h) ?_
    simp only [segs, picks, List.getElem?_cons_succ, List.getElem?_cons_zero]
    have hC1 := later_drew (wc)
    refine wpSeg_sq (fun K hK => ?_)
    go_wp2_with fail
    go_wp2_with fail
    refine hK _ _ (fun h => nomatch h) ?_
    clear hK K
    refine wpSeg_fl hC1 ?_
    repeat (first | go_big_quiet_step (fail) | quiet_step (fail))
    refine wpQuiet_nil ?_
    refine wpSeg_sq (fun K hK => ?_)
    go_wp2_with fail
    go_wp2_with fail
    refine hK _ _ (fun h => nomatch h) ?_
    clear hK K
    refine wpSeg_fl hC1 ?_
    repeat (first | go_big_quiet_step (fail) | quiet_step (fail))
    refine wpQuiet_nil ?_
    refine wpSeg_sq (fun K hK => ?_)
    go_wp2_with fail
    go_wp2_with fail
    refine hK _ _ (fun _ => hC1) ?_
    clear hK K
    refine wpSeg_fl hC1 ?_
    repeat (first | go_big_quiet_step (fail) | quiet_step (fail))
    refine wpQuiet_nil ?_
    have HB2 := LH (HBw.out.trans ((later_below hC1).mono HBw.out.size))
    generalize wc.drew = wd at *
    clear r0 r1 r2 r3 r4 hC1
    refine wpSeg_last ?_
    go_wp2_with fail
    go_roundw
    case rel => exact ⟨1, by omega, vint (by omega), HB2⟩
    case measure => simp [intOf]; omega
   ·obtain ⟨j, rfl⟩ : ∃ j, i = j + 1 := ⟨i - 1, by omega⟩
    obtain ⟨y, hy⟩ : ∃ y, xs[j]? = some y := ⟨_, List.getElem?_eq_getElem (by rw [HK.out]; omega)⟩
    obtain ⟨bb', bo', ebb, d0, d1, d2⟩ := ob_cells HXc.out hy
    cases ebb
    have HSep : Hid (y.a + roomN y.p y.d ≤ oa) := LH (HAp.out.apart j y _ hy HOi.out)
    have HYp : Hid (placedN S L (y.a : Int) = some ⟨y.p, y.d, 0⟩) := LH (HAp.out.placed y (List.mem_of_getElem? hy))
    obtain ⟨ya, yp, yd⟩ := y
    dsimp only at HSep HYp d0 d1 d2
    have hyr : ya + roomN yp yd ≤ 512 * 200 := by
     have := placed_room_le HYp.out
     rw [HN.out] at this
     dsimp only at this
     have : 512 * n ≤ 512 * 200 := Nat.mul_le_mul_left _ hl
     omega
    have HRm := LH (fun w => rroom_any yp yd w)
    generalize roomN yp yd = rn at *
    have hlt2 : ¬ (oa : Int) < (ya : Int) + (rn : Int) := by have := HSep.out; omega
    have hj0 : (0 : Int) < ((j + 1 : Nat) : Int) := by omega
    have hj1 : ((j + 1 : Nat) : Int) - 1 = (j : Int) := by omega
    have s0 := fun x => later_cell d0 x
    have s1 := fun x => later_cell d1 x
    have s2 := fun x => later_cell d2 x
    clear d0 d1 d2 hy
    refine wp_region_seg (C := fun w' => ∃ x : Later (wc), w' = x.val) [.sq [0, 1, 2] false, .fl [3, 4, 5, 6, 7, 8], .sq [9, 10, 11, 12, 13, 14] false, .fl [15, 16, 17, 18, 19, 20, 21, 22, 23, 24, 25, 26, 27, 28, 29, 30, 31], .sq [32] true, .fl [33], .sq [34, 35, 36] false] (by kernel_rfl) (by kernel_rfl) (by intro c a d v w h; cases d <;> exact h) ?_
    simp only [segs, picks, List.getElem?_cons_succ, List.getElem?_cons_zero]
    have hC1 := later_drew (wc)
    refine wpSeg_sq (fun K hK => ?_)
    go_wp2_with fail
    go_wp2_with fail
    refine hK _ _ (fun h => nomatch h) ?_
    clear hK K
    refine wpSeg_fl hC1 ?_
    repeat (first | go_big_quiet_step (fail) | quiet_step (fail))
    refine wpQuiet_nil ?_
    refine wpSeg_sq (fun K hK => ?_)
    go_wp2_with fail
    go_wp2_with fail
    refine hK _ _ (fun h => nomatch h) ?_
    clear hK K
    refine wpSeg_fl hC1 ?_
    repeat (first | go_big_quiet_step (fail) | quiet_step (fail))
    refine wpQuiet_nil ?_
    refine wpSeg_sq (fun K hK => ?_)
    go_wp2_with fail
    refine (HRm.out _).mono ?_
    rintro e w4 ⟨rfl, hb4⟩
    have hC2 := later_step hC1 hb4
    have HB4 := LH (HBw.out.trans ((later_below hC2).mono HBw.out.size))
    clear hb4
    go_wp2_with fail
    refine hK _ _ (fun _ => hC2) ?_
    clear hK K
    refine wpSeg_fl hC2 ?_
    repeat (first | go_big_quiet_step (fail) | quiet_step (fail))
    refine wpQuiet_nil ?_
    clear r0 r1 r2 r3 r4 s0 s1 s2 hC1 hC2
    refine wpSeg_last ?_
    go_wp2_with fail
    go_roundw
    case rel => exact ⟨j + 1 + 1, by omega, vint (by omega), HB4⟩
    case measure => simp [intOf]; omega
theorem Cells.touchNe {w w' : World} {a : Option Addr} {vs : List Value} {q : Nat} (h : Cells w a vs) (ht : Touch [q] w w') (hne : ∀ x, a = some x → x.block ≠ q) : Cells w' a vs := by
 rcases h with h | ⟨b, off, rfl, h⟩
 ·exact .inl h
 ·exact .inr ⟨b, off, rfl, fun i v hi => cell_of_touch ht (by simpa using hne _ rfl) (h i v hi)⟩
theorem Cells.owned3 {w : World} {base e size n n' cap : Nat} {a : Option Addr} {xs : List Value} (h : w.ownsRow base e size (.slice a n' cap) n xs) : Cells w a xs := by
 rcases h.2 with ⟨h0, h1⟩ | ⟨g, c, cur, hv, hb, hg, _, _, _, h4⟩
 ·subst h1
  exact .inl (List.length_eq_zero_iff.1 (by rw [h.1, Nat.zero_mul]))
 ·simp at hv
  obtain ⟨rfl, _⟩ := hv
  refine .inr ⟨g, 0, rfl, fun i v hi => ?_⟩
  have hr : RowAt w g e xs := ⟨cur, hg, cur.toList.drop (n * size), by rw [← h4, List.take_append_drop]⟩
  rw [Nat.zero_add]
  exact hr.cell hi
theorem owned_lt {w : World} {base e size n n' c : Nat} {a : Option Addr} {xs : List Value} (h : w.ownsRow base e size (.slice a n' c) n xs) (x : Addr) (hx : a = some x) : x.block < w.heap.size := by
 rcases h.2 with ⟨h0, _⟩ | ⟨g, cap, cur, hv, hb, hg, _⟩
 ·simp at h0; rw [h0.1] at hx; cases hx
 ·simp at hv; rw [hv.1] at hx; cases hx; exact (Array.getElem?_eq_some_iff.1 hg).1
end Go.Proofs.YtbimcogdbafjpaaGreat
namespace Go.Proofs.YtbimcogdbafjpaaGreat
section
variable {P : Program} {ops : Array Oper} {md : Region.Mode} {C : World → Prop} {Q : Exit → Act → World → Prop} {ex : List Nat}
def looseX (ex : List Nat) (md : Region.Mode) (ops : Array Oper) (j : Nat) : Bool := looseL md ops j || ex.contains j
def flX (ex : List Nat) (md : Region.Mode) (ops : Array Oper) : List Nat → Array Bool → Bool × Array Bool
 | [], listed => (true, listed)
 | k :: ks, listed => match ops[k]? with
  | none => (false, listed)
  | some o => let r := flX ex md ops ks (listed.setIfInBounds k true)
   (calm o.op && (Region.ready md ops listed).contains k && Region.free md ops listed k && ((List.range ops.size).all fun j => j == k || listed.getD j true || waitsFor md ops ops.size j k || looseX ex md ops j) && r.1, r.2)
def puX (ex : List Nat) (md : Region.Mode) (ops : Array Oper) : List Nat → Array Bool → Bool × Array Bool
 | [], listed => (true, listed)
 | k :: ks, listed => match ops[k]? with
  | none => (false, listed)
  | some o => let r := puX ex md ops ks (listed.setIfInBounds k true)
   (calm o.op && (Region.ready md ops listed).contains k && Region.free md ops listed k && !looseX ex md ops k && r.1, r.2)
def sqX (ex : List Nat) (md : Region.Mode) (ops : Array Oper) (lo : Bool) : List Nat → Array Bool → Bool × Array Bool
 | [], listed => (true, listed)
 | k :: ks, listed => match ops[k]? with
  | none => (false, listed)
  | some _ => let r := sqX ex md ops lo ks (listed.setIfInBounds k true)
   (Region.ready md ops listed == [k] && (!looseX ex md ops k || (lo && ks.isEmpty)) && r.1, r.2)
def trX (ex : List Nat) (md : Region.Mode) (ops : Array Oper) : Tr → Array Bool → Bool
 | .nil, listed => (Region.ready md ops listed).isEmpty
 | .fl ks t, listed => let x := flX ex md ops ks listed; x.1 && trX ex md ops t x.2
 | .pu ks t, listed => let x := puX ex md ops ks listed; x.1 && trX ex md ops t x.2
 | .sq ks lo t, listed => let x := sqX ex md ops lo ks listed; x.1 && trX ex md ops t x.2
 | .br k1 lo1 t1 k2 lo2 t2, listed => Region.ready md ops listed == [k1, k2] && (!looseX ex md ops k1 || lo1) && (!looseX ex md ops k2 || lo2) && trLen t1 == trLen t2 && (ops[k1]?).isSome && (ops[k2]?).isSome &&
   trX ex md ops t1 (listed.setIfInBounds k1 true) && trX ex md ops t2 (listed.setIfInBounds k2 true)
def trBX (ex : List Nat) (md : Region.Mode) (ops : Array Oper) (t : Tr) : Bool := Region.noSelect ops && trLen t == ops.size && trX ex md ops t (Array.replicate ops.size false)
theorem flX_ok (hs : Region.noSelect ops = true) (hQ : ∀ c a d v w, Q (.panic c) (a.put d v) w → Q (.panic c) a w) {m : Nat} {R : Act → Prop} {w : World} (hC : C w) : ∀ (ks : List Nat) (listed : Array Bool) (a : Act), Shut md ops listed → (flX ex md ops ks listed).1 = true →
  (∀ a', Shut md ops (flX ex md ops ks listed).2 → R a' → wpAnyF P md ops Q C (looseX ex md ops) m (flX ex md ops ks listed).2 a' w) →
  wpQuiet P ops C R (picks ops.toList ks) a → wpAnyF P md ops Q C (looseX ex md ops) (m + ks.length) listed a w := by
 intro ks
 induction ks with
 | nil =>
  intro listed a hsh _ hR h
  exact hR a hsh (by simpa [picks, wpQuiet] using h)
 | cons k ks ih =>
  intro listed a hsh hB hR h
  cases hk : ops[k]? with
  | none => simp [flX, hk] at hB
  | some o =>
   have e : picks ops.toList (k :: ks) = o :: picks ops.toList ks := by simp [picks, hk]
   rw [e] at h
   simp only [flX, hk, Bool.and_eq_true] at hB hR
   obtain ⟨⟨⟨⟨hc, hr⟩, hf⟩, hlo⟩, hB'⟩ := hB
   have hrk : k ∈ Region.ready md ops listed := by simpa using hr
   obtain ⟨v, hy, hK⟩ := stays_of hc h
   refine wpAnyF_early (f := ops.size) hk (Region.noSelect_spec hs) hQ (m + ks.length) listed a w ?_ (Region.free_spec hk hf) hrk hsh hy hC (ih _ _ (hsh.set hrk) hB' hR hK)
   intro j oj hj hjk hun
   simp only [List.all_eq_true, List.mem_range, Bool.or_eq_true, beq_iff_eq] at hlo
   rcases hlo j (Array.getElem?_eq_some_iff.1 hj).1 with ((h | h) | h) | h
   ·exact absurd h hjk
   ·rw [hun] at h; cases h
   ·exact .inl h
   ·exact .inr h
theorem puX_ok (hs : Region.noSelect ops = true) (hQ : ∀ c a d v w, Q (.panic c) (a.put d v) w → Q (.panic c) a w) {m : Nat} {R : Act → Prop} {w : World} : ∀ (ks : List Nat) (listed : Array Bool) (a : Act), Shut md ops listed → (puX ex md ops ks listed).1 = true →
  (∀ a', Shut md ops (puX ex md ops ks listed).2 → R a' → wpAnyF P md ops Q C (looseX ex md ops) m (puX ex md ops ks listed).2 a' w) →
  wpQuiet P ops (fun _ => True) R (picks ops.toList ks) a → wpAnyF P md ops Q C (looseX ex md ops) (m + ks.length) listed a w := by
 intro ks
 induction ks with
 | nil =>
  intro listed a hsh _ hR h
  exact hR a hsh (by simpa [picks, wpQuiet] using h)
 | cons k ks ih =>
  intro listed a hsh hB hR h
  cases hk : ops[k]? with
  | none => simp [puX, hk] at hB
  | some o =>
   have e : picks ops.toList (k :: ks) = o :: picks ops.toList ks := by simp [picks, hk]
   rw [e] at h
   simp only [puX, hk, Bool.and_eq_true, Bool.not_eq_true'] at hB hR
   obtain ⟨⟨⟨⟨hc, hr⟩, hf⟩, hlo⟩, hB'⟩ := hB
   have hrk : k ∈ Region.ready md ops listed := by simpa using hr
   obtain ⟨v, hy, hK⟩ := stays_of hc h
   exact wpAnyF_pure hk (Region.noSelect_spec hs) hQ hlo (m + ks.length) listed a w (Region.free_spec hk hf) hrk hy (ih _ _ (hsh.set hrk) hB' hR hK)
theorem oneX_ok {m : Nat} {lo : Bool} {R : Act → World → Prop} {k : Nat} {o : Oper} (hk : ops[k]? = some o) {L : Array Bool} {a : Act} {w : World} (hlo : looseX ex md ops k = true → lo = true)
  (hR : ∀ a' w', (lo = true → C w') → R a' w' → wpAnyF P md ops Q C (looseX ex md ops) m L a' w')
  (h : wpList P ops (Exit.then (fun a' w' => (lo = true → C w') ∧ R a' w') Q) [o] a w) : wpOp P ops Q k (fun a' w' => (looseX ex md ops k = true → C w') ∧ wpAnyF P md ops Q C (looseX ex md ops) m L a' w') a w := by
 unfold wpOp
 simp only [hk]
 unfold wpList at h
 have hmono : ∀ a' w', wpList P ops (Exit.then (fun a' w' => (lo = true → C w') ∧ R a' w') Q) [] a' w' → (looseX ex md ops k = true → C w') ∧ wpAnyF P md ops Q C (looseX ex md ops) m L a' w' := by
  intro a' w' h'
  have h' : (lo = true → C w') ∧ R a' w' := by simpa [wpList, Exit.then] using h'
  exact ⟨fun hl => h'.1 (hlo hl), hR a' w' h'.1 h'.2⟩
 by_cases hw : Region.wanted o (yielded ops a.tmps) = true
 ·rw [if_pos hw] at h ⊢
  rcases h with h | h
  ·refine .inl ?_
   have h := Oper.wp_mono hmono h
   unfold Oper.wp at *
   generalize (execOp a.eval o).run P w = r at *
   cases r with
   | ok n w' => cases n <;> simp only [Oper.upon] at h ⊢ <;> exact h
   | halt x w' => cases x <;> simp only [Oper.upon] at h ⊢ <;> exact h
  ·exact .inr h
 ·rw [if_neg hw] at h ⊢
  exact hmono _ _ h
theorem sqX_ok {m : Nat} {lo : Bool} {R : Act → World → Prop} : ∀ (ks : List Nat) (listed : Array Bool) (a : Act) (w : World), Shut md ops listed → (sqX ex md ops lo ks listed).1 = true →
  (∀ a' w', Shut md ops (sqX ex md ops lo ks listed).2 → (lo = true → C w') → R a' w' → wpAnyF P md ops Q C (looseX ex md ops) m (sqX ex md ops lo ks listed).2 a' w') →
  wpList P ops (Exit.then (fun a' w' => (lo = true → C w') ∧ R a' w') Q) (picks ops.toList ks) a w → wpAnyF P md ops Q C (looseX ex md ops) (m + ks.length) listed a w := by
 intro ks
 induction ks with
 | nil =>
  intro listed a w hsh _ hR h
  have h : (lo = true → C w) ∧ R a w := by simpa [picks, wpList, Exit.then] using h
  exact hR a w hsh h.1 h.2
 | cons k ks ih =>
  intro listed a w hsh hB hR h
  cases hk : ops[k]? with
  | none => simp [sqX, hk] at hB
  | some o =>
   have e : picks ops.toList (k :: ks) = o :: picks ops.toList ks := by simp [picks, hk]
   rw [e] at h
   simp only [sqX, hk, Bool.and_eq_true, beq_iff_eq] at hB hR
   obtain ⟨⟨hr, hlo⟩, hB'⟩ := hB
   have hrk : k ∈ Region.ready md ops listed := by rw [hr]; simp
   refine ⟨fun h' => (by rw [hr] at h'; cases h'), fun i hi => ?_⟩
   rw [hr] at hi
   obtain rfl : i = k := by simpa using hi
   unfold wpOp
   simp only [hk]
   unfold wpList at h
   have hmono : ∀ a' w', wpList P ops (Exit.then (fun a' w' => (lo = true → C w') ∧ R a' w') Q) (picks ops.toList ks) a' w' →
     (looseX ex md ops i = true → C w') ∧ wpAnyF P md ops Q C (looseX ex md ops) (m + ks.length) (listed.setIfInBounds i true) a' w' := by
    intro a' w' h'
    refine ⟨fun hl => ?_, ih _ _ _ (hsh.set hrk) hB' hR h'⟩
    simp only [hl, Bool.not_true, Bool.false_or, Bool.and_eq_true, List.isEmpty_iff] at hlo
    obtain ⟨hlo1, rfl⟩ := hlo
    have h' : (lo = true → C w') ∧ R a' w' := by simpa [picks, wpList, Exit.then] using h'
    exact h'.1 hlo1
   by_cases hw : Region.wanted o (yielded ops a.tmps) = true
   ·rw [if_pos hw] at h ⊢
    rcases h with h | h
    ·refine .inl ?_
     have h := Oper.wp_mono hmono h
     unfold Oper.wp at *
     generalize (execOp a.eval o).run P w = r at *
     cases r with
     | ok n w' => cases n <;> simp only [Oper.upon] at h ⊢ <;> exact h
     | halt x w' => cases x <;> simp only [Oper.upon] at h ⊢ <;> exact h
    ·exact .inr h
   ·rw [if_neg hw] at h ⊢
    exact hmono _ _ h
theorem trX_ok (hs : Region.noSelect ops = true) (hQ : ∀ c a d v w, Q (.panic c) (a.put d v) w → Q (.panic c) a w) : ∀ (t : Tr) (listed : Array Bool) (a : Act) (w : World), Shut md ops listed →
  trX ex md ops t listed = true → wpTr P ops C Q (trO ops.toList t) a w → wpAnyF P md ops Q C (looseX ex md ops) (trLen t) listed a w := by
 intro t
 induction t with
 | nil =>
  intro listed a w _ hB h
  exact ⟨by simpa [trX] using hB, by simpa [wpTr, trO] using h⟩
 | fl ks t ih =>
  intro listed a w hsh hB h
  simp only [trX, Bool.and_eq_true] at hB
  simp only [trO, wpTr] at h
  exact flX_ok hs hQ h.1 ks listed a hsh hB.1 (fun a' hsh' hR => ih _ a' w hsh' hB.2 hR) h.2
 | pu ks t ih =>
  intro listed a w hsh hB h
  simp only [trX, Bool.and_eq_true] at hB
  simp only [trO, wpTr] at h
  exact puX_ok hs hQ ks listed a hsh hB.1 (fun a' hsh' hR => ih _ a' w hsh' hB.2 hR) h
 | sq ks lo t ih =>
  intro listed a w hsh hB h
  simp only [trX, Bool.and_eq_true] at hB
  simp only [trO, wpTr] at h
  exact sqX_ok ks listed a w hsh hB.1 (fun a' w' hsh' _ hR => ih _ a' w' hsh' hB.2 hR) h
 | br k1 lo1 t1 k2 lo2 t2 ih1 ih2 =>
  intro listed a w hsh hB h
  simp only [trX, Bool.and_eq_true, beq_iff_eq] at hB
  obtain ⟨⟨⟨⟨⟨⟨⟨hr, hl1⟩, hl2⟩, hlen⟩, ho1⟩, ho2⟩, hB1⟩, hB2⟩ := hB
  obtain ⟨o1, ho1⟩ := Option.isSome_iff_exists.1 ho1
  obtain ⟨o2, ho2⟩ := Option.isSome_iff_exists.1 ho2
  simp only [trO, wpTr] at h
  have e1 : picks ops.toList [k1] = [o1] := by simp [picks, ho1]
  have e2 : picks ops.toList [k2] = [o2] := by simp [picks, ho2]
  rw [e1, e2] at h
  refine ⟨fun h' => (by rw [hr] at h'; cases h'), fun i hi => ?_⟩
  have hri := hi
  rw [hr] at hi
  simp only [List.mem_cons, List.not_mem_nil, or_false] at hi
  rcases hi with rfl | rfl
  ·exact oneX_ok ho1 (fun hl => by simpa [hl] using hl1) (fun a' w' _ hR => ih1 _ a' w' (hsh.set hri) hB1 hR) h.1
  ·exact oneX_ok ho2 (fun hl => by simpa [hl] using hl2) (fun a' w' _ hR => by have := ih2 _ a' w' (hsh.set hri) hB2 hR; rw [← hlen] at this; exact this) h.2
theorem wp_region_trx {id : Nat} {a : Act} {w : World} {l : List Oper} (t : Tr) (hm : P.follows .mixedOrders = true) (hB : trBX ex .any l.toArray t = true)
  (hQ : ∀ c a d v w, Q (.panic c) (a.put d v) w → Q (.panic c) a w)
  (h : wpTr P l.toArray C Q (trO l t) a w.drew) : (Code.region id l.toArray true).wp P Q a w := by
 simp only [trBX, Bool.and_eq_true, beq_iff_eq] at hB
 refine wp_region_any hm (wpAny_of_F (C := C) (loose := looseX ex .any l.toArray) _ _ _ _ ?_)
 have := trX_ok (md := .any) (C := C) hB.1.1 hQ t (Array.replicate l.toArray.size false) a w.drew (shut_none _) hB.2 h
 rw [hB.1.2] at this
 exact this
end
end Go.Proofs.YtbimcogdbafjpaaGreat
