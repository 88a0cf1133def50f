/- Parts of the proof, one behind the other: Yw, Yz, Yu, Ik, Yv, Yn, Ri, Hread. -/
import Derived.Test.YtebnelihlgdciaaGreatM10
import Derived.Deep.DeepCutAuto

/- law12: shows. -/
namespace Go.Proofs.YtebnelihlgdciaaGreat
open Go.RowKit
set_option linter.unusedVariables false

set_option maxHeartbeats 1000000 in
theorem bruns_any {w : World} {X : MF} {n B : Nat} {m : Bm} (h : ManAt w X n B m) (hB : B ≤ 1000) :
    Calls Tryz.prog 8 #[.pointer (some ⟨X.m, 0, none⟩)] w (SpList w (runsOf m.free)) := by
  have c1 := h.c1
  have HI := Lib.hid (ilist_any h.ix (by rw [h.lenF]; omega))
  clear h
  go_enter Tryz.func8, Tryz.ntmps8
  go_wp2_with fail
  refine HI.out.mono ?_
  rintro e w1 ⟨a, c, rfl, hc, hb⟩
  have HC := Lib.hid hc
  have HB := Lib.hid hb
  clear hc hb
  go_wp2_with fail
  go_ret
  exact ⟨a, c, rfl, HC.out, HB.out⟩

theorem fsGe : (Tryz.prog.fieldsOf 43) = #[{ name := "Blocks", type := 3, offset := 0, embedded := false, tag := "", pkgPath := "", byteOffset := 0 }] := by kernel_rfl
theorem usGe : Tryz.prog.underlying 43 = some (.struct (Tryz.prog.fieldsOf 43)) := by kernel_rfl
theorem ssGe : Tryz.prog.stoodInHeld 43 = false := by kernel_rfl
theorem gsGe : Tryz.prog.eqGuardType Tryz.prog.depth 43 = false := by kernel_rfl
theorem equalGe (w : World) (a : Int) : (Op.equalIn 10000 43 (.agg #[.int .i64 a]) (.agg #[.int .i64 a])).run Tryz.prog w = .ok true w := by
  rw [show (10000 : Nat) = 9999 + 1 from rfl, run_equalIn_agg w 9999 43 _ _ usGe ssGe, fsGe]
  simp [Op.eqFields, go_sem, Tryz.underlying3, part]

theorem samehd_self (l : List Hd) : sameHd l l = true := decide_eq_true rfl

set_option maxHeartbeats 8000000 in
set_option maxRecDepth 100000 in
theorem shows12_any {w : World} {X : MF} {n B : Nat} {b b' : Bm} {D : Array Value} {aL aF : Option Addr} {m : Nat} (ha : ManAt w X n B b) (hg : MgAt w D aL aF m B b') (hal : Alike b b') (hm : b.dev.dirty.length = m) (hB : B ≤ 1000) (cL cF : Nat) :
    Calls Tryz.prog 16 #[.pointer (some ⟨X.m, 0, none⟩), vdev X.F, mgV D aL cL aF cF B] w fun e w' => e = .returned (.bool true) ∧ Below w.heap.size w w' := by
  have HDs := Lib.hid hg.dev.arr
  have HM := Lib.hid (Mem.one w (mgA D (.slice aL B cL) (.slice aF B cF)) 35)
  have HA := Lib.hid (ha.below HM.out.below)
  have HG := Lib.hid (hg.below HM.out.below)
  have HLn := Lib.hid ha.tab.len
  have HLf := Lib.hid ha.lenF
  have HLn' := Lib.hid hg.lenL
  have HMl := Lib.hid hm
  have HLk := Lib.hid hal.dev
  have HEq : Hid (b'.list = b.list ∧ b'.free = b.free) := Lib.hid ⟨hal.list, hal.free⟩
  have HRl : Hid ((runsOf b.free).length ≤ 1000) := Lib.hid (by have := runs_len (fb b.free) b.free.length; rw [ha.lenF] at this; unfold runsOf; rw [ha.lenF]; omega)
  have HSu : Hid (sumOf (runsOf b.free) ≤ 1000) := Lib.hid (by have := sum_runsOf b.free; rw [ha.lenF] at this; omega)
  unfold mgV
  rw [mgA_list] at HM
  unfold vdev
  clear ha hg hal hm
  go_enter Tryz.func16, Tryz.ntmps16
  go_upto_region 1 with fail
  generalize w.alloc _ = w0 at *
  obtain ⟨q, hq⟩ : ∃ q, q = w.heap.size := ⟨_, rfl⟩
  rw [← hq] at HM ⊢
  clear hq
  have c9 := HM.out.cell 0 9 rfl (mgL_9 HDs.out.1 _ _)
  go_wp2_with fail
  refine (rlist_any aF B cF b'.free HG.out.lenF _ HG.out.free (by omega)).mono ?_
  rw [HEq.out.2]
  rintro e w1 ⟨al, cl, rfl, hcl, hb1⟩
  have HC1 := Lib.hid hcl
  have HM1 := Lib.hid (HM.out.later hb1)
  have HA1 := Lib.hid (HA.out.below hb1)
  have HG1 := Lib.hid (HG.out.below hb1)
  clear hb1 hcl HM HA HG c9
  go_wp2_with fail
  refine (rtotal_any al _ cl (runsOf b.free) rfl _ HC1.out (by have := HSu.out; omega) (by have := HRl.out; omega)).mono ?_
  rintro e w2 ⟨rfl, rfl⟩
  have c0 := HA1.out.c0
  have c8 := HM1.out.cell 0 8 rfl (mgL_8 HDs.out.1 _ _)
  have hld : ∀ w', (∃ x : Later w2, w' = x.val) → ∀ i v, D.toList[i]? = some v → w'.cell? ⟨q, 0 + i, none⟩ = some v := by
    rintro _ ⟨x, rfl⟩ i v hi
    rw [Nat.zero_add]
    exact later_cell (HM1.out.cell 0 i rfl (mgL_D _ _ i v hi)) x
  obtain ⟨su, hsu⟩ : ∃ su, su = sumOf (runsOf b.free) := ⟨_, rfl⟩
  obtain ⟨lo, hlo⟩ : ∃ lo, lo = longOf (runsOf b.free) := ⟨_, rfl⟩
  obtain ⟨rl, hrl⟩ : ∃ rl, rl = (runsOf b.free).length := ⟨_, rfl⟩
  have HSu2 := Lib.hid hsu
  have HLo2 := Lib.hid hlo
  have HRl2 := Lib.hid hrl
  rw [← hsu, ← hlo, ← hrl]
  clear hsu hlo hrl
  have e1 : (su == su) = true := by simp
  have e2 : (lo == lo) = true := by simp
  have e1i : ((su : Int) == (su : Int)) = true := by simp
  have e2i : ((lo : Int) == (lo : Int)) = true := by simp
  go_upto_region 3 with fail
  have r0 := fun x => later_cell c0 x
  have r8 := fun x => later_cell c8 x
  refine wp_region_seg (C := fun w' => ∃ x : Later (w2), w' = x.val) [.fl [0, 1, 2, 3, 6, 7], .sq [4] true, .sq [5] true, .sq [8, 9] false, .fl [10, 12], .sq [11] true, .sq [13, 14, 15] false, .fl [16, 18], .sq [17] true, .sq [19, 20, 21] false, .fl [22, 24], .sq [23] true, .sq [25, 26, 27] false, .fl [28, 29, 30], .sq [31, 32, 33] false, .fl [34, 36, 37, 38, 39], .sq [35] true, .sq [40, 41, 42] false] (by kernel_rfl) (by kernel_rfl) (by intro c a d v w h; cases d <;> exact h) ?_
  simp only [segs, picks, List.getElem?_cons_succ, List.getElem?_cons_zero]
  have hC1 := later_drew (w2)
  refine wpSeg_fl hC1 ?_
  repeat (first | go_big_quiet_step (fail) | quiet_step (fail))
  refine wpQuiet_nil ?_
  refine wpSeg_sq (fun K hK => ?_)
  go_wp2_with fail
  refine (tall_any (HA1.out.below (later_below hC1)).tab hB).mono ?_
  rintro e w3 ⟨q3, k3, rfl, hq3, hk3, hr3, hb3⟩
  have hC2 := later_step hC1 hb3
  have HR3 := Lib.hid hr3
  clear hq3 hr3 hb3
  go_wp2_with fail
  refine hK _ _ (fun _ => hC2) ?_
  clear hK K
  refine wpSeg_sq (fun K hK => ?_)
  go_wp2_with fail
  refine (refs_any (some ⟨q3, 0, none⟩) B k3 b.list HLn.out w3 HR3.out.cells hB).mono ?_
  rintro e w4 ⟨v4, rfl, ho4, hb4⟩
  obtain ⟨a4, c4, rfl, _, _⟩ := owned_form ho4
  have HC4 := Lib.hid (Cells.owned2 ho4)
  have hC3 := later_step hC2 hb4
  clear ho4 hb4
  go_wp2_with fail
  refine hK _ _ (fun _ => hC3) ?_
  clear hK K
  refine wpSeg_sq (fun K hK => ?_)
  go_wp2_with fail
  refine (rsame_any a4 aL B B c4 cL b.list b'.list HLn.out HLn'.out w4 HC4.out (HG1.out.below (later_below hC3)).list hB hB).mono ?_
  rw [HEq.out.1, samehd_self]
  rintro e w5 ⟨rfl, q5, rfl⟩
  have hC4 := later_drewN hC3 q5
  generalize w4.drewN q5 = w5 at *
  go_wp2_with fail
  refine hK _ _ (fun _ => hC4) ?_
  clear hK K
  refine wpSeg_fl hC4 ?_
  repeat (first | go_big_quiet_step (fail) | quiet_step (fail))
  refine wpQuiet_nil ?_
  refine wpSeg_sq (fun K hK => ?_)
  go_wp2_with fail
  refine (bruns_any (HA1.out.below (later_below hC4)) hB).mono ?_
  rintro e w6 ⟨a6, c6, rfl, hc6, hb6⟩
  rw [← HRl2.out]
  have hC5 := later_step hC4 hb6
  have HC6 := Lib.hid hc6
  have HCl6 := Lib.hid (HC1.out.below (later_below hC5) (Nat.le_refl _))
  clear hc6 hb6
  go_wp2_with fail
  refine hK _ _ (fun _ => hC5) ?_
  clear hK K
  refine wpSeg_sq (fun K hK => ?_)
  go_wp2_with fail
  refine (lspans_same a6 al _ c6 cl (runsOf b.free) HRl2.out.symm w6 HC6.out HCl6.out (by have := HRl.out; have := HRl2.out; omega)).mono ?_
  rintro e w7 ⟨rfl, q7, rfl⟩
  have hC6 := later_drewN hC5 q7
  generalize w6.drewN q7 = w7 at *
  go_wp2_with fail
  refine hK _ _ (fun _ => hC6) ?_
  clear hK K
  refine wpSeg_fl hC6 ?_
  repeat (first | go_big_quiet_step (fail) | quiet_step (fail))
  refine wpQuiet_nil ?_
  refine wpSeg_sq (fun K hK => ?_)
  go_wp2_with fail
  refine (bfree_any (HA1.out.below (later_below hC6)) hB).mono ?_
  rintro e w8 ⟨rfl, hb8⟩
  rw [← HSu2.out]
  have hC7 := later_step hC6 hb8
  clear hb8
  go_wp2_with fail
  refine hK _ _ (fun _ => hC7) ?_
  clear hK K
  refine wpSeg_sq (fun K hK => ?_)
  go_wp2_with fail
  go_wp2_with fail
  refine hK _ _ (fun _ => hC7) ?_
  clear hK K
  refine wpSeg_fl hC7 ?_
  repeat (first | go_big_quiet_step (fail) | quiet_step (fail))
  refine wpQuiet_nil ?_
  refine wpSeg_sq (fun K hK => ?_)
  go_wp2_with fail
  refine (blongest_any (HA1.out.below (later_below hC7)) hB).mono ?_
  rintro e w9 ⟨rfl, hb9⟩
  rw [← HLo2.out]
  have hC8 := later_step hC7 hb9
  clear hb9
  go_wp2_with fail
  refine hK _ _ (fun _ => hC8) ?_
  clear hK K
  refine wpSeg_sq (fun K hK => ?_)
  go_wp2_with fail
  go_wp2_with fail
  refine hK _ _ (fun _ => hC8) ?_
  clear hK K
  refine wpSeg_fl hC8 ?_
  go_big_quiet_step (fail)
  go_big_quiet_step (fail)
  refine wpQuiet_load_arrw aggRd D hld HDs.out.1 (by rfl) rfl rfl ?_
  refine wpQuiet_nil ?_
  clear hld
  refine wpSeg_sq (fun K hK => ?_)
  go_wp2_with fail
  refine (same3_like HMl.out (HA1.out.below (later_below hC8)).dev (HG1.out.below (later_below hC8)).dev HLk.out.cache HLk.out.lasting HLk.out.dirty HLk.out.steps HLk.out.dead).mono ?_
  rintro e w10 ⟨rfl, hb10⟩
  have hC9 := later_step hC8 hb10
  clear hb10
  go_wp2_with fail
  refine hK _ _ (fun _ => hC9) ?_
  clear hK K
  refine wpSeg_fl hC9 ?_
  repeat (first | go_big_quiet_step (fail) | quiet_step (fail))
  refine wpQuiet_nil ?_
  refine wpSeg_sq (fun K hK => ?_)
  go_wp2_with fail
  refine (bgeom_any (HA1.out.below (later_below hC9))).mono ?_
  rintro e w11 ⟨rfl, hb11⟩
  have hC10 := later_step hC9 hb11
  clear hb11
  go_wp2_with fail
  refine hK _ _ (fun _ => hC10) ?_
  clear hK K
  have heq := fun w' => equalGe w' (B : Int)
  have hgd := gsGe
  refine wpSeg_last ?_
  go_wp2_with fail
  go_ret
  exact ⟨rfl, HM1.out.below.trans ((later_below hC10).mono HM1.out.below.size)⟩

end Go.Proofs.YtebnelihlgdciaaGreat

/- law12: played. -/
namespace Go.Proofs.YtebnelihlgdciaaGreat
open Go.RowKit
set_option linter.unusedVariables false

/-- Where play stands. -/
structure Stand (w W : World) (X : MF) (n B : Nat) (D : Array Value) (aL aF : Option Addr) (b b' : Bm) (N : Nat) : Prop where
  man : ManAt W X n B b
  mg : MgAt W D aL aF (64 * B) B b'
  ap : ∀ k, MgIn D aL aF k → k ∉ X.list
  al : Alike b b'
  done : b.dev.dead = true ∨ BmOk B b
  ok : b.dev.ok N
  fit : b'.dev.fit N
  dl : b'.dev.dirty.length = 64 * B
  new : ∀ k ∈ X.list, w.heap.size ≤ k
  below : Below w.heap.size w W

theorem Stand.later {w W W' : World} {X : MF} {n B : Nat} {D : Array Value} {aL aF : Option Addr} {b b' : Bm} {N : Nat} (h : Stand w W X n B D aL aF b b' N) (hb : Below W.heap.size W W') : Stand w W' X n B D aL aF b b' N :=
  { h with man := h.man.below hb, mg := h.mg.below hb, below := h.below.trans (hb.mono h.below.size) }
/-- A box is written. -/
theorem Stand.box {w W W' : World} {X : MF} {n B : Nat} {D : Array Value} {aL aF : Option Addr} {b b' : Bm} {N : Nat} (h : Stand w W X n B D aL aF b b' N) (hB : 2 ≤ B) {q e : Nat} {Rw : List Value} (hr : RowX W ⟨q, e, Rw, true⟩) (hR : Odd Rw) (hq : q ∉ X.list) (hqw : w.heap.size ≤ q) (ht : Touch [q] W W') : Stand w W' X n B D aL aF b b' N :=
  { h with
    man := h.man.keep (fun j hj => ht.block j (h.man.mem j hj) (by simp; intro e; exact hq (e ▸ hj)))
    mg := h.mg.touch (by omega) hB hr hR ht
    below := below_touched h.below ht (by simpa using hqw) (Nat.le_refl _) }
theorem Stand.mono {w W : World} {X : MF} {n n' B : Nat} {D : Array Value} {aL aF : Option Addr} {b b' : Bm} {N M : Nat} (h : Stand w W X n B D aL aF b b' N) (hn : n ≤ n') (hN : N ≤ M) : Stand w W X n' B D aL aF b b' M :=
  { h with man := h.man.mono hn, ok := h.ok.mono hN, fit := h.fit.mono hN }

/-- What played leaves. -/
def Played12 (w : World) (B : Nat) : Ending → World → Prop := fun e w' => ∃ (X : MF) (n : Nat) (D : Array Value) (aL : Option Addr) (cL : Nat) (aF : Option Addr) (cF : Nat) (b b' : Bm), e = .returned (.tuple #[.pointer (some ⟨X.m, 0, none⟩), vdev X.F, mgV D aL cL aF cF B, .bool true]) ∧
  n ≤ 1000100 ∧ Stand w w' X n B D aL aF b b' 20000000

theorem do12_stand {w W : World} {X : MF} {n B : Nat} {D : Array Value} {aL aF : Option Addr} {b b' : Bm} {N : Nat} (h : Stand w W X n B D aL aF b b' N) (hd : b.dev.dead = false) (hB2 : 2 ≤ B) (hB : B ≤ 10) (hn : n ≤ 10000000) (hN : N ≤ 80000000) (cL cF : Nat) (k z : Int) (hz9 : -9223372036854775808 ≤ z ∧ z ≤ 9223372036854775807) :
    Calls Tryz.prog 9 #[.pointer (some ⟨X.m, 0, none⟩), vdev X.F, mgV D aL cL aF cF B, .agg #[.int .i64 k, .int .i64 z]] W
      (fun e W' => ∃ D' aL' cL' aF' cF', e = .returned (.tuple #[mgV D' aL' cL' aF' cF' B, .bool true]) ∧ Stand w W' X (n + 1) B D' aL' aF' (do12 b k z) (do12 b' k z) (N + 500000) ∧ Touch X.hot W W') := by
  have hok : BmOk B b := by
    rcases h.done with h1 | h1
    · rw [hd] at h1; cases h1
    · exact h1
  refine (do12_any h.man h.mg h.ap h.al hok h.dl (by omega) hB2 (by omega) (by omega) (by omega) h.ok h.fit cL cF k z hz9).mono ?_
  rintro e W' ⟨D', aL', cL', aF', cF', rfl, ha, hg, hn', ht⟩
  refine ⟨D', aL', cL', aF', cF', rfl, ⟨ha, hg, fun j hj hm => ?_, do12_alike h.al k z, (do12_done hok k z).2, do12_grows grows_ok h.al.invM h.ok (by rw [hok.lenL]; omega) k z (by omega), do12_grows grows_fit h.al.invN h.fit (by rw [h.al.list, hok.lenL]; omega) k z (by omega),
    do12_grows (grows_dl (64 * B)) (N := N) h.al.invN h.dl (by rw [h.al.list, hok.lenL]; omega) k z (by omega), h.new, below_touched h.below ht (fun j hj => h.new j (MF.hot_sub hj)) (Nat.le_refl _)⟩, ht⟩
  rcases hn' j hj with h1 | h1
  · exact h.ap j h1 hm
  · have := h.man.mem j hm; omega

def ok64 (o : Op2) : Prop := (-9223372036854775808 ≤ o.a ∧ o.a ≤ 9223372036854775807) ∧ (-9223372036854775808 ≤ o.b ∧ o.b ≤ 9223372036854775807)

/-- A struct is loaded from cells, guarded. -/
theorem wpList_load_arrw {P : Program} {w : World} {ops : Array Oper} {rest : List Oper} {o : Oper} {a : Act} {Q : Exit → Act → World → Prop} {ty : TypeId} {zs : Array Value} (A : Agg P ty zs) {p : Operand} {g off : Nat} (D : Array Value) (hc : ∀ i v, D.toList[i]? = some v → w.cell? ⟨g, off + i, none⟩ = some v) (hs : D.size = zs.size)
    (hw : Region.wanted o (yielded ops a.tmps) = true) (ho : o.op = .load ty p) (hp : a.eval p = .pointer (some ⟨g, off, none⟩))
    (hK : wpList P ops Q rest (a.put o.dst (.agg D)) w) : wpList P ops Q (o :: rest) a w := by
  refine wpList_step fun K hK' => ?_
  rw [if_pos hw]
  obtain ⟨d, hu, hd⟩ := A.desc
  have hl : (loadCells ⟨g, off, none⟩ D.toList.length).run P w = .ok D.toList.toArray w := run_loadCells_list (P := P) w ⟨g, off, none⟩ D.toList (fun j v hv => by rw [add_none]; exact hc j v hv)
  rw [Array.length_toList, Array.toArray_toList] at hl
  have hagg : (isAgg ty).run P w = .ok true w := by
    unfold isAgg
    rw [Sem.run_bind, run_underlying hu w]
    cases d <;> simp_all
  have hsz := A.size
  have hr : (loadVar ty ⟨g, off, none⟩).run P w = .ok (.agg D) w := by
    cases hq : P.info? ty with
    | none => simp [hq] at hsz
    | some inf =>
      have e : inf.size = D.size := by simp [hq] at hsz; rw [hsz, hs]
      simp [loadVar, hagg, sizeOf, typeInfo, hq, e, hl]
  have hr2 : (Instr.loadAt ty (.pointer (some ⟨g, off, none⟩))).run P w = .ok (.agg D) w := by
    simp only [Instr.loadAt, Instr.sureAddr, Sem.run_bind, Sem.run_pure, Result.andThen]
    exact hr
  unfold Oper.wp
  simp only [execOp, ho, hp]
  simp only [Sem.run_bind, hr2, Result.andThen, Sem.run_pure]
  exact hK' _ _ hK

set_option maxHeartbeats 8000000 in
set_option maxRecDepth 100000 in
theorem played12_any (x : Nat) (hx : x < 256) (a : Option Addr) (m cap : Nat) (l : List Op2) (hm : l.length = m) (w : World) (hcs : Cells w a (recs Op2.cs l)) (hok : ∀ o ∈ l, ok64 o) (hmm : m ≤ maxLen) :
    Calls Tryz.prog 5 #[.int .u8 (x : Int), .slice a m cap] w (Played12 w (2 + x % 9)) := by
  unfold maxLen at hmm
  obtain ⟨B, hB⟩ : ∃ B, B = 2 + x % 9 := ⟨_, rfl⟩
  rw [← hB]
  have hB2 : 2 ≤ B := by omega
  have hB10 : B ≤ 10 := by omega
  have hBx : (2 : Int) + (x : Int) % 9 = (B : Int) := by omega
  have HM := Lib.hid hm
  have HCS := Lib.hid hcs
  have HOK := Lib.hid hok
  clear hm hcs hok
  generalize hP : Played12 w B = Post
  have HP := Lib.hid hP
  clear hP hB
  have HM := Lib.hid (Mem.one w zeroM 35)
  go_enter Tryz.func5, Tryz.ntmps5
  go_upto_region 1 with fail
  rw [show (#[.slice none 0 0, .slice none 0 0, .slice none 0 0, .slice none 0 0, .slice none 0 0, .int .i64 0, .int .i64 0, .bool false, .slice none 0 0, .slice none 0 0] : Array Value) = zeroM from rfl]
  generalize w.alloc _ = w0 at *
  obtain ⟨q, hq⟩ : ∃ q, q = w.heap.size := ⟨_, rfl⟩
  rw [← hq] at HM ⊢
  have HQ := Lib.hid hq
  clear hq
  go_wp2_with fail
  refine (begun12_any B hB2 hB10 _).mono ?_
  rintro e w1 ⟨X, n, D, aL, cL, aF, cF, b, b', rfl, hma, hn, hmg, hal, hbo, hob, hfb, hdl, hdd, hX, hin, hb1⟩
  have HX : Hid (∀ k ∈ X.list, q + 1 ≤ k) := Lib.hid (fun k hk => Nat.le_trans (HM.out.glt 0 rfl) (hX k hk))
  have HS1 : Hid (Stand w w1 X n B D aL aF b b' 201000) := Lib.hid ⟨hma, hmg, fun k hk => (hin k hk).1, hal, .inr hbo, hob, hfb, hdl, fun k hk => by have := HX.out k hk; have := HQ.out; omega, (HM.out.later hb1).below⟩
  have HM1 := Lib.hid (HM.out.later hb1).r
  have HDs := Lib.hid hmg.dev.arr
  clear hma hmg hal hbo hob hfb hdl hdd hX hin hb1 HM
  unfold mgV vdev
  have HM2 := Lib.hid (HM1.out.alloc zeroM 35)
  have HS2 := Lib.hid (HS1.out.later (below_alloc w1 (.cells zeroM 35)))
  obtain ⟨p, hp⟩ : ∃ p, p = w1.heap.size := ⟨_, rfl⟩
  have HPl : Hid (p ∉ X.list ∧ w.heap.size ≤ p ∧ p ≠ q) := Lib.hid ⟨fun hm => by have := HS1.out.man.mem p hm; omega, by rw [hp]; exact HS1.out.below.size, by have := HM1.out.glt 0 rfl; omega⟩
  clear HM1 HS1
  go_upto_region 2 with (rw [show (#[.slice none 0 0, .slice none 0 0, .slice none 0 0, .slice none 0 0, .slice none 0 0, .int .i64 0, .int .i64 0, .bool false, .slice none 0 0, .slice none 0 0] : Array Value) = zeroM from rfl]; refine wpList_store_r aggMg HM2.out 1 rfl rfl rfl rfl rfl (mgA_size HDs.out.1 _ _) (mgA_size HDs.out.1 _ _).symm (mgA_one HDs.out.2 rfl rfl) ?_; intro w3 h3 ht3; have HM3 := Lib.hid h3; have HT3 := Lib.hid ht3; clear h3 ht3)
  rw [mgA_list] at HM3
  rw [← hp] at HM2 HM3 HT3 ⊢
  have HS3 := Lib.hid (HS2.out.box hB2 (HM2.out.rows _ (List.mem_of_getElem? (i := 1) rfl)) odd_zeroM HPl.out.1 HPl.out.2.1 HT3.out)
  clear hp HM2 HS2 HT3
  have HShow := Lib.hid (fun (W : World) (h : Stand w W X n B D aL aF b b' 201000) => shows12_any (m := 64 * B) h.man h.mg h.al (by rw [← h.al.dev.dirty]; exact h.dl) (by omega) cL cF)
  unfold mgV vdev at HShow
  go_wp2_with (refine wpList_load_arrw (D := mgA D (.slice aL B cL) (.slice aF B cF)) aggMg (fun i v hi => by rw [Nat.zero_add]; exact HM3.out.cell 1 i rfl hi) (mgA_size HDs.out.1 _ _) (by rfl) rfl rfl ?_)
  refine (HShow.out _ HS3.out).mono ?_
  rintro e w4 ⟨rfl, hb4⟩
  have HM4 := Lib.hid (HM3.out.later hb4)
  have HS4 := Lib.hid (HS3.out.later hb4)
  clear hb4 HM3 HS3 HShow HDs
  go_wp2_with fail
  go_loopw [12] (fun i wr => ∃ k : Nat, k ≤ m ∧ k ≤ 30 ∧ i = .int .i64 k ∧ ∃ (D : Array Value) (aL : Option Addr) (cL : Nat) (aF : Option Addr) (cF : Nat) (b b' : Bm), MemR w.heap.size wr [⟨q, 35, zeroM.toList, true⟩, ⟨p, 35, mgL D (.slice aL B cL) (.slice aF B cF), true⟩] ∧ Stand w wr X (n + k) B D aL aF b b' (201000 + 500000 * k)) (fun i _ => 30 - (intOf i).toNat)
  case atStart => exact ⟨0, Nat.zero_le _, Nat.zero_le _, rfl, D, aL, cL, aF, cF, b, b', HM4.out, HS4.out⟩
  case round =>
    clear HM4 HS4
    obtain ⟨k, hk, hk30, rfl, D, aL, cL, aF, cF, b, b', hmem, hst⟩ := hrel
    have HMk := Lib.hid hmem
    have HSk := Lib.hid hst
    have HDk := Lib.hid hst.mg.dev.arr
    have HDead := Lib.hid (ddead_any hst.man.dev)
    unfold vdev at HDead
    clear hmem hst
    by_cases h1 : k < m
    rotate_left
    · have h1' : decide ((k : Int) < (m : Int)) = false := by simp; omega
      have h1n : decide (k < m) = false := by simp; omega
      have hld : ∀ w', (∃ x : Later wr, w' = x.val) → ∀ i v, (mgA D (.slice aL B cL) (.slice aF B cF)).toList[i]? = some v → w'.cell? ⟨p, 0 + i, none⟩ = some v := by
        rintro _ ⟨x, rfl⟩ i v hi
        rw [Nat.zero_add]
        exact later_cell (HMk.out.cell 1 i rfl hi) x
      go_upto_region 11 with fail
      refine wp_region_seg (C := fun w' => ∃ x : Later (wr), w' = x.val) [.fl [0, 1, 2, 3, 4], .sq [5, 6] false] (by kernel_rfl) (by kernel_rfl) (by intro c a d v w h; cases d <;> exact h) ?_
      simp only [segs, picks, List.getElem?_cons_succ, List.getElem?_cons_zero]
      have hC1 := later_drew (wr)
      refine wpSeg_fl hC1 ?_
      go_big_quiet_step (fail)
      go_big_quiet_step (fail)
      refine wpQuiet_load_arr aggMg (mgA D (.slice aL B cL) (.slice aF B cF)) hld (mgA_size HDk.out.1 _ _) rfl rfl rfl ?_
      simp [go_sem]
      go_big_quiet_step (fail)
      go_big_quiet_step (fail)
      refine wpQuiet_nil ?_
      clear hld
      have HM7 := Lib.hid (HMk.out.later (later_below hC1))
      have HS7 := Lib.hid (HSk.out.later (later_below hC1))
      refine wpSeg_last ?_
      go_wp2_with (refine wpList_store_r aggMg HM7.out 0 rfl rfl rfl rfl rfl (mgA_size HDk.out.1 _ _) (mgA_size HDk.out.1 _ _).symm (mgA_one HDk.out.2 rfl rfl) ?_; intro w9 h9 ht9; have H9 := Lib.hid h9; have HT9 := Lib.hid ht9; clear h9 ht9)
      refine bodyPost_ret (results_cell4 (s := 4) (t1 := 5) (p := 6) (u := 7) rfl _ _ _ _ _ _ _ rfl (H9.out.exact 0 rfl) Tryz.underlying35 rfl (infoM _ (mgA_size HDk.out.1 _ _))) rfl ?_
      rw [← HP.out]
      exact ⟨X, n + k, D, aL, cL, aF, cF, b, b', rfl, by omega, (HS7.out.box hB2 (HM7.out.rows _ (List.mem_of_getElem? (i := 0) rfl)) odd_zeroM (fun hm => by have := HX.out q hm; omega) (by have := HQ.out; omega) HT9.out).mono (Nat.le_refl _) (by omega)⟩
    have h1' : (k : Int) < (m : Int) := by omega
    by_cases h2 : k < 30
    rotate_left
    · have h2' : decide ((k : Int) < 30) = false := by simp; omega
      have h2n : decide (k < 30) = false := by simp; omega
      have hld : ∀ w', (∃ x : Later wr, w' = x.val) → ∀ i v, (mgA D (.slice aL B cL) (.slice aF B cF)).toList[i]? = some v → w'.cell? ⟨p, 0 + i, none⟩ = some v := by
        rintro _ ⟨x, rfl⟩ i v hi
        rw [Nat.zero_add]
        exact later_cell (HMk.out.cell 1 i rfl hi) x
      go_upto_region 11 with fail
      refine wp_region_seg (C := fun w' => ∃ x : Later (wr), w' = x.val) [.fl [0, 1, 2, 3, 4], .sq [5, 6] false] (by kernel_rfl) (by kernel_rfl) (by intro c a d v w h; cases d <;> exact h) ?_
      simp only [segs, picks, List.getElem?_cons_succ, List.getElem?_cons_zero]
      have hC1 := later_drew (wr)
      refine wpSeg_fl hC1 ?_
      go_big_quiet_step (fail)
      go_big_quiet_step (fail)
      refine wpQuiet_load_arr aggMg (mgA D (.slice aL B cL) (.slice aF B cF)) hld (mgA_size HDk.out.1 _ _) rfl rfl rfl ?_
      simp [go_sem]
      go_big_quiet_step (fail)
      go_big_quiet_step (fail)
      refine wpQuiet_nil ?_
      clear hld
      have HM7 := Lib.hid (HMk.out.later (later_below hC1))
      have HS7 := Lib.hid (HSk.out.later (later_below hC1))
      refine wpSeg_last ?_
      go_wp2_with (refine wpList_store_r aggMg HM7.out 0 rfl rfl rfl rfl rfl (mgA_size HDk.out.1 _ _) (mgA_size HDk.out.1 _ _).symm (mgA_one HDk.out.2 rfl rfl) ?_; intro w9 h9 ht9; have H9 := Lib.hid h9; have HT9 := Lib.hid ht9; clear h9 ht9)
      refine bodyPost_ret (results_cell4 (s := 4) (t1 := 5) (p := 6) (u := 7) rfl _ _ _ _ _ _ _ rfl (H9.out.exact 0 rfl) Tryz.underlying35 rfl (infoM _ (mgA_size HDk.out.1 _ _))) rfl ?_
      rw [← HP.out]
      exact ⟨X, n + k, D, aL, cL, aF, cF, b, b', rfl, by omega, (HS7.out.box hB2 (HM7.out.rows _ (List.mem_of_getElem? (i := 0) rfl)) odd_zeroM (fun hm => by have := HX.out q hm; omega) (by have := HQ.out; omega) HT9.out).mono (Nat.le_refl _) (by omega)⟩
    have h2' : (k : Int) < 30 := by omega
    rcases Bool.eq_false_or_eq_true b.dev.dead with hd | hd
    · rw [hd] at HDead
      go_wp2_with fail
      refine HDead.out.mono ?_
      rintro e w1' ⟨rfl, rfl⟩
      clear HDead
      have hld : ∀ w', (∃ x : Later wr, w' = x.val) → ∀ i v, (mgA D (.slice aL B cL) (.slice aF B cF)).toList[i]? = some v → w'.cell? ⟨p, 0 + i, none⟩ = some v := by
        rintro _ ⟨x, rfl⟩ i v hi
        rw [Nat.zero_add]
        exact later_cell (HMk.out.cell 1 i rfl hi) x
      go_upto_region 11 with fail
      refine wp_region_seg (C := fun w' => ∃ x : Later (wr), w' = x.val) [.fl [0, 1, 2, 3, 4], .sq [5, 6] false] (by kernel_rfl) (by kernel_rfl) (by intro c a d v w h; cases d <;> exact h) ?_
      simp only [segs, picks, List.getElem?_cons_succ, List.getElem?_cons_zero]
      have hC1 := later_drew (wr)
      refine wpSeg_fl hC1 ?_
      go_big_quiet_step (fail)
      go_big_quiet_step (fail)
      refine wpQuiet_load_arr aggMg (mgA D (.slice aL B cL) (.slice aF B cF)) hld (mgA_size HDk.out.1 _ _) rfl rfl rfl ?_
      simp [go_sem]
      go_big_quiet_step (fail)
      go_big_quiet_step (fail)
      refine wpQuiet_nil ?_
      clear hld
      have HM7 := Lib.hid (HMk.out.later (later_below hC1))
      have HS7 := Lib.hid (HSk.out.later (later_below hC1))
      refine wpSeg_last ?_
      go_wp2_with (refine wpList_store_r aggMg HM7.out 0 rfl rfl rfl rfl rfl (mgA_size HDk.out.1 _ _) (mgA_size HDk.out.1 _ _).symm (mgA_one HDk.out.2 rfl rfl) ?_; intro w9 h9 ht9; have H9 := Lib.hid h9; have HT9 := Lib.hid ht9; clear h9 ht9)
      refine bodyPost_ret (results_cell4 (s := 4) (t1 := 5) (p := 6) (u := 7) rfl _ _ _ _ _ _ _ rfl (H9.out.exact 0 rfl) Tryz.underlying35 rfl (infoM _ (mgA_size HDk.out.1 _ _))) rfl ?_
      rw [← HP.out]
      exact ⟨X, n + k, D, aL, cL, aF, cF, b, b', rfl, by omega, (HS7.out.box hB2 (HM7.out.rows _ (List.mem_of_getElem? (i := 0) rfl)) odd_zeroM (fun hm => by have := HX.out q hm; omega) (by have := HQ.out; omega) HT9.out).mono (Nat.le_refl _) (by omega)⟩
    rw [hd] at HDead
    go_wp2_with fail
    refine HDead.out.mono ?_
    rintro e w1' ⟨rfl, rfl⟩
    clear HDead
    have hkl : k < l.length := by rw [HM.out]; exact h1
    have HSz : Hid (w.heap.size ≤ wr.heap.size) := Lib.hid HSk.out.below.size
    have HOd := Lib.hid HSk.out.mg.dev.odd.2
    obtain ⟨b1, o1, rfl, hbl, hcell⟩ := recs_cells Op2.len (by decide) (⟨0, 0⟩ : Op2) (HCS.out.below HSk.out.below (Nat.le_refl _)) hkl
    obtain ⟨b1', o1', he1, hbw, _⟩ := recs_cells Op2.len (by decide) (⟨0, 0⟩ : Op2) HCS.out hkl
    cases he1
    have hbF : b1 ∉ X.hot := fun hm => by have := HX.out b1 (MF.hot_sub hm); have := HQ.out; omega
    have hook := HOK.out (l.getD k ⟨0, 0⟩) (by rw [List.getD_eq_getElem?_getD, List.getElem?_eq_getElem hkl]; exact List.getElem_mem _)
    generalize l.getD k ⟨0, 0⟩ = o at *
    obtain ⟨oa, ob⟩ := o
    obtain ⟨g1, g2⟩ := hook
    dsimp only at g1 g2
    have e0 : wr.cell? ⟨b1, o1 + k * 2, none⟩ = some (.int .i64 oa) := hcell 0 _ rfl
    have e1 : wr.cell? ⟨b1, o1 + k * 2 + 1, none⟩ = some (.int .i64 ob) := hcell 1 _ rfl
    clear hcell hkl
    have HDo := Lib.hid (fun (W : World) (h : Stand w W X (n + k) B D aL aF b b' (201000 + 500000 * k)) => do12_stand h hd hB2 hB10 (by omega) (by omega) cL cF oa ob g2)
    obtain ⟨c, hc⟩ : ∃ c, c = do12 b oa ob := ⟨_, rfl⟩
    obtain ⟨c', hc'⟩ : ∃ c', c' = do12 b' oa ob := ⟨_, rfl⟩
    rw [← hc, ← hc'] at HDo
    have HShow := Lib.hid (fun (W : World) (D : Array Value) (aL : Option Addr) (cL : Nat) (aF : Option Addr) (cF : Nat) (h : Stand w W X (n + k + 1) B D aL aF c c' (201000 + 500000 * k + 500000)) => shows12_any (m := 64 * B) h.man h.mg h.al (by rw [← h.al.dev.dirty]; exact h.dl) (by omega) cL cF)
    unfold mgV vdev at HShow
    unfold mgV vdev at HDo
    clear hc hc' g1 g2
    have HpX : Hid (p ∉ X.hot ∧ q ∉ X.hot) := Lib.hid ⟨fun hm => HPl.out.1 (MF.hot_sub hm), fun hm => by have := HX.out q (MF.hot_sub hm); omega⟩
    have HC0 : ∃ x : Near X.hot wr, wr.drew = x.val := near_of (Touch.ofBelow (later_below (later_drew wr)))
    have hld : ∀ w', (∃ x : Near X.hot wr, w' = x.val) → ∀ i v, (mgA D (.slice aL B cL) (.slice aF B cF)).toList[i]? = some v → w'.cell? ⟨p, 0 + i, none⟩ = some v := by
      rintro _ ⟨x, rfl⟩ i v hi
      rw [Nat.zero_add]
      exact near_cell (HMk.out.cell 1 i rfl hi) HpX.out.1 x
    go_upto_region 7 with fail
    have t0 := fun x => near_cell (L := X.hot) e0 hbF x
    have t1 := fun x => near_cell (L := X.hot) e1 hbF x
    clear e0 e1
    refine wp_region_tr (C := fun w' => ∃ x : Near X.hot wr, w' = x.val) (.fl [0, 1, 2, 3, 4, 5, 6] (.br 7 false (.pu [8, 9, 10] (.sq [11] true (.sq [12, 13] false (.nil)))) 11 true (.sq [7, 8] false (.pu [9, 10] (.sq [12, 13] false (.nil)))))) (by kernel_rfl) (by kernel_rfl) (by intro c a d v w h; cases d <;> exact h) ?_
    simp only [trO, picks, List.getElem?_cons_succ, List.getElem?_cons_zero]
    refine wpTr_fl HC0 ?_
    go_big_quiet_step (fail)
    go_big_quiet_step (fail)
    refine wpQuiet_load_arr aggMg (mgA D (.slice aL B cL) (.slice aF B cF)) hld (mgA_size HDk.out.1 _ _) rfl rfl rfl ?_
    simp [go_sem]
    repeat (first | go_big_quiet_step (fail) | quiet_step (fail))
    refine wpQuiet_nil ?_
    clear hld t0 t1
    have HB0 := Lib.hid (later_below (later_drew wr))
    have HS0 := Lib.hid (HSk.out.later HB0.out)
    have HM0 := Lib.hid (HMk.out.later HB0.out)
    clear HMk HSk
    generalize wr.drew = W at *
    refine wpTr_br ?_ ?_
    · refine wpTr_sq (fun K hK => ?_)
      go_wp2_with fail
      refine (HDo.out W HS0.out).mono ?_
      rintro e w4 ⟨D1, aL1, cL1, aF1, cF1, rfl, hs1, ht1⟩
      have HS1 := Lib.hid hs1
      have HT1 := Lib.hid ht1
      have HD1 := Lib.hid hs1.mg.dev.arr
      clear hs1 ht1
      go_wp2_with fail
      refine hK _ _ (fun h => nomatch h) ?_
      clear hK K
      refine wpTr_pu ?_
      repeat (first | go_big_quiet_step (fail) | quiet_step (fail))
      refine wpQuiet_nil ?_
      have HM1 := Lib.hid (HM0.out.apart HT1.out (by intro x hx; simp only [List.mem_cons, List.not_mem_nil, or_false] at hx; rcases hx with rfl | rfl; exact HpX.out.2; exact HpX.out.1))
      have HM2 := Lib.hid (HM1.out.alloc zeroM 35)
      have HC1 : ∃ x : Near X.hot wr, w4.alloc (.cells zeroM 35) = x.val := near_of ((Touch.ofBelow HB0.out).trans (HT1.out.later (below_alloc w4 _)))
      have HS2 := Lib.hid (HS1.out.later (below_alloc w4 (.cells zeroM 35)))
      have HnF : Hid (w4.heap.size ∉ X.list) := Lib.hid (fun hm => by have := HS1.out.man.mem _ hm; omega)
      have HnG : Hid (w.heap.size ≤ w4.heap.size) := Lib.hid HS1.out.below.size
      have HShow1 := Lib.hid (fun W h => HShow.out W D1 aL1 cL1 aF1 cF1 h)
      clear HS1 HM1 HShow
      unfold zeroM at HC1
      refine wpTr_sq (fun K hK => ?_)
      go_wp2_with fail
      refine hK _ _ (fun _ => HC1) ?_
      clear hK K HC1 HC0
      rw [show (#[.slice none 0 0, .slice none 0 0, .slice none 0 0, .slice none 0 0, .slice none 0 0, .int .i64 0, .int .i64 0, .bool false, .slice none 0 0, .slice none 0 0] : Array Value) = zeroM from rfl]
      generalize w4.heap.size = nn at *
      generalize w4.alloc _ = w5 at *
      refine wpTr_last ?_
      go_wp2_with (first | (refine wpList_load_arrw (D := mgA D1 (.slice aL1 B cL1) (.slice aF1 B cF1)) aggMg (fun i v hi => by rw [Nat.zero_add]; exact HM5.out.cell 2 i rfl hi) (mgA_size HD1.out.1 _ _) (by rfl) rfl rfl ?_) | (refine wpList_store_r aggMg HM2.out 2 rfl rfl rfl rfl rfl (mgA_size HD1.out.1 _ _) (mgA_size HD1.out.1 _ _).symm (mgA_one HD1.out.2 rfl rfl) ?_; intro w6 h5 ht5; have HM5 := Lib.hid h5; have HT5 := Lib.hid ht5; rw [mgA_list] at HM5; clear h5 ht5))
      have HS5 := Lib.hid (HS2.out.box hB2 (HM2.out.rows _ (List.mem_of_getElem? (i := 2) rfl)) odd_zeroM HnF.out HnG.out HT5.out)
      clear HM2 HS2 HT5
      refine (HShow1.out _ HS5.out).mono ?_
      rintro e w7 ⟨rfl, hb7⟩
      have HM6 := Lib.hid (HM5.out.later hb7)
      have HS6 := Lib.hid (HS5.out.later hb7)
      clear hb7 HM5 HS5 HShow1
      go_upto_region 10 with fail
      go_wp2_with (first | (refine wpList_load_boxr (D := mgA D1 (.slice aL1 B cL1) (.slice aF1 B cF1)) aggMg HM6.out 2 rfl (mgA_size HD1.out.1 _ _) rfl rfl rfl ?_) | (refine wpList_store_r aggMg HM6.out 1 rfl rfl rfl rfl rfl (mgA_size HD1.out.1 _ _) ((mgL_len HDk.out.1 _ _).trans (mgA_size HD1.out.1 _ _).symm) (mgA_one HD1.out.2 rfl rfl) ?_; intro w8 h8 ht8; have HM8 := Lib.hid h8; have HT8 := Lib.hid ht8; clear h8 ht8))
      rw [mgA_list] at HM8
      refine ⟨⟨k + 1, by omega, by omega, vint (by omega), D1, aL1, cL1, aF1, cF1, _, _, MemR.front (L := [_, _]) (E := [_]) HM8.out, ((HS6.out.box hB2 (HM6.out.rows _ (List.mem_of_getElem? (i := 1) rfl)) (HOd.out _ _ _ _ _ _) HPl.out.1 HPl.out.2.1 HT8.out).mono (by omega) (by omega))⟩, by simp [intOf]; omega⟩
    · have HM2a := Lib.hid (HM0.out.alloc zeroM 35)
      have HCa : ∃ x : Near X.hot wr, W.alloc (.cells zeroM 35) = x.val := near_of ((Touch.ofBelow HB0.out).later (below_alloc W _))
      have HSa := Lib.hid (HS0.out.later (below_alloc W (.cells zeroM 35)))
      have HnF : Hid (W.heap.size ∉ X.list) := Lib.hid (fun hm => by have := HS0.out.man.mem _ hm; omega)
      have HnG : Hid (w.heap.size ≤ W.heap.size) := Lib.hid HS0.out.below.size
      clear HS0 HM0
      unfold zeroM at HCa
      refine wpTr_sq (fun K hK => ?_)
      go_wp2_with fail
      refine hK _ _ (fun _ => HCa) ?_
      clear hK K HCa HC0
      rw [show (#[.slice none 0 0, .slice none 0 0, .slice none 0 0, .slice none 0 0, .slice none 0 0, .int .i64 0, .int .i64 0, .bool false, .slice none 0 0, .slice none 0 0] : Array Value) = zeroM from rfl]
      generalize W.heap.size = nn at *
      generalize W.alloc _ = Wa at *
      refine wpTr_sq (fun K hK => ?_)
      go_wp2_with fail
      refine (HDo.out Wa HSa.out).mono ?_
      rintro e w4 ⟨D1, aL1, cL1, aF1, cF1, rfl, hs1, ht1⟩
      have HS2 := Lib.hid hs1
      have HT1 := Lib.hid ht1
      have HD1 := Lib.hid hs1.mg.dev.arr
      clear hs1 ht1
      go_wp2_with fail
      refine hK _ _ (fun h => nomatch h) ?_
      clear hK K
      refine wpTr_pu ?_
      repeat (first | go_big_quiet_step (fail) | quiet_step (fail))
      refine wpQuiet_nil ?_
      have HM2 := Lib.hid (HM2a.out.apart HT1.out (by
        intro x hx
        have hx : x.g = q ∨ x.g = p ∨ x.g = nn := by
          simp only [List.mem_append, List.mem_cons, List.not_mem_nil, or_false] at hx
          rcases hx with (rfl | rfl) | rfl
          · exact .inl rfl
          · exact .inr (.inl rfl)
          · exact .inr (.inr rfl)
        rcases hx with h | h | h
        · rw [h]; exact HpX.out.2
        · rw [h]; exact HpX.out.1
        · rw [h]; exact fun hm => HnF.out (MF.hot_sub hm)))
      have HShow1 := Lib.hid (fun W h => HShow.out W D1 aL1 cL1 aF1 cF1 h)
      clear HM2a HShow HSa
      refine wpTr_last ?_
      go_wp2_with (first | (refine wpList_load_arrw (D := mgA D1 (.slice aL1 B cL1) (.slice aF1 B cF1)) aggMg (fun i v hi => by rw [Nat.zero_add]; exact HM5.out.cell 2 i rfl hi) (mgA_size HD1.out.1 _ _) (by rfl) rfl rfl ?_) | (refine wpList_store_r aggMg HM2.out 2 rfl rfl rfl rfl rfl (mgA_size HD1.out.1 _ _) (mgA_size HD1.out.1 _ _).symm (mgA_one HD1.out.2 rfl rfl) ?_; intro w6 h5 ht5; have HM5 := Lib.hid h5; have HT5 := Lib.hid ht5; rw [mgA_list] at HM5; clear h5 ht5))
      have HS5 := Lib.hid (HS2.out.box hB2 (HM2.out.rows _ (List.mem_of_getElem? (i := 2) rfl)) odd_zeroM HnF.out HnG.out HT5.out)
      clear HM2 HS2 HT5
      refine (HShow1.out _ HS5.out).mono ?_
      rintro e w7 ⟨rfl, hb7⟩
      have HM6 := Lib.hid (HM5.out.later hb7)
      have HS6 := Lib.hid (HS5.out.later hb7)
      clear hb7 HM5 HS5 HShow1
      go_upto_region 10 with fail
      go_wp2_with (first | (refine wpList_load_boxr (D := mgA D1 (.slice aL1 B cL1) (.slice aF1 B cF1)) aggMg HM6.out 2 rfl (mgA_size HD1.out.1 _ _) rfl rfl rfl ?_) | (refine wpList_store_r aggMg HM6.out 1 rfl rfl rfl rfl rfl (mgA_size HD1.out.1 _ _) ((mgL_len HDk.out.1 _ _).trans (mgA_size HD1.out.1 _ _).symm) (mgA_one HD1.out.2 rfl rfl) ?_; intro w8 h8 ht8; have HM8 := Lib.hid h8; have HT8 := Lib.hid ht8; clear h8 ht8))
      rw [mgA_list] at HM8
      refine ⟨⟨k + 1, by omega, by omega, vint (by omega), D1, aL1, cL1, aF1, cF1, _, _, MemR.front (L := [_, _]) (E := [_]) HM8.out, ((HS6.out.box hB2 (HM6.out.rows _ (List.mem_of_getElem? (i := 1) rfl)) (HOd.out _ _ _ _ _ _) HPl.out.1 HPl.out.2.1 HT8.out).mono (by omega) (by omega))⟩, by simp [intOf]; omega⟩

end Go.Proofs.YtebnelihlgdciaaGreat

/- law12: awake. -/
namespace Go.Proofs.YtebnelihlgdciaaGreat
open Go.RowKit
set_option linter.unusedVariables false

theorem putTo_live {S : Dev} (h : S.live) (L : List Hd) (b : Nat) (l : List Hd) : ∀ i, (putTo S L b l i).dev.live
  | 0 => h
  | i + 1 => by
    have hst : putTo S L b l (i + 1) = putStep (putTo S L b l i) (b + i) (l.getD i default) := rfl
    rw [hst]
    unfold putStep
    split
    · exact putTo_live h L b l i
    · exact (putTo_live h L b l i).store _ _
theorem putAll_live {S : Dev} (h : S.live) (hS : S.inv) {L : List Hd} {k : Nat} {l : List Hd} (hk1 : 1 ≤ k) (hkB : k + l.length ≤ L.length) (hr : allRight l l.length) (hf : 256 + L.length ≤ S.cache.length) :
    (putAll S L (k : Int) l).err = 0 ∧ (putAll S L (k : Int) l).dev.live := by
  have hl : (putAll S L (k : Int) l).dev.live := by
    rw [putAll_in S hk1 hkB hr]
    by_cases hl : l.length = 0
    · rw [if_pos hl]; exact h
    · rw [if_neg hl]
      unfold putIn
      by_cases c : (putTo S L k l l.length).err ≠ 0
      · rw [if_pos c]; exact putTo_live h L k l _
      · rw [if_neg c]
        have e : (256 : Int) + (k : Int) = ((256 + k : Nat) : Int) := by omega
        rw [e]
        exact (putTo_live h L k l _).persist_live _ _ (by omega) (putTo_inv hS L k l _).wf.lenD (by rw [putTo_clen]; omega)
  refine ⟨?_, hl⟩
  rcases putAll_dead hS hk1 hkB hr hf with h1 | h1
  · exact h1
  · rw [hl.1] at h1; cases h1

theorem five {b : Bm} (h : BmOk 5 b) (hf : ∀ q, 1 ≤ q → q < 5 → fb b.free q = true) : b.free = [false, true, true, true, true] := by
  have h0 : fb b.free 0 = false := by
    cases e : fb b.free 0
    · rfl
    · have := ((h.free 0).1 e).1; omega
  have h1 := hf 1 (by omega) (by omega)
  have h2 := hf 2 (by omega) (by omega)
  have h3 := hf 3 (by omega) (by omega)
  have h4 := hf 4 (by omega) (by omega)
  have hl := h.lenF
  generalize b.free = l at *
  match l, hl with
  | [x0, x1, x2, x3, x4], _ =>
    unfold fb at h0 h1 h2 h3 h4
    simp at h0 h1 h2 h3 h4
    simp [*]

theorem awake_large {b : Bm} (h : BmOk 5 b) (hv : b.dev.live) (hf : ∀ q, 1 ≤ q → q < 5 → fb b.free q = true) :
    (b.large 2).b = 1 ∧ (b.large 2).err = 0 ∧ (b.large 2).bm.dev.live ∧ (b.large 2).bm.dev.inv ∧ (b.large 2).bm.list.length = 5 ∧ 256 + 5 ≤ (b.large 2).bm.dev.cache.length ∧ (b.large 2).bm.free = [false, false, false, true, true] := by
  have ht : takeR b.free 2 = ([false, false, false, true, true], ((1 : Nat) : Int), 0) := by rw [five h hf]; decide
  unfold Bm.large
  rw [if_neg (by omega), ht]
  have hr1 : allRight ((hdRun 2 2).drop 1) ((hdRun 2 2).drop 1).length := by decide
  have hr2 : allRight [(⟨2, 0, 2⟩ : Hd)] [(⟨2, 0, 2⟩ : Hd)].length := by decide
  have hL := h.lenL
  have hF := h.clean.fits
  have hI := h.clean.inv
  obtain ⟨e1, v1⟩ := putAll_live hv hI (L := b.list) (k := 2) (l := (hdRun 2 2).drop 1) (by omega) (by rw [hL]; decide) hr1 (by omega)
  have i1 := putAll_inv hI b.list ((2 : Nat) : Int) ((hdRun 2 2).drop 1)
  have l1 := putAll_len b.dev b.list ((2 : Nat) : Int) ((hdRun 2 2).drop 1)
  have c1 := putAll_clen hI b.list ((2 : Nat) : Int) ((hdRun 2 2).drop 1)
  have eq1 : putAll b.dev b.list ((1 : Nat) + 1 : Int) ((hdRun (2 : Int).toNat (2 : Int).toNat).drop 1) = putAll b.dev b.list ((2 : Nat) : Int) ((hdRun 2 2).drop 1) := rfl
  dsimp only
  rw [eq1]
  generalize putAll b.dev b.list ((2 : Nat) : Int) ((hdRun 2 2).drop 1) = r1 at *
  rw [if_neg (by decide), if_neg (by rw [e1]; decide)]
  obtain ⟨e2, v2⟩ := putAll_live v1 i1 (L := r1.list) (k := 1) (l := [⟨2, 0, 2⟩]) (by omega) (by rw [l1, hL]; decide) hr2 (by omega)
  have i2 := putAll_inv i1 r1.list ((1 : Nat) : Int) [⟨2, 0, 2⟩]
  have l2 := putAll_len r1.dev r1.list ((1 : Nat) : Int) [⟨2, 0, 2⟩]
  have c2 := putAll_clen i1 r1.list ((1 : Nat) : Int) [⟨2, 0, 2⟩]
  dsimp only
  refine ⟨by rw [if_pos e2]; rfl, e2, v2, i2, by rw [l2, l1, hL], by rw [c2, c1]; exact hF, rfl⟩

theorem awake_small {b : Bm} (hv : b.dev.live) (hi : b.dev.inv) (hL : b.list.length = 5) (hF : 256 + 5 ≤ b.dev.cache.length) (hf : b.free = [false, false, false, true, true]) : (b.small 0).b = 3 ∧ (b.small 0).err = 0 := by
  have ht : takeR b.free 1 = ([false, false, false, false, true], ((3 : Nat) : Int), 0) := by rw [hf]; decide
  unfold Bm.small
  rw [if_neg (by decide), ht, if_neg (by decide)]
  have hr2 : allRight [(⟨1, 0, 0⟩ : Hd)] [(⟨1, 0, 0⟩ : Hd)].length := by decide
  obtain ⟨e2, v2⟩ := putAll_live hv hi (L := b.list) (k := 3) (l := [⟨1, 0, 0⟩]) (by omega) (by rw [hL]; decide) hr2 (by omega)
  dsimp only
  exact ⟨by rw [if_pos e2]; rfl, e2⟩

set_option maxHeartbeats 4000000 in
set_option maxRecDepth 100000 in
theorem awake12_any (w : World) : Calls Tryz.prog 4 #[] w fun e w' => e = .returned (.bool true) ∧ Below w.heap.size w w' := by
  go_enter Tryz.func4, Tryz.ntmps4
  go_wp2_with fail
  refine (begun12_any 5 (by decide) (by decide) _).mono ?_
  rintro e w1 ⟨X, n, D, aL, cL, aF, cF, b, b', rfl, hma, hn, hmg, hal, hbo, hob, hfb, hdl, hdd, hX, hin, hb1⟩
  obtain ⟨q1, q2, q3, q4, q5, q6, q7⟩ := awake_large hbo hdd.1 hdd.2
  have HX := Lib.hid hX
  have HB1 := Lib.hid hb1
  have HDs := Lib.hid hmg.dev.arr
  have HXm := Lib.hid hma.mem
  have HLg := Lib.hid (fun (W : World) (h : ManAt W X n 5 b) => blarge_any h (by decide) (by omega) (N := 201000) (by omega) hob hbo.clean.inv 2)
  have HM1 := Lib.hid ((Mem.one w1 zeroM 35))
  have HA1 := Lib.hid (hma.below HM1.out.below)
  have hok : (b.large 2).bm.dev.ok 701000 := do12_grows grows_ok hbo.clean.inv hob (by rw [hbo.lenL]; decide) 1 2 (by decide)
  have HSm := Lib.hid (fun (W : World) (h : ManAt W X (n + 1) 5 (b.large 2).bm) => bsmall_any h (by decide) (by omega) (N := 701000) (by omega) hok 0)
  have HQ := Lib.hid (awake_small q3 q4 q5 q6 q7)
  have HQ1 := Lib.hid (And.intro q1 q2)
  clear hma hn hmg hal hbo hob hfb hdl hdd hX hin hb1 q1 q2 q3 q4 q5 q6 q7 hok
  unfold mgV vdev
  go_upto_region 2 with (rw [show (#[.slice none 0 0, .slice none 0 0, .slice none 0 0, .slice none 0 0, .slice none 0 0, .int .i64 0, .int .i64 0, .bool false, .slice none 0 0, .slice none 0 0] : Array Value) = zeroM from rfl]; refine wpList_store_mem aggMg HM1.out 0 rfl rfl rfl rfl rfl (mgA_size HDs.out.1 _ _) (mgA_size HDs.out.1 _ _).symm (mgA_one HDs.out.2 rfl rfl) ?_; intro w3 h3 ht3; have HM3 := Lib.hid h3; have HT3 := Lib.hid ht3; clear h3 ht3)
  have HA3 := Lib.hid (HA1.out.keep (fun k hk => HT3.out.block k (HA1.out.mem k hk) (by have := HXm.out k hk; simp; omega)))
  go_wp2_with fail
  refine (HLg.out _ HA3.out).mono ?_
  rintro e w4 ⟨rfl, ha4, ht4⟩
  rw [HQ1.out.1, HQ1.out.2]
  have HA4 := Lib.hid ha4
  have HT4 := Lib.hid ht4
  clear ha4 ht4
  go_wp2_with fail
  refine (HSm.out _ HA4.out).mono ?_
  rintro e w5 ⟨rfl, ha5, ht5⟩
  rw [HQ.out.1, HQ.out.2]
  have HT5 := Lib.hid ht5
  clear ha5 ht5
  go_wp2_with fail
  go_ret
  have hB3 := HB1.out.trans (HM3.out.below.mono HB1.out.size)
  exact ⟨rfl, below_touched (below_touched hB3 HT4.out (fun k hk => HX.out k (MF.hot_sub hk)) (Nat.le_refl _)) HT5.out (fun k hk => HX.out k (MF.hot_sub hk)) (Nat.le_refl _)⟩

end Go.Proofs.YtebnelihlgdciaaGreat

/- Index.List: where its list lies. (XIl's walk again.) -/
namespace Go.Proofs.YtebnelihlgdciaaGreat
open Go.RowKit
set_option linter.unusedVariables false

def SpNew (w : World) (l : List Sp) : Ending → World → Prop := fun e w' => ∃ (a : Option Addr) (c : Nat), e = .returned (.slice a l.length c) ∧ Cells w' a (spCs l) ∧ Below w.heap.size w w' ∧ (l = [] ∨ ∃ g, a = some ⟨g, 0, none⟩ ∧ w.heap.size ≤ g)

set_option maxHeartbeats 2000000 in
theorem ilist_new {w : World} {T : Tri} {n : Nat} {l : List Bool} (h : IxAt w T n l) (hl : l.length ≤ 100000000000) :
    Calls Tryz.prog 17 #[.pointer (some ⟨T.p, 0, none⟩)] w (SpNew w (runsOf l)) := by
  have HLt := Lib.hid (show T.s < w.heap.size from h.mem T.s (by simp [Tri.list]))
  obtain ⟨M, E, hA, hMO, _⟩ := h
  have e0 : w.cell? ⟨T.p, 0, none⟩ = some (.map (some T.s)) := hA.row.cell rfl
  have HS := Lib.hid hA.byS
  have HMO := Lib.hid hMO
  have HRl := Lib.hid (runs_len (fb l) l.length)
  have HL := Lib.hid hl
  clear hA hMO hl
  obtain ⟨B, hB⟩ : ∃ B, B = w.heap.size + 1 := ⟨_, rfl⟩
  have HBB := Lib.hid hB
  clear hB
  generalize hPo : SpNew w (runsOf l) = Post
  have HPo := Lib.hid hPo
  clear hPo
  go_enter Tryz.func17, Tryz.ntmps17
  go_wp2_with (at_range; refine wpList_irange rfl _ 105 rfl 3 Tryz.underlying3 Tryz.underlying105 T.s n M rfl HS.out ?_; intro w0 cnt0 hr0 hg0 hs0)
  have HR0 := Lib.hid hr0
  have HB0 := Lib.hid (grown_none hg0)
  have HS0 := Lib.hid hs0
  clear hr0 hg0 hs0
  go_frame
  go_loopw [3] (fun v wr => ∃ (L : Int → Bool) (cnt : Nat) (done rest : List Sp), wr.ownsRow B 56 2 v done.length (spCs done) ∧ B ≤ wr.heap.size ∧ IRange Tryz.prog 3 wr T.s w.heap.size n M L cnt ∧ Below w.heap.size w wr ∧ Part l M L done rest) (fun _ wr => wr.rangeLeft T.s w.heap.size)
  case atStart => exact ⟨_, _, [], runsOf l, ⟨rfl, .inl ⟨rfl, rfl⟩⟩, by rw [HS0.out, HBB.out]; exact Nat.le_refl _, HR0.out, HB0.out, Part.start HMO.out⟩
  case round =>
    obtain ⟨L, cnt, done, rest, ho, hbs, hr, hb, hp⟩ := hrel
    have HR := Lib.hid hr
    have HB := Lib.hid hb
    have HO := Lib.hid ho
    have HP := Lib.hid hp
    have HBs := Lib.hid hbs
    obtain ⟨a1, c1, rfl, hc1, hm1⟩ := owned_form ho
    clear hr hb hp ho hbs
    go_wp2_with (at_next; refine wpList_inext rfl _ rfl 3 Tryz.underlying3 T.s w.heap.size n M _ _ rfl HR.out ?_ ?_)
    · intro h0
      have hperm := HP.out.finish h0
      have hlen : done.length = (runsOf l).length := hperm.length_eq
      have hbd : ∀ x ∈ done, x.1 ≤ 1000000000000 := fun x hx => by
        have h1 := ((runsOf_is l).mem x.1 x.2).1 (hperm.mem_iff.1 hx)
        have := runEnds h1
        have := HL.out
        omega
      obtain ⟨xs, hxs⟩ := as_spb done hbd
      have hxl : xs.length = done.length := by rw [← hxs]; simp
      have hdl : done.length ≤ 1000000000000 := by rw [hlen]; have := HRl.out; have := HL.out; unfold runsOf; omega
      have HPm := Lib.hid hperm
      have HXs := Lib.hid hxs
      have HLen := Lib.hid hlen
      have HXl := Lib.hid hxl
      clear h0 hperm hlen hbd hxs hxl
      by_cases hd0 : done.length = 0
      · have hnil : done = [] := List.eq_nil_of_length_eq_zero hd0
        have hrn : runsOf l = [] := List.eq_nil_of_length_eq_zero (by rw [← HLen.out]; exact hd0)
        have HRn := Lib.hid hrn
        subst hnil
        clear hrn hd0
        go_wp2_with (go_at_call 51; refine (show Calls Tryz.prog 51 _ _ _ from AnyF.slices_SortFunc_none (P := Tryz.prog) (ρ := Tryz.sortSp_ren) { Tryz.sortSp with } a1 c1 _ _).mono ?_; rintro e w' ⟨rfl, rfl⟩)
        rw [← HPo.out, HRn.out]
        exact ⟨a1, c1, rfl, .inl rfl, HB.out, .inl rfl⟩
      · obtain ⟨g, c2, he, _, _, hg1, hg2⟩ := owned_some HO.out (by omega)
        cases he
        have HRow := Lib.hid (show RowAt wr g 56 (spCs (xs.map (·.1))) by rw [HXs.out]; exact owned_row HO.out)
        go_wp2_with (go_at_call 51; refine (sort_any g c1 xs done.length HXl.out _ HRow.out hdl).mono ?_; rintro e w' ⟨rfl, ys, hyp, hys, hyc, hyg⟩; have HYp := Lib.hid hyp; have HYs := Lib.hid hys; have HYc := Lib.hid hyc; have HYg := Lib.hid hyg; clear hyp hys hyc hyg)
        rw [← HPo.out]
        have he : ys.map (·.1) = runsOf l := sorted_runs (done := done) (by rw [← HXs.out]; exact HYp.out.map _) HPm.out HYs.out
        refine ⟨some ⟨g, 0, none⟩, c1, by rw [← HLen.out]; rfl, ?_, ?_, .inr ⟨g, rfl, by have := HBB.out; omega⟩⟩
        · rw [← he]; exact HYc.out
        · exact HB.out.trans (grown_one HYg.out (by have := HBB.out; omega) HB.out.size)
    · intro x c w1 cnt1 hwx hwc hL hMx hr1 hlt hg1 hs1 hen
      obtain ⟨s, k, rfl, rfl, _, hp1⟩ := HP.out.step HMO.out hL hMx
      have hP1 := Lib.hid hp1
      have HB1 : Hid (Below w.heap.size w w1) := Lib.hid (HB.out.trans (grown_one hg1 (Nat.le_refl _) HB.out.size))
      have hob : ∀ g, (Value.slice a1 done.length c1).ownBlock = some g → B ≤ g ∧ g < wr.heap.size := fun g hg => HO.out.lt g hg
      have hO1 := HO.out.kept hg1 (by
        cases hb : (Value.slice a1 done.length c1).ownBlock with
        | none => exact .inl rfl
        | some g => exact .inr (fun e => by have := (hob g hb).1; have := HBB.out; cases e; omega))
      have HO1 := Lib.hid hO1
      have HR1 := Lib.hid hr1
      have hdl : done.length < 1000000000000 := by
        have h1 := HP.out.perm.length_eq
        have := HRl.out
        have := HL.out
        unfold runsOf at h1
        simp at h1
        omega
      have HBs1 : Hid (B ≤ w1.heap.size) := Lib.hid (by have := HBs.out; omega)
      have HLt1 := Lib.hid hlt
      have HOb := Lib.hid hob
      have hone : Hid (∀ u ∈ (#[Value.int .i64 (s : Int), Value.int .i64 (k : Int)] : Array Value).toList, u.oneCell' = true) := Lib.hid (by intro u hu; simp at hu; rcases hu with rfl | rfl <;> rfl)
      clear hL hMx hr1 hlt hg1 hs1 hwx hwc hp1 hO1 hob
      go_wp2_with (at_builtin; refine wpList_append_new (us := #[.int .i64 (s : Int), .int .i64 (k : Int)]) elBsp HO1.out rfl hone.out hdl (by decide) HBs1.out rfl rfl rfl (by simp [Act.eval]) ?_; intro g6 c6 w6 ho6 hg6 hc6 hm6 hb6 hl6; have HO6 := Lib.hid ho6; have HG6 := Lib.hid hg6; clear ho6 hg6)
      have hrs : some T.s ≠ (Value.slice a1 done.length c1).ownBlock := fun e => by have := (HOb.out T.s e.symm).1; have := HBB.out; have := HLt.out; omega
      have hrr : some w.heap.size ≠ (Value.slice a1 done.length c1).ownBlock := fun e => by have := (HOb.out w.heap.size e.symm).1; have := HBB.out; omega
      have HR6 := Lib.hid (HR1.out.kept HG6.out hrs hrr)
      have HB6 : Hid (Below w.heap.size w w6) := Lib.hid (below_grownBy HB1.out HO1.out HG6.out (Nat.le_refl _) (by have := HBB.out; omega))
      have hz6 := HG6.out.size
      clear hrs hrr
      go_roundw
      case rel => exact ⟨_, _, done ++ [(s, k)], _, by rw [List.length_append, spCs_append]; exact HO6.out, Nat.le_trans HBs1.out hz6, HR6.out, HB6.out, hP1.out⟩
      case measure => rw [HR6.out.left_eq, HR.out.left_eq]; exact HLt1.out

end Go.Proofs.YtebnelihlgdciaaGreat

/- law12: BmanStays, plain. -/
namespace Go.Proofs.YtebnelihlgdciaaGreat
open Go.RowKit
set_option linter.unusedVariables false

theorem hds_at (f : Nat → Nat) {B q : Nat} (h : q < B) : (hds f B).getD q default = hdF f q := by
  unfold hds
  rw [List.getD_eq_getElem?_getD, List.getElem?_map, List.getElem?_range h]
  rfl
theorem crash_word (S : Dev) (cs : List Nat) (q : Nat) : devWord (S.crash cs) q = (S.crashW cs).getD (256 + q) 0 := by
  unfold devWord
  rw [show ((256 : Int) + (q : Int)) = ((256 + q : Nat) : Int) by omega, peek_in]
  rfl
/-- What a crash leaves of headers. -/
theorem stay_crash {m m' : Bm} {B : Nat} {T : Nat → Prop} (h : BmOk B m) (hs : Stay m m' B T) (cs : List Nat) :
    AllOk (devWord (m'.dev.crash cs)) B ∧ ∀ q, 1 ≤ q → q < B → ¬ T q → (hds (devWord (m'.dev.crash cs)) B).getD q default = m.list.getD q default := by
  refine ⟨fun q h1 h2 => ?_, fun q h1 h2 hT => ?_⟩
  · rw [crash_word]
    exact ((hs.2.2 q h1 h2).1).crash hs.1 cs
  · rw [hds_at _ h2]
    unfold hdF
    rw [if_neg (by omega), crash_word, (((hs.2.2 q h1 h2).2 hT).crash hs.1 cs), dec_enc _ _ _ _ (h.right q h2)]

/-- Does one of these spans hold it? -/
def hits (l : List Sp) (b : Nat) : Bool := l.any fun x => decide (x.1 ≤ b ∧ b < x.1 + x.2)
theorem hits_runs {l : List Bool} {b : Nat} (h : fb l b = true) : hits (runsOf l) b = true := by
  obtain ⟨s, n, hr, h1, h2⟩ := has_run (L := l.length) (fun x hx => fb_far l x hx) h
  unfold hits
  rw [List.any_eq_true]
  exact ⟨(s, n), ((runsOf_is l).mem s n).2 hr, by simp; omega⟩
theorem hits_take (l : List Sp) (b k : Nat) (hk : k < l.length) : hits (l.take (k + 1)) b = (hits (l.take k) b || decide ((l.getD k (0, 0)).1 ≤ b ∧ b < (l.getD k (0, 0)).1 + (l.getD k (0, 0)).2)) := by
  unfold hits
  rw [List.take_succ_eq_append_getElem hk, List.any_append]
  have : l.getD k (0, 0) = l[k] := by simp [hk]
  rw [this]
  simp

theorem recs_take {α : Type} {f : α → List Value} {n : Nat} (hf : ∀ x, (f x).length = n) (l : List α) (k : Nat) : (recs f l).take (k * n) = recs f (l.take k) := by
  by_cases hk : k ≤ l.length
  · have e : recs f l = recs f (l.take k) ++ recs f (l.drop k) := by rw [← recs_append, List.take_append_drop]
    rw [e, List.take_left']
    rw [recs_length hf, List.length_take, Nat.min_eq_left hk]
  · rw [List.take_of_length_le (by rw [recs_length hf]; exact Nat.mul_le_mul_right n (by omega)), List.take_of_length_le (by omega)]

theorem bruns_new {w : World} {X : MF} {n B : Nat} {m : Bm} (h : ManAt w X n B m) (hB : B ≤ 1000) :
    Calls Tryz.prog 8 #[.pointer (some ⟨X.m, 0, none⟩)] w (SpNew w (runsOf m.free)) := by
  have c1 := h.c1
  have HI := Lib.hid (ilist_new h.ix (by rw [h.lenF]; omega))
  clear h
  go_enter Tryz.func8, Tryz.ntmps8
  go_wp2_with fail
  refine HI.out.mono ?_
  rintro e w1 ⟨a, c, rfl, hc, hb, hl⟩
  have HC := Lib.hid hc
  have HB := Lib.hid hb
  have HL := Lib.hid hl
  clear hc hb hl
  go_wp2_with fail
  go_ret
  exact ⟨a, c, rfl, HC.out, HB.out, HL.out⟩

end Go.Proofs.YtebnelihlgdciaaGreat

/- law12: BmanStays. -/
namespace Go.Proofs.YtebnelihlgdciaaGreat
open Go.RowKit
set_option linter.unusedVariables false

theorem below_drawn {k : Nat} {w w' : World} (h : Below k w w') (q : Nat) : Below k w (w'.drewN q) := by
  exact below_drewN h q
theorem drawn2 (w : World) (p q : Nat) : ∃ r, (w.drewN p).drewN q = w.drewN r := ⟨p + q, by simp⟩
theorem aggOp2 : Agg Tryz.prog 26 #[.int .i64 0, .int .i64 0] := ⟨⟨_, Tryz.underlying26, rfl⟩, by kernel_rfl⟩
theorem two12 : ∀ zs : List Int, zs.length = 2 → Op2.cs ⟨zs.getD 0 0, zs.getD 1 0⟩ = zs.map (Value.int .i64) := fun zs h => by
  match zs, h with
  | [x, y], _ => rfl
theorem ok12 {o : Op2} (h : ∃ zs : List Int, o = ⟨zs.getD 0 0, zs.getD 1 0⟩ ∧ zs.length = 2 ∧ ∀ x ∈ zs, -9223372036854775808 ≤ x ∧ x ≤ 9223372036854775807) : ok64 o := by
  obtain ⟨zs, rfl, hl, hb⟩ := h
  match zs, hl with
  | [x, y], _ => exact ⟨hb x (by simp), hb y (by simp)⟩
theorem elOp2 : Elem Tryz.prog 22 26 (.agg #[.int .i64 0, .int .i64 0]) 2 16 := Elem.mk' Tryz.underlying22 (by kernel_rfl) rfl (by decide)

set_option maxHeartbeats 16000000 in
set_option maxRecDepth 100000 in
theorem bmanStays_any (x : Nat) (hx : x < 256) (a : Option Addr) (m cap : Nat) (l : List Op2) (hm : l.length = m) (ca : Option Addr) (cm cc : Nat) (cs : List Nat) (hcm : cs.length = cm) (w : World) (hcs : Cells w a (recs Op2.cs l)) (hok : ∀ o ∈ l, ok64 o)
    (hccs : Cells w ca (cs.map vu8)) (hcu : ∀ z ∈ cs, z < 256) (hmm : m ≤ maxLen) (hcap : m ≤ cap) :
    Calls Tryz.prog 3 #[.int .u8 (x : Int), .slice a m cap, .slice ca cm cc] w fun e w' => e = .returned (.bool true) ∧ Below w.heap.size w w' := by
  have HAw := Lib.hid (awake12_any w)
  unfold maxLen at hmm
  have HM := Lib.hid hm
  have HCM := Lib.hid hcm
  have HCS := Lib.hid hcs
  have HOK := Lib.hid hok
  have HCCS := Lib.hid hccs
  have HCU := Lib.hid hcu
  clear hm hcm hcs hok hccs hcu
  obtain ⟨B, hB⟩ : ∃ B, B = 2 + x % 9 := ⟨_, rfl⟩
  have hB2 : 2 ≤ B := by omega
  have hB10 : B ≤ 10 := by omega
  have HBx := Lib.hid hB
  clear hB
  go_enter Tryz.func3, Tryz.ntmps3
  go_wp2_with fail
  refine HAw.out.mono ?_
  rintro e w1 ⟨rfl, hb1⟩
  have HB1 := Lib.hid hb1
  clear hb1 HAw
  by_cases hc : 100 < cm
  · have h1 : (100 : Int) < (cm : Int) := by omega
    go_wp2_with fail
    go_ret
    exact ⟨rfl, HB1.out⟩
  have h1 : decide ((100 : Int) < (cm : Int)) = false := by simp; omega
  have h1n : decide (100 < cm) = false := by simp; omega
  by_cases hm0 : m < 1
  · have h2 : (m : Int) < 1 := by omega
    go_wp2_with fail
    go_ret
    exact ⟨rfl, HB1.out⟩
  have h2 : decide ((m : Int) < 1) = false := by simp; omega
  have h2n : decide (m < 1) = false := by simp; omega
  obtain ⟨mm, hmp⟩ : ∃ mm : Nat, mm = m - 1 := ⟨_, rfl⟩
  have hw1 : IntKind.i64.wrap ((m : Int) - 1) = (mm : Int) := by rw [IntWalk.i64_in _ (by omega)]; omega
  have hlm : (mm : Int) < (m : Int) := by omega
  have hkl : mm < l.length := by rw [HM.out]; omega
  have hmle : mm ≤ m := by omega
  obtain ⟨b1, o1, rfl, hbl, hcell⟩ := recs_cells Op2.len (by decide) (⟨0, 0⟩ : Op2) (HCS.out.below HB1.out (Nat.le_refl _)) hkl
  have hook := HOK.out (l.getD mm ⟨0, 0⟩) (by rw [List.getD_eq_getElem?_getD, List.getElem?_eq_getElem hkl]; exact List.getElem_mem _)
  generalize l.getD mm ⟨0, 0⟩ = o at *
  obtain ⟨oa, ob⟩ := o
  obtain ⟨g1, g2⟩ := hook
  dsimp only at g1 g2
  have e0 : w1.cell? ⟨b1, o1 + mm * 2, none⟩ = some (.int .i64 oa) := hcell 0 _ rfl
  have e1 : w1.cell? ⟨b1, o1 + mm * 2 + 1, none⟩ = some (.int .i64 ob) := hcell 1 _ rfl
  clear hcell hkl
  have HM1 := Lib.hid (Mem.one w1 #[.int .i64 0, .int .i64 0] 26)
  have HMp := Lib.hid hmp
  clear hmp
  have hm0' := hm0
  clear hm0
  go_upto_region 5 with fail
  go_wp2_with (first | (refine wpList_store_mem aggOp2 HM1.out 0 rfl rfl rfl rfl rfl rfl rfl rfl ?_; intro w2 h2' ht2; have HM2 := Lib.hid h2'; clear h2' ht2; have HCS2 := Lib.hid (HCS.out.below (HB1.out.trans (HM2.out.below.mono HB1.out.size)) (Nat.le_refl _))) | (refine wpList_slice_to elOp2 mm HCS2.out (by rw [recs_length Op2.len, HM.out]) rfl hmle hcap rfl rfl rfl rfl ?_; intro hct; have HCT := Lib.hid hct; clear hct))
  rw [recs_take Op2.len] at HCT
  refine (played12_any x hx _ mm cap (l.take mm) (by rw [List.length_take, HM.out]; omega) _ HCT.out (fun o ho => HOK.out o (List.mem_of_mem_take ho)) (by unfold maxLen; omega)).mono ?_
  rw [← HBx.out]
  rintro e w3 ⟨X, n, D, aL, cL, aF, cF, b, b', rfl, hn, hst⟩
  have HDs := Lib.hid hst.mg.dev.arr
  have HMX := Lib.hid hst.man.mem
  have HM3 := Lib.hid ((HM2.out.later hst.below).alloc zeroM 35)
  have HS3 := Lib.hid (hst.later (below_alloc w3 (.cells zeroM 35)))
  have HXn := Lib.hid (show w3.heap.size ∉ X.list from fun hm => by have := hst.man.mem _ hm; omega)
  have HXg := Lib.hid (show w2.heap.size ≤ w3.heap.size from hst.below.size)
  have HX := Lib.hid hst.new
  clear hst HM1 HCS2 HCT
  unfold mgV vdev
  go_upto_region 7 with (rw [show (#[.slice none 0 0, .slice none 0 0, .slice none 0 0, .slice none 0 0, .slice none 0 0, .int .i64 0, .int .i64 0, .bool false, .slice none 0 0, .slice none 0 0] : Array Value) = zeroM from rfl]; refine wpList_store_mem aggMg HM3.out 1 rfl rfl rfl rfl rfl (mgA_size HDs.out.1 _ _) (mgA_size HDs.out.1 _ _).symm (mgA_one HDs.out.2 rfl rfl) ?_; intro w4 h4 ht4; have HM4 := Lib.hid h4; have HT4 := Lib.hid ht4; clear h4 ht4)
  rw [mgA_list] at HM4
  have HS4 := Lib.hid (HS3.out.box hB2 (HM3.out.rows _ (List.mem_of_getElem? (i := 1) rfl)) odd_zeroM HXn.out HXg.out HT4.out)
  clear HS3 HM3 HT4
  have HDead := Lib.hid (ddead_any HS4.out.man.dev)
  unfold vdev at HDead
  rcases Bool.eq_false_or_eq_true b.dev.dead with hd | hd
  · rw [hd] at HDead
    go_wp2_with fail
    refine HDead.out.mono ?_
    rintro e w5 ⟨rfl, rfl⟩
    go_wp2_with fail
    go_ret
    exact ⟨rfl, HB1.out.trans (HM4.out.below.mono HB1.out.size)⟩
  rw [hd] at HDead
  go_wp2_with fail
  refine HDead.out.mono ?_
  rintro e w5 ⟨rfl, rfl⟩
  clear HDead
  have c0 := HS4.out.man.c0
  go_wp2_with fail
  refine (tall_any HS4.out.man.tab (by omega)).mono ?_
  rintro e w5 ⟨q3, k3, rfl, hq3, hk3, hr3, hb3⟩
  have HR5 := Lib.hid hr3
  have HS5 := Lib.hid (HS4.out.later hb3)
  have HM5 := Lib.hid (HM4.out.later hb3)
  have HQ3 : Hid (q3 ∉ X.hot) := Lib.hid (fun hm => by have := HS4.out.man.mem q3 (MF.hot_sub hm); omega)
  clear hr3 hb3 hq3 c0 HS4 HM4
  go_wp2_with fail
  refine (bruns_new HS5.out.man (by omega)).mono ?_
  rintro e w6 ⟨a6, c6, rfl, hc6, hb6, hl6⟩
  have HC6 := Lib.hid hc6
  have HR6 := Lib.hid (HR5.out.keep (hb6.block _ HR5.out.lt))
  have HS6 := Lib.hid (HS5.out.later hb6)
  have HM6 := Lib.hid (HM5.out.later hb6)
  have HL6 : Hid (runsOf b.free = [] ∨ ∃ g, a6 = some ⟨g, 0, none⟩ ∧ g ∉ X.hot) := Lib.hid (hl6.imp id (fun ⟨g, h1, h2⟩ => ⟨g, h1, fun hm => by have := HS5.out.man.mem g (MF.hot_sub hm); omega⟩))
  clear hc6 hb6 hl6 HR5 HS5 HM5
  obtain ⟨rl, hrl⟩ : ∃ rl, rl = (runsOf b.free).length := ⟨_, rfl⟩
  have HRl := Lib.hid hrl
  rw [← hrl]
  clear hrl
  have k0 := HM6.out.cell 0 0 rfl rfl
  have k1 := HM6.out.cell 0 1 rfl rfl
  have HB6 : Hid (Below w.heap.size w w6) := Lib.hid (HB1.out.trans (HM6.out.below.mono HB1.out.size))
  have HW : Hid (w.heap.size ≤ w1.heap.size ∧ w1.heap.size < w2.heap.size) := Lib.hid ⟨HB1.out.size, HM2.out.glt 0 rfl⟩
  go_upto_region 12 with fail
  go_wp2_with (refine wpList_load_box (D := mgA D (.slice aL B cL) (.slice aF B cF)) aggMg HM6.out 1 rfl (mgA_size HDs.out.1 _ _) rfl rfl rfl ?_)
  have HDo := Lib.hid (do12_stand HS6.out hd hB2 hB10 (by omega) (by omega) cL cF oa ob g2)
  unfold mgV vdev at HDo
  refine HDo.out.mono ?_
  rintro e w7 ⟨D1, aL1, cL1, aF1, cF1, rfl, hs7, ht7⟩
  have hbok : BmOk B b := by
    rcases HS6.out.done with h | h
    · rw [hd] at h; cases h
    · exact h
  have HBok := Lib.hid hbok
  have HStay := Lib.hid (do12_done hbok oa ob).1
  clear HDo hbok hd
  have hqX : w1.heap.size ∉ X.hot := fun hm => by have := HX.out _ (MF.hot_sub hm); have := HW.out; omega
  have k0 := cell_of_touch ht7 (p := ⟨w1.heap.size, 0, none⟩) hqX k0
  have k1 := cell_of_touch ht7 (p := ⟨w1.heap.size, 1, none⟩) hqX k1
  have HR7 := Lib.hid (HR6.out.keep (ht7.block q3 HR6.out.lt HQ3.out))
  have HS7 := Lib.hid hs7.man
  have HB7 : Hid (Below w.heap.size w w7) := Lib.hid (below_touched HB6.out ht7 (fun k hk => by have := HX.out _ (MF.hot_sub hk); have := HW.out; omega) (Nat.le_refl _))
  have HC7 : Hid (Cells w7 a6 (spCs (runsOf b.free))) := Lib.hid (by
    rcases HL6.out with h | ⟨g, rfl, hg⟩
    · rw [h]; exact .inl rfl
    · rcases HC6.out with h | ⟨b', off, he, h⟩
      · exact .inl h
      · cases he
        exact .inr ⟨_, _, rfl, fun i v hv => cell_of_touch ht7 hg (h i v hv)⟩)
  clear hs7 ht7 hqX HR6 HC6 HL6 HS6 HM6 HB6 HQ3
  go_wp2_with fail
  refine (crash_any HS7.out.dev ca cm cc cs HCM.out (HCCS.out.below HB7.out (Nat.le_refl _)) HCU.out (by omega)).mono ?_
  rintro e w8 ⟨G, rfl, hG, hd8, hb8⟩
  have HD8 := Lib.hid hd8
  have HS8 := Lib.hid (HS7.out.below hb8)
  have HB8 := Lib.hid hb8
  clear hG hd8 hb8
  unfold vdev
  go_wp2_with fail
  refine (bgeom_any HS8.out).mono ?_
  rintro e w9 ⟨rfl, hb9⟩
  have HD9 := Lib.hid (HD8.out.below hb9)
  have HB9 := Lib.hid (HB8.out.trans (hb9.mono HB8.out.size))
  clear hb9 HD8 HB8 HS8
  go_wp2_with fail
  refine (read_any HD9.out B (by omega) (by omega)).mono ?_
  have HP := Lib.hid (stay_crash HBok.out HStay.out cs)
  rintro e w10 ⟨hb10, hcase⟩
  have HB10 := Lib.hid (HB9.out.trans (hb10.mono HB9.out.size))
  rcases hcase with ⟨_, g10, c10, rfl, _, hc10, hr10⟩ | hcase
  case inr =>
    obtain ⟨b8, hb80, hb8B, _, hbad, rfl⟩ := hcase
    exact absurd (HP.out.1 b8 hb80 hb8B) hbad
  have HR10 := Lib.hid hr10
  have HWas := Lib.hid (HR7.out.keep (HB10.out.block q3 HR7.out.lt))
  have HC10 := Lib.hid (HC7.out.below HB10.out (Nat.le_refl _))
  have j0 := below_cells HB10.out k0 (Nat.le_refl _)
  have j1 := below_cells HB10.out k1 (Nat.le_refl _)
  have HB11 := Lib.hid (HB7.out.trans (HB10.out.mono HB7.out.size))
  clear hb10 hr10 k0 k1 HR7 HC7 HS7 HD9 HB9 HB10 HB7
  have HKeep : Hid (∀ s : Nat, 1 ≤ s → s < B → hits (runsOf b.free) s = false → ¬ (oa = 2 ∧ ((s : Int) = ob ∨ ((b.list.getD s default).k = 3 ∧ (s : Int) - (b.list.getD s default).l = ob))) → (hds (devWord ((do12 b oa ob).dev.crash cs)) B).getD s default = b.list.getD s default) := Lib.hid (fun s s1 s2 hh hb => HP.out.2 s s1 s2 (fun hn => by
    rcases hn with hn | hn
    · rw [hits_runs hn] at hh; cases hh
    · exact hb hn))
  have HNl : Hid ((hds (devWord ((do12 b oa ob).dev.crash cs)) B).length = B) := Lib.hid (hds_length _ _)
  have HWl : Hid (b.list.length = B) := Lib.hid HBok.out.lenL
  have HRt : Hid (∀ s, s < B → hdRight (b.list.getD s default).k (b.list.getD s default).c (b.list.getD s default).l = true) := Lib.hid HBok.out.right
  have HBd : Hid (∀ i, i < (runsOf b.free).length → ((runsOf b.free).getD i (0, 0)).1 + ((runsOf b.free).getD i (0, 0)).2 ≤ B) := Lib.hid (fun i hi => by
    have hmem : (runsOf b.free).getD i (0, 0) ∈ runsOf b.free := by rw [List.getD_eq_getElem?_getD, List.getElem?_eq_getElem hi]; exact List.getElem_mem _
    have := runEnds (((runsOf_is b.free).mem _ _).1 hmem)
    rw [HBok.out.lenF] at this
    exact this)
  have HRlen : Hid ((runsOf b.free).length ≤ B) := Lib.hid (by have := runs_len (fb b.free) b.free.length; rw [HBok.out.lenF] at this; unfold runsOf; rw [HBok.out.lenF]; exact this)
  generalize hds (devWord ((do12 b oa ob).dev.crash cs)) B = nl at *
  generalize runsOf b.free = rs at *
  generalize b.list = wl at *
  clear HP HStay HBok
  have hrl1 : rl ≤ 1000 := by
    have h5 := HRl.out
    have h6 := HRlen.out
    omega
  go_upto_region 16 with fail
  go_cut [17] from 21 (fun i wc => i = .int .i64 1 ∧ wc = w10)
  case first =>
    go_wp2_with fail
    go_meet
    case rel => exact ⟨rfl, rfl⟩
  case rest =>
  obtain ⟨rfl, hwc⟩ := hcut
  rw [hwc]
  clear hwc
  go_wp2_with fail
  go_loopw [17] (fun i wr => ∃ s : Nat, 1 ≤ s ∧ s ≤ B ∧ i = .int .i64 (s : Int) ∧ ∃ q, wr = w10.drewN q) (fun i _ => B - (intOf i).toNat)
  case atStart => exact ⟨1, Nat.le_refl _, by omega, rfl, 0, rfl⟩
  case round =>
    obtain ⟨s, hs1, hsB, rfl, q, rfl⟩ := hrel
    by_cases hlt : s < B
    rotate_left
    · have h3 : decide ((s : Int) < (B : Int)) = false := by simp; omega
      have h3n : decide (s < B) = false := by simp; omega
      go_wp2_with fail
      go_ret
      exact ⟨rfl, below_drawn HB11.out q⟩
    have h3 : (s : Int) < (B : Int) := by omega
    go_upto_region 20 with fail
    go_wp2_with fail
    go_loopw [18, 19] (fun t i wr => ∃ k : Nat, k ≤ rl ∧ i = .int .i64 (k : Int) ∧ t = .bool (hits (rs.take k) s) ∧ ∃ q, wr = w10.drewN q) (fun _ i _ => rl - (intOf i).toNat)
    case atStart => exact ⟨0, Nat.zero_le _, rfl, rfl, _, rfl⟩
    case round =>
      obtain ⟨k, hk, rfl, rfl, q2, rfl⟩ := hrel
      by_cases hk2 : k < rl
      rotate_left
      · have h4 : decide ((k : Int) < (rl : Int)) = false := by simp; omega
        have h4n : decide (k < rl) = false := by simp; omega
        have htk : hits (rs.take k) s = hits rs s := by rw [List.take_of_length_le (by have := HRl.out; omega)]
        rw [htk]
        clear htk
        obtain ⟨x1, y1, z1, hwe⟩ : ∃ x1 y1 z1, wl.getD s default = (⟨x1, y1, z1⟩ : Hd) := ⟨_, _, _, rfl⟩
        obtain ⟨x2, y2, z2, hne⟩ : ∃ x2 y2 z2, nl.getD s default = (⟨x2, y2, z2⟩ : Hd) := ⟨_, _, _, rfl⟩
        obtain ⟨bw, ow, hew, d0, d1, d2⟩ := hd_cells HWas.out.cells (by rw [HWl.out]; exact hlt) hwe
        cases hew
        obtain ⟨bn, on, hen, f0, f1, f2⟩ := hd_cells HR10.out.cells (by rw [HNl.out]; exact hlt) hne
        cases hen
        rw [Nat.zero_add] at d0 d1 d2 f0 f1 f2
        have hkeep := HKeep.out s hs1 hlt
        have hrt := HRt.out s hlt
        rw [hwe] at hkeep hrt
        rw [hne] at hkeep
        dsimp only at hkeep hrt
        have hzb : -256 ≤ z1 ∧ z1 ≤ 256 := by
          have : HdRight x1 y1 z1 := by simpa [hdRight] using hrt
          unfold HdRight at this; omega
        clear hwe hne hrt
        have hw2 : IntKind.i64.wrap ((s : Int) - z1) = (s : Int) - z1 := IntWalk.i64_in _ (by omega)
        obtain ⟨bk, hbk⟩ : ∃ bk : Bool, bk = decide (oa = 2 ∧ ((s : Int) = ob ∨ (x1 = 3 ∧ (s : Int) - z1 = ob))) := ⟨_, rfl⟩
        have hcase : (((oa == 2) = false) ∧ bk = false) ∨ (((oa == 2) = true) ∧ (((s : Int) == ob) = true) ∧ bk = true) ∨
            (((oa == 2) = true) ∧ (((s : Int) == ob) = false) ∧ ((x1 == 3) = false) ∧ bk = false) ∨
            (((oa == 2) = true) ∧ (((s : Int) == ob) = false) ∧ ((x1 == 3) = true) ∧ (((s : Int) - z1 == ob) = true) ∧ bk = true) ∨
            (((oa == 2) = true) ∧ (((s : Int) == ob) = false) ∧ ((x1 == 3) = true) ∧ (((s : Int) - z1 == ob) = false) ∧ bk = false) := by
          rw [hbk]
          by_cases a1 : oa = 2
          · by_cases a2 : (s : Int) = ob
            · exact .inr (.inl ⟨by simp [a1], by simp [a2], by simp [a1, a2]⟩)
            · by_cases a3 : x1 = 3
              · by_cases a4 : (s : Int) - z1 = ob
                · exact .inr (.inr (.inr (.inl ⟨by simp [a1], by simp [a2], by simp [a3], by simp [a4], by simp [a1, a3, a4]⟩)))
                · exact .inr (.inr (.inr (.inr ⟨by simp [a1], by simp [a2], by simp [a3], by simp [a4], by simp [a2, a4]⟩)))
              · exact .inr (.inr (.inl ⟨by simp [a1], by simp [a2], by simp [a3], by simp [a2, a3]⟩))
          · exact .inl ⟨by simp [a1], by simp [a1]⟩
        have HBk := Lib.hid hbk
        have HKp := Lib.hid hkeep
        have HCase := Lib.hid hcase
        clear hbk hkeep hcase
        go_upto_region 24 with fail
        go_cut [20] (fun v wc => v = .bool bk ∧ ∃ q, wc = w10.drewN q)
        case first =>
          clear d1 f0 f1 f2
          rcases HCase.out with ⟨p1, pb⟩ | ⟨p1, p2, pb⟩ | ⟨p1, p2, p3, pb⟩ | ⟨p1, p2, p3, p4, pb⟩ | ⟨p1, p2, p3, p4, pb⟩ <;>
          (have HPb := Lib.hid pb
           clear pb
           go_wp2_with fail
           go_quiet (fail)
           go_wp2_with fail
           go_meet
           case rel => exact ⟨by rw [HPb.out], drawn2 _ _ _⟩)
        case rest =>
        obtain ⟨rfl, q3', rfl⟩ := hcut
        clear HCase
        have hgd := gsBh
        cases htk : hits rs s
        · cases hbb : bk
          · have hk3 := HKp.out htk (by have := HBk.out; rw [hbb] at this; exact of_decide_eq_false this.symm)
            cases hk3
            have heq : ∀ w', (Op.equalIn 10000 58 (.agg #[.int .i64 x1, .int .i64 y1, .int .i64 z1]) (.agg #[.int .i64 x1, .int .i64 y1, .int .i64 z1])).run Tryz.prog w' = .ok true w' := fun w' => equalBh w' _ _ _ _ _ _ _ (by simp)
            clear htk hbb
            go_wp2_with fail
            go_quiet (fail)
            go_wp2_with fail
            exact ⟨⟨s + 1, by omega, by omega, vint (by omega), _, rfl⟩, by simp [intOf]; omega⟩
          · clear htk hbb
            go_wp2_with fail
            go_quiet (fail)
            go_wp2_with fail
            exact ⟨⟨s + 1, by omega, by omega, vint (by omega), _, rfl⟩, by simp [intOf]; omega⟩
        · clear htk
          go_wp2_with fail
          go_quiet (fail)
          go_wp2_with fail
          exact ⟨⟨s + 1, by omega, by omega, vint (by omega), _, rfl⟩, by simp [intOf]; omega⟩
      have h4 : (k : Int) < (rl : Int) := by omega
      have hkl : k < rs.length := by have := HRl.out; omega
      have hbd := HBd.out k hkl
      have htake := hits_take rs s k hkl
      obtain ⟨s0, n0, he⟩ : ∃ s0 n0, rs.getD k (0, 0) = (s0, n0) := ⟨_, _, rfl⟩
      rw [he] at hbd htake
      dsimp only at hbd htake
      obtain ⟨bs, os, rfl, d3, d4⟩ := sp_cells HC10.out hkl he
      clear he hkl
      obtain ⟨en, hen⟩ : ∃ en, en = s0 + n0 := ⟨_, rfl⟩
      rw [← hen] at hbd htake
      have hwq : IntKind.i64.wrap ((s0 : Int) + (n0 : Int)) = (en : Int) := by rw [IntWalk.i64_in _ (by omega)]; omega
      clear hen
      cases htk : hits (rs.take k) s
      · rw [htk, Bool.false_or] at htake
        by_cases c1 : s0 ≤ s
        · have c1' : (s0 : Int) ≤ (s : Int) := by omega
          by_cases c2 : s < en
          · have c2' : (s : Int) < (en : Int) := by omega
            have hv : hits (rs.take (k + 1)) s = true := by rw [htake]; simp; omega
            have HV := Lib.hid hv
            clear htake hv htk
            go_wp2_with fail
            go_quiet (fail)
            go_wp2_with fail
            exact ⟨⟨k + 1, by omega, vint (by omega), by rw [HV.out], _, rfl⟩, by simp [intOf]; omega⟩
          · have c2' : decide ((s : Int) < (en : Int)) = false := by simp; omega
            have c2n : decide (s < en) = false := by simp; omega
            have hv : hits (rs.take (k + 1)) s = false := by rw [htake]; simp; omega
            have HV := Lib.hid hv
            clear htake hv htk
            go_wp2_with fail
            go_quiet (fail)
            go_wp2_with fail
            exact ⟨⟨k + 1, by omega, vint (by omega), by rw [HV.out], _, rfl⟩, by simp [intOf]; omega⟩
        · have c1' : decide ((s0 : Int) ≤ (s : Int)) = false := by simp; omega
          have c1n : decide (s0 ≤ s) = false := by simp; omega
          have hv : hits (rs.take (k + 1)) s = false := by rw [htake]; simp; omega
          have HV := Lib.hid hv
          clear htake hv htk
          go_wp2_with fail
          go_quiet (fail)
          go_wp2_with fail
          exact ⟨⟨k + 1, by omega, vint (by omega), by rw [HV.out], _, rfl⟩, by simp [intOf]; omega⟩
      · rw [htk, Bool.true_or] at htake
        have HV := Lib.hid htake
        clear htake htk hwq
        go_wp2_with fail
        go_quiet (fail)
        go_wp2_with fail
        exact ⟨⟨k + 1, by omega, vint (by omega), by rw [HV.out], _, rfl⟩, by simp [intOf]; omega⟩

end Go.Proofs.YtebnelihlgdciaaGreat

/- Slices of structs whose fields are all ints: what the reading of such an argument says. -/
namespace Go.Proofs.YtebnelihlgdciaaGreat
open Go.RowKit Go.ChangeShapes Go.WideShapes Go.Deep
set_option linter.unusedVariables false

theorem wf_bounds {x : Int} (h : (Lit.int .i64 x).wf = true) : -9223372036854775808 ≤ x ∧ x ≤ 9223372036854775807 := by
  simp [Lit.wf, IntKind.min, IntKind.max, IntKind.bits, IntKind.signed] at h
  omega

/-- A list out of what each place holds. -/
theorem list_of {α : Type} (P : Nat → α → Prop) : ∀ n, (∀ i, i < n → ∃ x, P i x) → ∃ l : List α, l.length = n ∧ ∀ i x, l[i]? = some x → P i x
  | 0, _ => ⟨[], rfl, by simp⟩
  | n + 1, h => by
    obtain ⟨l, hl, hp⟩ := list_of P n (fun i hi => h i (by omega))
    obtain ⟨x, hx⟩ := h n (by omega)
    refine ⟨l ++ [x], by simp [hl], fun i y hy => ?_⟩
    by_cases hi : i < l.length
    · rw [List.getElem?_append_left hi] at hy; exact hp i y hy
    · rw [List.getElem?_append_right (by omega)] at hy
      have h0 : i - l.length = 0 := by
        have := (List.getElem?_eq_some_iff.1 hy).1; simp at this; omega
      rw [h0] at hy
      simp at hy
      subst hy
      rw [show i = n by omega]; exact hx

section
variable {H : Type} {enc : TypeId × Value → H} {P : Program} {w : World} {base : Nat} {spare : Nat → Bool} {held : Bool}

theorem ints_struct {e T : TypeId} {fs : Array Field} {n fuel : Nat} {us : List Value} {z : DataW H × List MemPlace} (he : P.underlying e = some (.struct fs)) (hT : P.underlying T = some (.int .i64)) (hc : P.cellsOf T = 1)
    (hF : ((List.range n).all fun j => match fs[j]? with | some f => f.type == T && f.offset == j | none => false) = true) (hlen : us.length = n) (hz : DataW.trod enc P w base spare held fuel e us = some z) :
    ∃ zs : List Int, zs.length = n ∧ us = zs.map (Value.int .i64) ∧ ∀ x ∈ zs, -9223372036854775808 ≤ x ∧ x ≤ 9223372036854775807 := by
  obtain ⟨ys, n', _, _, _, hyl, hf⟩ := DataW.trod_struct he hz
  have each : ∀ j, j < n → ∃ x : Int, us[j]? = some (.int .i64 x) ∧ (-9223372036854775808 ≤ x ∧ x ≤ 9223372036854775807) := by
    intro j hj
    have h1 := List.all_eq_true.1 hF j (List.mem_range.2 hj)
    cases hfj : fs[j]? with
    | none => rw [hfj] at h1; cases h1
    | some f =>
      rw [hfj] at h1
      simp only [Bool.and_eq_true, beq_iff_eq] at h1
      have h2 := hf j f hfj
      rw [h1.1, h1.2, hc] at h2
      have hjs : j < ys.length := by rw [hyl]; exact (Array.getElem?_eq_some_iff.1 hfj).1
      rw [List.getElem?_eq_getElem hjs] at h2
      have hju : j < us.length := by omega
      have h3 : (us.drop j).take 1 = [us[j]] := by rw [List.drop_eq_getElem_cons hju]; rfl
      rw [h3] at h2
      obtain ⟨x, hx, _, hw⟩ := DataW.trod_int hT h2
      have hx' : us[j] = .int .i64 x := by simpa using hx
      exact ⟨x, by rw [List.getElem?_eq_getElem hju, hx'], wf_bounds hw⟩
  obtain ⟨zs, hl, hp⟩ := list_of (fun j x => us[j]? = some (.int .i64 x) ∧ (-9223372036854775808 ≤ x ∧ x ≤ 9223372036854775807)) n each
  refine ⟨zs, hl, ?_, fun x hx => ?_⟩
  · apply List.ext_getElem?
    intro i
    by_cases hi : i < zs.length
    · rw [(hp i _ (List.getElem?_eq_getElem hi)).1, List.getElem?_map, List.getElem?_eq_getElem hi]; rfl
    · rw [List.getElem?_eq_none (by omega), List.getElem?_eq_none (by simp; omega)]
  · obtain ⟨i, hi, rfl⟩ := List.mem_iff_getElem.1 hx
    exact (hp i _ (List.getElem?_eq_getElem hi)).2

theorem recs_ints_read {α : Type} {f : α → List Value} {n : Nat} (hfl : ∀ x, (f x).length = n) (hn : 0 < n) (d : α) (mk : List Int → α) (hmk : ∀ zs : List Int, zs.length = n → f (mk zs) = zs.map (Value.int .i64))
    {t e T : TypeId} {fs : Array Field} {fuel : Nat} {v : Value} {y : DataW H × List MemPlace} (ht : P.underlying t = some (.slice e)) (he : P.underlying e = some (.struct fs)) (hT : P.underlying T = some (.int .i64)) (hC : P.cellsOf e = n) (hc : P.cellsOf T = 1)
    (hF : ((List.range n).all fun j => match fs[j]? with | some f => f.type == T && f.offset == j | none => false) = true) (h : DataW.trod enc P w base spare held fuel t [v] = some y) :
    ∃ (a : Option Addr) (len cap : Nat) (l : List α), v = .slice a len cap ∧ l.length = len ∧ Cells w a (recs f l) ∧ (∀ o ∈ l, ∃ zs : List Int, o = mk zs ∧ zs.length = n ∧ ∀ x ∈ zs, -9223372036854775808 ≤ x ∧ x ≤ 9223372036854775807) ∧ len ≤ maxLen := by
  obtain ⟨a, len, cap, m, rfl, hl, hm, hcs⟩ := elems_read ht hC hn h
  rcases hcs with rfl | ⟨b, off, rfl, hcs⟩
  · exact ⟨a, 0, cap, [], rfl, rfl, Cells.nil _ _, by simp, Nat.zero_le _⟩
  · have each : ∀ i, i < len → ∃ x : α, (∀ r u, (f x)[r]? = some u → w.cell? ⟨b, off + i * n + r, none⟩ = some u) ∧ ∃ zs : List Int, x = mk zs ∧ zs.length = n ∧ ∀ x ∈ zs, -9223372036854775808 ≤ x ∧ x ≤ 9223372036854775807 := by
      intro i hi
      obtain ⟨us, z, hlen, hat, hz⟩ := hcs i hi
      obtain ⟨zs, h1, h2, h3⟩ := ints_struct he hT hc hF hlen hz
      exact ⟨mk zs, fun r u hr => by rw [hmk zs h1, ← h2] at hr; exact hat r u hr, zs, rfl, h1, h3⟩
    obtain ⟨l, hll, hcl, hok⟩ := recs_of hfl hn d each
    exact ⟨_, len, cap, l, rfl, hll, hcl, hok, by omega⟩
end

end Go.Proofs.YtebnelihlgdciaaGreat

/- What the reading of a slice of headers that came in says of its cells. -/
namespace Go.Proofs.YtebnelihlgdciaaGreat
open Go.RowKit Go.ChangeShapes Go.WideShapes Go.Deep
set_option linter.unusedVariables false

section
variable {H : Type} {enc : TypeId × Value → H} {w : World} {spare : Nat → Bool} {held : Bool}

theorem int_read {fuel : Nat} {t : TypeId} {k : IntKind} {v : Value} {y : DataW H × List MemPlace} (ht : Tryz.prog.underlying t = some (.int k)) (h : DataW.trod enc Tryz.prog w 0 spare held fuel t [v] = some y) : ∃ n, v = .int k n ∧ (Lit.int k n).wf = true := by
  obtain ⟨n, h1, _, h3⟩ := DataW.trod_int ht h
  exact ⟨n, by simpa using h1, h3⟩

theorem hds_read {fuel : Nat} {v : Value} {y : DataW H × List MemPlace} (h : DataW.trod enc Tryz.prog w 0 spare held fuel 38 [v] = some y) :
    ∃ (a : Option Addr) (cap : Nat) (l : List Hd), v = .slice a l.length cap ∧ Cells w a (hdCs l) ∧ l.length ≤ maxLen ∧ ∀ x ∈ l, (-9223372036854775808 ≤ x.k ∧ x.k ≤ 9223372036854775807) ∧ (-9223372036854775808 ≤ x.c ∧ x.c ≤ 9223372036854775807) ∧ (-9223372036854775808 ≤ x.l ∧ x.l ≤ 9223372036854775807) := by
  obtain ⟨a, len, cap, n, rfl, hl, hm, hc⟩ := structs_read Tryz.underlying38 Tryz.underlying58 (by kernel_rfl) (by kernel_rfl) (by decide) h
  rcases hc with rfl | ⟨b, off, rfl, hc⟩
  · exact ⟨a, cap, [], rfl, Cells.nil _ _, Nat.zero_le _, by simp⟩
  · have each : ∀ i, i < len → ∃ x : Hd, w.cell? ⟨b, off + i * 3, none⟩ = some (.int .i64 x.k) ∧ w.cell? ⟨b, off + i * 3 + 1, none⟩ = some (.int .i64 x.c) ∧ w.cell? ⟨b, off + i * 3 + 2, none⟩ = some (.int .i64 x.l) ∧ (-9223372036854775808 ≤ x.k ∧ x.k ≤ 9223372036854775807) ∧ (-9223372036854775808 ≤ x.c ∧ x.c ≤ 9223372036854775807) ∧ (-9223372036854775808 ≤ x.l ∧ x.l ≤ 9223372036854775807) := by
      intro i hi
      obtain ⟨u0, z0, hu0, hz0⟩ := hc i hi 0 _ rfl
      obtain ⟨u1, z1, hu1, hz1⟩ := hc i hi 1 _ rfl
      obtain ⟨u2, z2, hu2, hz2⟩ := hc i hi 2 _ rfl
      obtain ⟨n0, rfl, hw0⟩ := int_read Tryz.underlying3 hz0
      obtain ⟨n1, rfl, hw1⟩ := int_read Tryz.underlying3 hz1
      obtain ⟨n2, rfl, hw2⟩ := int_read Tryz.underlying3 hz2
      exact ⟨⟨n0, n1, n2⟩, hu0, hu1, hu2, wf_i64 hw0, wf_i64 hw1, wf_i64 hw2⟩
    obtain ⟨f, hf⟩ := choose_lt each
    refine ⟨_, cap, (List.range len).map f, by simp, .inr ⟨b, off, rfl, fun i v hi => ?_⟩, by simp; omega, fun x hx => ?_⟩
    · have hlen : i < 3 * len := by
        have := (List.getElem?_eq_some_iff.1 hi).1
        rw [hdCs_length] at this
        simpa using this
      obtain ⟨q, r, hr, rfl⟩ : ∃ q r, r < 3 ∧ i = q * 3 + r := ⟨i / 3, i % 3, by omega, by omega⟩
      have hq : q < len := by omega
      have hg := hdCs_at ((List.range len).map f) q (by simpa using hq)
      have hfd : ((List.range len).map f).getD q default = f q := by simp [hq]
      rw [hfd] at hg
      have hfc := hf q hq
      have h0 := hg 0 _ rfl
      have h1 := hg 1 _ rfl
      have h2 := hg 2 _ rfl
      rcases (show r = 0 ∨ r = 1 ∨ r = 2 by omega) with rfl | rfl | rfl
      · rw [h0] at hi
        cases hi
        exact hfc.1
      · rw [h1] at hi
        cases hi
        rw [← Nat.add_assoc]
        exact hfc.2.1
      · rw [h2] at hi
        cases hi
        rw [← Nat.add_assoc]
        exact hfc.2.2.1
    · rw [List.mem_map] at hx
      obtain ⟨i, hi, rfl⟩ := hx
      exact (hf i (by simpa using hi)).2.2.2
end

end Go.Proofs.YtebnelihlgdciaaGreat
