/- Parts of the proof, one behind the other: Gt. -/
import Derived.Test.YtfedgcdkagngnaaGreatDT12
import Derived.Deep.DeepCutAuto
import Derived.Deep.CutBlock

/- law33: DumpTexts. -/
namespace Go.Proofs.YtfedgcdkagngnaaGreat
open Go.RowKit Go.Shelf
set_option linter.unusedVariables false
open Go.Lib (itoa)

attribute [local go_sem] Oper.semAt_some

theorem Mem.perm {w W : World} {L L' : List Ent} (h : Mem w W L) (hp : L.Perm L') : Mem w W L' :=
  ⟨h.below, fun x hx => h.rows x (hp.mem_iff.2 hx), fun x hx => h.base x (hp.mem_iff.2 hx), (hp.map Ent.g).nodup_iff.1 h.nd⟩

theorem run_equalIn_func_nil {P : Program} (w : World) (d : Nat) (t : TypeId) {ps rs : Array TypeId} {vd : Bool} (h : P.underlying t = some (.func ps rs vd)) (f : Fn) (c l : Array Value) : (Op.equalIn (d + 1) t (.func f c l) .nilFunc).run P w = .ok false w := by
  simp [Op.equalIn, run_underlying h]
theorem run_eql_func_nil {P : Program} (w : World) (t : TypeId) {ps rs : Array TypeId} {vd : Bool} (h : P.underlying t = some (.func ps rs vd)) (f : Fn) (c l : Array Value) : (binOp .eql t (.func f c l) .nilFunc).run P w = .ok (.bool false) w := by
  simp only [binOp]
  simp [Op.equal, Op.maxDepth, run_equalIn_func_nil w 9999 t h f c l]
theorem BmOk.low {B : Nat} {m : Bm} (h : BmOk B m) (b : Nat) : (hdGet m.list (b : Int)).low := by
  unfold hdGet Hd.low
  by_cases c : (b : Int) < 1 ∨ (m.list.length : Int) ≤ b
  · rw [if_pos c]; simp
  · rw [if_neg c, Int.toNat_natCast]
    have := h.right b (by rw [h.lenL] at c; omega)
    unfold hdRight at this
    have := of_decide_eq_true this
    unfold HdRight at this
    omega
theorem keeps_setCell {W : World} {b : Nat} {t : TypeId} {v : Value} (h : Boxed W b t v) (n : Nat) (u : Value) : KeepsFrom n W (W.setCell ⟨b, 0, none⟩ u) :=
  ⟨by simp [World.setCell], fun k o _ hk ho => (Below.heap_setCell _ _ _ k (fun e => by
    have e' : k = b := e
    rw [e', show W.heap[b]? = _ from h] at hk
    cases hk; cases ho)).trans hk⟩
theorem kpT_setCell {n₀ n₁ Bn b : Nat} {W : World} (h1 : n₀ ≤ b) (h2 : b < n₁) (h3 : Bn ≠ b) (u : Value) : KpT n₀ n₁ Bn W (W.setCell ⟨b, 0, none⟩ u) :=
  ⟨(Below.refl _ _).setCell (p := ⟨b, 0, none⟩) h1 u, Below.heap_setCell _ _ _ _ (fun e => h3 e), fun k cs hk _ => Below.heap_setCell _ _ _ _ (fun e => by have e' : k = b := e; omega)⟩
theorem kpT_below {n₀ n₁ Bn : Nat} {W W' : World} (h : Below W.heap.size W W') (hn : n₀ ≤ W.heap.size) (hB : Bn < W.heap.size) : KpT n₀ n₁ Bn W W' :=
  ⟨h.mono hn, h.block _ hB, fun k cs _ hk => h.block k (Array.getElem?_eq_some_iff.1 hk).1⟩
theorem blk_snoc {L : List Hd} {k n : Nat} {s : List UInt8} (h : blkTo L k ++ [s] <+: blkTo L n) : s = blkLn L (k + 1) := by
  obtain ⟨t, ht⟩ := h
  have h1 := congrArg (fun l => l[k]?) ht
  have hl := congrArg List.length ht
  simp only [List.length_append, blkTo_len, List.length_singleton] at hl
  have h2 : (blkTo L n)[k]? = some (blkLn L (k + 1)) := by
    unfold blkTo
    rw [List.getElem?_map, List.getElem?_range (by omega)]; rfl
  rw [h2, List.append_assoc, List.getElem?_append_right (by rw [blkTo_len]; exact Nat.le_refl _), blkTo_len, Nat.sub_self] at h1
  simpa using h1
theorem touch_own {β : Type} {B : Nat} {L : List Nat} {w₀ : World} (hB : w₀.heap.size ≤ B) : OwnFrom B (fun (_ : β) W => Touch L w₀ W) := fun _ W W' row h hg hr =>
  ⟨hg.os.trans h.os, hg.tape.trans h.tape, hg.output.trans h.output, Nat.le_trans h.size hg.size, fun k hk hn => (hg.block k (Nat.lt_of_lt_of_le hk h.size) (fun e => by have := (hr k e.symm).1; omega)).trans (h.block k hk hn)⟩
theorem obj_snoc {m : Al} {k n x : Nat} {s : List UInt8} (hx : (onesL m.used)[k]? = some x) (h : objTo m k ++ [s] <+: objTo m n) : s = objLn m x := by
  have hk := (List.getElem?_eq_some_iff.1 hx).1
  obtain ⟨t, ht⟩ := h
  have h1 := congrArg (fun l => l[k]?) ht
  have hl := congrArg List.length ht
  simp only [List.length_append, objTo_len (Nat.le_of_lt hk), List.length_singleton] at hl
  have hkn : k < n := by
    by_cases c : n ≤ (onesL m.used).length
    · rw [objTo_len c] at hl; omega
    · omega
  have h2 : (objTo m n)[k]? = some (objLn m x) := by
    unfold objTo
    rw [List.getElem?_map, List.getElem?_take, if_pos hkn, hx]; rfl
  rw [h2, List.append_assoc, List.getElem?_append_right (by rw [objTo_len (Nat.le_of_lt hk)]; exact Nat.le_refl _), objTo_len (Nat.le_of_lt hk), Nat.sub_self] at h1
  simpa using h1
theorem own_const {β : Type} {B : Nat} (p : β → Prop) : OwnFrom B (fun (s : β) (_ : World) => p s) := fun _ _ _ _ h _ _ => h
/-- A step that doesn't panic, whatever follows a panic. -/
theorem wp_np {P : Program} {c : Code} {K : Act → World → Prop} {Q : Exit → Act → World → Prop} {a : Act} {w : World} (h : c.wp P (Exit.then K (fun _ _ _ => False)) a w) : c.wp P (Exit.then K Q) a w :=
  Code.wp_mono (fun e a w he => by cases e <;> first | exact he | exact he.elim) h

set_option maxHeartbeats 16000000 in
set_option maxRecDepth 100000 in
theorem dumpTexts_any (a : Option Addr) (mm cap : Nat) (s : List Op20) (hm : s.length = mm) (n8 : Int) (hn8 : 0 ≤ n8 ∧ n8 ≤ 255) (w : World) (hcs : Cells w a (recs Op20.cs s)) (hmm : mm ≤ maxLen) :
    Calls Tryz.prog 11 #[.slice a mm cap, .int .u8 n8] w (Gives (.bool true) w) := by
  have HM := Lib.hid hm
  have HCS := Lib.hid hcs
  have HMM := Lib.hid hmm
  have HN8 := Lib.hid hn8
  clear hm hcs hmm hn8
  have HP : Hid (∀ w', Below w.heap.size w w' → Gives (.bool true) w (.returned (.bool true)) w') := Lib.hid (fun w' h => ⟨rfl, h⟩)
  generalize Gives (.bool true) w = Post at *
  refine (callsIn_wide (n := 9)).1 ?_
  refine callsIn_of_wp_marks Tryz.func11 rfl trivial ?_ rfl
  simp only [Tryz.ntmps11, List.size_toArray, List.length_cons, List.length_nil, Nat.reduceAdd, Nat.reduceSub, Array.replicate_succ, Array.replicate_zero, List.push_toArray, List.append_toArray, List.nil_append, List.cons_append]
  refine wpIn_wide.2 ?_
  go_upto_region 1 with fail
  have HMz := Lib.hid (Mem.two w #[.int .u8 n8] 5 #[.bool false] 4)
  generalize (w.alloc _).alloc _ = w0 at *
  obtain ⟨z, hz⟩ : ∃ z, z = w.heap.size := ⟨_, rfl⟩
  rw [← hz] at HMz ⊢
  have HZ := Lib.hid hz
  clear hz
  go_wp2_with fail
  refine (awake33_any _).mono ?_
  rintro e w1 ⟨rfl, hb1⟩
  have HM1 := Lib.hid (HMz.out.later hb1)
  clear hb1 HMz
  go_wp2_with fail
  refine (made32_any a mm cap s HM.out w1 (HCS.out.below HM1.out.below (Nat.le_refl _)) HMM.out).mono ?_
  rintro e w2 ⟨A, n, m, v, xs, rfl, hh, hn, _⟩
  obtain ⟨sa, sc, rfl, _⟩ := hh.at_.own.cells
  obtain ⟨l, hl⟩ : ∃ l, l = xs.length := ⟨_, rfl⟩
  have HOk := Lib.hid hh.ok.ok
  have HM2 := Lib.hid ((HM1.out.later hh.below).alloc #[valloc A, vdev A.X.F, .slice sa xs.length sc] 28)
  have HA0 := Lib.hid (hh.at_.al.below (below_alloc w2 (.cells #[valloc A, vdev A.X.F, .slice sa xs.length sc] 28)))
  rw [← hl] at HM2 HA0 ⊢
  have HWf := Lib.hid hh.at_.al.man.dev.wf
  have HLc : Hid (m.bm.dev.cache.length = 3072) := Lib.hid hh.ok.ok.len
  have HLn : Hid (m.bm.list.length = 6) := Lib.hid hh.ok.ok.bm.lenL
  clear hl hh hn
  go_upto_region 4 with fail
  generalize w2.alloc _ = w3 at *
  obtain ⟨q, hq⟩ : ∃ q, q = w2.heap.size := ⟨_, rfl⟩
  rw [← hq] at HM2 ⊢
  simp only [List.cons_append, List.nil_append] at HM2
  clear hq HM1
  go_upto_region 6 with fail
  have HNow := Lib.hid (fun w' (h : DevAt w' A.X.F m.bm.dev) => wnow_any h (valloc A) (.slice sa l sc) (by rw [HLc.out]; omega))
  have HAll := Lib.hid (fun w' (h : AlAt w' A n 6 m) => tall_any h.man.tab (by omega))
  have HRefs := Lib.hid (fun w' (a : Option Addr) (k : Nat) (h : Cells w' a (hdCs m.bm.list)) => refs_any a 6 k m.bm.list HLn.out w' h (by omega))
  go_cut [7, 8] from 27 (fun dv lv wc => ∃ (qd ql : Nat) (D : Array Value) (al : Option Addr) (cl : Nat), dv = .pointer (some ⟨qd, 0, none⟩) ∧ lv = .pointer (some ⟨ql, 0, none⟩) ∧
    Hid (Mem w wc [⟨z, 5, [.int .u8 n8], true⟩, ⟨z + 1, 4, [.bool false], true⟩, ⟨q, 28, [valloc A, vdev A.X.F, .slice sa l sc], true⟩, ⟨qd, 34, D.toList, true⟩, ⟨ql, 36, [.slice al 6 cl], true⟩]) ∧
    Hid (RAt wc (.agg D) m.bm.dev.dirty.length (nowD m.bm.dev).ref) ∧ Hid (Cells wc al (hdCs m.bm.list)) ∧ Hid (AlAt wc A n 6 m))
  case first =>
    have c0 := HM2.out.cell 2 0 rfl rfl
    have c1 := HM2.out.cell 2 1 rfl rfl
    have c2 := HM2.out.cell 2 2 rfl rfl
    have c3 := HA0.out.c0
    have c4 := HA0.out.man.c0
    have r0 := fun x => later_cell c0 x
    have r1 := fun x => later_cell c1 x
    have r2 := fun x => later_cell c2 x
    have r3 := fun x => later_cell c3 x
    have r4 := fun x => later_cell c4 x
    clear c0 c1 c2 c3 c4
    refine wp_np ?_
    refine wp_region_t3 (C := fun w' => ∃ x : Later (w3), w' = x.val) (.fl [0, 2, 3, 4, 5, 6, 7, 8, 9] (.br3 1 true (.br3 10 false (.br3 11 false (.br 12 true (.sq [13] true (.sq [14, 15] false (.nil))) 13 true (.sq [12] true (.sq [14, 15] false (.nil)))) 12 true (.br 11 false (.sq [13] true (.sq [14, 15] false (.nil))) 13 true (.sq [11, 14, 15] false (.nil))) 13 true (.br 11 false (.sq [12] true (.sq [14, 15] false (.nil))) 12 true (.sq [11, 14, 15] false (.nil)))) 12 true (.br 10 false (.br 11 false (.sq [13] true (.sq [14, 15] false (.nil))) 13 true (.sq [11, 14, 15] false (.nil))) 13 true (.sq [10, 11, 14, 15] false (.nil))) 13 true (.br 10 false (.br 11 false (.sq [12] true (.sq [14, 15] false (.nil))) 12 true (.sq [11, 14, 15] false (.nil))) 12 true (.sq [10, 11, 14, 15] false (.nil)))) 12 true (.br 1 true (.br 10 false (.br 11 false (.sq [13] true (.sq [14, 15] false (.nil))) 13 true (.sq [11, 14, 15] false (.nil))) 13 true (.sq [10, 11, 14, 15] false (.nil))) 13 true (.sq [1] true (.sq [10, 11, 14, 15] false (.nil)))) 13 true (.br 1 true (.br 10 false (.br 11 false (.sq [12] true (.sq [14, 15] false (.nil))) 12 true (.sq [11, 14, 15] false (.nil))) 12 true (.sq [10, 11, 14, 15] false (.nil))) 12 true (.sq [1] true (.sq [10, 11, 14, 15] false (.nil)))))) (by kernel_rfl) (by kernel_rfl) (by intro c a d v w h; cases d <;> exact h) ?_
    simp only [t3O, picks, List.getElem?_cons_succ, List.getElem?_cons_zero]
    have hC4 := later_drew (w3)
    refine wpT3_fl hC4 ?_
    repeat (first | go_big_quiet_step (fail) | quiet_step (fail))
    refine wpQuiet_nil ?_
    clear r0 r1 r2 r3 r4
    have HM4 := Lib.hid (HM2.out.later (later_below hC4))
    have HA4 := Lib.hid (HA0.out.below (later_below hC4))
    generalize w3.drew = w4 at *
    refine wpT3_br3 ?_ ?_ ?_
    · refine wpT3_sq (fun K hK => ?_)
      go_wp2_with fail
      refine (HNow.out _ HA4.out.man.dev).mono ?_
      rintro e w5 ⟨dv, rfl, hr, hlo, hb⟩
      obtain ⟨D, rfl⟩ := hr.agg
      have HRlo := Lib.hid hlo
      have HRhi := Lib.hid hr.old
      obtain ⟨hD8, hD1⟩ := hr.arr
      have HM5 := Lib.hid (HM4.out.later hb)
      have HA5 := Lib.hid (HA4.out.below hb)
      have HS5 := Lib.hid hb.size
      have hC5 := later_step hC4 hb
      have HRA5 := Lib.hid hr
      clear hb hr hlo
      go_wp2_with fail
      refine hK _ _ (fun _ => hC5) ?_
      clear hK K
      refine wpT3_br3 ?_ ?_ ?_
      · refine wpT3_sq (fun K hK => ?_)
        go_wp2_with fail
        refine (HAll.out _ HA5.out).mono ?_
        rintro e w6 ⟨gl, kl, rfl, _, _, hrow, hb⟩
        have HM6 := Lib.hid (HM5.out.later hb)
        have HA6 := Lib.hid (HA5.out.below hb)
        have HS6 := Lib.hid hb.size
        have HRA6 := Lib.hid (HRA5.out.below hb (Nat.le_refl _))
        have hC6 := later_step hC5 hb
        have HCl6 := Lib.hid hrow.cells
        clear hb hrow
        go_wp2_with fail
        refine hK _ _ (fun h => nomatch h) ?_
        clear hK K
        refine wpT3_br3 ?_ ?_ ?_
        · refine wpT3_sq (fun K hK => ?_)
          go_wp2_with fail
          refine (HRefs.out _ _ _ HCl6.out).mono ?_
          rintro e w7 ⟨vr, rfl, ho, hb⟩
          obtain ⟨ar, cr, rfl, _, _⟩ := owned_form ho
          have HClo := Lib.hid (owned_addr ho)
          have HChi := Lib.hid (owned_lt ho)
          have HM7 := Lib.hid (HM6.out.later hb)
          have HA7 := Lib.hid (HA6.out.below hb)
          have HS7 := Lib.hid hb.size
          have HRA7 := Lib.hid (HRA6.out.below hb (Nat.le_refl _))
          have HCl7 := Lib.hid (HCl6.out.below hb (Nat.le_refl _))
          have hC7 := later_step hC6 hb
          have HCr7 := Lib.hid (Cells.owned3 ho)
          clear hb ho
          go_wp2_with fail
          refine hK _ _ (fun h => nomatch h) ?_
          clear hK K
          refine wpT3_br ?_ ?_
          · refine wpT3_sq (fun K hK => ?_)
            go_wp2_with fail
            have hb := below_alloc w7 (.cells zeroD 34)
            have HM8 := Lib.hid (HM7.out.alloc zeroD 34)
            have HA8 := Lib.hid (HA7.out.below hb)
            have HS8 := Lib.hid hb.size
            have HRA8 := Lib.hid (HRA7.out.below hb (Nat.le_refl _))
            have HCr8 := Lib.hid (HCr7.out.below hb (Nat.le_refl _))
            have hC8 := later_step hC7 hb
            clear hb
            go_wp2_with fail
            refine hK _ _ (fun _ => hC8) ?_
            clear hK K
            rw [show (#[.slice none 0 0, .slice none 0 0, .slice none 0 0, .slice none 0 0, .slice none 0 0, .int .i64 0, .int .i64 0, .bool false] : Array Value) = zeroD from rfl]
            generalize w7.alloc _ = w8 at *
            obtain ⟨qd, hqd⟩ : ∃ qd, qd = w7.heap.size := ⟨_, rfl⟩
            rw [← hqd] at HM8 ⊢
            have HQd := Lib.hid hqd
            have HQd1 := Lib.hid (HM8.out.glt 3 rfl)
            clear hqd
            refine wpT3_sq (fun K hK => ?_)
            go_wp2_with fail
            have hb := below_alloc w8 (.cells #[.slice none 0 0] 36)
            have HM9 := Lib.hid (HM8.out.alloc #[.slice none 0 0] 36)
            have HA9 := Lib.hid (HA8.out.below hb)
            have HS9 := Lib.hid hb.size
            have HRA9 := Lib.hid (HRA8.out.below hb (Nat.le_refl _))
            have HCr9 := Lib.hid (HCr8.out.below hb (Nat.le_refl _))
            have hC9 := later_step hC8 hb
            clear hb
            go_wp2_with fail
            refine hK _ _ (fun _ => hC9) ?_
            clear hK K
            generalize w8.alloc _ = w9 at *
            obtain ⟨ql, hql⟩ : ∃ ql, ql = w8.heap.size := ⟨_, rfl⟩
            rw [← hql] at HM9 ⊢
            have HQl := Lib.hid hql
            have HQl1 := Lib.hid (HM9.out.glt 4 rfl)
            clear hql
            refine wpT3_last ?_
            go_wp2_with (refine wpList_store_mem aggRd HM9.out 3 rfl rfl rfl rfl rfl hD8 hD8.symm hD1 ?_; intro wy hy hty; have HY := Lib.hid hy; have HT := Lib.hid hty; clear hy hty; have cL := HY.out.cell 4 0 rfl rfl; have fL := HY.out.frozen 4 0 rfl)
            go_meet
            have HTy : Hid (Touch [qd, ql] w9 (wy.setCell ⟨ql, 0, none⟩ (.slice ar 6 cr))) := Lib.hid ((HT.out.wide (by simp)).trans (Touch.setCell ⟨ql, 0, none⟩ (by simp) _))
            have HNe : Hid (m.bm.dev.dirty.length = 0 ∨ ∀ b, RIn (.agg D) b → b ∉ [qd, ql]) := Lib.hid (HRhi.out.imp id (fun h b hb hm => by simp only [List.mem_cons, List.not_mem_nil, or_false] at hm; have h1 := h b hb; have h2 := HRlo.out b hb; have h3 := HQd.out; have h4 := HQd1.out; have h5 := HQl.out; have h6 := HQl1.out; have s5 := HS5.out; have s6 := HS6.out; have s7 := HS7.out; have s8 := HS8.out; have s9 := HS9.out; omega))
            have HNc : Hid (∀ x, ar = some x → x.block ∉ [qd, ql]) := Lib.hid (fun x hx hm => by simp only [List.mem_cons, List.not_mem_nil, or_false] at hm; have h1 := HChi.out x hx; have h2 := HClo.out x hx; have h3 := HQd.out; have h4 := HQd1.out; have h5 := HQl.out; have h6 := HQl1.out; have s5 := HS5.out; have s6 := HS6.out; have s7 := HS7.out; have s8 := HS8.out; have s9 := HS9.out; omega)
            have HAq : Hid (∀ k ∈ A.list, k ∉ [qd, ql]) := Lib.hid (fun k hk hm => by simp only [List.mem_cons, List.not_mem_nil, or_false] at hm; have h1 := HA4.out.mem k hk; have h3 := HQd.out; have h4 := HQd1.out; have h5 := HQl.out; have h6 := HQl1.out; have s5 := HS5.out; have s6 := HS6.out; have s7 := HS7.out; have s8 := HS8.out; have s9 := HS9.out; omega)
            exact ⟨qd, ql, D, _, _, rfl, rfl, Lib.hid (HY.out.set 4 0 (.slice ar 6 cr) rfl (Nat.lt_succ_self 0)), Lib.hid (HRA9.out.touch HTy.out HNe.out), Lib.hid (HCr9.out.touchL HTy.out (fun x hx _ => HNc.out x hx)), Lib.hid (HA9.out.keep (fun k hk => HTy.out.block k (HA9.out.mem k hk) (HAq.out k hk)))⟩
          · refine wpT3_sq (fun K hK => ?_)
            go_wp2_with fail
            have hb := below_alloc w7 (.cells #[.slice none 0 0] 36)
            have HM8 := Lib.hid (HM7.out.alloc #[.slice none 0 0] 36)
            have HA8 := Lib.hid (HA7.out.below hb)
            have HS8 := Lib.hid hb.size
            have HRA8 := Lib.hid (HRA7.out.below hb (Nat.le_refl _))
            have HCr8 := Lib.hid (HCr7.out.below hb (Nat.le_refl _))
            have hC8 := later_step hC7 hb
            clear hb
            go_wp2_with fail
            refine hK _ _ (fun _ => hC8) ?_
            clear hK K
            generalize w7.alloc _ = w8 at *
            obtain ⟨ql, hql⟩ : ∃ ql, ql = w7.heap.size := ⟨_, rfl⟩
            rw [← hql] at HM8 ⊢
            have HQl := Lib.hid hql
            have HQl1 := Lib.hid (HM8.out.glt 3 rfl)
            clear hql
            refine wpT3_sq (fun K hK => ?_)
            go_wp2_with fail
            have hb := below_alloc w8 (.cells zeroD 34)
            have HM9 := Lib.hid (HM8.out.alloc zeroD 34)
            have HA9 := Lib.hid (HA8.out.below hb)
            have HS9 := Lib.hid hb.size
            have HRA9 := Lib.hid (HRA8.out.below hb (Nat.le_refl _))
            have HCr9 := Lib.hid (HCr8.out.below hb (Nat.le_refl _))
            have hC9 := later_step hC8 hb
            clear hb
            go_wp2_with fail
            refine hK _ _ (fun _ => hC9) ?_
            clear hK K
            rw [show (#[.slice none 0 0, .slice none 0 0, .slice none 0 0, .slice none 0 0, .slice none 0 0, .int .i64 0, .int .i64 0, .bool false] : Array Value) = zeroD from rfl]
            generalize w8.alloc _ = w9 at *
            obtain ⟨qd, hqd⟩ : ∃ qd, qd = w8.heap.size := ⟨_, rfl⟩
            rw [← hqd] at HM9 ⊢
            have HQd := Lib.hid hqd
            have HQd1 := Lib.hid (HM9.out.glt 4 rfl)
            clear hqd
            refine wpT3_last ?_
            go_wp2_with (refine wpList_store_mem aggRd HM9.out 4 rfl rfl rfl rfl rfl hD8 hD8.symm hD1 ?_; intro wy hy hty; have HY := Lib.hid hy; have HT := Lib.hid hty; clear hy hty; have cL := HY.out.cell 3 0 rfl rfl; have fL := HY.out.frozen 3 0 rfl)
            go_meet
            have HTy : Hid (Touch [qd, ql] w9 (wy.setCell ⟨ql, 0, none⟩ (.slice ar 6 cr))) := Lib.hid ((HT.out.wide (by simp)).trans (Touch.setCell ⟨ql, 0, none⟩ (by simp) _))
            have HNe : Hid (m.bm.dev.dirty.length = 0 ∨ ∀ b, RIn (.agg D) b → b ∉ [qd, ql]) := Lib.hid (HRhi.out.imp id (fun h b hb hm => by simp only [List.mem_cons, List.not_mem_nil, or_false] at hm; have h1 := h b hb; have h2 := HRlo.out b hb; have h3 := HQd.out; have h4 := HQd1.out; have h5 := HQl.out; have h6 := HQl1.out; have s5 := HS5.out; have s6 := HS6.out; have s7 := HS7.out; have s8 := HS8.out; have s9 := HS9.out; omega))
            have HNc : Hid (∀ x, ar = some x → x.block ∉ [qd, ql]) := Lib.hid (fun x hx hm => by simp only [List.mem_cons, List.not_mem_nil, or_false] at hm; have h1 := HChi.out x hx; have h2 := HClo.out x hx; have h3 := HQd.out; have h4 := HQd1.out; have h5 := HQl.out; have h6 := HQl1.out; have s5 := HS5.out; have s6 := HS6.out; have s7 := HS7.out; have s8 := HS8.out; have s9 := HS9.out; omega)
            have HAq : Hid (∀ k ∈ A.list, k ∉ [qd, ql]) := Lib.hid (fun k hk hm => by simp only [List.mem_cons, List.not_mem_nil, or_false] at hm; have h1 := HA4.out.mem k hk; have h3 := HQd.out; have h4 := HQd1.out; have h5 := HQl.out; have h6 := HQl1.out; have s5 := HS5.out; have s6 := HS6.out; have s7 := HS7.out; have s8 := HS8.out; have s9 := HS9.out; omega)
            exact ⟨qd, ql, D, _, _, rfl, rfl, Lib.hid ((HY.out.set 3 0 (.slice ar 6 cr) rfl (Nat.lt_succ_self 0)).perm (.cons _ (.cons _ (.cons _ (.swap _ _ _))))), Lib.hid (HRA9.out.touch HTy.out HNe.out), Lib.hid (HCr9.out.touchL HTy.out (fun x hx _ => HNc.out x hx)), Lib.hid (HA9.out.keep (fun k hk => HTy.out.block k (HA9.out.mem k hk) (HAq.out k hk)))⟩
        · refine wpT3_sq (fun K hK => ?_)
          go_wp2_with fail
          have hb := below_alloc w6 (.cells zeroD 34)
          have HM7 := Lib.hid (HM6.out.alloc zeroD 34)
          have HA7 := Lib.hid (HA6.out.below hb)
          have HS7 := Lib.hid hb.size
          have HRA7 := Lib.hid (HRA6.out.below hb (Nat.le_refl _))
          have HCl7 := Lib.hid (HCl6.out.below hb (Nat.le_refl _))
          have hC7 := later_step hC6 hb
          clear hb
          go_wp2_with fail
          refine hK _ _ (fun _ => hC7) ?_
          clear hK K
          rw [show (#[.slice none 0 0, .slice none 0 0, .slice none 0 0, .slice none 0 0, .slice none 0 0, .int .i64 0, .int .i64 0, .bool false] : Array Value) = zeroD from rfl]
          generalize w6.alloc _ = w7 at *
          obtain ⟨qd, hqd⟩ : ∃ qd, qd = w6.heap.size := ⟨_, rfl⟩
          rw [← hqd] at HM7 ⊢
          have HQd := Lib.hid hqd
          have HQd1 := Lib.hid (HM7.out.glt 3 rfl)
          clear hqd
          refine wpT3_br ?_ ?_
          · refine wpT3_sq (fun K hK => ?_)
            go_wp2_with fail
            refine (HRefs.out _ _ _ HCl7.out).mono ?_
            rintro e w8 ⟨vr, rfl, ho, hb⟩
            obtain ⟨ar, cr, rfl, _, _⟩ := owned_form ho
            have HClo := Lib.hid (owned_addr ho)
            have HChi := Lib.hid (owned_lt ho)
            have HM8 := Lib.hid (HM7.out.later hb)
            have HA8 := Lib.hid (HA7.out.below hb)
            have HS8 := Lib.hid hb.size
            have HRA8 := Lib.hid (HRA7.out.below hb (Nat.le_refl _))
            have HCl8 := Lib.hid (HCl7.out.below hb (Nat.le_refl _))
            have hC8 := later_step hC7 hb
            have HCr8 := Lib.hid (Cells.owned3 ho)
            clear hb ho
            go_wp2_with fail
            refine hK _ _ (fun h => nomatch h) ?_
            clear hK K
            refine wpT3_sq (fun K hK => ?_)
            go_wp2_with fail
            have hb := below_alloc w8 (.cells #[.slice none 0 0] 36)
            have HM9 := Lib.hid (HM8.out.alloc #[.slice none 0 0] 36)
            have HA9 := Lib.hid (HA8.out.below hb)
            have HS9 := Lib.hid hb.size
            have HRA9 := Lib.hid (HRA8.out.below hb (Nat.le_refl _))
            have HCr9 := Lib.hid (HCr8.out.below hb (Nat.le_refl _))
            have hC9 := later_step hC8 hb
            clear hb
            go_wp2_with fail
            refine hK _ _ (fun _ => hC9) ?_
            clear hK K
            generalize w8.alloc _ = w9 at *
            obtain ⟨ql, hql⟩ : ∃ ql, ql = w8.heap.size := ⟨_, rfl⟩
            rw [← hql] at HM9 ⊢
            have HQl := Lib.hid hql
            have HQl1 := Lib.hid (HM9.out.glt 4 rfl)
            clear hql
            refine wpT3_last ?_
            go_wp2_with (refine wpList_store_mem aggRd HM9.out 3 rfl rfl rfl rfl rfl hD8 hD8.symm hD1 ?_; intro wy hy hty; have HY := Lib.hid hy; have HT := Lib.hid hty; clear hy hty; have cL := HY.out.cell 4 0 rfl rfl; have fL := HY.out.frozen 4 0 rfl)
            go_meet
            have HTy : Hid (Touch [qd, ql] w9 (wy.setCell ⟨ql, 0, none⟩ (.slice ar 6 cr))) := Lib.hid ((HT.out.wide (by simp)).trans (Touch.setCell ⟨ql, 0, none⟩ (by simp) _))
            have HNe : Hid (m.bm.dev.dirty.length = 0 ∨ ∀ b, RIn (.agg D) b → b ∉ [qd, ql]) := Lib.hid (HRhi.out.imp id (fun h b hb hm => by simp only [List.mem_cons, List.not_mem_nil, or_false] at hm; have h1 := h b hb; have h2 := HRlo.out b hb; have h3 := HQd.out; have h4 := HQd1.out; have h5 := HQl.out; have h6 := HQl1.out; have s5 := HS5.out; have s6 := HS6.out; have s7 := HS7.out; have s8 := HS8.out; have s9 := HS9.out; omega))
            have HNc : Hid (∀ x, ar = some x → x.block ∉ [qd, ql]) := Lib.hid (fun x hx hm => by simp only [List.mem_cons, List.not_mem_nil, or_false] at hm; have h1 := HChi.out x hx; have h2 := HClo.out x hx; have h3 := HQd.out; have h4 := HQd1.out; have h5 := HQl.out; have h6 := HQl1.out; have s5 := HS5.out; have s6 := HS6.out; have s7 := HS7.out; have s8 := HS8.out; have s9 := HS9.out; omega)
            have HAq : Hid (∀ k ∈ A.list, k ∉ [qd, ql]) := Lib.hid (fun k hk hm => by simp only [List.mem_cons, List.not_mem_nil, or_false] at hm; have h1 := HA4.out.mem k hk; have h3 := HQd.out; have h4 := HQd1.out; have h5 := HQl.out; have h6 := HQl1.out; have s5 := HS5.out; have s6 := HS6.out; have s7 := HS7.out; have s8 := HS8.out; have s9 := HS9.out; omega)
            exact ⟨qd, ql, D, _, _, rfl, rfl, Lib.hid (HY.out.set 4 0 (.slice ar 6 cr) rfl (Nat.lt_succ_self 0)), Lib.hid (HRA9.out.touch HTy.out HNe.out), Lib.hid (HCr9.out.touchL HTy.out (fun x hx _ => HNc.out x hx)), Lib.hid (HA9.out.keep (fun k hk => HTy.out.block k (HA9.out.mem k hk) (HAq.out k hk)))⟩
          · refine wpT3_sq (fun K hK => ?_)
            go_wp2_with fail
            have hb := below_alloc w7 (.cells #[.slice none 0 0] 36)
            have HM8 := Lib.hid (HM7.out.alloc #[.slice none 0 0] 36)
            have HA8 := Lib.hid (HA7.out.below hb)
            have HS8 := Lib.hid hb.size
            have HRA8 := Lib.hid (HRA7.out.below hb (Nat.le_refl _))
            have HCl8 := Lib.hid (HCl7.out.below hb (Nat.le_refl _))
            have hC8 := later_step hC7 hb
            clear hb
            go_wp2_with fail
            refine hK _ _ (fun _ => hC8) ?_
            clear hK K
            generalize w7.alloc _ = w8 at *
            obtain ⟨ql, hql⟩ : ∃ ql, ql = w7.heap.size := ⟨_, rfl⟩
            rw [← hql] at HM8 ⊢
            have HQl := Lib.hid hql
            have HQl1 := Lib.hid (HM8.out.glt 4 rfl)
            clear hql
            refine wpT3_last ?_
            go_wp2_with fail
            refine (HRefs.out _ _ _ HCl8.out).mono ?_
            rintro e w9 ⟨vr, rfl, ho, hb⟩
            obtain ⟨ar, cr, rfl, _, _⟩ := owned_form ho
            have HClo := Lib.hid (owned_addr ho)
            have HChi := Lib.hid (owned_lt ho)
            have HM9 := Lib.hid (HM8.out.later hb)
            have HA9 := Lib.hid (HA8.out.below hb)
            have HS9 := Lib.hid hb.size
            have HRA9 := Lib.hid (HRA8.out.below hb (Nat.le_refl _))
            have HCl9 := Lib.hid (HCl8.out.below hb (Nat.le_refl _))
            have hC9 := later_step hC8 hb
            have HCr9 := Lib.hid (Cells.owned3 ho)
            clear hb ho
            go_wp2_with (refine wpList_store_mem aggRd HM9.out 3 rfl rfl rfl rfl rfl hD8 hD8.symm hD1 ?_; intro wy hy hty; have HY := Lib.hid hy; have HT := Lib.hid hty; clear hy hty; have cL := HY.out.cell 4 0 rfl rfl; have fL := HY.out.frozen 4 0 rfl)
            go_meet
            have HTy : Hid (Touch [qd, ql] w9 (wy.setCell ⟨ql, 0, none⟩ (.slice ar 6 cr))) := Lib.hid ((HT.out.wide (by simp)).trans (Touch.setCell ⟨ql, 0, none⟩ (by simp) _))
            have HNe : Hid (m.bm.dev.dirty.length = 0 ∨ ∀ b, RIn (.agg D) b → b ∉ [qd, ql]) := Lib.hid (HRhi.out.imp id (fun h b hb hm => by simp only [List.mem_cons, List.not_mem_nil, or_false] at hm; have h1 := h b hb; have h2 := HRlo.out b hb; have h3 := HQd.out; have h4 := HQd1.out; have h5 := HQl.out; have h6 := HQl1.out; have s5 := HS5.out; have s6 := HS6.out; have s7 := HS7.out; have s8 := HS8.out; have s9 := HS9.out; omega))
            have HNc : Hid (∀ x, ar = some x → x.block ∉ [qd, ql]) := Lib.hid (fun x hx hm => by simp only [List.mem_cons, List.not_mem_nil, or_false] at hm; have h1 := HChi.out x hx; have h2 := HClo.out x hx; have h3 := HQd.out; have h4 := HQd1.out; have h5 := HQl.out; have h6 := HQl1.out; have s5 := HS5.out; have s6 := HS6.out; have s7 := HS7.out; have s8 := HS8.out; have s9 := HS9.out; omega)
            have HAq : Hid (∀ k ∈ A.list, k ∉ [qd, ql]) := Lib.hid (fun k hk hm => by simp only [List.mem_cons, List.not_mem_nil, or_false] at hm; have h1 := HA4.out.mem k hk; have h3 := HQd.out; have h4 := HQd1.out; have h5 := HQl.out; have h6 := HQl1.out; have s5 := HS5.out; have s6 := HS6.out; have s7 := HS7.out; have s8 := HS8.out; have s9 := HS9.out; omega)
            exact ⟨qd, ql, D, _, _, rfl, rfl, Lib.hid (HY.out.set 4 0 (.slice ar 6 cr) rfl (Nat.lt_succ_self 0)), Lib.hid (HRA9.out.touch HTy.out HNe.out), Lib.hid (HCr9.out.touchL HTy.out (fun x hx _ => HNc.out x hx)), Lib.hid (HA9.out.keep (fun k hk => HTy.out.block k (HA9.out.mem k hk) (HAq.out k hk)))⟩
        · refine wpT3_sq (fun K hK => ?_)
          go_wp2_with fail
          have hb := below_alloc w6 (.cells #[.slice none 0 0] 36)
          have HM7 := Lib.hid (HM6.out.alloc #[.slice none 0 0] 36)
          have HA7 := Lib.hid (HA6.out.below hb)
          have HS7 := Lib.hid hb.size
          have HRA7 := Lib.hid (HRA6.out.below hb (Nat.le_refl _))
          have HCl7 := Lib.hid (HCl6.out.below hb (Nat.le_refl _))
          have hC7 := later_step hC6 hb
          clear hb
          go_wp2_with fail
          refine hK _ _ (fun _ => hC7) ?_
          clear hK K
          generalize w6.alloc _ = w7 at *
          obtain ⟨ql, hql⟩ : ∃ ql, ql = w6.heap.size := ⟨_, rfl⟩
          rw [← hql] at HM7 ⊢
          have HQl := Lib.hid hql
          have HQl1 := Lib.hid (HM7.out.glt 3 rfl)
          clear hql
          refine wpT3_br ?_ ?_
          · refine wpT3_sq (fun K hK => ?_)
            go_wp2_with fail
            refine (HRefs.out _ _ _ HCl7.out).mono ?_
            rintro e w8 ⟨vr, rfl, ho, hb⟩
            obtain ⟨ar, cr, rfl, _, _⟩ := owned_form ho
            have HClo := Lib.hid (owned_addr ho)
            have HChi := Lib.hid (owned_lt ho)
            have HM8 := Lib.hid (HM7.out.later hb)
            have HA8 := Lib.hid (HA7.out.below hb)
            have HS8 := Lib.hid hb.size
            have HRA8 := Lib.hid (HRA7.out.below hb (Nat.le_refl _))
            have HCl8 := Lib.hid (HCl7.out.below hb (Nat.le_refl _))
            have hC8 := later_step hC7 hb
            have HCr8 := Lib.hid (Cells.owned3 ho)
            clear hb ho
            go_wp2_with fail
            refine hK _ _ (fun h => nomatch h) ?_
            clear hK K
            refine wpT3_sq (fun K hK => ?_)
            go_wp2_with fail
            have hb := below_alloc w8 (.cells zeroD 34)
            have HM9 := Lib.hid (HM8.out.alloc zeroD 34)
            have HA9 := Lib.hid (HA8.out.below hb)
            have HS9 := Lib.hid hb.size
            have HRA9 := Lib.hid (HRA8.out.below hb (Nat.le_refl _))
            have HCr9 := Lib.hid (HCr8.out.below hb (Nat.le_refl _))
            have hC9 := later_step hC8 hb
            clear hb
            go_wp2_with fail
            refine hK _ _ (fun _ => hC9) ?_
            clear hK K
            rw [show (#[.slice none 0 0, .slice none 0 0, .slice none 0 0, .slice none 0 0, .slice none 0 0, .int .i64 0, .int .i64 0, .bool false] : Array Value) = zeroD from rfl]
            generalize w8.alloc _ = w9 at *
            obtain ⟨qd, hqd⟩ : ∃ qd, qd = w8.heap.size := ⟨_, rfl⟩
            rw [← hqd] at HM9 ⊢
            have HQd := Lib.hid hqd
            have HQd1 := Lib.hid (HM9.out.glt 4 rfl)
            clear hqd
            refine wpT3_last ?_
            go_wp2_with (refine wpList_store_mem aggRd HM9.out 4 rfl rfl rfl rfl rfl hD8 hD8.symm hD1 ?_; intro wy hy hty; have HY := Lib.hid hy; have HT := Lib.hid hty; clear hy hty; have cL := HY.out.cell 3 0 rfl rfl; have fL := HY.out.frozen 3 0 rfl)
            go_meet
            have HTy : Hid (Touch [qd, ql] w9 (wy.setCell ⟨ql, 0, none⟩ (.slice ar 6 cr))) := Lib.hid ((HT.out.wide (by simp)).trans (Touch.setCell ⟨ql, 0, none⟩ (by simp) _))
            have HNe : Hid (m.bm.dev.dirty.length = 0 ∨ ∀ b, RIn (.agg D) b → b ∉ [qd, ql]) := Lib.hid (HRhi.out.imp id (fun h b hb hm => by simp only [List.mem_cons, List.not_mem_nil, or_false] at hm; have h1 := h b hb; have h2 := HRlo.out b hb; have h3 := HQd.out; have h4 := HQd1.out; have h5 := HQl.out; have h6 := HQl1.out; have s5 := HS5.out; have s6 := HS6.out; have s7 := HS7.out; have s8 := HS8.out; have s9 := HS9.out; omega))
            have HNc : Hid (∀ x, ar = some x → x.block ∉ [qd, ql]) := Lib.hid (fun x hx hm => by simp only [List.mem_cons, List.not_mem_nil, or_false] at hm; have h1 := HChi.out x hx; have h2 := HClo.out x hx; have h3 := HQd.out; have h4 := HQd1.out; have h5 := HQl.out; have h6 := HQl1.out; have s5 := HS5.out; have s6 := HS6.out; have s7 := HS7.out; have s8 := HS8.out; have s9 := HS9.out; omega)
            have HAq : Hid (∀ k ∈ A.list, k ∉ [qd, ql]) := Lib.hid (fun k hk hm => by simp only [List.mem_cons, List.not_mem_nil, or_false] at hm; have h1 := HA4.out.mem k hk; have h3 := HQd.out; have h4 := HQd1.out; have h5 := HQl.out; have h6 := HQl1.out; have s5 := HS5.out; have s6 := HS6.out; have s7 := HS7.out; have s8 := HS8.out; have s9 := HS9.out; omega)
            exact ⟨qd, ql, D, _, _, rfl, rfl, Lib.hid ((HY.out.set 3 0 (.slice ar 6 cr) rfl (Nat.lt_succ_self 0)).perm (.cons _ (.cons _ (.cons _ (.swap _ _ _))))), Lib.hid (HRA9.out.touch HTy.out HNe.out), Lib.hid (HCr9.out.touchL HTy.out (fun x hx _ => HNc.out x hx)), Lib.hid (HA9.out.keep (fun k hk => HTy.out.block k (HA9.out.mem k hk) (HAq.out k hk)))⟩
          · refine wpT3_sq (fun K hK => ?_)
            go_wp2_with fail
            have hb := below_alloc w7 (.cells zeroD 34)
            have HM8 := Lib.hid (HM7.out.alloc zeroD 34)
            have HA8 := Lib.hid (HA7.out.below hb)
            have HS8 := Lib.hid hb.size
            have HRA8 := Lib.hid (HRA7.out.below hb (Nat.le_refl _))
            have HCl8 := Lib.hid (HCl7.out.below hb (Nat.le_refl _))
            have hC8 := later_step hC7 hb
            clear hb
            go_wp2_with fail
            refine hK _ _ (fun _ => hC8) ?_
            clear hK K
            rw [show (#[.slice none 0 0, .slice none 0 0, .slice none 0 0, .slice none 0 0, .slice none 0 0, .int .i64 0, .int .i64 0, .bool false] : Array Value) = zeroD from rfl]
            generalize w7.alloc _ = w8 at *
            obtain ⟨qd, hqd⟩ : ∃ qd, qd = w7.heap.size := ⟨_, rfl⟩
            rw [← hqd] at HM8 ⊢
            have HQd := Lib.hid hqd
            have HQd1 := Lib.hid (HM8.out.glt 4 rfl)
            clear hqd
            refine wpT3_last ?_
            go_wp2_with fail
            refine (HRefs.out _ _ _ HCl8.out).mono ?_
            rintro e w9 ⟨vr, rfl, ho, hb⟩
            obtain ⟨ar, cr, rfl, _, _⟩ := owned_form ho
            have HClo := Lib.hid (owned_addr ho)
            have HChi := Lib.hid (owned_lt ho)
            have HM9 := Lib.hid (HM8.out.later hb)
            have HA9 := Lib.hid (HA8.out.below hb)
            have HS9 := Lib.hid hb.size
            have HRA9 := Lib.hid (HRA8.out.below hb (Nat.le_refl _))
            have HCl9 := Lib.hid (HCl8.out.below hb (Nat.le_refl _))
            have hC9 := later_step hC8 hb
            have HCr9 := Lib.hid (Cells.owned3 ho)
            clear hb ho
            go_wp2_with (refine wpList_store_mem aggRd HM9.out 4 rfl rfl rfl rfl rfl hD8 hD8.symm hD1 ?_; intro wy hy hty; have HY := Lib.hid hy; have HT := Lib.hid hty; clear hy hty; have cL := HY.out.cell 3 0 rfl rfl; have fL := HY.out.frozen 3 0 rfl)
            go_meet
            have HTy : Hid (Touch [qd, ql] w9 (wy.setCell ⟨ql, 0, none⟩ (.slice ar 6 cr))) := Lib.hid ((HT.out.wide (by simp)).trans (Touch.setCell ⟨ql, 0, none⟩ (by simp) _))
            have HNe : Hid (m.bm.dev.dirty.length = 0 ∨ ∀ b, RIn (.agg D) b → b ∉ [qd, ql]) := Lib.hid (HRhi.out.imp id (fun h b hb hm => by simp only [List.mem_cons, List.not_mem_nil, or_false] at hm; have h1 := h b hb; have h2 := HRlo.out b hb; have h3 := HQd.out; have h4 := HQd1.out; have h5 := HQl.out; have h6 := HQl1.out; have s5 := HS5.out; have s6 := HS6.out; have s7 := HS7.out; have s8 := HS8.out; have s9 := HS9.out; omega))
            have HNc : Hid (∀ x, ar = some x → x.block ∉ [qd, ql]) := Lib.hid (fun x hx hm => by simp only [List.mem_cons, List.not_mem_nil, or_false] at hm; have h1 := HChi.out x hx; have h2 := HClo.out x hx; have h3 := HQd.out; have h4 := HQd1.out; have h5 := HQl.out; have h6 := HQl1.out; have s5 := HS5.out; have s6 := HS6.out; have s7 := HS7.out; have s8 := HS8.out; have s9 := HS9.out; omega)
            have HAq : Hid (∀ k ∈ A.list, k ∉ [qd, ql]) := Lib.hid (fun k hk hm => by simp only [List.mem_cons, List.not_mem_nil, or_false] at hm; have h1 := HA4.out.mem k hk; have h3 := HQd.out; have h4 := HQd1.out; have h5 := HQl.out; have h6 := HQl1.out; have s5 := HS5.out; have s6 := HS6.out; have s7 := HS7.out; have s8 := HS8.out; have s9 := HS9.out; omega)
            exact ⟨qd, ql, D, _, _, rfl, rfl, Lib.hid ((HY.out.set 3 0 (.slice ar 6 cr) rfl (Nat.lt_succ_self 0)).perm (.cons _ (.cons _ (.cons _ (.swap _ _ _))))), Lib.hid (HRA9.out.touch HTy.out HNe.out), Lib.hid (HCr9.out.touchL HTy.out (fun x hx _ => HNc.out x hx)), Lib.hid (HA9.out.keep (fun k hk => HTy.out.block k (HA9.out.mem k hk) (HAq.out k hk)))⟩
      · refine wpT3_sq (fun K hK => ?_)
        go_wp2_with fail
        have hb := below_alloc w5 (.cells zeroD 34)
        have HM6 := Lib.hid (HM5.out.alloc zeroD 34)
        have HA6 := Lib.hid (HA5.out.below hb)
        have HS6 := Lib.hid hb.size
        have HRA6 := Lib.hid (HRA5.out.below hb (Nat.le_refl _))
        have hC6 := later_step hC5 hb
        clear hb
        go_wp2_with fail
        refine hK _ _ (fun _ => hC6) ?_
        clear hK K
        rw [show (#[.slice none 0 0, .slice none 0 0, .slice none 0 0, .slice none 0 0, .slice none 0 0, .int .i64 0, .int .i64 0, .bool false] : Array Value) = zeroD from rfl]
        generalize w5.alloc _ = w6 at *
        obtain ⟨qd, hqd⟩ : ∃ qd, qd = w5.heap.size := ⟨_, rfl⟩
        rw [← hqd] at HM6 ⊢
        have HQd := Lib.hid hqd
        have HQd1 := Lib.hid (HM6.out.glt 3 rfl)
        clear hqd
        refine wpT3_br ?_ ?_
        · refine wpT3_sq (fun K hK => ?_)
          go_wp2_with fail
          refine (HAll.out _ HA6.out).mono ?_
          rintro e w7 ⟨gl, kl, rfl, _, _, hrow, hb⟩
          have HM7 := Lib.hid (HM6.out.later hb)
          have HA7 := Lib.hid (HA6.out.below hb)
          have HS7 := Lib.hid hb.size
          have HRA7 := Lib.hid (HRA6.out.below hb (Nat.le_refl _))
          have hC7 := later_step hC6 hb
          have HCl7 := Lib.hid hrow.cells
          clear hb hrow
          go_wp2_with fail
          refine hK _ _ (fun h => nomatch h) ?_
          clear hK K
          refine wpT3_br ?_ ?_
          · refine wpT3_sq (fun K hK => ?_)
            go_wp2_with fail
            refine (HRefs.out _ _ _ HCl7.out).mono ?_
            rintro e w8 ⟨vr, rfl, ho, hb⟩
            obtain ⟨ar, cr, rfl, _, _⟩ := owned_form ho
            have HClo := Lib.hid (owned_addr ho)
            have HChi := Lib.hid (owned_lt ho)
            have HM8 := Lib.hid (HM7.out.later hb)
            have HA8 := Lib.hid (HA7.out.below hb)
            have HS8 := Lib.hid hb.size
            have HRA8 := Lib.hid (HRA7.out.below hb (Nat.le_refl _))
            have HCl8 := Lib.hid (HCl7.out.below hb (Nat.le_refl _))
            have hC8 := later_step hC7 hb
            have HCr8 := Lib.hid (Cells.owned3 ho)
            clear hb ho
            go_wp2_with fail
            refine hK _ _ (fun h => nomatch h) ?_
            clear hK K
            refine wpT3_sq (fun K hK => ?_)
            go_wp2_with fail
            have hb := below_alloc w8 (.cells #[.slice none 0 0] 36)
            have HM9 := Lib.hid (HM8.out.alloc #[.slice none 0 0] 36)
            have HA9 := Lib.hid (HA8.out.below hb)
            have HS9 := Lib.hid hb.size
            have HRA9 := Lib.hid (HRA8.out.below hb (Nat.le_refl _))
            have HCr9 := Lib.hid (HCr8.out.below hb (Nat.le_refl _))
            have hC9 := later_step hC8 hb
            clear hb
            go_wp2_with fail
            refine hK _ _ (fun _ => hC9) ?_
            clear hK K
            generalize w8.alloc _ = w9 at *
            obtain ⟨ql, hql⟩ : ∃ ql, ql = w8.heap.size := ⟨_, rfl⟩
            rw [← hql] at HM9 ⊢
            have HQl := Lib.hid hql
            have HQl1 := Lib.hid (HM9.out.glt 4 rfl)
            clear hql
            refine wpT3_last ?_
            go_wp2_with (refine wpList_store_mem aggRd HM9.out 3 rfl rfl rfl rfl rfl hD8 hD8.symm hD1 ?_; intro wy hy hty; have HY := Lib.hid hy; have HT := Lib.hid hty; clear hy hty; have cL := HY.out.cell 4 0 rfl rfl; have fL := HY.out.frozen 4 0 rfl)
            go_meet
            have HTy : Hid (Touch [qd, ql] w9 (wy.setCell ⟨ql, 0, none⟩ (.slice ar 6 cr))) := Lib.hid ((HT.out.wide (by simp)).trans (Touch.setCell ⟨ql, 0, none⟩ (by simp) _))
            have HNe : Hid (m.bm.dev.dirty.length = 0 ∨ ∀ b, RIn (.agg D) b → b ∉ [qd, ql]) := Lib.hid (HRhi.out.imp id (fun h b hb hm => by simp only [List.mem_cons, List.not_mem_nil, or_false] at hm; have h1 := h b hb; have h2 := HRlo.out b hb; have h3 := HQd.out; have h4 := HQd1.out; have h5 := HQl.out; have h6 := HQl1.out; have s5 := HS5.out; have s6 := HS6.out; have s7 := HS7.out; have s8 := HS8.out; have s9 := HS9.out; omega))
            have HNc : Hid (∀ x, ar = some x → x.block ∉ [qd, ql]) := Lib.hid (fun x hx hm => by simp only [List.mem_cons, List.not_mem_nil, or_false] at hm; have h1 := HChi.out x hx; have h2 := HClo.out x hx; have h3 := HQd.out; have h4 := HQd1.out; have h5 := HQl.out; have h6 := HQl1.out; have s5 := HS5.out; have s6 := HS6.out; have s7 := HS7.out; have s8 := HS8.out; have s9 := HS9.out; omega)
            have HAq : Hid (∀ k ∈ A.list, k ∉ [qd, ql]) := Lib.hid (fun k hk hm => by simp only [List.mem_cons, List.not_mem_nil, or_false] at hm; have h1 := HA4.out.mem k hk; have h3 := HQd.out; have h4 := HQd1.out; have h5 := HQl.out; have h6 := HQl1.out; have s5 := HS5.out; have s6 := HS6.out; have s7 := HS7.out; have s8 := HS8.out; have s9 := HS9.out; omega)
            exact ⟨qd, ql, D, _, _, rfl, rfl, Lib.hid (HY.out.set 4 0 (.slice ar 6 cr) rfl (Nat.lt_succ_self 0)), Lib.hid (HRA9.out.touch HTy.out HNe.out), Lib.hid (HCr9.out.touchL HTy.out (fun x hx _ => HNc.out x hx)), Lib.hid (HA9.out.keep (fun k hk => HTy.out.block k (HA9.out.mem k hk) (HAq.out k hk)))⟩
          · refine wpT3_sq (fun K hK => ?_)
            go_wp2_with fail
            have hb := below_alloc w7 (.cells #[.slice none 0 0] 36)
            have HM8 := Lib.hid (HM7.out.alloc #[.slice none 0 0] 36)
            have HA8 := Lib.hid (HA7.out.below hb)
            have HS8 := Lib.hid hb.size
            have HRA8 := Lib.hid (HRA7.out.below hb (Nat.le_refl _))
            have HCl8 := Lib.hid (HCl7.out.below hb (Nat.le_refl _))
            have hC8 := later_step hC7 hb
            clear hb
            go_wp2_with fail
            refine hK _ _ (fun _ => hC8) ?_
            clear hK K
            generalize w7.alloc _ = w8 at *
            obtain ⟨ql, hql⟩ : ∃ ql, ql = w7.heap.size := ⟨_, rfl⟩
            rw [← hql] at HM8 ⊢
            have HQl := Lib.hid hql
            have HQl1 := Lib.hid (HM8.out.glt 4 rfl)
            clear hql
            refine wpT3_last ?_
            go_wp2_with fail
            refine (HRefs.out _ _ _ HCl8.out).mono ?_
            rintro e w9 ⟨vr, rfl, ho, hb⟩
            obtain ⟨ar, cr, rfl, _, _⟩ := owned_form ho
            have HClo := Lib.hid (owned_addr ho)
            have HChi := Lib.hid (owned_lt ho)
            have HM9 := Lib.hid (HM8.out.later hb)
            have HA9 := Lib.hid (HA8.out.below hb)
            have HS9 := Lib.hid hb.size
            have HRA9 := Lib.hid (HRA8.out.below hb (Nat.le_refl _))
            have HCl9 := Lib.hid (HCl8.out.below hb (Nat.le_refl _))
            have hC9 := later_step hC8 hb
            have HCr9 := Lib.hid (Cells.owned3 ho)
            clear hb ho
            go_wp2_with (refine wpList_store_mem aggRd HM9.out 3 rfl rfl rfl rfl rfl hD8 hD8.symm hD1 ?_; intro wy hy hty; have HY := Lib.hid hy; have HT := Lib.hid hty; clear hy hty; have cL := HY.out.cell 4 0 rfl rfl; have fL := HY.out.frozen 4 0 rfl)
            go_meet
            have HTy : Hid (Touch [qd, ql] w9 (wy.setCell ⟨ql, 0, none⟩ (.slice ar 6 cr))) := Lib.hid ((HT.out.wide (by simp)).trans (Touch.setCell ⟨ql, 0, none⟩ (by simp) _))
            have HNe : Hid (m.bm.dev.dirty.length = 0 ∨ ∀ b, RIn (.agg D) b → b ∉ [qd, ql]) := Lib.hid (HRhi.out.imp id (fun h b hb hm => by simp only [List.mem_cons, List.not_mem_nil, or_false] at hm; have h1 := h b hb; have h2 := HRlo.out b hb; have h3 := HQd.out; have h4 := HQd1.out; have h5 := HQl.out; have h6 := HQl1.out; have s5 := HS5.out; have s6 := HS6.out; have s7 := HS7.out; have s8 := HS8.out; have s9 := HS9.out; omega))
            have HNc : Hid (∀ x, ar = some x → x.block ∉ [qd, ql]) := Lib.hid (fun x hx hm => by simp only [List.mem_cons, List.not_mem_nil, or_false] at hm; have h1 := HChi.out x hx; have h2 := HClo.out x hx; have h3 := HQd.out; have h4 := HQd1.out; have h5 := HQl.out; have h6 := HQl1.out; have s5 := HS5.out; have s6 := HS6.out; have s7 := HS7.out; have s8 := HS8.out; have s9 := HS9.out; omega)
            have HAq : Hid (∀ k ∈ A.list, k ∉ [qd, ql]) := Lib.hid (fun k hk hm => by simp only [List.mem_cons, List.not_mem_nil, or_false] at hm; have h1 := HA4.out.mem k hk; have h3 := HQd.out; have h4 := HQd1.out; have h5 := HQl.out; have h6 := HQl1.out; have s5 := HS5.out; have s6 := HS6.out; have s7 := HS7.out; have s8 := HS8.out; have s9 := HS9.out; omega)
            exact ⟨qd, ql, D, _, _, rfl, rfl, Lib.hid (HY.out.set 4 0 (.slice ar 6 cr) rfl (Nat.lt_succ_self 0)), Lib.hid (HRA9.out.touch HTy.out HNe.out), Lib.hid (HCr9.out.touchL HTy.out (fun x hx _ => HNc.out x hx)), Lib.hid (HA9.out.keep (fun k hk => HTy.out.block k (HA9.out.mem k hk) (HAq.out k hk)))⟩
        · refine wpT3_sq (fun K hK => ?_)
          go_wp2_with fail
          have hb := below_alloc w6 (.cells #[.slice none 0 0] 36)
          have HM7 := Lib.hid (HM6.out.alloc #[.slice none 0 0] 36)
          have HA7 := Lib.hid (HA6.out.below hb)
          have HS7 := Lib.hid hb.size
          have HRA7 := Lib.hid (HRA6.out.below hb (Nat.le_refl _))
          have hC7 := later_step hC6 hb
          clear hb
          go_wp2_with fail
          refine hK _ _ (fun _ => hC7) ?_
          clear hK K
          generalize w6.alloc _ = w7 at *
          obtain ⟨ql, hql⟩ : ∃ ql, ql = w6.heap.size := ⟨_, rfl⟩
          rw [← hql] at HM7 ⊢
          have HQl := Lib.hid hql
          have HQl1 := Lib.hid (HM7.out.glt 4 rfl)
          clear hql
          refine wpT3_last ?_
          go_wp2_with fail
          refine (HAll.out _ HA7.out).mono ?_
          rintro e w8 ⟨gl, kl, rfl, _, _, hrow, hb⟩
          have HM8 := Lib.hid (HM7.out.later hb)
          have HA8 := Lib.hid (HA7.out.below hb)
          have HS8 := Lib.hid hb.size
          have HRA8 := Lib.hid (HRA7.out.below hb (Nat.le_refl _))
          have hC8 := later_step hC7 hb
          have HCl8 := Lib.hid hrow.cells
          clear hb hrow
          go_wp2_with fail
          refine (HRefs.out _ _ _ HCl8.out).mono ?_
          rintro e w9 ⟨vr, rfl, ho, hb⟩
          obtain ⟨ar, cr, rfl, _, _⟩ := owned_form ho
          have HClo := Lib.hid (owned_addr ho)
          have HChi := Lib.hid (owned_lt ho)
          have HM9 := Lib.hid (HM8.out.later hb)
          have HA9 := Lib.hid (HA8.out.below hb)
          have HS9 := Lib.hid hb.size
          have HRA9 := Lib.hid (HRA8.out.below hb (Nat.le_refl _))
          have HCl9 := Lib.hid (HCl8.out.below hb (Nat.le_refl _))
          have hC9 := later_step hC8 hb
          have HCr9 := Lib.hid (Cells.owned3 ho)
          clear hb ho
          go_wp2_with (refine wpList_store_mem aggRd HM9.out 3 rfl rfl rfl rfl rfl hD8 hD8.symm hD1 ?_; intro wy hy hty; have HY := Lib.hid hy; have HT := Lib.hid hty; clear hy hty; have cL := HY.out.cell 4 0 rfl rfl; have fL := HY.out.frozen 4 0 rfl)
          go_meet
          have HTy : Hid (Touch [qd, ql] w9 (wy.setCell ⟨ql, 0, none⟩ (.slice ar 6 cr))) := Lib.hid ((HT.out.wide (by simp)).trans (Touch.setCell ⟨ql, 0, none⟩ (by simp) _))
          have HNe : Hid (m.bm.dev.dirty.length = 0 ∨ ∀ b, RIn (.agg D) b → b ∉ [qd, ql]) := Lib.hid (HRhi.out.imp id (fun h b hb hm => by simp only [List.mem_cons, List.not_mem_nil, or_false] at hm; have h1 := h b hb; have h2 := HRlo.out b hb; have h3 := HQd.out; have h4 := HQd1.out; have h5 := HQl.out; have h6 := HQl1.out; have s5 := HS5.out; have s6 := HS6.out; have s7 := HS7.out; have s8 := HS8.out; have s9 := HS9.out; omega))
          have HNc : Hid (∀ x, ar = some x → x.block ∉ [qd, ql]) := Lib.hid (fun x hx hm => by simp only [List.mem_cons, List.not_mem_nil, or_false] at hm; have h1 := HChi.out x hx; have h2 := HClo.out x hx; have h3 := HQd.out; have h4 := HQd1.out; have h5 := HQl.out; have h6 := HQl1.out; have s5 := HS5.out; have s6 := HS6.out; have s7 := HS7.out; have s8 := HS8.out; have s9 := HS9.out; omega)
          have HAq : Hid (∀ k ∈ A.list, k ∉ [qd, ql]) := Lib.hid (fun k hk hm => by simp only [List.mem_cons, List.not_mem_nil, or_false] at hm; have h1 := HA4.out.mem k hk; have h3 := HQd.out; have h4 := HQd1.out; have h5 := HQl.out; have h6 := HQl1.out; have s5 := HS5.out; have s6 := HS6.out; have s7 := HS7.out; have s8 := HS8.out; have s9 := HS9.out; omega)
          exact ⟨qd, ql, D, _, _, rfl, rfl, Lib.hid (HY.out.set 4 0 (.slice ar 6 cr) rfl (Nat.lt_succ_self 0)), Lib.hid (HRA9.out.touch HTy.out HNe.out), Lib.hid (HCr9.out.touchL HTy.out (fun x hx _ => HNc.out x hx)), Lib.hid (HA9.out.keep (fun k hk => HTy.out.block k (HA9.out.mem k hk) (HAq.out k hk)))⟩
      · refine wpT3_sq (fun K hK => ?_)
        go_wp2_with fail
        have hb := below_alloc w5 (.cells #[.slice none 0 0] 36)
        have HM6 := Lib.hid (HM5.out.alloc #[.slice none 0 0] 36)
        have HA6 := Lib.hid (HA5.out.below hb)
        have HS6 := Lib.hid hb.size
        have HRA6 := Lib.hid (HRA5.out.below hb (Nat.le_refl _))
        have hC6 := later_step hC5 hb
        clear hb
        go_wp2_with fail
        refine hK _ _ (fun _ => hC6) ?_
        clear hK K
        generalize w5.alloc _ = w6 at *
        obtain ⟨ql, hql⟩ : ∃ ql, ql = w5.heap.size := ⟨_, rfl⟩
        rw [← hql] at HM6 ⊢
        have HQl := Lib.hid hql
        have HQl1 := Lib.hid (HM6.out.glt 3 rfl)
        clear hql
        refine wpT3_br ?_ ?_
        · refine wpT3_sq (fun K hK => ?_)
          go_wp2_with fail
          refine (HAll.out _ HA6.out).mono ?_
          rintro e w7 ⟨gl, kl, rfl, _, _, hrow, hb⟩
          have HM7 := Lib.hid (HM6.out.later hb)
          have HA7 := Lib.hid (HA6.out.below hb)
          have HS7 := Lib.hid hb.size
          have HRA7 := Lib.hid (HRA6.out.below hb (Nat.le_refl _))
          have hC7 := later_step hC6 hb
          have HCl7 := Lib.hid hrow.cells
          clear hb hrow
          go_wp2_with fail
          refine hK _ _ (fun h => nomatch h) ?_
          clear hK K
          refine wpT3_br ?_ ?_
          · refine wpT3_sq (fun K hK => ?_)
            go_wp2_with fail
            refine (HRefs.out _ _ _ HCl7.out).mono ?_
            rintro e w8 ⟨vr, rfl, ho, hb⟩
            obtain ⟨ar, cr, rfl, _, _⟩ := owned_form ho
            have HClo := Lib.hid (owned_addr ho)
            have HChi := Lib.hid (owned_lt ho)
            have HM8 := Lib.hid (HM7.out.later hb)
            have HA8 := Lib.hid (HA7.out.below hb)
            have HS8 := Lib.hid hb.size
            have HRA8 := Lib.hid (HRA7.out.below hb (Nat.le_refl _))
            have HCl8 := Lib.hid (HCl7.out.below hb (Nat.le_refl _))
            have hC8 := later_step hC7 hb
            have HCr8 := Lib.hid (Cells.owned3 ho)
            clear hb ho
            go_wp2_with fail
            refine hK _ _ (fun h => nomatch h) ?_
            clear hK K
            refine wpT3_sq (fun K hK => ?_)
            go_wp2_with fail
            have hb := below_alloc w8 (.cells zeroD 34)
            have HM9 := Lib.hid (HM8.out.alloc zeroD 34)
            have HA9 := Lib.hid (HA8.out.below hb)
            have HS9 := Lib.hid hb.size
            have HRA9 := Lib.hid (HRA8.out.below hb (Nat.le_refl _))
            have HCr9 := Lib.hid (HCr8.out.below hb (Nat.le_refl _))
            have hC9 := later_step hC8 hb
            clear hb
            go_wp2_with fail
            refine hK _ _ (fun _ => hC9) ?_
            clear hK K
            rw [show (#[.slice none 0 0, .slice none 0 0, .slice none 0 0, .slice none 0 0, .slice none 0 0, .int .i64 0, .int .i64 0, .bool false] : Array Value) = zeroD from rfl]
            generalize w8.alloc _ = w9 at *
            obtain ⟨qd, hqd⟩ : ∃ qd, qd = w8.heap.size := ⟨_, rfl⟩
            rw [← hqd] at HM9 ⊢
            have HQd := Lib.hid hqd
            have HQd1 := Lib.hid (HM9.out.glt 4 rfl)
            clear hqd
            refine wpT3_last ?_
            go_wp2_with (refine wpList_store_mem aggRd HM9.out 4 rfl rfl rfl rfl rfl hD8 hD8.symm hD1 ?_; intro wy hy hty; have HY := Lib.hid hy; have HT := Lib.hid hty; clear hy hty; have cL := HY.out.cell 3 0 rfl rfl; have fL := HY.out.frozen 3 0 rfl)
            go_meet
            have HTy : Hid (Touch [qd, ql] w9 (wy.setCell ⟨ql, 0, none⟩ (.slice ar 6 cr))) := Lib.hid ((HT.out.wide (by simp)).trans (Touch.setCell ⟨ql, 0, none⟩ (by simp) _))
            have HNe : Hid (m.bm.dev.dirty.length = 0 ∨ ∀ b, RIn (.agg D) b → b ∉ [qd, ql]) := Lib.hid (HRhi.out.imp id (fun h b hb hm => by simp only [List.mem_cons, List.not_mem_nil, or_false] at hm; have h1 := h b hb; have h2 := HRlo.out b hb; have h3 := HQd.out; have h4 := HQd1.out; have h5 := HQl.out; have h6 := HQl1.out; have s5 := HS5.out; have s6 := HS6.out; have s7 := HS7.out; have s8 := HS8.out; have s9 := HS9.out; omega))
            have HNc : Hid (∀ x, ar = some x → x.block ∉ [qd, ql]) := Lib.hid (fun x hx hm => by simp only [List.mem_cons, List.not_mem_nil, or_false] at hm; have h1 := HChi.out x hx; have h2 := HClo.out x hx; have h3 := HQd.out; have h4 := HQd1.out; have h5 := HQl.out; have h6 := HQl1.out; have s5 := HS5.out; have s6 := HS6.out; have s7 := HS7.out; have s8 := HS8.out; have s9 := HS9.out; omega)
            have HAq : Hid (∀ k ∈ A.list, k ∉ [qd, ql]) := Lib.hid (fun k hk hm => by simp only [List.mem_cons, List.not_mem_nil, or_false] at hm; have h1 := HA4.out.mem k hk; have h3 := HQd.out; have h4 := HQd1.out; have h5 := HQl.out; have h6 := HQl1.out; have s5 := HS5.out; have s6 := HS6.out; have s7 := HS7.out; have s8 := HS8.out; have s9 := HS9.out; omega)
            exact ⟨qd, ql, D, _, _, rfl, rfl, Lib.hid ((HY.out.set 3 0 (.slice ar 6 cr) rfl (Nat.lt_succ_self 0)).perm (.cons _ (.cons _ (.cons _ (.swap _ _ _))))), Lib.hid (HRA9.out.touch HTy.out HNe.out), Lib.hid (HCr9.out.touchL HTy.out (fun x hx _ => HNc.out x hx)), Lib.hid (HA9.out.keep (fun k hk => HTy.out.block k (HA9.out.mem k hk) (HAq.out k hk)))⟩
          · refine wpT3_sq (fun K hK => ?_)
            go_wp2_with fail
            have hb := below_alloc w7 (.cells zeroD 34)
            have HM8 := Lib.hid (HM7.out.alloc zeroD 34)
            have HA8 := Lib.hid (HA7.out.below hb)
            have HS8 := Lib.hid hb.size
            have HRA8 := Lib.hid (HRA7.out.below hb (Nat.le_refl _))
            have HCl8 := Lib.hid (HCl7.out.below hb (Nat.le_refl _))
            have hC8 := later_step hC7 hb
            clear hb
            go_wp2_with fail
            refine hK _ _ (fun _ => hC8) ?_
            clear hK K
            rw [show (#[.slice none 0 0, .slice none 0 0, .slice none 0 0, .slice none 0 0, .slice none 0 0, .int .i64 0, .int .i64 0, .bool false] : Array Value) = zeroD from rfl]
            generalize w7.alloc _ = w8 at *
            obtain ⟨qd, hqd⟩ : ∃ qd, qd = w7.heap.size := ⟨_, rfl⟩
            rw [← hqd] at HM8 ⊢
            have HQd := Lib.hid hqd
            have HQd1 := Lib.hid (HM8.out.glt 4 rfl)
            clear hqd
            refine wpT3_last ?_
            go_wp2_with fail
            refine (HRefs.out _ _ _ HCl8.out).mono ?_
            rintro e w9 ⟨vr, rfl, ho, hb⟩
            obtain ⟨ar, cr, rfl, _, _⟩ := owned_form ho
            have HClo := Lib.hid (owned_addr ho)
            have HChi := Lib.hid (owned_lt ho)
            have HM9 := Lib.hid (HM8.out.later hb)
            have HA9 := Lib.hid (HA8.out.below hb)
            have HS9 := Lib.hid hb.size
            have HRA9 := Lib.hid (HRA8.out.below hb (Nat.le_refl _))
            have HCl9 := Lib.hid (HCl8.out.below hb (Nat.le_refl _))
            have hC9 := later_step hC8 hb
            have HCr9 := Lib.hid (Cells.owned3 ho)
            clear hb ho
            go_wp2_with (refine wpList_store_mem aggRd HM9.out 4 rfl rfl rfl rfl rfl hD8 hD8.symm hD1 ?_; intro wy hy hty; have HY := Lib.hid hy; have HT := Lib.hid hty; clear hy hty; have cL := HY.out.cell 3 0 rfl rfl; have fL := HY.out.frozen 3 0 rfl)
            go_meet
            have HTy : Hid (Touch [qd, ql] w9 (wy.setCell ⟨ql, 0, none⟩ (.slice ar 6 cr))) := Lib.hid ((HT.out.wide (by simp)).trans (Touch.setCell ⟨ql, 0, none⟩ (by simp) _))
            have HNe : Hid (m.bm.dev.dirty.length = 0 ∨ ∀ b, RIn (.agg D) b → b ∉ [qd, ql]) := Lib.hid (HRhi.out.imp id (fun h b hb hm => by simp only [List.mem_cons, List.not_mem_nil, or_false] at hm; have h1 := h b hb; have h2 := HRlo.out b hb; have h3 := HQd.out; have h4 := HQd1.out; have h5 := HQl.out; have h6 := HQl1.out; have s5 := HS5.out; have s6 := HS6.out; have s7 := HS7.out; have s8 := HS8.out; have s9 := HS9.out; omega))
            have HNc : Hid (∀ x, ar = some x → x.block ∉ [qd, ql]) := Lib.hid (fun x hx hm => by simp only [List.mem_cons, List.not_mem_nil, or_false] at hm; have h1 := HChi.out x hx; have h2 := HClo.out x hx; have h3 := HQd.out; have h4 := HQd1.out; have h5 := HQl.out; have h6 := HQl1.out; have s5 := HS5.out; have s6 := HS6.out; have s7 := HS7.out; have s8 := HS8.out; have s9 := HS9.out; omega)
            have HAq : Hid (∀ k ∈ A.list, k ∉ [qd, ql]) := Lib.hid (fun k hk hm => by simp only [List.mem_cons, List.not_mem_nil, or_false] at hm; have h1 := HA4.out.mem k hk; have h3 := HQd.out; have h4 := HQd1.out; have h5 := HQl.out; have h6 := HQl1.out; have s5 := HS5.out; have s6 := HS6.out; have s7 := HS7.out; have s8 := HS8.out; have s9 := HS9.out; omega)
            exact ⟨qd, ql, D, _, _, rfl, rfl, Lib.hid ((HY.out.set 3 0 (.slice ar 6 cr) rfl (Nat.lt_succ_self 0)).perm (.cons _ (.cons _ (.cons _ (.swap _ _ _))))), Lib.hid (HRA9.out.touch HTy.out HNe.out), Lib.hid (HCr9.out.touchL HTy.out (fun x hx _ => HNc.out x hx)), Lib.hid (HA9.out.keep (fun k hk => HTy.out.block k (HA9.out.mem k hk) (HAq.out k hk)))⟩
        · refine wpT3_sq (fun K hK => ?_)
          go_wp2_with fail
          have hb := below_alloc w6 (.cells zeroD 34)
          have HM7 := Lib.hid (HM6.out.alloc zeroD 34)
          have HA7 := Lib.hid (HA6.out.below hb)
          have HS7 := Lib.hid hb.size
          have HRA7 := Lib.hid (HRA6.out.below hb (Nat.le_refl _))
          have hC7 := later_step hC6 hb
          clear hb
          go_wp2_with fail
          refine hK _ _ (fun _ => hC7) ?_
          clear hK K
          rw [show (#[.slice none 0 0, .slice none 0 0, .slice none 0 0, .slice none 0 0, .slice none 0 0, .int .i64 0, .int .i64 0, .bool false] : Array Value) = zeroD from rfl]
          generalize w6.alloc _ = w7 at *
          obtain ⟨qd, hqd⟩ : ∃ qd, qd = w6.heap.size := ⟨_, rfl⟩
          rw [← hqd] at HM7 ⊢
          have HQd := Lib.hid hqd
          have HQd1 := Lib.hid (HM7.out.glt 4 rfl)
          clear hqd
          refine wpT3_last ?_
          go_wp2_with fail
          refine (HAll.out _ HA7.out).mono ?_
          rintro e w8 ⟨gl, kl, rfl, _, _, hrow, hb⟩
          have HM8 := Lib.hid (HM7.out.later hb)
          have HA8 := Lib.hid (HA7.out.below hb)
          have HS8 := Lib.hid hb.size
          have HRA8 := Lib.hid (HRA7.out.below hb (Nat.le_refl _))
          have hC8 := later_step hC7 hb
          have HCl8 := Lib.hid hrow.cells
          clear hb hrow
          go_wp2_with fail
          refine (HRefs.out _ _ _ HCl8.out).mono ?_
          rintro e w9 ⟨vr, rfl, ho, hb⟩
          obtain ⟨ar, cr, rfl, _, _⟩ := owned_form ho
          have HClo := Lib.hid (owned_addr ho)
          have HChi := Lib.hid (owned_lt ho)
          have HM9 := Lib.hid (HM8.out.later hb)
          have HA9 := Lib.hid (HA8.out.below hb)
          have HS9 := Lib.hid hb.size
          have HRA9 := Lib.hid (HRA8.out.below hb (Nat.le_refl _))
          have HCl9 := Lib.hid (HCl8.out.below hb (Nat.le_refl _))
          have hC9 := later_step hC8 hb
          have HCr9 := Lib.hid (Cells.owned3 ho)
          clear hb ho
          go_wp2_with (refine wpList_store_mem aggRd HM9.out 4 rfl rfl rfl rfl rfl hD8 hD8.symm hD1 ?_; intro wy hy hty; have HY := Lib.hid hy; have HT := Lib.hid hty; clear hy hty; have cL := HY.out.cell 3 0 rfl rfl; have fL := HY.out.frozen 3 0 rfl)
          go_meet
          have HTy : Hid (Touch [qd, ql] w9 (wy.setCell ⟨ql, 0, none⟩ (.slice ar 6 cr))) := Lib.hid ((HT.out.wide (by simp)).trans (Touch.setCell ⟨ql, 0, none⟩ (by simp) _))
          have HNe : Hid (m.bm.dev.dirty.length = 0 ∨ ∀ b, RIn (.agg D) b → b ∉ [qd, ql]) := Lib.hid (HRhi.out.imp id (fun h b hb hm => by simp only [List.mem_cons, List.not_mem_nil, or_false] at hm; have h1 := h b hb; have h2 := HRlo.out b hb; have h3 := HQd.out; have h4 := HQd1.out; have h5 := HQl.out; have h6 := HQl1.out; have s5 := HS5.out; have s6 := HS6.out; have s7 := HS7.out; have s8 := HS8.out; have s9 := HS9.out; omega))
          have HNc : Hid (∀ x, ar = some x → x.block ∉ [qd, ql]) := Lib.hid (fun x hx hm => by simp only [List.mem_cons, List.not_mem_nil, or_false] at hm; have h1 := HChi.out x hx; have h2 := HClo.out x hx; have h3 := HQd.out; have h4 := HQd1.out; have h5 := HQl.out; have h6 := HQl1.out; have s5 := HS5.out; have s6 := HS6.out; have s7 := HS7.out; have s8 := HS8.out; have s9 := HS9.out; omega)
          have HAq : Hid (∀ k ∈ A.list, k ∉ [qd, ql]) := Lib.hid (fun k hk hm => by simp only [List.mem_cons, List.not_mem_nil, or_false] at hm; have h1 := HA4.out.mem k hk; have h3 := HQd.out; have h4 := HQd1.out; have h5 := HQl.out; have h6 := HQl1.out; have s5 := HS5.out; have s6 := HS6.out; have s7 := HS7.out; have s8 := HS8.out; have s9 := HS9.out; omega)
          exact ⟨qd, ql, D, _, _, rfl, rfl, Lib.hid ((HY.out.set 3 0 (.slice ar 6 cr) rfl (Nat.lt_succ_self 0)).perm (.cons _ (.cons _ (.cons _ (.swap _ _ _))))), Lib.hid (HRA9.out.touch HTy.out HNe.out), Lib.hid (HCr9.out.touchL HTy.out (fun x hx _ => HNc.out x hx)), Lib.hid (HA9.out.keep (fun k hk => HTy.out.block k (HA9.out.mem k hk) (HAq.out k hk)))⟩
    · refine wpT3_sq (fun K hK => ?_)
      go_wp2_with fail
      have hb := below_alloc w4 (.cells zeroD 34)
      have HM5 := Lib.hid (HM4.out.alloc zeroD 34)
      have HA5 := Lib.hid (HA4.out.below hb)
      have HS5 := Lib.hid hb.size
      have hC5 := later_step hC4 hb
      clear hb
      go_wp2_with fail
      refine hK _ _ (fun _ => hC5) ?_
      clear hK K
      rw [show (#[.slice none 0 0, .slice none 0 0, .slice none 0 0, .slice none 0 0, .slice none 0 0, .int .i64 0, .int .i64 0, .bool false] : Array Value) = zeroD from rfl]
      generalize w4.alloc _ = w5 at *
      obtain ⟨qd, hqd⟩ : ∃ qd, qd = w4.heap.size := ⟨_, rfl⟩
      rw [← hqd] at HM5 ⊢
      have HQd := Lib.hid hqd
      have HQd1 := Lib.hid (HM5.out.glt 3 rfl)
      clear hqd
      refine wpT3_br ?_ ?_
      · refine wpT3_sq (fun K hK => ?_)
        go_wp2_with fail
        refine (HNow.out _ HA5.out.man.dev).mono ?_
        rintro e w6 ⟨dv, rfl, hr, hlo, hb⟩
        obtain ⟨D, rfl⟩ := hr.agg
        have HRlo := Lib.hid hlo
        have HRhi := Lib.hid hr.old
        obtain ⟨hD8, hD1⟩ := hr.arr
        have HM6 := Lib.hid (HM5.out.later hb)
        have HA6 := Lib.hid (HA5.out.below hb)
        have HS6 := Lib.hid hb.size
        have hC6 := later_step hC5 hb
        have HRA6 := Lib.hid hr
        clear hb hr hlo
        go_wp2_with fail
        refine hK _ _ (fun _ => hC6) ?_
        clear hK K
        refine wpT3_br ?_ ?_
        · refine wpT3_sq (fun K hK => ?_)
          go_wp2_with fail
          refine (HAll.out _ HA6.out).mono ?_
          rintro e w7 ⟨gl, kl, rfl, _, _, hrow, hb⟩
          have HM7 := Lib.hid (HM6.out.later hb)
          have HA7 := Lib.hid (HA6.out.below hb)
          have HS7 := Lib.hid hb.size
          have HRA7 := Lib.hid (HRA6.out.below hb (Nat.le_refl _))
          have hC7 := later_step hC6 hb
          have HCl7 := Lib.hid hrow.cells
          clear hb hrow
          go_wp2_with fail
          refine hK _ _ (fun h => nomatch h) ?_
          clear hK K
          refine wpT3_br ?_ ?_
          · refine wpT3_sq (fun K hK => ?_)
            go_wp2_with fail
            refine (HRefs.out _ _ _ HCl7.out).mono ?_
            rintro e w8 ⟨vr, rfl, ho, hb⟩
            obtain ⟨ar, cr, rfl, _, _⟩ := owned_form ho
            have HClo := Lib.hid (owned_addr ho)
            have HChi := Lib.hid (owned_lt ho)
            have HM8 := Lib.hid (HM7.out.later hb)
            have HA8 := Lib.hid (HA7.out.below hb)
            have HS8 := Lib.hid hb.size
            have HRA8 := Lib.hid (HRA7.out.below hb (Nat.le_refl _))
            have HCl8 := Lib.hid (HCl7.out.below hb (Nat.le_refl _))
            have hC8 := later_step hC7 hb
            have HCr8 := Lib.hid (Cells.owned3 ho)
            clear hb ho
            go_wp2_with fail
            refine hK _ _ (fun h => nomatch h) ?_
            clear hK K
            refine wpT3_sq (fun K hK => ?_)
            go_wp2_with fail
            have hb := below_alloc w8 (.cells #[.slice none 0 0] 36)
            have HM9 := Lib.hid (HM8.out.alloc #[.slice none 0 0] 36)
            have HA9 := Lib.hid (HA8.out.below hb)
            have HS9 := Lib.hid hb.size
            have HRA9 := Lib.hid (HRA8.out.below hb (Nat.le_refl _))
            have HCr9 := Lib.hid (HCr8.out.below hb (Nat.le_refl _))
            have hC9 := later_step hC8 hb
            clear hb
            go_wp2_with fail
            refine hK _ _ (fun _ => hC9) ?_
            clear hK K
            generalize w8.alloc _ = w9 at *
            obtain ⟨ql, hql⟩ : ∃ ql, ql = w8.heap.size := ⟨_, rfl⟩
            rw [← hql] at HM9 ⊢
            have HQl := Lib.hid hql
            have HQl1 := Lib.hid (HM9.out.glt 4 rfl)
            clear hql
            refine wpT3_last ?_
            go_wp2_with (refine wpList_store_mem aggRd HM9.out 3 rfl rfl rfl rfl rfl hD8 hD8.symm hD1 ?_; intro wy hy hty; have HY := Lib.hid hy; have HT := Lib.hid hty; clear hy hty; have cL := HY.out.cell 4 0 rfl rfl; have fL := HY.out.frozen 4 0 rfl)
            go_meet
            have HTy : Hid (Touch [qd, ql] w9 (wy.setCell ⟨ql, 0, none⟩ (.slice ar 6 cr))) := Lib.hid ((HT.out.wide (by simp)).trans (Touch.setCell ⟨ql, 0, none⟩ (by simp) _))
            have HNe : Hid (m.bm.dev.dirty.length = 0 ∨ ∀ b, RIn (.agg D) b → b ∉ [qd, ql]) := Lib.hid (HRhi.out.imp id (fun h b hb hm => by simp only [List.mem_cons, List.not_mem_nil, or_false] at hm; have h1 := h b hb; have h2 := HRlo.out b hb; have h3 := HQd.out; have h4 := HQd1.out; have h5 := HQl.out; have h6 := HQl1.out; have s5 := HS5.out; have s6 := HS6.out; have s7 := HS7.out; have s8 := HS8.out; have s9 := HS9.out; omega))
            have HNc : Hid (∀ x, ar = some x → x.block ∉ [qd, ql]) := Lib.hid (fun x hx hm => by simp only [List.mem_cons, List.not_mem_nil, or_false] at hm; have h1 := HChi.out x hx; have h2 := HClo.out x hx; have h3 := HQd.out; have h4 := HQd1.out; have h5 := HQl.out; have h6 := HQl1.out; have s5 := HS5.out; have s6 := HS6.out; have s7 := HS7.out; have s8 := HS8.out; have s9 := HS9.out; omega)
            have HAq : Hid (∀ k ∈ A.list, k ∉ [qd, ql]) := Lib.hid (fun k hk hm => by simp only [List.mem_cons, List.not_mem_nil, or_false] at hm; have h1 := HA4.out.mem k hk; have h3 := HQd.out; have h4 := HQd1.out; have h5 := HQl.out; have h6 := HQl1.out; have s5 := HS5.out; have s6 := HS6.out; have s7 := HS7.out; have s8 := HS8.out; have s9 := HS9.out; omega)
            exact ⟨qd, ql, D, _, _, rfl, rfl, Lib.hid (HY.out.set 4 0 (.slice ar 6 cr) rfl (Nat.lt_succ_self 0)), Lib.hid (HRA9.out.touch HTy.out HNe.out), Lib.hid (HCr9.out.touchL HTy.out (fun x hx _ => HNc.out x hx)), Lib.hid (HA9.out.keep (fun k hk => HTy.out.block k (HA9.out.mem k hk) (HAq.out k hk)))⟩
          · refine wpT3_sq (fun K hK => ?_)
            go_wp2_with fail
            have hb := below_alloc w7 (.cells #[.slice none 0 0] 36)
            have HM8 := Lib.hid (HM7.out.alloc #[.slice none 0 0] 36)
            have HA8 := Lib.hid (HA7.out.below hb)
            have HS8 := Lib.hid hb.size
            have HRA8 := Lib.hid (HRA7.out.below hb (Nat.le_refl _))
            have HCl8 := Lib.hid (HCl7.out.below hb (Nat.le_refl _))
            have hC8 := later_step hC7 hb
            clear hb
            go_wp2_with fail
            refine hK _ _ (fun _ => hC8) ?_
            clear hK K
            generalize w7.alloc _ = w8 at *
            obtain ⟨ql, hql⟩ : ∃ ql, ql = w7.heap.size := ⟨_, rfl⟩
            rw [← hql] at HM8 ⊢
            have HQl := Lib.hid hql
            have HQl1 := Lib.hid (HM8.out.glt 4 rfl)
            clear hql
            refine wpT3_last ?_
            go_wp2_with fail
            refine (HRefs.out _ _ _ HCl8.out).mono ?_
            rintro e w9 ⟨vr, rfl, ho, hb⟩
            obtain ⟨ar, cr, rfl, _, _⟩ := owned_form ho
            have HClo := Lib.hid (owned_addr ho)
            have HChi := Lib.hid (owned_lt ho)
            have HM9 := Lib.hid (HM8.out.later hb)
            have HA9 := Lib.hid (HA8.out.below hb)
            have HS9 := Lib.hid hb.size
            have HRA9 := Lib.hid (HRA8.out.below hb (Nat.le_refl _))
            have HCl9 := Lib.hid (HCl8.out.below hb (Nat.le_refl _))
            have hC9 := later_step hC8 hb
            have HCr9 := Lib.hid (Cells.owned3 ho)
            clear hb ho
            go_wp2_with (refine wpList_store_mem aggRd HM9.out 3 rfl rfl rfl rfl rfl hD8 hD8.symm hD1 ?_; intro wy hy hty; have HY := Lib.hid hy; have HT := Lib.hid hty; clear hy hty; have cL := HY.out.cell 4 0 rfl rfl; have fL := HY.out.frozen 4 0 rfl)
            go_meet
            have HTy : Hid (Touch [qd, ql] w9 (wy.setCell ⟨ql, 0, none⟩ (.slice ar 6 cr))) := Lib.hid ((HT.out.wide (by simp)).trans (Touch.setCell ⟨ql, 0, none⟩ (by simp) _))
            have HNe : Hid (m.bm.dev.dirty.length = 0 ∨ ∀ b, RIn (.agg D) b → b ∉ [qd, ql]) := Lib.hid (HRhi.out.imp id (fun h b hb hm => by simp only [List.mem_cons, List.not_mem_nil, or_false] at hm; have h1 := h b hb; have h2 := HRlo.out b hb; have h3 := HQd.out; have h4 := HQd1.out; have h5 := HQl.out; have h6 := HQl1.out; have s5 := HS5.out; have s6 := HS6.out; have s7 := HS7.out; have s8 := HS8.out; have s9 := HS9.out; omega))
            have HNc : Hid (∀ x, ar = some x → x.block ∉ [qd, ql]) := Lib.hid (fun x hx hm => by simp only [List.mem_cons, List.not_mem_nil, or_false] at hm; have h1 := HChi.out x hx; have h2 := HClo.out x hx; have h3 := HQd.out; have h4 := HQd1.out; have h5 := HQl.out; have h6 := HQl1.out; have s5 := HS5.out; have s6 := HS6.out; have s7 := HS7.out; have s8 := HS8.out; have s9 := HS9.out; omega)
            have HAq : Hid (∀ k ∈ A.list, k ∉ [qd, ql]) := Lib.hid (fun k hk hm => by simp only [List.mem_cons, List.not_mem_nil, or_false] at hm; have h1 := HA4.out.mem k hk; have h3 := HQd.out; have h4 := HQd1.out; have h5 := HQl.out; have h6 := HQl1.out; have s5 := HS5.out; have s6 := HS6.out; have s7 := HS7.out; have s8 := HS8.out; have s9 := HS9.out; omega)
            exact ⟨qd, ql, D, _, _, rfl, rfl, Lib.hid (HY.out.set 4 0 (.slice ar 6 cr) rfl (Nat.lt_succ_self 0)), Lib.hid (HRA9.out.touch HTy.out HNe.out), Lib.hid (HCr9.out.touchL HTy.out (fun x hx _ => HNc.out x hx)), Lib.hid (HA9.out.keep (fun k hk => HTy.out.block k (HA9.out.mem k hk) (HAq.out k hk)))⟩
        · refine wpT3_sq (fun K hK => ?_)
          go_wp2_with fail
          have hb := below_alloc w6 (.cells #[.slice none 0 0] 36)
          have HM7 := Lib.hid (HM6.out.alloc #[.slice none 0 0] 36)
          have HA7 := Lib.hid (HA6.out.below hb)
          have HS7 := Lib.hid hb.size
          have HRA7 := Lib.hid (HRA6.out.below hb (Nat.le_refl _))
          have hC7 := later_step hC6 hb
          clear hb
          go_wp2_with fail
          refine hK _ _ (fun _ => hC7) ?_
          clear hK K
          generalize w6.alloc _ = w7 at *
          obtain ⟨ql, hql⟩ : ∃ ql, ql = w6.heap.size := ⟨_, rfl⟩
          rw [← hql] at HM7 ⊢
          have HQl := Lib.hid hql
          have HQl1 := Lib.hid (HM7.out.glt 4 rfl)
          clear hql
          refine wpT3_last ?_
          go_wp2_with fail
          refine (HAll.out _ HA7.out).mono ?_
          rintro e w8 ⟨gl, kl, rfl, _, _, hrow, hb⟩
          have HM8 := Lib.hid (HM7.out.later hb)
          have HA8 := Lib.hid (HA7.out.below hb)
          have HS8 := Lib.hid hb.size
          have HRA8 := Lib.hid (HRA7.out.below hb (Nat.le_refl _))
          have hC8 := later_step hC7 hb
          have HCl8 := Lib.hid hrow.cells
          clear hb hrow
          go_wp2_with fail
          refine (HRefs.out _ _ _ HCl8.out).mono ?_
          rintro e w9 ⟨vr, rfl, ho, hb⟩
          obtain ⟨ar, cr, rfl, _, _⟩ := owned_form ho
          have HClo := Lib.hid (owned_addr ho)
          have HChi := Lib.hid (owned_lt ho)
          have HM9 := Lib.hid (HM8.out.later hb)
          have HA9 := Lib.hid (HA8.out.below hb)
          have HS9 := Lib.hid hb.size
          have HRA9 := Lib.hid (HRA8.out.below hb (Nat.le_refl _))
          have HCl9 := Lib.hid (HCl8.out.below hb (Nat.le_refl _))
          have hC9 := later_step hC8 hb
          have HCr9 := Lib.hid (Cells.owned3 ho)
          clear hb ho
          go_wp2_with (refine wpList_store_mem aggRd HM9.out 3 rfl rfl rfl rfl rfl hD8 hD8.symm hD1 ?_; intro wy hy hty; have HY := Lib.hid hy; have HT := Lib.hid hty; clear hy hty; have cL := HY.out.cell 4 0 rfl rfl; have fL := HY.out.frozen 4 0 rfl)
          go_meet
          have HTy : Hid (Touch [qd, ql] w9 (wy.setCell ⟨ql, 0, none⟩ (.slice ar 6 cr))) := Lib.hid ((HT.out.wide (by simp)).trans (Touch.setCell ⟨ql, 0, none⟩ (by simp) _))
          have HNe : Hid (m.bm.dev.dirty.length = 0 ∨ ∀ b, RIn (.agg D) b → b ∉ [qd, ql]) := Lib.hid (HRhi.out.imp id (fun h b hb hm => by simp only [List.mem_cons, List.not_mem_nil, or_false] at hm; have h1 := h b hb; have h2 := HRlo.out b hb; have h3 := HQd.out; have h4 := HQd1.out; have h5 := HQl.out; have h6 := HQl1.out; have s5 := HS5.out; have s6 := HS6.out; have s7 := HS7.out; have s8 := HS8.out; have s9 := HS9.out; omega))
          have HNc : Hid (∀ x, ar = some x → x.block ∉ [qd, ql]) := Lib.hid (fun x hx hm => by simp only [List.mem_cons, List.not_mem_nil, or_false] at hm; have h1 := HChi.out x hx; have h2 := HClo.out x hx; have h3 := HQd.out; have h4 := HQd1.out; have h5 := HQl.out; have h6 := HQl1.out; have s5 := HS5.out; have s6 := HS6.out; have s7 := HS7.out; have s8 := HS8.out; have s9 := HS9.out; omega)
          have HAq : Hid (∀ k ∈ A.list, k ∉ [qd, ql]) := Lib.hid (fun k hk hm => by simp only [List.mem_cons, List.not_mem_nil, or_false] at hm; have h1 := HA4.out.mem k hk; have h3 := HQd.out; have h4 := HQd1.out; have h5 := HQl.out; have h6 := HQl1.out; have s5 := HS5.out; have s6 := HS6.out; have s7 := HS7.out; have s8 := HS8.out; have s9 := HS9.out; omega)
          exact ⟨qd, ql, D, _, _, rfl, rfl, Lib.hid (HY.out.set 4 0 (.slice ar 6 cr) rfl (Nat.lt_succ_self 0)), Lib.hid (HRA9.out.touch HTy.out HNe.out), Lib.hid (HCr9.out.touchL HTy.out (fun x hx _ => HNc.out x hx)), Lib.hid (HA9.out.keep (fun k hk => HTy.out.block k (HA9.out.mem k hk) (HAq.out k hk)))⟩
      · refine wpT3_sq (fun K hK => ?_)
        go_wp2_with fail
        have hb := below_alloc w5 (.cells #[.slice none 0 0] 36)
        have HM6 := Lib.hid (HM5.out.alloc #[.slice none 0 0] 36)
        have HA6 := Lib.hid (HA5.out.below hb)
        have HS6 := Lib.hid hb.size
        have hC6 := later_step hC5 hb
        clear hb
        go_wp2_with fail
        refine hK _ _ (fun _ => hC6) ?_
        clear hK K
        generalize w5.alloc _ = w6 at *
        obtain ⟨ql, hql⟩ : ∃ ql, ql = w5.heap.size := ⟨_, rfl⟩
        rw [← hql] at HM6 ⊢
        have HQl := Lib.hid hql
        have HQl1 := Lib.hid (HM6.out.glt 4 rfl)
        clear hql
        refine wpT3_sq (fun K hK => ?_)
        go_wp2_with fail
        refine (HNow.out _ HA6.out.man.dev).mono ?_
        rintro e w7 ⟨dv, rfl, hr, hlo, hb⟩
        obtain ⟨D, rfl⟩ := hr.agg
        have HRlo := Lib.hid hlo
        have HRhi := Lib.hid hr.old
        obtain ⟨hD8, hD1⟩ := hr.arr
        have HM7 := Lib.hid (HM6.out.later hb)
        have HA7 := Lib.hid (HA6.out.below hb)
        have HS7 := Lib.hid hb.size
        have hC7 := later_step hC6 hb
        have HRA7 := Lib.hid hr
        clear hb hr hlo
        go_wp2_with fail
        refine hK _ _ (fun _ => hC7) ?_
        clear hK K
        refine wpT3_last ?_
        go_wp2_with fail
        refine (HAll.out _ HA7.out).mono ?_
        rintro e w8 ⟨gl, kl, rfl, _, _, hrow, hb⟩
        have HM8 := Lib.hid (HM7.out.later hb)
        have HA8 := Lib.hid (HA7.out.below hb)
        have HS8 := Lib.hid hb.size
        have HRA8 := Lib.hid (HRA7.out.below hb (Nat.le_refl _))
        have hC8 := later_step hC7 hb
        have HCl8 := Lib.hid hrow.cells
        clear hb hrow
        go_wp2_with fail
        refine (HRefs.out _ _ _ HCl8.out).mono ?_
        rintro e w9 ⟨vr, rfl, ho, hb⟩
        obtain ⟨ar, cr, rfl, _, _⟩ := owned_form ho
        have HClo := Lib.hid (owned_addr ho)
        have HChi := Lib.hid (owned_lt ho)
        have HM9 := Lib.hid (HM8.out.later hb)
        have HA9 := Lib.hid (HA8.out.below hb)
        have HS9 := Lib.hid hb.size
        have HRA9 := Lib.hid (HRA8.out.below hb (Nat.le_refl _))
        have HCl9 := Lib.hid (HCl8.out.below hb (Nat.le_refl _))
        have hC9 := later_step hC8 hb
        have HCr9 := Lib.hid (Cells.owned3 ho)
        clear hb ho
        go_wp2_with (refine wpList_store_mem aggRd HM9.out 3 rfl rfl rfl rfl rfl hD8 hD8.symm hD1 ?_; intro wy hy hty; have HY := Lib.hid hy; have HT := Lib.hid hty; clear hy hty; have cL := HY.out.cell 4 0 rfl rfl; have fL := HY.out.frozen 4 0 rfl)
        go_meet
        have HTy : Hid (Touch [qd, ql] w9 (wy.setCell ⟨ql, 0, none⟩ (.slice ar 6 cr))) := Lib.hid ((HT.out.wide (by simp)).trans (Touch.setCell ⟨ql, 0, none⟩ (by simp) _))
        have HNe : Hid (m.bm.dev.dirty.length = 0 ∨ ∀ b, RIn (.agg D) b → b ∉ [qd, ql]) := Lib.hid (HRhi.out.imp id (fun h b hb hm => by simp only [List.mem_cons, List.not_mem_nil, or_false] at hm; have h1 := h b hb; have h2 := HRlo.out b hb; have h3 := HQd.out; have h4 := HQd1.out; have h5 := HQl.out; have h6 := HQl1.out; have s5 := HS5.out; have s6 := HS6.out; have s7 := HS7.out; have s8 := HS8.out; have s9 := HS9.out; omega))
        have HNc : Hid (∀ x, ar = some x → x.block ∉ [qd, ql]) := Lib.hid (fun x hx hm => by simp only [List.mem_cons, List.not_mem_nil, or_false] at hm; have h1 := HChi.out x hx; have h2 := HClo.out x hx; have h3 := HQd.out; have h4 := HQd1.out; have h5 := HQl.out; have h6 := HQl1.out; have s5 := HS5.out; have s6 := HS6.out; have s7 := HS7.out; have s8 := HS8.out; have s9 := HS9.out; omega)
        have HAq : Hid (∀ k ∈ A.list, k ∉ [qd, ql]) := Lib.hid (fun k hk hm => by simp only [List.mem_cons, List.not_mem_nil, or_false] at hm; have h1 := HA4.out.mem k hk; have h3 := HQd.out; have h4 := HQd1.out; have h5 := HQl.out; have h6 := HQl1.out; have s5 := HS5.out; have s6 := HS6.out; have s7 := HS7.out; have s8 := HS8.out; have s9 := HS9.out; omega)
        exact ⟨qd, ql, D, _, _, rfl, rfl, Lib.hid (HY.out.set 4 0 (.slice ar 6 cr) rfl (Nat.lt_succ_self 0)), Lib.hid (HRA9.out.touch HTy.out HNe.out), Lib.hid (HCr9.out.touchL HTy.out (fun x hx _ => HNc.out x hx)), Lib.hid (HA9.out.keep (fun k hk => HTy.out.block k (HA9.out.mem k hk) (HAq.out k hk)))⟩
    · refine wpT3_sq (fun K hK => ?_)
      go_wp2_with fail
      have hb := below_alloc w4 (.cells #[.slice none 0 0] 36)
      have HM5 := Lib.hid (HM4.out.alloc #[.slice none 0 0] 36)
      have HA5 := Lib.hid (HA4.out.below hb)
      have HS5 := Lib.hid hb.size
      have hC5 := later_step hC4 hb
      clear hb
      go_wp2_with fail
      refine hK _ _ (fun _ => hC5) ?_
      clear hK K
      generalize w4.alloc _ = w5 at *
      obtain ⟨ql, hql⟩ : ∃ ql, ql = w4.heap.size := ⟨_, rfl⟩
      rw [← hql] at HM5 ⊢
      have HQl := Lib.hid hql
      have HQl1 := Lib.hid (HM5.out.glt 3 rfl)
      clear hql
      refine wpT3_br ?_ ?_
      · refine wpT3_sq (fun K hK => ?_)
        go_wp2_with fail
        refine (HNow.out _ HA5.out.man.dev).mono ?_
        rintro e w6 ⟨dv, rfl, hr, hlo, hb⟩
        obtain ⟨D, rfl⟩ := hr.agg
        have HRlo := Lib.hid hlo
        have HRhi := Lib.hid hr.old
        obtain ⟨hD8, hD1⟩ := hr.arr
        have HM6 := Lib.hid (HM5.out.later hb)
        have HA6 := Lib.hid (HA5.out.below hb)
        have HS6 := Lib.hid hb.size
        have hC6 := later_step hC5 hb
        have HRA6 := Lib.hid hr
        clear hb hr hlo
        go_wp2_with fail
        refine hK _ _ (fun _ => hC6) ?_
        clear hK K
        refine wpT3_br ?_ ?_
        · refine wpT3_sq (fun K hK => ?_)
          go_wp2_with fail
          refine (HAll.out _ HA6.out).mono ?_
          rintro e w7 ⟨gl, kl, rfl, _, _, hrow, hb⟩
          have HM7 := Lib.hid (HM6.out.later hb)
          have HA7 := Lib.hid (HA6.out.below hb)
          have HS7 := Lib.hid hb.size
          have HRA7 := Lib.hid (HRA6.out.below hb (Nat.le_refl _))
          have hC7 := later_step hC6 hb
          have HCl7 := Lib.hid hrow.cells
          clear hb hrow
          go_wp2_with fail
          refine hK _ _ (fun h => nomatch h) ?_
          clear hK K
          refine wpT3_br ?_ ?_
          · refine wpT3_sq (fun K hK => ?_)
            go_wp2_with fail
            refine (HRefs.out _ _ _ HCl7.out).mono ?_
            rintro e w8 ⟨vr, rfl, ho, hb⟩
            obtain ⟨ar, cr, rfl, _, _⟩ := owned_form ho
            have HClo := Lib.hid (owned_addr ho)
            have HChi := Lib.hid (owned_lt ho)
            have HM8 := Lib.hid (HM7.out.later hb)
            have HA8 := Lib.hid (HA7.out.below hb)
            have HS8 := Lib.hid hb.size
            have HRA8 := Lib.hid (HRA7.out.below hb (Nat.le_refl _))
            have HCl8 := Lib.hid (HCl7.out.below hb (Nat.le_refl _))
            have hC8 := later_step hC7 hb
            have HCr8 := Lib.hid (Cells.owned3 ho)
            clear hb ho
            go_wp2_with fail
            refine hK _ _ (fun h => nomatch h) ?_
            clear hK K
            refine wpT3_sq (fun K hK => ?_)
            go_wp2_with fail
            have hb := below_alloc w8 (.cells zeroD 34)
            have HM9 := Lib.hid (HM8.out.alloc zeroD 34)
            have HA9 := Lib.hid (HA8.out.below hb)
            have HS9 := Lib.hid hb.size
            have HRA9 := Lib.hid (HRA8.out.below hb (Nat.le_refl _))
            have HCr9 := Lib.hid (HCr8.out.below hb (Nat.le_refl _))
            have hC9 := later_step hC8 hb
            clear hb
            go_wp2_with fail
            refine hK _ _ (fun _ => hC9) ?_
            clear hK K
            rw [show (#[.slice none 0 0, .slice none 0 0, .slice none 0 0, .slice none 0 0, .slice none 0 0, .int .i64 0, .int .i64 0, .bool false] : Array Value) = zeroD from rfl]
            generalize w8.alloc _ = w9 at *
            obtain ⟨qd, hqd⟩ : ∃ qd, qd = w8.heap.size := ⟨_, rfl⟩
            rw [← hqd] at HM9 ⊢
            have HQd := Lib.hid hqd
            have HQd1 := Lib.hid (HM9.out.glt 4 rfl)
            clear hqd
            refine wpT3_last ?_
            go_wp2_with (refine wpList_store_mem aggRd HM9.out 4 rfl rfl rfl rfl rfl hD8 hD8.symm hD1 ?_; intro wy hy hty; have HY := Lib.hid hy; have HT := Lib.hid hty; clear hy hty; have cL := HY.out.cell 3 0 rfl rfl; have fL := HY.out.frozen 3 0 rfl)
            go_meet
            have HTy : Hid (Touch [qd, ql] w9 (wy.setCell ⟨ql, 0, none⟩ (.slice ar 6 cr))) := Lib.hid ((HT.out.wide (by simp)).trans (Touch.setCell ⟨ql, 0, none⟩ (by simp) _))
            have HNe : Hid (m.bm.dev.dirty.length = 0 ∨ ∀ b, RIn (.agg D) b → b ∉ [qd, ql]) := Lib.hid (HRhi.out.imp id (fun h b hb hm => by simp only [List.mem_cons, List.not_mem_nil, or_false] at hm; have h1 := h b hb; have h2 := HRlo.out b hb; have h3 := HQd.out; have h4 := HQd1.out; have h5 := HQl.out; have h6 := HQl1.out; have s5 := HS5.out; have s6 := HS6.out; have s7 := HS7.out; have s8 := HS8.out; have s9 := HS9.out; omega))
            have HNc : Hid (∀ x, ar = some x → x.block ∉ [qd, ql]) := Lib.hid (fun x hx hm => by simp only [List.mem_cons, List.not_mem_nil, or_false] at hm; have h1 := HChi.out x hx; have h2 := HClo.out x hx; have h3 := HQd.out; have h4 := HQd1.out; have h5 := HQl.out; have h6 := HQl1.out; have s5 := HS5.out; have s6 := HS6.out; have s7 := HS7.out; have s8 := HS8.out; have s9 := HS9.out; omega)
            have HAq : Hid (∀ k ∈ A.list, k ∉ [qd, ql]) := Lib.hid (fun k hk hm => by simp only [List.mem_cons, List.not_mem_nil, or_false] at hm; have h1 := HA4.out.mem k hk; have h3 := HQd.out; have h4 := HQd1.out; have h5 := HQl.out; have h6 := HQl1.out; have s5 := HS5.out; have s6 := HS6.out; have s7 := HS7.out; have s8 := HS8.out; have s9 := HS9.out; omega)
            exact ⟨qd, ql, D, _, _, rfl, rfl, Lib.hid ((HY.out.set 3 0 (.slice ar 6 cr) rfl (Nat.lt_succ_self 0)).perm (.cons _ (.cons _ (.cons _ (.swap _ _ _))))), Lib.hid (HRA9.out.touch HTy.out HNe.out), Lib.hid (HCr9.out.touchL HTy.out (fun x hx _ => HNc.out x hx)), Lib.hid (HA9.out.keep (fun k hk => HTy.out.block k (HA9.out.mem k hk) (HAq.out k hk)))⟩
          · refine wpT3_sq (fun K hK => ?_)
            go_wp2_with fail
            have hb := below_alloc w7 (.cells zeroD 34)
            have HM8 := Lib.hid (HM7.out.alloc zeroD 34)
            have HA8 := Lib.hid (HA7.out.below hb)
            have HS8 := Lib.hid hb.size
            have HRA8 := Lib.hid (HRA7.out.below hb (Nat.le_refl _))
            have HCl8 := Lib.hid (HCl7.out.below hb (Nat.le_refl _))
            have hC8 := later_step hC7 hb
            clear hb
            go_wp2_with fail
            refine hK _ _ (fun _ => hC8) ?_
            clear hK K
            rw [show (#[.slice none 0 0, .slice none 0 0, .slice none 0 0, .slice none 0 0, .slice none 0 0, .int .i64 0, .int .i64 0, .bool false] : Array Value) = zeroD from rfl]
            generalize w7.alloc _ = w8 at *
            obtain ⟨qd, hqd⟩ : ∃ qd, qd = w7.heap.size := ⟨_, rfl⟩
            rw [← hqd] at HM8 ⊢
            have HQd := Lib.hid hqd
            have HQd1 := Lib.hid (HM8.out.glt 4 rfl)
            clear hqd
            refine wpT3_last ?_
            go_wp2_with fail
            refine (HRefs.out _ _ _ HCl8.out).mono ?_
            rintro e w9 ⟨vr, rfl, ho, hb⟩
            obtain ⟨ar, cr, rfl, _, _⟩ := owned_form ho
            have HClo := Lib.hid (owned_addr ho)
            have HChi := Lib.hid (owned_lt ho)
            have HM9 := Lib.hid (HM8.out.later hb)
            have HA9 := Lib.hid (HA8.out.below hb)
            have HS9 := Lib.hid hb.size
            have HRA9 := Lib.hid (HRA8.out.below hb (Nat.le_refl _))
            have HCl9 := Lib.hid (HCl8.out.below hb (Nat.le_refl _))
            have hC9 := later_step hC8 hb
            have HCr9 := Lib.hid (Cells.owned3 ho)
            clear hb ho
            go_wp2_with (refine wpList_store_mem aggRd HM9.out 4 rfl rfl rfl rfl rfl hD8 hD8.symm hD1 ?_; intro wy hy hty; have HY := Lib.hid hy; have HT := Lib.hid hty; clear hy hty; have cL := HY.out.cell 3 0 rfl rfl; have fL := HY.out.frozen 3 0 rfl)
            go_meet
            have HTy : Hid (Touch [qd, ql] w9 (wy.setCell ⟨ql, 0, none⟩ (.slice ar 6 cr))) := Lib.hid ((HT.out.wide (by simp)).trans (Touch.setCell ⟨ql, 0, none⟩ (by simp) _))
            have HNe : Hid (m.bm.dev.dirty.length = 0 ∨ ∀ b, RIn (.agg D) b → b ∉ [qd, ql]) := Lib.hid (HRhi.out.imp id (fun h b hb hm => by simp only [List.mem_cons, List.not_mem_nil, or_false] at hm; have h1 := h b hb; have h2 := HRlo.out b hb; have h3 := HQd.out; have h4 := HQd1.out; have h5 := HQl.out; have h6 := HQl1.out; have s5 := HS5.out; have s6 := HS6.out; have s7 := HS7.out; have s8 := HS8.out; have s9 := HS9.out; omega))
            have HNc : Hid (∀ x, ar = some x → x.block ∉ [qd, ql]) := Lib.hid (fun x hx hm => by simp only [List.mem_cons, List.not_mem_nil, or_false] at hm; have h1 := HChi.out x hx; have h2 := HClo.out x hx; have h3 := HQd.out; have h4 := HQd1.out; have h5 := HQl.out; have h6 := HQl1.out; have s5 := HS5.out; have s6 := HS6.out; have s7 := HS7.out; have s8 := HS8.out; have s9 := HS9.out; omega)
            have HAq : Hid (∀ k ∈ A.list, k ∉ [qd, ql]) := Lib.hid (fun k hk hm => by simp only [List.mem_cons, List.not_mem_nil, or_false] at hm; have h1 := HA4.out.mem k hk; have h3 := HQd.out; have h4 := HQd1.out; have h5 := HQl.out; have h6 := HQl1.out; have s5 := HS5.out; have s6 := HS6.out; have s7 := HS7.out; have s8 := HS8.out; have s9 := HS9.out; omega)
            exact ⟨qd, ql, D, _, _, rfl, rfl, Lib.hid ((HY.out.set 3 0 (.slice ar 6 cr) rfl (Nat.lt_succ_self 0)).perm (.cons _ (.cons _ (.cons _ (.swap _ _ _))))), Lib.hid (HRA9.out.touch HTy.out HNe.out), Lib.hid (HCr9.out.touchL HTy.out (fun x hx _ => HNc.out x hx)), Lib.hid (HA9.out.keep (fun k hk => HTy.out.block k (HA9.out.mem k hk) (HAq.out k hk)))⟩
        · refine wpT3_sq (fun K hK => ?_)
          go_wp2_with fail
          have hb := below_alloc w6 (.cells zeroD 34)
          have HM7 := Lib.hid (HM6.out.alloc zeroD 34)
          have HA7 := Lib.hid (HA6.out.below hb)
          have HS7 := Lib.hid hb.size
          have HRA7 := Lib.hid (HRA6.out.below hb (Nat.le_refl _))
          have hC7 := later_step hC6 hb
          clear hb
          go_wp2_with fail
          refine hK _ _ (fun _ => hC7) ?_
          clear hK K
          rw [show (#[.slice none 0 0, .slice none 0 0, .slice none 0 0, .slice none 0 0, .slice none 0 0, .int .i64 0, .int .i64 0, .bool false] : Array Value) = zeroD from rfl]
          generalize w6.alloc _ = w7 at *
          obtain ⟨qd, hqd⟩ : ∃ qd, qd = w6.heap.size := ⟨_, rfl⟩
          rw [← hqd] at HM7 ⊢
          have HQd := Lib.hid hqd
          have HQd1 := Lib.hid (HM7.out.glt 4 rfl)
          clear hqd
          refine wpT3_last ?_
          go_wp2_with fail
          refine (HAll.out _ HA7.out).mono ?_
          rintro e w8 ⟨gl, kl, rfl, _, _, hrow, hb⟩
          have HM8 := Lib.hid (HM7.out.later hb)
          have HA8 := Lib.hid (HA7.out.below hb)
          have HS8 := Lib.hid hb.size
          have HRA8 := Lib.hid (HRA7.out.below hb (Nat.le_refl _))
          have hC8 := later_step hC7 hb
          have HCl8 := Lib.hid hrow.cells
          clear hb hrow
          go_wp2_with fail
          refine (HRefs.out _ _ _ HCl8.out).mono ?_
          rintro e w9 ⟨vr, rfl, ho, hb⟩
          obtain ⟨ar, cr, rfl, _, _⟩ := owned_form ho
          have HClo := Lib.hid (owned_addr ho)
          have HChi := Lib.hid (owned_lt ho)
          have HM9 := Lib.hid (HM8.out.later hb)
          have HA9 := Lib.hid (HA8.out.below hb)
          have HS9 := Lib.hid hb.size
          have HRA9 := Lib.hid (HRA8.out.below hb (Nat.le_refl _))
          have HCl9 := Lib.hid (HCl8.out.below hb (Nat.le_refl _))
          have hC9 := later_step hC8 hb
          have HCr9 := Lib.hid (Cells.owned3 ho)
          clear hb ho
          go_wp2_with (refine wpList_store_mem aggRd HM9.out 4 rfl rfl rfl rfl rfl hD8 hD8.symm hD1 ?_; intro wy hy hty; have HY := Lib.hid hy; have HT := Lib.hid hty; clear hy hty; have cL := HY.out.cell 3 0 rfl rfl; have fL := HY.out.frozen 3 0 rfl)
          go_meet
          have HTy : Hid (Touch [qd, ql] w9 (wy.setCell ⟨ql, 0, none⟩ (.slice ar 6 cr))) := Lib.hid ((HT.out.wide (by simp)).trans (Touch.setCell ⟨ql, 0, none⟩ (by simp) _))
          have HNe : Hid (m.bm.dev.dirty.length = 0 ∨ ∀ b, RIn (.agg D) b → b ∉ [qd, ql]) := Lib.hid (HRhi.out.imp id (fun h b hb hm => by simp only [List.mem_cons, List.not_mem_nil, or_false] at hm; have h1 := h b hb; have h2 := HRlo.out b hb; have h3 := HQd.out; have h4 := HQd1.out; have h5 := HQl.out; have h6 := HQl1.out; have s5 := HS5.out; have s6 := HS6.out; have s7 := HS7.out; have s8 := HS8.out; have s9 := HS9.out; omega))
          have HNc : Hid (∀ x, ar = some x → x.block ∉ [qd, ql]) := Lib.hid (fun x hx hm => by simp only [List.mem_cons, List.not_mem_nil, or_false] at hm; have h1 := HChi.out x hx; have h2 := HClo.out x hx; have h3 := HQd.out; have h4 := HQd1.out; have h5 := HQl.out; have h6 := HQl1.out; have s5 := HS5.out; have s6 := HS6.out; have s7 := HS7.out; have s8 := HS8.out; have s9 := HS9.out; omega)
          have HAq : Hid (∀ k ∈ A.list, k ∉ [qd, ql]) := Lib.hid (fun k hk hm => by simp only [List.mem_cons, List.not_mem_nil, or_false] at hm; have h1 := HA4.out.mem k hk; have h3 := HQd.out; have h4 := HQd1.out; have h5 := HQl.out; have h6 := HQl1.out; have s5 := HS5.out; have s6 := HS6.out; have s7 := HS7.out; have s8 := HS8.out; have s9 := HS9.out; omega)
          exact ⟨qd, ql, D, _, _, rfl, rfl, Lib.hid ((HY.out.set 3 0 (.slice ar 6 cr) rfl (Nat.lt_succ_self 0)).perm (.cons _ (.cons _ (.cons _ (.swap _ _ _))))), Lib.hid (HRA9.out.touch HTy.out HNe.out), Lib.hid (HCr9.out.touchL HTy.out (fun x hx _ => HNc.out x hx)), Lib.hid (HA9.out.keep (fun k hk => HTy.out.block k (HA9.out.mem k hk) (HAq.out k hk)))⟩
      · refine wpT3_sq (fun K hK => ?_)
        go_wp2_with fail
        have hb := below_alloc w5 (.cells zeroD 34)
        have HM6 := Lib.hid (HM5.out.alloc zeroD 34)
        have HA6 := Lib.hid (HA5.out.below hb)
        have HS6 := Lib.hid hb.size
        have hC6 := later_step hC5 hb
        clear hb
        go_wp2_with fail
        refine hK _ _ (fun _ => hC6) ?_
        clear hK K
        rw [show (#[.slice none 0 0, .slice none 0 0, .slice none 0 0, .slice none 0 0, .slice none 0 0, .int .i64 0, .int .i64 0, .bool false] : Array Value) = zeroD from rfl]
        generalize w5.alloc _ = w6 at *
        obtain ⟨qd, hqd⟩ : ∃ qd, qd = w5.heap.size := ⟨_, rfl⟩
        rw [← hqd] at HM6 ⊢
        have HQd := Lib.hid hqd
        have HQd1 := Lib.hid (HM6.out.glt 4 rfl)
        clear hqd
        refine wpT3_sq (fun K hK => ?_)
        go_wp2_with fail
        refine (HNow.out _ HA6.out.man.dev).mono ?_
        rintro e w7 ⟨dv, rfl, hr, hlo, hb⟩
        obtain ⟨D, rfl⟩ := hr.agg
        have HRlo := Lib.hid hlo
        have HRhi := Lib.hid hr.old
        obtain ⟨hD8, hD1⟩ := hr.arr
        have HM7 := Lib.hid (HM6.out.later hb)
        have HA7 := Lib.hid (HA6.out.below hb)
        have HS7 := Lib.hid hb.size
        have hC7 := later_step hC6 hb
        have HRA7 := Lib.hid hr
        clear hb hr hlo
        go_wp2_with fail
        refine hK _ _ (fun _ => hC7) ?_
        clear hK K
        refine wpT3_last ?_
        go_wp2_with fail
        refine (HAll.out _ HA7.out).mono ?_
        rintro e w8 ⟨gl, kl, rfl, _, _, hrow, hb⟩
        have HM8 := Lib.hid (HM7.out.later hb)
        have HA8 := Lib.hid (HA7.out.below hb)
        have HS8 := Lib.hid hb.size
        have HRA8 := Lib.hid (HRA7.out.below hb (Nat.le_refl _))
        have hC8 := later_step hC7 hb
        have HCl8 := Lib.hid hrow.cells
        clear hb hrow
        go_wp2_with fail
        refine (HRefs.out _ _ _ HCl8.out).mono ?_
        rintro e w9 ⟨vr, rfl, ho, hb⟩
        obtain ⟨ar, cr, rfl, _, _⟩ := owned_form ho
        have HClo := Lib.hid (owned_addr ho)
        have HChi := Lib.hid (owned_lt ho)
        have HM9 := Lib.hid (HM8.out.later hb)
        have HA9 := Lib.hid (HA8.out.below hb)
        have HS9 := Lib.hid hb.size
        have HRA9 := Lib.hid (HRA8.out.below hb (Nat.le_refl _))
        have HCl9 := Lib.hid (HCl8.out.below hb (Nat.le_refl _))
        have hC9 := later_step hC8 hb
        have HCr9 := Lib.hid (Cells.owned3 ho)
        clear hb ho
        go_wp2_with (refine wpList_store_mem aggRd HM9.out 4 rfl rfl rfl rfl rfl hD8 hD8.symm hD1 ?_; intro wy hy hty; have HY := Lib.hid hy; have HT := Lib.hid hty; clear hy hty; have cL := HY.out.cell 3 0 rfl rfl; have fL := HY.out.frozen 3 0 rfl)
        go_meet
        have HTy : Hid (Touch [qd, ql] w9 (wy.setCell ⟨ql, 0, none⟩ (.slice ar 6 cr))) := Lib.hid ((HT.out.wide (by simp)).trans (Touch.setCell ⟨ql, 0, none⟩ (by simp) _))
        have HNe : Hid (m.bm.dev.dirty.length = 0 ∨ ∀ b, RIn (.agg D) b → b ∉ [qd, ql]) := Lib.hid (HRhi.out.imp id (fun h b hb hm => by simp only [List.mem_cons, List.not_mem_nil, or_false] at hm; have h1 := h b hb; have h2 := HRlo.out b hb; have h3 := HQd.out; have h4 := HQd1.out; have h5 := HQl.out; have h6 := HQl1.out; have s5 := HS5.out; have s6 := HS6.out; have s7 := HS7.out; have s8 := HS8.out; have s9 := HS9.out; omega))
        have HNc : Hid (∀ x, ar = some x → x.block ∉ [qd, ql]) := Lib.hid (fun x hx hm => by simp only [List.mem_cons, List.not_mem_nil, or_false] at hm; have h1 := HChi.out x hx; have h2 := HClo.out x hx; have h3 := HQd.out; have h4 := HQd1.out; have h5 := HQl.out; have h6 := HQl1.out; have s5 := HS5.out; have s6 := HS6.out; have s7 := HS7.out; have s8 := HS8.out; have s9 := HS9.out; omega)
        have HAq : Hid (∀ k ∈ A.list, k ∉ [qd, ql]) := Lib.hid (fun k hk hm => by simp only [List.mem_cons, List.not_mem_nil, or_false] at hm; have h1 := HA4.out.mem k hk; have h3 := HQd.out; have h4 := HQd1.out; have h5 := HQl.out; have h6 := HQl1.out; have s5 := HS5.out; have s6 := HS6.out; have s7 := HS7.out; have s8 := HS8.out; have s9 := HS9.out; omega)
        exact ⟨qd, ql, D, _, _, rfl, rfl, Lib.hid ((HY.out.set 3 0 (.slice ar 6 cr) rfl (Nat.lt_succ_self 0)).perm (.cons _ (.cons _ (.cons _ (.swap _ _ _))))), Lib.hid (HRA9.out.touch HTy.out HNe.out), Lib.hid (HCr9.out.touchL HTy.out (fun x hx _ => HNc.out x hx)), Lib.hid (HA9.out.keep (fun k hk => HTy.out.block k (HA9.out.mem k hk) (HAq.out k hk)))⟩
  case rest =>
    clear HM2 HA0 HNow HAll HRefs
    obtain ⟨qd, ql, D, al, cl, rfl, rfl, HM4, HRA4, HCr4, HA4⟩ := hcut
    obtain ⟨hD8, hD1⟩ := HRA4.out.arr
    have c0 := HM4.out.cell 2 0 rfl rfl
    have r0 := fun x => later_cell c0 x
    go_upto_region 7 with fail
    refine wp_np ?_
    refine wp_region_seg (C := fun w' => ∃ x : Later (wc), w' = x.val) [.fl [0, 1, 3, 4], .sq [2] true, .sq [5, 6, 7] false] (by kernel_rfl) (by kernel_rfl) (by intro c a d v w h; cases d <;> exact h) ?_
    simp only [segs, picks, List.getElem?_cons_succ, List.getElem?_cons_zero]
    have hC5 := later_drew (wc)
    refine wpSeg_fl hC5 ?_
    repeat (first | go_big_quiet_step (fail) | quiet_step (fail))
    refine wpQuiet_nil ?_
    have HM5 := Lib.hid (HM4.out.later (later_below hC5))
    have HRA5 := Lib.hid (HRA4.out.below (later_below hC5) (Nat.le_refl _))
    have HCr5 := Lib.hid (HCr4.out.below (later_below hC5) (Nat.le_refl _))
    have HA5 := Lib.hid (HA4.out.below (later_below hC5))
    clear r0 c0 HM4 HRA4 HCr4 HA4
    generalize wc.drew = w5 at *
    refine wpSeg_sq (fun K hK => ?_)
    go_wp2_with fail
    refine (callsIn_wide.1 (dblocks_in A 1 _)).mono ?_
    rintro e w6' ⟨rfl, rfl⟩
    have hb := below_alloc w5 (.cells #[valloc A] 24)
    have HM6 := Lib.hid (HM5.out.alloc #[valloc A] 24)
    have HRA6 := Lib.hid (HRA5.out.below hb (Nat.le_refl _))
    have HCr6 := Lib.hid (HCr5.out.below hb (Nat.le_refl _))
    have HA6 := Lib.hid (HA5.out.below hb)
    have hC6 := later_step hC5 hb
    clear hb HRA5 HCr5 HA5
    go_wp2_with fail
    refine hK _ _ (fun _ => hC6) ?_
    clear hK K
    generalize w5.alloc _ = w6 at *
    obtain ⟨p1, hp1⟩ : ∃ p1, p1 = w5.heap.size := ⟨_, rfl⟩
    rw [← hp1] at HM6 ⊢
    clear hp1 HM5
    refine wpSeg_last ?_
    go_wp2_with fail
    refine (callsIn_wide.1 (dobjects_in A 1 _)).mono ?_
    rintro e w7' ⟨rfl, rfl⟩
    have hb := below_alloc w6 (.cells #[valloc A] 24)
    have HM7 := Lib.hid (HM6.out.alloc #[valloc A] 24)
    have HRA7 := Lib.hid (HRA6.out.below hb (Nat.le_refl _))
    have HCr7 := Lib.hid (HCr6.out.below hb (Nat.le_refl _))
    have HA7 := Lib.hid (HA6.out.below hb)
    clear hb HRA6 HCr6 HA6 hC5 hC6
    have qF1 := fun w => run_eql_func_nil (P := Tryz.prog) w 105 Tryz.underlying105 (.func 128) #[] #[.pointer (some ⟨p1, 0, none⟩)]
    have qF2 := fun w => run_eql_func_nil (P := Tryz.prog) w 105 Tryz.underlying105 (.func 131) #[] #[.pointer (some ⟨w6.heap.size, 0, none⟩)]
    go_upto_region 10 with fail
    generalize w6.alloc _ = w7 at *
    obtain ⟨p2, hp2⟩ : ∃ p2, p2 = w6.heap.size := ⟨_, rfl⟩
    rw [← hp2] at HM7 ⊢
    clear hp2 HM6 qF1 qF2
    simp only [List.cons_append, List.nil_append] at HM7
    go_upto_region 11 with fail
    obtain ⟨qt, hqt⟩ : ∃ qt, qt = w7.heap.size := ⟨_, rfl⟩
    have bt := (Boxed.new w7 9 (.string { data := #[] })).alloc (.cells #[.int .i64 1] 3)
    have bb := Boxed.new (w7.alloc (.cells #[.string { data := #[] }] 9)) 3 (.int .i64 1)
    rw [World.size_alloc] at bb
    have hb8 : Below w7.heap.size w7 ((w7.alloc (.cells #[.string { data := #[] }] 9)).alloc (.cells #[.int .i64 1] 3)) := (below_alloc _ _).trans ((below_alloc _ _).mono (below_alloc _ _).size)
    have hs8 : ((w7.alloc (.cells #[.string { data := #[] }] 9)).alloc (.cells #[.int .i64 1] 3)).heap.size = w7.heap.size + 2 := by simp
    generalize (w7.alloc _).alloc _ = w8 at *
    rw [← hqt] at bt bb hs8 hb8 ⊢
    have HQt := Lib.hid hqt
    have HBt := Lib.hid bt
    have HBb := Lib.hid bb
    have HB8 := Lib.hid hb8
    have HS8 := Lib.hid hs8
    clear hqt bt bb hb8 hs8
    have HA8 : Hid (AlAt w8 A n 6 m) := Lib.hid (HA7.out.below (by rw [← HQt.out]; exact HB8.out))
    have HP1 : Hid (Boxed w8 p1 24 (valloc A)) := Lib.hid ((HB8.out.block p1 (by rw [HQt.out]; exact HM7.out.glt 5 rfl)).trans (HM7.out.exact 5 rfl))
    have HX : Hid (∀ y ∈ A.list, y < qt) := Lib.hid (fun y hy => by rw [HQt.out]; exact HA7.out.mem y hy)
    have HLow := Lib.hid (fun b => HOk.out.bm.low b)
    have HMlt : Hid (∀ y ∈ ([⟨z, 5, [.int .u8 n8], true⟩, ⟨z + 1, 4, [.bool false], true⟩, ⟨q, 28, [valloc A, vdev A.X.F, .slice sa l sc], true⟩, ⟨qd, 34, D.toList, true⟩, ⟨ql, 36, [.slice al 6 cl], true⟩, ⟨p1, 24, [valloc A], true⟩, ⟨p2, 24, [valloc A], true⟩] : List Ent), y.g < qt) := Lib.hid (fun y hy => by rw [HQt.out]; exact HM7.out.lt y hy)
    have HRold : Hid (m.bm.dev.dirty.length = 0 ∨ ∀ b, RIn (.agg D) b → b < qt) := Lib.hid (HRA7.out.old.imp id (fun h b hb => by rw [HQt.out]; exact h b hb))
    have HP1q : Hid (p1 < qt) := Lib.hid (by rw [HQt.out]; exact HM7.out.glt 5 rfl)
    have HP2q : Hid (p2 < qt) := Lib.hid (by rw [HQt.out]; exact HM7.out.glt 6 rfl)
    go_wp2_with fail
    refine (wpIn_wide (n := 9)).1 ?_
    refine wpIn_rangeFunc_ownG rfl (by omega) (gf := 128) (lb := #[.pointer (some ⟨p1, 0, none⟩)]) rfl trivial (enters_of Tryz.func128 (by kernel_rfl) rfl)
      (dblocks_stops (m := m) 8 (by omega) (by omega) (by omega) HLow.out p1 qt w8.heap.size HA8.out HP1.out HX.out) KpT.trans (KpT.book (by have := HB8.out.size; have := HQt.out; omega) HP1.out.lt) (Below.refl _ _) (fun _ => rfl)
      (fun pre W => Boxed W qt 9 (strV (txL bW (lnV pre))) ∧ Boxed W (qt + 1) 3 (.int .i64 ((pre.length + 1 : Nat) : Int)) ∧ Below qt w7 W ∧ lnV pre = blkTo m.bm.list pre.length)
      (fun _ pre _ => ¬ (lnV pre <+: blkTo m.bm.list 5))
      (OwnFrom.and (Own.from (boxed_own _ _ (fun pre : List Ln => strV (txL bW (lnV pre)))) _) (OwnFrom.and (Own.from (boxed_own _ _ (fun pre : List Ln => Value.int .i64 ((pre.length + 1 : Nat) : Int))) _) (OwnFrom.and (ownFrom_below (by have := HQt.out; omega) (by have := HB8.out.size; have := HQt.out; omega)) (own_const (fun pre : List Ln => lnV pre = blkTo m.bm.list pre.length)))))
      (fun _ _ _ _ _ hs _ _ => hs)
      ⟨HBt.out, HBb.out, HB8.out, rfl⟩ ?a1 ?assign ?body ?done ?stop
    case assign =>
      intro l x W K hK
      gi_wp2
      exact hK
    case stop =>
      rintro D c pre W _ h1 h2 _
      exact absurd h1 h2
    case body =>
      rintro l' pre x W ⟨hbt, hbb, hbel, hpr⟩ hlt
      obtain ⟨s, hs⟩ := x
      have hlt5 : pre.length < 5 := hlt
      obtain ⟨b, hbn⟩ : ∃ b, b = pre.length + 1 := ⟨_, rfl⟩
      rw [← hbn] at hbb
      have HMW := Lib.hid (HM7.out.later (by rw [← HQt.out]; exact hbel))
      have HCW := Lib.hid (HCr7.out.below (w' := W) (by rw [← HQt.out]; exact hbel) (Nat.le_refl _))
      have hqs : qt + 1 < W.heap.size := hbb.lt
      obtain ⟨kk, cc, zz, he⟩ := hdGetD m.bm.list b
      have hb6 : b < m.bm.list.length := by rw [HLn.out]; omega
      obtain ⟨b1, o1, rfl, e0, e1, e2⟩ := hd_cells HCW.out hb6 he
      have HG : hdGet m.bm.list (b : Int) = ⟨kk, cc, zz⟩ := by
        unfold hdGet
        rw [if_neg (by rw [HLn.out]; omega), Int.toNat_natCast, he]
      have hlw := HLow.out b
      rw [HG] at hlw
      have HRb := Lib.hid (fun w => rblock_any b (by omega) ⟨kk, cc, zz⟩ hlw w)
      unfold Hd.val at HRb
      dsimp only at HRb
      have HLB : Hid (blkLn m.bm.list b = itoa (b : Int) ++ [32] ++ blkT ⟨kk, cc, zz⟩) := Lib.hid (by unfold blkLn; rw [HG])
      generalize itoa (b : Int) ++ [32] ++ blkT ⟨kk, cc, zz⟩ = LB at *
      have hlB : (bstr LB).size ≤ 300000 := by rw [bstr_size, ← HLB.out]; exact blkLn_len (by omega) (HLow.out b)
      have hlT : (bstr (txL bW (lnV pre))).size ≤ 2000000 := by rw [bstr_size]; have := txL_len (p := bW) (by decide) pre; omega
      have hb6' : (b : Int) < 6 := by omega
      have HTs : Hid (∀ s, strV (txL bW (lnV pre) ++ (bW ++ s ++ [10])) = Value.string (bstr (txL bW (lnV pre)) ++ { data := #[98, 108, 111, 99, 107, 32] } ++ bstr s ++ { data := #[10] })) := Lib.hid (fun s => by
        rw [show strV (txL bW (lnV pre) ++ (bW ++ s ++ [10])) = Value.string (bstr (txL bW (lnV pre) ++ (bW ++ s ++ [10]))) from rfl, ← List.append_assoc, ← List.append_assoc, ← bstr_append, ← bstr_append, ← bstr_append]; rfl)
      have HTn : Hid (∀ h : s.length ≤ 300000, txL bW (lnV (pre ++ [⟨s, h⟩])) = txL bW (lnV pre) ++ (bW ++ s ++ [10])) := Lib.hid (fun h => by rw [lnV_snoc, txL_snoc])
      generalize txL bW (lnV pre) = T at *
      have HBt1 := Lib.hid hbt
      have HBb1 := Lib.hid hbb
      have HBel := Lib.hid hbel
      have HPr := Lib.hid hpr
      have HBn := Lib.hid hbn
      have cb := hbb.cell
      have cl8 := HMW.out.cell 4 0 rfl rfl
      have rb := fun x => later_cell cb x
      have rl := fun x => later_cell cl8 x
      have r0 := fun x => later_cell e0 x
      have r1 := fun x => later_cell e1 x
      have r2 := fun x => later_cell e2 x
      clear he HG hlw hbt hbb hbel hpr hbn hlt cb cl8 e0 e1 e2 hb6
      refine wpIn_block ?_
      refine wpIn_seq_k (fun K1 hK1 => ?_)
      refine wpIn_seq_k (fun K2 hK2 => ?_)
      refine wpIn_region_seg (C := fun w' => ∃ x : Later (W), w' = x.val) [.fl [0, 1, 2], .sq [3, 4] false, .fl [5, 6, 7, 8, 9, 10], .sq [11] true, .sq [12, 13] false] (by kernel_rfl) (by kernel_rfl) (by intro c a d v w h; cases d <;> exact h) (by rintro ⟨a, w, h⟩; exact h) (by kernel_rfl) ?_
      simp only [segs, picks, List.getElem?_cons_succ, List.getElem?_cons_zero]
      have hC1 := later_drew (W)
      refine wpSeg_fl hC1 ?_
      repeat (first | go_big_quiet_step (fail) | quiet_step (fail))
      refine wpQuiet_nil ?_
      refine wpSeg_sq (fun K hK => ?_)
      go_wp2_with fail
      go_wp2_with fail
      refine hK _ _ (fun h => nomatch h) ?_
      clear hK K
      refine wpSeg_fl hC1 ?_
      repeat (first | go_big_quiet_step (fail) | quiet_step (fail))
      refine wpQuiet_nil ?_
      generalize W.drew = w12 at *
      refine wpSeg_sq (fun K hK => ?_)
      go_wp2_with fail
      refine (HRb.out _).mono ?_
      rintro e w13 ⟨rfl, hb13⟩
      have hC2 := later_step hC1 hb13
      have HB13 := Lib.hid (later_below hC2)
      clear hb13 rb rl r0 r1 r2 hC1
      go_wp2_with fail
      refine hK _ _ (fun _ => hC2) ?_
      clear hK K
      have bt13 : Boxed w13 qt 9 (strV T) := (HB13.out.block qt HBt1.out.lt).trans HBt1.out
      have bb13 : Boxed w13 (qt + 1) 3 (.int .i64 (b : Int)) := (HB13.out.block _ HBb1.out.lt).trans HBb1.out
      by_cases hsl : s = LB
      · have HTs1 := HTs.out s
        have hlt13 := Lib.hid HB13.out.size
        have ct := bt13.cell
        have ft := bt13.frozen
        have bb14 := bb13.other (show qt + 1 ≠ qt by omega) (.string (bstr T ++ { data := #[98, 108, 111, 99, 107, 32] } ++ bstr s ++ { data := #[10] }))
        have cb := bb14.cell
        have fb := bb14.frozen
        have HKf := Lib.hid (((keeps_below (B := w8.heap.size) HB13.out).trans (keeps_setCell bt13 _ (.string (bstr T ++ { data := #[98, 108, 111, 99, 107, 32] } ++ bstr s ++ { data := #[10] })))).trans (keeps_setCell bb14 _ (.int .i64 ((b : Int) + 1))))
        subst hsl
        have HKp := Lib.hid (((kpT_below (n₀ := qt) (n₁ := w8.heap.size) (Bn := p1) HB13.out (by omega) (Nat.lt_of_lt_of_le HP1.out.lt (by have := HBel.out.size; have := HS8.out; have := HQt.out; omega))).trans (kpT_setCell (b := qt) (Nat.le_refl _) (by have := HS8.out; omega) (by have := HP1q.out; omega) (.string (bstr T ++ { data := #[98, 108, 111, 99, 107, 32] } ++ bstr s ++ { data := #[10] })))).trans (kpT_setCell (b := qt + 1) (by omega) (by have := HS8.out; omega) (by have := HP1q.out; omega) (.int .i64 ((b : Int) + 1))))
        have hbt15 := (bt13.set (.string (bstr T ++ { data := #[98, 108, 111, 99, 107, 32] } ++ bstr s ++ { data := #[10] }))).other (show qt ≠ qt + 1 by omega) (.int .i64 ((b : Int) + 1))
        have hbb15 := bb14.set (.int .i64 ((b : Int) + 1))
        have HI := Lib.hid (And.intro hbt15 hbb15)
        clear hbt15 hbb15 bt13 bb13 bb14
        refine wpSeg_last ?_
        go_wp2_with fail
        gi_wp2
        refine ⟨HKf.out, HKp.out, ?_, ?_, HBel.out.trans HKp.out.1, ?_⟩
        · rw [HTn.out hs, HTs1]; exact HI.out.1
        · have e : ((((pre ++ [(⟨s, hs⟩ : Ln)]).length + 1 : Nat)) : Int) = (b : Int) + 1 := by rw [HBn.out]; simp
          rw [e]; exact HI.out.2
        · have hl1 : (pre ++ [(⟨s, hs⟩ : Ln)]).length = pre.length + 1 := by simp
          rw [lnV_snoc, HPr.out, hl1, blkTo_succ, ← HBn.out, HLB.out]
      · have hne := str_ne hsl
        have HM13 := Lib.hid (HMW.out.later HB13.out)
        have cz := HM13.out.cell 1 0 rfl rfl
        have fz := HM13.out.frozen 1 0 rfl
        have HKf := Lib.hid ((keeps_below (B := w8.heap.size) HB13.out).trans (keeps_setCell (HM13.out.exact 1 rfl) _ (.bool false)))
        have HIx : Hid (∀ h : s.length ≤ 300000, ¬ lnV (pre ++ [⟨s, h⟩]) <+: blkTo m.bm.list 5) := Lib.hid (fun h hp => by
          rw [lnV_snoc, HPr.out] at hp
          have := blk_snoc hp
          rw [← HBn.out, HLB.out] at this
          exact hsl this)
        clear bt13 bb13
        refine wpSeg_last ?_
        go_wp2_with fail
        gi_wp2
        exact ⟨HKf.out, HIx.out hs⟩
    case done =>
      rintro D1 ys w9 hD1 hys ⟨hbt, hbb, hbel, hpr⟩ hK1
      have hyl : ys.length = 5 := by have h1 := congrArg List.length hys; rw [blkTo_len] at h1; simpa [lnV] using h1
      rw [hyl] at hbb
      have HM9 := Lib.hid (HM7.out.later (W' := w9) (by rw [← HQt.out]; exact hbel))
      have HRA9 := Lib.hid (HRA7.out.below (w' := w9) (by rw [← HQt.out]; exact hbel) (Nat.le_refl _))
      have HA9 := Lib.hid (HA7.out.below (w' := w9) (by rw [← HQt.out]; exact hbel))
      have HBt9 := Lib.hid hbt
      have HBb9 := Lib.hid hbb
      have HYs := Lib.hid hys
      have HYl : Hid (ys.length = 5) := Lib.hid hyl
      have HK9 := Lib.hid hK1
      have HD1 := Lib.hid hD1
      have HS9 := Lib.hid hbel.size
      have HOb := Lib.hid (aobjects_any HA9.out)
      have cq := HM9.out.cell 2 0 rfl rfl
      have HB9 := Lib.hid hbel
      clear hbt hbb hbel hpr hK1 hys hyl hD1 HBt HBb HB8 HA8 HCr7 HRA7
      go_wp2_with fail
      refine HOb.out.mono ?_
      rintro e w10 ⟨v, rfl, ho, _, hb10⟩
      have HLi := Lib.hid (LstI.of ho)
      have HM10 := Lib.hid (HM9.out.later hb10)
      have HRA10 := Lib.hid (HRA9.out.below hb10 (Nat.le_refl _))
      have HA10 := Lib.hid (HA9.out.below hb10)
      have bt10 := (hb10.block qt HBt9.out.lt).trans HBt9.out
      have bb10 := (hb10.block (qt + 1) HBb9.out.lt).trans HBb9.out
      have hk10 := (hb10.block D1 (Array.getElem?_eq_some_iff.1 HK9.out).1).trans HK9.out
      have HS10 := Lib.hid hb10.size
      have HB10 : Hid (Below qt w7 w10) := Lib.hid (HB9.out.trans (hb10.mono (by have := HB9.out.size; have := HQt.out; omega)))
      have HD1l := Lib.hid (Array.getElem?_eq_some_iff.1 HK9.out).1
      obtain ⟨NL, hNL⟩ : ∃ NL, NL = (onesL m.used).length := ⟨_, rfl⟩
      have HNL := Lib.hid hNL
      have hNl : NL ≤ 3072 := by rw [hNL, onesL_length]; have := count_le_len m.used; rw [HOk.out.lenU] at this; omega
      clear ho hb10 HM9 HRA9 HA9 HBt9 HBb9 HK9 cq HOb hNL
      obtain ⟨la, lc, rfl, hli⟩ := HLi.out
      have HLs := Lib.hid hli
      rw [← HNL.out]
      clear hli HLi
      go_upto_region 19 with fail
      have hb11 : Below w10.heap.size w10 ((w10.alloc (.cells #[.slice la NL lc] 26)).alloc (.cells #[.int .i64 0] 3)) := (below_alloc _ _).trans ((below_alloc _ _).mono (below_alloc _ _).size)
      have bu := (Boxed.new w10 26 (.slice la NL lc)).alloc (.cells #[.int .i64 0] 3)
      have bk := Boxed.new (w10.alloc (.cells #[.slice la NL lc] 26)) 3 (.int .i64 0)
      rw [World.size_alloc] at bk
      have hs11 : ((w10.alloc (.cells #[.slice la NL lc] 26)).alloc (.cells #[.int .i64 0] 3)).heap.size = w10.heap.size + 2 := by simp
      have HM11 := Lib.hid (HM10.out.later hb11)
      have HRA11 := Lib.hid (HRA10.out.below hb11 (Nat.le_refl _))
      have HA11 := Lib.hid (HA10.out.below hb11)
      have HB11 := Lib.hid (HB10.out.trans (hb11.mono (by have := HB10.out.size; have := HQt.out; omega)))
      have bt11 := (hb11.block qt (Array.getElem?_eq_some_iff.1 bt10).1).trans bt10
      have bb11 := (hb11.block (qt + 1) (Array.getElem?_eq_some_iff.1 bb10).1).trans bb10
      have hk11 := (hb11.block D1 (Array.getElem?_eq_some_iff.1 hk10).1).trans hk10
      have HLs11 := Lib.hid (HLs.out.below hb11)
      have hfar : ∀ y, la = some y → onesL m.used ≠ [] → w9.heap.size ≤ y.block ∧ y.block < w10.heap.size := fun y hy hne => by
        obtain ⟨g, cs, e1, e2, e3⟩ := HLs.out.far hne
        rw [e1] at hy; cases hy
        exact ⟨e2, (Array.getElem?_eq_some_iff.1 e3).1⟩
      generalize (w10.alloc _).alloc _ = w11 at *
      obtain ⟨qu, hqu⟩ : ∃ qu, qu = w10.heap.size := ⟨_, rfl⟩
      rw [← hqu] at bu bk hs11 hfar HS10 ⊢
      have HBu := Lib.hid (show Boxed w11 qu 26 (.slice la NL lc) from bu)
      have HBk := Lib.hid (show Boxed w11 (qu + 1) 3 (.int .i64 0) from bk)
      have HBt := Lib.hid (show Boxed w11 qt 9 (strV (txL bW (lnV ys))) from bt11)
      have HBb := Lib.hid (show Boxed w11 (qt + 1) 3 (.int .i64 6) from bb11)
      have HK11 := Lib.hid hk11
      have HS11 := Lib.hid hs11
      have HFar := Lib.hid hfar
      have HQw : Hid (qt + 2 ≤ w9.heap.size ∧ w9.heap.size ≤ qu ∧ D1 < w9.heap.size ∧ qt + 2 ≤ D1) := Lib.hid (by have h1 := HS8.out; have h2 := HD1.out; have h3 := HD1l.out; have h4 := HS10.out; omega)
      have HP2 : Hid (Boxed w11 p2 24 (valloc A)) := Lib.hid (HM11.out.exact 6 rfl)
      clear hb11 bu bk hs11 bt10 bb10 hk10 bt11 bb11 hk11 hfar hqu HM10 HRA10 HA10 HLs HS10 HD1l
      have HDO : Hid (∀ x ∈ onesL m.used, ∀ w', RAt w' (.agg D) m.bm.dev.dirty.length (nowD m.bm.dev).ref → Calls Tryz.prog 21 #[.agg D, .int .i64 (x : Int)] w' (Gives (strV (objLn m x)) w')) := Lib.hid (fun x hx w' hr => by
        have hu := mem_onesL.1 hx
        have hlt := getD_true_lt hu
        rw [HOk.out.lenU] at hlt
        obtain ⟨o, ho⟩ := Option.isSome_iff_exists.1 (HOk.out.placed x hu)
        obtain ⟨hh, hc, hx1, hx2⟩ := placed_head ho
        obtain ⟨_, s2, s3, s4, s5⟩ := placed_size ho
        obtain ⟨op, od, oc⟩ := o
        dsimp only at hc s2 s3 s4 s5
        subst hc
        obtain ⟨pn, rfl⟩ := Int.eq_ofNat_of_zero_le s2
        obtain ⟨dn, rfl⟩ := Int.eq_ofNat_of_zero_le s4
        have e : objLn m x = objT (nowD m.bm.dev) (x : Int) (pn : Int) (dn : Int) := by unfold objLn; rw [ho]; rfl
        rw [e]
        exact robject_any (by simp [nowD, freshDev]) hr (nowD_fit HWf.out 0) (x : Int) (by constructor <;> omega) pn dn hh)
      have HRnq : Hid (m.bm.dev.dirty.length = 0 ∨ ∀ b, RIn (.agg D) b → b ∉ [qt, qu + 1]) := Lib.hid (HRold.out.imp id (fun h b hb hm => by
        have h1 := h b hb
        have h2 := HQw.out
        simp only [List.mem_cons, List.not_mem_nil, or_false] at hm
        omega))
      have HMnq : Hid (∀ y ∈ ([⟨z, 5, [.int .u8 n8], true⟩, ⟨z + 1, 4, [.bool false], true⟩, ⟨q, 28, [valloc A, vdev A.X.F, .slice sa l sc], true⟩, ⟨qd, 34, D.toList, true⟩, ⟨ql, 36, [.slice al 6 cl], true⟩, ⟨p1, 24, [valloc A], true⟩, ⟨p2, 24, [valloc A], true⟩] : List Ent), y.g ∉ [qt, qu + 1]) := Lib.hid (fun y hy hm => by
        have h1 := HMlt.out y hy
        have h2 := HQw.out
        simp only [List.mem_cons, List.not_mem_nil, or_false] at hm
        omega)
      go_wp2_with fail
      refine (wpIn_wide (n := 9)).1 ?_
      refine wpIn_rangeFunc_ownG rfl (by omega) (gf := 131) (lb := #[.pointer (some ⟨p2, 0, none⟩)]) rfl trivial (enters_of Tryz.func131 (by kernel_rfl) rfl)
        (dobjects_stops (m := m) 8 (by omega) (by omega) HOk.out p2 qt w11.heap.size HA11.out HP2.out HX.out (Nat.le_refl _)) KpT.trans (KpT.book (by have := HS11.out; have := HQw.out; omega) HP2.out.lt) (Below.refl _ _) (fun _ => rfl)
        (fun pre W => Boxed W qt 9 (strV (txL bW (lnV ys) ++ txL oW (lnV pre))) ∧ Boxed W (qu + 1) 3 (.int .i64 (pre.length : Int)) ∧ Touch [qt, qu + 1] w11 W ∧ lnV pre = objTo m pre.length)
        (fun _ pre _ => ¬ (lnV pre <+: objTo m (onesL m.used).length))
        (OwnFrom.and (Own.from (boxed_own _ _ (fun pre : List Ln => strV (txL bW (lnV ys) ++ txL oW (lnV pre)))) _) (OwnFrom.and (Own.from (boxed_own _ _ (fun pre : List Ln => Value.int .i64 (pre.length : Int))) _) (OwnFrom.and (touch_own (Nat.le_refl _)) (own_const (fun pre : List Ln => lnV pre = objTo m pre.length)))))
        (fun _ _ _ _ _ hs _ _ => hs)
        ⟨by rw [show txL oW (lnV []) = [] from rfl, List.append_nil]; exact HBt.out, HBk.out, Touch.refl _ _, rfl⟩ ?a2 ?assign2 ?body2 ?done2 ?stop2
      case assign2 =>
        intro l x W K hK
        gi_wp2
        exact hK
      case stop2 =>
        rintro D c pre W _ h1 h2 _
        exact absurd h1 h2
      case body2 =>
        rintro l' pre x W ⟨hbt, hbk, hto, hpr⟩ hlt
        obtain ⟨s, hs⟩ := x
        rw [← HNL.out] at hlt
        obtain ⟨k, hkn⟩ : ∃ k, k = pre.length := ⟨_, rfl⟩
        rw [← hkn] at hbk hlt
        have hw11 : ∀ y, y < w11.heap.size → y ≠ qt → y ≠ qu + 1 → W.heap[y]? = w11.heap[y]? := fun y hy h1 h2 => hto.block y hy (by simp [h1, h2])
        have h8 := HQw.out
        have hRAW := HRA11.out.touch hto (HRnq.out)
        have hML : MemR w.heap.size W _ := HM11.out.r.apart hto HMnq.out
        obtain ⟨x, hx⟩ : ∃ x, (onesL m.used)[k]? = some x := ⟨_, List.getElem?_eq_getElem (by rw [← HNL.out]; exact hlt)⟩
        have hxm := List.mem_of_getElem? hx
        have hne : onesL m.used ≠ [] := List.ne_nil_of_mem hxm
        have hcW : Cells W la ((onesL m.used).map vi) := HLs11.out.cells.touchL hto (fun y hy _ hm => by
          have h1 := HFar.out y hy hne
          simp only [List.mem_cons, List.not_mem_nil, or_false] at hm
          omega)
        obtain ⟨b2, o2, rfl, _, hc2⟩ := hcW.at (i := k) (by rw [List.length_map, ← HNL.out]; exact hlt)
        have cx := hc2 k (vi x) (by rw [List.getElem?_map, hx]; rfl)
        have hbu : Boxed W qu 26 (.slice (some ⟨b2, o2, none⟩) NL lc) := (hw11 qu HBu.out.lt (by omega) (by omega)).trans HBu.out
        have HRb := Lib.hid (HDO.out x hxm)
        have HSn : Hid (∀ h : s.length ≤ 300000, s ≠ objLn m x → ¬ lnV (pre ++ [⟨s, h⟩]) <+: objTo m (onesL m.used).length) := Lib.hid (fun h hne hp => by
          rw [lnV_snoc, hpr, ← hkn] at hp
          exact hne (obj_snoc hx hp))
        have HSe : Hid (∀ h : s.length ≤ 300000, s = objLn m x → lnV (pre ++ [⟨s, h⟩]) = objTo m (pre ++ [(⟨s, h⟩ : Ln)]).length) := Lib.hid (fun h e => by
          have hl1 : (pre ++ [(⟨s, h⟩ : Ln)]).length = pre.length + 1 := by simp
          rw [lnV_snoc, hpr, hl1, objTo_succ (by rw [← hkn]; exact hx)]
          show _ ++ [s] = _
          rw [e])
        have HTn : Hid (∀ h : s.length ≤ 300000, txL bW (lnV ys) ++ txL oW (lnV (pre ++ [⟨s, h⟩])) = (txL bW (lnV ys) ++ txL oW (lnV pre)) ++ (oW ++ s ++ [10])) := Lib.hid (fun h => by rw [lnV_snoc, txL_snoc, ← List.append_assoc])
        have hlT : (bstr (txL bW (lnV ys) ++ txL oW (lnV pre))).size ≤ 1000000000 := by
          rw [bstr_size, List.length_append]
          have h1 := txL_len (p := oW) (by decide) pre
          have h2 := txL_len (p := bW) (by decide) ys
          have h3 := HYl.out
          omega
        have hlB : (bstr (objLn m x)).size ≤ 300000 := by rw [bstr_size]; exact objLn_len m (by have h1 := getD_true_lt (mem_onesL.1 hxm); rw [HOk.out.lenU] at h1; omega)
        generalize txL bW (lnV ys) ++ txL oW (lnV pre) = T at *
        generalize objLn m x = LB at *
        have HTs : Hid (strV (T ++ (oW ++ s ++ [10])) = Value.string (bstr T ++ { data := #[111, 98, 106, 101, 99, 116, 32] } ++ bstr s ++ { data := #[10] })) := Lib.hid (by
          rw [show strV (T ++ (oW ++ s ++ [10])) = Value.string (bstr (T ++ (oW ++ s ++ [10]))) from rfl, ← List.append_assoc, ← List.append_assoc, ← bstr_append, ← bstr_append, ← bstr_append]; rfl)
        have HBt1 := Lib.hid hbt
        have HBk1 := Lib.hid hbk
        have HTo := Lib.hid hto
        have HKn := Lib.hid hkn
        have HRW := Lib.hid hRAW
        have HMW := Lib.hid hML
        have hWs := hto.size
        have ck := hbk.cell
        have cu := hbu.cell
        have rk := fun x => later_cell ck x
        have ru := fun x => later_cell cu x
        have rx := fun x => later_cell cx x
        have hlt' : (k : Int) < (NL : Int) := by omega
        have hge1 : decide (NL ≤ k) = false := by simp; omega
        have hge2 : decide ((NL : Int) ≤ (k : Int)) = false := by simp; omega
        have hld : ∀ w', (∃ x : Later W, w' = x.val) → ∀ (i : Nat) (v : Value), D.toList[i]? = some v → w'.cell? ⟨qd, 0 + i, none⟩ = some v := by
          rintro w' ⟨x, rfl⟩ i v hi
          refine later_cell ?_ x
          rw [Nat.zero_add]
          exact HMW.out.cell 3 i rfl hi
        clear hbt hbk hto hpr hkn hRAW hML hcW hc2 cx ck cu hbu hxm hne hx hw11 h8
        refine wpIn_block ?_
        refine wpIn_seq_k (fun K1 hK1 => ?_)
        refine wpIn_seq_k (fun K2 hK2 => ?_)
        refine wpIn_region_seg (C := fun w' => ∃ x : Later (W), w' = x.val) [.fl [0, 1, 2], .sq [3, 4] false, .fl [5, 6, 7, 8, 9, 10], .sq [11] true, .sq [12, 13] false] (by kernel_rfl) (by kernel_rfl) (by intro c a d v w h; cases d <;> exact h) (by rintro ⟨a, w, h⟩; exact h) (by kernel_rfl) ?_
        simp only [segs, picks, List.getElem?_cons_succ, List.getElem?_cons_zero]
        have hC1 := later_drew (W)
        refine wpSeg_fl hC1 ?_
        repeat (first | go_big_quiet_step (fail) | quiet_step (fail))
        refine wpQuiet_nil ?_
        refine wpSeg_sq (fun K hK => ?_)
        go_wp2_with fail
        go_wp2_with fail
        refine hK _ _ (fun h => nomatch h) ?_
        clear hK K
        refine wpSeg_fl hC1 ?_
        repeat (first | (refine wpQuiet_load_arrw aggRd D hld hD8 (by rfl) rfl rfl ?_) | go_big_quiet_step (fail) | quiet_step (fail))
        refine wpQuiet_nil ?_
        generalize W.drew = w12 at *
        refine wpSeg_sq (fun K hK => ?_)
        go_wp2_with fail
        refine (HRb.out _ (HRW.out.below (later_below hC1) (Nat.le_refl _))).mono ?_
        rintro e w13 ⟨rfl, hb13⟩
        have hC2 := later_step hC1 hb13
        have HB13 := Lib.hid (later_below hC2)
        clear hb13 rk ru rx hld hC1
        go_wp2_with fail
        refine hK _ _ (fun _ => hC2) ?_
        clear hK K
        have bt13 : Boxed w13 qt 9 (strV T) := (HB13.out.block qt HBt1.out.lt).trans HBt1.out
        have bk13 : Boxed w13 (qu + 1) 3 (.int .i64 (k : Int)) := (HB13.out.block _ HBk1.out.lt).trans HBk1.out
        have hqq : qu + 1 ≠ qt := by have := HQw.out; omega
        by_cases hsl : s = LB
        · have HTs1 := HTs
          have ct := bt13.cell
          have ft := bt13.frozen
          have bk14 := bk13.other hqq (.string (bstr T ++ { data := #[111, 98, 106, 101, 99, 116, 32] } ++ bstr s ++ { data := #[10] }))
          have ck := bk14.cell
          have fk := bk14.frozen
          have HKf := Lib.hid (((keeps_below (B := w11.heap.size) HB13.out).trans (keeps_setCell bt13 _ (.string (bstr T ++ { data := #[111, 98, 106, 101, 99, 116, 32] } ++ bstr s ++ { data := #[10] })))).trans (keeps_setCell bk14 _ (.int .i64 ((k : Int) + 1))))
          subst hsl
          have HKp := Lib.hid (((kpT_below (n₀ := qt) (n₁ := w11.heap.size) (Bn := p2) HB13.out (by have := HBt1.out.lt; omega) (Nat.lt_of_lt_of_le HP2.out.lt (HTo.out.size))).trans (kpT_setCell (b := qt) (Nat.le_refl _) (by have := HS11.out; have := HQw.out; omega) (by have := HP2q.out; omega) (.string (bstr T ++ { data := #[111, 98, 106, 101, 99, 116, 32] } ++ bstr s ++ { data := #[10] })))).trans (kpT_setCell (b := qu + 1) (by have := HQw.out; omega) (by have := HS11.out; omega) (by have := HP2q.out; have := HQw.out; omega) (.int .i64 ((k : Int) + 1))))
          have HTo1 : Hid (Touch [qt, qu + 1] w11 _) := Lib.hid (((HTo.out.later HB13.out).trans (Touch.setCell ⟨qt, 0, none⟩ (by simp) (.string (bstr T ++ { data := #[111, 98, 106, 101, 99, 116, 32] } ++ bstr s ++ { data := #[10] })))).trans (Touch.setCell ⟨qu + 1, 0, none⟩ (by simp) (.int .i64 ((k : Int) + 1))))
          have hbt15 := (bt13.set (.string (bstr T ++ { data := #[111, 98, 106, 101, 99, 116, 32] } ++ bstr s ++ { data := #[10] }))).other (show qt ≠ qu + 1 from fun h => hqq h.symm) (.int .i64 ((k : Int) + 1))
          have hbk15 := bk14.set (.int .i64 ((k : Int) + 1))
          have HI := Lib.hid (And.intro hbt15 hbk15)
          clear hbt15 hbk15 bt13 bk13 bk14 hqq
          refine wpSeg_last ?_
          go_wp2_with fail
          gi_wp2
          refine ⟨HKf.out, HKp.out, ?_, ?_, HTo1.out, ?_⟩
          · rw [HTn.out hs, HTs1.out]; exact HI.out.1
          · have e : ((((pre ++ [(⟨s, hs⟩ : Ln)]).length : Nat)) : Int) = (k : Int) + 1 := by rw [HKn.out]; simp
            rw [e]; exact HI.out.2
          · exact HSe.out hs trivial
        · have hne := str_ne hsl
          have HM13 := Lib.hid (HMW.out.later HB13.out)
          have cz := HM13.out.cell 1 0 rfl rfl
          have fz := HM13.out.frozen 1 0 rfl
          have HKf := Lib.hid ((keeps_below (B := w11.heap.size) HB13.out).trans (keeps_setCell (HM13.out.exact 1 rfl) _ (.bool false)))
          have HIx : Hid (∀ h : s.length ≤ 300000, ¬ lnV (pre ++ [⟨s, h⟩]) <+: objTo m (onesL m.used).length) := Lib.hid (fun h => HSn.out h hsl)
          clear bt13 bk13 hqq
          refine wpSeg_last ?_
          go_wp2_with fail
          gi_wp2
          exact ⟨HKf.out, HIx.out hs⟩
      case done2 =>
        rintro D2 zs w14 hD2 hzs ⟨hbt, hbk, hto, hpr⟩ hK2
        have hzl : zs.length = NL := by have h1 := congrArg List.length hzs; rw [objTo_len (Nat.le_refl _)] at h1; rw [HNL.out]; simpa [lnV] using h1
        rw [hzl] at hbk
        have hEt : txL bW (lnV ys) ++ txL oW (lnV zs) = textOf 6 m := by rw [HYs.out, hzs]; rfl
        rw [hEt] at hbt
        have HTx := Lib.hid (fun w' (h : AlAt w' A n 6 m) => dtext_any h (by omega) (by omega) HOk.out HLow.out)
        generalize textOf 6 m = TT at hbt HTx hEt
        clear hEt hzs hzl hpr
        have hw11 : ∀ y, y < w11.heap.size → y ≠ qt → y ≠ qu + 1 → w14.heap[y]? = w11.heap[y]? := fun y hy h1 h2 => hto.block y hy (by simp [h1, h2])
        have h8 := HQw.out
        have HB14 : Hid (Below qt w7 w14) := Lib.hid (HB11.out.trans (hto.below (by have := HB11.out.size; have := HQt.out; omega) (fun y hy => by simp only [List.mem_cons, List.not_mem_nil, or_false] at hy; omega)))
        have hbu : Boxed w14 qu 26 (.slice la NL lc) := (hw11 qu HBu.out.lt (by omega) (by omega)).trans HBu.out
        have hbb : Boxed w14 (qt + 1) 3 (.int .i64 6) := (hw11 (qt + 1) HBb.out.lt (by omega) (by omega)).trans HBb.out
        have HK1 := Lib.hid ((hw11 D1 (Array.getElem?_eq_some_iff.1 HK11.out).1 (by omega) (by omega)).trans HK11.out)
        have HK2 := Lib.hid hK2
        have HD2 := Lib.hid hD2
        have HM14 := Lib.hid (HM7.out.later (W' := w14) (by rw [← HQt.out]; exact HB14.out))
        have HA14 := Lib.hid (HA7.out.below (w' := w14) (by rw [← HQt.out]; exact HB14.out))
        have HBu14 := Lib.hid hbu
        have HS14 := Lib.hid hto.size
        have HD12 : Hid (D1 < D2) := Lib.hid (by have := HS11.out; omega)
        have HD1z : Hid (z + 1 < D1) := Lib.hid (by have := HMlt.out ⟨z + 1, 4, [.bool false], true⟩ (by simp); dsimp only at this; omega)
        have HD2z : Hid (z + 1 < D2) := Lib.hid (by have := HD1z.out; have := HD12.out; omega)
        have cb := hbb.cell
        have cl8 := HM14.out.cell 4 0 rfl rfl
        have ck := hbk.cell
        have cu := hbu.cell
        have ct := hbt.cell
        have ca := HM14.out.cell 2 0 rfl rfl
        clear hbt hbk hto hK2 hbu hbb hw11 hD2 h8
        go_upto_region 25 with fail
        refine wp_np ?_
        have rb := fun x => later_cell cb x
        have rl := fun x => later_cell cl8 x
        have rk := fun x => later_cell ck x
        have ru := fun x => later_cell cu x
        have rt := fun x => later_cell ct x
        have ra := fun x => later_cell ca x
        clear cb cl8 ck cu ct ca
        refine wp_region_seg (C := fun w' => ∃ x : Later (w14), w' = x.val) [.fl [0, 1, 2], .sq [3, 4] false, .fl [5, 6, 7], .sq [8, 9, 10] false, .fl [11, 12, 14], .sq [13] true, .sq [15, 16] false] (by kernel_rfl) (by kernel_rfl) (by intro c a d v w h; cases d <;> exact h) ?_
        simp only [segs, picks, List.getElem?_cons_succ, List.getElem?_cons_zero]
        have hC1 := later_drew (w14)
        refine wpSeg_fl hC1 ?_
        repeat (first | go_big_quiet_step (fail) | quiet_step (fail))
        refine wpQuiet_nil ?_
        refine wpSeg_sq (fun K hK => ?_)
        go_wp2_with fail
        go_wp2_with fail
        refine hK _ _ (fun h => nomatch h) ?_
        clear hK K
        refine wpSeg_fl hC1 ?_
        repeat (first | go_big_quiet_step (fail) | quiet_step (fail))
        refine wpQuiet_nil ?_
        refine wpSeg_sq (fun K hK => ?_)
        go_wp2_with fail
        go_wp2_with fail
        refine hK _ _ (fun h => nomatch h) ?_
        clear hK K
        refine wpSeg_fl hC1 ?_
        repeat (first | go_big_quiet_step (fail) | quiet_step (fail))
        refine wpQuiet_nil ?_
        have HA15 := Lib.hid (HA14.out.below (later_below hC1))
        generalize w14.drew = w15 at *
        refine wpSeg_sq (fun K hK => ?_)
        go_wp2_with fail
        refine (HTx.out _ HA15.out).mono ?_
        rintro e w16 ⟨rfl, hb16⟩
        have hC2 := later_step hC1 hb16
        have HB16 := Lib.hid (later_below hC2)
        clear hb16 rb rl rk ru rt ra hC1
        go_wp2_with fail
        refine hK _ _ (fun _ => hC2) ?_
        clear hK K
        have HM16 := Lib.hid (HM14.out.later HB16.out)
        have HA16 := Lib.hid (HA14.out.below HB16.out)
        have HBu16 : Hid (Boxed w16 qu 26 (.slice la NL lc)) := Lib.hid ((HB16.out.block qu HBu14.out.lt).trans HBu14.out)
        have HK116 := Lib.hid ((HB16.out.block D1 (Array.getElem?_eq_some_iff.1 HK1.out).1).trans HK1.out)
        have HK216 := Lib.hid ((HB16.out.block D2 (Array.getElem?_eq_some_iff.1 HK2.out).1).trans HK2.out)
        have HW16 : Hid (Below w.heap.size w w16) := Lib.hid HM16.out.below
        clear HM14 HA14 HBu14 HK1 HK2 HA15 HTx HB16
        refine wpSeg_last ?_
        go_upto_region 28 with fail
        have hb17 := below_alloc w16 (.cells #[.int .i64 0] 3)
        have bm := Boxed.new w16 3 (.int .i64 0)
        have HM17 := Lib.hid (HM16.out.later hb17)
        have HA17 := Lib.hid (HA16.out.below hb17)
        have HBu17 : Hid (Boxed _ qu 26 (.slice la NL lc)) := Lib.hid ((hb17.block qu HBu16.out.lt).trans HBu16.out)
        have HK117 := Lib.hid ((hb17.block D1 (Array.getElem?_eq_some_iff.1 HK116.out).1).trans HK116.out)
        have HK217 := Lib.hid ((hb17.block D2 (Array.getElem?_eq_some_iff.1 HK216.out).1).trans HK216.out)
        have HW17 := Lib.hid (HW16.out.trans (hb17.mono HW16.out.size))
        have hs17 : (w16.alloc (.cells #[.int .i64 0] 3)).heap.size = w16.heap.size + 1 := by simp
        generalize w16.alloc _ = w17 at *
        obtain ⟨qm, hqm⟩ : ∃ qm, qm = w16.heap.size := ⟨_, rfl⟩
        rw [← hqm] at bm hs17 ⊢
        have HBm := Lib.hid bm
        have HS17 := Lib.hid hs17
        have HQum : Hid (qu < qm ∧ D1 < qm ∧ D2 < qm) := Lib.hid (by rw [hqm]; exact ⟨HBu16.out.lt, (Array.getElem?_eq_some_iff.1 HK116.out).1, (Array.getElem?_eq_some_iff.1 HK216.out).1⟩)
        have HXm : Hid (∀ y ∈ A.list, y < qm) := Lib.hid (fun y hy => by rw [hqm]; exact HA16.out.mem y hy)
        have HMnm : Hid (∀ y ∈ ([⟨z, 5, [.int .u8 n8], true⟩, ⟨z + 1, 4, [.bool false], true⟩, ⟨q, 28, [valloc A, vdev A.X.F, .slice sa l sc], true⟩, ⟨qd, 34, D.toList, true⟩, ⟨ql, 36, [.slice al 6 cl], true⟩, ⟨p1, 24, [valloc A], true⟩, ⟨p2, 24, [valloc A], true⟩] : List Ent), y.g ∉ [qm]) := Lib.hid (fun y hy hm => by
          have h1 := HM16.out.lt y hy
          simp only [List.mem_cons, List.not_mem_nil, or_false] at hm
          omega)
        have HQm : Hid (w.heap.size ≤ qm) := Lib.hid (by rw [hqm]; exact HW16.out.size)
        have ca := HM17.out.cell 2 0 rfl rfl
        clear hb17 bm hs17 hqm HM16 HA16 HBu16 HK116 HK216 HW16
        go_wp2_with fail
        refine (callsIn_wide.1 (dobjects_in A 1 _)).mono ?_
        rintro e w18' ⟨rfl, rfl⟩
        have hb18 := below_alloc w17 (.cells #[valloc A] 24)
        have bp := Boxed.new w17 24 (valloc A)
        have HM18 := Lib.hid (HM17.out.later hb18)
        have HA18 := Lib.hid (HA17.out.below hb18)
        have HBu18 : Hid (Boxed _ qu 26 (.slice la NL lc)) := Lib.hid ((hb18.block qu HBu17.out.lt).trans HBu17.out)
        have HK118 := Lib.hid ((hb18.block D1 (Array.getElem?_eq_some_iff.1 HK117.out).1).trans HK117.out)
        have HK218 := Lib.hid ((hb18.block D2 (Array.getElem?_eq_some_iff.1 HK217.out).1).trans HK217.out)
        have HB18 := Lib.hid (HW17.out.trans (hb18.mono HW17.out.size))
        have HBm18 : Hid (Boxed _ qm 3 (.int .i64 0)) := Lib.hid ((hb18.block qm HBm.out.lt).trans HBm.out)
        have hs18 : (w17.alloc (.cells #[valloc A] 24)).heap.size = w17.heap.size + 1 := by simp
        generalize w17.alloc _ = w18 at *
        obtain ⟨p3, hp3⟩ : ∃ p3, p3 = w17.heap.size := ⟨_, rfl⟩
        rw [← hp3] at bp hs18 ⊢
        have HP3 := Lib.hid bp
        have HS18 : Hid (w18.heap.size = p3 + 1 ∧ p3 = qm + 1) := Lib.hid ⟨hs18, by rw [hp3]; exact HS17.out⟩
        clear hb18 bp hs18 hp3 ca HM17 HA17 HBu17 HK117 HK217 HW17 HBm HS17
        go_wp2_with fail
        refine (wpIn_wide (n := 9)).1 ?_
        refine wpIn_rangeFunc_ownG rfl (by omega) (gf := 131) (lb := #[.pointer (some ⟨p3, 0, none⟩)]) rfl trivial (enters_of Tryz.func131 (by kernel_rfl) rfl)
          (dobjects_stops (m := m) 8 (by omega) (by omega) HOk.out p3 qm w18.heap.size HA18.out HP3.out HXm.out (Nat.le_refl _)) KpT.trans (KpT.book (by have := HS18.out; omega) HP3.out.lt) (Below.refl _ _) (fun _ => rfl)
          (fun pre W => Boxed W qm 3 (.int .i64 (pre.length : Int)) ∧ Touch [qm] w18 W ∧ (pre.length : Int) ≤ n8)
          (fun c pre W => Boxed W qm 3 (.int .i64 (n8 + 1)) ∧ Touch [qm] w18 W ∧ c = .exit 4 ∧ (pre.length : Int) = n8 + 1)
          (OwnFrom.and (Own.from (boxed_own _ _ (fun pre : List Ln => Value.int .i64 (pre.length : Int))) _) (OwnFrom.and (touch_own (Nat.le_refl _)) (own_const (fun pre : List Ln => (pre.length : Int) ≤ n8))))
          (fun c => OwnFrom.and (Own.from (boxed_own _ _ (fun _ : List Ln => Value.int .i64 (n8 + 1))) _) (OwnFrom.and (touch_own (Nat.le_refl _)) (own_const (fun pre : List Ln => c = .exit 4 ∧ (pre.length : Int) = n8 + 1))))
          ⟨HBm18.out, Touch.refl _ _, by have := HN8.out; simp; omega⟩ ?a3 ?assign3 ?body3 ?done3 ?stop3
        case assign3 =>
          intro l x W K hK
          gi_wp2
          exact hK
        case body3 =>
          rintro l' pre x W ⟨hbm, hto3, hle⟩ hlt
          obtain ⟨k, hkn⟩ : ∃ k, k = pre.length := ⟨_, rfl⟩
          rw [← hkn] at hbm hle
          have HKn := Lib.hid hkn
          have hM : MemR w.heap.size W _ := HM18.out.r.apart hto3 HMnm.out
          have cm := hbm.cell
          have fm := hbm.frozen
          have c8 := hM.cell 0 0 rfl rfl
          have HKf := Lib.hid (keeps_setCell (b := qm) hbm w18.heap.size (.int .i64 ((k : Int) + 1)))
          have HKp := Lib.hid (kpT_setCell (W := W) (n₀ := qm) (n₁ := w18.heap.size) (Bn := p3) (b := qm) (Nat.le_refl _) (by have := HS18.out; omega) (by have := HS18.out; omega) (.int .i64 ((k : Int) + 1)))
          have HTo := Lib.hid (hto3.trans (Touch.setCell ⟨qm, 0, none⟩ (by simp) (.int .i64 ((k : Int) + 1))))
          have HBs := Lib.hid (hbm.set (.int .i64 ((k : Int) + 1)))
          have HLn1 : Hid (((pre ++ [x]).length : Int) = (k : Int) + 1) := Lib.hid (by rw [hkn]; simp)
          have h8 := HN8.out
          have cm1 := (hbm.set (.int .i64 ((k : Int) + 1))).cell
          have c81 := (hM.apart (Touch.setCell (L := [qm]) ⟨qm, 0, none⟩ (by simp) (.int .i64 ((k : Int) + 1))) HMnm.out).cell 0 0 rfl rfl
          clear hbm hto3 hM hkn hlt
          by_cases hgt : n8 < (k : Int) + 1
          · have HE8 : Hid ((k : Int) + 1 = n8 + 1) := Lib.hid (by omega)
            gi_wp2
            exact ⟨HKf.out, by rw [← HE8.out]; exact HBs.out, HTo.out, rfl, by rw [HLn1.out, HE8.out]⟩
          · have HE8 : Hid ((k : Int) + 1 ≤ n8) := Lib.hid (by omega)
            gi_wp2
            exact ⟨HKf.out, HKp.out, by rw [HLn1.out]; exact HBs.out, HTo.out, by rw [HLn1.out]; exact HE8.out⟩
        case done3 =>
          rintro D3 us W hD3 hus ⟨hbm, hto3, hle⟩ hK3
          have hul : us.length = NL := by have h1 := congrArg List.length hus; rw [objTo_len (Nat.le_refl _)] at h1; rw [HNL.out]; simpa [lnV] using h1
          rw [hul] at hbm hle
          clear hul hus
          have hw18 : ∀ y, y < w18.heap.size → y ≠ qm → W.heap[y]? = w18.heap[y]? := fun y hy h1 => hto3.block y hy (by simp [h1])
          have hM : MemR w.heap.size W _ := HM18.out.r.apart hto3 HMnm.out
          have bz : Boxed W (z + 1) 4 (.bool false) := hM.exact 1 rfl
          have hbu : Boxed W qu 26 (.slice la NL lc) := (hw18 qu HBu18.out.lt (by have := HBu18.out.lt; have := HQm.out; have := HQum.out; omega)).trans HBu18.out
          have hk1 := (hw18 D1 (Array.getElem?_eq_some_iff.1 HK118.out).1 (by have := HQum.out; omega)).trans HK118.out
          have hK2 := (hw18 D2 (Array.getElem?_eq_some_iff.1 HK218.out).1 (by have := HQum.out; omega)).trans HK218.out
          have HD3z : Hid (z + 1 < D3) := Lib.hid (by have := HM18.out.glt 1 rfl; omega)
          have HD23 : Hid (D2 < D3) := Lib.hid (by have := (Array.getElem?_eq_some_iff.1 HK218.out).1; omega)
          have fz := bz.frozen
          have cz := bz.cell
          have HBz := Lib.hid (bz.set (.bool true))
          have HKz : Hid (∀ y, y ≠ z + 1 → (W.setCell ⟨z + 1, 0, none⟩ (.bool true)).heap[y]? = W.heap[y]?) := Lib.hid (fun y hy => Below.heap_setCell _ _ _ _ hy)
          have HBW : Hid (Below w.heap.size w (W.setCell ⟨z + 1, 0, none⟩ (.bool true))) := Lib.hid ((HB18.out.trans (hto3.below HB18.out.size (fun y hy => by simp only [List.mem_cons, List.not_mem_nil, or_false] at hy; have := HM7.out.below.size; have := HQm.out; omega))).setCell (p := ⟨z + 1, 0, none⟩) (by have := HZ.out; show w.heap.size ≤ z + 1; omega) _)
          have cm := hbm.cell
          have cu := hbu.cell
          have c8 := hM.cell 0 0 rfl rfl
          have h8 := HN8.out
          have hmin : ((NL : Int) == min (NL : Int) (n8 + 1)) = true := by rw [beq_iff_eq]; omega
          go_wp2_with fail
          try rw [hmin]
          have k3' := (HKz.out D3 (by have := HD3z.out; omega)).trans hK3
          have k2' := (HKz.out D2 (by have := HD2z.out; omega)).trans hK2
          have k1' := (HKz.out D1 (by have := HD1z.out; omega)).trans hk1
          generalize W.setCell _ _ = w20 at *
          have n32 : D2 ≠ D3 := by have := HD23.out; omega
          have n21 : D1 ≠ D2 := by have := HD12.out; omega
          have n31 : D1 ≠ D3 := by have := HD12.out; have := HD23.out; omega
          have k2a : (w20.putObj D3 (.deferred none)).heap[D2]? = some (.deferred (some [])) := (World.putObj_heap_other n32).trans k2'
          have k1a : ((w20.putObj D3 (.deferred none)).putObj D2 (.deferred none)).heap[D1]? = some (.deferred (some [])) := (World.putObj_heap_other n21).trans ((World.putObj_heap_other n31).trans k1')
          have bza : (((w20.putObj D3 (.deferred none)).putObj D2 (.deferred none)).putObj D1 (.deferred none)).heap[z + 1]? = some (.cells #[.bool true] 4 (0, 0)) := (World.putObj_heap_other (by have := HD1z.out; omega)).trans ((World.putObj_heap_other (by have := HD2z.out; omega)).trans ((World.putObj_heap_other (by have := HD3z.out; omega)).trans HBz.out))
          have bb1 := HBW.out.trans (belowK_b (w := w) (n₀ := w.heap.size) (Nat.le_refl _) w20 D3 _ (.deferred none) (by have := HD3z.out; have := HZ.out; omega) k3' rfl rfl)
          have bb2 := bb1.trans (belowK_b (w := w) (n₀ := w.heap.size) (Nat.le_refl _) _ D2 _ (.deferred none) (by have := HD2z.out; have := HZ.out; omega) k2a rfl rfl)
          have bb3 := bb2.trans (belowK_b (w := w) (n₀ := w.heap.size) (Nat.le_refl _) _ D1 _ (.deferred none) (by have := HD1z.out; have := HZ.out; omega) k1a rfl rfl)
          have HEnd := Lib.hid (HP.out _ bb3)
          refine ⟨by simp, .inl ⟨_, _, rfl, run_takeDeferred k3', ?_⟩⟩
          refine ⟨by simp, .inl ⟨_, _, rfl, run_takeDeferred k2a, ?_⟩⟩
          refine ⟨by simp, .inl ⟨_, _, rfl, run_takeDeferred k1a, ?_⟩⟩
          refine ⟨.bool true, ?_, HEnd.out⟩
          exact results_cell_one rfl _ _ _ rfl (Boxed.cell bza)
        case stop3 =>
          rintro D3 c pre W hD3 hsp ⟨hbm, hto3, rfl, hlen⟩ hK3
          have hle : n8 + 1 ≤ (NL : Int) := by have h1 := hsp.length_le; rw [objTo_len (Nat.le_refl _), ← HNL.out] at h1; simp only [lnV, List.length_map] at h1; omega
          clear hsp hlen
          refine wpIn_wide.2 ?_
          have hw18 : ∀ y, y < w18.heap.size → y ≠ qm → W.heap[y]? = w18.heap[y]? := fun y hy h1 => hto3.block y hy (by simp [h1])
          have hM : MemR w.heap.size W _ := HM18.out.r.apart hto3 HMnm.out
          have bz : Boxed W (z + 1) 4 (.bool false) := hM.exact 1 rfl
          have hbu : Boxed W qu 26 (.slice la NL lc) := (hw18 qu HBu18.out.lt (by have := HBu18.out.lt; have := HQm.out; have := HQum.out; omega)).trans HBu18.out
          have hk1 := (hw18 D1 (Array.getElem?_eq_some_iff.1 HK118.out).1 (by have := HQum.out; omega)).trans HK118.out
          have hK2 := (hw18 D2 (Array.getElem?_eq_some_iff.1 HK218.out).1 (by have := HQum.out; omega)).trans HK218.out
          have HD3z : Hid (z + 1 < D3) := Lib.hid (by have := HM18.out.glt 1 rfl; omega)
          have HD23 : Hid (D2 < D3) := Lib.hid (by have := (Array.getElem?_eq_some_iff.1 HK218.out).1; omega)
          have fz := bz.frozen
          have cz := bz.cell
          have HBz := Lib.hid (bz.set (.bool true))
          have HKz : Hid (∀ y, y ≠ z + 1 → (W.setCell ⟨z + 1, 0, none⟩ (.bool true)).heap[y]? = W.heap[y]?) := Lib.hid (fun y hy => Below.heap_setCell _ _ _ _ hy)
          have HBW : Hid (Below w.heap.size w (W.setCell ⟨z + 1, 0, none⟩ (.bool true))) := Lib.hid ((HB18.out.trans (hto3.below HB18.out.size (fun y hy => by simp only [List.mem_cons, List.not_mem_nil, or_false] at hy; have := HM7.out.below.size; have := HQm.out; omega))).setCell (p := ⟨z + 1, 0, none⟩) (by have := HZ.out; show w.heap.size ≤ z + 1; omega) _)
          have cm := hbm.cell
          have cu := hbu.cell
          have c8 := hM.cell 0 0 rfl rfl
          have h8 := HN8.out
          have hmin : ((n8 + 1 : Int) == min (NL : Int) (n8 + 1)) = true := by rw [beq_iff_eq]; omega
          go_wp2_with fail
          try rw [hmin]
          have k3' := (HKz.out D3 (by have := HD3z.out; omega)).trans hK3
          have k2' := (HKz.out D2 (by have := HD2z.out; omega)).trans hK2
          have k1' := (HKz.out D1 (by have := HD1z.out; omega)).trans hk1
          generalize W.setCell _ _ = w20 at *
          have n32 : D2 ≠ D3 := by have := HD23.out; omega
          have n21 : D1 ≠ D2 := by have := HD12.out; omega
          have n31 : D1 ≠ D3 := by have := HD12.out; have := HD23.out; omega
          have k2a : (w20.putObj D3 (.deferred none)).heap[D2]? = some (.deferred (some [])) := (World.putObj_heap_other n32).trans k2'
          have k1a : ((w20.putObj D3 (.deferred none)).putObj D2 (.deferred none)).heap[D1]? = some (.deferred (some [])) := (World.putObj_heap_other n21).trans ((World.putObj_heap_other n31).trans k1')
          have bza : (((w20.putObj D3 (.deferred none)).putObj D2 (.deferred none)).putObj D1 (.deferred none)).heap[z + 1]? = some (.cells #[.bool true] 4 (0, 0)) := (World.putObj_heap_other (by have := HD1z.out; omega)).trans ((World.putObj_heap_other (by have := HD2z.out; omega)).trans ((World.putObj_heap_other (by have := HD3z.out; omega)).trans HBz.out))
          have bb1 := HBW.out.trans (belowK_b (w := w) (n₀ := w.heap.size) (Nat.le_refl _) w20 D3 _ (.deferred none) (by have := HD3z.out; have := HZ.out; omega) k3' rfl rfl)
          have bb2 := bb1.trans (belowK_b (w := w) (n₀ := w.heap.size) (Nat.le_refl _) _ D2 _ (.deferred none) (by have := HD2z.out; have := HZ.out; omega) k2a rfl rfl)
          have bb3 := bb2.trans (belowK_b (w := w) (n₀ := w.heap.size) (Nat.le_refl _) _ D1 _ (.deferred none) (by have := HD1z.out; have := HZ.out; omega) k1a rfl rfl)
          have HEnd := Lib.hid (HP.out _ bb3)
          refine ⟨by simp, .inl ⟨_, _, rfl, run_takeDeferred k3', ?_⟩⟩
          refine ⟨by simp, .inl ⟨_, _, rfl, run_takeDeferred k2a, ?_⟩⟩
          refine ⟨by simp, .inl ⟨_, _, rfl, run_takeDeferred k1a, ?_⟩⟩
          refine ⟨.bool true, ?_, HEnd.out⟩
          exact results_cell_one rfl _ _ _ rfl (Boxed.cell bza)
end Go.Proofs.YtfedgcdkagngnaaGreat
