/- Parts of the proof, one behind the other: Tg. -/
import Derived.Test.YtfedgcdkagngnaaGreatDS13

namespace Go.Proofs.YtfedgcdkagngnaaGreat
open Go.RowKit Go.Maps
set_option linter.unusedVariables false

theorem ListPost.own2 {w w' : World} {xs : List Nat} {e : Ending} (h : ListPost w xs e w') : ∃ a c, e = .returned (.slice a xs.length c) ∧ Cells w' a (xs.map vi) ∧ Below w.heap.size w w' ∧ (∀ x, a = some x → w.heap.size ≤ x.block) ∧ (∀ x, a = some x → x.block < w'.heap.size) := by
  obtain ⟨v, rfl, ho, _, hb⟩ := h
  obtain ⟨a, c, rfl, _⟩ := owned_form ho
  exact ⟨a, c, rfl, Cells.owned ho, hb, owned_addr ho, owned_lt ho⟩
def sumT (deg : Nat → Nat) (us : List Nat) (n : Nat) : Nat := (List.range n).foldl (fun s i => s + tallyN deg us i) 0
theorem sumT_succ (deg : Nat → Nat) (us : List Nat) (n : Nat) : sumT deg us (n + 1) = sumT deg us n + tallyN deg us n := sum_range_split _ n
theorem tallyN_le (deg : Nat → Nat) (us : List Nat) (n : Nat) : tallyN deg us n ≤ us.length := List.length_filter_le _ _
theorem sumT_le (deg : Nat → Nat) (us : List Nat) : ∀ n, sumT deg us n ≤ us.length * n
  | 0 => Nat.le_refl _
  | n + 1 => by rw [sumT_succ, Nat.mul_succ]; have := sumT_le deg us n; have := tallyN_le deg us n; omega

set_option maxHeartbeats 16000000 in
set_option maxRecDepth 100000 in
theorem statsGraphs_any (a : Option Addr) (mm cap : Nat) (s : List Op20) (hm : s.length = mm) (af : Option Addr) (fn cf : Nat) (z : List Int) (hz : z.length = fn) (w : World) (hcs : Cells w a (recs Op20.cs s)) (hcz : Cells w af (z.map (Value.int .i64))) (hmm : mm ≤ maxLen) (hfn : fn ≤ maxLen) :
    Calls Tryz.prog 4 #[.slice a mm cap, .slice af fn cf] w (Gives (.bool true) w) := by
  unfold maxLen at hfn
  have HM := Lib.hid hm
  have HCS := Lib.hid hcs
  have HMM := Lib.hid hmm
  have HCZ := Lib.hid hcz
  have HZ := Lib.hid hz
  clear hm hcs hmm hcz hz
  have HP : Hid (∀ w', Below w.heap.size w w' → Gives (.bool true) w (.returned (.bool true)) w') := Lib.hid (fun w' h => ⟨rfl, h⟩)
  generalize Gives (.bool true) w = Post at *
  go_enter Tryz.func4, Tryz.ntmps4
  go_wp2_with fail
  refine (awake32_any _).mono ?_
  rintro e w1 ⟨rfl, hb1⟩
  have HB1 := Lib.hid hb1
  clear hb1
  go_wp2_with fail
  refine (made32_any a mm cap s HM.out w1 (HCS.out.below HB1.out (Nat.le_refl _)) HMM.out).mono ?_
  rintro e w2 ⟨A, n, m, v, xs, rfl, hh, hn, _⟩
  obtain ⟨sa, sc, rfl, _⟩ := hh.at_.own.cells
  obtain ⟨l, hl⟩ : ∃ l, l = xs.length := ⟨_, rfl⟩
  have HB2 := Lib.hid (HB1.out.trans (hh.below.mono HB1.out.size))
  have HMb := Lib.hid (Mem.one w2 #[valloc A, vdev A.X.F, .slice sa l sc] 28)
  rw [← hl] at hh ⊢
  have HXl : Hid (xs.length ≤ 1000000) := Lib.hid (by have := hh.ok.len; omega)
  have HHp := Lib.hid (hh.later HMb.out.below)
  have HPk := Lib.hid (fun i => pick_le hh.ok (by omega) i)
  have HSz2 : Hid (w1.heap.size ≤ w2.heap.size) := Lib.hid hh.below.size
  have HAl := Lib.hid hh.ok.ok
  have HWf := Lib.hid hh.at_.al.man.dev.wf
  have HLu : Hid (m.used.length = 3072) := Lib.hid (by rw [hh.ok.ok.lenU])
  have HLc : Hid (m.bm.dev.cache.length = 3072) := Lib.hid hh.ok.ok.len
  clear hl hh hn
  go_upto_region 4 with fail
  generalize w2.alloc _ = w3 at *
  obtain ⟨q, hq⟩ : ∃ q, q = w2.heap.size := ⟨_, rfl⟩
  rw [← hq] at HMb ⊢
  clear hq
  have HB3 := Lib.hid (HB2.out.trans (HMb.out.below.mono HB2.out.size))
  by_cases hf10 : fn ≤ 10
  case neg =>
    have hf10' : decide ((10 : Int) < (fn : Int)) = true := by simp; omega
    go_wp2_with fail
    exact HP.out _ HB3.out
  have hf10' : decide ((10 : Int) < (fn : Int)) = false := by simp; omega
  have HNow := Lib.hid (fun w' (h : DevAt w' A.X.F m.bm.dev) => wnow_any h (valloc A) (.slice sa l sc) (by rw [HLc.out]; omega))
  have HObj := Lib.hid (fun w' (h : AlAt w' A n 6 m) => aobjects_any h)
  have HUe : Hid (∀ x, (onesL m.used).contains x = m.used.getD x false) := Lib.hid (fun x => by
    rw [Bool.eq_iff_iff, List.contains_iff_mem]; exact mem_onesL)
  have HUl : Hid ((onesL m.used).length ≤ 3072) := Lib.hid (by rw [onesL_length]; have := count_le_len m.used; have := HLu.out; omega)
  obtain ⟨us, hus⟩ : ∃ us, us = onesL m.used := ⟨_, rfl⟩
  have HUs := Lib.hid hus
  rw [← hus] at HObj HUe HUl
  obtain ⟨ul, hul⟩ : ∃ ul, ul = us.length := ⟨_, rfl⟩
  have HUn := Lib.hid hul
  rw [← hul] at HUl
  clear hus hul
  go_upto_region 8 with fail
  go_cut [7, 8] (fun dv lv wc => ∃ (qd : Nat) (D : Array Value) (au : Option Addr) (cu : Nat), dv = .pointer (some ⟨qd, 0, none⟩) ∧ lv = .slice au ul cu ∧ Hid (Mem w2 wc [⟨q, 28, [valloc A, vdev A.X.F, .slice sa l sc], true⟩, ⟨qd, 34, D.toList, true⟩]) ∧ Hid (RAt wc (.agg D) m.bm.dev.dirty.length (nowD m.bm.dev).ref) ∧ Hid (Cells wc au (us.map vi)) ∧ Hid (Hp w1 wc [] A n 6 25000000 m (.slice sa l sc) xs))
  case first =>
    have c0 := HMb.out.cell 0 0 rfl rfl
    have c1 := HMb.out.cell 0 1 rfl rfl
    have c2 := HMb.out.cell 0 2 rfl rfl
    have r0 := fun x => later_cell c0 x
    have r1 := fun x => later_cell c1 x
    have r2 := fun x => later_cell c2 x
    clear c0 c1 c2
    refine wp_region_tr (C := fun w' => ∃ x : Later (w3), w' = x.val) (.fl [0, 2, 3] (.br 1 true (.br 4 false (.sq [5] true (.sq [6, 7] false (.nil))) 5 true (.sq [4, 6, 7] false (.nil))) 5 true (.sq [1] true (.sq [4, 6, 7] false (.nil))))) (by kernel_rfl) (by kernel_rfl) (by intro c a d v w h; cases d <;> exact h) ?_
    simp only [trO, picks, List.getElem?_cons_succ, List.getElem?_cons_zero]
    have hC1 := later_drew (w3)
    refine wpTr_fl hC1 ?_
    repeat (first | go_big_quiet_step (fail) | quiet_step (fail))
    refine wpQuiet_nil ?_
    clear r0 r1 r2
    have HM4 := Lib.hid (HMb.out.later (later_below hC1))
    have HH4 := Lib.hid (HHp.out.later (later_below hC1))
    generalize w3.drew = w4 at *
    have HS4 : Hid (w1.heap.size ≤ w4.heap.size) := Lib.hid HH4.out.below.size
    refine wpTr_br ?_ ?_
    · refine wpTr_sq (fun K hK => ?_)
      go_wp2_with fail
      refine (HNow.out _ HH4.out.at_.al.man.dev).mono ?_
      rintro e w5 ⟨dv, rfl, hr, hlo, hb⟩
      obtain ⟨D, rfl⟩ := hr.agg
      have HRhi := Lib.hid hr.old
      obtain ⟨hD8, hD1⟩ := hr.arr
      have HM5 := Lib.hid (HM4.out.later hb)
      have HH5 := Lib.hid (HH4.out.later hb)
      have HRA5 := Lib.hid hr
      have HS5 : Hid (w1.heap.size ≤ w5.heap.size) := Lib.hid HH5.out.below.size
      have hC2 := later_step hC1 hb
      clear hb hr hlo HM4 HH4
      go_wp2_with fail
      refine hK _ _ (fun _ => hC2) ?_
      clear hK K
      refine wpTr_br ?_ ?_
      · refine wpTr_sq (fun K hK => ?_)
        go_wp2_with fail
        refine (HObj.out _ HH5.out.at_.al).mono ?_
        intro e w6 hp6
        obtain ⟨au, cu, e6, hcu6, hb6, hcl6, hch6⟩ := hp6.own2
        rw [← HUn.out] at e6
        subst e6
        have HM6 := Lib.hid (HM5.out.later hb6)
        have HH6 := Lib.hid (HH5.out.later hb6)
        have HRA6 := Lib.hid (HRA5.out.below hb6 (Nat.le_refl _))
        have HCu6 := Lib.hid hcu6
        have HCh := Lib.hid hch6
        have HS6 := Lib.hid hb6.size
        have hC3 := later_step hC2 hb6
        clear hp6 hcu6 hb6 hcl6 hch6 HM5 HH5 HRA5
        go_wp2_with fail
        refine hK _ _ (fun h => nomatch h) ?_
        clear hK K
        refine wpTr_sq (fun K hK => ?_)
        go_wp2_with fail
        have hb := below_alloc w6 (.cells zeroD 34)
        have HM7 := Lib.hid (HM6.out.alloc zeroD 34)
        have HRA7 := Lib.hid (HRA6.out.below hb (Nat.le_refl _))
        have HCu7 := Lib.hid (HCu6.out.below hb (Nat.le_refl _))
        have HH7 : Hid (Hp w1 (w6.alloc (.cells zeroD 34)) [w6.heap.size] A n 6 25000000 m (.slice sa l sc) xs) := Lib.hid (HH6.out.more (fun k hk => by simp at hk; subst hk; exact .inr ⟨Nat.le_refl _, by simp⟩) hb)
        have hC4 := later_step hC3 hb
        clear hb
        go_wp2_with fail
        refine hK _ _ (fun _ => hC4) ?_
        clear hK K
        rw [show (#[.slice none 0 0, .slice none 0 0, .slice none 0 0, .slice none 0 0, .slice none 0 0, .int .i64 0, .int .i64 0, .bool false] : Array Value) = zeroD from rfl]
        generalize w6.alloc _ = w7 at *
        obtain ⟨qd, hqd⟩ : ∃ qd, qd = w6.heap.size := ⟨_, rfl⟩
        rw [← hqd] at HM7 HH7 ⊢
        have HQd := Lib.hid hqd
        clear hqd
        refine wpTr_last ?_
        go_wp2_with (refine wpList_store_mem aggRd HM7.out 1 rfl rfl rfl rfl rfl hD8 hD8.symm hD1 ?_; intro w9 h9 ht9; have H9 := Lib.hid h9; have HT9 := Lib.hid ht9; clear h9 ht9)
        go_meet
        exact ⟨qd, D, au, cu, rfl, rfl, H9, Lib.hid (HRA7.out.touch HT9.out (HRhi.out.imp id (fun h b hb hm => by simp at hm; have h1 := h b hb; have h2 := HS6.out; have h3 := HQd.out; omega))), Lib.hid (HCu7.out.touchNe HT9.out (fun x hx e => by have h1 := HCh.out x hx; have h3 := HQd.out; omega)), Lib.hid ((HH7.out.own (HT9.out.wide (by simp)) (fun k hk => by simp at hk; subst hk; have h1 := HS5.out; have h2 := HS6.out; have h3 := HQd.out; omega)).less (by simp))⟩
      · refine wpTr_sq (fun K hK => ?_)
        go_wp2_with fail
        have hb := below_alloc w5 (.cells zeroD 34)
        have HM6 := Lib.hid (HM5.out.alloc zeroD 34)
        have HRA6 := Lib.hid (HRA5.out.below hb (Nat.le_refl _))
        have HH6 : Hid (Hp w1 (w5.alloc (.cells zeroD 34)) [w5.heap.size] A n 6 25000000 m (.slice sa l sc) xs) := Lib.hid (HH5.out.more (fun k hk => by simp at hk; subst hk; exact .inr ⟨Nat.le_refl _, by simp⟩) hb)
        have HS6 : Hid (w5.heap.size < (w5.alloc (.cells zeroD 34)).heap.size) := Lib.hid (by simp)
        have hC3 := later_step hC2 hb
        clear hb
        go_wp2_with fail
        refine hK _ _ (fun _ => hC3) ?_
        clear hK K
        rw [show (#[.slice none 0 0, .slice none 0 0, .slice none 0 0, .slice none 0 0, .slice none 0 0, .int .i64 0, .int .i64 0, .bool false] : Array Value) = zeroD from rfl]
        generalize w5.alloc _ = w6 at *
        obtain ⟨qd, hqd⟩ : ∃ qd, qd = w5.heap.size := ⟨_, rfl⟩
        rw [← hqd] at HM6 HH6 HS6 ⊢
        have HQd := Lib.hid hqd
        clear hqd
        refine wpTr_last ?_
        go_wp2_with fail
        refine (HObj.out _ HH6.out.at_.al).mono ?_
        intro e w7 hp6
        obtain ⟨au, cu, e6, hcu6, hb6, hcl6, hch6⟩ := hp6.own2
        rw [← HUn.out] at e6
        subst e6
        have HM7 := Lib.hid (HM6.out.later hb6)
        have HH7 := Lib.hid (HH6.out.later hb6)
        have HRA7 := Lib.hid (HRA6.out.below hb6 (Nat.le_refl _))
        have HCu7 := Lib.hid hcu6
        have HCl := Lib.hid hcl6
        clear hp6 hcu6 hb6 hcl6 hch6
        go_wp2_with (refine wpList_store_mem aggRd HM7.out 1 rfl rfl rfl rfl rfl hD8 hD8.symm hD1 ?_; intro w9 h9 ht9; have H9 := Lib.hid h9; have HT9 := Lib.hid ht9; clear h9 ht9)
        go_meet
        exact ⟨qd, D, au, cu, rfl, rfl, H9, Lib.hid (HRA7.out.touch HT9.out (HRhi.out.imp id (fun h b hb hm => by simp at hm; have h1 := h b hb; have h3 := HQd.out; omega))), Lib.hid (HCu7.out.touchNe HT9.out (fun x hx e => by have h1 := HCl.out x hx; have h3 := HS6.out; omega)), Lib.hid ((HH7.out.own (HT9.out.wide (by simp)) (fun k hk => by simp at hk; subst hk; have h1 := HS5.out; have h3 := HQd.out; omega)).less (by simp))⟩
    · refine wpTr_sq (fun K hK => ?_)
      go_wp2_with fail
      have hb := below_alloc w4 (.cells zeroD 34)
      have HM5 := Lib.hid (HM4.out.alloc zeroD 34)
      have HH5 : Hid (Hp w1 (w4.alloc (.cells zeroD 34)) [w4.heap.size] A n 6 25000000 m (.slice sa l sc) xs) := Lib.hid (HH4.out.more (fun k hk => by simp at hk; subst hk; exact .inr ⟨Nat.le_refl _, by simp⟩) hb)
      have HS5 : Hid (w4.heap.size < (w4.alloc (.cells zeroD 34)).heap.size) := Lib.hid (by simp)
      have hC2 := later_step hC1 hb
      clear hb
      go_wp2_with fail
      refine hK _ _ (fun _ => hC2) ?_
      clear hK K
      rw [show (#[.slice none 0 0, .slice none 0 0, .slice none 0 0, .slice none 0 0, .slice none 0 0, .int .i64 0, .int .i64 0, .bool false] : Array Value) = zeroD from rfl]
      generalize w4.alloc _ = w5 at *
      obtain ⟨qd, hqd⟩ : ∃ qd, qd = w4.heap.size := ⟨_, rfl⟩
      rw [← hqd] at HM5 HH5 HS5 ⊢
      have HQd := Lib.hid hqd
      clear hqd
      refine wpTr_sq (fun K hK => ?_)
      go_wp2_with fail
      refine (HNow.out _ HH5.out.at_.al.man.dev).mono ?_
      rintro e w6 ⟨dv, rfl, hr, hlo, hb⟩
      obtain ⟨D, rfl⟩ := hr.agg
      have HRlo := Lib.hid hlo
      obtain ⟨hD8, hD1⟩ := hr.arr
      have HM6 := Lib.hid (HM5.out.later hb)
      have HH6 := Lib.hid (HH5.out.later hb)
      have HRA6 := Lib.hid hr
      have HS6 := Lib.hid hb.size
      have hC3 := later_step hC2 hb
      clear hb hr hlo
      go_wp2_with fail
      refine hK _ _ (fun _ => hC3) ?_
      clear hK K
      refine wpTr_last ?_
      go_wp2_with fail
      refine (HObj.out _ HH6.out.at_.al).mono ?_
      intro e w7 hp6
      obtain ⟨au, cu, e6, hcu6, hb6, hcl6, hch6⟩ := hp6.own2
      rw [← HUn.out] at e6
      subst e6
      have HM7 := Lib.hid (HM6.out.later hb6)
      have HH7 := Lib.hid (HH6.out.later hb6)
      have HRA7 := Lib.hid (HRA6.out.below hb6 (Nat.le_refl _))
      have HCu7 := Lib.hid hcu6
      have HCl := Lib.hid hcl6
      clear hp6 hcu6 hb6 hcl6 hch6
      go_wp2_with (refine wpList_store_mem aggRd HM7.out 1 rfl rfl rfl rfl rfl hD8 hD8.symm hD1 ?_; intro w9 h9 ht9; have H9 := Lib.hid h9; have HT9 := Lib.hid ht9; clear h9 ht9)
      go_meet
      exact ⟨qd, D, au, cu, rfl, rfl, H9, Lib.hid (HRA7.out.touch HT9.out (.inr (fun b hb hm => by simp at hm; have h1 := HRlo.out b hb; have h3 := HS5.out; omega))), Lib.hid (HCu7.out.touchNe HT9.out (fun x hx e => by have h1 := HCl.out x hx; have h3 := HS5.out; have h4 := HS6.out; omega)), Lib.hid ((HH7.out.own (HT9.out.wide (by simp)) (fun k hk => by simp at hk; subst hk; have h1 := HS4.out; have h3 := HQd.out; omega)).less (by simp))⟩
  case rest =>
    obtain ⟨qd, D, au, cu, rfl, rfl, HM4, HRA4, HCu4, HH4⟩ := hcut
    obtain ⟨hD8, hD1⟩ := HRA4.out.arr
    clear HMb HHp HNow HObj
    have hul9 : ul ≤ 3072 := HUl.out
    have HFit := Lib.hid (nowD_fit HWf.out 0)
    have HDg := Lib.hid (fun w' (h : AlAt w' A n 6 m) => sdegrees_any h (by rw [HLu.out]; omega))
    obtain ⟨deg, hdeg⟩ : ∃ deg : Nat → Nat, deg = degOf (fun x : Nat => ptrsD m.bm.dev (x : Int)) us := ⟨_, rfl⟩
    have HRg : Hid (∀ w' au cu y, RAt w' (.agg D) m.bm.dev.dirty.length (nowD m.bm.dev).ref → Cells w' au (us.map vi) → Calls Tryz.prog 27 #[.agg D, .slice au ul cu, .int .i64 ((y : Nat) : Int)] w' (Gives (.int .i64 ((deg y : Nat) : Int)) w')) := Lib.hid (fun w' au cu y hr hc => by
      subst hdeg
      exact rdegree_any (S := nowD m.bm.dev) (by simp [nowD, freshDev]) hr HFit.out (by show m.bm.dev.cache.length ≤ 1000000; rw [HLc.out]; omega) au ul cu us HUn.out.symm hc (by omega) y)
    have HDg2 : Hid (∀ w', AlAt w' A n 6 m → Calls Tryz.prog 26 #[valloc A] w' (fun e w'' => ∃ a c, e = .returned (.slice a (tallyL deg us).length c) ∧ Cells w'' a ((tallyL deg us).map vi) ∧ Below w'.heap.size w' w'')) := Lib.hid (fun w' h => by
      have := HDg.out w' h
      unfold DegPost at this
      rw [← HUs.out, ← hdeg] at this
      exact this)
    have HTl : Hid ((tallyL deg us).length ≤ 6400001) := Lib.hid (by
      rw [tallyL_length]
      rcases topL_is deg us with e | ⟨x, _, e⟩
      · omega
      · rw [e, hdeg]
        have h1 : degOf (fun x : Nat => ptrsD m.bm.dev (x : Int)) us x ≤ (us.flatMap (fun x : Nat => ptrsD m.bm.dev (x : Int))).length := List.count_le_length
        have h2 := flat_len (P := fun x : Nat => ptrsD m.bm.dev (x : Int)) (n := 64) (fun x => ptrsD_len HH4.out.at_.al.man.dev.small _) us
        rw [← HUn.out] at h2
        omega)
    have HAll : Hid (sumT deg us (tallyL deg us).length = ul) := Lib.hid (by rw [tallyL_length, HUn.out]; exact tally_all deg us _ (topL_mem deg us))
    have HLast : Hid ((tallyL deg us).length ≠ 0 → tallyN deg us ((tallyL deg us).length - 1) ≠ 0) := Lib.hid (by rw [tallyL_length]; exact tally_last deg us)
    have HGd : Hid (∀ i, i < (tallyL deg us).length → (tallyL deg us)[i]? = some (tallyN deg us i)) := Lib.hid (fun i hi => by
      have h1 := hi
      rw [tallyL_length] at h1
      rw [List.getElem?_eq_getElem hi, ← tallyL_getD deg us h1, List.getD_eq_getElem?_getD, List.getElem?_eq_getElem hi]; rfl)
    have HSl : Hid (∀ n, sumT deg us n ≤ 3072 * n) := Lib.hid (fun n => Nat.le_trans (sumT_le deg us n) (Nat.mul_le_mul_right _ (by rw [← HUn.out]; exact hul9)))
    have HSs := Lib.hid (sumT_succ deg us)
    have HNl : Hid (∀ l n, tallyN deg l n ≤ l.length) := Lib.hid (fun l n => tallyN_le deg l n)
    have HTs : Hid (∀ i x n, us[i]? = some x → tallyN deg (us.take (i + 1)) n = tallyN deg (us.take i) n + if n = deg x then 1 else 0) := Lib.hid (fun i x n hx => by rw [take_one hx, tallyN_snoc])
    have HT0 : Hid (∀ n, tallyN deg (us.take 0) n = 0) := Lib.hid (fun n => by rw [List.take_zero]; rfl)
    have HTe : Hid (∀ n, tallyN deg (us.take ul) n = tallyN deg us n) := Lib.hid (fun n => by rw [HUn.out, List.take_length])
    obtain ⟨tl, htl⟩ : ∃ tl, tl = (tallyL deg us).length := ⟨_, rfl⟩
    rw [← htl] at HTl HAll HLast HGd
    have HTn := Lib.hid htl
    generalize tallyL deg us = TL at *
    clear hdeg HDg htl
    have c0 := HM4.out.cell 0 0 rfl rfl
    go_wp2_with fail
    refine (HDg2.out _ HH4.out.at_.al).mono ?_
    rintro e w5 ⟨al, cl, e5, hcl5, hb5⟩
    rw [← HTn.out] at e5
    subst e5
    have HCl5 := Lib.hid hcl5
    have HM5 := Lib.hid (HM4.out.later hb5)
    have HRA5 := Lib.hid (HRA4.out.below hb5 (Nat.le_refl _))
    have HCu5 := Lib.hid (HCu4.out.below hb5 (Nat.le_refl _))
    have HH5 := Lib.hid (HH4.out.later hb5)
    have htl9 : tl ≤ 6400001 := HTl.out
    clear hcl5 hb5 c0 HM4 HRA4 HCu4 HH4 HDg2
    have hS0 : sumT deg us 0 = 0 := rfl
    go_wp2_with fail
    go_loopw [10, 11] (fun sv nv wr => ∃ n : Nat, n ≤ tl ∧ sv = .int .i64 ((sumT deg us n : Nat) : Int) ∧ nv = .int .i64 (n : Int) ∧ Hid (Below w5.heap.size w5 wr)) (fun _ nv _ => tl - (intOf nv).toNat)
    case atStart => exact ⟨0, Nat.zero_le _, by rw [hS0]; rfl, rfl, Lib.hid (Below.refl _ _)⟩
    case round =>
      clear hS0
      obtain ⟨k, hk, rfl, rfl, HB⟩ := hrel
      have hsk := HSl.out k
      by_cases hlt : k < tl
      · have hlt' : (k : Int) < (tl : Int) := by omega
        have HSk := Lib.hid (HSs.out k)
        have HGk := Lib.hid (HGd.out k hlt)
        generalize sumT deg us k = sk at *
        go_wp2_with fail
        go_loopw [12, 13] (fun mv iv wr => ∃ i : Nat, i ≤ ul ∧ mv = .int .i64 ((tallyN deg (us.take i) k : Nat) : Int) ∧ iv = .int .i64 (i : Int) ∧ Hid (Below w5.heap.size w5 wr)) (fun _ iv _ => ul - (intOf iv).toNat)
        case atStart => exact ⟨0, Nat.zero_le _, by rw [HT0.out k]; rfl, rfl, HB⟩
        case round =>
          clear HB
          obtain ⟨i, hi, rfl, rfl, HB⟩ := hrel
          have hti : tallyN deg (us.take i) k ≤ i := Nat.le_trans (HNl.out _ _) (by rw [List.length_take]; omega)
          by_cases hlt : i < ul
          · have hlt' : (i : Int) < (ul : Int) := by omega
            have HMr := Lib.hid (HM5.out.later HB.out)
            have HRr := Lib.hid (HRA5.out.below HB.out (Nat.le_refl _))
            have HCr := Lib.hid (HCu5.out.below HB.out (Nat.le_refl _))
            obtain ⟨b1, o1, e1, _, hc1⟩ := HCr.out.at (i := i) (by rw [List.length_map, ← HUn.out]; exact hlt)
            subst e1
            obtain ⟨x, hx⟩ : ∃ x, us[i]? = some x := ⟨_, List.getElem?_eq_getElem (by rw [← HUn.out]; exact hlt)⟩
            have cx := hc1 i (vi x) (by rw [List.getElem?_map, hx]; rfl)
            have HTx := Lib.hid (HTs.out i x k hx)
            have HRg2 := Lib.hid (fun w' => HRg.out w' (some ⟨b1, o1, none⟩) cu x)
            generalize deg x = dx at *
            generalize tallyN deg (us.take i) k = ti at *
            have hld : ∀ w', (∃ x : Later wr, w' = x.val) → ∀ i v, D.toList[i]? = some v → w'.cell? ⟨qd, 0 + i, none⟩ = some v := by
              rintro _ ⟨x, rfl⟩ i v hi
              rw [Nat.zero_add]
              exact later_cell (HMr.out.cell 1 i rfl hi) x
            have r1 := fun x => later_cell cx x
            clear hc1 hx
            go_upto_region 18 with fail
            refine wp_region_seg (C := fun w' => ∃ x : Later (wr), w' = x.val) [.fl [0, 1, 2, 3, 4, 5, 7], .sq [6] true, .sq [8] false] (by kernel_rfl) (by kernel_rfl) (by intro c a d v w h; cases d <;> exact h) ?_
            simp only [segs, picks, List.getElem?_cons_succ, List.getElem?_cons_zero]
            have hC1 := later_drew (wr)
            refine wpSeg_fl hC1 ?_
            repeat (first | (refine wpQuiet_load_arr aggRd D hld hD8 rfl rfl rfl ?_) | go_big_quiet_step (fail) | quiet_step (fail))
            refine wpQuiet_nil ?_
            have HB6 := Lib.hid (HB.out.trans ((later_below hC1).mono HB.out.size))
            have HR6 := Lib.hid (HRr.out.below (later_below hC1) (Nat.le_refl _))
            have HC6 := Lib.hid (HCr.out.below (later_below hC1) (Nat.le_refl _))
            clear r1 hld cx HB HRr HCr HMr
            generalize wr.drew = w6 at *
            by_cases e : k = dx
            · rw [if_pos e] at HTx
              have he : (((dx : Nat) : Int) == ((k : Nat) : Int)) = true := by simp; omega
              clear e
              refine wpSeg_sq (fun K hK => ?_)
              go_wp2_with fail
              refine (HRg2.out _ HR6.out HC6.out).mono ?_
              rintro e w7 ⟨rfl, hb7⟩
              have HB7 := Lib.hid (HB6.out.trans (hb7.mono HB6.out.size))
              have hC2 := later_step hC1 hb7
              clear hb7
              go_wp2_with fail
              refine hK _ _ (fun _ => hC2) ?_
              clear hK K
              refine wpSeg_last ?_
              go_wp2_with fail
              refine ⟨⟨i + 1, by omega, ?_, vint (by omega), HB7⟩, by simp [intOf]; omega⟩
              rw [HTx.out]; exact vint (by push_cast; omega)
            · rw [if_neg e] at HTx
              have he : (((dx : Nat) : Int) == ((k : Nat) : Int)) = false := by simp; omega
              clear e
              refine wpSeg_sq (fun K hK => ?_)
              go_wp2_with fail
              refine (HRg2.out _ HR6.out HC6.out).mono ?_
              rintro e w7 ⟨rfl, hb7⟩
              have HB7 := Lib.hid (HB6.out.trans (hb7.mono HB6.out.size))
              have hC2 := later_step hC1 hb7
              clear hb7
              go_wp2_with fail
              refine hK _ _ (fun _ => hC2) ?_
              clear hK K
              refine wpSeg_last ?_
              go_wp2_with fail
              refine ⟨⟨i + 1, by omega, ?_, vint (by omega), HB7⟩, by simp [intOf]; omega⟩
              rw [HTx.out]; exact vint (by push_cast; omega)
          · obtain rfl : i = ul := by omega
            have hlt' : decide ((i : Int) < (i : Int)) = false := by simp
            rw [HTe.out k] at hti ⊢
            obtain ⟨b1, o1, e1, _, hc1⟩ := (HCl5.out.below HB.out (Nat.le_refl _)).at (i := k) (by rw [List.length_map, ← HTn.out]; assumption)
            subst e1
            have cx := hc1 k (vi (tallyN deg us k)) (by rw [List.getElem?_map, HGk.out]; rfl)
            generalize tallyN deg us k = tn at *
            have hne : (((tn : Nat) : Int) != ((tn : Nat) : Int)) = false := by simp
            clear hc1
            go_wp2_with fail
            refine ⟨⟨k + 1, by omega, ?_, vint (by omega), HB⟩, by simp [intOf]; omega⟩
            rw [HSk.out]; exact vint (by push_cast; omega)
      · obtain rfl : k = tl := by omega
        have hlt' : decide ((k : Int) < (k : Int)) = false := by simp
        rw [HAll.out] at hsk ⊢
        have hne : (((ul : Nat) : Int) != ((ul : Nat) : Int)) = false := by simp
        have HMr := Lib.hid (HM5.out.later HB.out)
        have HRr := Lib.hid (HRA5.out.below HB.out (Nat.le_refl _))
        have HCr := Lib.hid (HCu5.out.below HB.out (Nat.le_refl _))
        have HHr := Lib.hid (HH5.out.later HB.out)
        have HCl := Lib.hid (HCl5.out.below HB.out (Nat.le_refl _))
        clear HM5 HRA5 HCu5 HH5 HCl5 HB
        have hcase : decide (0 < k) = false ∨ ∃ (b o tn : Nat), decide (0 < k) = true ∧ 1 ≤ k ∧ al = some ⟨b, o, none⟩ ∧ wr.cell? ⟨b, o + (k - 1), none⟩ = some (.int .i64 (tn : Int)) ∧ (((tn : Nat) : Int) == 0) = false := by
          by_cases h0 : k = 0
          · exact .inl (by simp; omega)
          · have hk1 : k - 1 < k := by omega
            have hz := HLast.out h0
            obtain ⟨b1, o1, e1, _, hc1⟩ := HCl.out.at (i := k - 1) (by rw [List.length_map, ← HTn.out]; exact hk1)
            refine .inr ⟨b1, o1, tallyN deg us (k - 1), by simp; omega, by omega, e1, hc1 (k - 1) (vi (tallyN deg us (k - 1))) (by rw [List.getElem?_map, HGd.out (k - 1) hk1]; rfl), by simp; omega⟩
        have HBr := Lib.hid (HB1.out.trans (HHr.out.below.mono HB1.out.size))
        have HPe : Hid (∀ k x, z[k]? = some x → (z.take (k + 1)).map (pickN xs) = (z.take k).map (pickN xs) ++ [pickN xs x]) := Lib.hid (fun k x hx => by
          have h1 := (List.getElem?_eq_some_iff.1 hx).1
          rw [List.take_succ_eq_append_getElem h1, (List.getElem?_eq_some_iff.1 hx).2, List.map_append]; rfl)
        have HDp := Lib.hid (fun w' (h : AlAt w' A n 6 m) (a : Option Addr) (nl cl : Nat) (fs : List Nat) (h1 : fs.length = nl) (h2 : Cells w' a (fs.map vi)) (h3 : nl ≤ 20) (h4 : ∀ x ∈ fs, x ≤ 1099511627776) => sdepth_any h (by rw [HLu.out, HLc.out]) (by rw [HLu.out]; omega) (by rw [HLu.out]; omega) a nl cl fs h1 h2 h3 h4)
        have HRp := Lib.hid (fun w' (hr : RAt w' (.agg D) m.bm.dev.dirty.length (nowD m.bm.dev).ref) (cu : Nat) (au : Option Addr) (hc : Cells w' au (us.map vi)) (a : Option Addr) (nl cl : Nat) (fs : List Nat) (h1 : fs.length = nl) (h2 : Cells w' a (fs.map vi)) (h3 : fs ≠ [] → ∀ x, a = some x → x.block < w'.heap.size) (h4 : nl ≤ 20) =>
          rdepth_any (S := nowD m.bm.dev) (by simp [nowD, freshDev]) hr HFit.out (by show m.bm.dev.cache.length ≤ 1000000; rw [HLc.out]; omega) m.used (by rw [HLu.out]; omega) au ul cu us HUn.out.symm hc (by omega) HUe.out a nl cl fs h1 h2 h3 h4)
        clear HRg HLast HGd HSl HSs HNl HTs HT0 HTe HAll
        have hto : ((k : Int) - 1).toNat = k - 1 := by omega
        rcases hcase with hz8 | ⟨b9, o9, tn, hz8, hk8, rfl, ct9, hz9⟩
        all_goals (
          go_wp2_with fail
          go_loopw [14, 15] (fun nv iv wy => ∃ (k : Nat) (a : Option Addr) (c nl : Nat), k ≤ fn ∧ nv = .slice a nl c ∧ iv = .int .i64 (k : Int) ∧ nl ≤ k ∧ Hid (nl = ((z.take k).map (pickN xs)).length) ∧ Hid (OwnI wy (.slice a nl c) ((z.take k).map (pickN xs))) ∧ Hid (∀ b, rowOf (.slice a nl c) = some b → wr.heap.size ≤ b) ∧ Hid (Below wr.heap.size wr wy)) (fun _ iv _ => fn - (intOf iv).toNat)
          case atStart => exact ⟨0, none, 0, 0, Nat.zero_le _, rfl, rfl, Nat.le_refl _, Lib.hid rfl, Lib.hid (OwnI.nil _), Lib.hid (fun b hb => by cases hb), Lib.hid (Below.refl _ _)⟩
          case round =>
            obtain ⟨k, a, c, nl, hk, rfl, rfl, hnk, HNl, HO, HR, HB⟩ := hrel
            have HMk := Lib.hid (HMr.out.later HB.out)
            have HHk := Lib.hid (HHr.out.later HB.out)
            have HBk := Lib.hid (HBr.out.trans (HB.out.mono HBr.out.size))
            by_cases hlt : k < fn
            · have hlt' : (k : Int) < (fn : Int) := by omega
              obtain ⟨b1, o1, e1, _, hcx⟩ := (HCZ.out.below HBk.out (Nat.le_refl _)).at (i := k) (by rw [List.length_map, HZ.out]; exact hlt)
              subst e1
              obtain ⟨zi, hzi⟩ : ∃ zi, z[k]? = some zi := ⟨_, List.getElem?_eq_getElem (by rw [HZ.out]; exact hlt)⟩
              have cz := hcx k (.int .i64 zi) (by rw [List.getElem?_map, hzi]; rfl)
              have HPx := Lib.hid (HPe.out k zi hzi)
              have c0 := HMk.out.cell 0 0 rfl rfl
              have c1 := HMk.out.cell 0 1 rfl rfl
              have c2 := HMk.out.cell 0 2 rfl rfl
              have r0 := fun x => later_cell c0 x
              have r1 := fun x => later_cell c1 x
              have r2 := fun x => later_cell c2 x
              have r3 := fun x => later_cell cz x
              generalize (z.take k).map (pickN xs) = pk at *
              clear hcx hzi
              go_upto_region 29 with fail
              refine wp_region_seg (C := fun w' => ∃ x : Later (wr), w' = x.val) [.fl [0, 1, 2, 3, 4, 5], .sq [6] true, .sq [7] true, .sq [8, 9] false] (by kernel_rfl) (by kernel_rfl) (by intro c a d v w h; cases d <;> exact h) ?_
              simp only [segs, picks, List.getElem?_cons_succ, List.getElem?_cons_zero]
              have hC1 := later_drew (wr)
              refine wpSeg_fl hC1 ?_
              repeat (first | go_big_quiet_step (fail) | quiet_step (fail))
              refine wpQuiet_nil ?_
              have HH6 := Lib.hid (HHk.out.later (later_below hC1))
              have HB6 := Lib.hid (HB.out.trans ((later_below hC1).mono HB.out.size))
              have HO6 := Lib.hid (HO.out.keep (fun b hb => (later_below hC1).block b (HO.out.lt b hb)))
              clear r0 r1 r2 r3 c0 c1 c2 cz HHk HMk HB HO
              generalize wr.drew = w6 at *
              refine wpSeg_sq (fun K hK => ?_)
              go_wp2_with fail
              refine (wpick_any _ _ _ xs HH6.out.at_.own HXl.out zi).mono ?_
              rintro e w7 ⟨rfl, hb7⟩
              have HB7 := Lib.hid (HB6.out.trans (hb7.mono HB6.out.size))
              have HO7 := Lib.hid (HO6.out.keep (fun b hb => hb7.block b (HO6.out.lt b hb)))
              have hC2 := later_step hC1 hb7
              generalize pickN xs zi = x at *
              clear hb7 HH6 HB6 HO6
              go_wp2_with fail
              refine hK _ _ (fun _ => hC2) ?_
              clear hK K
              have hC3 := later_step hC2 (below_alloc w7 (.cells #[.int .i64 (x : Int)] 3))
              refine wpSeg_sq (fun K hK => ?_)
              go_wp2_with fail
              go_wp2_with fail
              refine hK _ _ (fun _ => hC3) ?_
              clear hK K
              have hN1 : pk.length + 1 ≤ 1000000000000 := by rw [← HNl.out]; omega
              refine wpSeg_last ?_
              go_wp2_with (at_builtin; refine wpList_append_newI (ys := [x]) (m := 1) HO7.out (below_alloc _ _) HR.out (Nat.le_trans HB7.out.size (below_alloc _ _).size) (RowAt.cells ⟨_, heap_alloc_new _ _, [], rfl⟩) rfl hN1 rfl rfl rfl rfl ?_; intro v8 w8 ho8 hb8 hr8; have HO8 := Lib.hid ho8; have HB8 := Lib.hid ((HB7.out.trans ((below_alloc w7 (.cells #[.int .i64 (x : Int)] 3)).mono HB7.out.size)).trans hb8); have HR8 := Lib.hid hr8; clear ho8 hb8 hr8; obtain ⟨a8, c8, e8, _⟩ := HO8.out.cells; obtain ⟨l8, hl8⟩ : ∃ l8, l8 = (pk ++ [x]).length := ⟨_, rfl⟩; rw [← hl8] at e8; have HL8 := Lib.hid hl8; have hl8' : l8 ≤ k + 1 := (by rw [hl8, List.length_append, ← HNl.out]; simp; omega); clear hl8; subst e8)
              refine ⟨⟨k + 1, a8, c8, l8, by omega, rfl, vint (by omega), hl8', Lib.hid (by rw [HPx.out]; exact HL8.out), Lib.hid (by rw [HPx.out]; exact HO8.out), HR8, HB8⟩, by simp [intOf]; omega⟩
            · obtain rfl : k = fn := by omega
              have hlt' : decide ((k : Int) < (k : Int)) = false := by simp
              have HTk : Hid ((z.take k).map (pickN xs) = z.map (pickN xs)) := Lib.hid (by rw [← HZ.out, List.take_length])
              rw [HTk.out] at HNl HO
              have HF : Hid (∀ x ∈ z.map (pickN xs), x ≤ 1099511627776) := Lib.hid (fun x hx => by
                obtain ⟨i, _, rfl⟩ := List.mem_map.1 hx
                exact HPk.out i)
              generalize z.map (pickN xs) = fs at *
              have HRk := Lib.hid (HRr.out.below HB.out (Nat.le_refl _))
              have HCk := Lib.hid (HCr.out.below HB.out (Nat.le_refl _))
              have HOc := Lib.hid HO.out.at_cells
              have HOx := Lib.hid (fun (hn : fs ≠ []) x (hx : a = some x) => HO.out.lt _ (HO.out.addr hn x hx))
              have c0 := HMk.out.cell 0 0 rfl rfl
              have r0 := fun x => later_cell c0 x
              have hld : ∀ w', (∃ x : Later wr, w' = x.val) → ∀ i v, D.toList[i]? = some v → w'.cell? ⟨qd, 0 + i, none⟩ = some v := by
                rintro _ ⟨x, rfl⟩ i v hi
                rw [Nat.zero_add]
                exact later_cell (HMk.out.cell 1 i rfl hi) x
              clear HTk HO HR HB
              go_upto_region 30 with fail
              refine wp_region_seg (C := fun w' => ∃ x : Later (wr), w' = x.val) [.fl [0, 1, 2, 4, 5, 6], .sq [3] true, .sq [7, 8, 9] false] (by kernel_rfl) (by kernel_rfl) (by intro c a d v w h; cases d <;> exact h) ?_
              simp only [segs, picks, List.getElem?_cons_succ, List.getElem?_cons_zero]
              have hC1 := later_drew (wr)
              refine wpSeg_fl hC1 ?_
              repeat (first | (refine wpQuiet_load_arr aggRd D hld hD8 rfl rfl rfl ?_) | go_big_quiet_step (fail) | quiet_step (fail))
              refine wpQuiet_nil ?_
              have HH6 := Lib.hid (HHk.out.later (later_below hC1))
              have HB6 := Lib.hid (HBk.out.trans ((later_below hC1).mono HBk.out.size))
              have HR6 := Lib.hid (HRk.out.below (later_below hC1) (Nat.le_refl _))
              have HC6 := Lib.hid (HCk.out.below (later_below hC1) (Nat.le_refl _))
              have HO6 := Lib.hid (HOc.out.below (later_below hC1) (Nat.le_refl _))
              have HX6 : Hid (fs ≠ [] → ∀ x, a = some x → x.block < wr.drew.heap.size) := Lib.hid (fun hn x hx => Nat.lt_of_lt_of_le (HOx.out hn x hx) (later_below hC1).size)
              clear r0 hld c0 HHk HBk HRk HCk HMk HOc HOx
              generalize wr.drew = w6 at *
              refine wpSeg_sq (fun K hK => ?_)
              go_wp2_with fail
              refine (HDp.out _ HH6.out.at_.al a nl c fs HNl.out.symm HO6.out (by omega) HF.out).mono ?_
              rintro e w7 ⟨K7, hk7, rfl, hb7⟩
              have HK7 := Lib.hid hk7
              have HB7 := Lib.hid (HB6.out.trans (hb7.mono HB6.out.size))
              have HR7 := Lib.hid (HR6.out.below hb7 (Nat.le_refl _))
              have HC7 := Lib.hid (HC6.out.below hb7 (Nat.le_refl _))
              have HO7 := Lib.hid (HO6.out.below hb7 (Nat.le_refl _))
              have HX7 : Hid (fs ≠ [] → ∀ x, a = some x → x.block < w7.heap.size) := Lib.hid (fun hn x hx => Nat.lt_of_lt_of_le (HX6.out hn x hx) hb7.size)
              have hC2 := later_step hC1 hb7
              clear hk7 hb7 HB6 HR6 HC6 HO6 HX6 HH6
              go_wp2_with fail
              refine hK _ _ (fun _ => hC2) ?_
              clear hK K
              refine wpSeg_last ?_
              go_wp2_with fail
              refine (HRp.out _ HR7.out cu au HC7.out a nl c fs HNl.out.symm HO7.out HX7.out (by omega)).mono ?_
              rintro e w8 ⟨K8, hk8, rfl, hb8⟩
              have hK : K7 = K8 := HK7.out.one hk8
              subst hK
              have HB8 := Lib.hid (HB7.out.trans (hb8.mono HB7.out.size))
              have hcmp : (((K7 - 1 : Nat) : Int) == ((K7 - 1 : Nat) : Int)) = true := by simp
              generalize K7 - 1 = kk at *
              clear hk8 hb8
              go_wp2_with fail
              exact HP.out _ HB8.out)
end Go.Proofs.YtfedgcdkagngnaaGreat
