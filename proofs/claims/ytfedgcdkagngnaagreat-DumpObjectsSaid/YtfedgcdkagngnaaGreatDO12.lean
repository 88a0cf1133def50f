/- Parts of the proof, one behind the other: Ge, Ri. -/
import Derived.Test.YtfedgcdkagngnaaGreatDO11

/- law33: DumpObjects. -/
namespace Go.Proofs.YtfedgcdkagngnaaGreat
open Go.RowKit
set_option linter.unusedVariables false

theorem BmOk.fine {B : Nat} {m : Bm} (h : BmOk B m) (b : Nat) : (hdGet m.list (b : Int)).fine := by
  intro hk
  unfold hdGet at hk ⊢
  by_cases c : (b : Int) < 1 ∨ (m.list.length : Int) ≤ b
  · rw [if_pos c] at hk; cases hk
  · rw [if_neg c] at hk ⊢
    rw [Int.toNat_natCast] at hk ⊢
    have := h.right b (by rw [h.lenL] at c; omega)
    rw [hk] at this
    unfold hdRight at this
    have := of_decide_eq_true this
    unfold HdRight at this
    omega
theorem objT_now (S : Dev) (x p d : Int) : objT (nowD S) x p d = objT S x p d := rfl

theorem Cells.touchNe {w w' : World} {a : Option Addr} {vs : List Value} {q : Nat} (h : Cells w a vs) (ht : Touch [q] w w') (hne : ∀ x, a = some x → x.block ≠ q) : Cells w' a vs := by
  rcases h with h | ⟨b, off, rfl, h⟩
  · exact .inl h
  · exact .inr ⟨b, off, rfl, fun i v hi => cell_of_touch ht (by simpa using hne _ rfl) (h i v hi)⟩
theorem Cells.owned3 {w : World} {base e size n n' cap : Nat} {a : Option Addr} {xs : List Value} (h : w.ownsRow base e size (.slice a n' cap) n xs) : Cells w a xs := by
  rcases h.2 with ⟨h0, h1⟩ | ⟨g, c, cur, hv, hb, hg, _, _, _, h4⟩
  · subst h1
    exact .inl (List.length_eq_zero_iff.1 (by rw [h.1, Nat.zero_mul]))
  · simp at hv
    obtain ⟨rfl, _⟩ := hv
    refine .inr ⟨g, 0, rfl, fun i v hi => ?_⟩
    have hr : RowAt w g e xs := ⟨cur, hg, cur.toList.drop (n * size), by rw [← h4, List.take_append_drop]⟩
    rw [Nat.zero_add]
    exact hr.cell hi
theorem owned_lt {w : World} {base e size n n' c : Nat} {a : Option Addr} {xs : List Value} (h : w.ownsRow base e size (.slice a n' c) n xs) (x : Addr) (hx : a = some x) : x.block < w.heap.size := by
  rcases h.2 with ⟨h0, _⟩ | ⟨g, cap, cur, hv, hb, hg, _⟩
  · simp at h0; rw [h0.1] at hx; cases hx
  · simp at hv; rw [hv.1] at hx; cases hx; exact (Array.getElem?_eq_some_iff.1 hg).1

set_option maxHeartbeats 8000000 in
set_option maxRecDepth 100000 in
theorem dumpObjects_any (a : Option Addr) (mm cap : Nat) (s : List Op20) (hm : s.length = mm) (w : World) (hcs : Cells w a (recs Op20.cs s)) (hmm : mm ≤ maxLen) (x wd : Int) (hx : In64 x) :
    Calls Tryz.prog 3 #[.slice a mm cap, .int .i64 x, .int .i64 wd] w fun e w' => e = .returned (.bool true) ∧ Below w.heap.size w w' := by
  have HM := Lib.hid hm
  have HCS := Lib.hid hcs
  have HMM := Lib.hid hmm
  have HX := Lib.hid hx
  clear hm hcs hmm hx
  generalize hq : (fun e w' => e = Ending.returned (.bool true) ∧ Below w.heap.size w w') = Post
  have HP : Hid (∀ w', Below w.heap.size w w' → Post (.returned (.bool true)) w') := Lib.hid (fun w' h => by rw [← hq]; exact ⟨rfl, h⟩)
  clear hq
  go_enter Tryz.func3, Tryz.ntmps3
  go_wp2_with fail
  refine (awake33_any _).mono ?_
  rintro e w1 ⟨rfl, hb1⟩
  have HB1 := Lib.hid hb1
  clear hb1
  go_wp2_with fail
  refine (made32_any a mm cap s HM.out w1 (HCS.out.below HB1.out (Nat.le_refl _)) HMM.out).mono ?_
  rintro e w2 ⟨A, n, m, v, xs, rfl, hh, hn, _⟩
  obtain ⟨sa, sc, rfl, _⟩ := hh.at_.own.cells
  obtain ⟨l, hl⟩ : ∃ l, l = xs.length := ⟨_, rfl⟩
  have HOk := Lib.hid hh.ok.ok
  have HB2 := Lib.hid (HB1.out.trans (hh.below.mono HB1.out.size))
  have HMb := Lib.hid (Mem.one w2 #[valloc A, vdev A.X.F, .slice sa l sc] 28)
  rw [← hl] at hh ⊢
  have HA0 := Lib.hid (hh.at_.al.below HMb.out.below)
  have HWf := Lib.hid hh.at_.al.man.dev.wf
  have HLc : Hid (m.bm.dev.cache.length = 3072) := Lib.hid hh.ok.ok.len
  have HLn : Hid (m.bm.list.length = 6) := Lib.hid hh.ok.ok.bm.lenL
  clear hl hh hn
  go_upto_region 4 with fail
  generalize w2.alloc _ = w3 at *
  obtain ⟨q, hq⟩ : ∃ q, q = w2.heap.size := ⟨_, rfl⟩
  rw [← hq] at HMb ⊢
  clear hq
  go_upto_region 6 with fail
  have HNow := Lib.hid (fun w' (h : DevAt w' A.X.F m.bm.dev) => wnow_any h (valloc A) (.slice sa l sc) (by rw [HLc.out]; omega))
  have HAll := Lib.hid (fun w' (h : AlAt w' A n 6 m) => tall_any h.man.tab (by omega))
  have HRefs := Lib.hid (fun w' (a : Option Addr) (k : Nat) (h : Cells w' a (hdCs m.bm.list)) => refs_any a 6 k m.bm.list HLn.out w' h (by omega))
  go_cut [9, 10] from 24 (fun dv lv wc => ∃ (qd : Nat) (D : Array Value) (al : Option Addr) (cl : Nat), dv = .pointer (some ⟨qd, 0, none⟩) ∧ lv = .slice al 6 cl ∧ Hid (Mem w2 wc [⟨q, 28, [valloc A, vdev A.X.F, .slice sa l sc], true⟩, ⟨qd, 34, D.toList, true⟩]) ∧ Hid (RAt wc (.agg D) m.bm.dev.dirty.length (nowD m.bm.dev).ref) ∧ Hid (Cells wc al (hdCs m.bm.list)) ∧ Hid (AlAt wc A n 6 m))
  case first =>
    have c0 := HMb.out.cell 0 0 rfl rfl
    have c1 := HMb.out.cell 0 1 rfl rfl
    have c2 := HMb.out.cell 0 2 rfl rfl
    have c3 := HA0.out.c0
    have c4 := HA0.out.man.c0
    have r0 := fun x => later_cell c0 x
    have r1 := fun x => later_cell c1 x
    have r2 := fun x => later_cell c2 x
    have r3 := fun x => later_cell c3 x
    have r4 := fun x => later_cell c4 x
    clear c0 c1 c2 c3 c4
    refine wp_region_tr (C := fun w' => ∃ x : Later (w3), w' = x.val) (.fl [0, 2, 3, 4, 5, 6, 7, 8, 9] (.br 1 true (.br 10 false (.br 11 false (.sq [12] true (.sq [13, 14] false (.nil))) 12 true (.sq [11, 13, 14] false (.nil))) 12 true (.sq [10, 11, 13, 14] false (.nil))) 12 true (.sq [1] true (.sq [10, 11, 13, 14] false (.nil))))) (by kernel_rfl) (by kernel_rfl) (by intro c a d v w h; cases d <;> exact h) ?_
    simp only [trO, picks, List.getElem?_cons_succ, List.getElem?_cons_zero]
    have hC1 := later_drew (w3)
    refine wpTr_fl hC1 ?_
    repeat (first | go_big_quiet_step (fail) | quiet_step (fail))
    refine wpQuiet_nil ?_
    clear r0 r1 r2 r3 r4
    have HM4 := Lib.hid (HMb.out.later (later_below hC1))
    have HA4 := Lib.hid (HA0.out.below (later_below hC1))
    generalize w3.drew = w4 at *
    refine wpTr_br ?_ ?_
    · refine wpTr_sq (fun K hK => ?_)
      go_wp2_with fail
      refine (HNow.out _ HA4.out.man.dev).mono ?_
      rintro e w5 ⟨dv, rfl, hr, hlo, hb⟩
      obtain ⟨D, rfl⟩ := hr.agg
      have HRlo := Lib.hid hlo
      have HRhi := Lib.hid hr.old
      obtain ⟨hD8, hD1⟩ := hr.arr
      have HM5 := Lib.hid (HM4.out.later hb)
      have HA5 := Lib.hid (HA4.out.below hb)
      have HS5 := Lib.hid hb.size
      have HRA5 := Lib.hid hr
      have hC2 := later_step hC1 hb
      clear hb hr hlo
      go_wp2_with fail
      refine hK _ _ (fun _ => hC2) ?_
      clear hK K
      refine wpTr_br ?_ ?_
      · refine wpTr_sq (fun K hK => ?_)
        go_wp2_with fail
        refine (HAll.out _ HA5.out).mono ?_
        rintro e w6 ⟨gl, kl, rfl, _, _, hrow, hb⟩
        have HM6 := Lib.hid (HM5.out.later hb)
        have HA6 := Lib.hid (HA5.out.below hb)
        have HS6 := Lib.hid hb.size
        have HRA6 := Lib.hid (HRA5.out.below hb (Nat.le_refl _))
        have HCl6 := Lib.hid hrow.cells
        have hC3 := later_step hC2 hb
        clear hb hrow
        go_wp2_with fail
        refine hK _ _ (fun h => nomatch h) ?_
        clear hK K
        refine wpTr_br ?_ ?_
        · refine wpTr_sq (fun K hK => ?_)
          go_wp2_with fail
          refine (HRefs.out _ _ _ HCl6.out).mono ?_
          rintro e w7 ⟨vr, rfl, ho, hb⟩
          obtain ⟨ar, cr, rfl, _, _⟩ := owned_form ho
          have HClo := Lib.hid (owned_addr ho)
          have HChi := Lib.hid (owned_lt ho)
          have HM7 := Lib.hid (HM6.out.later hb)
          have HA7 := Lib.hid (HA6.out.below hb)
          have HS7 := Lib.hid hb.size
          have HRA7 := Lib.hid (HRA6.out.below hb (Nat.le_refl _))
          have HCl7 := Lib.hid (HCl6.out.below hb (Nat.le_refl _))
          have HCr7 := Lib.hid (Cells.owned3 ho)
          have hC4 := later_step hC3 hb
          clear hb ho
          go_wp2_with fail
          refine hK _ _ (fun h => nomatch h) ?_
          clear hK K
          refine wpTr_sq (fun K hK => ?_)
          go_wp2_with fail
          have hb := below_alloc w7 (.cells zeroD 34)
          have HM8 := Lib.hid (HM7.out.alloc zeroD 34)
          have HA8 := Lib.hid (HA7.out.below hb)
          have HS8 := Lib.hid hb.size
          have HRA8 := Lib.hid (HRA7.out.below hb (Nat.le_refl _))
          have HCr8 := Lib.hid (HCr7.out.below hb (Nat.le_refl _))
          have hC5 := later_step hC4 hb
          clear hb
          go_wp2_with fail
          refine hK _ _ (fun _ => hC5) ?_
          clear hK K
          rw [show (#[.slice none 0 0, .slice none 0 0, .slice none 0 0, .slice none 0 0, .slice none 0 0, .int .i64 0, .int .i64 0, .bool false] : Array Value) = zeroD from rfl]
          generalize w7.alloc _ = w8 at *
          obtain ⟨qd, hqd⟩ : ∃ qd, qd = w7.heap.size := ⟨_, rfl⟩
          rw [← hqd] at HM8 ⊢
          have HQd := Lib.hid hqd
          have HQl := Lib.hid (HM8.out.glt 1 rfl)
          clear hqd
          refine wpTr_last ?_
          go_wp2_with (refine wpList_store_mem aggRd HM8.out 1 rfl rfl rfl rfl rfl hD8 hD8.symm hD1 ?_; intro w9 h9 ht9; have H9 := Lib.hid h9; have HT9 := Lib.hid ht9; clear h9 ht9)
          go_meet
          have HNe : Hid (m.bm.dev.dirty.length = 0 ∨ ∀ b, RIn (.agg D) b → b ∉ [qd]) := Lib.hid (HRhi.out.imp id (fun h b hb hm => by simp at hm; have h1 := h b hb; have h2 := HRlo.out b hb; have h3 := HQd.out; have h4 := HQl.out; have s5 := HS5.out; have s6 := HS6.out; have s7 := HS7.out; have s8 := HS8.out; omega))
          have HNc : Hid (∀ x, ar = some x → x.block ≠ qd) := Lib.hid (fun x hx e => by have h1 := HChi.out x hx; have h2 := HClo.out x hx; have h3 := HQd.out; have h4 := HQl.out; have s5 := HS5.out; have s6 := HS6.out; have s7 := HS7.out; have s8 := HS8.out; omega)
          have HAq : Hid (∀ k ∈ A.list, k ∉ [qd]) := Lib.hid (fun k hk hm => by simp at hm; have h1 := HA4.out.mem k hk; have h3 := HQd.out; have h4 := HQl.out; have s5 := HS5.out; have s6 := HS6.out; have s7 := HS7.out; have s8 := HS8.out; omega)
          exact ⟨qd, D, _, _, rfl, rfl, H9, Lib.hid (HRA8.out.touch HT9.out HNe.out), Lib.hid (HCr8.out.touchNe HT9.out HNc.out), Lib.hid (HA8.out.keep (fun k hk => HT9.out.block k (HA8.out.mem k hk) (HAq.out k hk)))⟩
        · refine wpTr_sq (fun K hK => ?_)
          go_wp2_with fail
          have hb := below_alloc w6 (.cells zeroD 34)
          have HM7 := Lib.hid (HM6.out.alloc zeroD 34)
          have HA7 := Lib.hid (HA6.out.below hb)
          have HS7 := Lib.hid hb.size
          have HRA7 := Lib.hid (HRA6.out.below hb (Nat.le_refl _))
          have HCl7 := Lib.hid (HCl6.out.below hb (Nat.le_refl _))
          have hC4 := later_step hC3 hb
          clear hb
          go_wp2_with fail
          refine hK _ _ (fun _ => hC4) ?_
          clear hK K
          rw [show (#[.slice none 0 0, .slice none 0 0, .slice none 0 0, .slice none 0 0, .slice none 0 0, .int .i64 0, .int .i64 0, .bool false] : Array Value) = zeroD from rfl]
          generalize w6.alloc _ = w7 at *
          obtain ⟨qd, hqd⟩ : ∃ qd, qd = w6.heap.size := ⟨_, rfl⟩
          rw [← hqd] at HM7 ⊢
          have HQd := Lib.hid hqd
          have HQl := Lib.hid (HM7.out.glt 1 rfl)
          clear hqd
          refine wpTr_last ?_
          go_wp2_with fail
          refine (HRefs.out _ _ _ HCl7.out).mono ?_
          rintro e w8 ⟨vr, rfl, ho, hb⟩
          obtain ⟨ar, cr, rfl, _, _⟩ := owned_form ho
          have HClo := Lib.hid (owned_addr ho)
          have HChi := Lib.hid (owned_lt ho)
          have HM8 := Lib.hid (HM7.out.later hb)
          have HA8 := Lib.hid (HA7.out.below hb)
          have HS8 := Lib.hid hb.size
          have HRA8 := Lib.hid (HRA7.out.below hb (Nat.le_refl _))
          have HCl8 := Lib.hid (HCl7.out.below hb (Nat.le_refl _))
          have HCr8 := Lib.hid (Cells.owned3 ho)
          clear hb ho
          go_wp2_with (refine wpList_store_mem aggRd HM8.out 1 rfl rfl rfl rfl rfl hD8 hD8.symm hD1 ?_; intro w9 h9 ht9; have H9 := Lib.hid h9; have HT9 := Lib.hid ht9; clear h9 ht9)
          go_meet
          have HNe : Hid (m.bm.dev.dirty.length = 0 ∨ ∀ b, RIn (.agg D) b → b ∉ [qd]) := Lib.hid (HRhi.out.imp id (fun h b hb hm => by simp at hm; have h1 := h b hb; have h2 := HRlo.out b hb; have h3 := HQd.out; have h4 := HQl.out; have s5 := HS5.out; have s6 := HS6.out; have s7 := HS7.out; have s8 := HS8.out; omega))
          have HNc : Hid (∀ x, ar = some x → x.block ≠ qd) := Lib.hid (fun x hx e => by have h1 := HChi.out x hx; have h2 := HClo.out x hx; have h3 := HQd.out; have h4 := HQl.out; have s5 := HS5.out; have s6 := HS6.out; have s7 := HS7.out; have s8 := HS8.out; omega)
          have HAq : Hid (∀ k ∈ A.list, k ∉ [qd]) := Lib.hid (fun k hk hm => by simp at hm; have h1 := HA4.out.mem k hk; have h3 := HQd.out; have h4 := HQl.out; have s5 := HS5.out; have s6 := HS6.out; have s7 := HS7.out; have s8 := HS8.out; omega)
          exact ⟨qd, D, _, _, rfl, rfl, H9, Lib.hid (HRA8.out.touch HT9.out HNe.out), Lib.hid (HCr8.out.touchNe HT9.out HNc.out), Lib.hid (HA8.out.keep (fun k hk => HT9.out.block k (HA8.out.mem k hk) (HAq.out k hk)))⟩
      · refine wpTr_sq (fun K hK => ?_)
        go_wp2_with fail
        have hb := below_alloc w5 (.cells zeroD 34)
        have HM6 := Lib.hid (HM5.out.alloc zeroD 34)
        have HA6 := Lib.hid (HA5.out.below hb)
        have HS6 := Lib.hid hb.size
        have HRA6 := Lib.hid (HRA5.out.below hb (Nat.le_refl _))
        have hC3 := later_step hC2 hb
        clear hb
        go_wp2_with fail
        refine hK _ _ (fun _ => hC3) ?_
        clear hK K
        rw [show (#[.slice none 0 0, .slice none 0 0, .slice none 0 0, .slice none 0 0, .slice none 0 0, .int .i64 0, .int .i64 0, .bool false] : Array Value) = zeroD from rfl]
        generalize w5.alloc _ = w6 at *
        obtain ⟨qd, hqd⟩ : ∃ qd, qd = w5.heap.size := ⟨_, rfl⟩
        rw [← hqd] at HM6 ⊢
        have HQd := Lib.hid hqd
        have HQl := Lib.hid (HM6.out.glt 1 rfl)
        clear hqd
        refine wpTr_last ?_
        go_wp2_with fail
        refine (HAll.out _ HA6.out).mono ?_
        rintro e w7 ⟨gl, kl, rfl, _, _, hrow, hb⟩
        have HM7 := Lib.hid (HM6.out.later hb)
        have HA7 := Lib.hid (HA6.out.below hb)
        have HS7 := Lib.hid hb.size
        have HRA7 := Lib.hid (HRA6.out.below hb (Nat.le_refl _))
        have HCl7 := Lib.hid hrow.cells
        clear hb hrow
        go_wp2_with fail
        refine (HRefs.out _ _ _ HCl7.out).mono ?_
        rintro e w8 ⟨vr, rfl, ho, hb⟩
        obtain ⟨ar, cr, rfl, _, _⟩ := owned_form ho
        have HClo := Lib.hid (owned_addr ho)
        have HChi := Lib.hid (owned_lt ho)
        have HM8 := Lib.hid (HM7.out.later hb)
        have HA8 := Lib.hid (HA7.out.below hb)
        have HS8 := Lib.hid hb.size
        have HRA8 := Lib.hid (HRA7.out.below hb (Nat.le_refl _))
        have HCl8 := Lib.hid (HCl7.out.below hb (Nat.le_refl _))
        have HCr8 := Lib.hid (Cells.owned3 ho)
        clear hb ho
        go_wp2_with (refine wpList_store_mem aggRd HM8.out 1 rfl rfl rfl rfl rfl hD8 hD8.symm hD1 ?_; intro w9 h9 ht9; have H9 := Lib.hid h9; have HT9 := Lib.hid ht9; clear h9 ht9)
        go_meet
        have HNe : Hid (m.bm.dev.dirty.length = 0 ∨ ∀ b, RIn (.agg D) b → b ∉ [qd]) := Lib.hid (HRhi.out.imp id (fun h b hb hm => by simp at hm; have h1 := h b hb; have h2 := HRlo.out b hb; have h3 := HQd.out; have h4 := HQl.out; have s5 := HS5.out; have s6 := HS6.out; have s7 := HS7.out; have s8 := HS8.out; omega))
        have HNc : Hid (∀ x, ar = some x → x.block ≠ qd) := Lib.hid (fun x hx e => by have h1 := HChi.out x hx; have h2 := HClo.out x hx; have h3 := HQd.out; have h4 := HQl.out; have s5 := HS5.out; have s6 := HS6.out; have s7 := HS7.out; have s8 := HS8.out; omega)
        have HAq : Hid (∀ k ∈ A.list, k ∉ [qd]) := Lib.hid (fun k hk hm => by simp at hm; have h1 := HA4.out.mem k hk; have h3 := HQd.out; have h4 := HQl.out; have s5 := HS5.out; have s6 := HS6.out; have s7 := HS7.out; have s8 := HS8.out; omega)
        exact ⟨qd, D, _, _, rfl, rfl, H9, Lib.hid (HRA8.out.touch HT9.out HNe.out), Lib.hid (HCr8.out.touchNe HT9.out HNc.out), Lib.hid (HA8.out.keep (fun k hk => HT9.out.block k (HA8.out.mem k hk) (HAq.out k hk)))⟩
    · refine wpTr_sq (fun K hK => ?_)
      go_wp2_with fail
      have hb := below_alloc w4 (.cells zeroD 34)
      have HM5 := Lib.hid (HM4.out.alloc zeroD 34)
      have HA5 := Lib.hid (HA4.out.below hb)
      have HS5 := Lib.hid hb.size
      have hC2 := later_step hC1 hb
      clear hb
      go_wp2_with fail
      refine hK _ _ (fun _ => hC2) ?_
      clear hK K
      rw [show (#[.slice none 0 0, .slice none 0 0, .slice none 0 0, .slice none 0 0, .slice none 0 0, .int .i64 0, .int .i64 0, .bool false] : Array Value) = zeroD from rfl]
      generalize w4.alloc _ = w5 at *
      obtain ⟨qd, hqd⟩ : ∃ qd, qd = w4.heap.size := ⟨_, rfl⟩
      rw [← hqd] at HM5 ⊢
      have HQd := Lib.hid hqd
      have HQl := Lib.hid (HM5.out.glt 1 rfl)
      clear hqd
      refine wpTr_sq (fun K hK => ?_)
      go_wp2_with fail
      refine (HNow.out _ HA5.out.man.dev).mono ?_
      rintro e w6 ⟨dv, rfl, hr, hlo, hb⟩
      obtain ⟨D, rfl⟩ := hr.agg
      have HRlo := Lib.hid hlo
      have HRhi := Lib.hid hr.old
      obtain ⟨hD8, hD1⟩ := hr.arr
      have HM6 := Lib.hid (HM5.out.later hb)
      have HA6 := Lib.hid (HA5.out.below hb)
      have HS6 := Lib.hid hb.size
      have HRA6 := Lib.hid hr
      have hC3 := later_step hC2 hb
      clear hb hr hlo
      go_wp2_with fail
      refine hK _ _ (fun _ => hC3) ?_
      clear hK K
      refine wpTr_last ?_
      go_wp2_with fail
      refine (HAll.out _ HA6.out).mono ?_
      rintro e w7 ⟨gl, kl, rfl, _, _, hrow, hb⟩
      have HM7 := Lib.hid (HM6.out.later hb)
      have HA7 := Lib.hid (HA6.out.below hb)
      have HS7 := Lib.hid hb.size
      have HRA7 := Lib.hid (HRA6.out.below hb (Nat.le_refl _))
      have HCl7 := Lib.hid hrow.cells
      clear hb hrow
      go_wp2_with fail
      refine (HRefs.out _ _ _ HCl7.out).mono ?_
      rintro e w8 ⟨vr, rfl, ho, hb⟩
      obtain ⟨ar, cr, rfl, _, _⟩ := owned_form ho
      have HClo := Lib.hid (owned_addr ho)
      have HChi := Lib.hid (owned_lt ho)
      have HM8 := Lib.hid (HM7.out.later hb)
      have HA8 := Lib.hid (HA7.out.below hb)
      have HS8 := Lib.hid hb.size
      have HRA8 := Lib.hid (HRA7.out.below hb (Nat.le_refl _))
      have HCl8 := Lib.hid (HCl7.out.below hb (Nat.le_refl _))
      have HCr8 := Lib.hid (Cells.owned3 ho)
      clear hb ho
      go_wp2_with (refine wpList_store_mem aggRd HM8.out 1 rfl rfl rfl rfl rfl hD8 hD8.symm hD1 ?_; intro w9 h9 ht9; have H9 := Lib.hid h9; have HT9 := Lib.hid ht9; clear h9 ht9)
      go_meet
      have HNe : Hid (m.bm.dev.dirty.length = 0 ∨ ∀ b, RIn (.agg D) b → b ∉ [qd]) := Lib.hid (HRhi.out.imp id (fun h b hb hm => by simp at hm; have h1 := h b hb; have h2 := HRlo.out b hb; have h3 := HQd.out; have h4 := HQl.out; have s5 := HS5.out; have s6 := HS6.out; have s7 := HS7.out; have s8 := HS8.out; omega))
      have HNc : Hid (∀ x, ar = some x → x.block ≠ qd) := Lib.hid (fun x hx e => by have h1 := HChi.out x hx; have h2 := HClo.out x hx; have h3 := HQd.out; have h4 := HQl.out; have s5 := HS5.out; have s6 := HS6.out; have s7 := HS7.out; have s8 := HS8.out; omega)
      have HAq : Hid (∀ k ∈ A.list, k ∉ [qd]) := Lib.hid (fun k hk hm => by simp at hm; have h1 := HA4.out.mem k hk; have h3 := HQd.out; have h4 := HQl.out; have s5 := HS5.out; have s6 := HS6.out; have s7 := HS7.out; have s8 := HS8.out; omega)
      exact ⟨qd, D, _, _, rfl, rfl, H9, Lib.hid (HRA8.out.touch HT9.out HNe.out), Lib.hid (HCr8.out.touchNe HT9.out HNc.out), Lib.hid (HA8.out.keep (fun k hk => HT9.out.block k (HA8.out.mem k hk) (HAq.out k hk)))⟩
  case rest =>
    obtain ⟨qd, D, al, cl, rfl, rfl, HM4, HRA4, HCr4, HA4⟩ := hcut
    clear HMb HA0 HNow HAll HRefs
    obtain ⟨hD8, hD1⟩ := HRA4.out.arr
    have HFit := Lib.hid (nowD_fit HWf.out 0)
    have HFn := Lib.hid (fun b => HOk.out.bm.fine b)
    have HDO := Lib.hid (fun w' (h : AlAt w' A n 6 m) => dobject_any h (by omega) x HX.out)
    have HDM := Lib.hid (fun w' (h : AlAt w' A n 6 m) => dmap_any h (by omega) (by omega) wd HFn.out)
    have HRM := Lib.hid (fun w' (h : Cells w' al (hdCs m.bm.list)) => rmap_any al 6 cl m.bm.list HLn.out w' h (by omega) (by omega) wd HFn.out)
    have HRP := Lib.hid (fun w' (h1 : RAt w' (.agg D) m.bm.dev.dirty.length (nowD m.bm.dev).ref) (h2 : Cells w' al (hdCs m.bm.list)) => rplaced_any (by simp [nowD, freshDev]) h1 HFit.out al 6 cl m.bm.list HLn.out h2 (by omega) x HX.out)
    have HRO := Lib.hid (fun w' (h1 : RAt w' (.agg D) m.bm.dev.dirty.length (nowD m.bm.dev).ref) (p d : Nat) (hh : headN m.bm.dev x = ⟨p, d, 0⟩) => robject_any (by simp [nowD, freshDev]) h1 HFit.out x HX.out p d hh)
    have c0 := HM4.out.cell 0 0 rfl rfl
    generalize mapTo m.bm.list 6 wd (6 - 1) = TM at *
    cases hpl : placedN m.bm.dev m.bm.list x with
    | none =>
      have HE : Hid (objV m.bm.dev m.bm.list x = .tuple #[strV [], .int .i64 22]) := Lib.hid (by unfold objV; rw [hpl])
      have HPN : Hid (placedN (nowD m.bm.dev) m.bm.list x = none) := Lib.hid hpl
      rw [HE.out] at HDO
      clear hpl HE
      go_wp2_with fail
      refine (HDO.out _ HA4.out).mono ?_
      rintro e w5 ⟨rfl, hb⟩
      have HM5 := Lib.hid (HM4.out.later hb)
      have HA5 := Lib.hid (HA4.out.below hb)
      have HR5 := Lib.hid (HRA4.out.below hb (Nat.le_refl _))
      have HC5 := Lib.hid (HCr4.out.below hb (Nat.le_refl _))
      clear hb c0
      go_wp2_with (refine wpList_load_box aggRd HM5.out 1 rfl hD8 rfl rfl rfl ?_)
      refine (HRP.out _ HR5.out HC5.out).mono ?_
      rintro e w6 ⟨⟨p, d, rfl, _⟩, hb⟩
      rw [HPN.out]
      have HM6 := Lib.hid ((HM5.out.later hb).later (below_alloc w6 (.cells #[.int .i64 p, .int .i64 d] 55)))
      have HA6 := Lib.hid ((HA5.out.below hb).below (below_alloc w6 (.cells #[.int .i64 p, .int .i64 d] 55)))
      have HC6 := Lib.hid ((HC5.out.below hb (Nat.le_refl _)).below (below_alloc w6 (.cells #[.int .i64 p, .int .i64 d] 55)) (Nat.le_refl _))
      clear hb
      go_upto_region 9 with fail
      generalize w6.alloc _ = w7 at *
      have c0 := HM6.out.cell 0 0 rfl rfl
      have hcmp0 : (bstr []).toList.isEmpty = true := by rw [bstr_toList]; rfl
      go_wp2_with fail
      refine (HDM.out _ HA6.out).mono ?_
      rintro e w8 ⟨rfl, hb⟩
      have HM8 := Lib.hid (HM6.out.later hb)
      have HC8 := Lib.hid (HC6.out.below hb (Nat.le_refl _))
      clear hb c0
      go_wp2_with fail
      refine (HRM.out _ HC8.out).mono ?_
      rintro e w9 ⟨rfl, hb⟩
      have HM9 := Lib.hid (HM8.out.later hb)
      have hcmp : ((bstr TM).toList == (bstr TM).toList) = true := by simp
      clear hb
      generalize bstr TM = SM at *
      go_wp2_with fail
      exact HP.out _ (HB2.out.trans (HM9.out.below.mono HB2.out.size))
    | some o =>
      obtain ⟨hh1, hh2, _, _⟩ := placed_head hpl
      obtain ⟨_, hs1, _, hs2, _⟩ := placed_size hpl
      obtain ⟨po, do_, co⟩ := o
      dsimp only at hh2 hs1 hs2
      subst hh2
      obtain ⟨p, rfl⟩ := Int.eq_ofNat_of_zero_le hs1
      obtain ⟨d, rfl⟩ := Int.eq_ofNat_of_zero_le hs2
      have HE : Hid (objV m.bm.dev m.bm.list x = .tuple #[strV (objT m.bm.dev x (p : Int) (d : Int)), .int .i64 0]) := Lib.hid (by unfold objV; rw [hpl])
      have HPN : Hid (placedN (nowD m.bm.dev) m.bm.list x = some ⟨p, d, 0⟩) := Lib.hid hpl
      have HRO2 := Lib.hid (fun w' h1 => HRO.out w' h1 p d hh1)
      rw [HE.out] at HDO
      rw [objT_now] at HRO2
      generalize objT m.bm.dev x (p : Int) (d : Int) = TO at *
      clear hpl HE hh1 HRO
      go_wp2_with fail
      refine (HDO.out _ HA4.out).mono ?_
      rintro e w5 ⟨rfl, hb⟩
      have HM5 := Lib.hid (HM4.out.later hb)
      have HA5 := Lib.hid (HA4.out.below hb)
      have HR5 := Lib.hid (HRA4.out.below hb (Nat.le_refl _))
      have HC5 := Lib.hid (HCr4.out.below hb (Nat.le_refl _))
      clear hb c0
      go_wp2_with (refine wpList_load_box aggRd HM5.out 1 rfl hD8 rfl rfl rfl ?_)
      refine (HRP.out _ HR5.out HC5.out).mono ?_
      rintro e w6 ⟨⟨pp, dd, rfl, _⟩, hb⟩
      rw [HPN.out]
      have hba := below_alloc w6 (.cells #[.int .i64 pp, .int .i64 dd] 55)
      have HM6 := Lib.hid ((HM5.out.later hb).later hba)
      have HA6 := Lib.hid ((HA5.out.below hb).below hba)
      have HR6 := Lib.hid ((HR5.out.below hb (Nat.le_refl _)).below hba (Nat.le_refl _))
      have HC6 := Lib.hid ((HC5.out.below hb (Nat.le_refl _)).below hba (Nat.le_refl _))
      clear hb hba
      go_upto_region 9 with fail
      generalize w6.alloc _ = w7 at *
      go_wp2_with (refine wpList_unguard rfl ?_; refine wpList_load_box aggRd HM6.out 1 rfl hD8 rfl rfl rfl ?_)
      refine (HRO2.out _ HR6.out).mono ?_
      rintro e w7' ⟨rfl, hb⟩
      have HM7 := Lib.hid (HM6.out.later hb)
      have HA7 := Lib.hid (HA6.out.below hb)
      have HC7 := Lib.hid (HC6.out.below hb (Nat.le_refl _))
      have hcmp : ((bstr TO).toList == (bstr TO).toList) = true := by simp
      have c0 := HM7.out.cell 0 0 rfl rfl
      clear hb
      generalize bstr TO = SO at *
      go_wp2_with fail
      refine (HDM.out _ HA7.out).mono ?_
      rintro e w8 ⟨rfl, hb⟩
      have HM8 := Lib.hid (HM7.out.later hb)
      have HC8 := Lib.hid (HC7.out.below hb (Nat.le_refl _))
      clear hb c0
      go_wp2_with fail
      refine (HRM.out _ HC8.out).mono ?_
      rintro e w9 ⟨rfl, hb⟩
      have HM9 := Lib.hid (HM8.out.later hb)
      have hcmp : ((bstr TM).toList == (bstr TM).toList) = true := by simp
      clear hb
      generalize bstr TM = SM at *
      go_wp2_with fail
      exact HP.out _ (HB2.out.trans (HM9.out.below.mono HB2.out.size))

end Go.Proofs.YtfedgcdkagngnaaGreat

/- Slices of structs whose fields are all ints: what the reading of such an argument says. -/
namespace Go.Proofs.YtfedgcdkagngnaaGreat
open Go.RowKit Go.ChangeShapes Go.WideShapes Go.Deep
set_option linter.unusedVariables false

theorem wf_bounds {x : Int} (h : (Lit.int .i64 x).wf = true) : -9223372036854775808 ≤ x ∧ x ≤ 9223372036854775807 := by
  simp [Lit.wf, IntKind.min, IntKind.max, IntKind.bits, IntKind.signed] at h
  omega

/-- A list out of what each place holds. -/
theorem list_of {α : Type} (P : Nat → α → Prop) : ∀ n, (∀ i, i < n → ∃ x, P i x) → ∃ l : List α, l.length = n ∧ ∀ i x, l[i]? = some x → P i x
  | 0, _ => ⟨[], rfl, by simp⟩
  | n + 1, h => by
    obtain ⟨l, hl, hp⟩ := list_of P n (fun i hi => h i (by omega))
    obtain ⟨x, hx⟩ := h n (by omega)
    refine ⟨l ++ [x], by simp [hl], fun i y hy => ?_⟩
    by_cases hi : i < l.length
    · rw [List.getElem?_append_left hi] at hy; exact hp i y hy
    · rw [List.getElem?_append_right (by omega)] at hy
      have h0 : i - l.length = 0 := by
        have := (List.getElem?_eq_some_iff.1 hy).1; simp at this; omega
      rw [h0] at hy
      simp at hy
      subst hy
      rw [show i = n by omega]; exact hx

section
variable {H : Type} {enc : TypeId × Value → H} {P : Program} {w : World} {base : Nat} {spare : Nat → Bool} {held : Bool}

theorem ints_struct {e T : TypeId} {fs : Array Field} {n fuel : Nat} {us : List Value} {z : DataW H × List MemPlace} (he : P.underlying e = some (.struct fs)) (hT : P.underlying T = some (.int .i64)) (hc : P.cellsOf T = 1)
    (hF : ((List.range n).all fun j => match fs[j]? with | some f => f.type == T && f.offset == j | none => false) = true) (hlen : us.length = n) (hz : DataW.trod enc P w base spare held fuel e us = some z) :
    ∃ zs : List Int, zs.length = n ∧ us = zs.map (Value.int .i64) ∧ ∀ x ∈ zs, -9223372036854775808 ≤ x ∧ x ≤ 9223372036854775807 := by
  obtain ⟨ys, n', _, _, _, hyl, hf⟩ := DataW.trod_struct he hz
  have each : ∀ j, j < n → ∃ x : Int, us[j]? = some (.int .i64 x) ∧ (-9223372036854775808 ≤ x ∧ x ≤ 9223372036854775807) := by
    intro j hj
    have h1 := List.all_eq_true.1 hF j (List.mem_range.2 hj)
    cases hfj : fs[j]? with
    | none => rw [hfj] at h1; cases h1
    | some f =>
      rw [hfj] at h1
      simp only [Bool.and_eq_true, beq_iff_eq] at h1
      have h2 := hf j f hfj
      rw [h1.1, h1.2, hc] at h2
      have hjs : j < ys.length := by rw [hyl]; exact (Array.getElem?_eq_some_iff.1 hfj).1
      rw [List.getElem?_eq_getElem hjs] at h2
      have hju : j < us.length := by omega
      have h3 : (us.drop j).take 1 = [us[j]] := by rw [List.drop_eq_getElem_cons hju]; rfl
      rw [h3] at h2
      obtain ⟨x, hx, _, hw⟩ := DataW.trod_int hT h2
      have hx' : us[j] = .int .i64 x := by simpa using hx
      exact ⟨x, by rw [List.getElem?_eq_getElem hju, hx'], wf_bounds hw⟩
  obtain ⟨zs, hl, hp⟩ := list_of (fun j x => us[j]? = some (.int .i64 x) ∧ (-9223372036854775808 ≤ x ∧ x ≤ 9223372036854775807)) n each
  refine ⟨zs, hl, ?_, fun x hx => ?_⟩
  · apply List.ext_getElem?
    intro i
    by_cases hi : i < zs.length
    · rw [(hp i _ (List.getElem?_eq_getElem hi)).1, List.getElem?_map, List.getElem?_eq_getElem hi]; rfl
    · rw [List.getElem?_eq_none (by omega), List.getElem?_eq_none (by simp; omega)]
  · obtain ⟨i, hi, rfl⟩ := List.mem_iff_getElem.1 hx
    exact (hp i _ (List.getElem?_eq_getElem hi)).2

theorem recs_ints_read {α : Type} {f : α → List Value} {n : Nat} (hfl : ∀ x, (f x).length = n) (hn : 0 < n) (d : α) (mk : List Int → α) (hmk : ∀ zs : List Int, zs.length = n → f (mk zs) = zs.map (Value.int .i64))
    {t e T : TypeId} {fs : Array Field} {fuel : Nat} {v : Value} {y : DataW H × List MemPlace} (ht : P.underlying t = some (.slice e)) (he : P.underlying e = some (.struct fs)) (hT : P.underlying T = some (.int .i64)) (hC : P.cellsOf e = n) (hc : P.cellsOf T = 1)
    (hF : ((List.range n).all fun j => match fs[j]? with | some f => f.type == T && f.offset == j | none => false) = true) (h : DataW.trod enc P w base spare held fuel t [v] = some y) :
    ∃ (a : Option Addr) (len cap : Nat) (l : List α), v = .slice a len cap ∧ l.length = len ∧ Cells w a (recs f l) ∧ (∀ o ∈ l, ∃ zs : List Int, o = mk zs ∧ zs.length = n ∧ ∀ x ∈ zs, -9223372036854775808 ≤ x ∧ x ≤ 9223372036854775807) ∧ len ≤ maxLen := by
  obtain ⟨a, len, cap, m, rfl, hl, hm, hcs⟩ := elems_read ht hC hn h
  rcases hcs with rfl | ⟨b, off, rfl, hcs⟩
  · exact ⟨a, 0, cap, [], rfl, rfl, Cells.nil _ _, by simp, Nat.zero_le _⟩
  · have each : ∀ i, i < len → ∃ x : α, (∀ r u, (f x)[r]? = some u → w.cell? ⟨b, off + i * n + r, none⟩ = some u) ∧ ∃ zs : List Int, x = mk zs ∧ zs.length = n ∧ ∀ x ∈ zs, -9223372036854775808 ≤ x ∧ x ≤ 9223372036854775807 := by
      intro i hi
      obtain ⟨us, z, hlen, hat, hz⟩ := hcs i hi
      obtain ⟨zs, h1, h2, h3⟩ := ints_struct he hT hc hF hlen hz
      exact ⟨mk zs, fun r u hr => by rw [hmk zs h1, ← h2] at hr; exact hat r u hr, zs, rfl, h1, h3⟩
    obtain ⟨l, hll, hcl, hok⟩ := recs_of hfl hn d each
    exact ⟨_, len, cap, l, rfl, hll, hcl, hok, by omega⟩
end

end Go.Proofs.YtfedgcdkagngnaaGreat
