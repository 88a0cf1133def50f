/- Parts of the proof, one behind the other: Ft, Fu, Fv, Fw, Fx. -/
import Derived.Test.YtbimcogdbafjpaaGreatAO12
set_option linter.unusedVariables false
namespace Go.Proofs.YtbimcogdbafjpaaGreat
open Go.RowKit Go.Maps
theorem load16_any {w : World} {S : Dev} (hwf : S.wf) (a : Option Addr) (l c : Nat) (hl : S.cache.length = l) (h9 : l ≤ 8192) (hc : Cells w a (S.cache.map vu64)) :
  Calls Tryz.prog 21 #[.slice a l c] w (NowPost S w) := by
 refine (rload_at a l c S.cache hl w hc (by omega) hwf.u64C).mono ?_
 rintro e w6 ⟨v6, rfl, hra6, hloc6, hb6⟩
 have h8 := hwf.lenD
 rw [show (l + 7) / 8 = S.dirty.length by omega, show padTo S.cache (8 * S.dirty.length) = S.cache by unfold padTo; rw [show 8 * S.dirty.length - S.cache.length = 0 by omega]; simp, nowD_ref hwf] at hra6
 refine ⟨v6, rfl, hra6, ?_, hb6⟩
 rintro b ⟨cs, hcs, i, x, n, c, hi, rfl⟩
 exact hloc6 cs hcs i x n c hi
def obOf (m : Al) (a : Nat) : Ob := ⟨a, (headN m.bm.dev (a : Int)).p, (headN m.bm.dev (a : Int)).d⟩
def obsOf (m : Al) : List Ob := (onesL m.used).map (obOf m)
theorem onesL_pair (l : List Bool) : (onesL l).Pairwise (· < ·) := List.Pairwise.sublist List.filter_sublist List.pairwise_lt_range
theorem obOf_placed {B : Nat} {m : Al} (h : AlOk B m) {a : Nat} (hu : m.used.getD a false = true) : placedN m.bm.dev m.bm.list (a : Int) = some ⟨(obOf m a).p, (obOf m a).d, 0⟩ := by
 obtain ⟨o, ho⟩ := Option.isSome_iff_exists.1 (h.placed a hu)
 obtain ⟨h1, h2, _⟩ := placed_head ho
 rw [ho]
 unfold obOf
 rw [h1]
 obtain ⟨p, d, c⟩ := o
 dsimp only at h2
 subst h2
 rfl
theorem obsOf_apart {B : Nat} {m : Al} (h : AlOk B m) : ApartOk m.bm.dev m.bm.list (obsOf m) := by
 refine ⟨fun o ho => ?_, fun i x y hx hy => ?_⟩
 ·unfold obsOf at ho
  obtain ⟨a, ha, rfl⟩ := List.mem_map.1 ho
  exact obOf_placed h (mem_onesL.1 ha)
 ·unfold obsOf at hx hy
  rw [List.getElem?_map] at hx hy
  obtain ⟨a, ha, rfl⟩ := Option.map_eq_some_iff.1 hx
  obtain ⟨b, hb, rfl⟩ := Option.map_eq_some_iff.1 hy
  have hab : a < b := by
   have hp := onesL_pair m.used
   obtain ⟨i1, e1⟩ := List.getElem?_eq_some_iff.1 ha
   obtain ⟨i2, e2⟩ := List.getElem?_eq_some_iff.1 hb
   rw [← e1, ← e2]
   exact List.pairwise_iff_getElem.1 hp i (i + 1) i1 i2 (by omega)
  have h1 := placed_room (obOf_placed h (mem_onesL.1 (List.mem_of_getElem? ha)))
  have h2 := placed_room (obOf_placed h (mem_onesL.1 (List.mem_of_getElem? hb)))
  exact h1.apart h2 hab
theorem obsOf_at (m : Al) : (obsOf m).map Ob.a = onesL m.used := by
 unfold obsOf
 rw [List.map_map]
 have : (Ob.a ∘ obOf m) = id := rfl
 rw [this, List.map_id]
set_option maxHeartbeats 16000000 in
set_option maxRecDepth 100000 in
theorem shows16_any {w : World} {A : AF} {n B : Nat} {m : Al} (h : AlAt w A n B m) (hok : AlOk B m) (hB2 : 2 ≤ B) (hB : B ≤ 16) (lo : Option Addr) (k cap : Nat) (hk : (obsOf m).length = k) (hx : Cells w lo (recs Ob.cs (obsOf m))) :
  Calls Tryz.prog 19 #[valloc A, .slice lo k cap] w (Gives (.bool true) w) := by
 have HP : Hid (∀ w', Below w.heap.size w w' → Gives (.bool true) w (.returned (.bool true)) w') := LH (fun w' h => ⟨rfl, h⟩)
 generalize Gives (.bool true) w = Post at *
 have HA0 := LH h
 have HOk := LH hok
 have HX := LH hx
 have HK := LH hk
 have HWf := LH h.man.dev.wf
 have HLc : Hid (m.bm.dev.cache.length = 512 * B) := LH hok.len
 have HLn : Hid (m.bm.list.length = B) := LH hok.bm.lenL
 have HM0 : Hid (Mem w w []) := LH ⟨Below.refl _ _, by simp, by simp, by simp⟩
 have HDv := LH (fun w' (h : AlAt w' A n B m) => adev_any h)
 have HNw := LH (fun w' (h : DevAt w' A.X.F m.bm.dev) => now16_any h (by rw [HLc.out]; omega))
 have HLd := LH (fun w' (a : Option Addr) (c : Nat) (h : Cells w' a (m.bm.dev.cache.map vu64)) => load16_any HWf.out a m.bm.dev.cache.length c rfl (by rw [HLc.out]; omega) h)
 have HAll := LH (fun w' (h : AlAt w' A n B m) => tall_any h.man.tab (by omega))
 have HRefs := LH (fun w' (a : Option Addr) (k : Nat) (h : Cells w' a (hdCs m.bm.list)) => refs_any a B k m.bm.list HLn.out w' h (by omega))
 clear h hok hx hk
 go_enter Tryz.func19, Tryz.ntmps19
 go_upto_region 1 with fail
 go_cut [5, 6] from 10 (fun dv lv wc => ∃ (qd : Nat) (D : Array Value) (al : Option Addr) (cl : Nat), dv = .pointer (some ⟨qd, 0, none⟩) ∧ lv = .slice al B cl ∧ Hid (Mem w wc [⟨qd, 59, D.toList, true⟩]) ∧ Hid (RAt wc (.agg D) m.bm.dev.dirty.length (nowD m.bm.dev).ref) ∧ Hid (Cells wc al (hdCs m.bm.list)) ∧ Hid (AlAt wc A n B m))
 case first =>
  have r3 := fun x => later_cell HA0.out.c0 x
  have r4 := fun x => later_cell HA0.out.man.c0 x
  refine wp_region_trx (C := fun w' => ∃ x : Later (w), w' = x.val) (ex := [4, 5, 6, 7, 8, 9, 10, 11, 12]) (.fl [0, 4, 5, 6, 7, 8, 9, 10] (.br 1 true (.br 2 true (.br 3 true (.br 11 true (.br 12 true (.sq [13] true (.sq [14, 15] false .nil)) 13 true (.sq [12] true (.sq [14, 15] false .nil))) 13 true (.sq [11] true (.sq [12] true (.sq [14, 15] false .nil)))) 13 true (.sq [3] true (.sq [11] true (.sq [12] true (.sq [14, 15] false .nil))))) 13 true (.sq [2] true (.sq [3] true (.sq [11] true (.sq [12] true (.sq [14, 15] false .nil)))))) 13 true (.sq [1] true (.sq [2] true (.sq [3] true (.sq [11] true (.sq [12] true (.sq [14, 15] false .nil)))))))) (by kernel_rfl) (by kernel_rfl) (by intro c a d v w h; cases d <;> exact h) ?_
  simp only [trO, picks, List.getElem?_cons_succ, List.getElem?_cons_zero]
  have hC2 := later_drew (w)
  refine wpTr_fl hC2 ?_
  repeat (first | go_big_quiet_step (fail) | quiet_step (fail))
  refine wpQuiet_nil ?_
  clear r3 r4
  have HM2 := LH (HM0.out.later (later_below hC2))
  have HA2 := LH (HA0.out.below (later_below hC2))
  generalize w.drew = w2 at *
  refine wpTr_br ?_ ?_
  ·refine wpTr_sq (fun K hK => ?_)
   go_wp2_with fail
   refine (HDv.out _ HA2.out).mono ?_
   rintro e w' ⟨rfl, rfl⟩
   go_wp2_with fail
   refine hK _ _ (fun _ => hC2) ?_
   clear hK K
   refine wpTr_br ?_ ?_
   ·refine wpTr_sq (fun K hK => ?_)
    go_wp2_with fail
    refine (HNw.out _ HA2.out.man.dev).mono ?_
    rintro e w3 ⟨an, cn, rfl, hcn, hb⟩
    have HM3 := LH (HM2.out.later hb)
    have HA3 := LH (HA2.out.below hb)
    have HCn3 := LH hcn
    have hC3 := later_step hC2 hb
    clear hb hcn
    go_wp2_with fail
    refine hK _ _ (fun _ => hC3) ?_
    clear hK K
    refine wpTr_br ?_ ?_
    ·refine wpTr_sq (fun K hK => ?_)
     go_wp2_with fail
     refine (HLd.out _ _ _ HCn3.out).mono ?_
     rintro e w4 ⟨dv, rfl, hr, hlo, hb⟩
     obtain ⟨D, rfl⟩ := hr.agg
     obtain ⟨hD8, hD1⟩ := hr.arr
     have HM4 := LH (HM3.out.later hb)
     have HA4 := LH (HA3.out.below hb)
     have HRA4 := LH hr
     have hC4 := later_step hC3 hb
     clear hb hr hlo
     go_wp2_with fail
     refine hK _ _ (fun _ => hC4) ?_
     clear hK K
     refine wpTr_br ?_ ?_
     ·refine wpTr_sq (fun K hK => ?_)
      go_wp2_with fail
      refine (HAll.out _ HA4.out).mono ?_
      rintro e w5 ⟨gl, kl, rfl, _, _, hrow, hb⟩
      have HM5 := LH (HM4.out.later hb)
      have HA5 := LH (HA4.out.below hb)
      have HRA5 := LH (HRA4.out.below hb (Nat.le_refl _))
      have HCl5 := LH hrow.cells
      have hC5 := later_step hC4 hb
      clear hb hrow
      go_wp2_with fail
      refine hK _ _ (fun _ => hC5) ?_
      clear hK K
      refine wpTr_br ?_ ?_
      ·refine wpTr_sq (fun K hK => ?_)
       go_wp2_with fail
       refine (HRefs.out _ _ _ HCl5.out).mono ?_
       rintro e w6 ⟨vr, rfl, ho, hb⟩
       obtain ⟨ar, cr, rfl, _, _⟩ := owned_form ho
       have HM6 := LH (HM5.out.later hb)
       have HA6 := LH (HA5.out.below hb)
       have HRA6 := LH (HRA5.out.below hb (Nat.le_refl _))
       have HCr6 := LH (Cells.owned3 ho)
       have HChi := LH (owned_lt ho)
       have hC6 := later_step hC5 hb
       clear hb ho
       go_wp2_with fail
       refine hK _ _ (fun _ => hC6) ?_
       clear hK K
       refine wpTr_sq (fun K hK => ?_)
       go_wp2_with fail
       have hb := below_alloc w6 (.cells zeroD 59)
       have HM7 := LH (HM6.out.alloc zeroD 59)
       have HA7 := LH (HA6.out.below hb)
       have HRA7 := LH (HRA6.out.below hb (Nat.le_refl _))
       have HCr7 := LH (HCr6.out.below hb (Nat.le_refl _))
       have hC7 := later_step hC6 hb
       obtain ⟨qd, hqd⟩ : ∃ qd, qd = w6.heap.size := ⟨_, rfl⟩
       have HAq : Hid (∀ k ∈ A.list, k ∉ [qd]) := LH (fun k hk hm => by simp only [List.mem_cons, List.not_mem_nil, or_false] at hm; have := HA6.out.mem k hk; omega)
       have HNe : Hid (m.bm.dev.dirty.length = 0 ∨ ∀ b, RIn (.agg D) b → b ∉ [qd]) := LH (HRA6.out.old.imp id (fun h b hb hm => by simp only [List.mem_cons, List.not_mem_nil, or_false] at hm; have := h b hb; omega))
       have HNc : Hid (∀ x, ar = some x → x.block ≠ qd) := LH (fun x hx e => by have := HChi.out x hx; omega)
       clear hb
       go_wp2_with fail
       refine hK _ _ (fun _ => hC7) ?_
       clear hK K
       rw [show (#[.slice none 0 0, .slice none 0 0, .slice none 0 0, .slice none 0 0, .slice none 0 0, .int .i64 0, .int .i64 0, .bool false] : Array Value) = zeroD from rfl]
       generalize w6.alloc _ = w7 at *
       rw [← hqd] at HM7 ⊢
       clear hqd
       refine wpTr_last ?_
       go_wp2_with (refine wpList_store_mem aggRd HM7.out 0 rfl rfl rfl rfl rfl hD8 hD8.symm hD1 ?_; intro w9 h9 ht9; have H9 := LH h9; have HT9 := LH ht9; clear h9 ht9)
       go_meet
       exact ⟨qd, D, _, _, rfl, rfl, H9, LH (HRA7.out.touch HT9.out HNe.out), LH (HCr7.out.touchNe HT9.out HNc.out), LH (HA7.out.keep (fun k hk => HT9.out.block k (HA7.out.mem k hk) (HAq.out k hk)))⟩
      ·refine wpTr_sq (fun K hK => ?_)
       go_wp2_with fail
       have hb := below_alloc w5 (.cells zeroD 59)
       have HM6 := LH (HM5.out.alloc zeroD 59)
       have HA6 := LH (HA5.out.below hb)
       have HRA6 := LH (HRA5.out.below hb (Nat.le_refl _))
       have HCl6 := LH (HCl5.out.below hb (Nat.le_refl _))
       have hC6 := later_step hC5 hb
       obtain ⟨qd, hqd⟩ : ∃ qd, qd = w5.heap.size := ⟨_, rfl⟩
       have HAq : Hid (∀ k ∈ A.list, k ∉ [qd]) := LH (fun k hk hm => by simp only [List.mem_cons, List.not_mem_nil, or_false] at hm; have := HA5.out.mem k hk; omega)
       have HNe : Hid (m.bm.dev.dirty.length = 0 ∨ ∀ b, RIn (.agg D) b → b ∉ [qd]) := LH (HRA5.out.old.imp id (fun h b hb hm => by simp only [List.mem_cons, List.not_mem_nil, or_false] at hm; have := h b hb; omega))
       clear hb
       go_wp2_with fail
       refine hK _ _ (fun _ => hC6) ?_
       clear hK K
       rw [show (#[.slice none 0 0, .slice none 0 0, .slice none 0 0, .slice none 0 0, .slice none 0 0, .int .i64 0, .int .i64 0, .bool false] : Array Value) = zeroD from rfl]
       generalize w5.alloc _ = w6 at *
       rw [← hqd] at HM6 ⊢
       clear hqd
       refine wpTr_sq (fun K hK => ?_)
       go_wp2_with fail
       refine (HRefs.out _ _ _ HCl6.out).mono ?_
       rintro e w7 ⟨vr, rfl, ho, hb⟩
       obtain ⟨ar, cr, rfl, _, _⟩ := owned_form ho
       have HM7 := LH (HM6.out.later hb)
       have HA7 := LH (HA6.out.below hb)
       have HRA7 := LH (HRA6.out.below hb (Nat.le_refl _))
       have HCr7 := LH (Cells.owned3 ho)
       have HNc : Hid (∀ x, ar = some x → x.block ≠ qd) := LH (fun x hx e => by have h1 := owned_addr ho x hx; have h2 := HM6.out.glt 0 rfl; omega)
       have hC7 := later_step hC6 hb
       clear hb ho
       go_wp2_with fail
       refine hK _ _ (fun _ => hC7) ?_
       clear hK K
       refine wpTr_last ?_
       go_wp2_with (refine wpList_store_mem aggRd HM7.out 0 rfl rfl rfl rfl rfl hD8 hD8.symm hD1 ?_; intro w9 h9 ht9; have H9 := LH h9; have HT9 := LH ht9; clear h9 ht9)
       go_meet
       exact ⟨qd, D, _, _, rfl, rfl, H9, LH (HRA7.out.touch HT9.out HNe.out), LH (HCr7.out.touchNe HT9.out HNc.out), LH (HA7.out.keep (fun k hk => HT9.out.block k (HA7.out.mem k hk) (HAq.out k hk)))⟩
     ·refine wpTr_sq (fun K hK => ?_)
      go_wp2_with fail
      have hb := below_alloc w4 (.cells zeroD 59)
      have HM5 := LH (HM4.out.alloc zeroD 59)
      have HA5 := LH (HA4.out.below hb)
      have HRA5 := LH (HRA4.out.below hb (Nat.le_refl _))
      have hC5 := later_step hC4 hb
      obtain ⟨qd, hqd⟩ : ∃ qd, qd = w4.heap.size := ⟨_, rfl⟩
      have HAq : Hid (∀ k ∈ A.list, k ∉ [qd]) := LH (fun k hk hm => by simp only [List.mem_cons, List.not_mem_nil, or_false] at hm; have := HA4.out.mem k hk; omega)
      have HNe : Hid (m.bm.dev.dirty.length = 0 ∨ ∀ b, RIn (.agg D) b → b ∉ [qd]) := LH (HRA4.out.old.imp id (fun h b hb hm => by simp only [List.mem_cons, List.not_mem_nil, or_false] at hm; have := h b hb; omega))
      clear hb
      go_wp2_with fail
      refine hK _ _ (fun _ => hC5) ?_
      clear hK K
      rw [show (#[.slice none 0 0, .slice none 0 0, .slice none 0 0, .slice none 0 0, .slice none 0 0, .int .i64 0, .int .i64 0, .bool false] : Array Value) = zeroD from rfl]
      generalize w4.alloc _ = w5 at *
      rw [← hqd] at HM5 ⊢
      clear hqd
      refine wpTr_sq (fun K hK => ?_)
      go_wp2_with fail
      refine (HAll.out _ HA5.out).mono ?_
      rintro e w6 ⟨gl, kl, rfl, _, _, hrow, hb⟩
      have HM6 := LH (HM5.out.later hb)
      have HA6 := LH (HA5.out.below hb)
      have HRA6 := LH (HRA5.out.below hb (Nat.le_refl _))
      have HCl6 := LH hrow.cells
      have hC6 := later_step hC5 hb
      clear hb hrow
      go_wp2_with fail
      refine hK _ _ (fun _ => hC6) ?_
      clear hK K
      refine wpTr_sq (fun K hK => ?_)
      go_wp2_with fail
      refine (HRefs.out _ _ _ HCl6.out).mono ?_
      rintro e w7 ⟨vr, rfl, ho, hb⟩
      obtain ⟨ar, cr, rfl, _, _⟩ := owned_form ho
      have HM7 := LH (HM6.out.later hb)
      have HA7 := LH (HA6.out.below hb)
      have HRA7 := LH (HRA6.out.below hb (Nat.le_refl _))
      have HCr7 := LH (Cells.owned3 ho)
      have HNc : Hid (∀ x, ar = some x → x.block ≠ qd) := LH (fun x hx e => by have h1 := owned_addr ho x hx; have h2 := HM6.out.glt 0 rfl; omega)
      have hC7 := later_step hC6 hb
      clear hb ho
      go_wp2_with fail
      refine hK _ _ (fun _ => hC7) ?_
      clear hK K
      refine wpTr_last ?_
      go_wp2_with (refine wpList_store_mem aggRd HM7.out 0 rfl rfl rfl rfl rfl hD8 hD8.symm hD1 ?_; intro w9 h9 ht9; have H9 := LH h9; have HT9 := LH ht9; clear h9 ht9)
      go_meet
      exact ⟨qd, D, _, _, rfl, rfl, H9, LH (HRA7.out.touch HT9.out HNe.out), LH (HCr7.out.touchNe HT9.out HNc.out), LH (HA7.out.keep (fun k hk => HT9.out.block k (HA7.out.mem k hk) (HAq.out k hk)))⟩
    ·refine wpTr_sq (fun K hK => ?_)
     go_wp2_with fail
     have hb := below_alloc w3 (.cells zeroD 59)
     have HM4 := LH (HM3.out.alloc zeroD 59)
     have HA4 := LH (HA3.out.below hb)
     have HCn4 := LH (HCn3.out.below hb (Nat.le_refl _))
     have hC4 := later_step hC3 hb
     obtain ⟨qd, hqd⟩ : ∃ qd, qd = w3.heap.size := ⟨_, rfl⟩
     have HAq : Hid (∀ k ∈ A.list, k ∉ [qd]) := LH (fun k hk hm => by simp only [List.mem_cons, List.not_mem_nil, or_false] at hm; have := HA3.out.mem k hk; omega)
     clear hb
     go_wp2_with fail
     refine hK _ _ (fun _ => hC4) ?_
     clear hK K
     rw [show (#[.slice none 0 0, .slice none 0 0, .slice none 0 0, .slice none 0 0, .slice none 0 0, .int .i64 0, .int .i64 0, .bool false] : Array Value) = zeroD from rfl]
     generalize w3.alloc _ = w4 at *
     rw [← hqd] at HM4 ⊢
     clear hqd
     refine wpTr_sq (fun K hK => ?_)
     go_wp2_with fail
     refine (HLd.out _ _ _ HCn4.out).mono ?_
     rintro e w5 ⟨dv, rfl, hr, hlo, hb⟩
     obtain ⟨D, rfl⟩ := hr.agg
     obtain ⟨hD8, hD1⟩ := hr.arr
     have HM5 := LH (HM4.out.later hb)
     have HA5 := LH (HA4.out.below hb)
     have HRA5 := LH hr
     have HNe : Hid (m.bm.dev.dirty.length = 0 ∨ ∀ b, RIn (.agg D) b → b ∉ [qd]) := LH (.inr (fun b hb hm => by simp only [List.mem_cons, List.not_mem_nil, or_false] at hm; have h1 := hlo b hb; have h2 := HM4.out.glt 0 rfl; omega))
     have hC5 := later_step hC4 hb
     clear hb hr hlo
     go_wp2_with fail
     refine hK _ _ (fun _ => hC5) ?_
     clear hK K
     refine wpTr_sq (fun K hK => ?_)
     go_wp2_with fail
     refine (HAll.out _ HA5.out).mono ?_
     rintro e w6 ⟨gl, kl, rfl, _, _, hrow, hb⟩
     have HM6 := LH (HM5.out.later hb)
     have HA6 := LH (HA5.out.below hb)
     have HRA6 := LH (HRA5.out.below hb (Nat.le_refl _))
     have HCl6 := LH hrow.cells
     have hC6 := later_step hC5 hb
     clear hb hrow
     go_wp2_with fail
     refine hK _ _ (fun _ => hC6) ?_
     clear hK K
     refine wpTr_sq (fun K hK => ?_)
     go_wp2_with fail
     refine (HRefs.out _ _ _ HCl6.out).mono ?_
     rintro e w7 ⟨vr, rfl, ho, hb⟩
     obtain ⟨ar, cr, rfl, _, _⟩ := owned_form ho
     have HM7 := LH (HM6.out.later hb)
     have HA7 := LH (HA6.out.below hb)
     have HRA7 := LH (HRA6.out.below hb (Nat.le_refl _))
     have HCr7 := LH (Cells.owned3 ho)
     have HNc : Hid (∀ x, ar = some x → x.block ≠ qd) := LH (fun x hx e => by have h1 := owned_addr ho x hx; have h2 := HM6.out.glt 0 rfl; omega)
     have hC7 := later_step hC6 hb
     clear hb ho
     go_wp2_with fail
     refine hK _ _ (fun _ => hC7) ?_
     clear hK K
     refine wpTr_last ?_
     go_wp2_with (refine wpList_store_mem aggRd HM7.out 0 rfl rfl rfl rfl rfl hD8 hD8.symm hD1 ?_; intro w9 h9 ht9; have H9 := LH h9; have HT9 := LH ht9; clear h9 ht9)
     go_meet
     exact ⟨qd, D, _, _, rfl, rfl, H9, LH (HRA7.out.touch HT9.out HNe.out), LH (HCr7.out.touchNe HT9.out HNc.out), LH (HA7.out.keep (fun k hk => HT9.out.block k (HA7.out.mem k hk) (HAq.out k hk)))⟩
   ·refine wpTr_sq (fun K hK => ?_)
    go_wp2_with fail
    have hb := below_alloc w2 (.cells zeroD 59)
    have HM3 := LH (HM2.out.alloc zeroD 59)
    have HA3 := LH (HA2.out.below hb)
    have hC3 := later_step hC2 hb
    obtain ⟨qd, hqd⟩ : ∃ qd, qd = w2.heap.size := ⟨_, rfl⟩
    have HAq : Hid (∀ k ∈ A.list, k ∉ [qd]) := LH (fun k hk hm => by simp only [List.mem_cons, List.not_mem_nil, or_false] at hm; have := HA2.out.mem k hk; omega)
    clear hb
    go_wp2_with fail
    refine hK _ _ (fun _ => hC3) ?_
    clear hK K
    rw [show (#[.slice none 0 0, .slice none 0 0, .slice none 0 0, .slice none 0 0, .slice none 0 0, .int .i64 0, .int .i64 0, .bool false] : Array Value) = zeroD from rfl]
    generalize w2.alloc _ = w3 at *
    rw [← hqd] at HM3 ⊢
    clear hqd
    refine wpTr_sq (fun K hK => ?_)
    go_wp2_with fail
    refine (HNw.out _ HA3.out.man.dev).mono ?_
    rintro e w4 ⟨an, cn, rfl, hcn, hb⟩
    have HM4 := LH (HM3.out.later hb)
    have HA4 := LH (HA3.out.below hb)
    have HCn4 := LH hcn
    have hC4 := later_step hC3 hb
    clear hb hcn
    go_wp2_with fail
    refine hK _ _ (fun _ => hC4) ?_
    clear hK K
    refine wpTr_sq (fun K hK => ?_)
    go_wp2_with fail
    refine (HLd.out _ _ _ HCn4.out).mono ?_
    rintro e w5 ⟨dv, rfl, hr, hlo, hb⟩
    obtain ⟨D, rfl⟩ := hr.agg
    obtain ⟨hD8, hD1⟩ := hr.arr
    have HM5 := LH (HM4.out.later hb)
    have HA5 := LH (HA4.out.below hb)
    have HRA5 := LH hr
    have HNe : Hid (m.bm.dev.dirty.length = 0 ∨ ∀ b, RIn (.agg D) b → b ∉ [qd]) := LH (.inr (fun b hb hm => by simp only [List.mem_cons, List.not_mem_nil, or_false] at hm; have h1 := hlo b hb; have h2 := HM4.out.glt 0 rfl; omega))
    have hC5 := later_step hC4 hb
    clear hb hr hlo
    go_wp2_with fail
    refine hK _ _ (fun _ => hC5) ?_
    clear hK K
    refine wpTr_sq (fun K hK => ?_)
    go_wp2_with fail
    refine (HAll.out _ HA5.out).mono ?_
    rintro e w6 ⟨gl, kl, rfl, _, _, hrow, hb⟩
    have HM6 := LH (HM5.out.later hb)
    have HA6 := LH (HA5.out.below hb)
    have HRA6 := LH (HRA5.out.below hb (Nat.le_refl _))
    have HCl6 := LH hrow.cells
    have hC6 := later_step hC5 hb
    clear hb hrow
    go_wp2_with fail
    refine hK _ _ (fun _ => hC6) ?_
    clear hK K
    refine wpTr_sq (fun K hK => ?_)
    go_wp2_with fail
    refine (HRefs.out _ _ _ HCl6.out).mono ?_
    rintro e w7 ⟨vr, rfl, ho, hb⟩
    obtain ⟨ar, cr, rfl, _, _⟩ := owned_form ho
    have HM7 := LH (HM6.out.later hb)
    have HA7 := LH (HA6.out.below hb)
    have HRA7 := LH (HRA6.out.below hb (Nat.le_refl _))
    have HCr7 := LH (Cells.owned3 ho)
    have HNc : Hid (∀ x, ar = some x → x.block ≠ qd) := LH (fun x hx e => by have h1 := owned_addr ho x hx; have h2 := HM6.out.glt 0 rfl; omega)
    have hC7 := later_step hC6 hb
    clear hb ho
    go_wp2_with fail
    refine hK _ _ (fun _ => hC7) ?_
    clear hK K
    refine wpTr_last ?_
    go_wp2_with (refine wpList_store_mem aggRd HM7.out 0 rfl rfl rfl rfl rfl hD8 hD8.symm hD1 ?_; intro w9 h9 ht9; have H9 := LH h9; have HT9 := LH ht9; clear h9 ht9)
    go_meet
    exact ⟨qd, D, _, _, rfl, rfl, H9, LH (HRA7.out.touch HT9.out HNe.out), LH (HCr7.out.touchNe HT9.out HNc.out), LH (HA7.out.keep (fun k hk => HT9.out.block k (HA7.out.mem k hk) (HAq.out k hk)))⟩
  ·refine wpTr_sq (fun K hK => ?_)
   go_wp2_with fail
   have hb := below_alloc w2 (.cells zeroD 59)
   have HM3 := LH (HM2.out.alloc zeroD 59)
   have HA3 := LH (HA2.out.below hb)
   have hC3 := later_step hC2 hb
   obtain ⟨qd, hqd⟩ : ∃ qd, qd = w2.heap.size := ⟨_, rfl⟩
   have HAq : Hid (∀ k ∈ A.list, k ∉ [qd]) := LH (fun k hk hm => by simp only [List.mem_cons, List.not_mem_nil, or_false] at hm; have := HA2.out.mem k hk; omega)
   clear hb
   go_wp2_with fail
   refine hK _ _ (fun _ => hC3) ?_
   clear hK K
   rw [show (#[.slice none 0 0, .slice none 0 0, .slice none 0 0, .slice none 0 0, .slice none 0 0, .int .i64 0, .int .i64 0, .bool false] : Array Value) = zeroD from rfl]
   generalize w2.alloc _ = w3 at *
   rw [← hqd] at HM3 ⊢
   clear hqd
   refine wpTr_sq (fun K hK => ?_)
   go_wp2_with fail
   refine (HDv.out _ HA3.out).mono ?_
   rintro e w' ⟨rfl, rfl⟩
   go_wp2_with fail
   refine hK _ _ (fun _ => hC3) ?_
   clear hK K
   refine wpTr_sq (fun K hK => ?_)
   go_wp2_with fail
   refine (HNw.out _ HA3.out.man.dev).mono ?_
   rintro e w4 ⟨an, cn, rfl, hcn, hb⟩
   have HM4 := LH (HM3.out.later hb)
   have HA4 := LH (HA3.out.below hb)
   have HCn4 := LH hcn
   have hC4 := later_step hC3 hb
   clear hb hcn
   go_wp2_with fail
   refine hK _ _ (fun _ => hC4) ?_
   clear hK K
   refine wpTr_sq (fun K hK => ?_)
   go_wp2_with fail
   refine (HLd.out _ _ _ HCn4.out).mono ?_
   rintro e w5 ⟨dv, rfl, hr, hlo, hb⟩
   obtain ⟨D, rfl⟩ := hr.agg
   obtain ⟨hD8, hD1⟩ := hr.arr
   have HM5 := LH (HM4.out.later hb)
   have HA5 := LH (HA4.out.below hb)
   have HRA5 := LH hr
   have HNe : Hid (m.bm.dev.dirty.length = 0 ∨ ∀ b, RIn (.agg D) b → b ∉ [qd]) := LH (.inr (fun b hb hm => by simp only [List.mem_cons, List.not_mem_nil, or_false] at hm; have h1 := hlo b hb; have h2 := HM4.out.glt 0 rfl; omega))
   have hC5 := later_step hC4 hb
   clear hb hr hlo
   go_wp2_with fail
   refine hK _ _ (fun _ => hC5) ?_
   clear hK K
   refine wpTr_sq (fun K hK => ?_)
   go_wp2_with fail
   refine (HAll.out _ HA5.out).mono ?_
   rintro e w6 ⟨gl, kl, rfl, _, _, hrow, hb⟩
   have HM6 := LH (HM5.out.later hb)
   have HA6 := LH (HA5.out.below hb)
   have HRA6 := LH (HRA5.out.below hb (Nat.le_refl _))
   have HCl6 := LH hrow.cells
   have hC6 := later_step hC5 hb
   clear hb hrow
   go_wp2_with fail
   refine hK _ _ (fun _ => hC6) ?_
   clear hK K
   refine wpTr_sq (fun K hK => ?_)
   go_wp2_with fail
   refine (HRefs.out _ _ _ HCl6.out).mono ?_
   rintro e w7 ⟨vr, rfl, ho, hb⟩
   obtain ⟨ar, cr, rfl, _, _⟩ := owned_form ho
   have HM7 := LH (HM6.out.later hb)
   have HA7 := LH (HA6.out.below hb)
   have HRA7 := LH (HRA6.out.below hb (Nat.le_refl _))
   have HCr7 := LH (Cells.owned3 ho)
   have HNc : Hid (∀ x, ar = some x → x.block ≠ qd) := LH (fun x hx e => by have h1 := owned_addr ho x hx; have h2 := HM6.out.glt 0 rfl; omega)
   have hC7 := later_step hC6 hb
   clear hb ho
   go_wp2_with fail
   refine hK _ _ (fun _ => hC7) ?_
   clear hK K
   refine wpTr_last ?_
   go_wp2_with (refine wpList_store_mem aggRd HM7.out 0 rfl rfl rfl rfl rfl hD8 hD8.symm hD1 ?_; intro w9 h9 ht9; have H9 := LH h9; have HT9 := LH ht9; clear h9 ht9)
   go_meet
   exact ⟨qd, D, _, _, rfl, rfl, H9, LH (HRA7.out.touch HT9.out HNe.out), LH (HCr7.out.touchNe HT9.out HNc.out), LH (HA7.out.keep (fun k hk => HT9.out.block k (HA7.out.mem k hk) (HAq.out k hk)))⟩
 case rest =>
  obtain ⟨qd, D, al, cl, rfl, rfl, HM1, HRA1, HCr1, HA1⟩ := hcut
  obtain ⟨hD8, hD1⟩ := HRA1.out.arr
  have HX1 := LH (HX.out.below HM1.out.below (Nat.le_refl _))
  have hk9 : k ≤ 100000 := by
   rw [← HK.out]
   unfold obsOf
   rw [List.length_map, onesL_length]
   have := count_le_len m.used
   rw [HOk.out.lenU] at this
   omega
  have HAp := LH (apart16_any (S := nowD m.bm.dev) (by simp [nowD, freshDev]) HRA1.out (nowD_fit HWf.out 0) al B cl m.bm.list HLn.out HCr1.out (by omega) lo k cap (obsOf m) HK.out HX1.out (by omega) ⟨(obsOf_apart HOk.out).placed, (obsOf_apart HOk.out).apart⟩)
  have HW1 := LH HM1.out.below
  clear HX HDv HNw HLd HAll HRefs HM0 HA0
  go_upto_region 2 with fail
  have hld : ∀ (i : Nat) (v : Value), D.toList[i]? = some v → wc.cell? ⟨qd, 0 + i, none⟩ = some v := fun i v hi => by rw [Nat.zero_add]; exact HM1.out.cell 0 i rfl hi
  have hDl : D.toList.length = zeroD.size := by rw [Array.length_toList]; exact hD8
  go_wp2_with (refine wpList_load_part aggRd D.toList hld hDl rfl rfl rfl ?_; rw [Array.toArray_toList])
  refine HAp.out.mono ?_
  rintro e w3 ⟨rfl, hb3⟩
  have HX3 := LH (HX1.out.below hb3 (Nat.le_refl _))
  have HCr3 := LH (HCr1.out.below hb3 (Nat.le_refl _))
  have HA3 := LH (HA1.out.below hb3)
  have HW3 := LH (HW1.out.trans (hb3.mono HW1.out.size))
  clear hb3 hld hDl HAp HM1 HRA1 HX1 HCr1 HA1 HW1
  go_wp2_with fail
  go_loopw [7, 8] (fun uv iv wr => ∃ i : Nat, i ≤ k ∧ iv = .int .i64 (i : Int) ∧ Hid (OwnI wr uv (((obsOf m).take i).map Ob.a)) ∧ Hid (∀ b, rowOf uv = some b → w3.heap.size ≤ b) ∧ Hid (Below w3.heap.size w3 wr)) (fun _ iv _ => k - (intOf iv).toNat)
  case atStart => exact ⟨0, by omega, rfl, LH (OwnI.nil _), LH (fun b hb => by cases hb), LH (Below.refl _ _)⟩
  case round =>
   obtain ⟨i, hi, rfl, HO, HR, HB⟩ := hrel
   by_cases hlt : i < k
   ·have hltI : (i : Int) < (k : Int) := by omega
    obtain ⟨o, ho⟩ : ∃ o, (obsOf m)[i]? = some o := ⟨_, List.getElem?_eq_getElem (by rw [HK.out]; exact hlt)⟩
    obtain ⟨bb, bo, rfl, c0, _, _⟩ := ob_cells (HX3.out.below HB.out (Nat.le_refl _)) ho
    have HTk : Hid (((obsOf m).take (i + 1)).map Ob.a = ((obsOf m).take i).map Ob.a ++ [o.a]) := LH (by
     have h1 := (List.getElem?_eq_some_iff.1 ho).1
     rw [List.take_succ_eq_append_getElem h1, (List.getElem?_eq_some_iff.1 ho).2, List.map_append]; rfl)
    have HC1 : Hid (Cells (wr.alloc (.cells #[.int .i64 (o.a : Int)] 3)) (some ⟨wr.heap.size, 0, none⟩) ([o.a].map vi)) := LH (RowAt.cells ⟨_, heap_alloc_new _ _, [], rfl⟩)
    have hba := below_alloc wr (.cells #[.int .i64 (o.a : Int)] 3)
    have HB1 := LH (HB.out.trans (hba.mono HB.out.size))
    have HO1 := LH (HO.out.keep (fun b hb => hba.block b (HO.out.lt b hb)))
    have HN1 : Hid ((((obsOf m).take i).map Ob.a).length + 1 ≤ 1000000000000) := LH (by rw [List.length_map]; have := List.length_take_le i (obsOf m); omega)
    clear hba ho
    go_wp2_with (at_builtin; refine wpList_append_newI (m := 1) (B := w3.heap.size) HO1.out (Below.refl _ _) HR.out HB1.out.size HC1.out rfl HN1.out rfl rfl rfl rfl ?_; intro v' w9 ho hb hr; have HO9 := LH ho; have HB9 := LH hb; have HR9 := LH hr; clear ho hb hr)
    go_roundw
    case rel => exact ⟨i + 1, by omega, vint (by omega), LH (by rw [HTk.out]; exact HO9.out), HR9, LH (HB1.out.trans HB9.out)⟩
    case measure => simp [intOf]; omega
   obtain rfl : i = k := by omega
   have hni : ¬ (i : Int) < (i : Int) := by omega
   have e : ((obsOf m).take i).map Ob.a = onesL m.used := by rw [← HK.out, List.take_length, obsOf_at]
   rw [e] at HO
   have hln : (onesL m.used).length = i := by rw [← obsOf_at, List.length_map, HK.out]
   obtain ⟨ua, uc, rfl, hcu, _⟩ := HO.out.cells
   rw [hln]
   have HLu := LH hln
   have HCu := LH hcu
   have HAr := LH (HA3.out.below HB.out)
   have HCrr := LH (HCr3.out.below HB.out (Nat.le_refl _))
   have HWr := LH (HW3.out.trans (HB.out.mono HW3.out.size))
   have HOb := LH (aobjects_any HAr.out)
   clear e hln hcu HO HR HB HX3 HCr3 HA3
   go_wp2_with fail
   refine HOb.out.mono ?_
   rintro e w4 ⟨v4, rfl, ho4, _, hb4⟩
   rw [HLu.out] at ho4
   obtain ⟨a4, c4, rfl, _, _⟩ := owned_form ho4
   have HIn := LH (rints_same a4 ua i c4 uc (onesL m.used) HLu.out (Cells.owned ho4) (HCu.out.below hb4 (Nat.le_refl _)) (by omega))
   have HCu4 := LH (HCu.out.below hb4 (Nat.le_refl _))
   have HA4 := LH (HAr.out.below hb4)
   have HCr4 := LH (HCrr.out.below hb4 (Nat.le_refl _))
   have HW4 := LH (HWr.out.trans (hb4.mono HWr.out.size))
   clear hb4 ho4 HOb HCu HAr HCrr HWr
   go_wp2_with fail
   refine HIn.out.mono ?_
   rintro e w5 ⟨rfl, hb5⟩
   have HCu5 := LH (HCu4.out.below hb5 (Nat.le_refl _))
   have HA5 := LH (HA4.out.below hb5)
   have HCr5 := LH (HCr4.out.below hb5 (Nat.le_refl _))
   have HW5 := LH (HW4.out.trans (hb5.mono HW4.out.size))
   clear hb5 HIn HCu4 HA4 HCr4 HW4
   go_wp2_with fail
   go_loopw [9] (fun kv wk => ∃ j : Nat, j ≤ 32 ∧ kv = .int .i64 (j : Int) ∧ Hid (Below w5.heap.size w5 wk)) (fun kv _ => 32 - (intOf kv).toNat)
   case atStart => exact ⟨0, by omega, rfl, LH (Below.refl _ _)⟩
   case round =>
    obtain ⟨j, hj, rfl, HBk⟩ := hrel
    by_cases hj32 : j < 32
    case neg =>
     obtain rfl : j = 32 := by omega
     have HFin := LH (HP.out _ (HW5.out.trans (HBk.out.mono HW5.out.size)))
     go_wp2_with fail
     exact HFin.out
    have hjI : (j : Int) < 32 := by omega
    have HFc := LH (afreeCells_any (HA5.out.below HBk.out) (HOk.out.upto.mono (by omega)) j hj32)
    go_wp2_with fail
    refine HFc.out.mono ?_
    rintro e w6 ⟨v6, ys, rfl, ho6, hs6, hc6, _, hb6⟩
    have hys := HOk.out.free_is hj32 hs6 hc6 (by omega)
    have hu : (fun y => (onesL m.used).contains y) = fun y => m.used.getD y false := by
     funext y
     rw [Bool.eq_iff_iff, List.contains_iff_mem, mem_onesL]
    rw [← hu] at hys
    have HB6 := LH (HBk.out.trans (hb6.mono HBk.out.size))
    have HFr := LH (rfree16_any al B cl m.bm.list HLn.out (HCr5.out.below HB6.out (Nat.le_refl _)) (by omega) j hj32 ua i uc (onesL m.used) HLu.out (HCu5.out.below HB6.out (Nat.le_refl _)) (by omega))
    rw [← hys] at HFr
    have HYl : Hid (ys.length ≤ 100000) := LH (by
     rw [hys]
     have h1 := freeTo_len (u := fun y => (onesL m.used).contains y) (L := m.bm.list) hj32 (B - 1)
     have h2 : 256 * (B - 1) ≤ 256 * 16 := Nat.mul_le_mul_left _ (by omega)
     omega)
    obtain ⟨a6, c6', rfl, hcc6, _⟩ := ho6.cells
    have HC6 := LH hcc6
    clear hs6 hc6 hb6 hys hu ho6 hcc6 HFc
    obtain ⟨yl, hyl⟩ : ∃ yl, yl = ys.length := ⟨_, rfl⟩
    rw [← hyl] at HYl ⊢
    have HYe := LH hyl.symm
    clear hyl
    go_wp2_with fail
    refine HFr.out.mono ?_
    rintro e w7 ⟨v7, rfl, ho7, _, hb7⟩
    obtain ⟨a7, c7, rfl, hcc7, _⟩ := ho7.cells
    rw [HYe.out]
    have HIn := LH (rints_same a6 a7 yl c6' c7 ys HYe.out (HC6.out.below hb7 (Nat.le_refl _)) hcc7 (by have := HYl.out; omega))
    have HB7 := LH (HB6.out.trans (hb7.mono HB6.out.size))
    clear ho7 hcc7 hb7 HFr
    go_wp2_with fail
    refine HIn.out.mono ?_
    rintro e w8 ⟨rfl, hb8⟩
    have HB8 := LH (HB7.out.trans (hb8.mono HB7.out.size))
    clear hb8 HIn
    go_wp2_with fail
    go_roundw
    case rel => exact ⟨j + 1, by omega, vint (by omega), HB8⟩
    case measure => simp [intOf]; omega
end Go.Proofs.YtbimcogdbafjpaaGreat
namespace Go.Proofs.YtbimcogdbafjpaaGreat
variable {B : Nat} {m : Al}
theorem long_ltF {n : Nat} (hn : 1 ≤ n) : ∀ {l : List (Nat × Nat)}, (∀ x ∈ l, x.2 < n) → longOf l < n := by
 intro l h
 have : ∀ (l : List Nat) (m : Nat), m < n → (∀ x ∈ l, x < n) → l.foldl max m < n := by
  intro l
  induction l with
  | nil => intro m hm _; exact hm
  | cons x l ih => intro m hm h; exact ih _ (by have := h x (by simp); omega) (fun y hy => h y (by simp [hy]))
 exact this _ 0 hn (fun x hx => by obtain ⟨y, hy, rfl⟩ := List.mem_map.1 hx; exact h y hy)
theorem long_geF : ∀ {l : List (Nat × Nat)} {x : Nat × Nat}, x ∈ l → x.2 ≤ longOf l := by
 intro l x hx
 have h1 : ∀ (l : List Nat) (m : Nat), m ≤ l.foldl max m := by
  intro l
  induction l with
  | nil => intro m; exact Nat.le_refl _
  | cons y l ih => intro m; exact Nat.le_trans (Nat.le_max_left m y) (ih _)
 have h2 : ∀ (l : List Nat) (m y : Nat), y ∈ l → y ≤ l.foldl max m := by
  intro l
  induction l with
  | nil => intro m y hy; cases hy
  | cons z l ih =>
   intro m y hy
   rcases List.mem_cons.1 hy with rfl | hy
   ·exact Nat.le_trans (Nat.le_max_right m y) (h1 l _)
   ·exact ih _ y hy
 exact h2 _ 0 _ (List.mem_map.2 ⟨x, hx, rfl⟩)
theorem pick_noneF {l : List Bool} {n : Nat} (h : pick n (runsOf l) = none) : ∀ x ∈ runsOf l, x.2 < n := by
 have hb := pick_best (n := n) (runsOf_is l).rising
 rw [h] at hb
 exact fun x hx => hb x.1 x.2 hx
theorem pick_longF {l : List Bool} {n : Nat} (hn : 1 ≤ n) : pick n (runsOf l) = none ↔ ¬ n ≤ longOf (runsOf l) := by
 constructor
 ·intro h
  have := long_ltF hn (pick_noneF h)
  omega
 ·intro h
  cases hp : pick n (runsOf l) with
  | none => rfl
  | some x =>
   exfalso
   obtain ⟨h1, h2⟩ := pick_run hp
   have := long_geF (((runsOf_is l).mem x.1 x.2).2 h1)
   dsimp only at this
   omega
theorem sum_memF : ∀ {l : List (Nat × Nat)} {x : Nat × Nat}, x ∈ l → x.2 ≤ sumOf l
 | [], _, h => by cases h
 | y :: l, x, h => by
  have e : sumOf (y :: l) = y.2 + sumOf l := by simp [sumOf]
  rw [e]
  rcases List.mem_cons.1 h with rfl | h
  ·omega
  ·have := sum_memF h; omega
theorem sum_count (f : Nat → Bool) : ∀ L, sumOf (runsTo f L) = ((List.range L).filter f).length
 | 0 => rfl
 | b + 1 => by
  have ih := sum_count f b
  rw [List.range_succ, List.filter_append, List.length_append]
  have hpos : 0 < b ∧ f (b - 1) = true → 0 < ((List.range b).filter f).length := fun hp => List.length_pos_iff.2 (List.ne_nil_of_mem (List.mem_filter.2 ⟨List.mem_range.2 (show b - 1 < b by omega), hp.2⟩))
  generalize ((List.range b).filter f).length = c at *
  have hsum : ∀ l : List (Nat × Nat), ∀ x : Nat × Nat, sumOf (l ++ [x]) = sumOf l + x.2 := sum_add
  unfold runsTo
  generalize runsTo f b = R at *
  by_cases hf : f b
  ·rw [if_pos hf]
   have e1 : ([b].filter f).length = 1 := by simp [hf]
   rw [e1]
   by_cases hp : 0 < b ∧ f (b - 1) = true
   ·rw [if_pos hp]
    have hc := hpos hp
    split
    ·rename_i hx
     have h0 : R = [] := List.getLast?_eq_none_iff.1 hx
     rw [h0] at ih
     have : sumOf [] = 0 := rfl
     omega
    ·rename_i x hx
     obtain ⟨ys, hy⟩ := List.getLast?_eq_some_iff.1 hx
     rw [hy, hsum] at ih
     rw [hy, List.dropLast_concat, hsum]
     dsimp only
     omega
   ·rw [if_neg hp, hsum, ih]
  ·rw [if_neg hf, ih]
   simp [hf]
theorem sum_runs (l : List Bool) : sumOf (runsOf l) = l.count true := by
 unfold runsOf
 rw [sum_count, ← onesL_length]
 rfl
theorem sum_noneF {l : List Bool} : pick 1 (runsOf l) = none ↔ ¬ 0 < sumOf (runsOf l) := by
 rw [pick_longF (Nat.le_refl 1)]
 constructor
 ·intro h h2
  apply h
  have : runsOf l ≠ [] := fun e => by rw [e] at h2; simp [sumOf] at h2
  obtain ⟨x, hx⟩ := List.exists_mem_of_ne_nil _ this
  have h3 := long_geF hx
  have h4 := ((runsOf_is l).mem x.1 x.2).1 hx
  have := h4.1
  omega
 ·intro h h2
  apply h
  have : runsOf l ≠ [] := fun e => by rw [e] at h2; simp [longOf] at h2
  obtain ⟨x, hx⟩ := List.exists_mem_of_ne_nil _ this
  have h4 := ((runsOf_is l).mem x.1 x.2).1 hx
  have h5 := h4.1
  have : x.2 ≤ sumOf (runsOf l) := by
   exact sum_memF hx
  omega
def roomy16 (m : Al) (n : Nat) : Prop := if small n then 0 < (m.fl.all (ofN (n : Nat))).length ∨ 0 < sumOf (runsOf m.bm.free) else objBlocks n ≤ longOf (runsOf m.bm.free)
theorem cells_none {S : FL} {k : Nat} (h : ¬ 0 < (S.all k).length) : S.g k = [] ∧ ∀ i, i < 4 → S.c i k = [] := by
 have h0 : S.all k = [] := List.length_eq_zero_iff.1 (by omega)
 unfold FL.all at h0
 simp only [List.append_eq_nil_iff] at h0
 obtain ⟨⟨⟨⟨h1, h2⟩, h3⟩, h4⟩, h5⟩ := h0
 refine ⟨h1, fun i hi => ?_⟩
 rcases four hi with rfl | rfl | rfl | rfl <;> assumption
theorem room_no (h : AlOk B m) {mu n : Nat} (hmu : mu < 4) (h1 : 1 ≤ n) (h9 : n ≤ 16448) (hno : ¬ roomy16 m n) : m.room mu n = ⟨m, 0, 4⟩ := by
 unfold roomy16 at hno
 unfold Al.room
 by_cases hs : small n
 ·rw [if_pos hs] at hno ⊢
  have hk := ofN_lt hs
  generalize ofN (n : Int) = k at *
  obtain ⟨hg, hc⟩ := cells_none (fun h => hno (.inl h))
  have hp := sum_noneF.2 (fun h => hno (.inr h))
  have hcell : m.fl.cell mu k = none := by
   cases hx : m.fl.cell mu k with
   | none => rfl
   | some x =>
    exfalso
    have h2 := FL.taken_cnt hmu hx k x
    rw [if_pos ⟨rfl, rfl⟩] at h2
    have h0 : m.fl.cnt k x = 0 := by
     unfold FL.cnt
     rw [hg, hc 0 (by omega), hc 1 (by omega), hc 2 (by omega), hc 3 (by omega)]
     rfl
    omega
  unfold Al.roomS
  rw [hcell, if_neg (by simp)]
  rcases small_live h.bm h.live k hk with ⟨e, _⟩ | ⟨b, s1, s2, s3, s4, s5, s6, s7, s8, s9, s10, s11⟩
  ·rw [e, if_neg (by simp), if_neg (by simp)]
   unfold Al.steal FL.owner
   rw [hc 0 (by omega), hc 1 (by omega), hc 2 (by omega), hc 3 (by omega)]
   simp
  ·exact absurd hp s11
 ·rw [if_neg hs] at hno ⊢
  have hb : 1 ≤ objBlocks n ∧ objBlocks n < 256 := by
   unfold objBlocks; rw [if_neg hs]; omega
  unfold Al.roomL
  rcases large_live h.bm h.live (objBlocks n) hb.1 hb.2 with ⟨e, _⟩ | ⟨b, _, _, _, _, _, _, _, _, _, _, hp⟩
  ·rw [e, if_pos (by simp)]
  ·exact absurd ((pick_longF hb.1).2 hno) hp
theorem alloc_room (h : AlOk B m) (hB : B ≤ 200) {mu p d : Int} (h0 : 0 ≤ mu) (h4 : mu < 4) (hs : objSize p d ≠ 0) (hm : (objSize p d : Int) ≤ 512 * ((B : Int) - 1)) :
  (∃ m' a, m.alloc mu p d = ⟨m', ((a : Nat) : Int), 0⟩ ∧ Made B m m' a p d ∧ roomy16 m (objSize p d)) ∨ (m.alloc mu p d = ⟨m, 0, 4⟩ ∧ ¬ roomy16 m (objSize p d)) := by
 rcases alloc_done h hB h0 h4 hs hm with ⟨m', a, he, hmd⟩ | ⟨he, hn⟩
 ·left
  refine ⟨m', a, he, hmd, Classical.byContradiction fun hno => ?_⟩
  have hr := room_no h (mu := mu.toNat) (by omega) (by omega) (objSize_le p d) hno
  unfold Al.alloc at he
  rw [if_neg (by omega), h.bm.lenL, if_neg (by omega), hr, if_pos (by simp)] at he
  have := congrArg AlR.err he
  simp at this
 ·right
  refine ⟨he, fun hr => ?_⟩
  unfold roomy16 at hr
  by_cases hsm : small (objSize p d)
  ·rw [if_pos hsm] at hr
   obtain ⟨h1, h2⟩ := hn.cell hsm
   rcases hr with hr | hr
   ·obtain ⟨x, hx⟩ := List.exists_mem_of_length_pos hr
    have := List.count_pos_iff.2 hx
    rw [FL.all_count, h2] at this
    omega
   ·exact absurd hr (sum_noneF.1 h1)
  ·rw [if_neg hsm] at hr
   have hb : 1 ≤ objBlocks (objSize p d) := by unfold objBlocks; rw [if_neg hsm]; omega
   exact (pick_longF hb).1 (hn.run hsm) hr
theorem obs_same {x y : List Ob} (hx : x.Pairwise (fun a b => a.a < b.a)) (hy : y.Pairwise (fun a b => a.a < b.a)) (h : ∀ o, o ∈ x ↔ o ∈ y) : x = y := by
 have hnx : x.Nodup := hx.imp (fun h e => by rw [e] at h; exact Nat.lt_irrefl _ h)
 have hny : y.Nodup := hy.imp (fun h e => by rw [e] at h; exact Nat.lt_irrefl _ h)
 have hp : x.Perm y := (List.perm_ext_iff_of_nodup hnx hny).2 h
 exact hp.eq_of_pairwise (fun a b _ _ h1 h2 => absurd (Nat.lt_trans h1 h2) (Nat.lt_irrefl _)) hx hy
theorem obsOf_pair (m : Al) : (obsOf m).Pairwise (fun a b => a.a < b.a) := List.pairwise_map.2 ((onesL_pair m.used).imp fun h => h)
theorem mem_obsOf {m : Al} {o : Ob} : o ∈ obsOf m ↔ m.used.getD o.a false = true ∧ o = obOf m o.a := by
 unfold obsOf
 rw [List.mem_map]
 constructor
 ·rintro ⟨a, ha, rfl⟩
  exact ⟨mem_onesL.1 ha, rfl⟩
 ·rintro ⟨h1, h2⟩
  exact ⟨o.a, mem_onesL.2 h1, h2.symm⟩
theorem obOf_same {m m' : Al} (h : AlOk B m) (h' : AlOk B m') {x : Nat} (hu : m.used.getD x false = true) (hu' : m'.used.getD x false = true) (he : placedN m'.bm.dev m'.bm.list (x : Int) = placedN m.bm.dev m.bm.list (x : Int)) : obOf m' x = obOf m x := by
 have h1 := obOf_placed h hu
 have h2 := obOf_placed h' hu'
 rw [he, h1] at h2
 have e1 := congrArg Odec.p (Option.some.inj h2)
 have e2 := congrArg Odec.d (Option.some.inj h2)
 dsimp only at e1 e2
 have hx : ∀ (n : Al), obOf n x = ⟨x, (obOf n x).p, (obOf n x).d⟩ := fun _ => rfl
 rw [hx m', hx m, e1, e2]
theorem obs_made {m' : Al} (h : AlOk B m) {a : Nat} {p d : Int} (hm : Made B m m' a p d) {i : Nat} (hi : i ≤ (obsOf m).length) (h1 : ∀ o ∈ (obsOf m).take i, o.a < a) (h2 : ∀ o, (obsOf m)[i]? = some o → a ≤ o.a) :
  obsOf m' = (obsOf m).take i ++ [⟨a, p, d⟩] ++ (obsOf m).drop i := by
 have hd : ∀ o ∈ (obsOf m).drop i, a < o.a := by
  intro o ho
  have hne : o.a ≠ a := fun e => by
   have := (mem_obsOf.1 (List.mem_of_mem_drop ho)).1
   rw [e, hm.new] at this; cases this
  cases hx : (obsOf m)[i]? with
  | none =>
   rw [List.getElem?_eq_none_iff] at hx
   rw [List.drop_of_length_le hx] at ho; cases ho
  | some y =>
   have hy := h2 y hx
   obtain ⟨hil, rfl⟩ := List.getElem?_eq_some_iff.1 hx
   rw [List.drop_eq_getElem_cons hil] at ho
   rcases List.mem_cons.1 ho with rfl | ho
   ·omega
   ·have hp := obsOf_pair m
    rw [← List.take_append_drop i (obsOf m), List.drop_eq_getElem_cons hil] at hp
    have := (List.pairwise_cons.1 (List.pairwise_append.1 hp).2.1).1 o ho
    omega
 have hnew : obOf m' a = ⟨a, p, d⟩ := by
  have h3 := obOf_placed hm.ok hm.isUsed
  rw [hm.placed] at h3
  have e1 := congrArg Odec.p (Option.some.inj h3)
  have e2 := congrArg Odec.d (Option.some.inj h3)
  dsimp only at e1 e2
  have hx : obOf m' a = ⟨a, (obOf m' a).p, (obOf m' a).d⟩ := rfl
  rw [hx, ← e1, ← e2]
 refine obs_same (obsOf_pair m') ?_ fun o => ?_
 ·have hp := obsOf_pair m
  rw [← List.take_append_drop i (obsOf m)] at hp
  obtain ⟨p1, p2, p3⟩ := List.pairwise_append.1 hp
  refine List.pairwise_append.2 ⟨List.pairwise_append.2 ⟨p1, List.pairwise_singleton _ _, fun x hx y hy => ?_⟩, p2, fun x hx y hy => ?_⟩
  ·rw [List.mem_singleton.1 hy]; exact h1 x hx
  ·rcases List.mem_append.1 hx with hx | hx
   ·exact p3 x hx y hy
   ·rw [List.mem_singleton.1 hx]; exact hd y hy
 ·have hmid : ∀ o, o ∈ (obsOf m).take i ++ [⟨a, p, d⟩] ++ (obsOf m).drop i ↔ o ∈ obsOf m ∨ o = ⟨a, p, d⟩ := by
   intro o
   have e : o ∈ obsOf m ↔ o ∈ (obsOf m).take i ∨ o ∈ (obsOf m).drop i := by
    rw [← List.mem_append, List.take_append_drop]
   rw [e, List.mem_append, List.mem_append, List.mem_singleton]
   constructor
   ·rintro ((h | h) | h)
    ·exact .inl (.inl h)
    ·exact .inr h
    ·exact .inl (.inr h)
   ·rintro ((h | h) | h)
    ·exact .inl (.inl h)
    ·exact .inr h
    ·exact .inl (.inr h)
  rw [hmid, mem_obsOf, mem_obsOf]
  by_cases ea : o.a = a
  ·constructor
   ·rintro ⟨_, h4⟩
    right
    rw [h4, ea, hnew]
   ·rintro (⟨h3, _⟩ | rfl)
    ·rw [ea, hm.new] at h3; cases h3
    ·exact ⟨hm.isUsed, hnew.symm⟩
  ·have hu : m'.used.getD o.a false = m.used.getD o.a false := by
    rw [hm.used, getD_set_bool _ _ _ _ hm.lt, if_neg ea]
   rw [hu]
   constructor
   ·rintro ⟨h3, h4⟩
    refine .inl ⟨h3, ?_⟩
    rw [← obOf_same h hm.ok h3 (by rw [hu]; exact h3) (hm.others h h3).2]; exact h4
   ·rintro (⟨h3, h4⟩ | rfl)
    ·refine ⟨h3, ?_⟩
     rw [obOf_same h hm.ok h3 (by rw [hu]; exact h3) (hm.others h h3).2]; exact h4
    ·exact absurd rfl ea
theorem obs_gone {m' : Al} (h : AlOk B m) {a : Nat} (hg : Gone B m m' a) : obsOf m' = (obsOf m).filter (fun o => o.a != a) := by
 refine obs_same (obsOf_pair m') ((obsOf_pair m).sublist List.filter_sublist) fun o => ?_
 rw [List.mem_filter, mem_obsOf, mem_obsOf, hg.used, getD_set_off]
 by_cases e : o.a = a
 ·rw [if_pos e]; simp [e]
 ·rw [if_neg e]
  simp only [bne_iff_ne, ne_eq, e, not_false_eq_true, and_true]
  refine and_congr_right fun hu => ?_
  rw [obOf_same h hg.ok hu (by rw [hg.used, getD_set_off, if_neg e]; exact hu) (hg.keep _ hu e)]
theorem obs_trim {m' : Al} (h : AlOk B m) {b : Nat} (ht : Trimmed B m m' b) : obsOf m' = obsOf m := by
 refine obs_same (obsOf_pair m') (obsOf_pair m) fun o => ?_
 rw [mem_obsOf, mem_obsOf, ht.used]
 refine and_congr_right fun hu => ?_
 rw [obOf_same h ht.ok hu (by rw [ht.used]; exact hu) (ht.keep _ hu)]
theorem trim_free {m' : Al} (h : AlOk B m) {b : Nat} (b1 : 1 ≤ b) (b2 : b < B) (hk : (m.bm.list.getD b default).k = 1) (ht : Trimmed B m m' b) : sumOf (runsOf m'.bm.free) = sumOf (runsOf m.bm.free) + 1 := by
 rw [sum_runs, sum_runs, ht.free]
 show ((m.bm.free).set (b + 0) true).count true = _
 rw [Nat.add_zero]
 refine count_set_true (by rw [h.bm.lenF]; exact b2) ?_
 cases hf : m.bm.free.getD b false with
 | false => rfl
 | true =>
  have := ((h.bm.free b).1 hf).2.2
  rw [hk] at this
  exact absurd this (by decide)
end Go.Proofs.YtbimcogdbafjpaaGreat
namespace Go.Proofs.YtbimcogdbafjpaaGreat
open Go.RowKit
def ObAt (w : World) (A : AF) (v : Value) (xs : List Ob) : Prop := ∃ a k c, v = .slice a k c ∧ xs.length = k ∧ k ≤ c ∧ Cells w a (recs Ob.cs xs) ∧ (∀ p, a = some p → xs ≠ [] → p.block ∉ A.list)
theorem recs_ne {xs : List Ob} (h : xs ≠ []) : ∃ v, (recs Ob.cs xs)[0]? = some v := by
 cases xs with
 | nil => exact absurd rfl h
 | cons x l => exact ⟨.int .i64 (x.a : Int), rfl⟩
theorem Cells.blk {w : World} {p : Addr} {vs : List Value} (h : Cells w (some p) vs) {v : Value} (hv : vs[0]? = some v) : p.block < w.heap.size := by
 rcases h with h | ⟨b, off, e, h⟩
 ·rw [h] at hv; cases hv
 ·cases e
  exact World.block_lt_of_cell? _ _ (h 0 v hv)
theorem ObAt.below {w w' : World} {A : AF} {v : Value} {xs : List Ob} (h : ObAt w A v xs) (hb : Below w.heap.size w w') : ObAt w' A v xs := by
 obtain ⟨a, k, c, h1, h2, h3, h4, h5⟩ := h
 exact ⟨a, k, c, h1, h2, h3, h4.below hb (Nat.le_refl _), h5⟩
theorem ObAt.go {w w' : World} {A : AF} {v : Value} {xs : List Ob} {R' : List Nat} (h : ObAt w A v xs) (ht : Touch A.hot w w') (hr : ∀ b ∈ R', b ∈ A.R ∨ w.heap.size ≤ b) : ObAt w' (A.re R') v xs := by
 obtain ⟨a, k, c, h1, h2, h3, h4, h5⟩ := h
 refine ⟨a, k, c, h1, h2, h3, ?_, fun p hp hx hm => ?_⟩
 ·by_cases hx : xs = []
  ·subst hx; exact .inl rfl
  ·exact h4.touchM ht (fun p hp _ hm => h5 p hp hx (AF.hot_list hm))
 ·obtain ⟨v0, hv0⟩ := recs_ne hx
  subst hp
  have hl := Cells.blk h4 hv0
  rcases AF.re_list hm with c | c
  ·exact h5 p rfl hx c
  ·rcases hr _ c with c | c
   ·exact h5 p rfl hx (by simp [AF.list, c])
   ·omega
theorem ObAt.new {w : World} {A : AF} {v : Value} {xs : List Ob} {base : Nat} (h : OwnOb w base v xs) (hA : ∀ b ∈ A.list, b < base) : ObAt w A v xs := by
 obtain ⟨a, c, rfl, hc, _⟩ := owned_form h
 refine ⟨a, _, c, rfl, rfl, hc, Cells.ownedN h, fun p hp hx hm => ?_⟩
 have h1 := owned_addr h p hp
 have h2 := hA _ hm
 omega
def Played (w : World) (A : AF) (n B N : Nat) : Ending → World → Prop := fun e w' => ∃ (m' : Al) (v' : Value) (R : List Nat),
 e = .returned (.tuple #[v', .bool true]) ∧ AlAt w' (A.re R) n B m' ∧ Touch A.hot w w' ∧ (∀ b ∈ R, b ∈ A.R ∨ w.heap.size ≤ b) ∧ AlOk B m' ∧ m'.bm.dev.ok N ∧ ObAt w' (A.re R) v' (obsOf m') ∧ Snd m'.bm.list
set_option maxHeartbeats 16000000 in
set_option maxRecDepth 100000 in
theorem made16_any {w : World} {A : AF} {n B N : Nat} {m : Al} (h : AlAt w A n B m) (hok : AlOk B m) (hB2 : 2 ≤ B) (hB : B ≤ 16) (hn : n < 900000000000) (hN : N ≤ 900000000) (ho : m.bm.dev.ok N) {v : Value} (hv : ObAt w A v (obsOf m)) (hsn : Snd m.bm.list) (kd mu p d : Int) :
  Calls Tryz.prog 88 #[valloc A, v, .agg #[.int .i64 kd, .int .i64 mu, .int .i64 p, .int .i64 d]] w (Played w A (n + 6) B (N + 600000)) := by
 have HP : Hid (∀ m' v' R w', AlAt w' (A.re R) (n + 6) B m' → Touch A.hot w w' → (∀ b ∈ R, b ∈ A.R ∨ w.heap.size ≤ b) → AlOk B m' → m'.bm.dev.ok (N + 600000) → ObAt w' (A.re R) v' (obsOf m') → Snd m'.bm.list → Played w A (n + 6) B (N + 600000) (.returned (.tuple #[v', .bool true])) w') := LH (fun m' v' R w' h1 h2 h3 h4 h5 h6 h7 => ⟨m', v', R, rfl, h1, h2, h3, h4, h5, h6, h7⟩)
 generalize Played w A (n + 6) B (N + 600000) = Post at *
 have HM := LH (Mem.one w #[.int .i64 kd, .int .i64 mu, .int .i64 p, .int .i64 d] 34)
 have HA0 := LH (h.below HM.out.below)
 have HOb0 := LH (hv.below HM.out.below)
 have HOk := LH hok
 have HSn := LH hsn
 have HSa := LH (snd_alloc hok hsn mu p d)
 have HON := LH ho
 have HAlt := LH h.mem
 obtain ⟨la, lk, lc, rfl, _⟩ := hv
 clear h hok ho hsn
 go_enter Tryz.func88, Tryz.ntmps88
 go_upto_region 1 with fail
 obtain ⟨q, hq⟩ : ∃ q, q = w.heap.size := ⟨_, rfl⟩
 rw [← hq] at HM ⊢
 generalize w.alloc _ = w0 at *
 clear hq
 have d2 := HM.out.cell 0 2 rfl rfl
 have d3 := HM.out.cell 0 3 rfl rfl
 go_upto_region 2 with fail
 have HM1 := LH (HM.out.alloc #[.int .i64 p, .int .i64 d] 38)
 have hba := below_alloc w0 (.cells #[.int .i64 p, .int .i64 d] 38)
 have HA1 := LH (HA0.out.below hba)
 have HOb1 := LH (HOb0.out.below hba)
 clear hba d2 d3
 generalize w0.alloc _ = w1 at *
 obtain ⟨q8, hq8⟩ : ∃ q8, q8 = w0.heap.size := ⟨_, rfl⟩
 rw [← hq8] at HM1 ⊢
 clear hq8 HM HA0 HOb0
 simp only [List.cons_append, List.nil_append] at HM1
 have HCl := LH (fun w => rclass_any p d w)
 have HBl := LH (fun w => roblocks_any p d w)
 have HSz := LH (fun w => rosize_any p d w)
 have HSle := LH (objSize_le p d)
 have HAlloc := LH (fun w' (h : AlAt w' A n B m) => aalloc_any h HOk.out (by omega) (by omega) hn (N := N) hN HON.out mu p d)
 have HOkN := LH (alloc_okN HOk.out.bm.clean.inv HON.out (by rw [HOk.out.bm.lenL]; omega) mu p d)
 have r0 := fun x => later_cell (HM1.out.cell 1 0 rfl rfl) x
 have r1 := fun x => later_cell (HM1.out.cell 1 1 rfl rfl) x
 refine wp_region_seg (C := fun w' => ∃ x : Later (w1), w' = x.val) [.fl [0, 2], .sq [1] true, .sq [3, 4, 5] false] (by kernel_rfl) (by kernel_rfl) (by intro c a d v w h; cases d <;> exact h) ?_
 simp only [segs, picks, List.getElem?_cons_succ, List.getElem?_cons_zero]
 have hC1 := later_drew (w1)
 refine wpSeg_fl hC1 ?_
 repeat (first | go_big_quiet_step (fail) | quiet_step (fail))
 refine wpQuiet_nil ?_
 clear r0 r1
 have HD1 := LH (later_below hC1)
 generalize w1.drew = w2 at *
 refine wpSeg_sq (fun K hK => ?_)
 go_wp2_with fail
 refine (HCl.out _).mono ?_
 rintro e w3 ⟨rfl, hb3⟩
 have hC2 := later_step hC1 hb3
 have HB3 := LH (HD1.out.trans (hb3.mono HD1.out.size))
 clear hb3
 go_wp2_with fail
 refine hK _ _ (fun _ => hC2) ?_
 clear hK K
 refine wpSeg_last ?_
 go_wp2_with fail
 refine (HBl.out _).mono ?_
 rintro e w4 ⟨rfl, hb4⟩
 have hb14 := HB3.out.trans (hb4.mono HB3.out.size)
 have HM4 := LH (HM1.out.later hb14)
 have HA4 := LH (HA1.out.below hb14)
 have HOb4 := LH (HOb1.out.below hb14)
 clear hb4 hb14 hC1 hC2 HB3 HD1 HM1 HA1 HOb1 HCl HBl
 obtain ⟨sz, hsz⟩ : ∃ sz, sz = objSize p d := ⟨_, rfl⟩
 rw [← hsz] at HSz HSle ⊢
 have HSzE := LH hsz
 clear hsz
 go_upto_region 3 with fail
 go_cut [9, 10, 11] from 15 (fun kv nv rv wc => ∃ (kc nc : Int) (rb : Bool), kv = .int .i64 kc ∧ nv = .int .i64 nc ∧ rv = .bool rb ∧ Hid (rb = true ↔ 1 ≤ sz ∧ roomy16 m sz) ∧ Hid (Below w4.heap.size w4 wc))
 case first =>
  by_cases hsm : small sz
  ·have hk := ofN_lt hsm
   have hb0 : objBlocks sz = 0 := by unfold objBlocks; rw [if_pos hsm]
   have HR : Hid (1 ≤ sz ∧ roomy16 m sz ↔ (0 < (m.fl.all (ofN (sz : Nat))).length ∨ 0 < sumOf (runsOf m.bm.free))) := LH (by
    unfold roomy16
    rw [if_pos hsm]
    unfold small at hsm
    exact ⟨fun h => h.2, fun h => ⟨by omega, h⟩⟩)
   rw [rofN_small _ hsm, hb0]
   clear hsm hb0
   generalize ofN (sz : Int) = k at *
   have hk0 : (0 : Int) ≤ (k : Int) := by omega
   have HFc := LH (afreeCells_any HA4.out (HOk.out.upto.mono (by omega)) k hk)
   have HBs := LH (fun w' (h : AlAt w' A n B m) => bfree_any h.man (by omega))
   have c0 := HA4.out.c0
   go_wp2_with fail
   refine HFc.out.mono ?_
   rintro e w5 ⟨v5, ys, rfl, ho5, _, hc5, _, hb5⟩
   have HYl : Hid (ys.length = (m.fl.all k).length) := LH ((List.perm_iff_count.2 (fun a => by rw [hc5, FL.all_count])).length_eq)
   obtain ⟨a5, c5, rfl, _⟩ := ho5.cells
   have HB5 := LH hb5
   have HA5 := LH (HA4.out.below hb5)
   obtain ⟨yl, hyl⟩ : ∃ yl, yl = ys.length := ⟨_, rfl⟩
   rw [← hyl] at HYl ⊢
   clear ho5 hc5 hb5 HFc c0 hyl
   by_cases hl : 0 < yl
   ·have hlI : (0 : Int) < (yl : Int) := by omega
    have HRes : Hid (true = true ↔ 1 ≤ sz ∧ roomy16 m sz) := LH ⟨fun _ => HR.out.2 (.inl (by rw [← HYl.out]; exact hl)), fun _ => rfl⟩
    clear HR
    go_wp2_with fail
    go_meet
    exact ⟨_, _, true, rfl, rfl, rfl, LH (by simpa using HRes.out), HB5⟩
   ·have hlI : ¬ (0 : Int) < (yl : Int) := by omega
    have c0 := HA5.out.c0
    have HBs5 := LH (HBs.out _ HA5.out)
    have hz : yl = 0 := by omega
    subst hz
    obtain ⟨sm, hsm⟩ : ∃ sm, sm = sumOf (runsOf m.bm.free) := ⟨_, rfl⟩
    rw [← hsm] at HBs5 HR
    clear hl hlI hsm
    go_wp2_with fail
    refine HBs5.out.mono ?_
    rintro e w6 ⟨rfl, hb6⟩
    have HB6 := LH (HB5.out.trans (hb6.mono HB5.out.size))
    clear hb6
    by_cases hs : 0 < sm
    ·have hsI : (0 : Int) < (sm : Int) := by omega
     have HRes : Hid (true = true ↔ 1 ≤ sz ∧ roomy16 m sz) := LH ⟨fun _ => HR.out.2 (.inr hs), fun _ => rfl⟩
     clear HR
     go_wp2_with fail
     go_meet
     exact ⟨_, _, true, rfl, rfl, rfl, LH (by simpa using HRes.out), HB6⟩
    ·have hsI : ¬ (0 : Int) < (sm : Int) := by omega
     have HRes : Hid (false = true ↔ 1 ≤ sz ∧ roomy16 m sz) := LH ⟨fun h => (by cases h), fun h => by
      rcases HR.out.1 h with h | h
      ·rw [← HYl.out] at h; exact absurd h (by omega)
      ·exact absurd h hs⟩
     clear HR
     go_wp2_with fail
     go_meet
     exact ⟨_, _, false, rfl, rfl, rfl, LH (by simpa using HRes.out), HB6⟩
  ·rw [rofN_large _ hsm]
   have HR : Hid (1 ≤ sz ∧ roomy16 m sz ↔ (1 ≤ objBlocks sz ∧ objBlocks sz ≤ longOf (runsOf m.bm.free))) := LH (by
    unfold roomy16
    rw [if_neg hsm]
    have : 1 ≤ sz ↔ 1 ≤ objBlocks sz := by unfold objBlocks; rw [if_neg hsm]; omega
    rw [this])
   clear hsm
   generalize objBlocks sz = nb at *
   by_cases hnb : nb = 0
   ·subst hnb
    have HRes : Hid (false = true ↔ 1 ≤ sz ∧ roomy16 m sz) := LH ⟨fun h => (by cases h), fun h => by have := (HR.out.1 h).1; omega⟩
    clear HR
    go_wp2_with fail
    go_meet
    exact ⟨_, _, false, rfl, rfl, rfl, LH (by simpa using HRes.out), LH (Below.refl _ _)⟩
   ·have hnbI : (0 : Int) < (nb : Int) := by omega
    have HLo := LH (blongest_any HA4.out.man (by omega))
    have c0 := HA4.out.c0
    obtain ⟨lg, hlg⟩ : ∃ lg, lg = longOf (runsOf m.bm.free) := ⟨_, rfl⟩
    rw [← hlg] at HLo HR
    clear hlg
    go_wp2_with fail
    refine HLo.out.mono ?_
    rintro e w5 ⟨rfl, hb5⟩
    have HB5 := LH hb5
    clear hb5 c0 HLo
    by_cases hge : nb ≤ lg
    ·have hgeI : (nb : Int) ≤ (lg : Int) := by omega
     have HRes : Hid (true = true ↔ 1 ≤ sz ∧ roomy16 m sz) := LH ⟨fun _ => HR.out.2 ⟨by omega, hge⟩, fun _ => rfl⟩
     clear HR
     go_wp2_with fail
     go_meet
     exact ⟨_, _, true, rfl, rfl, rfl, LH (by simpa using HRes.out), HB5⟩
    ·have hgeI : ¬ (nb : Int) ≤ (lg : Int) := by omega
     have HRes : Hid (false = true ↔ 1 ≤ sz ∧ roomy16 m sz) := LH ⟨fun h => (by cases h), fun h => absurd (HR.out.1 h).2 hge⟩
     clear HR
     go_wp2_with fail
     go_meet
     exact ⟨_, _, false, rfl, rfl, rfl, LH (by simpa using HRes.out), HB5⟩
 case rest =>
  obtain ⟨kc, nc, rb, rfl, rfl, rfl, HRb, HBc⟩ := hcut
  have HMc := LH (HM4.out.later HBc.out)
  have HAc := LH (HA4.out.below HBc.out)
  have HObc := LH (HOb4.out.below HBc.out)
  have HWc := LH HMc.out.below
  clear HM4 HA4 HOb4 HBc
  obtain ⟨r, hr⟩ : ∃ r, r = m.alloc mu p d := ⟨_, rfl⟩
  have HAl := LH (HAlloc.out wc HAc.out)
  rw [← hr] at HAl HOkN HSa
  have HRe := LH hr
  clear hr HAlloc
  obtain ⟨al, at_, er⟩ := r
  dsimp only at HOkN HSa
  have d1 := HMc.out.cell 0 1 rfl rfl
  have d2 := HMc.out.cell 0 2 rfl rfl
  have d3 := HMc.out.cell 0 3 rfl rfl
  go_wp2_with fail
  refine HAl.out.mono ?_
  rintro e w5 ⟨rfl, R5, ha5, ht5, hr5⟩
  dsimp only at ha5 ht5 hr5 ⊢
  have HA5 := LH ha5
  have HT5 := LH ht5
  have HR5 := LH hr5
  have HOb5 := LH (HObc.out.go ht5 hr5)
  have HMq : Hid (MemR w.heap.size w5 [⟨q, 34, [.int .i64 kd, .int .i64 mu, .int .i64 p, .int .i64 d], true⟩, ⟨q8, 38, [.int .i64 p, .int .i64 d], true⟩]) := LH (HMc.out.r.apart ht5 (fun x hx hm => by have h1 := HMc.out.base x hx; have h2 := HAlt.out _ (AF.hot_list hm); omega))
  clear ha5 ht5 hr5 d1 d2 d3 HAl
  have HTw : Hid (Touch A.hot w w5) := LH ((Touch.ofBelow HWc.out).trans HT5.out)
  have HRw : Hid (∀ b ∈ R5, b ∈ A.R ∨ w.heap.size ≤ b) := LH (fun b hb => (HR5.out b hb).imp id (fun c => Nat.le_trans HWc.out.size c))
  have hw5 : Hid (w.heap.size ≤ w5.heap.size) := LH HTw.out.size
  clear HT5 HR5 HMc HAc HObc HWc
  have d1 := HMq.out.cell 0 1 rfl rfl
  by_cases hmu : mu < 0 ∨ 3 < mu
  ·obtain ⟨rfl, rfl, rfl⟩ : al = m ∧ at_ = 0 ∧ er = 1 := by
    have h1 := HRe.out
    unfold Al.alloc at h1
    rw [if_pos (by omega)] at h1
    exact ⟨congrArg AlR.al h1, congrArg AlR.a h1, congrArg AlR.err h1⟩
   have HFin := LH (HP.out _ _ R5 w5 HA5.out HTw.out HRw.out HOk.out (HON.out.mono (by omega)) HOb5.out HSn.out)
   rcases hmu with hmu | hmu
   ·go_wp2_with fail
    exact HFin.out
   ·have hmu0 : ¬ mu < 0 := by omega
    go_wp2_with fail
    exact HFin.out
  have hmu0 : ¬ mu < 0 := by omega
  have hmu3 : ¬ 3 < mu := by omega
  go_upto_region 7 with fail
  have e0 := HMq.out.cell 1 0 rfl rfl
  have e1 := HMq.out.cell 1 1 rfl rfl
  have HLen := LH (fun w' (h : AlAt w' (A.re R5) (n + 6) B al) => tlen_any h.man.tab)
  by_cases hz : sz = 0
  ·obtain ⟨rfl, rfl, rfl⟩ : al = m ∧ at_ = 0 ∧ er = 5 := by
    have h1 := HRe.out
    unfold Al.alloc at h1
    rw [if_neg (by omega), ← HSzE.out, if_pos (.inl hz)] at h1
    exact ⟨congrArg AlR.al h1, congrArg AlR.a h1, congrArg AlR.err h1⟩
   subst hz
   have r0 := fun x => later_cell e0 x
   have r1 := fun x => later_cell e1 x
   have f0 := r0 ⟨w5.drew, later_below (later_drew w5)⟩
   have f1 := r1 ⟨w5.drew, later_below (later_drew w5)⟩
   dsimp only at f0 f1
   refine wp_region_seg (C := fun w' => ∃ x : Later (w5), w' = x.val) [.sq [0, 1, 2, 3] false, .fl [4, 6, 7, 8, 9, 10, 11, 12], .sq [5] true, .sq [13, 14, 15, 16, 17, 18] false] (by kernel_rfl) (by kernel_rfl) (by intro c a d v w h; cases d <;> exact h) ?_
   simp only [segs, picks, List.getElem?_cons_succ, List.getElem?_cons_zero]
   have hC1 := later_drew (w5)
   refine wpSeg_sq (fun K hK => ?_)
   go_wp2_with fail
   refine (HSz.out _).mono ?_
   rintro e w6 ⟨rfl, hb6⟩
   have hC2 := later_step hC1 hb6
   have HB6 := LH (later_below hC2)
   clear hb6
   go_wp2_with fail
   refine hK _ _ (fun h => nomatch h) ?_
   clear hK K
   refine wpSeg_fl hC2 ?_
   repeat (first | go_big_quiet_step (fail) | quiet_step (fail))
   refine wpQuiet_nil ?_
   refine wpSeg_sq (fun K hK => ?_)
   go_wp2_with fail
   go_wp2_with fail
   refine hK _ _ (fun _ => hC2) ?_
   clear hK K
   clear r0 r1 f0 f1 hC1 hC2 e0 e1 d1
   have HFin := LH (HP.out _ _ R5 w6 (HA5.out.below HB6.out) (HTw.out.later HB6.out) HRw.out HOk.out (HON.out.mono (by omega)) (HOb5.out.below HB6.out) HSn.out)
   refine wpSeg_last ?_
   go_wp2_with fail
   exact HFin.out
  have hzI : ((sz : Int) == 0) = false := by simpa using hz
  have cA := HA5.out.c0
  change w5.cell? ⟨A.a, 0, none⟩ = some (.pointer (some ⟨A.X.m, 0, none⟩)) at cA
  have cM := HA5.out.man.c0
  change w5.cell? ⟨A.X.m, 0, none⟩ = some (.pointer (some ⟨A.X.t, 0, none⟩)) at cM
  by_cases hbig : 512 * ((B : Int) - 1) < (sz : Int)
  ·obtain ⟨rfl, rfl, rfl⟩ : al = m ∧ at_ = 0 ∧ er = 5 := by
    have h1 := HRe.out
    unfold Al.alloc at h1
    rw [if_neg (by omega), ← HSzE.out, HOk.out.bm.lenL, if_pos (.inr hbig)] at h1
    exact ⟨congrArg AlR.al h1, congrArg AlR.a h1, congrArg AlR.err h1⟩
   have r0 := fun x => later_cell e0 x
   have r1 := fun x => later_cell e1 x
   have r2 := fun x => later_cell cA x
   have r3 := fun x => later_cell cM x
   have f0 := r0 ⟨w5.drew, later_below (later_drew w5)⟩
   have f1 := r1 ⟨w5.drew, later_below (later_drew w5)⟩
   dsimp only at f0 f1
   refine wp_region_seg (C := fun w' => ∃ x : Later (w5), w' = x.val) [.sq [0, 1, 2, 3] false, .fl [4, 6, 7, 8, 9, 10, 11, 12], .sq [5] true, .sq [13, 14, 15, 16, 17, 18] false] (by kernel_rfl) (by kernel_rfl) (by intro c a d v w h; cases d <;> exact h) ?_
   simp only [segs, picks, List.getElem?_cons_succ, List.getElem?_cons_zero]
   have hC1 := later_drew (w5)
   refine wpSeg_sq (fun K hK => ?_)
   go_wp2_with fail
   refine (HSz.out _).mono ?_
   rintro e w6 ⟨rfl, hb6⟩
   have hC2 := later_step hC1 hb6
   clear hb6
   go_wp2_with fail
   refine hK _ _ (fun h => nomatch h) ?_
   clear hK K
   refine wpSeg_fl hC2 ?_
   repeat (first | go_big_quiet_step (fail) | quiet_step (fail))
   refine wpQuiet_nil ?_
   refine wpSeg_sq (fun K hK => ?_)
   go_wp2_with fail
   refine (HSz.out _).mono ?_
   rintro e w7 ⟨rfl, hb7⟩
   have hC3 := later_step hC2 hb7
   have HB7 := LH (later_below hC3)
   have HLn := LH (HLen.out _ (HA5.out.below HB7.out))
   clear hb7
   go_wp2_with fail
   refine hK _ _ (fun _ => hC3) ?_
   clear hK K
   clear r0 r1 r2 r3 f0 f1 hC1 hC2 hC3 e0 e1 d1 cA cM
   have HFin := LH (HP.out _ _ R5 w7 (HA5.out.below HB7.out) (HTw.out.later HB7.out) HRw.out HOk.out (HON.out.mono (by omega)) (HOb5.out.below HB7.out) HSn.out)
   refine wpSeg_last ?_
   go_wp2_with fail
   refine HLn.out.mono ?_
   rintro e w8 ⟨rfl, rfl⟩
   go_wp2_with fail
   exact HFin.out
  have hroom := alloc_room HOk.out (by omega) (mu := mu) (p := p) (d := d) (by omega) (by omega) (by rw [← HSzE.out]; exact hz) (by rw [← HSzE.out]; omega)
  rw [← HRe.out, ← HSzE.out] at hroom
  rcases hroom with ⟨m', a, hre, hmd, hrm⟩ | ⟨hre, hrm⟩
  case inr =>
   obtain ⟨rfl, rfl, rfl⟩ : al = m ∧ at_ = 0 ∧ er = 4 := ⟨congrArg AlR.al hre, congrArg AlR.a hre, congrArg AlR.err hre⟩
   obtain rfl : rb = false := by
    cases rb with
    | false => rfl
    | true => exact absurd (HRb.out.1 rfl).2 hrm
   clear hre hrm HRb
   have r0 := fun x => later_cell e0 x
   have r1 := fun x => later_cell e1 x
   have r2 := fun x => later_cell cA x
   have r3 := fun x => later_cell cM x
   have f0 := r0 ⟨w5.drew, later_below (later_drew w5)⟩
   have f1 := r1 ⟨w5.drew, later_below (later_drew w5)⟩
   dsimp only at f0 f1
   refine wp_region_seg (C := fun w' => ∃ x : Later (w5), w' = x.val) [.sq [0, 1, 2, 3] false, .fl [4, 6, 7, 8, 9, 10, 11, 12], .sq [5] true, .sq [13, 14, 15, 16, 17, 18] false] (by kernel_rfl) (by kernel_rfl) (by intro c a d v w h; cases d <;> exact h) ?_
   simp only [segs, picks, List.getElem?_cons_succ, List.getElem?_cons_zero]
   have hC1 := later_drew (w5)
   refine wpSeg_sq (fun K hK => ?_)
   go_wp2_with fail
   refine (HSz.out _).mono ?_
   rintro e w6 ⟨rfl, hb6⟩
   have hC2 := later_step hC1 hb6
   clear hb6
   go_wp2_with fail
   refine hK _ _ (fun h => nomatch h) ?_
   clear hK K
   refine wpSeg_fl hC2 ?_
   repeat (first | go_big_quiet_step (fail) | quiet_step (fail))
   refine wpQuiet_nil ?_
   refine wpSeg_sq (fun K hK => ?_)
   go_wp2_with fail
   refine (HSz.out _).mono ?_
   rintro e w7 ⟨rfl, hb7⟩
   have hC3 := later_step hC2 hb7
   have HB7 := LH (later_below hC3)
   have HLn := LH (HLen.out _ (HA5.out.below HB7.out))
   clear hb7
   go_wp2_with fail
   refine hK _ _ (fun _ => hC3) ?_
   clear hK K
   clear r0 r1 r2 r3 f0 f1 hC1 hC2 hC3 e0 e1 d1 cA cM
   have HFin := LH (HP.out _ _ R5 w7 (HA5.out.below HB7.out) (HTw.out.later HB7.out) HRw.out HOk.out (HON.out.mono (by omega)) (HOb5.out.below HB7.out) HSn.out)
   refine wpSeg_last ?_
   go_wp2_with fail
   refine HLn.out.mono ?_
   rintro e w8 ⟨rfl, rfl⟩
   go_wp2_with fail
   exact HFin.out
  case inl =>
   obtain ⟨rfl, rfl, rfl⟩ : al = m' ∧ at_ = (a : Int) ∧ er = 0 := ⟨congrArg AlR.al hre, congrArg AlR.a hre, congrArg AlR.err hre⟩
   obtain rfl : rb = true := HRb.out.2 ⟨by omega, hrm⟩
   have HMd := LH hmd
   clear hre hrm hmd HRb
   have r0 := fun x => later_cell e0 x
   have r1 := fun x => later_cell e1 x
   have r2 := fun x => later_cell cA x
   have r3 := fun x => later_cell cM x
   have f0 := r0 ⟨w5.drew, later_below (later_drew w5)⟩
   have f1 := r1 ⟨w5.drew, later_below (later_drew w5)⟩
   dsimp only at f0 f1
   refine wp_region_seg (C := fun w' => ∃ x : Later (w5), w' = x.val) [.sq [0, 1, 2, 3] false, .fl [4, 6, 7, 8, 9, 10, 11, 12], .sq [5] true, .sq [13, 14, 15, 16, 17, 18] false] (by kernel_rfl) (by kernel_rfl) (by intro c a d v w h; cases d <;> exact h) ?_
   simp only [segs, picks, List.getElem?_cons_succ, List.getElem?_cons_zero]
   have hC1 := later_drew (w5)
   refine wpSeg_sq (fun K hK => ?_)
   go_wp2_with fail
   refine (HSz.out _).mono ?_
   rintro e w6 ⟨rfl, hb6⟩
   have hC2 := later_step hC1 hb6
   clear hb6
   go_wp2_with fail
   refine hK _ _ (fun h => nomatch h) ?_
   clear hK K
   refine wpSeg_fl hC2 ?_
   repeat (first | go_big_quiet_step (fail) | quiet_step (fail))
   refine wpQuiet_nil ?_
   refine wpSeg_sq (fun K hK => ?_)
   go_wp2_with fail
   refine (HSz.out _).mono ?_
   rintro e w7 ⟨rfl, hb7⟩
   have hC3 := later_step hC2 hb7
   have HB7 := LH (later_below hC3)
   have HLn := LH (HLen.out _ (HA5.out.below HB7.out))
   clear hb7
   go_wp2_with fail
   refine hK _ _ (fun _ => hC3) ?_
   clear hK K
   clear r0 r1 r2 r3 f0 f1 hC1 hC2 hC3 e0 e1 d1 cA cM
   have HA7 := LH (HA5.out.below HB7.out)
   have HOb7 := LH (HOb5.out.below HB7.out)
   have HT7 := LH (HTw.out.later HB7.out)
   have HM7 := LH (HMq.out.later HB7.out)
   clear HA5 HOb5 HTw HMq HB7
   obtain ⟨oa, ok, oc, heo, hok1, hok2, hok3, hok4⟩ := HOb7.out
   injection heo with g1 g2 g3
   subst g1 g2 g3
   have hk9 : lk ≤ 100000 := by
    rw [← hok1]
    unfold obsOf
    rw [List.length_map, onesL_length]
    have := count_le_len m.used
    rw [HOk.out.lenU] at this
    omega
   have HHas := LH (has16_any la lk lc (obsOf m) hok1 hok3 (by omega) (a : Int))
   have HNo : Hid (∀ r : Int, (0 ≤ r ↔ ∃ o ∈ obsOf m, (o.a : Int) = (a : Int)) → ¬ 0 ≤ r) := LH (fun r hr h => by
    obtain ⟨o, h1, h2⟩ := hr.1 h
    have h3 := (mem_obsOf.1 h1).1
    have : o.a = a := by omega
    rw [this, HMd.out.new] at h3
    cases h3)
   have HC7 := LH hok3
   have HLk := LH hok1
   clear hok1 hok3 hok4
   refine wpSeg_last ?_
   go_wp2_with fail
   refine HLn.out.mono ?_
   rintro e w8 ⟨rfl, rfl⟩
   go_wp2_with fail
   refine HHas.out.mono ?_
   rintro e w8 ⟨hr, rfl, hiff, rfl⟩
   have hneg := HNo.out hr hiff
   clear hiff HHas HNo HLn
   go_wp2_with fail
   have ha9 : a < 8192 := by
    have h1 := HMd.out.lt
    rw [HOk.out.lenU] at h1
    omega
   have hsz1 : 1 ≤ sz := by omega
   go_loopw [14] (fun iv wr => ∃ i : Nat, 1 ≤ i ∧ i ≤ sz ∧ iv = .int .i64 (i : Int) ∧ Hid (Below w8.heap.size w8 wr)) (fun iv _ => sz - (intOf iv).toNat)
   case atStart => exact ⟨1, by omega, by omega, rfl, LH (Below.refl _ _)⟩
   case round =>
    obtain ⟨i, hi1, hi2, rfl, HBl⟩ := hrel
    have HMr := LH (HM7.out.later HBl.out)
    have e0 := HMr.out.cell 1 0 rfl rfl
    have e1 := HMr.out.cell 1 1 rfl rfl
    go_wp2_with fail
    refine (HSz.out _).mono ?_
    rintro e w9 ⟨rfl, hb9⟩
    have HB9 := LH (HBl.out.trans (hb9.mono HBl.out.size))
    have HA9 := LH (HA7.out.below HB9.out)
    clear hb9 e0 e1 HMr
    by_cases hlt : i < sz
    ·have hltI : (i : Int) < (sz : Int) := by omega
     have HDv := LH (adev_any HA9.out)
     have HGt := LH (dget_any HA9.out.man.dev ((a : Int) + (i : Int)))
     have hpk : peek al.bm.dev.cache ((a : Int) + (i : Int)) = 0 := by
      rw [← Int.natCast_add, peek_in]
      exact HMd.out.zero i hi1 (by rw [← HSzE.out]; exact hlt)
     rw [hpk] at HGt
     clear hpk
     go_wp2_with fail
     refine HDv.out.mono ?_
     rintro e w10 ⟨rfl, rfl⟩
     go_wp2_with fail
     refine HGt.out.mono ?_
     rintro e w10 ⟨rfl, rfl⟩
     go_wp2_with fail
     go_roundw
     case rel => exact ⟨i + 1, by omega, by omega, vint (by omega), HB9⟩
     case measure => simp [intOf]; omega
    ·obtain rfl : i = sz := by omega
     have hni : ¬ (i : Int) < (i : Int) := by omega
     have HM9 := LH (HM7.out.later HB9.out)
     have e0 := HM9.out.cell 1 0 rfl rfl
     have e1 := HM9.out.cell 1 1 rfl rfl
     have HIns := LH (insert16_any la lk lc (obsOf m) HLk.out hok2 (HC7.out.below HB9.out (Nat.le_refl _)) (by omega) ⟨a, p, d⟩)
     have HUsd := LH (fun w' (h : AlAt w' (A.re R5) (n + 6) B al) => aused_any h (a : Int))
     rw [hasI_nat, HMd.out.isUsed] at HUsd
     have HTT := LH (HT7.out.later HB9.out)
     go_wp2_with fail
     refine HIns.out.mono ?_
     rintro e w10 ⟨j, hj1, hj2, hj3, v10, rfl, ho10, hb10⟩
     have hob := obs_made HOk.out HMd.out hj1 hj2 hj3
     rw [← hob] at ho10
     have HOb10 := LH (ObAt.new (A := A.re R5) ho10 HA9.out.mem)
     have HA10 := LH (HA9.out.below hb10)
     have HFin := LH (HP.out al v10 R5 w10 HA10.out (HTT.out.later hb10) HRw.out HMd.out.ok HOkN.out HOb10.out HSa.out)
     have HU10 := LH (HUsd.out _ HA10.out)
     clear hj1 hj2 hj3 ho10 hb10 hob HIns
     go_wp2_with fail
     refine HU10.out.mono ?_
     rintro e w11 ⟨rfl, rfl⟩
     go_wp2_with fail
     exact HFin.out
theorem fieldKind (k c l : Int) (w : World) : (Instr.field 104 (.agg #[.int .i64 k, .int .i64 c, .int .i64 l]) 0).run Tryz.prog w = .ok (.int .i64 k) w := by
 have h1 := Tryz.isAgg3
 simp [Instr.field, run_underlying Tryz.underlying104, part, asAgg, h1, Sem.run_bind, Result.andThen, go_sem]
section
variable {C : World → Prop} {ops : Array Oper} {rest : List Oper} {o : Oper} {a : Act} {Q : Act → Prop}
end
theorem sum_runsTo_le (f : Nat → Bool) (L : Nat) : sumOf (runsTo f L) ≤ L := by
 rw [sum_count]
 have := List.length_filter_le f (List.range L)
 rw [List.length_range] at this
 exact this
theorem OwnOb.len {w : World} {base : Nat} {v : Value} {xs : List Ob} (h : OwnOb w base v xs) : ∃ a c, v = .slice a xs.length c := by
 obtain ⟨a, c, rfl, _⟩ := owned_form h
 exact ⟨a, c, rfl⟩
set_option maxHeartbeats 16000000 in
set_option maxRecDepth 100000 in
theorem do16_any {w : World} {A : AF} {n B N : Nat} {m : Al} (h : AlAt w A n B m) (hok : AlOk B m) (hB2 : 2 ≤ B) (hB : B ≤ 16) (hn : n < 900000000000) (hN : N ≤ 900000000) (ho : m.bm.dev.ok N) {v : Value} (hv : ObAt w A v (obsOf m)) (hsn : Snd m.bm.list) (kd mu p d : Int) (hp : In64 p) :
  Calls Tryz.prog 14 #[valloc A, v, .agg #[.int .i64 kd, .int .i64 mu, .int .i64 p, .int .i64 d]] w (Played w A (n + 6) B (N + 600000)) := by
 have HP : Hid (∀ m' v' R w', AlAt w' (A.re R) (n + 6) B m' → Touch A.hot w w' → (∀ b ∈ R, b ∈ A.R ∨ w.heap.size ≤ b) → AlOk B m' → m'.bm.dev.ok (N + 600000) → ObAt w' (A.re R) v' (obsOf m') → Snd m'.bm.list → Played w A (n + 6) B (N + 600000) (.returned (.tuple #[v', .bool true])) w') := LH (fun m' v' R w' h1 h2 h3 h4 h5 h6 h7 => ⟨m', v', R, rfl, h1, h2, h3, h4, h5, h6, h7⟩)
 have HPe : Hid (∀ e w1 w', Below w.heap.size w w1 → Played w1 A (n + 6) B (N + 600000) e w' → Played w A (n + 6) B (N + 600000) e w') := LH (fun e w1 w' hb ⟨m', v', R, h1, h2, h3, h4, h5, h6, h7, h8⟩ => ⟨m', v', R, h1, h2, (Touch.ofBelow hb).trans h3, fun b hb' => (h4 b hb').imp id (fun c => Nat.le_trans hb.size c), h5, h6, h7, h8⟩)
 have HPf : Hid (∀ w1 e w', Played w1 A (n + 6) B (N + 600000) e w' → ∃ v' : Value, e = .returned (.tuple #[v', .bool true])) := LH (fun w1 e w' ⟨m', v', R, h1, _⟩ => ⟨v', h1⟩)
 have HM := LH (Mem.one w #[.int .i64 kd, .int .i64 mu, .int .i64 p, .int .i64 d] 34)
 have HA0 := LH (h.below HM.out.below)
 have HOb0 := LH (hv.below HM.out.below)
 have HOk := LH hok
 have HON := LH ho
 have HAlt := LH h.mem
 have HW0 := LH HM.out.below
 have HSn := LH hsn
 have HMade := LH (fun w' (h : AlAt w' A n B m) (hv : ObAt w' A v (obsOf m)) => made16_any h HOk.out hB2 hB hn hN HON.out hv HSn.out kd mu p d)
 generalize hPo : Played w A (n + 6) B (N + 600000) = Post at *
 have HPo := LH hPo
 clear hPo
 obtain ⟨la, lk, lc, rfl, hk1, hk2, hk3, hk4⟩ := hv
 have HLk := LH hk1
 have HC0 := LH (hk3.below HM.out.below (Nat.le_refl _))
 have hk9 : lk ≤ 100000 := by
  rw [← hk1]
  unfold obsOf
  rw [List.length_map, onesL_length]
  have := count_le_len m.used
  rw [HOk.out.lenU] at this
  omega
 clear h hok ho hk1 hk3 hk4 hsn
 go_enter Tryz.func14, Tryz.ntmps14
 go_upto_region 1 with fail
 obtain ⟨q, hq⟩ : ∃ q, q = w.heap.size := ⟨_, rfl⟩
 rw [← hq] at HM ⊢
 generalize w.alloc _ = w0 at *
 clear hq
 have d0 := HM.out.cell 0 0 rfl rfl
 have d1 := HM.out.cell 0 1 rfl rfl
 have d2 := HM.out.cell 0 2 rfl rfl
 have d3 := HM.out.cell 0 3 rfl rfl
 have HStay : Hid (∀ w', Below w0.heap.size w0 w' → Post (.returned (.tuple #[.slice la lk lc, .bool true])) w') := LH (fun w' hb => HP.out m _ A.R w' ((HA0.out.below hb).mono (by omega)) ((Touch.ofBelow HW0.out).later hb) (fun b h => .inl h) HOk.out (HON.out.mono (by omega)) (HOb0.out.below hb) HSn.out)
 by_cases h0 : kd = 0
 ·subst h0
  have HMd := LH (HMade.out _ HA0.out HOb0.out)
  have HF : Hid (∀ e w', Played w0 A (n + 6) B (N + 600000) e w' → Post e w') := LH (fun e w' h => HPe.out e w0 w' HW0.out h)
  go_wp2_with fail
  refine HMd.out.mono ?_
  intro e w1 h1
  obtain ⟨v', rfl⟩ := HPf.out _ _ _ h1
  have H1 := LH (HF.out _ _ h1)
  clear h1 HMd
  go_wp2_with fail
  exact H1.out
 by_cases h1 : kd = 1
 ·subst h1
  by_cases hz : lk = 0
  ·have hzI : ((lk : Int) == 0) = true := by simp [hz]
   subst hz
   go_wp2_with fail
   exact HStay.out _ (Below.refl _ _)
  have hzI : ((lk : Int) == 0) = false := by simpa using hz
  have hz3 : ¬ (lk : Int) = 0 := by omega
  obtain ⟨t, ht⟩ : ∃ t, p.tmod (lk : Int) = t := ⟨_, rfl⟩
  have ht1 : t < (lk : Int) := by rw [← ht]; exact Int.tmod_lt_of_pos p (by omega)
  have ht2 : -(lk : Int) < t := by
   rw [← ht]
   have h1 := Int.tmod_lt_of_pos (-p) (show (0 : Int) < (lk : Int) by omega)
   rw [Int.neg_tmod] at h1
   omega
  obtain ⟨j, hj⟩ : ∃ j : Nat, (t + (lk : Int)).tmod (lk : Int) = (j : Int) := by
   obtain ⟨j, hj⟩ := Int.eq_ofNat_of_zero_le (Int.tmod_nonneg (lk : Int) (show (0 : Int) ≤ t + (lk : Int) by omega))
   exact ⟨j, hj⟩
  have hjl : j < lk := by
   have := Int.tmod_lt_of_pos (t + (lk : Int)) (show (0 : Int) < (lk : Int) by omega)
   omega
  obtain ⟨o, ho⟩ : ∃ o, (obsOf m)[j]? = some o := ⟨_, List.getElem?_eq_getElem (by rw [HLk.out]; exact hjl)⟩
  have HUs : Hid (m.used.getD o.a false = true) := LH (mem_obsOf.1 (List.mem_of_getElem? ho)).1
  obtain ⟨bb, bo, rfl, c0, _, _⟩ := ob_cells HC0.out ho
  obtain ⟨oa, op, od⟩ := o
  dsimp only at HUs c0
  clear ho
  have hjI : (j : Int) < (lk : Int) := by omega
  go_upto_region 9 with fail
  clear c0 ht hj
  have hqn : q ∉ A.hot := fun hm => by have h1 := HM.out.gbase 0 rfl; have h2 := HAlt.out _ (AF.hot_list hm); omega
  have r1 := fun x => near_cell (L := A.hot) d1 hqn x
  have hC1 : ∃ x : Near A.hot w0, w0.drew = x.val := near_of (Touch.ofBelow (later_below (later_drew w0)))
  have HD1 : Hid (Below w0.heap.size w0 w0.drew) := LH (later_below (later_drew w0))
  clear hqn d0 d1 d2 d3
  refine wp_region_seg (C := fun w' => ∃ x : Near A.hot w0, w' = x.val) [.fl [0, 1, 3, 4, 5, 6], .sq [2] true, .sq [7] false, .fl [8, 9], .sq [10] false] (by kernel_rfl) (by kernel_rfl) (by intro c a d v w h; cases d <;> exact h) ?_
  simp only [segs, picks, List.getElem?_cons_succ, List.getElem?_cons_zero]
  refine wpSeg_fl hC1 ?_
  repeat (first | go_big_quiet_step (fail) | quiet_step (fail))
  refine wpQuiet_nil ?_
  clear r1 
  generalize w0.drew = w1 at *
  have HRm := LH (remove16_any _ lk lc (obsOf m) HLk.out (HC0.out.below HD1.out (Nat.le_refl _)) (by omega) oa)
  have HA1 := LH (HA0.out.below HD1.out)
  refine wpSeg_sq (fun K hK => ?_)
  go_wp2_with fail
  refine HRm.out.mono ?_
  rintro e w2 ⟨v2, rfl, ho2, hb2⟩
  have HB2 : Hid (Below w0.heap.size w0 w2) := LH (HD1.out.trans (hb2.mono HD1.out.size))
  have HOb2 := LH (ObAt.new (A := A) ho2 HA1.out.mem)
  have HA2 := LH (HA1.out.below hb2)
  have hC2 : ∃ x : Near A.hot w0, w2 = x.val := near_of (Touch.ofBelow HB2.out)
  have HFr := LH (afree_any HA2.out HOk.out (by omega) hn (N := N) hN HON.out mu (oa : Int))
  obtain ⟨a2, c2, e2⟩ := ho2.len
  obtain ⟨l2, hl2⟩ : ∃ l2, l2 = ((obsOf m).filter (fun o => o.a != oa)).length := ⟨_, rfl⟩
  rw [← hl2] at e2
  subst e2
  clear ho2 hb2 HRm hl2
  go_wp2_with fail
  refine hK _ _ (fun _ => hC2) ?_
  clear hK K
  refine wpSeg_sq (fun K hK => ?_)
  go_wp2_with fail
  refine HFr.out.mono ?_
  rintro e w3 (⟨hno, _, _⟩ | ⟨a', m2, hae, hua, rfl, hg, hok2, hgo⟩)
  ·rw [hasI_nat, HUs.out] at hno
   cases hno
  obtain rfl : oa = a' := by omega
  have hgo2 := hgo
  obtain ⟨R3, ha3, ht3, hr3⟩ := hgo
  have hC3 : ∃ x : Near A.hot w0, w3 = x.val := near_of ((Touch.ofBelow HB2.out).trans ht3)
  have hob := obs_gone HOk.out hg
  have HFin := LH (HP.out m2 _ R3 w3 (ha3.mono (by omega)) ((Touch.ofBelow (HW0.out.trans (HB2.out.mono HW0.out.size))).trans ht3) (fun b hb => (hr3 b hb).imp id (fun c => Nat.le_trans (Nat.le_trans HW0.out.size HB2.out.size) c)) hg.ok (hok2.mono (by omega)) (by rw [hob]; exact HOb2.out.go ht3 hr3) (hg.snd HSn.out))
  clear ha3 ht3 hr3 hob hg hgo2 hua hae hok2 HFr
  go_wp2_with fail
  refine hK _ _ (fun h => nomatch h) ?_
  clear hK K
  refine wpSeg_fl hC3 ?_
  repeat (first | go_big_quiet_step (fail) | quiet_step (fail))
  refine wpQuiet_nil ?_
  refine wpSeg_last ?_
  go_wp2_with fail
  exact HFin.out
 by_cases h2 : kd = 2
 ·subst h2
  obtain ⟨hk0, hc0, hl0, he⟩ : ∃ hk0 hc0 hl0, hdGet m.bm.list p = ⟨hk0, hc0, hl0⟩ := ⟨_, _, _, rfl⟩
  have HGet := LH (fun w' (h : AlAt w' A n B m) => tget_any (h.man.tab.at (MF.notHot (MF.apart h.man.nd).t).1) p (by rw [HOk.out.bm.lenL]; omega))
  unfold Hd.val at HGet
  rw [he] at HGet
  dsimp only at HGet
  have HE := LH he
  have HIff : Hid ((hk0 = 1 ∧ ∀ o ∈ obsOf m, ((o.a / 512 : Nat) : Int) ≠ p) ↔ TrimOk m p) := LH (by
   unfold TrimOk
   rw [he]
   refine and_congr_right fun _ => ⟨fun h x hx => ?_, fun h o ho hx => ?_⟩
   ·cases hu : m.used.getD x false with
    | false => rfl
    | true => exact absurd hx (h (obOf m x) (mem_obsOf.2 ⟨hu, rfl⟩))
   ·have h1 := h o.a hx
    rw [(mem_obsOf.1 ho).1] at h1
    cases h1)
  clear he d3
  have r0 := fun x => later_cell HA0.out.c0 x
  have r1 := fun x => later_cell HA0.out.man.c0 x
  have r2 := fun x => later_cell d2 x
  go_upto_region 11 with fail
  refine wp_region_seg (C := fun w' => ∃ x : Later (w0), w' = x.val) [.fl [0, 1, 2, 3, 4, 5, 6, 7, 8], .sq [9, 10, 11, 12] false] (by kernel_rfl) (by kernel_rfl) (by intro c a d v w h; cases d <;> exact h) ?_
  simp only [segs, picks, List.getElem?_cons_succ, List.getElem?_cons_zero]
  have hC1 := later_drew (w0)
  refine wpSeg_fl hC1 ?_
  repeat (first | go_big_quiet_step (fail) | quiet_step (fail))
  refine wpQuiet_nil ?_
  clear r0 r1 r2
  have HB1 := LH (later_below hC1)
  have HG1 := LH (HGet.out _ (HA0.out.below HB1.out))
  generalize w0.drew = w1 at *
  clear hC1 d0 d1 d2
  refine wpSeg_last ?_
  go_wp2_with fail
  refine HG1.out.mono ?_
  rintro e w2 ⟨rfl, hb2⟩
  have HB2 := LH (HB1.out.trans (hb2.mono HB1.out.size))
  clear hb2 HG1 HB1
  go_wp2_with fail
  rw [fieldKind]
  go_wp2_with fail
  go_loopw [9, 10] (fun bv iv wr => ∃ (i : Nat) (b : Bool), i ≤ lk ∧ bv = .bool b ∧ iv = .int .i64 (i : Int) ∧ Hid (Below w0.heap.size w0 wr) ∧ Hid (b = true ↔ hk0 = 1 ∧ ∀ o ∈ (obsOf m).take i, ((o.a / 512 : Nat) : Int) ≠ p)) (fun _ iv _ => lk - (intOf iv).toNat)
  case atStart => exact ⟨0, hk0 == 1, by omega, rfl, rfl, HB2, LH (by simp)⟩
  case round =>
   obtain ⟨i, b, hi, rfl, rfl, HBr, HFb⟩ := hrel
   have HMr := LH (HM.out.later HBr.out)
   by_cases hlt : i < lk
   ·have hltI : (i : Int) < (lk : Int) := by omega
    obtain ⟨o, ho⟩ : ∃ o, (obsOf m)[i]? = some o := ⟨_, List.getElem?_eq_getElem (by rw [HLk.out]; exact hlt)⟩
    obtain ⟨bb, bo, rfl, c0, _, _⟩ := ob_cells (HC0.out.below HBr.out (Nat.le_refl _)) ho
    have hoa : o.a < 8192 := by
     have h1 := HOk.out.used_kind (mem_obsOf.1 (List.mem_of_getElem? ho)).1
     omega
    have HTk : Hid ((obsOf m).take (i + 1) = (obsOf m).take i ++ [o]) := LH (by
     have h1 := (List.getElem?_eq_some_iff.1 ho).1
     rw [List.take_succ_eq_append_getElem h1, (List.getElem?_eq_some_iff.1 ho).2])
    have r0 := fun x => later_cell c0 x
    have r1 := fun x => later_cell (HMr.out.cell 0 2 rfl rfl) x
    obtain ⟨oa, op, od⟩ := o
    dsimp only at hoa c0 r0
    clear ho c0
    cases b with
    | false =>
     have HNx : Hid (false = true ↔ hk0 = 1 ∧ ∀ o ∈ (obsOf m).take (i + 1), ((o.a / 512 : Nat) : Int) ≠ p) := LH ⟨fun h => (by cases h), fun h => HFb.out.2 ⟨h.1, fun o ho => h.2 o (by rw [HTk.out]; exact List.mem_append_left _ ho)⟩⟩
     go_upto_region 15 with fail
     refine wp_region_later (by kernel_rfl) (by kernel_rfl) ?_
     repeat (first | go_big_quiet_step (fail) | quiet_step (fail))
     refine wpQuiet_nil ?_
     rintro w3 ⟨x3, hx3⟩
     have HB3 := LH (HBr.out.trans ((show Below wr.heap.size wr w3 by rw [hx3]; exact x3.below).mono HBr.out.size))
     clear hx3 r0 r1
     go_wp2_with fail
     go_roundw
     case rel => exact ⟨i + 1, false, by omega, rfl, vint (by omega), HB3, LH (by simpa using HNx.out)⟩
     case measure => simp [intOf]; omega
    | true =>
     have hdv : (oa : Int) / 512 = ((oa / 512 : Nat) : Int) := by omega
     have HNx : ∀ c : Bool, (c = true ↔ ¬ ((oa / 512 : Nat) : Int) = p) → Hid (c = true ↔ hk0 = 1 ∧ ∀ o ∈ (obsOf m).take (i + 1), ((o.a / 512 : Nat) : Int) ≠ p) := fun c hc => LH (by
      rw [hc, HTk.out]
      have h1 := HFb.out.1 (by rfl)
      constructor
      ·intro h
       refine ⟨h1.1, fun o ho => ?_⟩
       rcases List.mem_append.1 ho with ho | ho
       ·exact h1.2 o ho
       ·rw [List.mem_singleton.1 ho]; exact h
      ·intro h
       exact h.2 ⟨oa, op, od⟩ (List.mem_append_right _ (by simp)))
     by_cases hqp : (oa : Int) / 512 = p
     ·have HN := HNx false ⟨fun h => (by cases h), fun h => absurd (hdv.symm.trans hqp) h⟩
      clear HNx hdv
      go_upto_region 15 with fail
      refine wp_region_later (by kernel_rfl) (by kernel_rfl) ?_
      repeat (first | go_big_quiet_step (fail) | quiet_step (fail))
      refine wpQuiet_nil ?_
      rintro w3 ⟨x3, hx3⟩
      have HB3 := LH (HBr.out.trans ((show Below wr.heap.size wr w3 by rw [hx3]; exact x3.below).mono HBr.out.size))
      clear hx3 r0 r1
      go_wp2_with fail
      go_roundw
      case rel => exact ⟨i + 1, false, by omega, (by first | rfl | simp [hqp]), vint (by omega), HB3, LH (by simpa using HN.out)⟩
      case measure => simp [intOf]; omega
     ·have HN := HNx true ⟨fun _ h => hqp (hdv.trans h), fun _ => rfl⟩
      clear HNx hdv
      go_upto_region 15 with fail
      refine wp_region_later (by kernel_rfl) (by kernel_rfl) ?_
      repeat (first | go_big_quiet_step (fail) | quiet_step (fail))
      refine wpQuiet_nil ?_
      rintro w3 ⟨x3, hx3⟩
      have HB3 := LH (HBr.out.trans ((show Below wr.heap.size wr w3 by rw [hx3]; exact x3.below).mono HBr.out.size))
      clear hx3 r0 r1
      go_wp2_with fail
      go_roundw
      case rel => exact ⟨i + 1, true, by omega, (by first | rfl | simp [hqp]), vint (by omega), HB3, LH (by simpa using HN.out)⟩
      case measure => simp [intOf]; omega
   obtain rfl : i = lk := by omega
   have hni : ¬ (i : Int) < (i : Int) := by omega
   have HTr : Hid (b = true ↔ TrimOk m p) := LH (by
    have h1 := HFb.out
    rw [← HLk.out, List.take_length] at h1
    exact h1.trans HIff.out)
   clear HFb HIff
   have HAr := LH (HA0.out.below HBr.out)
   have HObr := LH (HOb0.out.below HBr.out)
   have HWr := LH (HW0.out.trans (HBr.out.mono HW0.out.size))
   have cA := HAr.out.c0
   have HFB := LH (fun w' (A' : AF) n' m' (h : AlAt w' A' n' B m') => bfree_any h.man (by omega))
   have HFB1 := LH (HFB.out _ _ _ _ HAr.out)
   obtain ⟨sm, hsm⟩ : ∃ sm, sm = sumOf (runsOf m.bm.free) := ⟨_, rfl⟩
   have HSm := LH hsm
   have hsm9 : sm ≤ 100 := by
    rw [hsm]
    have := sum_runsTo_le (fb m.bm.free) m.bm.free.length
    rw [HOk.out.bm.lenF] at this
    unfold runsOf
    rw [HOk.out.bm.lenF]
    omega
   rw [← hsm] at HFB1
   clear hsm
   go_wp2_with fail
   refine HFB1.out.mono ?_
   rintro e w4 ⟨rfl, hb4⟩
   have HM4 := LH (HMr.out.later hb4)
   have HA4 := LH (HAr.out.below hb4)
   have HOb4 := LH (HObr.out.below hb4)
   have HW4 := LH (HWr.out.trans (hb4.mono HWr.out.size))
   clear hb4 cA HFB1 HAr HObr HWr HMr
   have d2 := HM4.out.cell 0 2 rfl rfl
   have HTm := LH (atrim_any HA4.out HOk.out (by omega) hn (N := N) hN HON.out p)
   go_wp2_with fail
   refine HTm.out.mono ?_
   rintro e w5 (⟨hno, rfl, hgo⟩ | ⟨bn, m2, hbn, b1, b2, hyes, rfl, htr, hok2, hgo⟩)
   ·obtain rfl : b = false := by
     cases b with
     | false => rfl
     | true => exact absurd (HTr.out.1 rfl) hno
    obtain ⟨R5, ha5, ht5, hr5⟩ := hgo
    have HA5 := LH ha5
    have HFin := LH (fun w' (hb : Below w5.heap.size w5 w') => HP.out m _ R5 w' ((ha5.below hb).mono (by omega)) (((Touch.ofBelow HW4.out).trans ht5).later hb) (fun b hb' => (hr5 b hb').imp id (fun c => Nat.le_trans HW4.out.size c)) HOk.out (HON.out.mono (by omega)) ((HOb4.out.go ht5 hr5).below hb) HSn.out)
    have cA := ha5.c0
    change w5.cell? ⟨A.a, 0, none⟩ = some (.pointer (some ⟨A.X.m, 0, none⟩)) at cA
    clear ha5 ht5 hr5 HTm d2 hno HTr
    go_upto_region 18 with fail
    have r0 := fun x => later_cell cA x
    refine wp_region_seg (C := fun w' => ∃ x : Later (w5), w' = x.val) [.fl [0, 1, 2, 3, 4, 5, 6, 7, 8, 9, 10, 11, 12, 13, 14, 16, 17], .sq [15] true, .fl [18, 19, 20, 21, 22, 23, 24, 25, 26, 27, 28, 29], .sq [30] true, .fl [31, 32, 33, 34, 35, 36, 37, 38, 39, 40, 41, 43], .sq [42] true, .fl [44, 45, 46, 47, 48], .sq [49] false] (by kernel_rfl) (by kernel_rfl) (by intro c a d v w h; cases d <;> exact h) ?_
    simp only [segs, picks, List.getElem?_cons_succ, List.getElem?_cons_zero]
    have hC1 := later_drew (w5)
    refine wpSeg_fl hC1 ?_
    repeat (first | go_big_quiet_step (fail) | quiet_step (fail))
    refine wpQuiet_nil ?_
    refine wpSeg_sq (fun K hK => ?_)
    go_wp2_with fail
    go_wp2_with fail
    refine hK _ _ (fun _ => hC1) ?_
    clear hK K
    refine wpSeg_fl hC1 ?_
    repeat (first | go_big_quiet_step (fail) | quiet_step (fail))
    refine wpQuiet_nil ?_
    refine wpSeg_sq (fun K hK => ?_)
    go_wp2_with fail
    go_wp2_with fail
    refine hK _ _ (fun _ => hC1) ?_
    clear hK K
    refine wpSeg_fl hC1 ?_
    repeat (first | go_big_quiet_step (fail) | quiet_step (fail))
    refine wpQuiet_nil ?_
    have HFB5 := LH (HFB.out _ _ _ _ (HA5.out.below (later_below hC1)))
    rw [← HSm.out] at HFB5
    refine wpSeg_sq (fun K hK => ?_)
    go_wp2_with fail
    refine HFB5.out.mono ?_
    rintro e w6 ⟨rfl, hb6⟩
    have hC2 := later_step hC1 hb6
    have HF6 := LH (HFin.out _ (later_below hC2))
    clear hb6 HFB5
    go_wp2_with fail
    refine hK _ _ (fun _ => hC2) ?_
    clear hK K
    refine wpSeg_fl hC2 ?_
    repeat (first | go_big_quiet_step (fail) | quiet_step (fail))
    refine wpQuiet_nil ?_
    clear r0 hC1 hC2 cA
    refine wpSeg_last ?_
    go_wp2_with fail
    exact HF6.out
   ·obtain rfl : b = true := HTr.out.2 hyes
    obtain ⟨R5, ha5, ht5, hr5⟩ := hgo
    have HA5 := LH ha5
    have hkind : (m.bm.list.getD bn default).k = 1 := by
     have h1 := hyes.1
     rw [hbn, hdGet_at HOk.out.bm b1 b2] at h1
     exact h1
    have hfree := trim_free HOk.out b1 b2 hkind htr
    have hget : hdGet m2.bm.list p = ⟨0, 0, 0⟩ := by
     rw [hbn, hdGet_at htr.ok.bm b1 b2, htr.list, if_pos rfl]
    have hob := obs_trim HOk.out htr
    have HFin := LH (fun w' (hb : Below w5.heap.size w5 w') => HP.out m2 _ R5 w' ((ha5.below hb).mono (by omega)) (((Touch.ofBelow HW4.out).trans ht5).later hb) (fun b hb' => (hr5 b hb').imp id (fun c => Nat.le_trans HW4.out.size c)) htr.ok (hok2.mono (by omega)) (by rw [hob]; exact (HOb4.out.go ht5 hr5).below hb) (htr.snd HSn.out))
    have HGt5 := LH (fun w' (h : AlAt w' (A.re R5) (n + 5) B m2) => tget_any (h.man.tab.at (MF.notHot (MF.apart h.man.nd).t).1) p (by rw [htr.ok.bm.lenL]; omega))
    unfold Hd.val at HGt5
    rw [hget] at HGt5
    dsimp only at HGt5
    have HSm5 : Hid (sumOf (runsOf m2.bm.free) = sm + 1) := LH (by rw [hfree, ← HSm.out])
    have HMq5 : Hid (MemR w.heap.size w5 [⟨q, 34, [.int .i64 2, .int .i64 mu, .int .i64 p, .int .i64 d], true⟩]) := LH (HM4.out.r.apart ht5 (fun x hx hm => by have h1 := HM4.out.base x hx; have h2 := HAlt.out _ (AF.hot_list hm); omega))
    have cA := ha5.c0
    change w5.cell? ⟨A.a, 0, none⟩ = some (.pointer (some ⟨A.X.m, 0, none⟩)) at cA
    have cM := ha5.man.c0
    change w5.cell? ⟨A.X.m, 0, none⟩ = some (.pointer (some ⟨A.X.t, 0, none⟩)) at cM
    clear ha5 ht5 hr5 HTm d2 hyes HTr htr hok2 hkind hfree hget hob b1 b2 hbn
    go_upto_region 18 with fail
    have r0 := fun x => later_cell cA x
    have r1 := fun x => later_cell cM x
    have r2 := fun x => later_cell (HMq5.out.cell 0 2 rfl rfl) x
    refine wp_region_seg (C := fun w' => ∃ x : Later (w5), w' = x.val) [.fl [0, 1, 2, 3, 4, 5, 6, 7, 8, 9, 10, 11, 12, 13, 14, 16, 17], .sq [15] true, .fl [18, 19, 20, 21, 22, 23, 24, 25, 26, 27, 28, 29], .sq [30] true, .fl [31, 32, 33, 34, 35, 36, 37, 38, 39, 40, 41, 43], .sq [42] true, .fl [44, 45, 46, 47, 48], .sq [49] false] (by kernel_rfl) (by kernel_rfl) (by intro c a d v w h; cases d <;> exact h) ?_
    simp only [segs, picks, List.getElem?_cons_succ, List.getElem?_cons_zero]
    have hC1 := later_drew (w5)
    refine wpSeg_fl hC1 ?_
    repeat (first | go_big_quiet_step (fail) | quiet_step (fail))
    refine wpQuiet_nil ?_
    have HFB5 := LH (HFB.out _ _ _ _ (HA5.out.below (later_below hC1)))
    rw [HSm5.out] at HFB5
    refine wpSeg_sq (fun K hK => ?_)
    go_wp2_with fail
    refine HFB5.out.mono ?_
    rintro e w6 ⟨rfl, hb6⟩
    have hC2 := later_step hC1 hb6
    clear hb6 HFB5
    go_wp2_with fail
    refine hK _ _ (fun _ => hC2) ?_
    clear hK K
    refine wpSeg_fl hC2 ?_
    repeat (first | go_big_quiet_step (fail) | quiet_step (fail))
    refine wpQuiet_nil ?_
    have HG6 := LH (HGt5.out _ (HA5.out.below (later_below hC2)))
    refine wpSeg_sq (fun K hK => ?_)
    go_wp2_with fail
    refine HG6.out.mono ?_
    rintro e w7 ⟨rfl, hb7⟩
    have hC3 := later_step hC2 hb7
    have HF7 := LH (HFin.out _ (later_below hC3))
    clear hb7 HG6
    go_wp2_with fail
    refine hK _ _ (fun _ => hC3) ?_
    clear hK K
    have hfk := fieldKind
    refine wpSeg_fl hC3 ?_
    repeat (go_big_quiet_step (fail))
    refine wpQuiet_nil ?_
    refine wpSeg_sq (fun K hK => ?_)
    go_wp2_with fail
    go_wp2_with fail
    refine hK _ _ (fun _ => hC3) ?_
    clear hK K
    refine wpSeg_fl hC3 ?_
    repeat (first | go_big_quiet_step (fail) | quiet_step (fail))
    refine wpQuiet_nil ?_
    clear r0 r1 r2 hC1 hC2 hC3 cA cM
    refine wpSeg_last ?_
    go_wp2_with fail
    exact HF7.out
 by_cases h3 : kd = 3
 ·subst h3
  have HHas := LH (has16_any la lk lc (obsOf m) HLk.out HC0.out (by omega) p)
  go_wp2_with fail
  refine HHas.out.mono ?_
  rintro e w9 ⟨hr, rfl, hiff, rfl⟩
  by_cases hr0 : 0 ≤ hr
  ·obtain ⟨o, ho, hoa⟩ := hiff.1 hr0
   have HUs : Hid (m.used.getD o.a false = true) := LH (mem_obsOf.1 ho).1
   obtain ⟨oa, op, od⟩ := o
   dsimp only at HUs hoa
   subst hoa
   clear hiff ho HHas
   go_upto_region 21 with fail
   have hqn : q ∉ A.hot := fun hm => by have h1 := HM.out.gbase 0 rfl; have h2 := HAlt.out _ (AF.hot_list hm); omega
   have r1 := fun x => near_cell (L := A.hot) d1 hqn x
   have r2 := fun x => near_cell (L := A.hot) d2 hqn x
   have hC1 : ∃ x : Near A.hot w9, w9.drew = x.val := near_of (Touch.ofBelow (later_below (later_drew w9)))
   have HD1 : Hid (Below w9.heap.size w9 w9.drew) := LH (later_below (later_drew w9))
   clear hqn d0 d1 d2 d3
   refine wp_region_seg (C := fun w' => ∃ x : Near A.hot w9, w' = x.val) [.fl [0, 1, 2, 4, 5, 6, 7, 8], .sq [3] true, .sq [9] false, .fl [10, 11], .sq [12] false] (by kernel_rfl) (by kernel_rfl) (by intro c a d v w h; cases d <;> exact h) ?_
   simp only [segs, picks, List.getElem?_cons_succ, List.getElem?_cons_zero]
   refine wpSeg_fl hC1 ?_
   repeat (first | go_big_quiet_step (fail) | quiet_step (fail))
   refine wpQuiet_nil ?_
   clear r1 r2
   generalize w9.drew = w1 at *
   have HRm := LH (remove16_any _ lk lc (obsOf m) HLk.out (HC0.out.below HD1.out (Nat.le_refl _)) (by omega) oa)
   have HA1 := LH (HA0.out.below HD1.out)
   refine wpSeg_sq (fun K hK => ?_)
   go_wp2_with fail
   refine HRm.out.mono ?_
   rintro e w2 ⟨v2, rfl, ho2, hb2⟩
   have HB2 : Hid (Below w9.heap.size w9 w2) := LH (HD1.out.trans (hb2.mono HD1.out.size))
   have HOb2 := LH (ObAt.new (A := A) ho2 HA1.out.mem)
   have HA2 := LH (HA1.out.below hb2)
   have hC2 : ∃ x : Near A.hot w9, w2 = x.val := near_of (Touch.ofBelow HB2.out)
   have HFr := LH (afree_any HA2.out HOk.out (by omega) hn (N := N) hN HON.out mu (oa : Int))
   obtain ⟨a2, c2, e2⟩ := ho2.len
   obtain ⟨l2, hl2⟩ : ∃ l2, l2 = ((obsOf m).filter (fun o => o.a != oa)).length := ⟨_, rfl⟩
   rw [← hl2] at e2
   subst e2
   clear ho2 hb2 HRm hl2
   go_wp2_with fail
   refine hK _ _ (fun _ => hC2) ?_
   clear hK K
   refine wpSeg_sq (fun K hK => ?_)
   go_wp2_with fail
   refine HFr.out.mono ?_
   rintro e w3 (⟨hno, _, _⟩ | ⟨a', m2, hae, hua, rfl, hg, hok2, hgo⟩)
   ·rw [hasI_nat, HUs.out] at hno
    cases hno
   obtain rfl : oa = a' := by omega
   have hgo2 := hgo
   obtain ⟨R3, ha3, ht3, hr3⟩ := hgo
   have hC3 : ∃ x : Near A.hot w9, w3 = x.val := near_of ((Touch.ofBelow HB2.out).trans ht3)
   have hob := obs_gone HOk.out hg
   have HFin := LH (HP.out m2 _ R3 w3 (ha3.mono (by omega)) ((Touch.ofBelow (HW0.out.trans (HB2.out.mono HW0.out.size))).trans ht3) (fun b hb => (hr3 b hb).imp id (fun c => Nat.le_trans (Nat.le_trans HW0.out.size HB2.out.size) c)) hg.ok (hok2.mono (by omega)) (by rw [hob]; exact HOb2.out.go ht3 hr3) (hg.snd HSn.out))
   clear ha3 ht3 hr3 hob hg hgo2 hua hae hok2 HFr
   go_wp2_with fail
   refine hK _ _ (fun h => nomatch h) ?_
   clear hK K
   refine wpSeg_fl hC3 ?_
   repeat (first | go_big_quiet_step (fail) | quiet_step (fail))
   refine wpQuiet_nil ?_
   refine wpSeg_last ?_
   go_wp2_with fail
   exact HFin.out
  ·have HNo : Hid (hasI m.used p = false) := LH (by
    cases hc : hasI m.used p with
    | false => rfl
    | true =>
     exfalso
     obtain ⟨a, rfl, h1, h2⟩ := hasI_is hc
     exact hr0 (hiff.2 ⟨obOf m a, mem_obsOf.2 ⟨h2, rfl⟩, rfl⟩))
   clear hiff HHas
   have HFr := LH (afree_any HA0.out HOk.out (by omega) hn (N := N) hN HON.out mu p)
   go_wp2_with fail
   refine HFr.out.mono ?_
   rintro e w3 (⟨_, rfl, hgo⟩ | ⟨a', m2, hae, hua, _, _, _, _⟩)
   ·obtain ⟨R3, ha3, ht3, hr3⟩ := hgo
    have HFin := LH (HP.out m _ R3 w3 (ha3.mono (by omega)) ((Touch.ofBelow HW0.out).trans ht3) (fun b hb => (hr3 b hb).imp id (fun c => Nat.le_trans HW0.out.size c)) HOk.out (HON.out.mono (by omega)) (HOb0.out.go ht3 hr3) HSn.out)
    clear ha3 ht3 hr3 HFr
    go_wp2_with fail
    exact HFin.out
   ·exfalso
    have h1 := HNo.out
    rw [hae, hasI_nat, hua] at h1
    cases h1
 go_wp2_with fail
 exact HStay.out _ (Below.refl _ _)
structure Op16 where
 k : Int
 m : Int
 p : Int
 d : Int
def Op16.cs (o : Op16) : List Value := [.int .i64 o.k, .int .i64 o.m, .int .i64 o.p, .int .i64 o.d]
theorem Op16.len (o : Op16) : (Op16.cs o).length = 4 := rfl
theorem aggOp16 : Agg Tryz.prog 34 #[.int .i64 0, .int .i64 0, .int .i64 0, .int .i64 0] := ⟨⟨_, Tryz.underlying34, rfl⟩, by kernel_rfl⟩
theorem four16 (zs : List Int) (h : zs.length = 4) : (Op16.cs ⟨zs.getD 0 0, zs.getD 1 0, zs.getD 2 0, zs.getD 3 0⟩) = zs.map (Value.int .i64) := by
 match zs, h with
 | [a, b, c, d], _ => rfl
theorem in64_third (o : Op16) (h : ∃ zs : List Int, o = ⟨zs.getD 0 0, zs.getD 1 0, zs.getD 2 0, zs.getD 3 0⟩ ∧ zs.length = 4 ∧ ∀ x ∈ zs, -9223372036854775808 ≤ x ∧ x ≤ 9223372036854775807) : In64 o.p := by
 obtain ⟨zs, rfl, hl, hz⟩ := h
 match zs, hl with
 | [a, b, c, d], _ =>
  have h := hz c (by simp)
  exact ⟨h.1, by show c < _; omega⟩
theorem obsOf_al0 (B : Nat) : obsOf (al0 B) = [] := by
 have h : ∀ x, (al0 B).used.getD x false = false := fun x => by
  show (List.replicate (512 * B) false).getD x false = false
  simp only [List.getD_eq_getElem?_getD, List.getElem?_replicate]; split <;> rfl
 apply List.eq_nil_iff_forall_not_mem.2
 intro o ho
 have := (mem_obsOf.1 ho).1
 rw [h] at this
 cases this
theorem snd_al0 {B : Nat} (hB2 : 2 ≤ B) (hB : B ≤ 100) : Snd (al0 B).bm.list := by
 intro q _ hq
 rw [al0_list hB2 hB] at hq
 simp only [List.getD_eq_getElem?_getD, List.getElem?_replicate] at hq
 split at hq <;> exact absurd hq (by decide)
end Go.Proofs.YtbimcogdbafjpaaGreat
