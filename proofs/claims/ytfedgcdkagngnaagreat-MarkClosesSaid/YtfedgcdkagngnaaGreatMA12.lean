/- Parts of the proof, one behind the other: Wt, Wu, Wr, Wv. -/
import Derived.Test.YtfedgcdkagngnaaGreatMA11

/- ref22: Reach. -/
namespace Go.Proofs.YtfedgcdkagngnaaGreat
open Go.RowKit Go.Maps
set_option linter.unusedVariables false

/-- Two lists in rows apart, both new. -/
structure Rows2 (B : Nat) (v u : Value) : Prop where
  one : ∀ b, rowOf v = some b → B ≤ b
  two : ∀ b, rowOf u = some b → B ≤ b
  ne : ∀ b b', rowOf v = some b → rowOf u = some b' → b ≠ b'
def lenV : Value → Nat
  | .slice _ n _ => n
  | _ => 0
theorem rptrs_len (S : Dev) (a : Int) : ptrL S a (if (headN S a).code = 0 then (headN S a).p.toNat else 0) = ptrsD S a := by
  unfold ptrsD
  split
  · rfl
  · rfl
theorem rptrs22_any {w : World} {v : Value} {S : Dev} {m : Nat} (hm : S.dirty.length = m) (h : RAt w v m S.ref) {N : Nat} (hf : S.fit N) (a : Int) :
    Calls Tryz.prog 40 #[v, .int .i64 a] w fun e w' => ∃ av c, e = .returned (.slice av (ptrsD S a).length c) ∧ Cells w' av ((ptrsD S a).map vi) ∧ Below w.heap.size w w' := by
  refine (rptrs15_any hm h hf a).mono ?_
  rintro e w' ⟨v', rfl, ho, hb⟩
  rw [rptrs_len] at ho
  have hl : (ptrsD S a).length = (if (headN S a).code = 0 then (headN S a).p.toNat else 0) := by rw [← rptrs_len, ptrL_length]
  rw [← hl] at ho
  obtain ⟨av, c, rfl, _, _⟩ := owned_form ho
  exact ⟨av, c, rfl, Cells.owned ho, hb⟩
theorem Work.seen_len {ok : Nat → Prop} {P : Nat → List Nat} {f seen rest : List Nat} (h : Work ok P f seen rest) (hl : ∀ x, ok x → x < 2048) : seen.length ≤ 2048 :=
  nodup_len _ _ (fun x hx => hl x (h.in_ x hx).ok') (nodup_count h.nd)
theorem Work.room {ok : Nat → Prop} {P : Nat → List Nat} {f seen rest : List Nat} {a : Nat} (h : Work ok P f seen (a :: rest)) (ha : ok a) (hs : a ∉ seen) (hl : ∀ x, ok x → x < 2048) : seen.length + 1 ≤ 2048 := by
  have := (h.take ha hs).seen_len hl
  simpa using this

/-- What Reach tells. -/
def ReachPost (S : Dev) (us fr bl : List Nat) (w : World) : Ending → World → Prop := fun e w' => ∃ (seen : List Nat) (av : Option Addr) (c : Nat),
  (∀ x, x ∈ seen ↔ Rch (fun x => x ∈ us ∧ x ∉ bl) (fun x => ptrsD S (x : Int)) fr x) ∧ e = .returned (.slice av (us.filter (fun x => seen.contains x || bl.contains x)).length c) ∧ Cells w' av ((us.filter (fun x => seen.contains x || bl.contains x)).map vi) ∧ Below w.heap.size w w' ∧ (us.filter (fun x => seen.contains x || bl.contains x) ≠ [] → ∀ x, av = some x → w.heap.size ≤ x.block)

set_option maxHeartbeats 8000000 in
set_option maxRecDepth 100000 in
theorem rreach_any {w : World} {dv : Value} {S : Dev} {md : Nat} (hm : S.dirty.length = md) (h : RAt w dv md S.ref) {N : Nat} (hf : S.fit N) (hs : S.cache.length ≤ 1000000)
    (au af ab : Option Addr) (nu nf nb cu cf cb : Nat) (us fr bl : List Nat) (hu : us.length = nu) (hfr : fr.length = nf) (hb : bl.length = nb) (hcu : Cells w au (us.map vi)) (hcf : Cells w af (fr.map vi)) (hcb : Cells w ab (bl.map vi))
    (hus : ∀ x ∈ us, x < 2048) (hun : nu ≤ 2048) (hfn : nf ≤ 10) (hbn : nb ≤ 10) (hfb : ∀ x ∈ fr, x ≤ 1099511627776) :
    Calls Tryz.prog 46 #[dv, .slice au nu cu, .slice af nf cf, .slice ab nb cb] w (ReachPost S us fr bl w) := by
  have HP : Hid (∀ (seen : List Nat) (av : Option Addr) (c : Nat) w', (∀ x, x ∈ seen ↔ Rch (fun x => x ∈ us ∧ x ∉ bl) (fun x => ptrsD S (x : Int)) fr x) → Cells w' av ((us.filter (fun x => seen.contains x || bl.contains x)).map vi) → Below w.heap.size w w' → (us.filter (fun x => seen.contains x || bl.contains x) ≠ [] → ∀ x, av = some x → w.heap.size ≤ x.block) → ReachPost S us fr bl w (.returned (.slice av (us.filter (fun x => seen.contains x || bl.contains x)).length c)) w') := Lib.hid (fun seen av c w' h1 h2 h3 h4 => ⟨seen, av, c, h1, rfl, h2, h3, h4⟩)
  generalize ReachPost S us fr bl w = Post at *
  have HPtr := Lib.hid (fun w' (h : RAt w' dv md S.ref) (a : Int) => rptrs22_any hm h hf a)
  have HPl : Hid (∀ a : Int, (ptrsD S a).length ≤ 64) := Lib.hid (ptrsD_len hs)
  have HPe : Hid (∀ (a : Int), ∀ x ∈ ptrsD S a, x ≤ 1099511627776) := Lib.hid (ptrsD_le S)
  obtain ⟨D, rfl⟩ := h.agg
  obtain ⟨hD8, hD1⟩ := h.arr
  have HM := Lib.hid (Mem.one w D 34)
  have HR0 := Lib.hid (h.below HM.out.below (Nat.le_refl _))
  have HCU := Lib.hid hcu
  have HCF := Lib.hid hcf
  have HCB := Lib.hid hcb
  have HU := Lib.hid hu
  have HF := Lib.hid hfr
  have HB := Lib.hid hb
  have HUs := Lib.hid hus
  have HFb := Lib.hid hfb
  have HW0 := Lib.hid (Work.start (fun x => x ∈ us ∧ x ∉ bl) (fun x : Nat => ptrsD S (x : Int)) fr)
  clear h hf hm hs hu hfr hb hcu hcf hcb hus hfb
  go_enter Tryz.func46, Tryz.ntmps46
  go_upto_region 1 with fail
  generalize w.alloc _ = w0 at *
  obtain ⟨q, hq⟩ : ∃ q, q = w.heap.size := ⟨_, rfl⟩
  rw [← hq] at HM ⊢
  have HQ := Lib.hid hq
  clear hq
  have HO1 : Hid (OwnI (w0.alloc (.cells #[] 3)) (.slice (some ⟨w0.heap.size, 0, none⟩) 0 0) []) :=
    Lib.hid (.inl ⟨rfl, .inr ⟨w0.heap.size, 0, #[], rfl, Nat.zero_le _, heap_alloc_new w0 _, Nat.le_refl _, Nat.zero_le _, rfl, rfl⟩⟩)
  have HB1 := Lib.hid (below_alloc w0 (.cells #[] 3))
  have HC1 := Lib.hid (HCF.out.below (HM.out.below.trans (HB1.out.mono HM.out.below.size)) (Nat.le_refl _))
  have HN1 : Hid (([] : List Nat).length + nf ≤ 1000000000000) := Lib.hid (by simp; omega)
  have HR1n : Hid (∀ b, rowOf (.slice (some ⟨w0.heap.size, 0, none⟩) 0 0) = some b → w0.heap.size ≤ b) := Lib.hid (fun b hb => by
    have : rowOf (.slice (some ⟨w0.heap.size, 0, none⟩) 0 0) = none := rfl
    rw [this] at hb; cases hb)
  go_wp2_with (at_builtin; refine wpList_append_newI (m := nf) (B := w0.heap.size) HO1.out (Below.refl _ _) HR1n.out HB1.out.size HC1.out HF.out HN1.out rfl rfl rfl rfl ?_; intro v2 w2 ho2 hb2 hr2; have HO2 := Lib.hid ho2; have HB2 := Lib.hid (HB1.out.trans hb2); have HR2 := Lib.hid hr2; clear ho2 hb2 hr2; obtain ⟨a2, c2, e2, _⟩ := HO2.out.cells; rw [List.nil_append] at HO2 e2; obtain ⟨l2, hl2⟩ : ∃ l2, l2 = fr.length := ⟨_, rfl⟩; rw [← hl2] at e2; have HL2 := Lib.hid hl2; clear hl2; subst e2)
  go_wp2_with fail
  go_loopw [9, 10, 11] (fun vo vs i wr => ∃ (L S' : List Nat) (k n9 n10 : Nat) (a9 a10 : Option Addr) (c9 c10 : Nat), vo = .slice a9 n9 c9 ∧ vs = .slice a10 n10 c10 ∧ i = .int .i64 (k : Int) ∧ k ≤ n9 ∧ Hid (n9 = L.length ∧ n10 = S'.length) ∧ Hid (OwnI wr (.slice a9 n9 c9) L) ∧ Hid (OwnI wr (.slice a10 n10 c10) S') ∧ Hid (Rows2 w0.heap.size (.slice a9 n9 c9) (.slice a10 n10 c10)) ∧ Hid (Below w0.heap.size w0 wr) ∧ Hid (Work (fun x => x ∈ us ∧ x ∉ bl) (fun x : Nat => ptrsD S (x : Int)) fr S' (L.drop k)) ∧ n9 ≤ 10 + 64 * n10 ∧ n10 ≤ 2048 ∧ Hid (∀ x ∈ L, x ≤ 1099511627776)) (fun vo vs i _ => 65 * (2048 - lenV vs) + (lenV vo - (intOf i).toNat))
  case atStart => exact ⟨fr, [], 0, l2, 0, a2, none, c2, 0, rfl, rfl, rfl, Nat.zero_le _, Lib.hid ⟨HL2.out, rfl⟩, HO2, Lib.hid (OwnI.nil _), Lib.hid ⟨HR2.out, fun b hb => (by cases hb), fun b b' _ hb => (by cases hb)⟩, HB2, HW0, (by rw [HL2.out, HF.out]; omega), (by omega), HFb⟩
  case round =>
    clear HO2 HB2 HR2 HO1 HB1 HC1 HN1 HR1n HW0 HL2
    obtain ⟨L, S', k, n9, n10, a9, a10, c9, c10, rfl, rfl, rfl, hk, HLs, HO9, HO10, HRw, HBl, HWk, hn9, hn10, HLe⟩ := hrel
    by_cases hlt : k < n9
    · have hlt' : (k : Int) < (n9 : Int) := by omega
      obtain ⟨a9', c9', e9, hc9, _, _⟩ := HO9.out.cells
      rw [← HLs.out.1] at e9
      cases e9
      obtain ⟨a10', c10', e10, hc10, _, _⟩ := HO10.out.cells
      rw [← HLs.out.2] at e10
      cases e10
      have HC10 := Lib.hid hc10
      obtain ⟨b1, o1, rfl, _, hcx⟩ := hc9.at (i := k) (by rw [List.length_map, ← HLs.out.1]; exact hlt)
      obtain ⟨x, hx⟩ : ∃ x, L[k]? = some x := ⟨_, List.getElem?_eq_getElem (by rw [← HLs.out.1]; exact hlt)⟩
      have cx := hcx k (vi x) (by rw [List.getElem?_map, hx]; rfl)
      have HDr : Hid (L.drop k = x :: L.drop (k + 1)) := Lib.hid (by
        have h1 := (List.getElem?_eq_some_iff.1 hx).1
        rw [List.drop_eq_getElem_cons h1, (List.getElem?_eq_some_iff.1 hx).2])
      have hx9 := HLe.out x (List.mem_of_getElem? hx)
      have HXk := Lib.hid hx
      have hn9b : n9 ≤ 200000 := by omega
      have HF1 := Lib.hid (rfind22_any au nu cu us HU.out (HCU.out.below (HM.out.below.trans (HBl.out.mono HM.out.below.size)) (Nat.le_refl _)) (by omega) x)
      have HF2 := Lib.hid (rfind22_any a10 n10 c10 S' HLs.out.2.symm HC10.out (by omega) x)
      have HF3 := Lib.hid (rfind22_any ab nb cb bl HB.out (HCB.out.below (HM.out.below.trans (HBl.out.mono HM.out.below.size)) (Nat.le_refl _)) (by omega) x)
      have HWd := Lib.hid HWk.out
      rw [HDr.out] at HWd
      clear hc9 hc10 hcx hx
      have HSkip : Hid ((¬ (x ∈ us ∧ x ∉ bl) ∨ x ∈ S') → Work (fun x => x ∈ us ∧ x ∉ bl) (fun x : Nat => ptrsD S (x : Int)) fr S' (L.drop (k + 1))) := Lib.hid (fun h => HWd.out.skip h)
      cases hb1 : us.contains x with
      | false =>
        have HWn := Lib.hid (HSkip.out (.inl (fun h => by rw [List.contains_iff_mem.2 h.1] at hb1; cases hb1)))
        rw [hb1] at HF1
        clear hb1
        go_wp2_with fail
        refine HF1.out.mono ?_
        rintro e w3 ⟨rfl, rfl⟩
        go_wp2_with fail
        refine ⟨⟨L, S', k + 1, n9, n10, _, a10, c9, c10, rfl, rfl, vint (by omega), by omega, HLs, HO9, HO10, HRw, HBl, HWn, hn9, hn10, HLe⟩, ?_⟩
        simp [lenV, intOf]; omega
      | true =>
        cases hb2 : S'.contains x with
        | true =>
          have HWn := Lib.hid (HSkip.out (.inr (List.contains_iff_mem.1 hb2)))
          rw [hb1] at HF1
          rw [hb2] at HF2
          clear hb1 hb2
          go_wp2_with fail
          refine HF1.out.mono ?_
          rintro e w3 ⟨rfl, rfl⟩
          go_wp2_with fail
          refine HF2.out.mono ?_
          rintro e w3 ⟨rfl, rfl⟩
          go_wp2_with fail
          refine ⟨⟨L, S', k + 1, n9, n10, _, a10, c9, c10, rfl, rfl, vint (by omega), by omega, HLs, HO9, HO10, HRw, HBl, HWn, hn9, hn10, HLe⟩, ?_⟩
          simp [lenV, intOf]; omega
        | false =>
          cases hb3 : bl.contains x with
          | true =>
            have HWn := Lib.hid (HSkip.out (.inl (fun h => h.2 (List.contains_iff_mem.1 hb3))))
            rw [hb1] at HF1
            rw [hb2] at HF2
            rw [hb3] at HF3
            clear hb1 hb2 hb3
            go_wp2_with fail
            refine HF1.out.mono ?_
            rintro e w3 ⟨rfl, rfl⟩
            go_wp2_with fail
            refine HF2.out.mono ?_
            rintro e w3 ⟨rfl, rfl⟩
            go_wp2_with fail
            refine HF3.out.mono ?_
            rintro e w3 ⟨rfl, rfl⟩
            go_wp2_with fail
            refine ⟨⟨L, S', k + 1, n9, n10, _, a10, c9, c10, rfl, rfl, vint (by omega), by omega, HLs, HO9, HO10, HRw, HBl, HWn, hn9, hn10, HLe⟩, ?_⟩
            simp [lenV, intOf]; omega
          | false =>
            have hok : x ∈ us ∧ x ∉ bl := ⟨List.contains_iff_mem.1 hb1, fun h => by rw [List.contains_iff_mem.2 h] at hb3; cases hb3⟩
            have hnS : x ∉ S' := fun h => by rw [List.contains_iff_mem.2 h] at hb2; cases hb2
            have hroom := HWd.out.room hok hnS (fun y hy => HUs.out y hy.1)
            rw [← HLs.out.2] at hroom
            have HWt := Lib.hid (HWd.out.take hok hnS)
            rw [hb1] at HF1
            rw [hb2] at HF2
            rw [hb3] at HF3
            clear hb1 hb2 hb3 hok hnS
            go_wp2_with fail
            refine HF1.out.mono ?_
            rintro e w3 ⟨rfl, rfl⟩
            go_wp2_with fail
            refine HF2.out.mono ?_
            rintro e w3 ⟨rfl, rfl⟩
            go_wp2_with fail
            refine HF3.out.mono ?_
            rintro e w3 ⟨rfl, rfl⟩
            clear HF1 HF2 HF3 HSkip HC10
            have hS10 : S'.length + 1 ≤ 1000000000000 := by rw [← HLs.out.2]; omega
            go_upto_region 8 with (at_builtin; refine wpList_append_ownI (ys := [x]) (m := 1) (HO10.out.keep (fun b hb => (below_alloc _ _).block b (HO10.out.lt b hb))) (RowAt.cells ⟨_, heap_alloc_new _ _, [], rfl⟩) rfl hS10 rfl rfl rfl rfl ?_; intro v4 w4 ho4 hg4 hr4; have HO4 := Lib.hid ho4; have HG4 := Lib.hid hg4; have HR4 := Lib.hid hr4; clear ho4 hg4 hr4; obtain ⟨a4, c4, e4, _⟩ := HO4.out.cells; obtain ⟨l4, hl4⟩ : ∃ l4, l4 = (S' ++ [x]).length := ⟨_, rfl⟩; rw [← hl4] at e4; have HL4 := Lib.hid hl4; clear hl4; subst e4)
            clear cx
            have HBd := Lib.hid (below_alloc wr (.cells #[.int .i64 (x : Int)] 3))
            have HO9b : Hid (OwnI w4 (.slice (some ⟨b1, o1, none⟩) n9 c9) L) := Lib.hid (HO9.out.keep (fun b hb => (HG4.out.block b (Nat.lt_of_lt_of_le (HO9.out.lt b hb) HBd.out.size) (fun e => HRw.out.ne b b hb e.symm rfl)).trans (HBd.out.block b (HO9.out.lt b hb))))
            have HRw4 : Hid (Rows2 w0.heap.size (.slice (some ⟨b1, o1, none⟩) n9 c9) (.slice a4 l4 c4)) := Lib.hid ⟨HRw.out.one, fun b hb => (by
              rcases HR4.out b hb with c | c
              · exact HRw.out.two b c
              · rw [c]; exact Nat.le_trans HBl.out.size HBd.out.size), fun b b' hb hb' => (by
              rcases HR4.out b' hb' with c | c
              · exact HRw.out.ne b b' hb c
              · rw [c]; exact Nat.ne_of_lt (Nat.lt_of_lt_of_le (HO9.out.lt b hb) HBd.out.size))⟩
            have HB4 : Hid (Below w0.heap.size w0 w4) := Lib.hid (by
              have h1 : Below w0.heap.size w0 _ := HBl.out.trans (HBd.out.mono HBl.out.size)
              refine ⟨HG4.out.os.trans h1.os, HG4.out.tape.trans h1.tape, HG4.out.output.trans h1.output, Nat.le_trans h1.size HG4.out.size, fun k hk => (HG4.out.block k (Nat.lt_of_lt_of_le hk h1.size) (fun e => ?_)).trans (h1.block k hk)⟩
              have := HRw.out.two k e.symm
              omega)
            have HM4 := Lib.hid (HM.out.later HB4.out)
            have hld : ∀ w', (∃ y : Later w4, w' = y.val) → ∀ i v, D.toList[i]? = some v → w'.cell? ⟨q, 0 + i, none⟩ = some v := by
              rintro _ ⟨y, rfl⟩ i v hi
              rw [Nat.zero_add]
              exact later_cell (HM4.out.cell 0 i rfl hi) y
            obtain ⟨a9', c9', e9', hc9, _, _⟩ := HO9b.out.cells
            rw [← HLs.out.1] at e9'
            cases e9'
            obtain ⟨b1', o1', e1', _, hcx⟩ := hc9.at (i := k) (by rw [List.length_map, ← HLs.out.1]; exact hlt)
            cases e1'
            have cx := hcx k (vi x) (by rw [List.getElem?_map, HXk.out]; rfl)
            have r0 := fun y => later_cell cx y
            clear hc9 hcx cx HO10 HO9 HRw HBl
            refine wp_region_seg (C := fun w' => ∃ x : Later (w4), w' = x.val) [.fl [0, 1, 2, 3, 4, 5], .sq [6] true, .sq [7, 8] false] (by kernel_rfl) (by kernel_rfl) (by intro c a d v w h; cases d <;> exact h) ?_
            simp only [segs, picks, List.getElem?_cons_succ, List.getElem?_cons_zero]
            have hC1 := later_drew (w4)
            refine wpSeg_fl hC1 ?_
            repeat (first | (refine wpQuiet_load_arr aggRd D hld hD8 rfl rfl rfl ?_) | go_big_quiet_step (fail) | quiet_step (fail))
            refine wpQuiet_nil ?_
            have HB5 := Lib.hid (HB4.out.trans ((later_below hC1).mono HB4.out.size))
            have HO5 := Lib.hid (HO4.out.keep (fun b hb => (later_below hC1).block b (HO4.out.lt b hb)))
            have HO9c := Lib.hid (HO9b.out.keep (fun b hb => (later_below hC1).block b (HO9b.out.lt b hb)))
            clear r0 hld
            generalize w4.drew = w5 at *
            refine wpSeg_sq (fun K hK => ?_)
            go_wp2_with fail
            refine (HPtr.out _ (HR0.out.below HB5.out (Nat.le_refl _)) (x : Int)).mono ?_
            rintro e w6 ⟨ap, cp, rfl, hcp, hb6⟩
            have HCp := Lib.hid hcp
            have HB6 := Lib.hid (HB5.out.trans (hb6.mono HB5.out.size))
            have HO6 := Lib.hid (HO5.out.keep (fun b hb => hb6.block b (HO5.out.lt b hb)))
            have HO9d := Lib.hid (HO9c.out.keep (fun b hb => hb6.block b (HO9c.out.lt b hb)))
            have hC2 := later_step hC1 hb6
            have hpl := HPl.out (x : Int)
            have HPx := Lib.hid (HPe.out (x : Int))
            obtain ⟨pl, hple⟩ : ∃ pl, pl = (ptrsD S (x : Int)).length := ⟨_, rfl⟩
            rw [← hple] at hpl ⊢
            have HPn := Lib.hid hple
            have hLn : L.length + pl ≤ 1000000000000 := by rw [← HLs.out.1]; omega
            clear hcp hb6 hple
            go_wp2_with fail
            refine hK _ _ (fun _ => hC2) ?_
            clear hK K
            refine wpSeg_last ?_
            go_wp2_with (at_builtin; refine wpList_append_ownI (ys := ptrsD S (x : Int)) (m := pl) HO9d.out HCp.out HPn.out.symm hLn rfl rfl rfl rfl ?_; intro v7 w7 ho7 hg7 hr7; have HO7 := Lib.hid ho7; have HG7 := Lib.hid hg7; have HR7 := Lib.hid hr7; clear ho7 hg7 hr7; obtain ⟨a7, c7, e7, _⟩ := HO7.out.cells; obtain ⟨l7, hl7⟩ : ∃ l7, l7 = (L ++ ptrsD S (x : Int)).length := ⟨_, rfl⟩; rw [← hl7] at e7; have HL7 := Lib.hid hl7; clear hl7; subst e7)
            have hl4' : l4 = n10 + 1 := by rw [HL4.out, HLs.out.2]; simp
            have hl7' : l7 = n9 + pl := by rw [HL7.out, HLs.out.1, HPn.out]; simp
            have HRo : ∀ b, rowOf (.slice a4 l4 c4) = some b → b < w4.heap.size := HO4.out.lt
            have hsz6 : w4.heap.size ≤ w6.heap.size := (later_below hC2).size
            have HO6' : Hid (OwnI w7 (.slice a4 l4 c4) (S' ++ [x])) := Lib.hid (HO6.out.keep (fun b hb => HG7.out.block b (Nat.lt_of_lt_of_le (HRo b hb) hsz6) (fun e => HRw4.out.ne b b e.symm hb rfl)))
            have HRw7 : Hid (Rows2 w0.heap.size (.slice a7 l7 c7) (.slice a4 l4 c4)) := Lib.hid ⟨fun b hb => (by
              rcases HR7.out b hb with c | c
              · exact HRw4.out.one b c
              · rw [c]; exact HB6.out.size), HRw4.out.two, fun b b' hb hb' => (by
              rcases HR7.out b hb with c | c
              · exact HRw4.out.ne b b' c hb'
              · rw [c]; exact fun e => Nat.lt_irrefl _ (e ▸ Nat.lt_of_lt_of_le (HRo b' hb') hsz6))⟩
            have HB7 : Hid (Below w0.heap.size w0 w7) := Lib.hid (by
              have h1 := HB6.out
              refine ⟨HG7.out.os.trans h1.os, HG7.out.tape.trans h1.tape, HG7.out.output.trans h1.output, Nat.le_trans h1.size HG7.out.size, fun k hk => (HG7.out.block k (Nat.lt_of_lt_of_le hk h1.size) (fun e => ?_)).trans (h1.block k hk)⟩
              have := HRw4.out.one k e.symm
              omega)
            have HW7 : Hid (Work (fun x => x ∈ us ∧ x ∉ bl) (fun x : Nat => ptrsD S (x : Int)) fr (S' ++ [x]) ((L ++ ptrsD S (x : Int)).drop (k + 1))) := Lib.hid (by
              rw [List.drop_append_of_le_length (by rw [← HLs.out.1]; omega)]
              exact HWt.out)
            have HLe7 : Hid (∀ y ∈ L ++ ptrsD S (x : Int), y ≤ 1099511627776) := Lib.hid (fun y hy => (List.mem_append.1 hy).elim (HLe.out y) (HPx.out y))
            refine ⟨⟨L ++ ptrsD S (x : Int), S' ++ [x], k + 1, l7, l4, a7, a4, c7, c4, rfl, rfl, vint (by omega), by omega, Lib.hid ⟨HL7.out, HL4.out⟩, HO7, HO6', HRw7, HB7, HW7, by omega, by omega, HLe7⟩, ?_⟩
            simp only [lenV, intOf]; omega
    · obtain rfl : k = n9 := by omega
      have hf : decide ((k : Int) < (k : Int)) = false := by simp
      have HDone : Hid (∀ x, x ∈ S' ↔ Rch (fun x => x ∈ us ∧ x ∉ bl) (fun x : Nat => ptrsD S (x : Int)) fr x) := Lib.hid (by
        have := HWk.out
        rw [HLs.out.1, List.drop_length] at this
        exact this.done)
      have HCS := Lib.hid (show Cells wr a10 (S'.map vi) by
        obtain ⟨a', c', e', hc', _⟩ := HO10.out.cells
        injection e' with e1 _ _
        subst e1
        exact hc')
      have HOut : Hid (∀ j x, us[j]? = some x → (us.take (j + 1)).filter (fun x => S'.contains x || bl.contains x) = (us.take j).filter (fun x => S'.contains x || bl.contains x) ++ (if S'.contains x || bl.contains x then [x] else [])) := Lib.hid (fun j x hx => by
        have h1 := (List.getElem?_eq_some_iff.1 hx).1
        rw [List.take_succ_eq_append_getElem h1, (List.getElem?_eq_some_iff.1 hx).2, List.filter_append]
        congr 1
        simp only [List.filter_cons, List.filter_nil])
      obtain ⟨F, hF⟩ : ∃ F : Nat → List Nat, F = fun j => (us.take j).filter (fun x => S'.contains x || bl.contains x) := ⟨_, rfl⟩
      have HF0 : Hid (F 0 = []) := Lib.hid (by rw [hF]; simp)
      have HFs : Hid (∀ j x, us[j]? = some x → F (j + 1) = F j ++ (if S'.contains x || bl.contains x then [x] else [])) := Lib.hid (fun j x hx => by rw [hF]; exact HOut.out j x hx)
      have HFl : Hid (∀ j, (F j).length ≤ us.length) := Lib.hid (fun j => by rw [hF]; exact Nat.le_trans (List.length_filter_le _ _) (by rw [List.length_take]; omega))
      have HFn : Hid (F nu = us.filter (fun x => S'.contains x || bl.contains x)) := Lib.hid (by rw [hF, ← HU.out]; simp)
      have HBt := Lib.hid (HM.out.below.trans (HBl.out.mono HM.out.below.size))
      obtain ⟨wz, hwz⟩ : ∃ wz, wz = wr := ⟨_, rfl⟩
      have HCU2 := Lib.hid (HCU.out.below HBt.out (Nat.le_refl _))
      have HCB2 := Lib.hid (HCB.out.below HBt.out (Nat.le_refl _))
      have HLs2 := Lib.hid HLs.out.2
      rw [← hwz] at HCS HBt HCU2 HCB2 ⊢
      clear hF hwz HOut HO9 HRw HBl HWk HLe HLs
      go_wp2_with fail
      go_loopw [12, 13] (fun vo i wy => ∃ (j n12 : Nat) (a12 : Option Addr) (c12 : Nat), vo = .slice a12 n12 c12 ∧ i = .int .i64 (j : Int) ∧ j ≤ nu ∧ Hid (n12 = (F j).length) ∧ Hid (OwnI wy (.slice a12 n12 c12) (F j)) ∧ Hid (∀ b, rowOf (.slice a12 n12 c12) = some b → wz.heap.size ≤ b) ∧ Hid (Below wz.heap.size wz wy)) (fun _ i _ => nu - (intOf i).toNat)
      case atStart => exact ⟨0, 0, none, 0, rfl, rfl, Nat.zero_le _, Lib.hid (by rw [HF0.out]; rfl), Lib.hid (by rw [HF0.out]; exact OwnI.nil _), Lib.hid (fun b hb => (by cases hb)), Lib.hid (Below.refl _ _)⟩
      case round =>
        obtain ⟨j, n12, a12, c12, rfl, rfl, hj, HN12, HO12, HR12, HBy⟩ := hrel
        by_cases hjlt : j < nu
        · have hjlt' : (j : Int) < (nu : Int) := by omega
          obtain ⟨b1, o1, rfl, _, hcx⟩ := (HCU2.out.below HBy.out (Nat.le_refl _)).at (i := j) (by rw [List.length_map, HU.out]; exact hjlt)
          obtain ⟨x, hx⟩ : ∃ x, us[j]? = some x := ⟨_, List.getElem?_eq_getElem (by rw [HU.out]; exact hjlt)⟩
          have cx := hcx j (vi x) (by rw [List.getElem?_map, hx]; rfl)
          have HFx := Lib.hid (HFs.out j x hx)
          have HG2 := Lib.hid (rfind22_any a10 n10 c10 S' HLs2.out.symm (HCS.out.below HBy.out (Nat.le_refl _)) (by omega) x)
          have HG3 := Lib.hid (rfind22_any ab nb cb bl HB.out (HCB2.out.below HBy.out (Nat.le_refl _)) (by omega) x)
          have hx9 : x < 2048 := HUs.out x (List.mem_of_getElem? hx)
          have hFl := HFl.out j
          rw [HU.out] at hFl
          clear hcx hx
          have hN1 : (F j).length + 1 ≤ 1000000000000 := by omega
          cases hc2 : S'.contains x with
          | true =>
            rw [hc2] at HG2 HFx
            clear hc2 HG3
            go_wp2_with fail
            refine HG2.out.mono ?_
            rintro e w3 ⟨rfl, rfl⟩
            go_wp2_with (at_builtin; refine wpList_append_newI (ys := [x]) (m := 1) (B := wz.heap.size) HO12.out (below_alloc _ _) HR12.out (Nat.le_trans HBy.out.size (below_alloc _ _).size) (RowAt.cells ⟨_, heap_alloc_new _ _, [], rfl⟩) rfl hN1 rfl rfl rfl rfl ?_; intro v4 w4 ho4 hb4 hr4; have HO4 := Lib.hid ho4; have HB4 := Lib.hid hb4; have HR4 := Lib.hid hr4; clear ho4 hb4 hr4; obtain ⟨a4, c4, e4, _⟩ := HO4.out.cells; obtain ⟨l4, hl4⟩ : ∃ l4, l4 = (F j ++ [x]).length := ⟨_, rfl⟩; rw [← hl4] at e4; have HL4 := Lib.hid hl4; clear hl4; subst e4)
            refine ⟨⟨j + 1, l4, a4, c4, rfl, vint (by omega), by omega, Lib.hid (by rw [HFx.out, HL4.out]; simp), Lib.hid (by have := HO4.out; rw [HFx.out]; simpa using this), HR4, Lib.hid ((HBy.out.trans ((below_alloc _ _).mono HBy.out.size)).trans HB4.out)⟩, by simp [intOf]; omega⟩
          | false =>
            rw [hc2] at HG2 HFx
            cases hc3 : bl.contains x with
            | true =>
              rw [hc3] at HG3 HFx
              clear hc2 hc3
              go_wp2_with fail
              refine HG2.out.mono ?_
              rintro e w3 ⟨rfl, rfl⟩
              go_wp2_with fail
              refine HG3.out.mono ?_
              rintro e w3 ⟨rfl, rfl⟩
              go_wp2_with (at_builtin; refine wpList_append_newI (ys := [x]) (m := 1) (B := wz.heap.size) HO12.out (below_alloc _ _) HR12.out (Nat.le_trans HBy.out.size (below_alloc _ _).size) (RowAt.cells ⟨_, heap_alloc_new _ _, [], rfl⟩) rfl hN1 rfl rfl rfl rfl ?_; intro v4 w4 ho4 hb4 hr4; have HO4 := Lib.hid ho4; have HB4 := Lib.hid hb4; have HR4 := Lib.hid hr4; clear ho4 hb4 hr4; obtain ⟨a4, c4, e4, _⟩ := HO4.out.cells; obtain ⟨l4, hl4⟩ : ∃ l4, l4 = (F j ++ [x]).length := ⟨_, rfl⟩; rw [← hl4] at e4; have HL4 := Lib.hid hl4; clear hl4; subst e4)
              refine ⟨⟨j + 1, l4, a4, c4, rfl, vint (by omega), by omega, Lib.hid (by rw [HFx.out, HL4.out]; simp), Lib.hid (by have := HO4.out; rw [HFx.out]; simpa using this), HR4, Lib.hid ((HBy.out.trans ((below_alloc _ _).mono HBy.out.size)).trans HB4.out)⟩, by simp [intOf]; omega⟩
            | false =>
              rw [hc3] at HG3 HFx
              clear hc2 hc3
              have HO' := Lib.hid (show OwnI _ (.slice a12 n12 c12) (F (j + 1)) from (by rw [HFx.out]; simpa using HO12.out))
              have HN' : Hid (n12 = (F (j + 1)).length) := Lib.hid (by rw [HFx.out]; simpa using HN12.out)
              go_wp2_with fail
              refine HG2.out.mono ?_
              rintro e w3 ⟨rfl, rfl⟩
              go_wp2_with fail
              refine HG3.out.mono ?_
              rintro e w3 ⟨rfl, rfl⟩
              go_wp2_with fail
              exact ⟨⟨j + 1, n12, a12, c12, rfl, vint (by omega), by omega, HN', HO', HR12, HBy⟩, by simp [intOf]; omega⟩
        · obtain rfl : j = nu := by omega
          have hf : decide ((j : Int) < (j : Int)) = false := by simp
          have HEnd := Lib.hid (HBt.out.trans (HBy.out.mono HBt.out.size))
          obtain ⟨a', c', e', hc', hcl, _⟩ := HO12.out.cells
          rw [← HN12.out] at e'
          cases e'
          have HCo := Lib.hid hc'
          have HFr : Hid (us.filter (fun x => S'.contains x || bl.contains x) ≠ [] → ∀ x, a12 = some x → w.heap.size ≤ x.block) := Lib.hid (fun h x hx => by
            subst hx
            rw [← HFn.out] at h
            have h0 : 0 < (F j).length := List.length_pos_iff.2 h
            have h1 : rowOf (.slice (some x) n12 c12) = some x.block := by
              show (if c12 = 0 then none else some x.block) = some x.block
              rw [if_neg (by omega)]
            exact Nat.le_trans HBt.out.size (HR12.out _ h1))
          have HNo : Hid (n12 = (us.filter (fun x => S'.contains x || bl.contains x)).length) := Lib.hid (by rw [← HFn.out]; exact HN12.out)
          rw [HFn.out] at HCo
          clear hc' hcl HO12 HN12
          go_wp2_with fail
          rw [HNo.out]
          exact HP.out S' _ _ _ HDone.out HCo.out HEnd.out HFr.out
end Go.Proofs.YtfedgcdkagngnaaGreat

/- law22: MarkCloses. -/
namespace Go.Proofs.YtfedgcdkagngnaaGreat
open Go.RowKit Go.Maps
set_option linter.unusedVariables false

section
variable {w wr w' : World} {Q Q' : List Nat} {A : AF} {n N : Nat} {m : Al} {v : Value} {xs : List Nat} {K : MkF} {M : Mk}
/-- The caller's own blocks change, and there are more. -/
theorem HMk.grow (h : HMk w wr Q A n N m v xs K M) (ht : Touch Q wr w') (hQ : ∀ k ∈ Q', k ∈ Q ∨ (wr.heap.size ≤ k ∧ k < w'.heap.size)) : HMk w w' Q' A n N m v xs K M := by
  have h' := h.own ht
  have hs := h.hp.below.size
  refine ⟨⟨h'.hp.at_, h'.hp.ok, h'.hp.steps, fun k hk => ⟨(h'.hp.new k hk).1, fun hq => ?_⟩, fun b hb => ⟨(h'.hp.newv b hb).1, fun hq => ?_⟩, fun k hk => ?_, h'.hp.below⟩, h'.mr, fun k hk => ?_, fun k hk hm => ?_, h.lm, h.ls⟩
  · rcases List.mem_append.1 hq with c | c
    · rcases hQ k c with c | c
      · exact (h.hp.new k hk).2 (List.mem_append_left _ c)
      · have := h.hp.at_.al.mem k hk; omega
    · exact (h.hp.new k hk).2 (List.mem_append_right _ c)
  · rcases List.mem_append.1 hq with c | c
    · rcases hQ b c with c | c
      · exact (h.hp.newv b hb).2 (List.mem_append_left _ c)
      · have := h.hp.at_.own.lt b hb; omega
    · exact (h.hp.newv b hb).2 (List.mem_append_right _ c)
  · rcases List.mem_append.1 hk with c | c
    · rcases hQ k c with c | c
      · exact h'.hp.qlt k (List.mem_append_left _ c)
      · exact c.2
    · exact h'.hp.qlt k (List.mem_append_right _ c)
  · rcases List.mem_append.1 hk with c | c
    · rcases hQ k c with c | c
      · exact h.lo k (List.mem_append_left _ c)
      · omega
    · exact h.lo k (List.mem_append_right _ c)
  · rcases hQ k hk with c | c
    · exact h.qk k c hm
    · have := h.mr.mem k hm; omega
end

/-- A list of the call's own, in a row apart from its other blocks. -/
structure Own1 (w1 wr : World) (q : Nat) (v : Value) (xs : List Nat) : Prop where
  own : OwnI wr v xs
  new : ∀ b, rowOf v = some b → w1.heap.size ≤ b ∧ b ≠ q
theorem Own1.nil (w1 wr : World) (q : Nat) : Own1 w1 wr q (.slice none 0 0) [] := ⟨OwnI.nil _, fun b hb => by cases hb⟩
theorem Own1.off {w1 wr w' : World} {q : Nat} {v : Value} {xs Q : List Nat} (h : Own1 w1 wr q v xs) (ho : Off Q wr w') (hQ : ∀ b, rowOf v = some b → b ∈ Q) : Own1 w1 w' q v xs :=
  ⟨h.own.keep (fun b hb => ho.block (hQ b hb) (h.own.lt b hb)), h.new⟩
theorem Own1.below {w1 wr w' : World} {q : Nat} {v : Value} {xs : List Nat} (h : Own1 w1 wr q v xs) (hb : Below wr.heap.size wr w') : Own1 w1 w' q v xs :=
  ⟨h.own.keep (fun b hb' => hb.block b (h.own.lt b hb')), h.new⟩

/-- Behind the first loop: so many are black. -/
structure StA (w1 w2 wc : World) (q : Nat) (A : AF) (n : Nat) (m : Al) (sa : Option Addr) (l sc : Nat) (xs : List Nat) (K : MkF) (v' : Value) (M : Mk) (vg : Value) (G : List Nat) : Prop where
  hm : HMk w1 wc (q :: (rowOf vg).toList) A n 25000000 m (.slice sa l sc) xs (K.re v') M
  mr : MemR w2.heap.size wc [⟨q, 28, [valloc A, vdev A.X.F, .slice sa l sc], true⟩]
  cl : Closes m.used (ptrsO m) G [] M
  no : ∀ x, M.ms.getD x false = true → x ∈ G
  ow : Own1 w1 wc q vg G
  ft : M.Fits 0
  ms : M.most ≤ 127
  lt : ∀ x ∈ G, x < 2048
section
variable {w1 w2 wc w' : World} {q : Nat} {A : AF} {n : Nat} {m : Al} {sa : Option Addr} {l sc : Nat} {xs : List Nat} {K : MkF} {v' : Value} {M : Mk} {vg : Value} {G : List Nat}
theorem StA.below (h : StA w1 w2 wc q A n m sa l sc xs K v' M vg G) (hb : Below wc.heap.size wc w') : StA w1 w2 w' q A n m sa l sc xs K v' M vg G :=
  ⟨h.hm.later hb, h.mr.later hb, h.cl, h.no, h.ow.below hb, h.ft, h.ms, h.lt⟩
/-- One more is black. -/
theorem StA.blacken (h : StA w1 w2 wc q A n m sa l sc xs K v' M vg G) {x : Nat} (hx : x ∈ xs) {w8 w9 wa : World} (hg : MAGo wc w8 A n 4 m (K.re v') (M.blacken x)) (hb : Below w8.heap.size w8 w9) {vg' : Value} (ho : OwnI wa vg' (G ++ [x])) (hgr : w9.grownBy wa (rowOf vg)) (hr : ∀ b, rowOf vg' = some b → rowOf vg = some b ∨ b = w9.heap.size) :
    ∃ v2, StA w1 w2 wa q A n m sa l sc xs K v2 (M.blacken x) vg' (G ++ [x]) := by
  have hu := h.hm.hp.ok.us x hx
  have hl := h.hm.hp.ok.lt hx
  obtain ⟨v2, h8, o8⟩ := h.hm.go hg
  have h9 := h8.later hb
  have hq9 : ∀ b, rowOf vg = some b → w1.heap.size ≤ b ∧ b ≠ q := h.ow.new
  have hq : q < w9.heap.size := h9.hp.qlt q (by simp)
  have hw1 : w1.heap.size ≤ w9.heap.size := h9.hp.below.size
  have ht : Touch (q :: (rowOf vg).toList) w9 wa := (grown_touchO hgr).wide (fun b hb => List.mem_cons_of_mem _ hb)
  have hlt := ho.lt
  have hC := h.cl.blacken h.no hu
  refine ⟨v2, ⟨h9.grow ht (fun k hk => ?_), ?_, hC.1, hC.2, ⟨ho, fun b hb => ?_⟩, ⟨h.ft.st, h.ft.miss⟩, h.ms, fun y hy => ?_⟩⟩
  · rcases List.mem_cons.1 hk with rfl | hk
    · exact .inl (by simp)
    · have hk' : rowOf vg' = some k := by simpa using hk
      rcases hr k hk' with c | c
      · exact .inl (by simp [c])
      · exact .inr ⟨by omega, hlt k hk'⟩
  · refine ((h.mr.off o8 (by simp)).later hb).apart (grown_touchO hgr) (fun y hy hm => ?_)
    simp only [List.mem_singleton] at hy
    subst hy
    have : rowOf vg = some q := by simpa using hm
    exact (hq9 q this).2 rfl
  · rcases hr b hb with c | c
    · exact hq9 b c
    · rw [c]; exact ⟨hw1, by omega⟩
  · rcases List.mem_append.1 hy with c | c
    · exact h.lt y c
    · simp at c; subst c; omega
end

theorem ms_list {U : List Bool} {P : Nat → List Nat} {G F seen : List Nat} {M : Mk} (h : Closes U P G F M) (hg : ∀ x, M.colour x ≠ 1) (hs : ∀ x, x ∈ seen ↔ Rch (fun x => x ∈ onesL U ∧ x ∉ G) P F x) : onesL M.ms = (onesL U).filter (fun x => seen.contains x || G.contains x) := by
  have hr : ∀ x, Rch (fun x => x ∈ onesL U ∧ x ∉ G) P F x ↔ Rch (fun x => U.getD x false = true ∧ x ∉ G) P F x := fun x => by
    constructor
    · intro hx
      induction hx with
      | base hm hx => exact .base hm ⟨mem_onesL.1 hx.1, hx.2⟩
      | step _ hm hx ih => exact .step ih hm ⟨mem_onesL.1 hx.1, hx.2⟩
    · intro hx
      induction hx with
      | base hm hx => exact .base hm ⟨mem_onesL.2 hx.1, hx.2⟩
      | step _ hm hx ih => exact .step ih hm ⟨mem_onesL.2 hx.1, hx.2⟩
  have hq : ∀ x, M.ms.getD x false = true ↔ (U.getD x false = true ∧ (seen.contains x || G.contains x) = true) := fun x => by
    rw [h.end_ hg x]
    simp only [Bool.or_eq_true, List.contains_iff_mem]
    rw [hs x, hr x]
    constructor
    · rintro (c | c)
      · exact ⟨h.ok.mu x (h.ok.sm x (h.gone x c)), .inr c⟩
      · exact ⟨c.ok'.1, .inl c⟩
    · rintro ⟨_, c | c⟩
      · exact .inr c
      · exact .inl c
  unfold onesL
  rw [List.filter_filter, h.ok.lm]
  refine List.filter_congr (fun x _ => ?_)
  rw [Bool.eq_iff_iff, hq x]
  simp only [Bool.and_eq_true]
  exact ⟨fun ⟨a, b⟩ => ⟨b, a⟩, fun ⟨a, b⟩ => ⟨b, a⟩⟩
theorem left_le (n : Nat) (M : Mk) : M.left n ≤ 2 * n + 1 := by
  unfold Mk.left
  split <;> omega
theorem clear_ends {U : List Bool} {P : Nat → List Nat} {M : Mk} (h : MkOk U M) : (M.clear.step U P).1 = false ∧ M.clear.ms.count true = 0 := by
  have hz : ∀ (k x : Nat), (List.replicate k false).getD x false = false := fun k x => by
    rw [List.getD_eq_getElem?_getD, List.getElem?_replicate]; split <;> rfl
  have hc : ∀ x, M.clear.colour x ≠ 1 := fun x hx => by
    have := ((M.clear.colour_grey x).1 hx).1
    unfold Mk.clear at this
    dsimp only at this
    rw [hz] at this; cases this
  refine ⟨Mk.step_end ⟨by simp [Mk.clear, h.lm], by simp [Mk.clear, h.ls], fun a ha => ?_, fun a ha => ?_⟩ (fun x hx => absurd hx (hc x)) hc rfl, by simp [Mk.clear, List.count_replicate]⟩
  · unfold Mk.clear at ha; dsimp only at ha; rw [hz] at ha; cases ha
  · unfold Mk.clear at ha; dsimp only at ha; rw [hz] at ha; cases ha

/-- A heap, a marker, two lists. -/
structure MemB (w1 w2 wc : World) (q : Nat) (A : AF) (n : Nat) (m : Al) (sa : Option Addr) (l sc : Nat) (xs : List Nat) (K : MkF) (v' : Value) (M : Mk) (vg : Value) (G : List Nat) (vf : Value) (F : List Nat) : Prop where
  hm : HMk w1 wc (q :: ((rowOf vg).toList ++ (rowOf vf).toList)) A n 25000000 m (.slice sa l sc) xs (K.re v') M
  mr : MemR w2.heap.size wc [⟨q, 28, [valloc A, vdev A.X.F, .slice sa l sc], true⟩]
  og : Own1 w1 wc q vg G
  of_ : Own1 w1 wc q vf F
  ne : ∀ b b', rowOf vg = some b → rowOf vf = some b' → b ≠ b'
section
variable {w1 w2 wc w' : World} {q : Nat} {A : AF} {n : Nat} {m : Al} {sa : Option Addr} {l sc : Nat} {xs : List Nat} {K : MkF} {v' : Value} {M M' : Mk} {vg vf : Value} {G F : List Nat}
theorem StA.memB (h : StA w1 w2 wc q A n m sa l sc xs K v' M vg G) : MemB w1 w2 wc q A n m sa l sc xs K v' M vg G (.slice none 0 0) [] :=
  ⟨h.hm.less (fun k hk => by
    have : rowOf (.slice none 0 0) = none := rfl
    rw [this] at hk
    simpa using hk), h.mr, h.ow, Own1.nil _ _ _, fun b b' _ hb => by cases hb⟩
theorem MemB.below (h : MemB w1 w2 wc q A n m sa l sc xs K v' M vg G vf F) (hb : Below wc.heap.size wc w') : MemB w1 w2 w' q A n m sa l sc xs K v' M vg G vf F :=
  ⟨h.hm.later hb, h.mr.later hb, h.og.below hb, h.of_.below hb, h.ne⟩
theorem MemB.go (h : MemB w1 w2 wc q A n m sa l sc xs K v' M vg G vf F) (hg : MAGo wc w' A n 4 m (K.re v') M') : ∃ v2, MemB w1 w2 w' q A n m sa l sc xs K v2 M' vg G vf F := by
  obtain ⟨v2, h8, o8⟩ := h.hm.go hg
  exact ⟨v2, h8, h.mr.off o8 (by simp), h.og.off o8 (fun b hb => by simp [hb]), h.of_.off o8 (fun b hb => by simp [hb]), h.ne⟩
/-- A row that the marker's calls leave. -/
def FarC (wc : World) (aw : Option Addr) (vs : List Value) (L : List Nat) : Prop := vs ≠ [] → ∀ x, aw = some x → x.block < wc.heap.size ∧ x.block ∉ L
theorem MemB.go2 (h : MemB w1 w2 wc q A n m sa l sc xs K v' M vg G vf F) {aw : Option Addr} {vs : List Value} (hf : FarC wc aw vs (K.re v').list) (hc : Cells wc aw vs) (hg : MAGo wc w' A n 4 m (K.re v') M') :
    ∃ v2, MemB w1 w2 w' q A n m sa l sc xs K v2 M' vg G vf F ∧ FarC w' aw vs (K.re v2).list ∧ Cells w' aw vs := by
  obtain ⟨v2, g1, g2, g3⟩ := hg
  have hc' : Cells w' aw vs := by
    by_cases hv : vs = []
    · exact .inl hv
    · exact hc.touchL g2 (fun x hx _ => (hf hv x hx).2)
  have hf' : FarC w' aw vs ((K.re v').re v2).list := fun hv x hx => by
    obtain ⟨h1, h2⟩ := hf hv x hx
    refine ⟨Nat.lt_of_lt_of_le h1 g2.size, fun hm => ?_⟩
    rcases MkF.list_re hm with c | c
    · exact h2 (by simp only [MkF.list, List.mem_append]; exact .inl c)
    · rcases g3 _ c with c | c
      · exact h2 (by simp only [MkF.list, List.mem_append, Option.mem_toList]; exact .inr c)
      · omega
  -- the same row of the stack
  have hmm : MA w' A n 4 m ((K.re v').re v2) M' := g1
  have o8 : Off (q :: ((rowOf vg).toList ++ (rowOf vf).toList)) wc w' := ⟨(K.re v').list, g2, h.hm.qk⟩
  have hp' := h.hm.hp.own (g2.wide (fun b hb => List.mem_append_right _ hb)) h.hm.lo
  have key : ∀ k ∈ ((K.re v').re v2).list, k ∈ (K.re v').list ∨ wc.heap.size ≤ k := fun k hk => by
    rcases MkF.list_re hk with c | c
    · exact .inl (by simp [MkF.list, c])
    · rcases g3 k c with c | c
      · exact .inl (by simp [MkF.list, c])
      · exact .inr c
  have hsz := h.hm.hp.below.size
  refine ⟨v2, ⟨⟨⟨hp'.at_, hp'.ok, hp'.steps, fun k hk => ⟨(hp'.new k hk).1, fun hq => ?_⟩, fun b hb => ⟨(hp'.newv b hb).1, fun hq => ?_⟩, fun k hk => ?_, hp'.below⟩, g1.mr, fun k hk => ?_, fun k hk hm => ?_, g1.lm, g1.ls⟩, h.mr.off o8 (by simp), h.og.off o8 (fun b hb => by simp [hb]), h.of_.off o8 (fun b hb => by simp [hb]), h.ne⟩, hf', hc'⟩
  · rcases List.mem_append.1 hq with c | c
    · exact (h.hm.hp.new k hk).2 (List.mem_append_left _ c)
    · exact g1.ap k hk c
  · rcases List.mem_append.1 hq with c | c
    · exact (h.hm.hp.newv b hb).2 (List.mem_append_left _ c)
    · rcases key b c with c | c
      · exact (h.hm.hp.newv b hb).2 (List.mem_append_right _ c)
      · have := h.hm.hp.at_.own.lt b hb; omega
  · rcases List.mem_append.1 hk with c | c
    · exact hp'.qlt k (List.mem_append_left _ c)
    · exact g1.mr.mem k c
  · rcases List.mem_append.1 hk with c | c
    · exact h.hm.lo k (List.mem_append_left _ c)
    · rcases key k c with c | c
      · exact h.hm.lo k (List.mem_append_right _ c)
      · omega
  · rcases key k hm with c | c
    · exact h.hm.qk k hk c
    · have := h.hm.hp.qlt k (List.mem_append_left _ hk); omega
/-- One more in the second list. -/
theorem MemB.app (h : MemB w1 w2 wc q A n m sa l sc xs K v' M vg G vf F) {w9 wa : World} (hb : Below wc.heap.size wc w9) {vf' : Value} {F' : List Nat} (ho : OwnI wa vf' F') (hgr : w9.grownBy wa (rowOf vf)) (hr : ∀ b, rowOf vf' = some b → rowOf vf = some b ∨ b = w9.heap.size) :
    MemB w1 w2 wa q A n m sa l sc xs K v' M vg G vf' F' := by
  have h9 := h.below hb
  have hq : q < w9.heap.size := h9.hm.hp.qlt q (by simp)
  have hw1 : w1.heap.size ≤ w9.heap.size := h9.hm.hp.below.size
  have ht : Touch (q :: ((rowOf vg).toList ++ (rowOf vf).toList)) w9 wa := (grown_touchO hgr).wide (fun b hb => by simp at hb; simp [hb])
  have hlt := ho.lt
  have hkg : ∀ b, rowOf vg = some b → wa.heap[b]? = w9.heap[b]? := fun b hb => hgr.block b (h9.og.own.lt b hb) (fun e => h.ne b b hb e.symm rfl)
  refine ⟨h9.hm.grow ht (fun k hk => ?_), ?_, ⟨h9.og.own.keep hkg, h.og.new⟩, ⟨ho, fun b hb => ?_⟩, fun b b' hb hb' => ?_⟩
  · simp only [List.mem_cons, List.mem_append, Option.mem_toList] at hk
    rcases hk with rfl | hk | hk
    · exact .inl (by simp)
    · exact .inl (by simp [hk])
    · rcases hr k hk with c | c
      · exact .inl (by simp [c])
      · exact .inr ⟨by omega, hlt k hk⟩
  · refine h9.mr.apart (grown_touchO hgr) (fun y hy hm => ?_)
    simp only [List.mem_singleton] at hy
    subst hy
    have : rowOf vf = some q := by simpa using hm
    exact (h.of_.new q this).2 rfl
  · rcases hr b hb with c | c
    · exact h.of_.new b c
    · rw [c]; exact ⟨hw1, by omega⟩
  · rcases hr b' hb' with c | c
    · exact h.ne b b' hb c
    · have := h9.og.own.lt b hb; omega
end

set_option maxHeartbeats 8000000 in
set_option maxRecDepth 100000 in
theorem markCloses_any (a : Option Addr) (mm cap : Nat) (s : List Op20) (hm : s.length = mm) (a2 : Option Addr) (tn cap2 : Nat) (t : List Int) (ht : t.length = tn) (a3 : Option Addr) (zn cap3 : Nat) (z : List Int) (hz : z.length = zn) (most : Int) (hmo1 : -128 ≤ most) (hmo : most ≤ 127) (w : World)
    (hcs : Cells w a (recs Op20.cs s)) (hct : Cells w a2 (t.map (Value.int .i64))) (hcz : Cells w a3 (z.map (Value.int .i64))) (hmm : mm ≤ maxLen) (htn : tn ≤ maxLen) (hzn : zn ≤ maxLen) :
    Calls Tryz.prog 8 #[.slice a mm cap, .int .i8 most, .agg #[.slice a2 tn cap2, .slice a3 zn cap3]] w (Gives (.bool true) w) := by
  unfold maxLen at htn hzn
  have HM := Lib.hid hm
  have HCS := Lib.hid hcs
  have HCT := Lib.hid hct
  have HT := Lib.hid ht
  have HMM := Lib.hid hmm
  have HCZ := Lib.hid hcz
  have HZ := Lib.hid hz
  clear hm hcs hct ht hmm hcz hz
  have HP : Hid (∀ w', Below w.heap.size w w' → Gives (.bool true) w (.returned (.bool true)) w') := Lib.hid (fun w' h => ⟨rfl, h⟩)
  generalize Gives (.bool true) w = Post at *
  have HBx := Lib.hid (below_alloc w (.cells #[.slice a2 tn cap2, .slice a3 zn cap3] 88))
  have HRx : Hid (MemR w.heap.size (w.alloc (.cells #[.slice a2 tn cap2, .slice a3 zn cap3] 88)) [⟨w.heap.size, 88, [.slice a2 tn cap2, .slice a3 zn cap3], true⟩]) := Lib.hid (Mem.one w #[.slice a2 tn cap2, .slice a3 zn cap3] 88).r
  go_enter Tryz.func8, Tryz.ntmps8
  go_upto_region 1 with fail
  obtain ⟨xb, hxb⟩ : ∃ xb, xb = w.heap.size := ⟨_, rfl⟩
  rw [← hxb] at HRx ⊢
  clear hxb
  generalize w.alloc _ = w0 at *
  go_wp2_with fail
  refine (awake22_any _).mono ?_
  rintro e w1' ⟨rfl, hb1⟩
  have HB1' := Lib.hid (HBx.out.trans (hb1.mono HBx.out.size))
  have HRx1 := Lib.hid (HRx.out.later hb1)
  have d0 := HRx1.out.cell 0 0 rfl rfl
  have d1 := HRx1.out.cell 0 1 rfl rfl
  have r0 := fun x => later_cell d0 x
  have r1 := fun x => later_cell d1 x
  clear hb1 HRx HBx
  go_upto_region 3 with fail
  refine wp_region_later (by kernel_rfl) (by kernel_rfl) ?_
  repeat (quiet_step (fail))
  refine wpQuiet_nil ?_
  rintro w1 ⟨x1, hx1⟩
  have HB1 := Lib.hid (HB1'.out.trans ((show Below w1'.heap.size w1' w1 by rw [hx1]; exact x1.below).mono HB1'.out.size))
  clear hx1 r0 r1 d0 d1 HRx1 HB1'
  go_wp2_with fail
  refine (made22_any a mm cap s HM.out w1 (HCS.out.below HB1.out (Nat.le_refl _)) HMM.out).mono ?_
  rintro e w2 ⟨A, n, m, v, xs, rfl, hh, hn, hf, _, _⟩
  obtain ⟨sa, sc, rfl, _⟩ := hh.at_.own.cells
  have HFu := Lib.hid hf
  have HMb := Lib.hid (Mem.one w2 #[valloc A, vdev A.X.F, .slice sa xs.length sc] 28)
  have HHp : Hid (Hp w1 (w2.alloc (.cells #[valloc A, vdev A.X.F, .slice sa xs.length sc] 28)) [w2.heap.size] A n 4 25000000 m (.slice sa xs.length sc) xs) := Lib.hid (hh.more (fun k hk => by simp at hk; subst hk; exact .inr ⟨Nat.le_refl _, by simp⟩) (below_alloc _ _))
  have hq2 : Hid (w1.heap.size ≤ w2.heap.size) := Lib.hid hh.below.size
  obtain ⟨l, hl⟩ : ∃ l, l = xs.length := ⟨_, rfl⟩
  rw [← hl] at HMb HHp ⊢
  have HL := Lib.hid hl
  have hl2 : l ≤ 2048 := by rw [hl]; exact hh.ok.len
  clear hh hn hf hl
  go_upto_region 5 with fail
  generalize w2.alloc _ = w3 at *
  obtain ⟨q, hq⟩ : ∃ q, q = w2.heap.size := ⟨_, rfl⟩
  rw [← hq] at HMb HHp hq2 ⊢
  have HQ := Lib.hid hq
  clear hq
  have c0 := HMb.out.cell 0 0 rfl rfl
  go_wp2_with fail
  refine (mnew_any HHp.out.at_.al (by rw [HHp.out.ok.ok.lenU]; omega) most (by omega)).mono ?_
  rintro e w4 ⟨K, rfl, hm4, hb4, hk4⟩
  have HH4 : Hid (HMk w1 w4 [q] A n 25000000 m (.slice sa l sc) xs K (Mk.new m.used.length most.toNat)) := Lib.hid (HMk.new HHp.out (by intro k hk; simp at hk; subst hk; exact hq2.out) hb4 hm4 hk4)
  have HMb4 := Lib.hid (HMb.out.r.later hb4)
  have HCl0 := Lib.hid (Closes.new m.used (ptrsO m) most.toNat)
  have HFt0 := Lib.hid (Mk.Fits.new m.used.length most.toNat)
  have HMs0 : Hid ((Mk.new m.used.length most.toNat).most ≤ 127) := Lib.hid (show most.toNat ≤ 127 by omega)
  have HNo0 : Hid (∀ x, (Mk.new m.used.length most.toNat).ms.getD x false = true → x ∈ ([] : List Nat)) := Lib.hid (fun x hx => by rw [Mk.new_ms] at hx; cases hx)
  clear hm4 hb4 hk4 c0 hq2 HMb HHp
  go_upto_block 0 with fail
  go_cut [13] (fun vg wc => ∃ (v' : Value) (M : Mk) (G : List Nat) (n13 : Nat) (a13 : Option Addr) (c13 : Nat), vg = .slice a13 n13 c13 ∧ n13 ≤ 10 ∧ Hid (n13 = G.length) ∧ Hid (StA w1 w2 wc q A n m sa l sc xs K v' M (.slice a13 n13 c13) G))
  case first =>
    go_wp2_with fail
    go_loopw [13, 14] (fun vg i wr => ∃ (k : Nat) (v' : Value) (M : Mk) (G : List Nat) (n13 : Nat) (a13 : Option Addr) (c13 : Nat), vg = .slice a13 n13 c13 ∧ i = .int .i64 (k : Int) ∧ k ≤ zn ∧ k ≤ 10 ∧ n13 ≤ k ∧ Hid (n13 = G.length) ∧ Hid (StA w1 w2 wr q A n m sa l sc xs K v' M (.slice a13 n13 c13) G)) (fun _ i _ => 10 - (intOf i).toNat)
    case atStart => exact ⟨0, K.v, _, [], 0, none, 0, rfl, rfl, Nat.zero_le _, Nat.zero_le _, Nat.le_refl _, Lib.hid rfl, Lib.hid ⟨HH4.out, HMb4.out, HCl0.out, HNo0.out, Own1.nil _ _ _, HFt0.out, HMs0.out, by simp⟩⟩
    case round =>
      clear HH4 HMb4 HCl0 HNo0 HFt0 HMs0
      obtain ⟨k, v', M, G, n13, a13, c13, rfl, rfl, hkz, hk10, hnk, HNg, HSt⟩ := hrel
      by_cases hlt : k < zn ∧ k < 10
      · obtain ⟨h1, h2⟩ := hlt
        have h1' : (k : Int) < (zn : Int) := by omega
        have h2' : (k : Int) < 10 := by omega
        have hcz := HCZ.out.below (HB1.out.trans (HSt.out.hm.below.mono HB1.out.size)) (Nat.le_refl _)
        obtain ⟨b1, o1, rfl, _, hcx⟩ := hcz.at (i := k) (by rw [List.length_map, HZ.out]; exact h1)
        obtain ⟨zi, hzi⟩ : ∃ zi, z[k]? = some zi := ⟨_, List.getElem?_eq_getElem (by rw [HZ.out]; exact h1)⟩
        have cz := hcx k (.int .i64 zi) (by rw [List.getElem?_map, hzi]; rfl)
        have c0 := HSt.out.mr.cell 0 0 rfl rfl
        have c1 := HSt.out.mr.cell 0 1 rfl rfl
        have c2 := HSt.out.mr.cell 0 2 rfl rfl
        have r0 := fun x => later_cell c0 x
        have r1 := fun x => later_cell c1 x
        have r2 := fun x => later_cell c2 x
        have r3 := fun x => later_cell cz x
        clear hcz hcx hzi
        go_upto_region 14 with fail
        refine wp_region_seg (C := fun w' => ∃ x : Later (wr), w' = x.val) [.fl [0, 1, 2, 3, 4], .sq [5, 6] false] (by kernel_rfl) (by kernel_rfl) (by intro c a d v w h; cases d <;> exact h) ?_
        simp only [segs, picks, List.getElem?_cons_succ, List.getElem?_cons_zero]
        have hC1 := later_drew (wr)
        refine wpSeg_fl hC1 ?_
        repeat (first | go_big_quiet_step (fail) | quiet_step (fail))
        refine wpQuiet_nil ?_
        have HS6 := Lib.hid (HSt.out.below (later_below hC1))
        clear r0 r1 r2 r3 c0 c1 c2 cz HSt
        generalize wr.drew = w6 at *
        refine wpSeg_last ?_
        go_wp2_with fail
        refine (wpick_any _ _ _ xs HS6.out.hm.hp.at_.own (by have := HS6.out.hm.xlen; omega) zi).mono ?_
        rintro e w7 ⟨rfl, hb7⟩
        have HS7 := Lib.hid (HS6.out.below hb7)
        have HPx : Hid (pickN xs zi ≠ 0 → pickN xs zi ∈ xs) := Lib.hid pickN_mem
        generalize pickN xs zi = x at *
        clear hb7 HS6 hC1
        by_cases hx0 : x = 0
        · subst hx0
          go_wp2_with fail
          refine ⟨⟨k + 1, v', M, G, n13, a13, c13, rfl, vint (by omega), by omega, by omega, by omega, HNg, HS7⟩, ?_⟩
          simp [intOf]; omega
        · have hxt : decide ((0 : Int) < (x : Int)) = true := by simp; omega
          have HBl := Lib.hid (mblacken_any HS7.out.hm.ma x)
          change Hid (Calls Tryz.prog 42 #[.pointer (some ⟨K.p, 0, none⟩), .int .i64 (x : Int)] w7 _) at HBl
          have HXs := Lib.hid (HPx.out hx0)
          have hGn : G.length + 1 ≤ 1000000000000 := by rw [← HNg.out]; omega
          go_wp2_with fail
          refine HBl.out.mono ?_
          rintro e w8 ⟨rfl, hg8⟩
          have HG8 := Lib.hid hg8
          have HO8 : Hid (OwnI w8 (.slice a13 n13 c13) G) := Lib.hid (by
            obtain ⟨_, _, o8⟩ := HS7.out.hm.go hg8
            exact HS7.out.ow.own.keep (fun b hb => o8.block (by simp [hb]) (HS7.out.ow.own.lt b hb)))
          clear hg8
          go_wp2_with (at_builtin; refine wpList_append_ownI (ys := [x]) (m := 1) (HO8.out.keep (fun b hb => (below_alloc _ _).block b (HO8.out.lt b hb))) (RowAt.cells ⟨_, heap_alloc_new _ _, [], rfl⟩) rfl hGn rfl rfl rfl rfl ?_; intro v4 wa ho4 hg4 hr4; have HO4 := Lib.hid ho4; have HG4 := Lib.hid hg4; have HR4 := Lib.hid hr4; clear ho4 hg4 hr4; obtain ⟨a4, c4, e4, _⟩ := HO4.out.cells; obtain ⟨l4, hl4⟩ : ∃ l4, l4 = (G ++ [x]).length := ⟨_, rfl⟩; rw [← hl4] at e4; have HL4 := Lib.hid hl4; clear hl4; subst e4)
          obtain ⟨v2, HS9⟩ := HS7.out.blacken HXs.out HG8.out (below_alloc _ _) HO4.out HG4.out HR4.out
          refine ⟨⟨k + 1, v2, _, G ++ [x], l4, a4, c4, rfl, vint (by omega), by omega, by omega, by rw [HL4.out, List.length_append, ← HNg.out]; simp; omega, HL4, Lib.hid HS9⟩, ?_⟩
          simp [intOf]; omega
      · have hor : (k : Int) = (zn : Int) ∨ ((k : Int) < (zn : Int) ∧ (k : Int) = 10) := by omega
        clear hlt
        have hn10 : n13 ≤ 10 := by omega
        rcases hor with h1 | ⟨h1, h2⟩
        · have hlt' : decide ((k : Int) < (zn : Int)) = false := by simp; omega
          go_wp2_with fail
          go_meet
          exact ⟨v', M, G, n13, a13, c13, rfl, hn10, HNg, HSt⟩
        · have hlt' : decide ((k : Int) < 10) = false := by simp; omega
          go_wp2_with fail
          go_meet
          exact ⟨v', M, G, n13, a13, c13, rfl, hn10, HNg, HSt⟩
  case rest =>
    clear HH4 HMb4 HCl0 HNo0 HFt0 HMs0
    obtain ⟨v5, M5, G, ng, ag, cg, rfl, hng, HNg, HSa⟩ := hcut
    have HGl := Lib.hid HSa.out.lt
    have HMb0 := Lib.hid HSa.out.memB
    have HCl0 := Lib.hid HSa.out.cl
    have HFt0 := Lib.hid HSa.out.ft
    have HMs0 := Lib.hid HSa.out.ms
    clear HSa
    go_upto_block 2 with fail
    go_cut [12] (fun vf wd => ∃ (v' : Value) (M : Mk) (F : List Nat) (nf : Nat) (af : Option Addr) (cf : Nat), vf = .slice af nf cf ∧ nf ≤ 10 ∧ Hid (nf = F.length) ∧ Hid (MemB w1 w2 wd q A n m sa l sc xs K v' M (.slice ag ng cg) G (.slice af nf cf) F) ∧ Hid (Closes m.used (ptrsO m) G F M) ∧ Hid (M.Fits 10) ∧ Hid (M.most ≤ 127) ∧ Hid (∀ x ∈ F, x < 2048))
    case first =>
      go_wp2_with fail
      go_loopw [12, 16] (fun vf i wr => ∃ (k : Nat) (v' : Value) (M : Mk) (F : List Nat) (nf : Nat) (af : Option Addr) (cf : Nat), vf = .slice af nf cf ∧ i = .int .i64 (k : Int) ∧ k ≤ tn ∧ k ≤ 10 ∧ Hid (nf = k) ∧ Hid (nf = F.length) ∧ Hid (MemB w1 w2 wr q A n m sa l sc xs K v' M (.slice ag ng cg) G (.slice af nf cf) F) ∧ Hid (Closes m.used (ptrsO m) G F M) ∧ Hid (M.Fits k) ∧ Hid (M.most ≤ 127) ∧ Hid (∀ x ∈ F, x < 2048)) (fun _ i _ => 10 - (intOf i).toNat)
      case atStart => exact ⟨0, v5, M5, [], 0, none, 0, rfl, rfl, Nat.zero_le _, Nat.zero_le _, Lib.hid rfl, Lib.hid rfl, HMb0, HCl0, HFt0, HMs0, Lib.hid (by simp)⟩
      case round =>
        clear HMb0 HCl0 HFt0 HMs0
        obtain ⟨k, v', M, F, nf, af, cf, rfl, rfl, hkt, hk10, hnk, HNf, HMB, HCl, HFt, HMs, HFl⟩ := hrel
        by_cases hlt : k < tn ∧ k < 10
        · obtain ⟨h1, h2⟩ := hlt
          have h1' : (k : Int) < (tn : Int) := by omega
          have h2' : (k : Int) < 10 := by omega
          have hct := HCT.out.below (HB1.out.trans (HMB.out.hm.below.mono HB1.out.size)) (Nat.le_refl _)
          obtain ⟨b1, o1, rfl, _, hcx⟩ := hct.at (i := k) (by rw [List.length_map, HT.out]; exact h1)
          obtain ⟨zi, hzi⟩ : ∃ zi, t[k]? = some zi := ⟨_, List.getElem?_eq_getElem (by rw [HT.out]; exact h1)⟩
          have cz := hcx k (.int .i64 zi) (by rw [List.getElem?_map, hzi]; rfl)
          have c0 := HMB.out.mr.cell 0 0 rfl rfl
          have c1 := HMB.out.mr.cell 0 1 rfl rfl
          have c2 := HMB.out.mr.cell 0 2 rfl rfl
          have r0 := fun x => later_cell c0 x
          have r1 := fun x => later_cell c1 x
          have r2 := fun x => later_cell c2 x
          have r3 := fun x => later_cell cz x
          clear hct hcx hzi
          go_upto_region 21 with fail
          refine wp_region_seg (C := fun w' => ∃ x : Later (wr), w' = x.val) [.fl [0, 1, 2, 3, 4], .sq [5, 6] false] (by kernel_rfl) (by kernel_rfl) (by intro c a d v w h; cases d <;> exact h) ?_
          simp only [segs, picks, List.getElem?_cons_succ, List.getElem?_cons_zero]
          have hC1 := later_drew (wr)
          refine wpSeg_fl hC1 ?_
          repeat (first | go_big_quiet_step (fail) | quiet_step (fail))
          refine wpQuiet_nil ?_
          have HM6 := Lib.hid (HMB.out.below (later_below hC1))
          clear r0 r1 r2 r3 c0 c1 c2 cz HMB
          generalize wr.drew = w6 at *
          refine wpSeg_last ?_
          go_wp2_with fail
          refine (wpick_any _ _ _ xs HM6.out.hm.hp.at_.own (by have := HM6.out.hm.xlen; omega) zi).mono ?_
          rintro e w7 ⟨rfl, hb7⟩
          have HM7 := Lib.hid (HM6.out.below hb7)
          have HPx : Hid (pickN xs zi < 2048) := Lib.hid (by
            by_cases c : pickN xs zi = 0
            · omega
            · have := (HM7.out.hm.hp.ok.lt (pickN_mem c)).2; omega)
          generalize pickN xs zi = x at *
          have hx2 := HPx.out
          have hFn : F.length + 1 ≤ 1000000000000 := by rw [← HNf.out, hnk.out]; omega
          have HO8 := Lib.hid HM7.out.of_.own
          clear hb7 HM6 hC1
          go_upto_region 23 with (at_builtin; refine wpList_append_ownI (ys := [x]) (m := 1) (HO8.out.keep (fun b hb => (below_alloc _ _).block b (HO8.out.lt b hb))) (RowAt.cells ⟨_, heap_alloc_new _ _, [], rfl⟩) rfl hFn rfl rfl rfl rfl ?_; intro v4 wa ho4 hg4 hr4; have HO4 := Lib.hid ho4; have HG4 := Lib.hid hg4; have HR4 := Lib.hid hr4; clear ho4 hg4 hr4; obtain ⟨a4, c4, e4, _⟩ := HO4.out.cells; obtain ⟨l4, hl4⟩ : ∃ l4, l4 = (F ++ [x]).length := ⟨_, rfl⟩; rw [← hl4] at e4; have HL4 := Lib.hid hl4; clear hl4; subst e4)
          have HM8 := Lib.hid (HM7.out.app (below_alloc _ _) HO4.out HG4.out HR4.out)
          have HCl8 := Lib.hid (HCl.out.shade x)
          have HFt8 := Lib.hid (HFt.out.shade (U := m.used) x)
          have HMs8 : Hid ((M.shade m.used x).most ≤ 127) := Lib.hid (by rw [Mk.shade_most]; exact HMs.out)
          have HFl8 : Hid (∀ y ∈ F ++ [x], y < 2048) := Lib.hid (fun y hy => by
            rcases List.mem_append.1 hy with c | c
            · exact HFl.out y c
            · simp at c; subst c; exact HPx.out)
          have HSh := Lib.hid (mshade_any HM8.out.hm.ma (show M.miss ≤ 900000 ∧ M.st.length ≤ 900000 by have h1 := HFt.out.miss; have h2 := HFt.out.st; have h3 := HMs.out; omega) x)
          change Hid (Calls Tryz.prog 34 #[.pointer (some ⟨K.p, 0, none⟩), .int .i64 (x : Int)] wa _) at HSh
          have HCg : Hid (M.fresh m.used x = true → (M.shade m.used x).colour x = 1) := Lib.hid (fun hf => by
            rw [Mk.colour_grey]
            unfold Mk.fresh at hf
            simp only [Bool.and_eq_true, Bool.not_eq_true'] at hf
            rw [HCl.out.ok.shade_mk, hf.1, Mk.shade_sc]
            refine ⟨by simp, ?_⟩
            cases hs : M.sc.getD x false with
            | false => rfl
            | true => have := HCl.out.ok.sm x hs; rw [hf.2] at this; cases this)
          have hL4 : Hid (l4 = k + 1) := Lib.hid (by rw [HL4.out, List.length_append, ← HNf.out, hnk.out]; simp)
          unfold ShadePost at HSh
          cases hfx : M.fresh m.used x with
          | false =>
            rw [hfx] at HSh
            clear hfx HCg
            go_wp2_with fail
            refine HSh.out.mono ?_
            rintro e w9 ⟨rfl, hg9⟩
            obtain ⟨v2, hm9⟩ := HM8.out.go hg9
            have HM9 := Lib.hid hm9
            clear hg9 hm9
            go_wp2_with fail
            refine ⟨⟨k + 1, v2, _, F ++ [x], l4, a4, c4, rfl, vint (by omega), by omega, by omega, hL4, HL4, HM9, HCl8, HFt8, HMs8, HFl8⟩, ?_⟩
            simp [intOf]; omega
          | true =>
            have HC1 := Lib.hid (HCg.out hfx)
            rw [hfx] at HSh
            clear hfx HCg
            go_wp2_with fail
            refine HSh.out.mono ?_
            rintro e w9 ⟨rfl, hg9⟩
            obtain ⟨v2, hm9⟩ := HM8.out.go hg9
            have HM9 := Lib.hid hm9
            have HCo := Lib.hid (mcolour_any hm9.hm.mr x)
            change Hid (Calls Tryz.prog 37 #[.pointer (some ⟨K.p, 0, none⟩), .int .i64 (x : Int)] _ _) at HCo
            rw [HC1.out] at HCo
            clear hg9 hm9
            go_wp2_with fail
            refine HCo.out.mono ?_
            rintro e w10 ⟨rfl, rfl⟩
            go_wp2_with fail
            refine ⟨⟨k + 1, v2, _, F ++ [x], l4, a4, c4, rfl, vint (by omega), by omega, by omega, hL4, HL4, HM9, HCl8, HFt8, HMs8, HFl8⟩, ?_⟩
            simp [intOf]; omega
        · have hor : (k : Int) = (tn : Int) ∨ ((k : Int) < (tn : Int) ∧ (k : Int) = 10) := by omega
          have hnf : nf ≤ 10 := by rw [hnk.out]; omega
          have HFt' := Lib.hid (HFt.out.mono hk10)
          clear hlt HFt
          rcases hor with h1 | ⟨h1, h2⟩
          · have hlt' : decide ((k : Int) < (tn : Int)) = false := by simp; omega
            go_wp2_with fail
            go_meet
            exact ⟨v', M, F, nf, af, cf, rfl, hnf, HNf, HMB, HCl, HFt', HMs, HFl⟩
          · have hlt' : decide ((k : Int) < 10) = false := by simp; omega
            go_wp2_with fail
            go_meet
            exact ⟨v', M, F, nf, af, cf, rfl, hnf, HNf, HMB, HCl, HFt', HMs, HFl⟩
    case rest =>
      clear HMb0 HCl0 HFt0 HMs0
      obtain ⟨v6, M6, F, nf, af, cf, rfl, hnf, HNf, HMB, HCl, HFt, HMs, HFl⟩ := hcut
      have c0 := HMB.out.mr.cell 0 0 rfl rfl
      have c1 := HMB.out.mr.cell 0 1 rfl rfl
      have c2 := HMB.out.mr.cell 0 2 rfl rfl
      have r0 := fun x => later_cell c0 x
      have r1 := fun x => later_cell c1 x
      have r2 := fun x => later_cell c2 x
      have HWf := Lib.hid HMB.out.hm.hp.at_.al.man.dev.wf
      have HLc : Hid (m.bm.dev.cache.length = 2048) := Lib.hid HMB.out.hm.hp.ok.ok.len
      have HUl : Hid (m.used.length = 2048) := Lib.hid HMB.out.hm.ulen
      have HUs : Hid (∀ x ∈ onesL m.used, x < 2048) := Lib.hid (fun x hx => by have := getD_true_lt (mem_onesL.1 hx); rw [HUl.out] at this; exact this)
      have hun : (onesL m.used).length ≤ 2048 := by rw [onesL_length]; exact Nat.le_trans (count_le_len _) (by rw [HUl.out]; exact Nat.le_refl _)
      go_upto_region 25 with fail
      refine wp_region_seg (C := fun w' => ∃ x : Later (wc), w' = x.val) [.fl [0, 2, 3, 5, 6], .sq [1] true, .sq [4] true, .sq [7, 8] false] (by kernel_rfl) (by kernel_rfl) (by intro c a d v w h; cases d <;> exact h) ?_
      simp only [segs, picks, List.getElem?_cons_succ, List.getElem?_cons_zero]
      have hC1 := later_drew (wc)
      refine wpSeg_fl hC1 ?_
      repeat (first | go_big_quiet_step (fail) | quiet_step (fail))
      refine wpQuiet_nil ?_
      have HM7 := Lib.hid (HMB.out.below (later_below hC1))
      clear c0 c1 c2 r0 r1 r2 HMB
      generalize wc.drew = w7 at *
      refine wpSeg_sq (fun K hK => ?_)
      go_wp2_with fail
      refine (wnow_any HM7.out.hm.hp.at_.al.man.dev _ _ (by rw [HLc.out]; omega)).mono ?_
      rintro e w8 ⟨dv, rfl, hr, _, hb8⟩
      have HM8 := Lib.hid (HM7.out.below hb8)
      have HRA8 := Lib.hid hr
      have hC2 := later_step hC1 hb8
      clear hb8 hr HM7
      go_wp2_with fail
      refine hK _ _ (fun _ => hC2) ?_
      clear hK K
      refine wpSeg_sq (fun K hK => ?_)
      go_wp2_with fail
      refine (aobjects_any HM8.out.hm.hp.at_.al).mono ?_
      intro e w9 hp
      obtain ⟨au, cu, rfl, hcu, hb9, _⟩ := hp.own
      have HM9 := Lib.hid (HM8.out.below hb9)
      have HRA9 := Lib.hid (HRA8.out.below hb9 (Nat.le_refl _))
      have HCu := Lib.hid hcu
      have hC3 := later_step hC2 hb9
      obtain ⟨nu, hnu⟩ : ∃ nu, nu = (onesL m.used).length := ⟨_, rfl⟩
      rw [← hnu] at hun ⊢
      have HNu := Lib.hid hnu
      clear hp hcu hb9 HM8 HRA8 hnu
      go_wp2_with fail
      refine hK _ _ (fun _ => hC3) ?_
      clear hK K
      have HRe := Lib.hid (fun hcf hcb => rreach_any (dv := dv) (S := nowD m.bm.dev) (md := m.bm.dev.dirty.length) (by simp [nowD, freshDev]) HRA9.out (nowD_fit HWf.out 0) (by show m.bm.dev.cache.length ≤ 1000000; rw [HLc.out]; omega) au af ag nu nf ng cu cf cg (onesL m.used) F G HNu.out.symm HNf.out.symm HNg.out.symm HCu.out hcf hcb HUs.out hun hnf hng (fun x hx => Nat.le_trans (Nat.le_of_lt (HFl.out x hx)) (by omega)))
      have HCf : Hid (Cells w9 af (F.map vi)) := Lib.hid (by
        obtain ⟨a', c', e', hc', _⟩ := HM9.out.of_.own.cells
        injection e' with e1 _ _
        subst e1
        exact hc')
      have HCg : Hid (Cells w9 ag (G.map vi)) := Lib.hid (by
        obtain ⟨a', c', e', hc', _⟩ := HM9.out.og.own.cells
        injection e' with e1 _ _
        subst e1
        exact hc')
      refine wpSeg_last ?_
      go_wp2_with fail
      refine (HRe.out HCf.out HCg.out).mono ?_
      rintro e w10 ⟨seen, aw, cw, hseen, rfl, hcw, hb10, hfar⟩
      have HM10 := Lib.hid (HM9.out.below hb10)
      have HCw := Lib.hid hcw
      have HFa : Hid (FarC w10 aw (((onesL m.used).filter (fun x => seen.contains x || G.contains x)).map vi) (K.re v6).list) := Lib.hid (fun hv x hx => by
        have h1 := hfar (fun e => hv (by rw [e]; rfl)) x hx
        refine ⟨?_, fun hm => ?_⟩
        · obtain ⟨b, o, e, hb, _⟩ := hcw.at (i := 0) (List.length_pos_iff.2 hv)
          rw [hx] at e
          cases e
          exact hb
        · have := HM9.out.hm.mr.mem _ hm
          omega)
      have HSe := Lib.hid hseen
      clear hb10 hcw hseen hfar HM9 HRA9 HRe HCf HCg HCu hC1 hC2 hC3
      have HLx : Hid (∀ M' : Mk, MkOk m.used M' → M'.sc.count true ≤ l) := Lib.hid (fun M' h => by
        rw [HL.out]
        exact count_in_le HM10.out.hm.hp.ok.nd (fun x hx => HFu.out x (h.mu x (h.sm x hx))))
      have HPl : Hid (∀ x, (ptrsO m x).length ≤ 64) := Lib.hid (fun x => ptrsD_len HM10.out.hm.hp.at_.al.man.dev.small _)
      have HLf : Hid (M6.left l + 0 ≤ 2 * l + 1) := Lib.hid (left_le l M6)
      obtain ⟨out, hout⟩ : ∃ out, out = (onesL m.used).filter (fun x => seen.contains x || G.contains x) := ⟨_, rfl⟩
      have HOu := Lib.hid hout
      rw [← hout] at HCw HFa ⊢
      obtain ⟨no, hno⟩ : ∃ no, no = out.length := ⟨_, rfl⟩
      rw [← hno]
      have HNo := Lib.hid hno
      have hno2 : no ≤ 2048 := by
        rw [hno, hout]
        exact Nat.le_trans (List.length_filter_le _ _) (by rw [← HNu.out]; exact hun)
      clear hout hno
      go_upto_block 4 with fail
      go_cut [] (fun wx => ∃ (v' : Value) (M : Mk), Hid (MemB w1 w2 wx q A n m sa l sc xs K v' M (.slice ag ng cg) G (.slice af nf cf) F) ∧ Hid (Closes m.used (ptrsO m) G F M) ∧ Hid (M.Fits 300000) ∧ Hid (M.most ≤ 127) ∧ Hid (∀ x, M.colour x ≠ 1) ∧ Hid (M.again = false) ∧ Hid (Cells wx aw (out.map vi)) ∧ Hid (FarC wx aw (out.map vi) (K.re v').list))
      case first =>
        go_wp2_with fail
        go_loopw [19] (fun i wr => ∃ (k : Nat) (v' : Value) (M : Mk), i = .int .i64 (k : Int) ∧ k ≤ 2 * l + 1 ∧ Hid (M.left l + k ≤ 2 * l + 1) ∧ Hid (MemB w1 w2 wr q A n m sa l sc xs K v' M (.slice ag ng cg) G (.slice af nf cf) F) ∧ Hid (Closes m.used (ptrsO m) G F M) ∧ Hid (M.Fits (10 + 64 * k)) ∧ Hid (M.most ≤ 127) ∧ Hid (Cells wr aw (out.map vi)) ∧ Hid (FarC wr aw (out.map vi) (K.re v').list)) (fun i _ => 2 * l + 2 - (intOf i).toNat)
        case atStart => exact ⟨0, v6, M6, rfl, by omega, HLf, HM10, HCl, HFt, HMs, HCw, HFa⟩
        case round =>
          clear HLf HM10 HCl HFt HMs HCw HFa
          obtain ⟨k, v', M, rfl, hk2, HLf, HMB, HCl, HFt, HMs, HCw, HFa⟩ := hrel
          have c2 := HMB.out.mr.cell 0 2 rfl rfl
          have hst := Mk.stepped (P := ptrsO m) HCl.out.ok HCl.out.cover
          have HStd := Lib.hid hst
          have HSt := Lib.hid (mstep_any HMB.out.hm.ma (show M.miss ≤ 800000 ∧ M.st.length ≤ 800000 by have h1 := HFt.out.miss; have h2 := HFt.out.st; have h3 := HMs.out; omega))
          change Hid (Calls Tryz.prog 36 #[.pointer (some ⟨K.p, 0, none⟩)] wr _) at HSt
          unfold StepPost at HSt
          have HCl2 := Lib.hid (HCl.out.step hst)
          have HFt2 := Lib.hid (HFt.out.step (U := m.used) (P := ptrsO m) HPl.out)
          have HMs2 : Hid ((M.step m.used (ptrsO m)).2.most ≤ 127) := Lib.hid (by rw [hst.most]; exact HMs.out)
          have HGo : Hid (∀ w9, MAGo wr w9 A n 4 m (K.re v') (M.step m.used (ptrsO m)).2 → ∃ v3, MemB w1 w2 w9 q A n m sa l sc xs K v3 (M.step m.used (ptrsO m)).2 (.slice ag ng cg) G (.slice af nf cf) F ∧ FarC w9 aw (out.map vi) (K.re v3).list ∧ Cells w9 aw (out.map vi)) := Lib.hid (fun w9 hg => HMB.out.go2 HFa.out HCw.out hg)
          clear hst
          cases hsb : (M.step m.used (ptrsO m)).1 with
          | true =>
            rw [hsb] at HSt HStd
            have HLt := Lib.hid (Stepped.left HLx.out HCl.out.ok HStd.out)
            generalize (M.step m.used (ptrsO m)).2 = M3 at *
            clear hsb
            go_wp2_with fail
            refine HSt.out.mono ?_
            rintro e w11 ⟨rfl, hg⟩
            obtain ⟨v3, hm3, hf3, hc3⟩ := HGo.out _ hg
            have HM3 := Lib.hid hm3
            have HCw3 := Lib.hid hc3
            have HFa3 := Lib.hid hf3
            have HLf3 : Hid (M3.left l + (k + 1) ≤ 2 * l + 1) := Lib.hid (by have := HLt.out; have := HLf.out; omega)
            have hk3 : k + 1 ≤ 2 * l + 1 := by have := HLf3.out; omega
            clear hg hm3 hf3 hc3
            go_wp2_with fail
            refine ⟨⟨k + 1, v3, M3, vint (by omega), hk3, HLf3, HM3, HCl2, Lib.hid (by rw [show 10 + 64 * (k + 1) = 10 + 64 * k + 64 by omega]; exact HFt2.out), HMs2, HCw3, HFa3⟩, ?_⟩
            simp [intOf]; omega
          | false =>
            rw [hsb] at HSt HStd
            have HEn := Lib.hid HStd.out.ended
            have HAg := Lib.hid HStd.out.again
            generalize (M.step m.used (ptrsO m)).2 = M3 at *
            clear hsb
            go_wp2_with fail
            refine HSt.out.mono ?_
            rintro e w11 ⟨rfl, hg⟩
            obtain ⟨v3, hm3, hf3, hc3⟩ := HGo.out _ hg
            have HM3 := Lib.hid hm3
            have HCw3 := Lib.hid hc3
            have HFa3 := Lib.hid hf3
            clear hg hm3 hf3 hc3
            go_wp2_with fail
            go_meet
            exact ⟨v3, M3, HM3, HCl2, Lib.hid (HFt2.out.mono (by omega)), HMs2, HEn, HAg, HCw3, HFa3⟩
      case rest =>
        clear HLf HM10 HCl HFt HMs HCw HFa
        obtain ⟨v7, M7, HM7, HCl, HFt, HMs, HEn, HAg, HCw, HFa⟩ := hcut
        have hst := Mk.stepped (P := ptrsO m) HCl.out.ok HCl.out.cover
        have hs0 : (M7.step m.used (ptrsO m)).1 = false := Mk.step_end HCl.out.ok HCl.out.cover HEn.out HAg.out
        have HSt := Lib.hid (mstep_any HM7.out.hm.ma (show M7.miss ≤ 800000 ∧ M7.st.length ≤ 800000 by have h1 := HFt.out.miss; have h2 := HFt.out.st; have h3 := HMs.out; omega))
        change Hid (Calls Tryz.prog 36 #[.pointer (some ⟨K.p, 0, none⟩)] wc _) at HSt
        unfold StepPost at HSt
        rw [hs0] at HSt hst
        have HCl8 := Lib.hid (HCl.out.step hst)
        have HEn8 := Lib.hid hst.ended
        have HFt8 := Lib.hid (HFt.out.step (U := m.used) (P := ptrsO m) HPl.out)
        have HMs8 : Hid ((M7.step m.used (ptrsO m)).2.most ≤ 127) := Lib.hid (by rw [hst.most]; exact HMs.out)
        have HGo : Hid (∀ w9, MAGo wc w9 A n 4 m (K.re v7) (M7.step m.used (ptrsO m)).2 → ∃ v3, MemB w1 w2 w9 q A n m sa l sc xs K v3 (M7.step m.used (ptrsO m)).2 (.slice ag ng cg) G (.slice af nf cf) F ∧ FarC w9 aw (out.map vi) (K.re v3).list ∧ Cells w9 aw (out.map vi)) := Lib.hid (fun w9 hg => HM7.out.go2 HFa.out HCw.out hg)
        generalize (M7.step m.used (ptrsO m)).2 = M8 at *
        have HOn : Hid (onesL M8.ms = out) := Lib.hid (by rw [HOu.out]; exact ms_list HCl8.out HEn8.out HSe.out)
        have HCt : Hid (M8.ms.count true = no) := Lib.hid (by rw [← onesL_length, HOn.out]; exact HNo.out.symm)
        have HSame := Lib.hid (Mk.ended_same HCl8.out.ok HEn8.out)
        clear hst hs0 HM7 HCl HFt HMs HEn HAg HCw HFa
        go_wp2_with fail
        refine HSt.out.mono ?_
        rintro e w11 ⟨rfl, hg⟩
        obtain ⟨v8, hm8, _, hc8⟩ := HGo.out _ hg
        have HM8 := Lib.hid hm8
        have HCw8 := Lib.hid hc8
        have HGr := Lib.hid (mgreys_any hm8.hm.mr)
        change Hid (Calls Tryz.prog 41 #[.pointer (some ⟨K.p, 0, none⟩)] w11 _) at HGr
        rw [show (M8.ms.count true : Int) - (M8.sc.count true : Int) = 0 by rw [← HSame.out]; omega] at HGr
        clear hg hm8 hc8 HSt HGo
        go_wp2_with fail
        refine HGr.out.mono ?_
        rintro e w12 ⟨rfl, hb12⟩
        have HM9 := Lib.hid (HM8.out.below hb12)
        have HCw9 := Lib.hid (HCw8.out.below hb12 (Nat.le_refl _))
        have HMk := Lib.hid (mmarked_any HM9.out.hm.mr)
        change Hid (Calls Tryz.prog 44 #[.pointer (some ⟨K.p, 0, none⟩)] w12 _) at HMk
        rw [HCt.out] at HMk
        clear hb12 HM8 HCw8 HGr
        go_wp2_with fail
        refine HMk.out.mono ?_
        rintro e w13 ⟨rfl, rfl⟩
        have HLi := Lib.hid (mlist_any HM9.out.hm.mr)
        change Hid (Calls Tryz.prog 45 #[.pointer (some ⟨K.p, 0, none⟩)] w12 _) at HLi
        rw [HOn.out] at HLi
        clear HMk
        go_wp2_with fail
        refine HLi.out.mono ?_
        intro e w14 hp
        obtain ⟨al, cl, rfl, hcl, hb14, _⟩ := hp.own
        rw [← HNo.out]
        have HM10 := Lib.hid (HM9.out.below hb14)
        have HIn := Lib.hid (rints_same al aw no cl cw out HNo.out.symm hcl (HCw9.out.below hb14 (Nat.le_refl _)) (by omega))
        have HCw10 := Lib.hid (HCw9.out.below hb14 (Nat.le_refl _))
        clear hp hcl hb14 HM9 HCw9 HLi
        go_wp2_with fail
        refine HIn.out.mono ?_
        rintro e w15 ⟨rfl, hb15⟩
        have HM11 := Lib.hid (HM10.out.below hb15)
        have HCw11 := Lib.hid (HCw10.out.below hb15 (Nat.le_refl _))
        clear hb15 HM10 HCw10 HIn
        go_wp2_with fail
        go_loopw [20] (fun i wr => ∃ k : Nat, k ≤ no ∧ i = .int .i64 (k : Int) ∧ w15 = wr) (fun i _ => no - (intOf i).toNat)
        case atStart => exact ⟨0, Nat.zero_le _, rfl, rfl⟩
        case round =>
          obtain ⟨k, hk, rfl, rfl⟩ := hrel
          by_cases hlt : k < no
          · have hlt' : (k : Int) < (no : Int) := by omega
            obtain ⟨b1, o1, rfl, _, hcx⟩ := HCw11.out.at (i := k) (by rw [List.length_map, ← HNo.out]; exact hlt)
            obtain ⟨x, hx⟩ : ∃ x, out[k]? = some x := ⟨_, List.getElem?_eq_getElem (by rw [← HNo.out]; exact hlt)⟩
            have cx := hcx k (vi x) (by rw [List.getElem?_map, hx]; rfl)
            have hx2 : M8.colour x = 2 := by
              have h1 : x ∈ onesL M8.ms := by rw [HOn.out]; exact List.mem_of_getElem? hx
              have h2 := mem_onesL.1 h1
              rw [Mk.colour_black, ← HSame.out]; exact h2
            have HCo := Lib.hid (mcolour_any HM11.out.hm.mr x)
            change Hid (Calls Tryz.prog 37 #[.pointer (some ⟨K.p, 0, none⟩), .int .i64 (x : Int)] _ _) at HCo
            rw [hx2] at HCo
            clear hcx hx hx2
            go_wp2_with fail
            refine HCo.out.mono ?_
            rintro e w16 ⟨rfl, rfl⟩
            go_wp2_with fail
            exact ⟨⟨k + 1, by omega, vint (by omega), trivial⟩, by simp [intOf]; omega⟩
          · obtain rfl : k = no := by omega
            have hf : decide ((k : Int) < (k : Int)) = false := by simp
            have HCe := Lib.hid (clear_ends (P := ptrsO m) HCl8.out.ok)
            have HCr := Lib.hid (mclear_any HM11.out.hm.ma (by have h2 := HFt8.out.st; have h3 := HMs8.out; omega))
            change Hid (Calls Tryz.prog 48 #[.pointer (some ⟨K.p, 0, none⟩)] _ _) at HCr
            have HSmC : Hid (M8.clear.miss ≤ 800000 ∧ M8.clear.st.length ≤ 800000) := Lib.hid ⟨Nat.zero_le _, Nat.zero_le _⟩
            generalize M8.clear = Mc at *
            clear HCw11
            go_wp2_with fail
            refine HCr.out.mono ?_
            rintro e w17 ⟨rfl, hg17⟩
            obtain ⟨v9, hm9⟩ := HM11.out.go hg17
            have HM12 := Lib.hid hm9
            have HMk := Lib.hid (mmarked_any hm9.hm.mr)
            change Hid (Calls Tryz.prog 44 #[.pointer (some ⟨K.p, 0, none⟩)] _ _) at HMk
            rw [HCe.out.2] at HMk
            have HSt := Lib.hid (mstep_any hm9.hm.ma HSmC.out)
            change Hid (Calls Tryz.prog 36 #[.pointer (some ⟨K.p, 0, none⟩)] _ _) at HSt
            unfold StepPost at HSt
            rw [HCe.out.1] at HSt
            clear hg17 hm9
            go_wp2_with fail
            refine HMk.out.mono ?_
            rintro e w18 ⟨rfl, rfl⟩
            go_wp2_with fail
            refine HSt.out.mono ?_
            rintro e w19 ⟨rfl, hg19⟩
            obtain ⟨v10, hm10⟩ := HM12.out.go hg19
            have HEnd := Lib.hid (HP.out w19 (HB1.out.trans (hm10.hm.below.mono HB1.out.size)))
            clear hg19 hm10
            go_wp2_with fail
            exact HEnd.out
end Go.Proofs.YtfedgcdkagngnaaGreat

/- Plain: what a step of a marker shows of colours. -/
namespace Go.Proofs.YtfedgcdkagngnaaGreat
set_option linter.unusedVariables false

section
variable {U : List Bool} {P : Nat → List Nat} {M M' : Mk} {b : Bool}
theorem Mk.colour_of (M : Mk) (x : Nat) : M.colour x = if M.sc.getD x false then 2 else if M.ms.getD x false then 1 else 0 := rfl
theorem Stepped.colours (h : MkOk U M) (hs : Stepped U P M b M') (x : Nat) : M.colour x ≤ M'.colour x ∧ ¬ (M.colour x = 0 ∧ M'.colour x = 2) ∧ (b = false → M'.colour x = M.colour x) := by
  obtain ⟨x0, _, h1, h2, h3, h4⟩ := Stepped.black h hs
  have h1 := h1 x
  have h2 := h2 x
  have h3 := h3 x
  refine ⟨?_, ?_, fun e => by rw [Mk.colour_of, Mk.colour_of, (h4 e).1, (h4 e).2]⟩
  · rw [Mk.colour_of M, Mk.colour_of M']
    cases hs0 : M.sc.getD x false with
    | true => rw [h2 hs0]; simp
    | false =>
      cases hm0 : M.ms.getD x false with
      | true => rw [h3 hm0]; simp; split <;> omega
      | false => simp
  · rintro ⟨c0, c2⟩
    rcases h1 ((M'.colour_black x).1 c2) with c | ⟨_, _, c, _⟩
    · have := (M.colour_black x).2 c; omega
    · omega
theorem Stepped.ptrs (h : MkOk U M) (hs : Stepped U P M b M') {x : Nat} (c1 : M.colour x = 1) (c2 : M'.colour x = 2) : ∀ y ∈ P x, U.getD y false = true → M'.colour y ≠ 0 := by
  obtain ⟨x0, _, h1, _⟩ := Stepped.black h hs
  intro y hy hu h0
  have hms := (M'.colour_white y (Stepped.ok h hs)).1 h0
  rcases h1 x ((M'.colour_black x).1 c2) with c | ⟨_, _, _, c⟩
  · have := (M.colour_black x).2 c; omega
  · rw [c y hy hu] at hms; cases hms
/-- Which are black anew. -/
def newly (M M' : Mk) (x : Nat) : Bool := decide (M'.colour x = 2) && decide (M.colour x = 1)
theorem Stepped.one (h : MkOk U M) (hs : Stepped U P M b M') {xs : List Nat} (hn : xs.Nodup) : (xs.filter (newly M M')).length ≤ 1 := by
  obtain ⟨x0, _, h1, _⟩ := Stepped.black h hs
  have key : ∀ x ∈ xs.filter (newly M M'), x = x0 := fun x hx => by
    have hx2 := (List.mem_filter.1 hx).2
    unfold newly at hx2
    simp only [Bool.and_eq_true, decide_eq_true_eq] at hx2
    rcases h1 x ((M'.colour_black x).1 hx2.1) with c | ⟨c, _⟩
    · have := (M.colour_black x).2 c; omega
    · exact c
  have hn2 := hn.filter (newly M M')
  generalize xs.filter (newly M M') = l at *
  match l, key, hn2 with
  | [], _, _ => simp
  | [a], _, _ => simp
  | a :: c :: r, key, hn2 =>
    have h1 := key a (by simp)
    have h2 := key c (by simp)
    exact absurd (h1.trans h2.symm) ((List.pairwise_cons.1 hn2).1 c (by simp))
theorem newly_take (M M' : Mk) (xs : List Nat) (j x : Nat) (hx : xs[j]? = some x) : ((xs.take (j + 1)).filter (newly M M')).length = ((xs.take j).filter (newly M M')).length + if newly M M' x then 1 else 0 := by
  have h1 := (List.getElem?_eq_some_iff.1 hx).1
  rw [List.take_succ_eq_append_getElem h1, (List.getElem?_eq_some_iff.1 hx).2, List.filter_append, List.length_append]
  congr 1
  simp only [List.filter_cons, List.filter_nil]
  split <;> rfl
theorem newly_le (M M' : Mk) (xs : List Nat) (j : Nat) : ((xs.take j).filter (newly M M')).length ≤ (xs.filter (newly M M')).length :=
  ((List.take_sublist j xs).filter _).length_le
end
end Go.Proofs.YtfedgcdkagngnaaGreat

/- law22: MarkSteps. -/
namespace Go.Proofs.YtfedgcdkagngnaaGreat
open Go.RowKit Go.Maps
set_option linter.unusedVariables false

section
variable {w wr w' : World} {Q : List Nat} {A : AF} {n N : Nat} {m : Al} {v : Value} {xs : List Nat} {K : MkF} {M M' : Mk}
/-- What the marker's calls leave, of other blocks too. -/
theorem HMk.go2 (h : HMk w wr Q A n N m v xs K M) {Pb : Nat → Prop} (hf : ∀ b, Pb b → b < wr.heap.size ∧ b ∉ K.list) (hg : MAGo wr w' A n 4 m K M') :
    ∃ v', HMk w w' Q A n N m v xs (K.re v') M' ∧ Off Q wr w' ∧ Touch K.list wr w' ∧ ∀ b, Pb b → b < w'.heap.size ∧ b ∉ (K.re v').list := by
  obtain ⟨v', h1, h2, h3⟩ := hg
  have hm' := h1.mr.mem
  have hp' := h.hp.own (h2.wide (fun b hb => List.mem_append_right _ hb)) h.lo
  have hsz := h.hp.below.size
  have key : ∀ k ∈ (K.re v').list, k ∈ K.list ∨ wr.heap.size ≤ k := fun k hk => by
    rcases MkF.list_re hk with c | c
    · exact .inl (by simp [MkF.list, c])
    · rcases h3 k c with c | c
      · exact .inl (by simp [MkF.list, c])
      · exact .inr c
  refine ⟨v', ⟨⟨hp'.at_, hp'.ok, hp'.steps, fun k hk => ⟨(hp'.new k hk).1, fun hq => ?_⟩, fun b hb => ⟨(hp'.newv b hb).1, fun hq => ?_⟩, fun k hk => ?_, hp'.below⟩, h1.mr, fun k hk => ?_, fun k hk hm => ?_, h1.lm, h1.ls⟩, ⟨K.list, h2, h.qk⟩, h2, fun b hb => ?_⟩
  · rcases List.mem_append.1 hq with c | c
    · exact (h.hp.new k hk).2 (List.mem_append_left _ c)
    · exact h1.ap k hk c
  · rcases List.mem_append.1 hq with c | c
    · exact (h.hp.newv b hb).2 (List.mem_append_left _ c)
    · rcases key b c with c | c
      · exact (h.hp.newv b hb).2 (List.mem_append_right _ c)
      · have := h.hp.at_.own.lt b hb; omega
  · rcases List.mem_append.1 hk with c | c
    · exact hp'.qlt k (List.mem_append_left _ c)
    · exact hm' k c
  · rcases List.mem_append.1 hk with c | c
    · exact h.lo k (List.mem_append_left _ c)
    · rcases key k c with c | c
      · exact h.lo k (List.mem_append_right _ c)
      · omega
  · rcases key k hm with c | c
    · exact h.qk k hk c
    · have := h.hp.qlt k (List.mem_append_left _ hk); omega
  · obtain ⟨f1, f2⟩ := hf b hb
    refine ⟨Nat.lt_of_lt_of_le f1 h2.size, fun hm => ?_⟩
    rcases key b hm with c | c
    · exact f2 c
    · omega
end
/-- The colours that were, so many of them noted. -/
def wasL (M : Mk) (xs : List Nat) (l j : Nat) : List Value := (xs.take j).map (fun x => Value.int .i64 (M.colour x : Nat)) ++ List.replicate (l - j) (.int .i64 0)
theorem wasL_zero (M : Mk) (xs : List Nat) (l : Nat) : wasL M xs l 0 = List.replicate l (.int .i64 0) := by simp [wasL]
theorem wasL_len (M : Mk) (xs : List Nat) (l j : Nat) (hl : l = xs.length) (hj : j ≤ l) : (wasL M xs l j).length = l := by simp [wasL]; omega
theorem wasL_set (M : Mk) (xs : List Nat) (l j x : Nat) (hl : l = xs.length) (hx : xs[j]? = some x) : (wasL M xs l j).set j (.int .i64 (M.colour x : Nat)) = wasL M xs l (j + 1) := by
  have h1 := (List.getElem?_eq_some_iff.1 hx).1
  have e1 : ((xs.take j).map (fun x => Value.int .i64 (M.colour x : Nat))).length = j := by simp; omega
  unfold wasL
  rw [List.take_succ_eq_append_getElem h1, (List.getElem?_eq_some_iff.1 hx).2, List.map_append, List.set_append_right _ _ (by omega), e1, Nat.sub_self, show l - j = (l - (j + 1)) + 1 by omega, List.replicate_succ, List.set_cons_zero]
  simp
theorem wasL_at (M : Mk) (xs : List Nat) (l j x : Nat) (hl : l = xs.length) (hx : xs[j]? = some x) : (wasL M xs l l)[j]? = some (.int .i64 (M.colour x : Nat)) := by
  have h1 := (List.getElem?_eq_some_iff.1 hx).1
  unfold wasL
  rw [hl, List.take_length, Nat.sub_self, List.replicate_zero, List.append_nil, List.getElem?_map, hx]; rfl
theorem wasL_mid (M : Mk) (xs : List Nat) (l j : Nat) (hl : l = xs.length) (hj : j < l) : (wasL M xs l j)[j]? = some (.int .i64 0) := by
  have e1 : ((xs.take j).map (fun x => Value.int .i64 (M.colour x : Nat))).length = j := by simp; omega
  unfold wasL
  rw [List.getElem?_append_right (by omega), e1, Nat.sub_self, List.getElem?_replicate, if_pos (by omega)]

/-- Where the document's device lies: away from the marker. -/
def FarD (wr : World) (md : Nat) (v : Value) (L : List Nat) : Prop := md = 0 ∨ ∀ b, RIn v b → b < wr.heap.size ∧ b ∉ L

set_option maxHeartbeats 8000000 in
set_option maxRecDepth 100000 in
theorem markSteps_any (a : Option Addr) (mm cap : Nat) (s : List Op20) (hm : s.length = mm) (a3 : Option Addr) (zn cap3 : Nat) (z : List Int) (hz : z.length = zn) (most : Int) (hmo1 : -128 ≤ most) (hmo : most ≤ 127) (w : World)
    (hcs : Cells w a (recs Op20.cs s)) (hcz : Cells w a3 (z.map (Value.int .i64))) (hmm : mm ≤ maxLen) (hzn : zn ≤ maxLen) :
    Calls Tryz.prog 6 #[.slice a mm cap, .int .i8 most, .slice a3 zn cap3] w (Gives (.bool true) w) := by
  unfold maxLen at hzn
  have HM := Lib.hid hm
  have HCS := Lib.hid hcs
  have HMM := Lib.hid hmm
  have HCZ := Lib.hid hcz
  have HZ := Lib.hid hz
  clear hm hcs hmm hcz hz
  have HP : Hid (∀ w', Below w.heap.size w w' → Gives (.bool true) w (.returned (.bool true)) w') := Lib.hid (fun w' h => ⟨rfl, h⟩)
  generalize Gives (.bool true) w = Post at *
  go_enter Tryz.func6, Tryz.ntmps6
  go_wp2_with fail
  refine (awake22_any _).mono ?_
  rintro e w1 ⟨rfl, hb1⟩
  have HB1 := Lib.hid hb1
  clear hb1
  go_wp2_with fail
  refine (made22_any a mm cap s HM.out w1 (HCS.out.below HB1.out (Nat.le_refl _)) HMM.out).mono ?_
  rintro e w2 ⟨A, n, m, v, xs, rfl, hh, hn, hf, _, _⟩
  obtain ⟨sa, sc, rfl, _⟩ := hh.at_.own.cells
  have HFu := Lib.hid hf
  have HMb := Lib.hid (Mem.one w2 #[valloc A, vdev A.X.F, .slice sa xs.length sc] 28)
  have HHp : Hid (Hp w1 (w2.alloc (.cells #[valloc A, vdev A.X.F, .slice sa xs.length sc] 28)) [w2.heap.size] A n 4 25000000 m (.slice sa xs.length sc) xs) := Lib.hid (hh.more (fun k hk => by simp at hk; subst hk; exact .inr ⟨Nat.le_refl _, by simp⟩) (below_alloc _ _))
  have hq2 : Hid (w1.heap.size ≤ w2.heap.size) := Lib.hid hh.below.size
  obtain ⟨l, hl⟩ : ∃ l, l = xs.length := ⟨_, rfl⟩
  rw [← hl] at HMb HHp ⊢
  have HL := Lib.hid hl
  have hl2 : l ≤ 2048 := by rw [hl]; exact hh.ok.len
  clear hh hn hf hl
  go_upto_region 4 with fail
  generalize w2.alloc _ = w3 at *
  obtain ⟨q, hq⟩ : ∃ q, q = w2.heap.size := ⟨_, rfl⟩
  rw [← hq] at HMb HHp hq2 ⊢
  have HQ := Lib.hid hq
  clear hq
  have c0 := HMb.out.cell 0 0 rfl rfl
  go_wp2_with fail
  refine (mnew_any HHp.out.at_.al (by rw [HHp.out.ok.ok.lenU]; omega) most (by omega)).mono ?_
  rintro e w4 ⟨K, rfl, hm4, hb4, hk4⟩
  have HH4 : Hid (HMk w1 w4 [q] A n 25000000 m (.slice sa l sc) xs K (Mk.new m.used.length most.toNat)) := Lib.hid (HMk.new HHp.out (by intro k hk; simp at hk; subst hk; exact hq2.out) hb4 hm4 hk4)
  have HMb4 := Lib.hid (HMb.out.r.later hb4)
  have HBa0 := Lib.hid (Bar22.new m most.toNat)
  have HMs0 : Hid ((Mk.new m.used.length most.toNat).most ≤ 127) := Lib.hid (show most.toNat ≤ 127 by omega)
  clear hm4 hb4 hk4 c0 hq2 HMb HHp
  go_upto_block 0 with fail
  go_cut [] (fun wc => ∃ (v' : Value) (M : Mk), Hid (HMk w1 wc [q] A n 25000000 m (.slice sa l sc) xs (K.re v') M) ∧ Hid (MemR w2.heap.size wc [⟨q, 28, [valloc A, vdev A.X.F, .slice sa l sc], true⟩]) ∧ Hid (Bar22 m M 10) ∧ Hid (M.most ≤ 127))
  case first =>
    go_wp2_with fail
    go_loopw [10] (fun i wr => ∃ (k : Nat) (v' : Value) (M : Mk), k ≤ zn ∧ k ≤ 10 ∧ i = .int .i64 (k : Int) ∧ Hid (HMk w1 wr [q] A n 25000000 m (.slice sa l sc) xs (K.re v') M) ∧ Hid (MemR w2.heap.size wr [⟨q, 28, [valloc A, vdev A.X.F, .slice sa l sc], true⟩]) ∧ Hid (Bar22 m M k) ∧ Hid (M.most ≤ 127)) (fun i _ => 10 - (intOf i).toNat)
    case atStart => exact ⟨0, K.v, _, Nat.zero_le _, Nat.zero_le _, rfl, HH4, HMb4, HBa0, HMs0⟩
    case round =>
      clear HH4 HMb4 HBa0 HMs0
      obtain ⟨k, v', M, hkt, hk10, rfl, HH, HMr, HBa, HMs⟩ := hrel
      by_cases hlt : k < zn ∧ k < 10
      · obtain ⟨h1, h2⟩ := hlt
        have h1' : (k : Int) < (zn : Int) := by omega
        have h2' : (k : Int) < 10 := by omega
        have hcz := HCZ.out.below (HB1.out.trans (HH.out.below.mono HB1.out.size)) (Nat.le_refl _)
        obtain ⟨b1, o1, rfl, _, hcx⟩ := hcz.at (i := k) (by rw [List.length_map, HZ.out]; exact h1)
        obtain ⟨zi, hzi⟩ : ∃ zi, z[k]? = some zi := ⟨_, List.getElem?_eq_getElem (by rw [HZ.out]; exact h1)⟩
        have cz := hcx k (.int .i64 zi) (by rw [List.getElem?_map, hzi]; rfl)
        have c0 := HMr.out.cell 0 0 rfl rfl
        have c1 := HMr.out.cell 0 1 rfl rfl
        have c2 := HMr.out.cell 0 2 rfl rfl
        have r0 := fun x => later_cell c0 x
        have r1 := fun x => later_cell c1 x
        have r2 := fun x => later_cell c2 x
        have r3 := fun x => later_cell cz x
        clear hcz hcx hzi
        go_upto_region 12 with fail
        refine wp_region_seg (C := fun w' => ∃ x : Later (wr), w' = x.val) [.fl [0, 1, 2, 3, 4, 5], .sq [6] true, .sq [7] false] (by kernel_rfl) (by kernel_rfl) (by intro c a d v w h; cases d <;> exact h) ?_
        simp only [segs, picks, List.getElem?_cons_succ, List.getElem?_cons_zero]
        have hC1 := later_drew (wr)
        refine wpSeg_fl hC1 ?_
        repeat (first | go_big_quiet_step (fail) | quiet_step (fail))
        refine wpQuiet_nil ?_
        have HH6 := Lib.hid (HH.out.later (later_below hC1))
        have HMr6 := Lib.hid (HMr.out.later (later_below hC1))
        clear r0 r1 r2 r3 c0 c1 c2 cz HH HMr
        generalize wr.drew = w6 at *
        refine wpSeg_sq (fun K hK => ?_)
        go_wp2_with fail
        refine (wpick_any _ _ _ xs HH6.out.hp.at_.own (by have := HH6.out.xlen; omega) zi).mono ?_
        rintro e w7 ⟨rfl, hb7⟩
        have HH7 := Lib.hid (HH6.out.later hb7)
        have HMr7 := Lib.hid (HMr6.out.later hb7)
        have hC2 := later_step hC1 hb7
        generalize pickN xs zi = x at *
        clear hb7 HH6 HMr6
        go_wp2_with fail
        refine hK _ _ (fun _ => hC2) ?_
        clear hK K
        have HSh := Lib.hid (mshade_any HH7.out.ma (show M.miss ≤ 900000 ∧ M.st.length ≤ 900000 by have h1 := HBa.out.fits.miss; have h2 := HBa.out.fits.st; have h3 := HMs.out; omega) x)
        change Hid (Calls Tryz.prog 34 #[.pointer (some ⟨K.p, 0, none⟩), .int .i64 (x : Int)] w7 _) at HSh
        generalize hfx : M.fresh m.used x = fx at *
        unfold ShadePost at HSh
        rw [hfx] at HSh
        clear hfx
        refine wpSeg_last ?_
        go_wp2_with fail
        refine HSh.out.mono ?_
        rintro e w8 ⟨rfl, hg8⟩
        obtain ⟨v2, hh8, ho8⟩ := HH7.out.go hg8
        have HH8 := Lib.hid hh8
        have HMr8 := Lib.hid (HMr7.out.off ho8 (by simp))
        have HMs8 : Hid ((M.shade m.used x).most ≤ 127) := Lib.hid (by rw [Mk.shade_most]; exact HMs.out)
        clear hg8 hh8 ho8
        go_wp2_with fail
        refine ⟨⟨k + 1, v2, _, by omega, by omega, vint (by omega), HH8, HMr8, Lib.hid (HBa.out.shade x), HMs8⟩, ?_⟩
        simp [intOf]; omega
      · have hor : (k : Int) = (zn : Int) ∨ ((k : Int) < (zn : Int) ∧ (k : Int) = 10) := by omega
        have HTail : Hid (∃ (v' : Value) (M : Mk), Hid (HMk w1 wr [q] A n 25000000 m (.slice sa l sc) xs (K.re v') M) ∧ Hid (MemR w2.heap.size wr [⟨q, 28, [valloc A, vdev A.X.F, .slice sa l sc], true⟩]) ∧ Hid (Bar22 m M 10) ∧ Hid (M.most ≤ 127)) := Lib.hid ⟨v', M, HH, HMr, Lib.hid ⟨HBa.out.ok, HBa.out.cover, HBa.out.bar, HBa.out.fits.mono hk10⟩, HMs⟩
        clear HH HMr HBa HMs hlt
        rcases hor with h1 | ⟨h1, h2⟩
        · have hlt' : decide ((k : Int) < (zn : Int)) = false := by simp; omega
          go_wp2_with fail
          go_meet
          exact HTail.out
        · have hlt' : decide ((k : Int) < 10) = false := by simp; omega
          go_wp2_with fail
          go_meet
          exact HTail.out
  case rest =>
    clear HH4 HMb4 HBa0 HMs0
    obtain ⟨v0, M0, HH0, HMr0, HBa0, HMs0⟩ := hcut
    have HLc : Hid (m.bm.dev.cache.length = 2048) := Lib.hid HH0.out.hp.ok.ok.len
    have HWf := Lib.hid HH0.out.hp.at_.al.man.dev.wf
    have c0 := HMr0.out.cell 0 0 rfl rfl
    have c1 := HMr0.out.cell 0 1 rfl rfl
    have c2 := HMr0.out.cell 0 2 rfl rfl
    go_wp2_with fail
    refine (wnow_any HH0.out.hp.at_.al.man.dev _ _ (by rw [HLc.out]; omega)).mono ?_
    rintro e w5 ⟨dv, rfl, hr, hlo, hb5⟩
    obtain ⟨D, rfl⟩ := hr.agg
    obtain ⟨hD8, hD1⟩ := hr.arr
    have HRA5 := Lib.hid hr
    have HKm := Lib.hid HH0.out.mr.mem
    have HLo := Lib.hid hlo
    have HRhi := Lib.hid hr.old
    have HH5 := Lib.hid (HH0.out.later hb5)
    have HMr5 := Lib.hid (HMr0.out.later hb5)
    have hba := below_alloc w5 (.cells zeroD 34)
    have HMr6 := Lib.hid (HMr5.out.alloc zeroD 34)
    have HRA6 := Lib.hid (HRA5.out.below hba (Nat.le_refl _))
    have HH6 : Hid (HMk w1 (w5.alloc (.cells zeroD 34)) [q, w5.heap.size] A n 25000000 m (.slice sa l sc) xs (K.re v0) M0) := Lib.hid (HH5.out.more (fun k hk => by
      simp only [List.mem_cons, List.not_mem_nil, or_false] at hk
      rcases hk with rfl | rfl
      · exact .inl (by simp)
      · exact .inr (by simp)) hba)
    have HNe : Hid (m.bm.dev.dirty.length = 0 ∨ ∀ b, RIn (.agg D) b → b ∉ [w5.heap.size]) := Lib.hid (HRhi.out.imp id (fun h b hb hm => by simp at hm; have h1 := h b hb; omega))
    clear hr hlo hb5 hba c0 c1 c2 HH0 HMr0
    go_upto_block 2 with (refine wpList_store_r aggRd HMr6.out 1 rfl rfl rfl rfl rfl hD8 hD8.symm hD1 ?_; intro w7 h7 ht7; have H7 := Lib.hid h7; have HT7 := Lib.hid ht7; clear h7 ht7)
    have HRA7 := Lib.hid (HRA6.out.touch HT7.out HNe.out)
    have HH7 := Lib.hid (HH6.out.own (HT7.out.wide (by simp)))
    have HFd : Hid (FarD w7 m.bm.dev.dirty.length (.agg D) (K.re v0).list) := Lib.hid (HRhi.out.imp id (fun h b hb => ⟨Nat.lt_of_lt_of_le (h b hb) (Nat.le_trans (below_alloc w5 (.cells zeroD 34)).size HT7.out.size), fun hm => (by
      have h1 := HKm.out b hm
      have h2 := HLo.out b hb
      omega)⟩))
    obtain ⟨g, hg⟩ : ∃ g, g = w5.heap.size := ⟨_, rfl⟩
    rw [← hg] at H7 HH7 ⊢
    have HLx : Hid (∀ M' : Mk, MkOk m.used M' → M'.sc.count true ≤ l) := Lib.hid (fun M' h => by
      rw [HL.out]
      exact count_in_le HH7.out.hp.ok.nd (fun x hx => HFu.out x (h.mu x (h.sm x hx))))
    have HPl : Hid (∀ x, (ptrsO m x).length ≤ 64) := Lib.hid (fun x => ptrsD_len HH7.out.hp.at_.al.man.dev.small _)
    have HMr7 : Hid (MemR w2.heap.size w7 [⟨q, 28, [valloc A, vdev A.X.F, .slice sa l sc], true⟩, ⟨g, 34, D.toList, true⟩]) := H7
    have HIv0 : Hid (MkOk m.used M0 ∧ M0.Cover ∧ M0.Fits (10 + 64 * 0) ∧ M0.left l + 0 ≤ 2 * l + 1) := Lib.hid ⟨HBa0.out.ok, HBa0.out.cover, HBa0.out.fits.mono (by omega), (by unfold Mk.left; split <;> omega)⟩
    clear hg HRhi HKm HLo HH5 HMr5 HMr6 HRA6 HNe HT7 H7 HH6 HBa0 HRA5
    go_wp2_with fail
    go_loopw [12] (fun i wr => ∃ (k : Nat) (v' : Value) (M : Mk), i = .int .i64 (k : Int) ∧ k ≤ 2 * l + 1 ∧ Hid (HMk w1 wr [q, g] A n 25000000 m (.slice sa l sc) xs (K.re v') M) ∧ Hid (MemR w2.heap.size wr [⟨q, 28, [valloc A, vdev A.X.F, .slice sa l sc], true⟩, ⟨g, 34, D.toList, true⟩]) ∧ Hid (RAt wr (.agg D) m.bm.dev.dirty.length (nowD m.bm.dev).ref) ∧ Hid (FarD wr m.bm.dev.dirty.length (.agg D) (K.re v').list) ∧ Hid (MkOk m.used M ∧ M.Cover ∧ M.Fits (10 + 64 * k) ∧ M.left l + k ≤ 2 * l + 1) ∧ Hid (M.most ≤ 127)) (fun i _ => 2 * l + 2 - (intOf i).toNat)
    case atStart => exact ⟨0, v0, M0, rfl, by omega, HH7, HMr7, HRA7, HFd, HIv0, HMs0⟩
    case round =>
      clear HH7 HMr7 HRA7 HFd HIv0 HMs0
      obtain ⟨k, v', M, rfl, hk2, HH, HMr, HRA, HFd, HIv, HMs⟩ := hrel
      have c2 := HMr.out.cell 0 2 rfl rfl
      have hl9 : l < 1000000000000 := by omega
      go_upto_region 18 with (at_make; refine wpList_make_len elInt wr.heap.size l rfl rfl rfl hl9 (by decide) (Nat.le_refl _) rfl rfl rfl rfl ?_; intro w8 hown hgrow; have HRw : Hid (RowAt w8 wr.heap.size 3 (List.replicate l (.int .i64 0))) := Lib.hid (owned_row hown); have HBw := Lib.hid (below_grown hgrow (Nat.le_refl _)); clear hown hgrow)
      obtain ⟨gw, hgw⟩ : ∃ gw, gw = wr.heap.size := ⟨_, rfl⟩
      have HRb : Hid (m.bm.dev.dirty.length = 0 ∨ ∀ b, RIn (.agg D) b → b ∉ [gw]) := Lib.hid (HFd.out.imp id (fun h b hb hm => by simp at hm; have := (h b hb).1; omega))
      have HH8 : Hid (HMk w1 w8 [q, g, gw] A n 25000000 m (.slice sa l sc) xs (K.re v') M) := Lib.hid (HH.out.more (fun k hk => by
        simp only [List.mem_cons, List.not_mem_nil, or_false] at hk
        rcases hk with rfl | rfl | rfl
        · exact .inl (by simp)
        · exact .inl (by simp)
        · exact .inr ⟨by omega, by rw [hgw]; exact HRw.out.lt⟩) HBw.out)
      have HMr8 : Hid (MemR w2.heap.size w8 [⟨q, 28, [valloc A, vdev A.X.F, .slice sa l sc], true⟩, ⟨g, 34, D.toList, true⟩, ⟨gw, 3, wasL M xs l 0, false⟩]) := Lib.hid (by
        rw [wasL_zero, hgw]
        exact HMr.out.row HBw.out HRw.out (Nat.le_refl _))
      have HRA8 := Lib.hid (HRA.out.below HBw.out (Nat.le_refl _))
      have HFd8 : Hid (FarD w8 m.bm.dev.dirty.length (.agg D) (K.re v').list) := Lib.hid (HFd.out.imp id (fun h b hb => ⟨Nat.lt_of_lt_of_le (h b hb).1 HBw.out.size, (h b hb).2⟩))
      rw [← hgw]
      clear hgw HRw HBw HH HMr HRA HFd c2
      go_wp2_with fail
      go_loopw [14] (fun i wx => ∃ j : Nat, j ≤ l ∧ i = .int .i64 (j : Int) ∧ Hid (HMk w1 wx [q, g, gw] A n 25000000 m (.slice sa l sc) xs (K.re v') M) ∧ Hid (MemR w2.heap.size wx [⟨q, 28, [valloc A, vdev A.X.F, .slice sa l sc], true⟩, ⟨g, 34, D.toList, true⟩, ⟨gw, 3, wasL M xs l j, false⟩]) ∧ Hid (RAt wx (.agg D) m.bm.dev.dirty.length (nowD m.bm.dev).ref) ∧ Hid (FarD wx m.bm.dev.dirty.length (.agg D) (K.re v').list)) (fun i _ => l - (intOf i).toNat)
      case atStart => exact ⟨0, Nat.zero_le _, rfl, HH8, HMr8, HRA8, HFd8⟩
      case round =>
        clear HH8 HMr8 HRA8 HFd8
        obtain ⟨j, hj, rfl, HH, HMr, HRA, HFd⟩ := hrel
        have c2 := HMr.out.cell 0 2 rfl rfl
        by_cases hlt : j < l
        · have hlt' : (j : Int) < (l : Int) := by omega
          obtain ⟨b3, o3, rfl, _, hcx3⟩ := (Cells.own22 HH.out).at (i := j) (by rw [List.length_map, ← HL.out]; exact hlt)
          obtain ⟨y, hy⟩ : ∃ y, xs[j]? = some y := ⟨_, List.getElem?_eq_getElem (by rw [← HL.out]; exact hlt)⟩
          have cy := hcx3 j (vi y) (by rw [List.getElem?_map, hy]; rfl)
          have HCo := Lib.hid (mcolour_any HH.out.mr y)
          change Hid (Calls Tryz.prog 37 #[.pointer (some ⟨K.p, 0, none⟩), .int .i64 (y : Int)] _ _) at HCo
          have cw := HMr.out.cell 2 j rfl (wasL_mid M xs l j HL.out hlt)
          have fw := HMr.out.frozen 2 j rfl
          have HMs := Lib.hid (HMr.out.set 2 j (.int .i64 (M.colour y : Nat)) rfl (by rw [wasL_len M xs l j HL.out (by omega)]; exact hlt))
          have HWs := Lib.hid (wasL_set M xs l j y HL.out hy)
          clear hcx3 hy
          go_wp2_with fail
          refine HCo.out.mono ?_
          rintro e w9 ⟨rfl, rfl⟩
          go_wp2_with fail
          have htc : Touch [gw] _ (World.setCell _ ⟨gw, j, none⟩ (.int .i64 (M.colour y : Nat))) := Touch.setCell (w := wr) ⟨gw, j, none⟩ (by simp) _
          refine ⟨⟨j + 1, by omega, vint (by omega), Lib.hid (HH.out.own (htc.wide (by simp))), Lib.hid (by have := HMs.out; rw [HWs.out] at this; exact this), Lib.hid (HRA.out.touch htc HRb.out), Lib.hid (HFd.out.imp id (fun h b hb => ⟨Nat.lt_of_lt_of_le (h b hb).1 htc.size, (h b hb).2⟩))⟩, by simp [intOf]; omega⟩
        · obtain rfl : j = l := by omega
          have hf : decide ((j : Int) < (j : Int)) = false := by simp
          have hst := Mk.stepped (P := ptrsO m) HIv.out.1 HIv.out.2.1
          have HSt := Lib.hid (mstep_any HH.out.ma (show M.miss ≤ 800000 ∧ M.st.length ≤ 800000 by have h1 := HIv.out.2.2.1.miss; have h2 := HIv.out.2.2.1.st; have h3 := HMs.out; omega))
          change Hid (Calls Tryz.prog 36 #[.pointer (some ⟨K.p, 0, none⟩)] wr _) at HSt
          unfold StepPost at HSt
          have HStd := Lib.hid hst
          have HFt2 := Lib.hid (HIv.out.2.2.1.step (U := m.used) (P := ptrsO m) HPl.out)
          have HMs2 : Hid ((M.step m.used (ptrsO m)).2.most ≤ 127) := Lib.hid (by rw [hst.most]; exact HMs.out)
          have HGo : Hid (∀ w9, MAGo wr w9 A n 4 m (K.re v') (M.step m.used (ptrsO m)).2 → ∃ v3, HMk w1 w9 [q, g, gw] A n 25000000 m (.slice sa j sc) xs (K.re v3) (M.step m.used (ptrsO m)).2 ∧ Off [q, g, gw] wr w9 ∧ RAt w9 (.agg D) m.bm.dev.dirty.length (nowD m.bm.dev).ref ∧ FarD w9 m.bm.dev.dirty.length (.agg D) (K.re v3).list) := Lib.hid (fun w9 hg => by
            obtain ⟨v3, h1, h2, h3, h4⟩ := HH.out.go2 (Pb := fun b => m.bm.dev.dirty.length ≠ 0 ∧ RIn (.agg D) b) (fun b hb => HFd.out.elim (fun h => absurd h hb.1) (fun h => h b hb.2)) hg
            refine ⟨v3, h1, h2, HRA.out.touch h3 (HFd.out.imp id (fun h b hb => (h b hb).2)), ?_⟩
            by_cases c : m.bm.dev.dirty.length = 0
            · exact .inl c
            · exact .inr (fun b hb => h4 b ⟨c, hb⟩))
          clear hst
          generalize (M.step m.used (ptrsO m)).1 = sb at *
          generalize (M.step m.used (ptrsO m)).2 = M3 at *
          go_wp2_with fail
          refine HSt.out.mono ?_
          rintro e w11 ⟨rfl, hg⟩
          obtain ⟨v3, hh3, ho3, hr3, hf3⟩ := HGo.out _ hg
          have HH3 := Lib.hid hh3
          have HMr3 := Lib.hid (HMr.out.off ho3 (by simp))
          have HRA3 := Lib.hid hr3
          have HFd3 := Lib.hid hf3
          clear hg hh3 ho3 hr3 hf3 HSt HGo HH HMr HRA HFd c2
          go_wp2_with fail
          go_loopw [16, 17] (fun bl i wx => ∃ d : Nat, d ≤ j ∧ bl = .int .i64 ((((xs.take d).filter (newly M M3)).length : Nat) : Int) ∧ i = .int .i64 (d : Int) ∧ Hid (Below w11.heap.size w11 wx)) (fun _ i _ => j - (intOf i).toNat)
          case atStart => exact ⟨0, Nat.zero_le _, by simp, rfl, Lib.hid (Below.refl _ _)⟩
          case round =>
            obtain ⟨d, hd, rfl, rfl, HBd⟩ := hrel
            have HHd := Lib.hid (HH3.out.later HBd.out)
            have HMrd := Lib.hid (HMr3.out.later HBd.out)
            have c2 := HMrd.out.cell 0 2 rfl rfl
            by_cases hdl : d < j
            · have hdl' : (d : Int) < (j : Int) := by omega
              obtain ⟨b3, o3, rfl, _, hcx3⟩ := (Cells.own22 HHd.out).at (i := d) (by rw [List.length_map, ← HL.out]; exact hdl)
              obtain ⟨y, hy⟩ : ∃ y, xs[d]? = some y := ⟨_, List.getElem?_eq_getElem (by rw [← HL.out]; exact hdl)⟩
              have cy := hcx3 d (vi y) (by rw [List.getElem?_map, hy]; rfl)
              have HCo := Lib.hid (mcolour_any HHd.out.mr y)
              change Hid (Calls Tryz.prog 37 #[.pointer (some ⟨K.p, 0, none⟩), .int .i64 (y : Int)] _ _) at HCo
              have cw := HMrd.out.cell 2 d rfl (wasL_at M xs j d y HL.out hy)
              have HTk := Lib.hid (newly_take M M3 xs d y hy)
              have hcol := Stepped.colours HIv.out.1 HStd.out y
              have hnl : ((xs.take d).filter (newly M M3)).length ≤ 1 := Nat.le_trans (newly_le M M3 xs d) (Stepped.one HIv.out.1 HStd.out HH3.out.hp.ok.nd)
              have h2a := M.colour_two y
              have h2b := M3.colour_two y
              have HPp := Lib.hid (fun c1 c2 => Stepped.ptrs HIv.out.1 HStd.out (x := y) c1 c2)
              have hcc : (M3.colour y = M.colour y) ∨ (M.colour y = 0 ∧ M3.colour y = 1 ∧ sb = true) ∨ (M.colour y = 1 ∧ M3.colour y = 2 ∧ sb = true) := by
                obtain ⟨e1, e2, e3⟩ := hcol
                by_cases c : M3.colour y = M.colour y
                · exact .inl c
                · right
                  have hs : sb = true := by
                    cases hsb : sb with
                    | true => rfl
                    | false => exact absurd (e3 hsb) c
                  rcases (show (M.colour y = 0 ∧ M3.colour y = 1) ∨ (M.colour y = 1 ∧ M3.colour y = 2) by omega) with ⟨f1, f2⟩ | ⟨f1, f2⟩
                  · exact .inl ⟨f1, f2, hs⟩
                  · exact .inr ⟨f1, f2, hs⟩
              generalize ((xs.take d).filter (newly M M3)).length = nb at *
              rcases hcc with hcc | ⟨h0, h1, rfl⟩ | ⟨h0, h1, rfl⟩
              · have hny : newly M M3 y = false := by
                  unfold newly
                  rw [hcc]
                  by_cases c : M.colour y = 2
                  · rw [c]; rfl
                  · simp [c]
                rw [hny] at HTk
                rw [hcc] at HCo
                clear hcx3 hy hcol HPp h2b hcc hny
                generalize M.colour y = cl at *
                have hcl : cl = 0 ∨ cl = 1 ∨ cl = 2 := by omega
                rcases hcl with rfl | rfl | rfl
                all_goals (
                  go_wp2_with fail
                  refine HCo.out.mono ?_
                  rintro e w12 ⟨rfl, rfl⟩
                  go_wp2_with fail
                  refine ⟨⟨d + 1, by omega, ?_, vint (by omega), HBd⟩, by simp [intOf]; omega⟩
                  have := HTk.out
                  rw [if_neg (by decide)] at this
                  exact vint (by omega))
              · have hny : newly M M3 y = false := by unfold newly; rw [h1]; rfl
                rw [hny] at HTk
                rw [h1] at HCo
                rw [h0] at cw
                clear hcx3 hy hcol HPp h2a h2b h0 h1 hny
                go_wp2_with fail
                refine HCo.out.mono ?_
                rintro e w12 ⟨rfl, rfl⟩
                go_wp2_with fail
                refine ⟨⟨d + 1, by omega, ?_, vint (by omega), HBd⟩, by simp [intOf]; omega⟩
                have := HTk.out
                rw [if_neg (by decide)] at this
                exact vint (by omega)
              · have hny : newly M M3 y = true := by unfold newly; rw [h0, h1]; rfl
                rw [hny] at HTk
                rw [h1] at HCo
                rw [h0] at cw
                have HBk : Hid (∀ z ∈ ptrsD (nowD m.bm.dev) (y : Int), m.used.getD z false = true → M3.colour z ≠ 0) := Lib.hid (HPp.out h0 h1)
                have HLn : Hid ((ptrsD (nowD m.bm.dev) (y : Int)).length ≤ 64) := Lib.hid (HPl.out y)
                have HLe : Hid (∀ x ∈ ptrsD (nowD m.bm.dev) (y : Int), x ≤ 1099511627776) := Lib.hid (ptrsD_le _ _)
                have HPt := Lib.hid (fun w' (hb : Below w11.heap.size w11 w') => rptrs22_any (S := nowD m.bm.dev) (by simp [nowD, freshDev]) (HRA3.out.below hb (Nat.le_refl _)) (nowD_fit HWf.out 0) (y : Int))
                generalize ptrsD (nowD m.bm.dev) (y : Int) = P at *
                clear hcx3 hy hcol HPp h2a h2b h0 h1 hny
                go_wp2_with fail
                refine HCo.out.mono ?_
                rintro e w12 ⟨rfl, rfl⟩
                have hld : ∀ w', (∃ x : Later wr, w' = x.val) → ∀ i v, D.toList[i]? = some v → w'.cell? ⟨g, 0 + i, none⟩ = some v := by
                  rintro _ ⟨x, rfl⟩ i v hi
                  rw [Nat.zero_add]
                  exact later_cell (HMrd.out.cell 1 i rfl hi) x
                have r2 := fun x => later_cell c2 x
                have r3 := fun x => later_cell cy x
                clear HCo
                go_upto_region 32 with fail
                refine wp_region_seg (C := fun w' => ∃ x : Later (wr), w' = x.val) [.fl [0, 1, 2, 3, 4, 5], .sq [6, 7] false] (by kernel_rfl) (by kernel_rfl) (by intro c a d v w h; cases d <;> exact h) ?_
                simp only [segs, picks, List.getElem?_cons_succ, List.getElem?_cons_zero]
                have hC1 := later_drew (wr)
                refine wpSeg_fl hC1 ?_
                repeat (first | (refine wpQuiet_load_arr aggRd D hld hD8 rfl rfl rfl ?_) | go_big_quiet_step (fail) | quiet_step (fail))
                refine wpQuiet_nil ?_
                have HBk1 := Lib.hid (HBd.out.trans ((later_below hC1).mono HBd.out.size))
                clear r2 r3 c2 cy cw hld hC1 HHd HMrd HBd
                generalize wr.drew = w13 at *
                refine wpSeg_last ?_
                go_wp2_with fail
                refine (HPt.out _ HBk1.out).mono ?_
                rintro e w14 ⟨av, cp, rfl, hcs, hb14⟩
                have HCl := Lib.hid hcs
                have HHl := Lib.hid (HH3.out.later (HBk1.out.trans (hb14.mono HBk1.out.size)))
                have HMrl := Lib.hid (HMr3.out.later (HBk1.out.trans (hb14.mono HBk1.out.size)))
                have HBl := Lib.hid (HBk1.out.trans (hb14.mono HBk1.out.size))
                obtain ⟨pl, hpl⟩ : ∃ pl, pl = P.length := ⟨_, rfl⟩
                rw [← hpl]
                have HPn := Lib.hid hpl
                have hp64 : pl ≤ 64 := by rw [hpl]; exact HLn.out
                clear hcs hb14 HPt HBk1 hpl
                go_wp2_with fail
                go_loopw [20] (fun i wr => ∃ p : Nat, p ≤ pl ∧ i = .int .i64 (p : Int) ∧ Hid (Below w14.heap.size w14 wr)) (fun i _ => pl - (intOf i).toNat)
                case atStart => exact ⟨0, Nat.zero_le _, rfl, Lib.hid (Below.refl _ _)⟩
                case round =>
                  obtain ⟨p, hpl, rfl, HBp⟩ := hrel
                  have HHp := Lib.hid (HHl.out.later HBp.out)
                  have HMrp := Lib.hid (HMrl.out.later HBp.out)
                  by_cases hplt : p < pl
                  · have hplt' : (p : Int) < (pl : Int) := by omega
                    have hcd := HCl.out.below HBp.out (Nat.le_refl _)
                    obtain ⟨b5, o5, rfl, _, hcx5⟩ := hcd.at (i := p) (by rw [List.length_map, ← HPn.out]; exact hplt)
                    obtain ⟨zz, hzz⟩ : ∃ zz, P[p]? = some zz := ⟨_, List.getElem?_eq_getElem (by rw [← HPn.out]; exact hplt)⟩
                    have cz := hcx5 p (vi zz) (by rw [List.getElem?_map, hzz]; rfl)
                    have hzm : zz ∈ P := List.mem_of_getElem? hzz
                    have hz9 := HLe.out zz hzm
                    have HZb := Lib.hid (HBk.out zz hzm)
                    have c0 := HMrp.out.cell 0 0 rfl rfl
                    have r0 := fun x => later_cell c0 x
                    have r1 := fun x => later_cell cz x
                    clear hcd hcx5 hzz hzm
                    go_upto_region 36 with fail
                    refine wp_region_seg (C := fun w' => ∃ x : Later (wr), w' = x.val) [.fl [0, 1, 2, 3, 4, 5], .sq [6, 7] false, .fl [8, 9, 10, 11, 12], .sq [13, 14, 15] false] (by kernel_rfl) (by kernel_rfl) (by intro c a d v w h; cases d <;> exact h) ?_
                    simp only [segs, picks, List.getElem?_cons_succ, List.getElem?_cons_zero]
                    have hC1 := later_drew (wr)
                    refine wpSeg_fl hC1 ?_
                    repeat (first | go_big_quiet_step (fail) | quiet_step (fail))
                    refine wpQuiet_nil ?_
                    have HHe := Lib.hid (HHp.out.later (later_below hC1))
                    have HBe := Lib.hid (HBp.out.trans ((later_below hC1).mono HBp.out.size))
                    clear r0 c0 cz HHp HMrp HBp
                    generalize wr.drew = w15 at *
                    have HU := Lib.hid (aused_any HHe.out.hp.at_.al (zz : Int))
                    rw [hasI_nat] at HU
                    have HCz := Lib.hid (mcolour_any HHe.out.mr zz)
                    change Hid (Calls Tryz.prog 37 #[.pointer (some ⟨K.p, 0, none⟩), .int .i64 (zz : Int)] _ _) at HCz
                    have hz2 := M3.colour_two zz
                    generalize M3.colour zz = cl at *
                    generalize m.used.getD zz false = ub at *
                    cases ub with
                    | false =>
                      clear HZb HCz
                      refine wpSeg_sq (fun K hK => ?_)
                      go_wp2_with fail
                      refine HU.out.mono ?_
                      rintro e w16 ⟨rfl, rfl⟩
                      go_wp2_with fail
                      refine hK _ _ (fun h => nomatch h) ?_
                      clear hK K
                      refine wpSeg_fl hC1 ?_
                      repeat (first | go_big_quiet_step (fail) | quiet_step (fail))
                      refine wpQuiet_nil ?_
                      refine wpSeg_last ?_
                      go_wp2_with fail
                      exact ⟨⟨p + 1, by omega, vint (by omega), HBe⟩, by simp [intOf]; omega⟩
                    | true =>
                      have hcz : (((cl : Nat) : Int) == 0) = false := by have := HZb.out rfl; simp; omega
                      clear HZb
                      refine wpSeg_sq (fun K hK => ?_)
                      go_wp2_with fail
                      refine HU.out.mono ?_
                      rintro e w16 ⟨rfl, rfl⟩
                      go_wp2_with fail
                      refine hK _ _ (fun h => nomatch h) ?_
                      clear hK K
                      refine wpSeg_fl hC1 ?_
                      repeat (first | go_big_quiet_step (fail) | quiet_step (fail))
                      refine wpQuiet_nil ?_
                      refine wpSeg_last ?_
                      go_wp2_with fail
                      refine HCz.out.mono ?_
                      rintro e w16 ⟨rfl, rfl⟩
                      go_wp2_with fail
                      exact ⟨⟨p + 1, by omega, vint (by omega), HBe⟩, by simp [intOf]; omega⟩
                  · obtain rfl : p = pl := by omega
                    have hpf : decide ((p : Int) < (p : Int)) = false := by simp
                    have HBz := Lib.hid (HBl.out.trans (HBp.out.mono HBl.out.size))
                    go_wp2_with fail
                    refine ⟨⟨d + 1, by omega, ?_, vint (by omega), HBz⟩, by simp [intOf]; omega⟩
                    have := HTk.out
                    simp only [if_true] at this
                    exact vint (by omega)
            · obtain rfl : d = j := by omega
              have hf2 : decide ((d : Int) < (d : Int)) = false := by simp
              have HOne : Hid (((xs.take d).filter (newly M M3)).length ≤ 1) := Lib.hid (Nat.le_trans (newly_le M M3 xs d) (Stepped.one HIv.out.1 HStd.out HH3.out.hp.ok.nd))
              have HRAd := Lib.hid (HRA3.out.below HBd.out (Nat.le_refl _))
              have HFdd : Hid (FarD wr m.bm.dev.dirty.length (.agg D) (K.re v3).list) := Lib.hid (HFd3.out.imp id (fun h b hb => ⟨Nat.lt_of_lt_of_le (h b hb).1 HBd.out.size, (h b hb).2⟩))
              have hone := HOne.out
              generalize ((xs.take d).filter (newly M M3)).length = nb at *
              have hnb : decide ((1 : Int) < (nb : Int)) = false := by simp; omega
              cases sb with
              | true =>
                have HLt := Lib.hid (Stepped.left HLx.out HIv.out.1 HStd.out)
                have HIv3 : Hid (MkOk m.used M3 ∧ M3.Cover ∧ M3.Fits (10 + 64 * (k + 1)) ∧ M3.left d + (k + 1) ≤ 2 * d + 1) := Lib.hid ⟨HStd.out.ok HIv.out.1, HStd.out.cover HIv.out.1, (by rw [show 10 + 64 * (k + 1) = 10 + 64 * k + 64 by omega]; exact HFt2.out), (by have h1 := HLt.out; have h2 := HIv.out.2.2.2; omega)⟩
                have hk3 : k + 1 ≤ 2 * d + 1 := by have := HIv3.out.2.2.2; omega
                have HH10 := Lib.hid (HHd.out.less (Q' := [q, g]) (by simp))
                have HMr10 := Lib.hid (MemR.front (L := [⟨q, 28, [valloc A, vdev A.X.F, .slice sa d sc], true⟩, ⟨g, 34, D.toList, true⟩]) (E := [⟨gw, 3, wasL M xs d d, false⟩]) HMrd.out)
                clear HHd HMrd hone
                go_wp2_with fail
                refine ⟨⟨k + 1, v3, M3, vint (by omega), hk3, HH10, HMr10, HRAd, HFdd, HIv3, HMs2⟩, by simp [intOf]; omega⟩
              | false =>
                have HSame := Lib.hid (Mk.ended_same (HStd.out.ok HIv.out.1) HStd.out.ended)
                have HGr := Lib.hid (mgreys_any HHd.out.mr)
                change Hid (Calls Tryz.prog 41 #[.pointer (some ⟨K.p, 0, none⟩)] _ _) at HGr
                rw [show (M3.ms.count true : Int) - (M3.sc.count true : Int) = 0 by rw [← HSame.out]; omega] at HGr
                have HBe := Lib.hid (HB1.out.trans (HHd.out.below.mono HB1.out.size))
                clear HHd HMrd hone
                go_wp2_with fail
                refine HGr.out.mono ?_
                rintro e w12 ⟨rfl, hb12⟩
                have HEnd := Lib.hid (HP.out w12 (HBe.out.trans (hb12.mono HBe.out.size)))
                clear hb12
                go_wp2_with fail
                exact HEnd.out
end Go.Proofs.YtfedgcdkagngnaaGreat
