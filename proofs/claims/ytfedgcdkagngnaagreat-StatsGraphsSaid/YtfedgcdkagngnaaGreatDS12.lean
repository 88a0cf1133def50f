/- Parts of the proof, one behind the other: Gl, Wi, Wj, Wk, Wc, Wl, Ws, Wt, Gk, M, Gc, Gd, Zo, Wd, Ge, Gm, Ri, Ha, Ta. -/
import Derived.Test.YtfedgcdkagngnaaGreatDS11
import Derived.Lib.SliceRun
import Derived.Deep.DeepCutAuto
import Derived.Deep.CutBlock

namespace Go.Proofs.YtfedgcdkagngnaaGreat
open Go.RowKit Go.Maps
set_option linter.unusedVariables false
open Go.Lib (decDigits itoa nDigits)

section
variable {q ba bn bo mp : Nat} {A : AF} {v : Value} {o : List Nat} {w w' : World}
theorem GMem.other (h : GMem q w ba bn bo mp A v o) {g t : Nat} {cs : Array Value} (hg : w.heap[g]? = some (.cells cs t (0, 0))) (h1 : t ≠ 3) (h2 : t ≠ 26) : g ∉ gL bo mp v := by
  intro hm
  rcases gL_mem.1 hm with rfl | rfl | e
  · have := h.co
    rw [hg] at this
    simp only [Option.some.injEq, Obj.cells.injEq] at this
    exact h2 this.2.1
  · obtain ⟨es, c, hc⟩ := h.map.blk
    rw [hg] at hc; simp at hc
  · obtain ⟨cs', hc⟩ := h.own.rowBlk e
    rw [hg] at hc
    simp only [Option.some.injEq, Obj.cells.injEq] at hc
    exact h1 hc.2.1
theorem Bdr.other {B b : Nat} {vb : Value} {l : List UInt8} (h : Bdr B b vb l w) {g t : Nat} {cs : Array Value} (hg : w.heap[g]? = some (.cells cs t (0, 0))) (h1 : t ≠ 155) (h2 : t ≠ 5) : g ∉ bdL b vb := by
  intro hm
  rcases bdL_mem.1 hm with rfl | e
  · obtain ⟨cs', hc⟩ := h.block
    rw [hg] at hc
    simp only [Option.some.injEq, Obj.cells.injEq] at hc
    exact h1 hc.2.1
  · obtain ⟨_, cs', hc⟩ := h.row e
    rw [hg] at hc
    simp only [Option.some.injEq, Obj.cells.injEq] at hc
    exact h2 hc.2.1
theorem GMem.down (h : GMem q w ba bn bo mp A v o) (ht : Touch (gL bo mp v) w w') : Below q w w' := ht.below (by have := h.la; have := h.lt (k := ba) (.inl rfl); omega) (fun k hk => h.above hk)
theorem Bdr.down {B b : Nat} {vb : Value} {l : List UInt8} (h : Bdr B b vb l w) (ht : Touch (bdL b vb) w w') : Below B w w' := ht.below (by have := h.lo; have := h.lt; omega) (fun k hk => (h.mem hk).1)
theorem GMem.qs (h : GMem q w ba bn bo mp A v o) : q ≤ w.heap.size := by have := h.la; have := h.lt (k := ba) (.inl rfl); omega
end

structure GAll (q : Nat) (w0 w : World) (ba bn bo mp b : Nat) (A : AF) (n B : Nat) (m : Al) (v vb : Value) (s : List Nat × List UInt8) : Prop where
  g : GMem q w ba bn bo mp A v s.1
  d : Bdr q b vb s.2 w
  lo : Below q w0 w
  al : AlAt w A n B m
section
variable {q ba bn bo mp b n B : Nat} {A : AF} {m : Al} {v vb : Value} {s : List Nat × List UInt8} {w0 w w' : World}
theorem GAll.later (h : GAll q w0 w ba bn bo mp b A n B m v vb s) (hb : Below w.heap.size w w') : GAll q w0 w' ba bn bo mp b A n B m v vb s :=
  ⟨h.g.later hb, h.d.later hb, h.lo.trans (hb.mono h.g.qs), h.al.below hb⟩
theorem GAll.visit (h : GAll q w0 w ba bn bo mp b A n B m v vb s) (hA : ∀ w', Below q w0 w' → AlAt w' A n B m) {o' : List Nat} {v' : Value} (ht : Touch (gL bo mp v) w w') (hg : GMem q w' ba bn bo mp A v' o') : GAll q w0 w' ba bn bo mp b A n B m v' vb (o', s.2) :=
  have hb := h.lo.trans (h.g.down ht)
  ⟨hg, h.d.gm h.g ht, hb, hA w' hb⟩
theorem GAll.write (h : GAll q w0 w ba bn bo mp b A n B m v vb s) (hA : ∀ w', Below q w0 w' → AlAt w' A n B m) {T : List UInt8} {vb' : Value} (ht : Touch (bdL b vb) w w') (hd : Bdr q b vb' T w') : GAll q w0 w' ba bn bo mp b A n B m v vb' (s.1, T) :=
  have hb := h.lo.trans (h.d.down ht)
  ⟨h.g.bd h.d ht, hd, hb, hA w' hb⟩
theorem GAll.order (h : GAll q w0 w ba bn bo mp b A n B m v vb s) : ∃ a c, v = .slice a s.1.length c ∧ Cells w a (s.1.map vi) := by
  obtain ⟨a, c, e, h1, _⟩ := h.g.own.cells
  exact ⟨a, c, e, h1⟩
theorem GAll.cellA (h : GAll q w0 w ba bn bo mp b A n B m v vb s) : w.cell? ⟨ba, 0, none⟩ = some (valloc A) := by rw [Lib.cell_of_heap h.g.ca]; rfl
theorem GAll.cellO (h : GAll q w0 w ba bn bo mp b A n B m v vb s) : w.cell? ⟨bo, 0, none⟩ = some v := by rw [Lib.cell_of_heap h.g.co]; rfl
end

theorem bdr_at {q : Nat} (w : World) (h : q ≤ w.heap.size) : Bdr q w.heap.size (.slice none 0 0) [] (w.alloc (.cells #[.pointer none, .slice none 0 0] 155)) :=
  ⟨h, ⟨rfl, .inl ⟨rfl, rfl⟩⟩, .inl (heap_alloc_new w _)⟩
theorem gm_start {q : Nat} {A : AF} {w1 : World} {ba bo : Nat} (ha : q ≤ ba) (ho : q ≤ bo) (ca : w1.heap[ba]? = some (.cells #[valloc A] 24 (0, 0))) (co : w1.heap[bo]? = some (.cells #[.slice none 0 0] 26 (0, 0))) (hq : q ≤ w1.heap.size) :
    GMem q ((w1.alloc (.map #[] 0)).alloc (.cells #[.map (some w1.heap.size)] 84)) ba (w1.heap.size + 1) bo w1.heap.size A (.slice none 0 0) [] ∧
    Below w1.heap.size w1 ((w1.alloc (.map #[] 0)).alloc (.cells #[.map (some w1.heap.size)] 84)) := by
  have h1 : (w1.alloc (.map #[] 0)).heap.size = w1.heap.size + 1 := by simp
  have b1 := below_alloc w1 (.map #[] 0)
  have b2 := below_alloc (w1.alloc (.map #[] 0)) (.cells #[.map (some w1.heap.size)] 84)
  have b4 := b1.trans (b2.mono b1.size)
  have hn := heap_alloc_new (w1.alloc (.map #[] 0)) (.cells #[.map (some w1.heap.size)] 84)
  rw [h1] at hn
  have la := (Array.getElem?_eq_some_iff.1 ca).1
  have lo := (Array.getElem?_eq_some_iff.1 co).1
  refine ⟨⟨ha, by omega, ho, hq, (fun b hb => by cases hb), (b4.block ba la).trans ca, hn, (b4.block bo lo).trans co, OwnI.nil _, ?_⟩, b4⟩
  rw [ordM_nil]
  exact (IMap.made w1 Tryz.prog 3).alloc _

set_option maxHeartbeats 8000000 in
set_option maxRecDepth 100000 in
theorem dgraph_any {w : World} {A : AF} {n B : Nat} {m : Al} (h : AlAt w A n B m) (hB : B ≤ 1000) (hU : m.used.length ≤ 100000)
    (hup : ∀ x : Nat, m.used.getD x false = true → ∃ p d : Nat, placedN m.bm.dev m.bm.list (x : Int) = some ⟨(p : Int), (d : Int), 0⟩)
    (af : Option Addr) (fn cf : Nat) (fs : List Nat) (hfn : fs.length = fn) (hcf : Cells w af (fs.map vi)) (hfl : fn ≤ 20) (hfx : ∀ x ∈ fs, x ≤ 1099511627776) :
    Calls Tryz.prog 49 #[valloc A, .slice af fn cf] w (GraphPost m.used m.bm.dev fs w) := by
  have hmf : ∀ (fn : Fn) (first cap : Array Value) (w : World), (Instr.makeFunc fn first cap).run Tryz.prog w = .ok (.func fn first cap) w := fun _ _ _ _ => rfl
  have hmm := @run_makeMap Tryz.prog
  have HP := Lib.hid (fun (n : Nat) (T : List UInt8) (w' : World) (h1 : GEnd m.used m.bm.dev (gTop m.used fs) n) (h2 : T = (gLs m.used m.bm.dev (gTop m.used fs) n).2) (h3 : Below w.heap.size w w') => (show GraphPost m.used m.bm.dev fs w (.returned (strV T)) w' from by subst h2; exact ⟨n, h1, rfl, h3⟩))
  generalize GraphPost m.used m.bm.dev fs w = Post at *
  obtain ⟨q, hq⟩ : ∃ q, q = w.heap.size := ⟨_, rfl⟩
  have HA := Lib.hid (fun w' (hb : Below q w w') => h.below (by rw [← hq]; exact hb))
  have HCf := Lib.hid hcf
  have HFn := Lib.hid hfn
  have HFx := Lib.hid hfx
  have HUp := Lib.hid hup
  have HU := Lib.hid hU
  have HS := Lib.hid h.man.dev.small
  have HU8 := Lib.hid h.man.dev.u64C
  have HOa : Hid (∀ k, GOk m.used (gA m.used gRoot fs k).1) := Lib.hid (fun k => GOk.a (s := gRoot) (GOk.nil m.used) fs k)
  have HTa : Hid (∀ k, (gA m.used gRoot fs k).2.length ≤ 1000) := Lib.hid (fun k => by have := gA_len (s := gRoot) (GOk.nil m.used) (by omega) fs k; rw [hfn, show gRoot.2.length = 5 from rfl] at this; omega)
  have HQ := Lib.hid hq
  have H0 := Lib.hid (heap_alloc_new w (.cells #[valloc A] 24))
  have HB0 := Lib.hid (below_alloc w (.cells #[valloc A] 24))
  have HSz0 : Hid ((w.alloc (.cells #[valloc A] 24)).heap.size = q + 1) := Lib.hid (by rw [hq]; simp)
  clear h hfn hcf hfx hup hU
  go_enter Tryz.func49, Tryz.ntmps49
  go_upto_region 1 with fail
  rw [← hq] at H0 HB0 HP ⊢
  clear hq
  generalize w.alloc _ = w0 at *
  have H1 := Lib.hid (heap_alloc_new w0 (.cells #[.slice none 0 0] 26))
  have HB1 := Lib.hid (below_alloc w0 (.cells #[.slice none 0 0] 26))
  have HSz1 : Hid ((w0.alloc (.cells #[.slice none 0 0] 26)).heap.size = q + 1 + 1) := Lib.hid (by simp [HSz0.out])
  rw [HSz0.out] at H1
  go_upto_region 2 with fail
  rw [HSz0.out]
  generalize w0.alloc _ = w1 at *
  have HSt := Lib.hid (gm_start (q := q) (A := A) (w1 := w1) (ba := q) (bo := q + 1) (Nat.le_refl _) (Nat.le_succ _) ((HB1.out.block q (by rw [HSz0.out]; omega)).trans H0.out) H1.out (by rw [HSz1.out]; omega))
  rw [HSz1.out] at HSt
  go_upto_region 3 with fail
  rw [HSz1.out]
  generalize (w1.alloc _).alloc _ = w2 at *
  have HBq2 : Hid (Below q w w2) := Lib.hid ((HB0.out.trans (HB1.out.mono (by rw [HSz0.out]; omega))).trans (HSt.out.2.mono (by omega)))
  have HG2 := Lib.hid HSt.out.1
  have HBa := Lib.hid (below_alloc w2 (.cells #[.pointer none, .slice none 0 0] 155))
  have HDa := Lib.hid (bdr_at w2 HG2.out.qs)
  obtain ⟨b, hb⟩ : ∃ b, b = w2.heap.size := ⟨_, rfl⟩
  rw [← hb] at HDa
  have HG3 : Hid (GAll q w (w2.alloc (.cells #[.pointer none, .slice none 0 0] 155)) q (q + 1 + 1 + 1) (q + 1) (q + 1 + 1) b A n B m (.slice none 0 0) (.slice none 0 0) ([], [])) := Lib.hid (
    have hbb := HBq2.out.trans (HBa.out.mono HG2.out.qs)
    ⟨HG2.out.later HBa.out, HDa.out, hbb, HA.out _ hbb⟩)
  clear H0 HB0 HSz0 H1 HB1 HSz1 HSt HBq2 HG2 HBa HDa
  go_upto_region 5 with fail
  rw [← hb]
  clear hb
  generalize w2.alloc _ = w3 at *
  obtain ⟨bn, hbn⟩ : ∃ bn, bn = q + 1 + 1 + 1 := ⟨_, rfl⟩
  obtain ⟨mp, hmp⟩ : ∃ mp, mp = q + 1 + 1 := ⟨_, rfl⟩
  obtain ⟨bo, hbo⟩ : ∃ bo, bo = q + 1 := ⟨_, rfl⟩
  rw [← hbn, ← hmp, ← hbo] at HG3
  rw [← hbn, ← hbo]
  clear hbn hmp hbo
  have HW := Lib.hid (bwriteT_any HG3.out.d [114, 111, 111, 116, 115] (by simp) HG3.out.g.qs)
  go_wp2_with fail
  refine HW.out.mono ?_
  rintro e w4 ⟨rfl, vb4, hd4, ht4⟩
  have HG4 : Hid (GAll q w w4 q bn bo mp b A n B m (.slice none 0 0) vb4 (gA m.used gRoot fs 0)) := Lib.hid (HG3.out.write HA.out ht4 hd4)
  clear hd4 ht4 HW HG3
  go_wp2_with fail
  go_loopw [25] (fun iv wr => ∃ (k : Nat) (v vb : Value), k ≤ fn ∧ iv = .int .i64 (k : Int) ∧ Hid (GAll q w wr q bn bo mp b A n B m v vb (gA m.used gRoot fs k))) (fun iv _ => fn - (intOf iv).toNat)
  case atStart => exact ⟨0, _, vb4, Nat.zero_le _, rfl, HG4⟩
  case round =>
    clear HG4
    obtain ⟨k, v, vb, hk, rfl, HG⟩ := hrel
    have HOl : Hid ((gA m.used gRoot fs k).1.length ≤ 100000) := Lib.hid (Nat.le_trans (HOa.out k).len HU.out)
    by_cases hlt : k < fn
    · have hlt' : (k : Int) < (fn : Int) := by omega
      have HCr := Lib.hid (HCf.out.below (by rw [← HQ.out]; exact HG.out.lo) (Nat.le_refl _))
      obtain ⟨b1, o1, e1, _, hc1⟩ := HCr.out.at (i := k) (by rw [List.length_map, HFn.out]; exact hlt)
      subst e1
      obtain ⟨x, hx⟩ : ∃ x, fs[k]? = some x := ⟨_, List.getElem?_eq_getElem (by rw [HFn.out]; exact hlt)⟩
      have c1 := hc1 k (vi x) (by rw [List.getElem?_map, hx]; rfl)
      have hx9 := HFx.out x (List.mem_of_getElem? hx)
      have HV := Lib.hid (gvisit_any HG.out.g HG.out.al (by have := HOl.out; omega) x hx9)
      have HSc := Lib.hid (gA_succ m.used gRoot fs k x hx)
      have HTx : Hid ((gTx m.used (gA m.used gRoot fs k).1 x).length ≤ 20) := Lib.hid (gTx_len (U := m.used) (by have := HOl.out; omega) x)
      have HTl := Lib.hid (HTa.out k)
      unfold VisPost at HV
      generalize gNm m.used (gA m.used gRoot fs k).1 x = o2 at *
      generalize gTx m.used (gA m.used gRoot fs k).1 x = T2 at *
      generalize gA m.used gRoot fs k = s1 at *
      have hs2 : (bstr T2).size ≤ 20 := by rw [bstr_size]; exact HTx.out
      have ha1 : ({ data := #[32] } : ByteArray) ++ bstr T2 = bstr (32 :: T2) := bstr_append [32] T2
      clear hc1 hx hx9
      go_wp2_with fail
      refine HV.out.mono ?_
      rintro e w5 ⟨rfl, ht5, v5, hg5⟩
      have HG5 := Lib.hid (HG.out.visit HA.out ht5 hg5)
      have HW := Lib.hid (bwriteT_any HG5.out.d (32 :: T2) (by have h1 := HTx.out; have h2 := HTl.out; simp; omega) HG5.out.g.qs)
      clear ht5 hg5 HG
      go_wp2_with fail
      refine HW.out.mono ?_
      rintro e w6 ⟨rfl, vb6, hd6, ht6⟩
      have HG6 := Lib.hid (HG5.out.write HA.out ht6 hd6)
      dsimp only at HG6
      clear hd6 ht6 HW HG5
      go_wp2_with fail
      exact ⟨⟨k + 1, v5, vb6, by omega, vint (by omega), Lib.hid (by rw [HSc.out]; exact HG6.out)⟩, by simp [intOf]; omega⟩
    · obtain rfl : k = fn := by omega
      have hlt' : decide ((k : Int) < (k : Int)) = false := by simp
      have HTp : Hid (gTop m.used fs = ((gA m.used gRoot fs k).1, (gA m.used gRoot fs k).2 ++ [10])) := Lib.hid (by unfold gTop; rw [HFn.out])
      have HTop := Lib.hid (gTop_ok m.used fs)
      have HTl : Hid ((gTop m.used fs).2.length ≤ 1000) := Lib.hid (by have := gTop_len (U := m.used) (by have := HU.out; omega) fs; rw [HFn.out] at this; omega)
      have HW := Lib.hid (bbyteT_any HG.out.d 10 10 rfl (by have := HTa.out k; omega) HG.out.g.qs)
      clear HOl HOa HTa
      go_wp2_with fail
      refine HW.out.mono ?_
      rintro e w5 ⟨rfl, vb5, hd5, ht5⟩
      have HG5 : Hid (GAll q w w5 q bn bo mp b A n B m v vb5 (gLs m.used m.bm.dev (gTop m.used fs) 0)) := Lib.hid (by
        have := HG.out.write HA.out ht5 hd5
        show GAll q w w5 q bn bo mp b A n B m v vb5 (gTop m.used fs)
        rw [HTp.out]; exact this)
      clear hd5 ht5 HW HG HTp
      generalize gTop m.used fs = top at *
      go_wp2_with fail
      go_loopw [11] (fun iv wr => ∃ (i : Nat) (v vb : Value), i ≤ 100000 ∧ iv = .int .i64 (i : Int) ∧ Hid (GAll q w wr q bn bo mp b A n B m v vb (gLs m.used m.bm.dev top i)) ∧ Hid (∀ j, j < i → j < (gLs m.used m.bm.dev top j).1.length)) (fun iv _ => 100001 - (intOf iv).toNat)
      case atStart => exact ⟨0, v, vb5, Nat.zero_le _, rfl, HG5, Lib.hid (fun j hj => absurd hj (Nat.not_lt_zero j))⟩
      case round =>
        clear HG5
        obtain ⟨i, v, vb, hi, rfl, HG, HLt⟩ := hrel
        obtain ⟨av, cv, rfl, hcv⟩ := HG.out.order
        have HCv := Lib.hid hcv
        have HLn : Hid ((gLs m.used m.bm.dev top i).2.length ≤ 100000000000) := Lib.hid (by have := gLs_len HS.out HTop.out (by have := HU.out; omega) i (by omega); have := HTl.out; omega)
        obtain ⟨nl, hnl⟩ : ∃ nl, nl = (gLs m.used m.bm.dev top i).1.length := ⟨_, rfl⟩
        have HNl := Lib.hid hnl
        rw [← hnl] at HG
        have hn1 : nl ≤ 100000 := by rw [hnl]; exact Nat.le_trans (HTop.out.ls i).len HU.out
        have co := HG.out.cellO
        clear hcv hnl
        by_cases hin : i < nl
        · have hin' : (i : Int) < (nl : Int) := by omega
          obtain ⟨x, hx⟩ : ∃ x, (gLs m.used m.bm.dev top i).1[i]? = some x := ⟨_, List.getElem?_eq_getElem (by rw [← HNl.out]; exact hin)⟩
          have hux := (HTop.out.ls (S := m.bm.dev) i).us x (List.mem_of_getElem? hx)
          obtain ⟨p, d, hpl⟩ := HUp.out x hux
          obtain ⟨hh, _, _, _⟩ := placed_head hpl
          have HX := Lib.hid hx
          have HSc := Lib.hid (gLs_succ (U := m.used) hx hh)
          have HOk := Lib.hid (HTop.out.ls (S := m.bm.dev) i)
          have HNi := Lib.hid (fun w => dnumber_any (i : Int) (by constructor <;> omega) w)
          have HLi : Hid ((itoa (i : Int)).length ≤ 20) := Lib.hid (itoa_len (by omega))
          have HPl := Lib.hid (ptrsD_len HS.out (x : Int))
          have hpe : ptrsD m.bm.dev (x : Int) = ptrL m.bm.dev (x : Int) p := by unfold ptrsD; rw [hh, if_pos rfl]; rfl
          have HPn : Hid ((ptrsD m.bm.dev (x : Int)).length = p) := Lib.hid (by rw [hpe, ptrL_length])
          have HPv : Hid (∀ k, k < p → (ptrsD m.bm.dev (x : Int))[k]? = some (capP (peek m.bm.dev.cache ((x : Int) + 1 + (k : Int))))) := Lib.hid (fun k hk => by rw [hpe]; unfold ptrL; rw [List.getElem?_map, List.getElem?_range hk]; rfl)
          have HLd : Hid (∀ j, j ≤ d → (sumB (datT m.bm.dev (x : Int) (p : Int)) j).length ≤ 300000) := Lib.hid (fun j hj => by
            have h1 := sumB_len (fun j => Nat.le_of_eq (datT_len m.bm.dev (x : Int) (p : Int) j)) j
            have h2 := headN_d m.bm.dev (x : Int)
            rw [hh] at h2
            simp at h2
            omega)
          have hd4 : d ≤ 16384 := by have h2 := headN_d m.bm.dev (x : Int); rw [hh] at h2; simpa using h2
          have HPp : Hid (∀ k : Nat, k < p → placeN m.bm.dev (x : Int) (k : Int) false = ⟨(x : Int) + (1 + (k : Int)), 0⟩) := Lib.hid (fun k hk => by
            unfold placeN
            rw [hh]
            dsimp only
            rw [if_neg (by simp), if_neg (by simp), if_pos (by omega)])
          have HPd : Hid (∀ k : Nat, k < d → placeN m.bm.dev (x : Int) (k : Int) true = ⟨(x : Int) + (1 + (p : Int) + (k : Int)), 0⟩) := Lib.hid (fun k hk => by
            unfold placeN
            rw [hh]
            dsimp only
            rw [if_neg (by simp), if_pos rfl, if_pos (by omega)])
          have HLt2 : Hid (∀ j, j < i + 1 → j < (gLs m.used m.bm.dev top j).1.length) := Lib.hid (fun j hj => by
            rcases Nat.lt_or_ge j i with c | c
            · exact HLt.out j c
            · have : j = i := by omega
              subst this; rw [← HNl.out]; exact hin)
          have HPc := Lib.hid (fun w' (h : AlAt w' A n B m) => aplace_any h hB (x : Int))
          have HPlc := Lib.hid hpl
          have hi1 : i + 1 ≤ 100000 := by omega
          obtain ⟨sN, hsN⟩ : ∃ sN, sN = gLs m.used m.bm.dev top (i + 1) := ⟨_, rfl⟩
          rw [← hsN] at HSc
          have HSN := Lib.hid hsN
          generalize hsi : gLs m.used m.bm.dev top i = si at *
          obtain ⟨o1, T1⟩ := si
          dsimp only at HNl HCv HX HSc HOk HLn HG
          generalize itoa (i : Int) = Ti at *
          have hs2 : (bstr Ti).size ≤ 20 := by rw [bstr_size]; exact HLi.out
          have ha1 : bstr Ti ++ ({ data := #[58] } : ByteArray) = bstr (Ti ++ [58]) := bstr_append Ti [58]
          have HDt : Hid (∀ j, sumB (datT m.bm.dev (x : Int) (p : Int)) (j + 1) = sumB (datT m.bm.dev (x : Int) (p : Int)) j ++ (32 :: digW 16 (peek m.bm.dev.cache ((x : Int) + 1 + (p : Int) + (j : Int))) 16)) := Lib.hid (fun j => by rw [sumB_succ]; rfl)
          have HD0 : Hid (sumB (datT m.bm.dev (x : Int) (p : Int)) 0 = []) := Lib.hid rfl
          generalize ptrsD m.bm.dev (x : Int) = P at *
          generalize sumB (datT m.bm.dev (x : Int) (p : Int)) = dt at *
          clear hx hux hpl hh hpe hsN hsi HLt
          go_wp2_with fail
          refine (HNi.out _).mono ?_
          rintro e w5 ⟨rfl, hb5⟩
          have HG5 := Lib.hid (HG.out.later hb5)
          have HW := Lib.hid (bwriteT_any HG5.out.d (Ti ++ [58]) (by have h1 := HLi.out; have h2 := HLn.out; simp; omega) HG5.out.g.qs)
          clear hb5 HG co
          go_wp2_with fail
          refine HW.out.mono ?_
          rintro e w6 ⟨rfl, vb6, hd6, ht6⟩
          have HG6 : Hid (GAll q w w6 q bn bo mp b A n B m (.slice av nl cv) vb6 (o1, T1 ++ Ti ++ [58])) := Lib.hid (by
            have := HG5.out.write HA.out ht6 hd6
            rw [← List.append_assoc] at this
            exact this)
          clear hd6 ht6 HW HG5 ha1
          have HOb : Hid (∀ k, GOk m.used (gA m.used (o1, T1 ++ Ti ++ [58]) P k).1) := Lib.hid (fun k => GOk.a (s := (o1, T1 ++ Ti ++ [58])) HOk.out P k)
          have HTb : Hid (∀ k, (gA m.used (o1, T1 ++ Ti ++ [58]) P k).2.length ≤ 200000000000) := Lib.hid (fun k => by
            have h1 := gA_len (U := m.used) (s := (o1, T1 ++ Ti ++ [58])) HOk.out (by have := HU.out; omega) P k
            have h2 := HLn.out
            have h3 := HLi.out
            have h4 := HPl.out
            simp only [List.length_append, List.length_singleton] at h1
            omega)
          have HGt : Hid (∀ k, (gA m.used (o1, T1 ++ Ti ++ [58]) P k).1[i]? = some x) := Lib.hid (fun k => gA_get (s := (o1, T1 ++ Ti ++ [58])) HX.out P k)
          have HZ : Hid (gA m.used (o1, T1 ++ Ti ++ [58]) P 0 = (o1, T1 ++ Ti ++ [58])) := Lib.hid rfl
          have HScA : Hid (∀ k y, P[k]? = some y → gA m.used (o1, T1 ++ Ti ++ [58]) P (k + 1) = (gNm m.used (gA m.used (o1, T1 ++ Ti ++ [58]) P k).1 y, (gA m.used (o1, T1 ++ Ti ++ [58]) P k).2 ++ (32 :: gTx m.used (gA m.used (o1, T1 ++ Ti ++ [58]) P k).1 y))) := Lib.hid (fun k y hy => gA_succ m.used _ P k y hy)
          rw [HPn.out] at HSc HPl
          have hp64 : p ≤ 64 := HPl.out
          generalize gA m.used (o1, T1 ++ Ti ++ [58]) P = g at *
          have cA := HG6.out.cellA
          have cO := HG6.out.cellO
          obtain ⟨a6, c6, e6, hc6⟩ := HG6.out.order
          dsimp only at e6 hc6
          rw [← HNl.out] at e6
          cases e6
          obtain ⟨b1, oo1, e1, _, hc1⟩ := hc6.at (i := i) (by rw [List.length_map, ← HNl.out]; exact hin)
          subst e1
          have cy := hc1 i (vi x) (by rw [List.getElem?_map, HX.out]; rfl)
          have r0 := fun x => later_cell cA x
          have r1 := fun x => later_cell cO x
          have r2 := fun x => later_cell cy x
          clear hc1 hc6 HCv
          go_upto_region 16 with fail
          go_cut [12] (fun gv wc => ∃ gb, gv = .pointer (some ⟨gb, 0, none⟩) ∧ Hid (wc.heap[gb]? = some (.cells #[.int .i64 (p : Int), .int .i64 (d : Int)] 142 (0, 0))) ∧ Hid (GAll q w wc q bn bo mp b A n B m (.slice (some ⟨b1, oo1, none⟩) nl cv) vb6 (g 0)))
          case first =>
            refine wp_region_tr (C := fun w' => ∃ x : Later (w6), w' = x.val) (.fl [0, 1, 2, 3, 4] (.br 5 false (.pu [6, 7, 8] (.sq [9] true (.sq [10, 11] false (.nil)))) 9 true (.sq [5, 6] false (.pu [7, 8] (.sq [10, 11] false (.nil)))))) (by kernel_rfl) (by kernel_rfl) (by intro c a d v w h; cases d <;> exact h) ?_
            simp only [trO, picks, List.getElem?_cons_succ, List.getElem?_cons_zero]
            have hC1 := later_drew (w6)
            refine wpTr_fl hC1 ?_
            repeat (first | go_big_quiet_step (fail) | quiet_step (fail))
            refine wpQuiet_nil ?_
            have HG7 := Lib.hid (HG6.out.later (later_below hC1))
            clear r0 r1 r2 cA cO cy HG6
            generalize w6.drew = w7 at *
            refine wpTr_br ?_ ?_
            · refine wpTr_sq (fun K hK => ?_)
              go_wp2_with fail
              refine (HPc.out _ HG7.out.al).mono ?_
              rintro e w8 ⟨⟨p', d', rfl, ho⟩, hb8⟩
              have e8 := ho _ HPlc.out
              injection e8 with e8a e8b _
              subst e8a e8b
              have HG8 := Lib.hid (HG7.out.later hb8)
              have hC2 := later_step hC1 hb8
              clear hb8 ho HG7
              go_wp2_with fail
              refine hK _ _ (fun h => nomatch h) ?_
              clear hK K
              refine wpTr_pu ?_
              repeat (first | go_big_quiet_step (fail) | quiet_step (fail))
              refine wpQuiet_nil ?_
              have hC3 := later_step hC2 (below_alloc w8 (.cells #[.int .i64 0, .int .i64 0] 142))
              refine wpTr_sq (fun K hK => ?_)
              go_wp2_with fail
              have HM9 := Lib.hid (Mem.one w8 #[.int .i64 0, .int .i64 0] 142)
              go_wp2_with fail
              refine hK _ _ (fun _ => hC3) ?_
              clear hK K
              generalize w8.alloc _ = w9 at *
              generalize w8.heap.size = gb at *
              refine wpTr_last ?_
              go_wp2_with (refine wpList_store_mem aggOb HM9.out 0 rfl rfl rfl rfl rfl rfl rfl rfl ?_; intro w10 h10 ht10; have HM10 := Lib.hid h10; clear h10 ht10)
              go_meet
              exact ⟨gb, rfl, Lib.hid (HM10.out.exact 0 rfl), Lib.hid (by rw [HZ.out]; exact HG8.out.later HM10.out.below)⟩
            · have hC2 := later_step hC1 (below_alloc w7 (.cells #[.int .i64 0, .int .i64 0] 142))
              refine wpTr_sq (fun K hK => ?_)
              go_wp2_with fail
              have HM8 := Lib.hid (Mem.one w7 #[.int .i64 0, .int .i64 0] 142)
              go_wp2_with fail
              refine hK _ _ (fun _ => hC2) ?_
              clear hK K
              have HG8 := Lib.hid (HG7.out.later HM8.out.below)
              generalize w7.alloc _ = w8 at *
              generalize w7.heap.size = gb at *
              refine wpTr_sq (fun K hK => ?_)
              go_wp2_with fail
              refine (HPc.out _ HG8.out.al).mono ?_
              rintro e w9 ⟨⟨p', d', rfl, ho⟩, hb9⟩
              have e8 := ho _ HPlc.out
              injection e8 with e8a e8b _
              subst e8a e8b
              have HM9 := Lib.hid (HM8.out.later hb9)
              clear hb9 ho
              go_wp2_with fail
              refine hK _ _ (fun h => nomatch h) ?_
              clear hK K
              refine wpTr_pu ?_
              repeat (first | go_big_quiet_step (fail) | quiet_step (fail))
              refine wpQuiet_nil ?_
              refine wpTr_last ?_
              go_wp2_with (refine wpList_store_mem aggOb HM9.out 0 rfl rfl rfl rfl rfl rfl rfl rfl ?_; intro w10 h10 ht10; have HM10 := Lib.hid h10; clear h10 ht10)
              go_meet
              exact ⟨gb, rfl, Lib.hid (HM10.out.exact 0 rfl), Lib.hid (by rw [HZ.out]; exact HG7.out.later HM10.out.below)⟩
          case rest =>
            obtain ⟨gb, rfl, HBx, HGc⟩ := hcut
            clear HG6 r0 r1 r2 cA cO cy
            have d0 : wc.cell? ⟨gb, 0, none⟩ = some (.int .i64 (p : Int)) := by rw [Lib.cell_of_heap HBx.out]; rfl
            go_wp2_with fail
            clear d0
            go_loopw [57] (fun kv wr => ∃ (k : Nat) (v vb : Value), k ≤ p ∧ kv = .int .i64 (k : Int) ∧ Hid (wr.heap[gb]? = some (.cells #[.int .i64 (p : Int), .int .i64 (d : Int)] 142 (0, 0))) ∧ Hid (GAll q w wr q bn bo mp b A n B m v vb (g k))) (fun kv _ => p - (intOf kv).toNat)
            case atStart => exact ⟨0, _, vb6, Nat.zero_le _, rfl, HBx, HGc⟩
            case round =>
              clear HBx HGc
              obtain ⟨k, v, vb, hk, rfl, HBx, HG⟩ := hrel
              obtain ⟨av, cv, rfl, hcv⟩ := HG.out.order
              have HOl : Hid ((g k).1.length ≤ 100000) := Lib.hid (Nat.le_trans (HOb.out k).len HU.out)
              have HNk := Lib.hid (List.getElem?_eq_some_iff.1 (HGt.out k)).1
              obtain ⟨nk, hnk⟩ : ∃ nk, nk = (g k).1.length := ⟨_, rfl⟩
              rw [← hnk] at HG HNk HOl
              have hik : i < nk := HNk.out
              have hik' : (i : Int) < (nk : Int) := by omega
              have cA := HG.out.cellA
              have cO := HG.out.cellO
              obtain ⟨b2, oo2, e2, _, hc2⟩ := hcv.at (i := i) (by rw [List.length_map, ← hnk]; exact hik)
              subst e2
              have cy := hc2 i (vi x) (by rw [List.getElem?_map, HGt.out k]; rfl)
              clear hc2 hcv hnk
              by_cases hlt : k < p
              · have hlt' : (k : Int) < (p : Int) := by omega
                have HPtr := Lib.hid (fun w' (h : DevAt w' A.X.F m.bm.dev) => optrG_any h (x : Int) (k : Int))
                rw [HPp.out k hlt, if_pos rfl] at HPtr
                dsimp only at HPtr
                rw [show (x : Int) + (1 + (k : Int)) = (x : Int) + 1 + (k : Int) by omega] at HPtr
                have HPy := Lib.hid (HPv.out k hlt)
                have hy9 := capP_le (peek m.bm.dev.cache ((x : Int) + 1 + (k : Int)))
                generalize capP (peek m.bm.dev.cache ((x : Int) + 1 + (k : Int))) = y at *
                have HV := Lib.hid (fun w' (h : GAll q w w' q bn bo mp b A n B m (.slice (some ⟨b2, oo2, none⟩) nk cv) vb (g k)) => gvisit_any h.g h.al (by have := HOb.out k; have := this.len; have := HU.out; omega) y (by omega))
                have HSc2 := Lib.hid (HScA.out k y HPy.out)
                have HTx : Hid ((gTx m.used (g k).1 y).length ≤ 20) := Lib.hid (gTx_len (U := m.used) (by have := (HOb.out k).len; have := HU.out; omega) y)
                have HTl := Lib.hid (HTb.out k)
                unfold VisPost at HV
                generalize gNm m.used (g k).1 y = o2 at *
                generalize gTx m.used (g k).1 y = T2 at *
                have hs2 : (bstr T2).size ≤ 20 := by rw [bstr_size]; exact HTx.out
                have ha1 : ({ data := #[32] } : ByteArray) ++ bstr T2 = bstr (32 :: T2) := bstr_append [32] T2
                have r0 := fun x => later_cell cA x
                have r1 := fun x => later_cell cO x
                have r2 := fun x => later_cell cy x
                go_upto_region 20 with fail
                refine wp_region_seg (C := fun w' => ∃ x : Later (wr), w' = x.val) [.fl [0, 2, 3, 4, 5, 6], .sq [1] true, .sq [7, 8] false, .fl [9, 10, 11], .sq [12] false] (by kernel_rfl) (by kernel_rfl) (by intro c a d v w h; cases d <;> exact h) ?_
                simp only [segs, picks, List.getElem?_cons_succ, List.getElem?_cons_zero]
                have hC1 := later_drew (wr)
                refine wpSeg_fl hC1 ?_
                repeat (first | go_big_quiet_step (fail) | quiet_step (fail))
                refine wpQuiet_nil ?_
                have HG7 := Lib.hid (HG.out.later (later_below hC1))
                have HBx7 := Lib.hid (((later_below hC1).block gb (Array.getElem?_eq_some_iff.1 HBx.out).1).trans HBx.out)
                clear r0 r1 r2 cA cO cy HG HBx
                generalize wr.drew = w7 at *
                refine wpSeg_sq (fun K hK => ?_)
                go_wp2_with fail
                refine (adev_any HG7.out.al).mono ?_
                rintro e w8 ⟨rfl, rfl⟩
                go_wp2_with fail
                refine hK _ _ (fun _ => hC1) ?_
                clear hK K
                refine wpSeg_sq (fun K hK => ?_)
                go_wp2_with fail
                refine (HPtr.out _ HG7.out.al.man.dev).mono ?_
                rintro e w8 ⟨rfl, hb8⟩
                have HG8 := Lib.hid (HG7.out.later hb8)
                have HBx8 := Lib.hid ((hb8.block gb (Array.getElem?_eq_some_iff.1 HBx7.out).1).trans HBx7.out)
                have hC2 := later_step hC1 hb8
                clear hb8 HG7 HBx7
                go_wp2_with fail
                refine hK _ _ (fun h => nomatch h) ?_
                clear hK K
                refine wpSeg_fl hC2 ?_
                repeat (first | go_big_quiet_step (fail) | quiet_step (fail))
                refine wpQuiet_nil ?_
                clear hC1 hC2
                refine wpSeg_last ?_
                go_wp2_with fail
                refine (HV.out _ HG8.out).mono ?_
                rintro e w9 ⟨rfl, ht9, v9, hg9⟩
                have HG9 := Lib.hid (HG8.out.visit HA.out ht9 hg9)
                have HBx9 := Lib.hid ((ht9.block gb (Array.getElem?_eq_some_iff.1 HBx8.out).1 (HG8.out.g.other HBx8.out (by decide) (by decide))).trans HBx8.out)
                have HW := Lib.hid (bwriteT_any HG9.out.d (32 :: T2) (by have h1 := HTx.out; have h2 := HTl.out; simp; omega) HG9.out.g.qs)
                clear ht9 hg9 HG8 HBx8
                go_wp2_with fail
                refine HW.out.mono ?_
                rintro e w10 ⟨rfl, vb10, hd10, ht10⟩
                have HG10 := Lib.hid (HG9.out.write HA.out ht10 hd10)
                have HBx10 := Lib.hid ((ht10.block gb (Array.getElem?_eq_some_iff.1 HBx9.out).1 (HG9.out.d.other HBx9.out (by decide) (by decide))).trans HBx9.out)
                dsimp only at HG10
                clear hd10 ht10 HW HG9 HBx9
                go_wp2_with fail
                exact ⟨⟨k + 1, v9, vb10, by omega, vint (by omega), HBx10, Lib.hid (by rw [HSc2.out]; exact HG10.out)⟩, by simp [intOf]; omega⟩
              · obtain rfl : k = p := by omega
                have hlt' : decide ((k : Int) < (k : Int)) = false := by simp
                have d1 : wr.cell? ⟨gb, 1, none⟩ = some (.int .i64 (d : Int)) := by rw [Lib.cell_of_heap HBx.out]; rfl
                have HTl := Lib.hid (HTb.out k)
                have HS1 : Hid (sN.1 = (g k).1) := Lib.hid (by rw [HSc.out])
                have HS2 : Hid (sN.2 = (g k).2 ++ dt d ++ [10]) := Lib.hid (by rw [HSc.out])
                have HGi := Lib.hid (HGt.out k)
                have HG0 : Hid (GAll q w wr q bn bo mp b A n B m (.slice (some ⟨b2, oo2, none⟩) nk cv) vb ((g k).1, (g k).2 ++ dt 0)) := Lib.hid (by rw [HD0.out, List.append_nil]; exact HG.out)
                clear HSc HOb HTb HGt HZ HScA HG cA cO cy HOl HNk
                generalize g k = sk at *
                obtain ⟨o3, T3⟩ := sk
                dsimp only at HTl HS1 HS2 HG0 HGi
                go_wp2_with fail
                clear d1
                go_loopw [79] (fun jv wr => ∃ (j : Nat) (vb : Value), j ≤ d ∧ jv = .int .i64 (j : Int) ∧ Hid (GAll q w wr q bn bo mp b A n B m (.slice (some ⟨b2, oo2, none⟩) nk cv) vb (o3, T3 ++ dt j))) (fun jv _ => d - (intOf jv).toNat)
                case atStart => exact ⟨0, vb, Nat.zero_le _, rfl, HG0⟩
                case round =>
                  clear HG0 HBx
                  obtain ⟨j, vb, hj, rfl, HG⟩ := hrel
                  have HTj : Hid ((T3 ++ dt j).length ≤ 300000000000) := Lib.hid (by have h1 := HTl.out; have h2 := HLd.out j hj; rw [List.length_append]; omega)
                  by_cases hlt : j < d
                  · have hlt' : (j : Int) < (d : Int) := by omega
                    have HDat := Lib.hid (fun w' (h : DevAt w' A.X.F m.bm.dev) => odataG_any h (x : Int) (j : Int))
                    rw [HPd.out j hlt, if_pos rfl] at HDat
                    dsimp only at HDat
                    rw [show (x : Int) + (1 + (k : Int) + (j : Int)) = (x : Int) + 1 + (k : Int) + (j : Int) by omega] at HDat
                    have HStp : Hid (T3 ++ dt (j + 1) = (T3 ++ dt j) ++ (32 :: digW 16 (peek m.bm.dev.cache ((x : Int) + 1 + (k : Int) + (j : Int))) 16)) := Lib.hid (by rw [HDt.out j, List.append_assoc])
                    have hy := peek_lt HU8.out ((x : Int) + 1 + (k : Int) + (j : Int))
                    generalize peek m.bm.dev.cache ((x : Int) + 1 + (k : Int) + (j : Int)) = y at *
                    have HNy := Lib.hid (fun w => dhex_any y hy w)
                    have HLy : Hid ((digW 16 y 16).length = 16) := Lib.hid (digW_len 16 y 16)
                    generalize digW 16 y 16 = Ty at *
                    have hl2 : (bstr Ty).size ≤ 16 := by rw [bstr_size, HLy.out]; exact Nat.le_refl _
                    have ha1 : ({ data := #[32] } : ByteArray) ++ bstr Ty = bstr (32 :: Ty) := bstr_append [32] Ty
                    have cA := HG.out.cellA
                    have cO := HG.out.cellO
                    obtain ⟨a6, c6, e6, hc6⟩ := HG.out.order
                    dsimp only at e6 hc6
                    have e6a : some (⟨b2, oo2, none⟩ : Addr) = a6 := by injection e6
                    subst e6a
                    obtain ⟨b4, oo4, e4, _, hc4⟩ := hc6.at (i := i) (by rw [List.length_map]; exact (List.getElem?_eq_some_iff.1 HGi.out).1)
                    cases e4
                    have cy := hc4 i (vi x) (by rw [List.getElem?_map, HGi.out]; rfl)
                    have r0 := fun x => later_cell cA x
                    have r1 := fun x => later_cell cO x
                    have r2 := fun x => later_cell cy x
                    clear hc4 hc6 e6
                    go_upto_region 26 with fail
                    refine wp_region_seg (C := fun w' => ∃ x : Later (wr), w' = x.val) [.fl [0, 2, 3, 4, 5, 6], .sq [1] true, .sq [7, 8] false, .fl [9, 10, 11], .sq [12] false] (by kernel_rfl) (by kernel_rfl) (by intro c a d v w h; cases d <;> exact h) ?_
                    simp only [segs, picks, List.getElem?_cons_succ, List.getElem?_cons_zero]
                    have hC1 := later_drew (wr)
                    refine wpSeg_fl hC1 ?_
                    repeat (first | go_big_quiet_step (fail) | quiet_step (fail))
                    refine wpQuiet_nil ?_
                    have HG7 := Lib.hid (HG.out.later (later_below hC1))
                    clear r0 r1 r2 cA cO cy HG
                    generalize wr.drew = w7 at *
                    refine wpSeg_sq (fun K hK => ?_)
                    go_wp2_with fail
                    refine (adev_any HG7.out.al).mono ?_
                    rintro e w8 ⟨rfl, rfl⟩
                    go_wp2_with fail
                    refine hK _ _ (fun _ => hC1) ?_
                    clear hK K
                    refine wpSeg_sq (fun K hK => ?_)
                    go_wp2_with fail
                    refine (HDat.out _ HG7.out.al.man.dev).mono ?_
                    rintro e w8 ⟨rfl, hb8⟩
                    have HG8 := Lib.hid (HG7.out.later hb8)
                    have hC2 := later_step hC1 hb8
                    clear hb8 HG7
                    go_wp2_with fail
                    refine hK _ _ (fun h => nomatch h) ?_
                    clear hK K
                    refine wpSeg_fl hC2 ?_
                    repeat (first | go_big_quiet_step (fail) | quiet_step (fail))
                    refine wpQuiet_nil ?_
                    clear hC1 hC2
                    refine wpSeg_last ?_
                    go_wp2_with fail
                    refine (HNy.out _).mono ?_
                    rintro e w9 ⟨rfl, hb9⟩
                    have HG9 := Lib.hid (HG8.out.later hb9)
                    have HW := Lib.hid (bwriteT_any HG9.out.d (32 :: Ty) (by have h1 := HLy.out; have h2 := HTj.out; simp at h2 ⊢; omega) HG9.out.g.qs)
                    clear hb9 HG8
                    go_wp2_with fail
                    refine HW.out.mono ?_
                    rintro e w10 ⟨rfl, vb10, hd10, ht10⟩
                    have HG10 := Lib.hid (HG9.out.write HA.out ht10 hd10)
                    dsimp only at HG10
                    rw [← HStp.out] at HG10
                    clear hd10 ht10 HW HG9
                    go_wp2_with fail
                    exact ⟨⟨j + 1, vb10, by omega, vint (by omega), HG10⟩, by simp [intOf]; omega⟩
                  · obtain rfl : j = d := by omega
                    have hlt' : decide ((j : Int) < (j : Int)) = false := by simp
                    have HW := Lib.hid (bbyteT_any HG.out.d 10 10 rfl (by have := HTj.out; dsimp only; omega) HG.out.g.qs)
                    go_wp2_with fail
                    refine HW.out.mono ?_
                    rintro e w10 ⟨rfl, vb10, hd10, ht10⟩
                    have HG10 : Hid (GAll q w w10 q bn bo mp b A n B m (.slice (some ⟨b2, oo2, none⟩) nk cv) vb10 (gLs m.used m.bm.dev top (i + 1))) := Lib.hid (by
                      have := HG.out.write HA.out ht10 hd10
                      rw [← HSN.out, show sN = (o3, T3 ++ dt j ++ [10]) from Prod.ext HS1.out HS2.out]
                      exact this)
                    clear hd10 ht10 HW HG
                    go_wp2_with fail
                    exact ⟨⟨i + 1, _, vb10, hi1, vint (by omega), HG10, HLt2⟩, by simp [intOf]; omega⟩
        · have hin' : decide (i < nl) = false := by simp; omega
          have HE : Hid (GEnd m.used m.bm.dev top i) := Lib.hid ⟨HLt.out, by rw [← HNl.out]; omega⟩
          generalize hT : (gLs m.used m.bm.dev top i).2 = T at *
          have HTe := Lib.hid hT
          have HSg := Lib.hid (bstring_any q b T _ (by rw [← hT]; exact HG.out.d.bld) HG.out.g.qs)
          clear hT hin
          go_wp2_with fail
          refine HSg.out.mono ?_
          rintro e w6 ⟨rfl, hb6⟩
          have HBf := Lib.hid (HG.out.lo.trans hb6)
          go_wp2_with fail
          exact HP.out i T _ HE.out HTe.out.symm HBf.out
end Go.Proofs.YtfedgcdkagngnaaGreat

namespace Go.Proofs.YtfedgcdkagngnaaGreat
open Go.RowKit
set_option linter.unusedVariables false

section
variable {U : List Bool} {P : Nat → List Nat} {M : Mk}
end
section
variable {w : World} {A : AF} {n B : Nat} {m : Al} {K : MkF} {M : Mk}
end

end Go.Proofs.YtfedgcdkagngnaaGreat

namespace Go.Proofs.YtfedgcdkagngnaaGreat
open Go.RowKit
set_option linter.unusedVariables false

end Go.Proofs.YtfedgcdkagngnaaGreat

namespace Go.Proofs.YtfedgcdkagngnaaGreat
open Go.RowKit
set_option linter.unusedVariables false

section
variable {w : World} {A : AF} {n B : Nat} {m : Al} {K : MkF} {M : Mk}
end

end Go.Proofs.YtfedgcdkagngnaaGreat

namespace Go.Proofs.YtfedgcdkagngnaaGreat
open Go.RowKit
set_option linter.unusedVariables false

structure Op20 where
  k : Int
  i : Int
  p : Int
  t : Int
def Op20.cs (o : Op20) : List Value := [.int .i64 o.k, .int .i64 o.i, .int .i64 o.p, .int .i64 o.t]
theorem Op20.len (o : Op20) : o.cs.length = 4 := rfl

theorem four20 (zs : List Int) (h : zs.length = 4) : (Op20.cs ⟨zs.getD 0 0, zs.getD 1 0, zs.getD 2 0, zs.getD 3 0⟩) = zs.map (Value.int .i64) := by
  match zs, h with
  | [a, b, c, d], _ => rfl

def Made20 (w : World) (B : Nat) (full : Bool) : Ending → World → Prop := fun e w' => ∃ (A : AF) (n : Nat) (m : Al) (v : Value) (xs : List Nat),
  e = .returned (.tuple #[vworld A v, .bool true]) ∧ Hp w w' [] A n B 25000000 m v xs ∧ n ≤ 2000000 ∧ (full = true → ∀ a, m.used.getD a false = true → a ∈ xs)

theorem dev0_ok {B : Nat} (hB2 : 2 ≤ B) (hB : B ≤ 100) : (dev0 B).ok 201000 := (fmt_formed hB2 hB).ok

theorem Hp.begun {w0 w w1 : World} {A : AF} {n B : Nat} (hB2 : 2 ≤ B) (hB : B ≤ 100) (h : AlAt w1 A n B (al0 B)) (hA : ∀ k ∈ A.list, w0.heap.size ≤ k) (hb0 : Below w.heap.size w w0) (hb : Below w0.heap.size w0 w1) {Q : List Nat} (hQ : ∀ k ∈ Q, k < w0.heap.size) :
    Hp w w1 Q A n B 201000 (al0 B) (.slice none 0 0) [] :=
  ⟨⟨h, OwnI.nil _, fun b hb => (by cases hb)⟩, WOk.begun hB2 hB, dev0_ok hB2 hB, fun k hk => ⟨Nat.le_trans hb0.size (hA k hk), fun hq => (by have := hQ k hq; have := hA k hk; omega)⟩, fun b hb => (by cases hb), fun k hk => Nat.lt_of_lt_of_le (hQ k hk) hb.size, hb0.trans (hb.mono hb0.size)⟩
theorem full_begun (B : Nat) : ∀ a, (al0 B).used.getD a false = true → a ∈ ([] : List Nat) := fun a ha => by
  have : (al0 B).used = List.replicate (512 * B) false := rfl
  rw [this] at ha
  simp only [List.getD_eq_getElem?_getD, List.getElem?_replicate] at ha
  split at ha <;> cases ha
theorem full_made {B : Nat} {m m' : Al} {xs : List Nat} {a : Nat} {p d : Int} (h : ∀ a, m.used.getD a false = true → a ∈ xs) (hm : Made B m m' a p d) (hl : m.used.length = 512 * B) : ∀ x, m'.used.getD x false = true → x ∈ xs ++ [a] := fun x hx => by
  rw [hm.used] at hx
  by_cases e : x = a
  · subst e; simp
  · by_cases ha : a < m.used.length
    · rw [getD_set_bool _ _ _ _ ha, if_neg e] at hx
      exact List.mem_append_left _ (h x hx)
    · rw [List.set_eq_of_length_le (by omega)] at hx
      exact List.mem_append_left _ (h x hx)
theorem lead_used (m : Al) (xs : List Nat) (i p t : Int) : (m.lead xs i p t).used = m.used := by unfold Al.lead; split <;> rfl

end Go.Proofs.YtfedgcdkagngnaaGreat

namespace Go.Proofs.YtfedgcdkagngnaaGreat
open Go.RowKit
set_option linter.unusedVariables false

structure HMk (w wr : World) (Q : List Nat) (A : AF) (n N : Nat) (m : Al) (v : Value) (xs : List Nat) (K : MkF) (M : Mk) : Prop where
  hp : Hp w wr (Q ++ K.list) A n 4 N m v xs
  mr : MkAt wr A K M
  lo : ∀ k ∈ Q ++ K.list, w.heap.size ≤ k
  qk : ∀ k ∈ Q, k ∉ K.list
  lm : M.ms.length = m.used.length
  ls : M.sc.length = m.used.length
section
variable {w wr w' : World} {Q Q' : List Nat} {A : AF} {n N N' : Nat} {m m' : Al} {v : Value} {xs : List Nat} {K : MkF} {M M' : Mk}
end

end Go.Proofs.YtfedgcdkagngnaaGreat

namespace Go.Proofs.YtfedgcdkagngnaaGreat
open Go.RowKit Go.Maps
set_option linter.unusedVariables false

theorem contains_take_succ (xs : List Nat) (y k x : Nat) (hx : xs[k]? = some x) : (xs.take (k + 1)).contains y = ((xs.take k).contains y || (x == y)) := by
  have h1 := (List.getElem?_eq_some_iff.1 hx).1
  rw [List.take_succ_eq_append_getElem h1]
  have h2 : xs[k] = x := (List.getElem?_eq_some_iff.1 hx).2
  rw [h2]
  rw [Bool.eq_iff_iff]
  simp
  constructor
  · rintro (h | h)
    · exact .inl h
    · exact .inr h.symm
  · rintro (h | h)
    · exact .inl h
    · exact .inr h.symm
end Go.Proofs.YtfedgcdkagngnaaGreat

namespace Go.Proofs.YtfedgcdkagngnaaGreat
open Go.RowKit Go.Maps
set_option linter.unusedVariables false

structure Rows2 (B : Nat) (v u : Value) : Prop where
  one : ∀ b, rowOf v = some b → B ≤ b
  two : ∀ b, rowOf u = some b → B ≤ b
  ne : ∀ b b', rowOf v = some b → rowOf u = some b' → b ≠ b'
def lenV : Value → Nat
  | .slice _ n _ => n
  | _ => 0
theorem rptrs_len (S : Dev) (a : Int) : ptrL S a (if (headN S a).code = 0 then (headN S a).p.toNat else 0) = ptrsD S a := by
  unfold ptrsD
  split
  · rfl
  · rfl
theorem rptrs22_any {w : World} {v : Value} {S : Dev} {m : Nat} (hm : S.dirty.length = m) (h : RAt w v m S.ref) {N : Nat} (hf : S.fit N) (a : Int) :
    Calls Tryz.prog 40 #[v, .int .i64 a] w fun e w' => ∃ av c, e = .returned (.slice av (ptrsD S a).length c) ∧ Cells w' av ((ptrsD S a).map vi) ∧ Below w.heap.size w w' := by
  refine (rptrs15_any hm h hf a).mono ?_
  rintro e w' ⟨v', rfl, ho, hb⟩
  rw [rptrs_len] at ho
  have hl : (ptrsD S a).length = (if (headN S a).code = 0 then (headN S a).p.toNat else 0) := by rw [← rptrs_len, ptrL_length]
  rw [← hl] at ho
  obtain ⟨av, c, rfl, _, _⟩ := owned_form ho
  exact ⟨av, c, rfl, Cells.owned ho, hb⟩
end Go.Proofs.YtfedgcdkagngnaaGreat

namespace Go.Proofs.YtfedgcdkagngnaaGreat
open Go.RowKit Go.Maps
set_option linter.unusedVariables false
open Go.Lib (decDigits itoa nDigits)

theorem idxOf_first {xs : List Nat} {k y : Nat} (hx : xs[k]? = some y) (hn : (xs.take k).contains y = false) : xs.idxOf y = k := by
  have h1 := (List.getElem?_eq_some_iff.1 hx).1
  have h2 := (List.getElem?_eq_some_iff.1 hx).2
  have h3 : y ∉ xs.take k := fun h => by rw [List.contains_iff_mem.2 h] at hn; cases hn
  have e : xs = xs.take k ++ (y :: xs.drop (k + 1)) := by
    rw [← h2, ← List.drop_eq_getElem_cons h1, List.take_append_drop]
  have h4 : (xs.take k ++ (y :: xs.drop (k + 1))).idxOf y = k := by
    rw [List.idxOf_append, if_neg h3, List.idxOf_cons_self, List.length_take]
    omega
  rw [e]; exact h4
def fnd (xs : List Nat) (y : Nat) : Int := if y ∈ xs then ((xs.idxOf y : Nat) : Int) else -1
set_option maxHeartbeats 1000000 in
theorem rfind33_any {w : World} (a : Option Addr) (n ca : Nat) (xs : List Nat) (hn : xs.length = n) (ha : Cells w a (xs.map vi)) (hl : n ≤ 1000000000) (y : Nat) :
    Calls Tryz.prog 168 #[.slice a n ca, .int .i64 (y : Int)] w (Same1 (.int .i64 (fnd xs y)) w) := by
  have HP : Hid (∀ f w', f = fnd xs y → w = w' → Same1 (.int .i64 (fnd xs y)) w (.returned (.int .i64 f)) w') := Lib.hid (fun f w' h1 h2 => by subst h1; exact ⟨rfl, h2⟩)
  generalize Same1 (.int .i64 (fnd xs y)) w = Post at *
  have HA := Lib.hid ha
  have HN := Lib.hid hn
  clear ha hn
  go_enter Tryz.func168, Tryz.ntmps168
  go_wp2_with fail
  go_loopw [4, 5] (fun f i wr => ∃ k : Nat, k ≤ n ∧ f = .int .i64 0 ∧ i = .int .i64 (k : Int) ∧ Hid ((xs.take k).contains y = false) ∧ w = wr) (fun _ i _ => n - (intOf i).toNat)
  case atStart => exact ⟨0, Nat.zero_le _, rfl, rfl, Lib.hid (by simp), rfl⟩
  case round =>
    obtain ⟨k, hk, rfl, rfl, HNo, rfl⟩ := hrel
    by_cases hlt : k < n
    · have hlt' : (k : Int) < (n : Int) := by omega
      obtain ⟨b1, o1, rfl, _, hc1⟩ := HA.out.at (i := k) (by rw [List.length_map, HN.out]; exact hlt)
      obtain ⟨x, hx⟩ : ∃ x, xs[k]? = some x := ⟨_, List.getElem?_eq_getElem (by rw [HN.out]; exact hlt)⟩
      have c1 := hc1 k (vi x) (by rw [List.getElem?_map, hx]; rfl)
      have HT := Lib.hid (contains_take_succ xs y k x hx)
      have HX := Lib.hid hx
      clear hc1 hx
      by_cases e : x = y
      · subst e
        have HE : Hid ((k : Int) = fnd xs x) := Lib.hid (by unfold fnd; rw [if_pos (List.mem_of_getElem? HX.out), idxOf_first HX.out HNo.out])
        go_wp2_with fail
        exact HP.out _ _ HE.out rfl
      · have he : (((x : Nat) : Int) == ((y : Nat) : Int)) = false := by simp; omega
        have HT2 : Hid ((xs.take (k + 1)).contains y = false) := Lib.hid (by rw [HT.out, HNo.out]; simp [e])
        go_wp2_with fail
        exact ⟨⟨k + 1, by omega, rfl, vint (by omega), HT2, trivial⟩, by simp [intOf]; omega⟩
    · obtain rfl : k = n := by omega
      have hf : decide ((k : Int) < (k : Int)) = false := by simp
      have HE : Hid ((-1 : Int) = fnd xs y) := Lib.hid (by
        have := HNo.out
        rw [← HN.out, List.take_length] at this
        unfold fnd
        rw [if_neg (fun h => by rw [List.contains_iff_mem.2 h] at this; cases this)])
      go_wp2_with fail
      exact HP.out _ _ HE.out rfl

def NamePost (U : List Bool) (o : List Nat) (x : Nat) (w : World) : Ending → World → Prop := fun e w' => ∃ a c, e = .returned (.tuple #[.slice a (gNm U o x).length c, strV (32 :: gTx U o x)]) ∧ Cells w' a ((gNm U o x).map vi) ∧ Below w.heap.size w w'

set_option maxHeartbeats 4000000 in
set_option maxRecDepth 20000 in
theorem rname_any {w : World} (U : List Bool) (au : Option Addr) (un cu : Nat) (us : List Nat) (hun : us.length = un) (hcu : Cells w au (us.map vi)) (hul : un ≤ 1000000) (hus : ∀ x, x ∈ us ↔ U.getD x false = true)
    (ao : Option Addr) (l co : Nat) (o : List Nat) (hl : o.length = l) (hco : Cells w ao (o.map vi)) (hol : l ≤ 1000000) (x : Nat) :
    Calls Tryz.prog 121 #[.slice au un cu, .slice ao l co, .int .i64 (x : Int)] w (NamePost U o x w) := by
  have HF1 := Lib.hid (rfind33_any au un cu us hun hcu (by omega) x)
  have HF2 := Lib.hid (rfind33_any ao l co o hl hco (by omega) x)
  have HP := Lib.hid (fun (a : Option Addr) (k c : Nat) (T : List UInt8) (w' : World) (h1 : k = (gNm U o x).length) (h2 : T = 32 :: gTx U o x) (h3 : Cells w' a ((gNm U o x).map vi)) (h4 : Below w.heap.size w w') => (show NamePost U o x w (.returned (.tuple #[.slice a k c, strV T])) w' from by subst h1 h2; exact ⟨a, c, rfl, h3, h4⟩))
  generalize NamePost U o x w = Post at *
  have HCo := Lib.hid hco
  have HL := Lib.hid hl
  have HUs := Lib.hid hus
  clear hcu hun hco hl hus
  by_cases hu : x ∈ us
  case neg =>
    have hux : ¬ U.getD x false = true := fun h => hu ((HUs.out x).2 h)
    have HE : Hid (Post (.returned (.tuple #[.slice ao l co, .string { data := #[32, 45] }])) w) := Lib.hid (HP.out ao l co [32, 45] w (by unfold gNm; rw [if_neg (fun h => hux h.1), HL.out]) (by unfold gTx; rw [if_neg hux]) (by unfold gNm; rw [if_neg (fun h => hux h.1)]; exact HCo.out) (Below.refl _ _))
    have hf : fnd us x = -1 := by unfold fnd; rw [if_neg hu]
    rw [hf] at HF1
    clear hf hux hu
    go_enter Tryz.func121, Tryz.ntmps121
    go_wp2_with fail
    refine HF1.out.mono ?_
    rintro e w1 ⟨rfl, rfl⟩
    go_wp2_with fail
    exact HE.out
  have hux : U.getD x false = true := (HUs.out x).1 hu
  have hf : fnd us x = ((us.idxOf x : Nat) : Int) := by unfold fnd; rw [if_pos hu]
  rw [hf] at HF1
  have hix : us.idxOf x ≤ us.length := List.idxOf_le_length
  generalize us.idxOf x = iu at *
  have hi0 : decide ((iu : Int) < 0) = false := by simp
  by_cases hin : x ∈ o
  · have hNm : gNm U o x = o := by unfold gNm; rw [if_neg (fun hc => hc.2 hin)]
    have hix : o.idxOf x ≤ o.length := List.idxOf_le_length
    rw [HL.out] at hix
    have hTx : gTx U o x = itoa ((o.idxOf x : Nat) : Int) := by unfold gTx; rw [if_pos hux]
    have hf2 : fnd o x = ((o.idxOf x : Nat) : Int) := by unfold fnd; rw [if_pos hin]
    rw [hf2] at HF2
    rw [hTx] at HP
    rw [hNm] at HP
    generalize o.idxOf x = i at *
    have HNb := Lib.hid (fun w => rnumber_any (i : Int) (by constructor <;> omega) w)
    have HLt : Hid ((itoa (i : Int)).length ≤ 20) := Lib.hid (itoa_len (by omega))
    generalize itoa (i : Int) = T at *
    have HE : Hid (∀ w', Below w.heap.size w w' → Post (.returned (.tuple #[.slice ao l co, strV (32 :: T)])) w') := Lib.hid (fun w' hb => HP.out ao l co _ w' HL.out.symm rfl (HCo.out.below hb (Nat.le_refl _)) hb)
    have hs1 : (bstr T).size ≤ 20 := by rw [bstr_size]; exact HLt.out
    have ha1 : ({ data := #[32] } : ByteArray) ++ bstr T = bstr (32 :: T) := bstr_append [32] T
    have hi1 : decide ((0 : Int) ≤ (i : Int)) = true := by simp
    clear hNm hTx hf hf2 hin hu hux hix
    go_enter Tryz.func121, Tryz.ntmps121
    go_wp2_with fail
    refine HF1.out.mono ?_
    rintro e w1 ⟨rfl, rfl⟩
    go_wp2_with fail
    refine HF2.out.mono ?_
    rintro e w1 ⟨rfl, rfl⟩
    go_wp2_with fail
    refine (HNb.out _).mono ?_
    rintro e w2 ⟨rfl, hb2⟩
    have HE2 := Lib.hid (HE.out w2 hb2)
    clear hb2
    go_wp2_with fail
    exact HE2.out
  · have hNm : gNm U o x = o ++ [x] := by unfold gNm; rw [if_pos ⟨hux, hin⟩]
    have hTx : gTx U o x = itoa (l : Int) := by unfold gTx; rw [if_pos hux, idxOf_self hin, HL.out]
    have hf2 : fnd o x = -1 := by unfold fnd; rw [if_neg hin]
    rw [hf2] at HF2
    rw [hTx, hNm] at HP
    have hl60 : (l : Int) ≤ 1000000 := by omega
    have HNb := Lib.hid (fun w => rnumber_any (l : Int) (by constructor <;> omega) w)
    have HLt : Hid ((itoa (l : Int)).length ≤ 20) := Lib.hid (itoa_len (by omega))
    generalize itoa (l : Int) = T at *
    have hs1 : (bstr T).size ≤ 20 := by rw [bstr_size]; exact HLt.out
    have ha1 : ({ data := #[32] } : ByteArray) ++ bstr T = bstr (32 :: T) := bstr_append [32] T
    clear hNm hTx hf hf2 hin hu hux hix
    go_enter Tryz.func121, Tryz.ntmps121
    go_wp2_with fail
    refine HF1.out.mono ?_
    rintro e w1 ⟨rfl, rfl⟩
    go_wp2_with fail
    refine HF2.out.mono ?_
    rintro e w1 ⟨rfl, rfl⟩
    go_wp2_with (first
      | (at_builtin; refine wpList_append_ownI (ys := [x]) (m := 1) (HO3.out.keep (fun b hb => (below_alloc _ _).block b (HO3.out.lt b hb))) (RowAt.cells ⟨_, heap_alloc_new _ _, [], rfl⟩) rfl (by rw [← HL3.out]; omega) rfl rfl rfl rfl ?_; intro v4 w4 ho4 hg4 hr4; have HO4 := Lib.hid ho4; have HB4 : Hid (Below w.heap.size w w4) := Lib.hid (by
          have h1 := HB3.out.trans ((below_alloc w3 (.cells #[.int .i64 (x : Int)] 3)).mono HB3.out.size)
          exact ⟨hg4.os.trans h1.os, hg4.tape.trans h1.tape, hg4.output.trans h1.output, Nat.le_trans h1.size hg4.size, fun k hk => (hg4.block k (Nat.lt_of_lt_of_le hk h1.size) (fun e => by have := HR3.out k e.symm; omega)).trans (h1.block k hk)⟩); clear ho4 hg4 hr4; obtain ⟨a4, c4, e4, _⟩ := HO4.out.cells; obtain ⟨l4, hl4⟩ : ∃ l4, l4 = (([] ++ o) ++ [x]).length := ⟨_, rfl⟩; rw [← hl4] at e4; have HL4 := Lib.hid hl4; clear hl4; subst e4)
      | (at_builtin; refine wpList_append_ownI (ys := o) (m := l) (c := co) (xs := []) (v := .slice (some ⟨w.heap.size, 0, none⟩) 0 0) (.inr ⟨_, rfl, rfl⟩) (HCo.out.below (below_alloc _ _) (Nat.le_refl _)) HL.out (by simp; omega) rfl rfl rfl rfl ?_; intro v3 w3 ho3 hg3 hr3; have HO3 := Lib.hid ho3; have HB3 : Hid (Below w.heap.size w w3) := Lib.hid (by
          have h1 := below_alloc w (.cells #[] 3)
          exact ⟨hg3.os.trans h1.os, hg3.tape.trans h1.tape, hg3.output.trans h1.output, Nat.le_trans h1.size hg3.size, fun k hk => (hg3.block k (Nat.lt_of_lt_of_le hk h1.size) (fun e => by cases e)).trans (h1.block k hk)⟩); have HR3 : Hid (∀ b, rowOf v3 = some b → w.heap.size ≤ b) := Lib.hid (fun b hb => by
          rcases hr3 b hb with c | c
          · cases c
          · have := (below_alloc w (.cells #[] 3)).size; omega); clear ho3 hg3 hr3; obtain ⟨a3, c3, e3, _⟩ := HO3.out.cells; obtain ⟨l3, hl3⟩ : ∃ l3, l3 = ([] ++ o).length := ⟨_, rfl⟩; rw [← hl3] at e3; have HL3 : Hid (l3 = ([] ++ o).length) := Lib.hid hl3; have hl3' : l3 ≤ 1000000 := (by rw [hl3, List.nil_append, HL.out]; exact hol); clear hl3; subst e3))
    refine (HNb.out _).mono ?_
    rintro e w5 ⟨rfl, hb5⟩
    obtain ⟨a5, c5, e5, hc5, _⟩ := HO4.out.cells
    rw [← HL4.out] at e5
    cases e5
    have HE := Lib.hid (HP.out a4 l4 c4 _ w5 (by rw [HL4.out]; simp) rfl (by rw [← List.nil_append o]; exact hc5.below hb5 (Nat.le_refl _)) (HB4.out.trans (hb5.mono HB4.out.size)))
    clear hb5 hc5
    go_wp2_with fail
    exact HE.out

set_option maxHeartbeats 8000000 in
set_option maxRecDepth 100000 in
theorem rgraph_any {w : World} {v : Value} {S : Dev} {mm : Nat} (hm : S.dirty.length = mm) (h : RAt w v mm S.ref) {N : Nat} (hf : S.fit N) (hS : S.cache.length ≤ 1000000) (U : List Bool) (hU : U.length ≤ 100000)
    (au : Option Addr) (un cu : Nat) (us : List Nat) (hun : us.length = un) (hcu : Cells w au (us.map vi)) (hul : un ≤ 1000000) (hus : ∀ x, x ∈ us ↔ U.getD x false = true)
    (hup : ∀ x : Nat, U.getD x false = true → ∃ p d : Nat, headN S (x : Int) = ⟨(p : Int), (d : Int), 0⟩)
    (af : Option Addr) (fn cf : Nat) (fs : List Nat) (hfn : fs.length = fn) (hcf : Cells w af (fs.map vi)) (hfl : fn ≤ 20) :
    Calls Tryz.prog 50 #[v, .slice au un cu, .slice af fn cf] w (GraphPost U S fs w) := by
  have HP := Lib.hid (fun (n : Nat) (T : List UInt8) (w' : World) (h1 : GEnd U S (gTop U fs) n) (h2 : T = (gLs U S (gTop U fs) n).2) (h3 : Below w.heap.size w w') => (show GraphPost U S fs w (.returned (strV T)) w' from by subst h2; exact ⟨n, h1, rfl, h3⟩))
  generalize GraphPost U S fs w = Post at *
  have HPt := Lib.hid (fun w' (h : RAt w' v mm S.ref) (x : Nat) => rptrs22_any hm h hf (x : Int))
  have HDt := Lib.hid (fun w' (h : RAt w' v mm S.ref) (x p d : Nat) (hh : headN S (x : Int) = ⟨(p : Int), (d : Int), 0⟩) => rdatas_any hm h hf (x : Int) p d hh)
  have HNm := Lib.hid (fun w' (hc : Cells w' au (us.map vi)) (ao : Option Addr) (l co : Nat) (o : List Nat) (hl : o.length = l) (hco : Cells w' ao (o.map vi)) (hol : l ≤ 1000000) (x : Nat) => rname_any U au un cu us hun hc hul hus ao l co o hl hco hol x)
  obtain ⟨D, rfl⟩ := h.agg
  obtain ⟨hD8, hD1⟩ := h.arr
  have HM := Lib.hid (Mem.one w D 34)
  have HR0 := Lib.hid (h.below HM.out.below (Nat.le_refl _))
  have HCu0 := Lib.hid (hcu.below HM.out.below (Nat.le_refl _))
  have HCf0 := Lib.hid (hcf.below HM.out.below (Nat.le_refl _))
  have HFn := Lib.hid hfn
  have HUp := Lib.hid hup
  have HU := Lib.hid hU
  have HS := Lib.hid hS
  have HOa : Hid (∀ k, GOk U (gA U gRoot fs k).1) := Lib.hid (fun k => GOk.a (s := gRoot) (GOk.nil U) fs k)
  have HTa : Hid (∀ k, (gA U gRoot fs k).2.length ≤ 1000) := Lib.hid (fun k => by have := gA_len (s := gRoot) (GOk.nil U) (by omega) fs k; rw [hfn, show gRoot.2.length = 5 from rfl] at this; omega)
  clear h hf hm hun hcu hus hup hfn hcf hU hS hul
  go_enter Tryz.func50, Tryz.ntmps50
  go_upto_region 1 with fail
  generalize w.alloc _ = w0 at *
  obtain ⟨q, hq⟩ : ∃ q, q = w.heap.size := ⟨_, rfl⟩
  rw [← hq] at HM ⊢
  clear hq
  go_wp2_with fail
  go_loopw [7, 8, 9, 10] (fun nv sv _ iv wr => ∃ (k : Nat) (a : Option Addr) (c nl : Nat), k ≤ fn ∧ nv = .slice a nl c ∧ sv = strV (gA U gRoot fs k).2 ∧ iv = .int .i64 (k : Int) ∧ Hid (nl = (gA U gRoot fs k).1.length) ∧ Hid (Cells wr a ((gA U gRoot fs k).1.map vi)) ∧ Hid (Below w0.heap.size w0 wr)) (fun _ _ _ iv _ => fn - (intOf iv).toNat)
  case atStart => exact ⟨0, none, 0, 0, Nat.zero_le _, rfl, rfl, rfl, Lib.hid rfl, Lib.hid (Cells.nil _ _), Lib.hid (Below.refl _ _)⟩
  case round =>
    obtain ⟨k, a, c, nl, hk, rfl, rfl, rfl, HNl, HCn, HB⟩ := hrel
    have HCf := Lib.hid (HCf0.out.below HB.out (Nat.le_refl _))
    have HCu := Lib.hid (HCu0.out.below HB.out (Nat.le_refl _))
    have hnl : nl ≤ 100000 := by rw [HNl.out]; exact Nat.le_trans (HOa.out k).len HU.out
    by_cases hlt : k < fn
    · have hlt' : (k : Int) < (fn : Int) := by omega
      obtain ⟨b1, o1, rfl, _, hc1⟩ := HCf.out.at (i := k) (by rw [List.length_map, HFn.out]; exact hlt)
      obtain ⟨x, hx⟩ : ∃ x, fs[k]? = some x := ⟨_, List.getElem?_eq_getElem (by rw [HFn.out]; exact hlt)⟩
      have c1 := hc1 k (vi x) (by rw [List.getElem?_map, hx]; rfl)
      have HN2 := Lib.hid (HNm.out wr HCu.out a nl c _ HNl.out.symm HCn.out (by omega) x)
      have HSc := Lib.hid (gA_succ U gRoot fs k x hx)
      have HTx : Hid ((32 :: gTx U (gA U gRoot fs k).1 x).length ≤ 21) := Lib.hid (by have := gTx_len (U := U) (o := (gA U gRoot fs k).1) (by rw [← HNl.out]; omega) x; simp; omega)
      have hs1 : (bstr (gA U gRoot fs k).2).size ≤ 1000 := by rw [bstr_size]; exact HTa.out k
      unfold NamePost at HN2
      generalize gNm U (gA U gRoot fs k).1 x = o2 at *
      generalize 32 :: gTx U (gA U gRoot fs k).1 x = T2 at *
      generalize (gA U gRoot fs k).2 = T1 at *
      have hs2 : (bstr T2).size ≤ 21 := by rw [bstr_size]; exact HTx.out
      clear hc1 hx HCn HNl
      go_wp2_with fail
      refine HN2.out.mono ?_
      rintro e w5 ⟨a5, c5, rfl, hc5, hb5⟩
      have HC5 := Lib.hid hc5
      have HB5 := Lib.hid (HB.out.trans (hb5.mono HB.out.size))
      obtain ⟨l5, hl5⟩ : ∃ l5, l5 = o2.length := ⟨_, rfl⟩
      rw [← hl5]
      have HL5 := Lib.hid hl5
      clear hc5 hb5 hl5
      go_wp2_with fail
      refine ⟨⟨k + 1, a5, c5, l5, by omega, rfl, ?_, vint (by omega), Lib.hid (by rw [HSc.out]; exact HL5.out), Lib.hid (by rw [HSc.out]; exact HC5.out), HB5⟩, by simp [intOf]; omega⟩
      rw [HSc.out]; exact str2 T1 T2
    · obtain rfl : k = fn := by omega
      have hlt' : decide ((k : Int) < (k : Int)) = false := by simp
      have hs1 : (bstr (gA U gRoot fs k).2).size ≤ 1000 := by rw [bstr_size]; exact HTa.out k
      have HTp : Hid (gTop U fs = ((gA U gRoot fs k).1, (gA U gRoot fs k).2 ++ [10])) := Lib.hid (by unfold gTop; rw [HFn.out])
      have HTop := Lib.hid (gTop_ok U fs)
      have HTl : Hid ((gTop U fs).2.length ≤ 1000) := Lib.hid (by have := gTop_len (U := U) (by have := HU.out; omega) fs; rw [HFn.out] at this; omega)
      have HN1 : Hid (nl = (gLs U S (gTop U fs) 0).1.length) := Lib.hid (by show nl = (gTop U fs).1.length; rw [HTp.out]; exact HNl.out)
      have HC1 : Hid (Cells wr a ((gLs U S (gTop U fs) 0).1.map vi)) := Lib.hid (by show Cells wr a ((gTop U fs).1.map vi); rw [HTp.out]; exact HCn.out)
      have HT1 : Hid ((gA U gRoot fs k).2 ++ [10] = (gLs U S (gTop U fs) 0).2) := Lib.hid (by show _ = (gTop U fs).2; rw [HTp.out])
      generalize (gA U gRoot fs k).2 = T1 at *
      clear HNl HCn HTp HOa HTa
      generalize gTop U fs = top at *
      go_wp2_with fail
      go_loopw [7, 8, 9, 11] (fun nv sv _ iv wr => ∃ (i : Nat) (a : Option Addr) (c nl : Nat), i ≤ 100000 ∧ nv = .slice a nl c ∧ sv = strV (gLs U S top i).2 ∧ iv = .int .i64 (i : Int) ∧ Hid (nl = (gLs U S top i).1.length) ∧ Hid (Cells wr a ((gLs U S top i).1.map vi)) ∧ Hid (∀ j, j < i → j < (gLs U S top j).1.length) ∧ Hid (Below w0.heap.size w0 wr)) (fun _ _ _ iv _ => 100001 - (intOf iv).toNat)
      case atStart => exact ⟨0, a, c, nl, Nat.zero_le _, rfl, (by rw [← HT1.out]; exact str2 T1 [10]), rfl, HN1, HC1, Lib.hid (fun j hj => absurd hj (Nat.not_lt_zero j)), HB⟩
      case round =>
        clear HN1 HC1 HT1 HCf HCu HB hs1 hnl
        obtain ⟨i, a, c, nl, hi, rfl, rfl, rfl, HNl, HCn, HLt, HB⟩ := hrel
        have hnl : nl ≤ 100000 := by rw [HNl.out]; exact Nat.le_trans (HTop.out.ls i).len HU.out
        have HLn : Hid ((gLs U S top i).2.length ≤ 100000000000) := Lib.hid (by have := gLs_len HS.out HTop.out (by have := HU.out; omega) i (by omega); have := HTl.out; omega)
        by_cases hin : i < nl
        · have hin' : (i : Int) < (nl : Int) := by omega
          obtain ⟨x, hx⟩ : ∃ x, (gLs U S top i).1[i]? = some x := ⟨_, List.getElem?_eq_getElem (by rw [← HNl.out]; exact hin)⟩
          have hux := (HTop.out.ls (S := S) i).us x (List.mem_of_getElem? hx)
          obtain ⟨p, d, hh⟩ := HUp.out x hux
          have HX := Lib.hid hx
          have HDx := Lib.hid (fun w' h => HDt.out w' h x p d hh)
          have HSc := Lib.hid (gLs_succ (U := U) hx hh)
          have HOk := Lib.hid (HTop.out.ls (S := S) i)
          have HNi := Lib.hid (fun w => rnumber_any (i : Int) (by constructor <;> omega) w)
          have HLi : Hid ((itoa (i : Int)).length ≤ 20) := Lib.hid (itoa_len (by omega))
          have HPl := Lib.hid (ptrsD_len HS.out (x : Int))
          have HPt2 := Lib.hid (fun w' h => HPt.out w' h x)
          have HLd : Hid ((sumB (datT S (x : Int) (p : Int)) d).length ≤ 300000) := Lib.hid (by
            have h1 := sumB_len (fun j => Nat.le_of_eq (datT_len S (x : Int) (p : Int) j)) d
            have h2 := headN_d S (x : Int)
            rw [hh] at h2
            simp at h2
            omega)
          have HLt2 : Hid (∀ j, j < i + 1 → j < (gLs U S top j).1.length) := Lib.hid (fun j hj => by
            rcases Nat.lt_or_ge j i with c | c
            · exact HLt.out j c
            · have : j = i := by omega
              subst this; rw [← HNl.out]; exact hin)
          have hi1 : i + 1 ≤ 100000 := by omega
          have hs1 : (bstr (gLs U S top i).2).size ≤ 100000000000 := by rw [bstr_size]; exact HLn.out
          obtain ⟨sN, hsN⟩ : ∃ sN, sN = gLs U S top (i + 1) := ⟨_, rfl⟩
          rw [← hsN] at HSc
          have HSN := Lib.hid hsN
          clear hsN
          generalize hsi : gLs U S top i = si at *
          obtain ⟨o1, T1⟩ := si
          dsimp only at HNl HCn HX HSc HOk hs1 HLn
          generalize itoa (i : Int) = Ti at *
          generalize sumB (datT S (x : Int) (p : Int)) d = Td at *
          generalize ptrsD S (x : Int) = P at *
          have hs2 : (bstr Ti).size ≤ 20 := by rw [bstr_size]; exact HLi.out
          clear hx hux hh hsi HLt
          go_wp2_with fail
          refine (HNi.out _).mono ?_
          rintro e w5 ⟨rfl, hb5⟩
          have HB5 := Lib.hid (HB.out.trans (hb5.mono HB.out.size))
          have HC5 := Lib.hid (HCn.out.below hb5 (Nat.le_refl _))
          clear hb5 HB HCn
          have HM5 := Lib.hid (HM.out.later HB5.out)
          have HR5 := Lib.hid (HR0.out.below HB5.out (Nat.le_refl _))
          obtain ⟨b1, oo1, e1, _, hc1⟩ := HC5.out.at (i := i) (by rw [List.length_map, ← HNl.out]; exact hin)
          subst e1
          have cy := hc1 i (vi x) (by rw [List.getElem?_map, HX.out]; rfl)
          have hld : ∀ w', (∃ x : Later w5, w' = x.val) → ∀ i v, D.toList[i]? = some v → w'.cell? ⟨q, 0 + i, none⟩ = some v := by
            rintro _ ⟨x, rfl⟩ i v hi
            rw [Nat.zero_add]
            exact later_cell (HM5.out.cell 0 i rfl hi) x
          have r1 := fun x => later_cell cy x
          clear hc1
          go_upto_region 13 with fail
          refine wp_region_seg (C := fun w' => ∃ x : Later (w5), w' = x.val) [.fl [0, 1, 2, 3, 4], .sq [5, 6] false] (by kernel_rfl) (by kernel_rfl) (by intro c a d v w h; cases d <;> exact h) ?_
          simp only [segs, picks, List.getElem?_cons_succ, List.getElem?_cons_zero]
          have hC1 := later_drew (w5)
          refine wpSeg_fl hC1 ?_
          repeat (first | (refine wpQuiet_load_arr aggRd D hld hD8 rfl rfl rfl ?_) | go_big_quiet_step (fail) | quiet_step (fail))
          refine wpQuiet_nil ?_
          have HB6 := Lib.hid (HB5.out.trans ((later_below hC1).mono HB5.out.size))
          have HR6 := Lib.hid (HR5.out.below (later_below hC1) (Nat.le_refl _))
          have HC6 := Lib.hid (HC5.out.below (later_below hC1) (Nat.le_refl _))
          clear r1 hld cy hC1 HB5 HR5 HC5 HM5
          generalize w5.drew = w6 at *
          refine wpSeg_last ?_
          go_wp2_with fail
          refine (HPt2.out _ HR6.out).mono ?_
          rintro e w7 ⟨ap, cp, rfl, hcp, hb7⟩
          have HB7 := Lib.hid (HB6.out.trans (hb7.mono HB6.out.size))
          have HC7 := Lib.hid (HC6.out.below hb7 (Nat.le_refl _))
          have HCp := Lib.hid hcp
          obtain ⟨pl, hpl⟩ : ∃ pl, pl = P.length := ⟨_, rfl⟩
          rw [← hpl] at HSc HPl ⊢
          have HPn := Lib.hid hpl
          have hp64 : pl ≤ 64 := HPl.out
          have HOb : Hid (∀ k, GOk U (gA U (o1, T1 ++ Ti ++ [58]) P k).1) := Lib.hid (fun k => GOk.a (s := (o1, T1 ++ Ti ++ [58])) HOk.out P k)
          have HTb : Hid (∀ k, (gA U (o1, T1 ++ Ti ++ [58]) P k).2.length ≤ 200000000000) := Lib.hid (fun k => by
            have h1 := gA_len (U := U) (s := (o1, T1 ++ Ti ++ [58])) HOk.out (by have := HU.out; omega) P k
            have h2 := HLn.out
            have h3 := HLi.out
            rw [← hpl] at h1
            simp only [List.length_append, List.length_singleton] at h1
            omega)
          have HGt : Hid (∀ k, (gA U (o1, T1 ++ Ti ++ [58]) P k).1[i]? = some x) := Lib.hid (fun k => gA_get (s := (o1, T1 ++ Ti ++ [58])) HX.out P k)
          have HZ : Hid (gA U (o1, T1 ++ Ti ++ [58]) P 0 = (o1, T1 ++ Ti ++ [58])) := Lib.hid rfl
          have HScA : Hid (∀ k y, P[k]? = some y → gA U (o1, T1 ++ Ti ++ [58]) P (k + 1) = (gNm U (gA U (o1, T1 ++ Ti ++ [58]) P k).1 y, (gA U (o1, T1 ++ Ti ++ [58]) P k).2 ++ (32 :: gTx U (gA U (o1, T1 ++ Ti ++ [58]) P k).1 y))) := Lib.hid (fun k y hy => gA_succ U _ P k y hy)
          generalize gA U (o1, T1 ++ Ti ++ [58]) P = g at *
          clear hcp hb7 hpl HB6 HR6 HC6
          go_wp2_with fail
          go_loopw [7, 8, 9, 13] (fun nv sv _ iv wr => ∃ (k : Nat) (a : Option Addr) (c nl : Nat), k ≤ pl ∧ nv = .slice a nl c ∧ sv = strV (g k).2 ∧ iv = .int .i64 (k : Int) ∧ Hid (nl = (g k).1.length) ∧ Hid (Cells wr a ((g k).1.map vi)) ∧ Hid (Below w0.heap.size w0 wr) ∧ Hid (Below w7.heap.size w7 wr)) (fun _ _ _ iv _ => pl - (intOf iv).toNat)
          case atStart => exact ⟨0, _, c, nl, Nat.zero_le _, rfl, (by rw [HZ.out]; exact str3l T1 Ti [58]), rfl, Lib.hid (by rw [HZ.out]; exact HNl.out), Lib.hid (by rw [HZ.out]; exact HC7.out), HB7, Lib.hid (Below.refl _ _)⟩
          case round =>
            clear hin hin' hs1 hs2 hnl HNl HC7 HB7
            obtain ⟨k, a, c, nl, hk, rfl, rfl, rfl, HNl, HCn, HB, HBp⟩ := hrel
            have HCu := Lib.hid (HCu0.out.below HB.out (Nat.le_refl _))
            have hnl : nl ≤ 100000 := by rw [HNl.out]; exact Nat.le_trans (HOb.out k).len HU.out
            have hs1 : (bstr (g k).2).size ≤ 200000000000 := by rw [bstr_size]; exact HTb.out k
            by_cases hlt : k < pl
            · have hlt' : (k : Int) < (pl : Int) := by omega
              obtain ⟨b1, o1, e1, _, hc1⟩ := (HCp.out.below HBp.out (Nat.le_refl _)).at (i := k) (by rw [List.length_map, ← HPn.out]; exact hlt)
              subst e1
              obtain ⟨y, hy⟩ : ∃ y, P[k]? = some y := ⟨_, List.getElem?_eq_getElem (by rw [← HPn.out]; exact hlt)⟩
              have c1 := hc1 k (vi y) (by rw [List.getElem?_map, hy]; rfl)
              have HN2 := Lib.hid (HNm.out wr HCu.out a nl c _ HNl.out.symm HCn.out (by omega) y)
              have HSc2 := Lib.hid (HScA.out k y hy)
              have HTx : Hid ((32 :: gTx U (g k).1 y).length ≤ 21) := Lib.hid (by have := gTx_len (U := U) (o := (g k).1) (by rw [← HNl.out]; omega) y; simp; omega)
              unfold NamePost at HN2
              generalize gNm U (g k).1 y = o2 at *
              generalize 32 :: gTx U (g k).1 y = T2 at *
              generalize (g k).2 = T3 at *
              have hs2 : (bstr T2).size ≤ 21 := by rw [bstr_size]; exact HTx.out
              clear hc1 hy HCn HNl
              go_wp2_with fail
              refine HN2.out.mono ?_
              rintro e w8 ⟨a5, c5, rfl, hc5, hb5⟩
              have HC5 := Lib.hid hc5
              have HB8 := Lib.hid (HB.out.trans (hb5.mono HB.out.size))
              have HB9 := Lib.hid (HBp.out.trans (hb5.mono HBp.out.size))
              obtain ⟨l5, hl5⟩ : ∃ l5, l5 = o2.length := ⟨_, rfl⟩
              rw [← hl5]
              have HL5 := Lib.hid hl5
              clear hc5 hb5 hl5
              go_wp2_with fail
              refine ⟨⟨k + 1, a5, c5, l5, by omega, rfl, ?_, vint (by omega), Lib.hid (by rw [HSc2.out]; exact HL5.out), Lib.hid (by rw [HSc2.out]; exact HC5.out), HB8, HB9⟩, by simp [intOf]; omega⟩
              rw [HSc2.out]; exact str2 T3 T2
            · obtain rfl : k = pl := by omega
              have hlt' : decide ((k : Int) < (k : Int)) = false := by simp
              have HMr := Lib.hid (HM.out.later HB.out)
              have HRr := Lib.hid (HR0.out.below HB.out (Nat.le_refl _))
              have hil : i < nl := by rw [HNl.out]; exact (List.getElem?_eq_some_iff.1 (HGt.out k)).1
              have hil' : (i : Int) < (nl : Int) := by omega
              obtain ⟨b1, oo1, e1, _, hc1⟩ := HCn.out.at (i := i) (by rw [List.length_map, ← HNl.out]; exact hil)
              subst e1
              have cy := hc1 i (vi x) (by rw [List.getElem?_map, HGt.out k]; rfl)
              have hld : ∀ w', (∃ x : Later wr, w' = x.val) → ∀ i v, D.toList[i]? = some v → w'.cell? ⟨q, 0 + i, none⟩ = some v := by
                rintro _ ⟨x, rfl⟩ i v hi
                rw [Nat.zero_add]
                exact later_cell (HMr.out.cell 0 i rfl hi) x
              have r1 := fun x => later_cell cy x
              have HS1 : Hid (sN.1 = (g k).1) := Lib.hid (by rw [HSc.out])
              have HS2 : Hid (sN.2 = (g k).2 ++ Td ++ [10]) := Lib.hid (by rw [HSc.out])
              have hs3 : (bstr Td).size ≤ 300000 := by rw [bstr_size]; exact HLd.out
              clear hc1 HSc
              rw [← HS1.out] at HNl HCn
              generalize (g k).2 = T3 at *
              go_upto_region 19 with fail
              refine wp_region_seg (C := fun w' => ∃ x : Later (wr), w' = x.val) [.fl [0, 1, 2, 3, 4, 5], .sq [6] true, .sq [7, 8, 9] false] (by kernel_rfl) (by kernel_rfl) (by intro c a d v w h; cases d <;> exact h) ?_
              simp only [segs, picks, List.getElem?_cons_succ, List.getElem?_cons_zero]
              have hC1 := later_drew (wr)
              refine wpSeg_fl hC1 ?_
              repeat (first | (refine wpQuiet_load_arr aggRd D hld hD8 rfl rfl rfl ?_) | go_big_quiet_step (fail) | quiet_step (fail))
              refine wpQuiet_nil ?_
              have HB8 := Lib.hid (HB.out.trans ((later_below hC1).mono HB.out.size))
              have HR8 := Lib.hid (HRr.out.below (later_below hC1) (Nat.le_refl _))
              have HC8 := Lib.hid (HCn.out.below (later_below hC1) (Nat.le_refl _))
              clear r1 hld cy HMr HRr HCn HB
              generalize wr.drew = w8 at *
              refine wpSeg_sq (fun K hK => ?_)
              go_wp2_with fail
              refine (HDx.out _ HR8.out).mono ?_
              rintro e w9 ⟨rfl, hb9⟩
              have HB9 := Lib.hid (HB8.out.trans (hb9.mono HB8.out.size))
              have HC9 := Lib.hid (HC8.out.below hb9 (Nat.le_refl _))
              have hC2 := later_step hC1 hb9
              clear hb9 HB8 HC8 HR8
              go_wp2_with fail
              refine hK _ _ (fun _ => hC2) ?_
              clear hK K
              refine wpSeg_last ?_
              go_wp2_with fail
              refine ⟨⟨i + 1, _, c, nl, hi1, rfl, ?_, vint (by omega), Lib.hid (by rw [← HSN.out]; exact HNl.out), Lib.hid (by rw [← HSN.out]; exact HC9.out), HLt2, HB9⟩, by simp [intOf]; omega⟩
              rw [← HSN.out, HS2.out]; exact str3l T3 Td [10]
        · have hin' : decide (i < nl) = false := by simp; omega
          have HE : Hid (GEnd U S top i) := Lib.hid ⟨HLt.out, by rw [← HNl.out]; omega⟩
          have HBf := Lib.hid (HM.out.below.trans (HB.out.mono HM.out.below.size))
          generalize hT : (gLs U S top i).2 = T at *
          have HTe := Lib.hid hT
          clear hT hin
          go_wp2_with fail
          exact HP.out i T _ HE.out HTe.out.symm HBf.out
end Go.Proofs.YtfedgcdkagngnaaGreat

namespace Go.Proofs.YtfedgcdkagngnaaGreat
open Go.RowKit
set_option linter.unusedVariables false

end Go.Proofs.YtfedgcdkagngnaaGreat

namespace Go.Proofs.YtfedgcdkagngnaaGreat
open Go.RowKit
set_option linter.unusedVariables false

end Go.Proofs.YtfedgcdkagngnaaGreat

namespace Go.Proofs.YtfedgcdkagngnaaGreat
open Go.RowKit
set_option linter.unusedVariables false

end Go.Proofs.YtfedgcdkagngnaaGreat

namespace Go.Proofs.YtfedgcdkagngnaaGreat
open Go.RowKit
set_option linter.unusedVariables false

theorem map_free (B : Nat) : ∀ i, mapTo (List.replicate B (⟨0, 0, 0⟩ : Hd)) B 0 i = List.replicate i 46
  | 0 => rfl
  | i + 1 => by
    unfold mapTo
    rw [map_free B i, free_small, if_neg (by unfold nlB; omega)]
    show _ ++ [(46 : UInt8)] = _
    rw [List.replicate_succ']
theorem map_three : mapTo (al0 3).bm.list 3 0 (3 - 1) = [46, 46] := by rw [al0_list (by omega) (by omega), map_free]; rfl

set_option maxHeartbeats 2000000 in
theorem awake33_any (w : World) : Calls Tryz.prog 14 #[] w (Gives (.bool true) w) := by
  have HP : Hid (∀ w', Below w.heap.size w w' → Gives (.bool true) w (.returned (.bool true)) w') := Lib.hid (fun w' h => ⟨rfl, h⟩)
  generalize Gives (.bool true) w = Post at *
  go_enter Tryz.func14, Tryz.ntmps14
  go_wp2_with fail
  refine (begun20_any 3 (by omega) (by omega) _).mono ?_
  rintro e w1 ⟨A, n, rfl, ha, hn, hA, hb⟩
  have hbx := below_alloc w1 (Obj.cells #[valloc A, vdev A.X.F, .slice none 0 0] 28)
  have HA := Lib.hid (ha.below hbx)
  have HB := Lib.hid (hb.trans (hbx.mono hb.size))
  have HF : Hid (∀ b : Nat, (hdGet (al0 3).bm.list (b : Int)).fine) := Lib.hid (fun b => by rw [al0_list (by omega) (by omega), free_small]; intro h; cases h)
  have c0 : (w1.alloc (Obj.cells #[valloc A, vdev A.X.F, .slice none 0 0] 28)).cell? ⟨w1.heap.size, 0, none⟩ = some (valloc A) := cell_alloc_new _ _ _ 0 _ rfl
  clear ha hA hb hbx
  go_upto_region 2 with fail
  generalize w1.alloc _ = w2 at *
  have HMp := Lib.hid (dmap_any HA.out (by omega) (by omega) 0 HF.out)
  rw [map_three] at HMp
  go_wp2_with fail
  refine HMp.out.mono ?_
  rintro e w3 ⟨rfl, hb3⟩
  have HB3 := Lib.hid (HB.out.trans (hb3.mono HB.out.size))
  have hcmp : ((bstr [46, 46]).toList == [46, 46]) = true := by rw [bstr_toList]; rfl
  clear hb3 c0
  go_wp2_with fail
  exact HP.out _ HB3.out

end Go.Proofs.YtfedgcdkagngnaaGreat

namespace Go.Proofs.YtfedgcdkagngnaaGreat
open Go.RowKit
set_option linter.unusedVariables false

set_option maxHeartbeats 8000000 in
set_option maxRecDepth 100000 in
theorem made32_any (a : Option Addr) (mm cap : Nat) (s : List Op20) (hm : s.length = mm) (w : World) (hcs : Cells w a (recs Op20.cs s)) (hmm : mm ≤ maxLen) :
    Calls Tryz.prog 15 #[.slice a mm cap] w (Made20 w 6 false) := by
  unfold maxLen at hmm
  have HM := Lib.hid hm
  have HCS := Lib.hid hcs
  clear hm hcs
  have HP : Hid (∀ (A : AF) (n : Nat) (m : Al) (v : Value) (xs : List Nat) w', Hp w w' [] A n 6 25000000 m v xs → n ≤ 2000000 → Made20 w 6 false (.returned (.tuple #[vworld A v, .bool true])) w') := Lib.hid (fun A n m v xs w' h1 h2 => ⟨A, n, m, v, xs, rfl, h1, h2, fun h => by cases h⟩)
  generalize Made20 w 6 false = Post at *
  have HB0 := Lib.hid (below_alloc w (.cells zeroW 28))
  have HR0 : Hid (RowX (w.alloc (.cells zeroW 28)) ⟨w.heap.size, 28, zeroW.toList, true⟩) := Lib.hid ⟨_, heap_alloc_new _ _, [], by simp, by simp⟩
  obtain ⟨q, hq⟩ : ∃ q, q = w.heap.size := ⟨_, rfl⟩
  go_enter Tryz.func15, Tryz.ntmps15
  go_upto_region 1 with fail
  rw [show (#[.pointer none, .pointer none, .slice none 0 0] : Array Value) = zeroW from rfl]
  have HQ0 : Hid ((w.alloc (.cells zeroW 28)).heap.size = q + 1) := Lib.hid (by simp [hq])
  rw [← hq] at HR0 ⊢
  have HQ := Lib.hid hq
  generalize w.alloc _ = w0 at *
  clear hq
  go_wp2_with fail
  refine (begun20_any 6 (by omega) (by omega) _).mono ?_
  rintro e w1 ⟨A, n, rfl, ha, hn, hA, hb⟩
  have hh := Hp.begun (by omega) (by omega) ha hA HB0.out hb (Q := [q]) (by intro k hk; simp at hk; have := HQ0.out; omega)
  obtain ⟨p, hp⟩ : ∃ p, p = w1.heap.size := ⟨_, rfl⟩
  have HH : Hid (Hp w (w1.alloc (.cells #[valloc A, vdev A.X.F, .slice none 0 0] 28)) [q, p] A n 6 201000 (al0 6) (.slice none 0 0) []) := Lib.hid (hh.more (fun k hk => by
    simp only [List.mem_cons, List.not_mem_nil, or_false] at hk
    rcases hk with rfl | rfl
    · exact .inl (by simp)
    · exact .inr (by simp [hp])) (below_alloc _ _))
  have HR1 : Hid (MemR w.heap.size (w1.alloc (.cells #[valloc A, vdev A.X.F, .slice none 0 0] 28)) [⟨q, 28, zeroW.toList, true⟩, ⟨p, 28, [valloc A, vdev A.X.F, .slice none 0 0], true⟩]) := Lib.hid (by
    have h0 : MemR w.heap.size w1 [⟨q, 28, zeroW.toList, true⟩] := ⟨by
      intro x hx
      simp at hx; subst hx
      exact HR0.out.keep (hb.block q (by have := HQ0.out; omega)), by intro x hx; simp at hx; subst hx; have := HQ.out; exact Nat.le_of_eq this.symm, by simp, hh.below.size⟩
    have := h0.alloc #[valloc A, vdev A.X.F, .slice none 0 0] 28
    rw [← hp] at this
    exact this)
  have HN := Lib.hid hn
  clear ha hA hb hh hn HR0 HB0
  go_upto_region 2 with fail
  rw [← hp]
  generalize w1.alloc _ = w2 at *
  clear hp HQ0
  go_wp2_with fail
  go_loopw [5, 6] (fun f i wr => ∃ (k : Nat) (R : List Nat) (m : Al) (v : Value) (xs : List Nat), k ≤ mm ∧ k ≤ 40 ∧ f = .bool true ∧ i = .int .i64 (k : Int) ∧ Hid (Hp w wr [q, p] (A.re R) (n + 6 * k) 6 (201000 + 600000 * k) m v xs) ∧ Hid (MemR w.heap.size wr [⟨q, 28, zeroW.toList, true⟩, ⟨p, 28, [valloc A, vdev A.X.F, v], true⟩])) (fun _ i _ => 40 - (intOf i).toNat)
  case atStart => exact ⟨0, A.R, _, _, _, Nat.zero_le _, Nat.zero_le _, rfl, rfl, HH, HR1⟩
  case round =>
    clear HH HR1
    obtain ⟨k, R, m, v, xs, hkm, hk40, rfl, rfl, HH, HMr⟩ := hrel
    have HQb : Hid (∀ k ∈ [q, p], w.heap.size ≤ k) := Lib.hid (by
      intro k hk
      simp only [List.mem_cons, List.not_mem_nil, or_false] at hk
      rcases hk with rfl | rfl
      · exact HMr.out.gbase 0 rfl
      · exact HMr.out.gbase 1 rfl)
    by_cases hlt : k < mm ∧ k < 40
    · obtain ⟨h1, h2⟩ := hlt
      have h1' : (k : Int) < (mm : Int) := by omega
      have h2' : (k : Int) < 40 := by omega
      have hkl : k < s.length := by rw [HM.out]; exact h1
      obtain ⟨b1, o1, rfl, hbl, hcell⟩ := recs_cells Op20.len (by decide) (⟨0, 0, 0, 0⟩ : Op20) (HCS.out.below HH.out.below (Nat.le_refl _)) hkl
      generalize s.getD k ⟨0, 0, 0, 0⟩ = o at *
      obtain ⟨ok, oi, op, ot⟩ := o
      have e0 : wr.cell? ⟨b1, o1 + k * 4, none⟩ = some (.int .i64 ok) := hcell 0 _ rfl
      have e1 : wr.cell? ⟨b1, o1 + k * 4 + 1, none⟩ = some (.int .i64 oi) := hcell 1 _ rfl
      have e2 : wr.cell? ⟨b1, o1 + k * 4 + 2, none⟩ = some (.int .i64 op) := hcell 2 _ rfl
      have e3 : wr.cell? ⟨b1, o1 + k * 4 + 3, none⟩ = some (.int .i64 ot) := hcell 3 _ rfl
      have HHa := Lib.hid (HH.out.later (below_alloc wr (.cells #[.int .i64 ok, .int .i64 oi, .int .i64 op, .int .i64 ot] 75)))
      have HMra := Lib.hid (HMr.out.later (below_alloc wr (.cells #[.int .i64 ok, .int .i64 oi, .int .i64 op, .int .i64 ot] 75)))
      have HMa := Lib.hid (Mem.one wr #[.int .i64 ok, .int .i64 oi, .int .i64 op, .int .i64 ot] 75)
      clear hcell hkl
      go_upto_region 6 with fail
      generalize wr.alloc _ = wa at *
      have d0 := HMa.out.cell 0 0 rfl rfl
      have d1 := HMa.out.cell 0 1 rfl rfl
      have d2 := HMa.out.cell 0 2 rfl rfl
      have d3 := HMa.out.cell 0 3 rfl rfl
      have hN := HN.out
      by_cases h0 : ok = 0
      · subst h0
        go_wp2_with (refine wpList_load_r aggW HMra.out 1 rfl rfl rfl rfl rfl ?_)
        refine (HHa.out.make (by omega) (by omega) (by omega) (by omega) op ot).mono ?_
        rintro e w2' ⟨m', v', xs', R', rfl, hh, hk, hmd⟩
        have HH2 : Hid (Hp w w2' [q, p] (A.re R') (n + 6 * (k + 1)) 6 (201000 + 600000 * (k + 1)) m' v' xs') := Lib.hid (hh.mono (by omega) (by omega))
        have HMr2 := Lib.hid (HMra.out.off hk (by simp))
        obtain ⟨sa', sc', rfl, _⟩ := hh.at_.own.cells
        obtain ⟨l', hl'⟩ : ∃ l', l' = xs'.length := ⟨_, rfl⟩
        rw [← hl'] at HH2 ⊢
        clear hh hk hmd d0 d1 d2 d3 hl'
        go_wp2_with (refine wpList_store_r aggW HMr2.out 1 rfl rfl rfl rfl rfl rfl rfl rfl ?_; intro w6 h6 ht6; have H6 := Lib.hid h6; have HT6 := Lib.hid ht6; clear h6 ht6)
        have HH6 := Lib.hid (HH2.out.own (HT6.out.wide (by simp)) HQb.out)
        refine ⟨⟨k + 1, R', m', _, xs', by omega, by omega, rfl, vint (by omega), HH6, H6⟩, ?_⟩
        simp [intOf]; omega
      · have h0' : (ok == 0) = false := by simpa using h0
        by_cases h1k : ok = 1
        · subst h1k
          go_wp2_with (refine wpList_load_r aggW HMra.out 1 rfl rfl rfl rfl rfl ?_)
          refine (HHa.out.lead (by omega) (by omega) oi op ot).mono ?_
          rintro e w2' ⟨R', rfl, hh, hk⟩
          have HH2 : Hid (Hp w w2' [q, p] (A.re R') (n + 6 * (k + 1)) 6 (201000 + 600000 * (k + 1)) (m.lead xs oi op ot) v xs) := Lib.hid (hh.mono (by omega) (by omega))
          have HMr2 := Lib.hid (HMra.out.off hk (by simp))
          clear hh hk d0 d1 d2 d3
          go_wp2_with fail
          refine ⟨⟨k + 1, R', _, _, xs, by omega, by omega, rfl, vint (by omega), HH2, HMr2⟩, ?_⟩
          simp [intOf]; omega
        · have h1' : (ok == 1) = false := by simpa using h1k
          by_cases h2k : ok = 2
          · subst h2k
            obtain ⟨t1, ht1⟩ : ∃ t1, t1 = max ot 0 := ⟨_, rfl⟩
            obtain ⟨t2, ht2⟩ : ∃ t2, t2 = min t1 12 := ⟨_, rfl⟩
            have hsz : objSize 0 (t2 * 100) ≠ 0 ∧ objSize 0 (t2 * 100) ≤ 1201 := by unfold objSize; split <;> omega
            have ht3 : 0 ≤ t2 ∧ t2 ≤ 12 := by omega
            have HAl := Lib.hid (HHa.out.alloc (by omega) (by omega) (by omega) (by omega) 0 (t2 * 100) hsz.1 (by omega))
            have HT1 := Lib.hid ht1.symm
            have HT2 := Lib.hid ht2.symm
            have c0 := HMra.out.cell 1 0 rfl rfl
            clear hsz ht1 ht2
            go_wp2_with fail
            rw [HT1.out, HT2.out, Int.mul_comm]
            refine HAl.out.mono ?_
            rintro e w2' ⟨m', R', ra, re, rfl, hh, hk, _⟩
            have HH2 : Hid (Hp w w2' [q, p] (A.re R') (n + 6 * (k + 1)) 6 (201000 + 600000 * (k + 1)) m' v xs) := Lib.hid (hh.mono (by omega) (by omega))
            have HMr2 := Lib.hid (HMra.out.off hk (by simp))
            clear hh hk d0 d1 d2 d3 c0
            go_wp2_with fail
            refine ⟨⟨k + 1, R', _, _, xs, by omega, by omega, rfl, vint (by omega), HH2, HMr2⟩, ?_⟩
            simp [intOf]; omega
          · have h2' : (ok == 2) = false := by simpa using h2k
            go_wp2_with fail
            refine ⟨⟨k + 1, R, _, _, xs, by omega, by omega, rfl, vint (by omega), Lib.hid (HHa.out.mono (by omega) (by omega)), HMra⟩, ?_⟩
            simp [intOf]; omega
    · have hor : (k : Int) = (mm : Int) ∨ ((k : Int) < (mm : Int) ∧ (k : Int) = 40) := by omega
      obtain ⟨sa, sc, rfl, _⟩ := HH.out.at_.own.cells
      have hN := HN.out
      have HEnd : Hid (∀ w6, Touch [q] wr w6 → Post (.returned (.tuple #[vworld A (.slice sa xs.length sc), .bool true])) w6) := Lib.hid (fun w6 ht => HP.out (A.re R) _ m _ xs w6 (((HH.out.own (ht.wide (by simp)) HQb.out).less (by simp)).mono (Nat.le_refl (n + 6 * k)) (by omega)) (by omega))
      obtain ⟨l, hl⟩ : ∃ l, l = xs.length := ⟨_, rfl⟩
      rw [← hl] at HMr HEnd
      clear hlt hl
      rcases hor with h1 | ⟨h1, h2⟩
      · obtain rfl : k = mm := by omega
        have hlt' : decide ((k : Int) < (k : Int)) = false := by simp
        clear h1
        go_wp2_with (first
          | (refine wpList_load_r aggW HMr.out 1 rfl rfl rfl rfl rfl ?_)
          | (refine wpList_store_r aggW HMr.out 0 rfl rfl rfl rfl rfl rfl rfl rfl ?_; intro w6 h6 ht6; have H6 := Lib.hid h6; have HT6 := Lib.hid ht6; clear h6 ht6))
        refine bodyPost_ret (results_cell_row2 (p := 2) (u := 3) rfl _ _ _ _ _ _ _ rfl (H6.out.exact 0 rfl) Tryz.underlying28 rfl (by kernel_rfl)) rfl ?_
        exact HEnd.out _ HT6.out
      · obtain rfl : k = 40 := by omega
        clear h2
        go_wp2_with (first
          | (refine wpList_load_r aggW HMr.out 1 rfl rfl rfl rfl rfl ?_)
          | (refine wpList_store_r aggW HMr.out 0 rfl rfl rfl rfl rfl rfl rfl rfl ?_; intro w6 h6 ht6; have H6 := Lib.hid h6; have HT6 := Lib.hid ht6; clear h6 ht6))
        refine bodyPost_ret (results_cell_row2 (p := 2) (u := 3) rfl _ _ _ _ _ _ _ rfl (H6.out.exact 0 rfl) Tryz.underlying28 rfl (by kernel_rfl)) rfl ?_
        exact HEnd.out _ HT6.out

end Go.Proofs.YtfedgcdkagngnaaGreat

namespace Go.Proofs.YtfedgcdkagngnaaGreat
open Go.RowKit
set_option linter.unusedVariables false

theorem Cells.touchNe {w w' : World} {a : Option Addr} {vs : List Value} {q : Nat} (h : Cells w a vs) (ht : Touch [q] w w') (hne : ∀ x, a = some x → x.block ≠ q) : Cells w' a vs := by
  rcases h with h | ⟨b, off, rfl, h⟩
  · exact .inl h
  · exact .inr ⟨b, off, rfl, fun i v hi => cell_of_touch ht (by simpa using hne _ rfl) (h i v hi)⟩
theorem owned_lt {w : World} {base e size n n' c : Nat} {a : Option Addr} {xs : List Value} (h : w.ownsRow base e size (.slice a n' c) n xs) (x : Addr) (hx : a = some x) : x.block < w.heap.size := by
  rcases h.2 with ⟨h0, _⟩ | ⟨g, cap, cur, hv, hb, hg, _⟩
  · simp at h0; rw [h0.1] at hx; cases hx
  · simp at hv; rw [hv.1] at hx; cases hx; exact (Array.getElem?_eq_some_iff.1 hg).1

end Go.Proofs.YtfedgcdkagngnaaGreat

namespace Go.Proofs.YtfedgcdkagngnaaGreat
open Go.RowKit Go.Maps
set_option linter.unusedVariables false

theorem gLs_now (U : List Bool) (S : Dev) (s : List Nat × List UInt8) : ∀ n, gLs U (nowD S) s n = gLs U S s n
  | 0 => rfl
  | n + 1 => by
    show gLn U (nowD S) n (gLs U (nowD S) s n) = gLn U S n (gLs U S s n)
    rw [gLs_now U S s n]; rfl
theorem GEnd.now {U : List Bool} {S : Dev} {s : List Nat × List UInt8} {n : Nat} (h : GEnd U (nowD S) s n) : GEnd U S s n :=
  ⟨fun i hi => by rw [← gLs_now]; exact h.1 i hi, by rw [← gLs_now]; exact h.2⟩
theorem AlOk.placeOf {B : Nat} {m : Al} (h : AlOk B m) (x : Nat) (hx : m.used.getD x false = true) : ∃ p d : Nat, placedN m.bm.dev m.bm.list (x : Int) = some ⟨(p : Int), (d : Int), 0⟩ := by
  obtain ⟨o, ho⟩ := Option.isSome_iff_exists.1 (h.placed x hx)
  obtain ⟨_, h2, _, _⟩ := placed_head ho
  obtain ⟨_, h3, _, h4, _⟩ := placed_size ho
  obtain ⟨p, d, c⟩ := o
  dsimp only at h2 h3 h4
  subst h2
  obtain ⟨p, rfl⟩ := Int.eq_ofNat_of_zero_le h3
  obtain ⟨d, rfl⟩ := Int.eq_ofNat_of_zero_le h4
  exact ⟨p, d, ho⟩
theorem OwnI.at_cells {w : World} {a : Option Addr} {c nl : Nat} {xs : List Nat} (h : OwnI w (.slice a nl c) xs) : Cells w a (xs.map vi) := by
  obtain ⟨a', c', e, h1, _⟩ := h.cells
  injection e with e1 _ _
  subst e1
  exact h1
theorem pick_le {B : Nat} {m : Al} {xs : List Nat} (h : WOk B m xs) (hB : B ≤ 1000) (i : Int) : pickN xs i ≤ 1099511627776 := by
  by_cases c : pickN xs i = 0
  · omega
  · have := (h.lt (pickN_mem c)).2
    omega

set_option maxHeartbeats 8000000 in
set_option maxRecDepth 100000 in
theorem dumpGraphs_any (a : Option Addr) (mm cap : Nat) (s : List Op20) (hm : s.length = mm) (af : Option Addr) (fn cf : Nat) (z : List Int) (hz : z.length = fn) (w : World) (hcs : Cells w a (recs Op20.cs s)) (hcz : Cells w af (z.map (Value.int .i64))) (hmm : mm ≤ maxLen) (hfn : fn ≤ maxLen) :
    Calls Tryz.prog 9 #[.slice a mm cap, .slice af fn cf] w (Gives (.bool true) w) := by
  unfold maxLen at hfn
  have HM := Lib.hid hm
  have HCS := Lib.hid hcs
  have HMM := Lib.hid hmm
  have HCZ := Lib.hid hcz
  have HZ := Lib.hid hz
  clear hm hcs hmm hcz hz
  have HP : Hid (∀ w', Below w.heap.size w w' → Gives (.bool true) w (.returned (.bool true)) w') := Lib.hid (fun w' h => ⟨rfl, h⟩)
  generalize Gives (.bool true) w = Post at *
  go_enter Tryz.func9, Tryz.ntmps9
  go_wp2_with fail
  refine (awake33_any _).mono ?_
  rintro e w1 ⟨rfl, hb1⟩
  have HB1 := Lib.hid hb1
  clear hb1
  go_wp2_with fail
  refine (made32_any a mm cap s HM.out w1 (HCS.out.below HB1.out (Nat.le_refl _)) HMM.out).mono ?_
  rintro e w2 ⟨A, n, m, v, xs, rfl, hh, hn, _⟩
  obtain ⟨sa, sc, rfl, _⟩ := hh.at_.own.cells
  obtain ⟨l, hl⟩ : ∃ l, l = xs.length := ⟨_, rfl⟩
  have HB2 := Lib.hid (HB1.out.trans (hh.below.mono HB1.out.size))
  have HMb := Lib.hid (Mem.one w2 #[valloc A, vdev A.X.F, .slice sa l sc] 28)
  rw [← hl] at hh ⊢
  have HXl : Hid (xs.length ≤ 1000000) := Lib.hid (by have := hh.ok.len; omega)
  have HHp := Lib.hid (hh.later HMb.out.below)
  have HPk := Lib.hid (fun i => pick_le hh.ok (by omega) i)
  clear hl hh hn
  go_upto_region 4 with fail
  generalize w2.alloc _ = w3 at *
  obtain ⟨q, hq⟩ : ∃ q, q = w2.heap.size := ⟨_, rfl⟩
  rw [← hq] at HMb ⊢
  clear hq
  have HB3 := Lib.hid (HB2.out.trans (HMb.out.below.mono HB2.out.size))
  by_cases hf20 : fn ≤ 20
  case neg =>
    have hf20' : decide ((20 : Int) < (fn : Int)) = true := by simp; omega
    go_wp2_with fail
    exact HP.out _ HB3.out
  have hf20' : decide ((20 : Int) < (fn : Int)) = false := by simp; omega
  go_wp2_with fail
  have HPe : Hid (∀ k x, z[k]? = some x → (z.take (k + 1)).map (pickN xs) = (z.take k).map (pickN xs) ++ [pickN xs x]) := Lib.hid (fun k x hx => by
    have h1 := (List.getElem?_eq_some_iff.1 hx).1
    rw [List.take_succ_eq_append_getElem h1, (List.getElem?_eq_some_iff.1 hx).2, List.map_append]; rfl)
  go_loopw [7, 8] (fun nv iv wr => ∃ (k : Nat) (a : Option Addr) (c nl : Nat), k ≤ fn ∧ nv = .slice a nl c ∧ iv = .int .i64 (k : Int) ∧ nl ≤ k ∧ Hid (nl = ((z.take k).map (pickN xs)).length) ∧ Hid (OwnI wr (.slice a nl c) ((z.take k).map (pickN xs))) ∧ Hid (∀ b, rowOf (.slice a nl c) = some b → w3.heap.size ≤ b) ∧ Hid (Below w3.heap.size w3 wr)) (fun _ iv _ => fn - (intOf iv).toNat)
  case atStart => exact ⟨0, none, 0, 0, Nat.zero_le _, rfl, rfl, Nat.le_refl _, Lib.hid rfl, Lib.hid (OwnI.nil _), Lib.hid (fun b hb => by cases hb), Lib.hid (Below.refl _ _)⟩
  case round =>
    obtain ⟨k, a, c, nl, hk, rfl, rfl, hnk, HNl, HO, HR, HB⟩ := hrel
    by_cases hlt : k < fn
    · have hlt' : (k : Int) < (fn : Int) := by omega
      have hcz := HCZ.out.below (HB3.out.trans (HB.out.mono HB3.out.size)) (Nat.le_refl _)
      obtain ⟨b1, o1, e1, _, hcx⟩ := hcz.at (i := k) (by rw [List.length_map, HZ.out]; exact hlt)
      subst e1
      obtain ⟨zi, hzi⟩ : ∃ zi, z[k]? = some zi := ⟨_, List.getElem?_eq_getElem (by rw [HZ.out]; exact hlt)⟩
      have cz := hcx k (.int .i64 zi) (by rw [List.getElem?_map, hzi]; rfl)
      have HPx := Lib.hid (HPe.out k zi hzi)
      have HMr := Lib.hid (HMb.out.later HB.out)
      have HH := Lib.hid (HHp.out.later HB.out)
      have c0 := HMr.out.cell 0 0 rfl rfl
      have c1 := HMr.out.cell 0 1 rfl rfl
      have c2 := HMr.out.cell 0 2 rfl rfl
      have r0 := fun x => later_cell c0 x
      have r1 := fun x => later_cell c1 x
      have r2 := fun x => later_cell c2 x
      have r3 := fun x => later_cell cz x
      generalize (z.take k).map (pickN xs) = pk at *
      clear hcz hcx hzi
      go_upto_region 12 with fail
      refine wp_region_seg (C := fun w' => ∃ x : Later (wr), w' = x.val) [.fl [0, 1, 2, 3, 4, 5], .sq [6] true, .sq [7] true, .sq [8, 9] false] (by kernel_rfl) (by kernel_rfl) (by intro c a d v w h; cases d <;> exact h) ?_
      simp only [segs, picks, List.getElem?_cons_succ, List.getElem?_cons_zero]
      have hC1 := later_drew (wr)
      refine wpSeg_fl hC1 ?_
      repeat (first | go_big_quiet_step (fail) | quiet_step (fail))
      refine wpQuiet_nil ?_
      have HH6 := Lib.hid (HH.out.later (later_below hC1))
      have HB6 := Lib.hid (HB.out.trans ((later_below hC1).mono HB.out.size))
      have HO6 := Lib.hid (HO.out.keep (fun b hb => (later_below hC1).block b (HO.out.lt b hb)))
      clear r0 r1 r2 r3 c0 c1 c2 cz HH HMr HB HO
      generalize wr.drew = w6 at *
      refine wpSeg_sq (fun K hK => ?_)
      go_wp2_with fail
      refine (wpick_any _ _ _ xs HH6.out.at_.own HXl.out zi).mono ?_
      rintro e w7 ⟨rfl, hb7⟩
      have HB7 := Lib.hid (HB6.out.trans (hb7.mono HB6.out.size))
      have HO7 := Lib.hid (HO6.out.keep (fun b hb => hb7.block b (HO6.out.lt b hb)))
      have hC2 := later_step hC1 hb7
      generalize pickN xs zi = x at *
      clear hb7 HH6 HB6 HO6
      go_wp2_with fail
      refine hK _ _ (fun _ => hC2) ?_
      clear hK K
      have hC3 := later_step hC2 (below_alloc w7 (.cells #[.int .i64 (x : Int)] 3))
      refine wpSeg_sq (fun K hK => ?_)
      go_wp2_with fail
      go_wp2_with fail
      refine hK _ _ (fun _ => hC3) ?_
      clear hK K
      have hN1 : pk.length + 1 ≤ 1000000000000 := by rw [← HNl.out]; omega
      refine wpSeg_last ?_
      go_wp2_with (at_builtin; refine wpList_append_newI (ys := [x]) (m := 1) (B := w3.heap.size) HO7.out (below_alloc _ _) HR.out (Nat.le_trans HB7.out.size (below_alloc _ _).size) (RowAt.cells ⟨_, heap_alloc_new _ _, [], rfl⟩) rfl hN1 rfl rfl rfl rfl ?_; intro v8 w8 ho8 hb8 hr8; have HO8 := Lib.hid ho8; have HB8 := Lib.hid ((HB7.out.trans ((below_alloc w7 (.cells #[.int .i64 (x : Int)] 3)).mono HB7.out.size)).trans hb8); have HR8 := Lib.hid hr8; clear ho8 hb8 hr8; obtain ⟨a8, c8, e8, _⟩ := HO8.out.cells; obtain ⟨l8, hl8⟩ : ∃ l8, l8 = (pk ++ [x]).length := ⟨_, rfl⟩; rw [← hl8] at e8; have HL8 := Lib.hid hl8; have hl8' : l8 ≤ k + 1 := (by rw [hl8, List.length_append, ← HNl.out]; simp; omega); clear hl8; subst e8)
      refine ⟨⟨k + 1, a8, c8, l8, by omega, rfl, vint (by omega), hl8', Lib.hid (by rw [HPx.out]; exact HL8.out), Lib.hid (by rw [HPx.out]; exact HO8.out), HR8, HB8⟩, by simp [intOf]; omega⟩
    · obtain rfl : k = fn := by omega
      have hlt' : decide ((k : Int) < (k : Int)) = false := by simp
      have HMr := Lib.hid (HMb.out.later HB.out)
      have HH := Lib.hid (HHp.out.later HB.out)
      have HTk : Hid ((z.take k).map (pickN xs) = z.map (pickN xs)) := Lib.hid (by rw [← HZ.out, List.take_length])
      rw [HTk.out] at HNl HO
      have HF : Hid (∀ x ∈ z.map (pickN xs), x ≤ 1099511627776) := Lib.hid (fun x hx => by
        obtain ⟨i, _, rfl⟩ := List.mem_map.1 hx
        exact HPk.out i)
      generalize z.map (pickN xs) = fs at *
      have HCr := Lib.hid (HO.out.at_cells)
      have HAl := Lib.hid HH.out.ok.ok
      have HLu : Hid (m.used.length ≤ 100000) := Lib.hid (by rw [HAl.out.lenU]; omega)
      have HLc : Hid (m.bm.dev.cache.length = 3072) := Lib.hid HAl.out.len
      have HWf := Lib.hid HH.out.at_.al.man.dev.wf
      have HDg := Lib.hid (fun w' (h : AlAt w' A n 6 m) (hc : Cells w' a (fs.map vi)) => dgraph_any h (by omega) HLu.out (fun x hx => HAl.out.placeOf x hx) a nl c fs HNl.out.symm hc (by omega) HF.out)
      have HRg := Lib.hid (fun w' (v : Value) (hr : RAt w' v m.bm.dev.dirty.length (nowD m.bm.dev).ref) (au : Option Addr) (cu : Nat) (hcu : Cells w' au ((onesL m.used).map vi)) (hc : Cells w' a (fs.map vi)) =>
        rgraph_any (by simp [nowD, freshDev]) hr (nowD_fit HWf.out 0) (by show m.bm.dev.cache.length ≤ 1000000; rw [HLc.out]; omega) m.used HLu.out au _ cu (onesL m.used) rfl hcu (by rw [onesL_length]; have := count_le_len m.used; have := HLu.out; omega) (fun x => mem_onesL)
          (fun x hx => by obtain ⟨p, d, h⟩ := HAl.out.placeOf x hx; exact ⟨p, d, (placed_head h).1⟩) a nl c fs HNl.out.symm hc (by omega))
      have HOb := Lib.hid (fun w' (h : AlAt w' A n 6 m) => aobjects_any h)
      have HNw := Lib.hid (fun w' (h : DevAt w' A.X.F m.bm.dev) => wnow_any h (valloc A) (.slice sa l sc) (by rw [HLc.out]; omega))
      have c0 := HMr.out.cell 0 0 rfl rfl
      have c1 := HMr.out.cell 0 1 rfl rfl
      have c2 := HMr.out.cell 0 2 rfl rfl
      have r0 := fun x => later_cell c0 x
      have r1 := fun x => later_cell c1 x
      have r2 := fun x => later_cell c2 x
      have HBr := Lib.hid (HB3.out.trans (HB.out.mono HB3.out.size))
      have HAr := Lib.hid HH.out.at_.al
      clear HTk HO HR HB HH HMr
      go_upto_region 13 with fail
      refine wp_region_seg (C := fun w' => ∃ x : Later (wr), w' = x.val) [.fl [0, 1, 2, 4, 6, 7, 9], .sq [3] true, .sq [5] true, .sq [8] true, .sq [10, 11, 12] false] (by kernel_rfl) (by kernel_rfl) (by intro c a d v w h; cases d <;> exact h) ?_
      simp only [segs, picks, List.getElem?_cons_succ, List.getElem?_cons_zero]
      have hC1 := later_drew (wr)
      refine wpSeg_fl hC1 ?_
      repeat (first | go_big_quiet_step (fail) | quiet_step (fail))
      refine wpQuiet_nil ?_
      have HA6 := Lib.hid (HAr.out.below (later_below hC1))
      have HC6 := Lib.hid (HCr.out.below (later_below hC1) (Nat.le_refl _))
      have HB6 := Lib.hid (HBr.out.trans ((later_below hC1).mono HBr.out.size))
      clear r0 r1 r2 c0 c1 c2 HAr HCr HBr
      generalize wr.drew = w6 at *
      refine wpSeg_sq (fun K hK => ?_)
      go_wp2_with fail
      refine (HDg.out _ HA6.out HC6.out).mono ?_
      rintro e w7 ⟨n7, hg7, rfl, hb7⟩
      have HG7 := Lib.hid hg7
      have HA7 := Lib.hid (HA6.out.below hb7)
      have HC7 := Lib.hid (HC6.out.below hb7 (Nat.le_refl _))
      have HB7 := Lib.hid (HB6.out.trans (hb7.mono HB6.out.size))
      have hC2 := later_step hC1 hb7
      obtain ⟨T7, hT7⟩ : ∃ T, T = (gLs m.used m.bm.dev (gTop m.used fs) n7).2 := ⟨_, rfl⟩
      rw [← hT7]
      have HT7 := Lib.hid hT7
      clear hg7 hb7 hT7 HA6 HC6 HB6
      go_wp2_with fail
      refine hK _ _ (fun _ => hC2) ?_
      clear hK K
      refine wpSeg_sq (fun K hK => ?_)
      go_wp2_with fail
      refine (HNw.out _ HA7.out.man.dev).mono ?_
      rintro e w8 ⟨dv, rfl, hr8, _, hb8⟩
      have HR8 := Lib.hid hr8
      have HA8 := Lib.hid (HA7.out.below hb8)
      have HC8 := Lib.hid (HC7.out.below hb8 (Nat.le_refl _))
      have HB8 := Lib.hid (HB7.out.trans (hb8.mono HB7.out.size))
      have hC3 := later_step hC2 hb8
      clear hr8 hb8 HA7 HC7 HB7
      go_wp2_with fail
      refine hK _ _ (fun _ => hC3) ?_
      clear hK K
      refine wpSeg_sq (fun K hK => ?_)
      go_wp2_with fail
      refine (HOb.out _ HA8.out).mono ?_
      intro e w9 hp9
      obtain ⟨au, cu, rfl, hcu9, hb9, _⟩ := hp9.own
      have HCu9 := Lib.hid hcu9
      have HR9 := Lib.hid (HR8.out.below hb9 (Nat.le_refl _))
      have HC9 := Lib.hid (HC8.out.below hb9 (Nat.le_refl _))
      have HB9 := Lib.hid (HB8.out.trans (hb9.mono HB8.out.size))
      have hC4 := later_step hC3 hb9
      have HRz := Lib.hid (HRg.out w9 dv HR9.out au cu HCu9.out HC9.out)
      obtain ⟨ul, hul⟩ : ∃ ul, ul = (onesL m.used).length := ⟨_, rfl⟩
      rw [← hul] at HRz ⊢
      clear hp9 hcu9 hb9 HR8 HA8 HC8 HB8 hul
      go_wp2_with fail
      refine hK _ _ (fun _ => hC4) ?_
      clear hK K
      refine wpSeg_last ?_
      go_wp2_with fail
      refine HRz.out.mono ?_
      rintro e w10 ⟨n10, hg10, rfl, hb10⟩
      have HB10 := Lib.hid (HB9.out.trans (hb10.mono HB9.out.size))
      have e10 := HG7.out.one hg10.now
      subst e10
      rw [gLs_now, ← HT7.out]
      have hcmp : ((bstr T7).toList == (bstr T7).toList) = true := by simp
      clear hg10 hb10
      generalize bstr T7 = S7 at *
      go_wp2_with fail
      exact HP.out _ HB10.out
end Go.Proofs.YtfedgcdkagngnaaGreat

namespace Go.Proofs.YtfedgcdkagngnaaGreat
open Go.RowKit Go.ChangeShapes Go.WideShapes Go.Deep
set_option linter.unusedVariables false

theorem wf_bounds {x : Int} (h : (Lit.int .i64 x).wf = true) : -9223372036854775808 ≤ x ∧ x ≤ 9223372036854775807 := by
  simp [Lit.wf, IntKind.min, IntKind.max, IntKind.bits, IntKind.signed] at h
  omega

theorem list_of {α : Type} (P : Nat → α → Prop) : ∀ n, (∀ i, i < n → ∃ x, P i x) → ∃ l : List α, l.length = n ∧ ∀ i x, l[i]? = some x → P i x
  | 0, _ => ⟨[], rfl, by simp⟩
  | n + 1, h => by
    obtain ⟨l, hl, hp⟩ := list_of P n (fun i hi => h i (by omega))
    obtain ⟨x, hx⟩ := h n (by omega)
    refine ⟨l ++ [x], by simp [hl], fun i y hy => ?_⟩
    by_cases hi : i < l.length
    · rw [List.getElem?_append_left hi] at hy; exact hp i y hy
    · rw [List.getElem?_append_right (by omega)] at hy
      have h0 : i - l.length = 0 := by
        have := (List.getElem?_eq_some_iff.1 hy).1; simp at this; omega
      rw [h0] at hy
      simp at hy
      subst hy
      rw [show i = n by omega]; exact hx

section
variable {H : Type} {enc : TypeId × Value → H} {P : Program} {w : World} {base : Nat} {spare : Nat → Bool} {held : Bool}

theorem ints_struct {e T : TypeId} {fs : Array Field} {n fuel : Nat} {us : List Value} {z : DataW H × List MemPlace} (he : P.underlying e = some (.struct fs)) (hT : P.underlying T = some (.int .i64)) (hc : P.cellsOf T = 1)
    (hF : ((List.range n).all fun j => match fs[j]? with | some f => f.type == T && f.offset == j | none => false) = true) (hlen : us.length = n) (hz : DataW.trod enc P w base spare held fuel e us = some z) :
    ∃ zs : List Int, zs.length = n ∧ us = zs.map (Value.int .i64) ∧ ∀ x ∈ zs, -9223372036854775808 ≤ x ∧ x ≤ 9223372036854775807 := by
  obtain ⟨ys, n', _, _, _, hyl, hf⟩ := DataW.trod_struct he hz
  have each : ∀ j, j < n → ∃ x : Int, us[j]? = some (.int .i64 x) ∧ (-9223372036854775808 ≤ x ∧ x ≤ 9223372036854775807) := by
    intro j hj
    have h1 := List.all_eq_true.1 hF j (List.mem_range.2 hj)
    cases hfj : fs[j]? with
    | none => rw [hfj] at h1; cases h1
    | some f =>
      rw [hfj] at h1
      simp only [Bool.and_eq_true, beq_iff_eq] at h1
      have h2 := hf j f hfj
      rw [h1.1, h1.2, hc] at h2
      have hjs : j < ys.length := by rw [hyl]; exact (Array.getElem?_eq_some_iff.1 hfj).1
      rw [List.getElem?_eq_getElem hjs] at h2
      have hju : j < us.length := by omega
      have h3 : (us.drop j).take 1 = [us[j]] := by rw [List.drop_eq_getElem_cons hju]; rfl
      rw [h3] at h2
      obtain ⟨x, hx, _, hw⟩ := DataW.trod_int hT h2
      have hx' : us[j] = .int .i64 x := by simpa using hx
      exact ⟨x, by rw [List.getElem?_eq_getElem hju, hx'], wf_bounds hw⟩
  obtain ⟨zs, hl, hp⟩ := list_of (fun j x => us[j]? = some (.int .i64 x) ∧ (-9223372036854775808 ≤ x ∧ x ≤ 9223372036854775807)) n each
  refine ⟨zs, hl, ?_, fun x hx => ?_⟩
  · apply List.ext_getElem?
    intro i
    by_cases hi : i < zs.length
    · rw [(hp i _ (List.getElem?_eq_getElem hi)).1, List.getElem?_map, List.getElem?_eq_getElem hi]; rfl
    · rw [List.getElem?_eq_none (by omega), List.getElem?_eq_none (by simp; omega)]
  · obtain ⟨i, hi, rfl⟩ := List.mem_iff_getElem.1 hx
    exact (hp i _ (List.getElem?_eq_getElem hi)).2

theorem recs_ints_read {α : Type} {f : α → List Value} {n : Nat} (hfl : ∀ x, (f x).length = n) (hn : 0 < n) (d : α) (mk : List Int → α) (hmk : ∀ zs : List Int, zs.length = n → f (mk zs) = zs.map (Value.int .i64))
    {t e T : TypeId} {fs : Array Field} {fuel : Nat} {v : Value} {y : DataW H × List MemPlace} (ht : P.underlying t = some (.slice e)) (he : P.underlying e = some (.struct fs)) (hT : P.underlying T = some (.int .i64)) (hC : P.cellsOf e = n) (hc : P.cellsOf T = 1)
    (hF : ((List.range n).all fun j => match fs[j]? with | some f => f.type == T && f.offset == j | none => false) = true) (h : DataW.trod enc P w base spare held fuel t [v] = some y) :
    ∃ (a : Option Addr) (len cap : Nat) (l : List α), v = .slice a len cap ∧ l.length = len ∧ Cells w a (recs f l) ∧ (∀ o ∈ l, ∃ zs : List Int, o = mk zs ∧ zs.length = n ∧ ∀ x ∈ zs, -9223372036854775808 ≤ x ∧ x ≤ 9223372036854775807) ∧ len ≤ maxLen := by
  obtain ⟨a, len, cap, m, rfl, hl, hm, hcs⟩ := elems_read ht hC hn h
  rcases hcs with rfl | ⟨b, off, rfl, hcs⟩
  · exact ⟨a, 0, cap, [], rfl, rfl, Cells.nil _ _, by simp, Nat.zero_le _⟩
  · have each : ∀ i, i < len → ∃ x : α, (∀ r u, (f x)[r]? = some u → w.cell? ⟨b, off + i * n + r, none⟩ = some u) ∧ ∃ zs : List Int, x = mk zs ∧ zs.length = n ∧ ∀ x ∈ zs, -9223372036854775808 ≤ x ∧ x ≤ 9223372036854775807 := by
      intro i hi
      obtain ⟨us, z, hlen, hat, hz⟩ := hcs i hi
      obtain ⟨zs, h1, h2, h3⟩ := ints_struct he hT hc hF hlen hz
      exact ⟨mk zs, fun r u hr => by rw [hmk zs h1, ← h2] at hr; exact hat r u hr, zs, rfl, h1, h3⟩
    obtain ⟨l, hll, hcl, hok⟩ := recs_of hfl hn d each
    exact ⟨_, len, cap, l, rfl, hll, hcl, hok, by omega⟩
end

end Go.Proofs.YtfedgcdkagngnaaGreat

namespace Go.Proofs.YtfedgcdkagngnaaGreat
set_option linter.unusedVariables false

section
variable {U : List Bool} {P : Nat → List Nat} {hs hk hs' : List Bool} {at_ : Nat} {open_ : List Nat}

end

end Go.Proofs.YtfedgcdkagngnaaGreat

namespace Go.Proofs.YtfedgcdkagngnaaGreat
set_option linter.unusedVariables false

def tallyN (deg : Nat → Nat) (pre : List Nat) (n : Nat) : Nat := (pre.filter (fun x => deg x == n)).length
def topL (deg : Nat → Nat) (pre : List Nat) : Nat := pre.foldl (fun n x => max n (deg x + 1)) 0
def tallyL (deg : Nat → Nat) (pre : List Nat) : List Nat := (List.range (topL deg pre)).map (tallyN deg pre)
theorem topL_snoc (deg : Nat → Nat) (pre : List Nat) (x : Nat) : topL deg (pre ++ [x]) = max (topL deg pre) (deg x + 1) := by unfold topL; simp
theorem tallyN_snoc (deg : Nat → Nat) (pre : List Nat) (x n : Nat) : tallyN deg (pre ++ [x]) n = tallyN deg pre n + if n = deg x then 1 else 0 := by
  unfold tallyN
  rw [List.filter_append, List.length_append]
  by_cases h : deg x = n
  · subst h; simp
  · have h' : ¬ n = deg x := fun e => h e.symm
    simp [h, h']
theorem foldl_top (deg : Nat → Nat) : ∀ (pre : List Nat) (k : Nat), k ≤ pre.foldl (fun n x => max n (deg x + 1)) k ∧ (∀ x ∈ pre, deg x < pre.foldl (fun n x => max n (deg x + 1)) k) ∧ (pre.foldl (fun n x => max n (deg x + 1)) k = k ∨ ∃ x ∈ pre, pre.foldl (fun n x => max n (deg x + 1)) k = deg x + 1)
  | [], k => ⟨Nat.le_refl _, by simp, .inl rfl⟩
  | a :: pre, k => by
    obtain ⟨h1, h2, h3⟩ := foldl_top deg pre (max k (deg a + 1))
    rw [List.foldl_cons]
    refine ⟨by omega, fun x hx => ?_, ?_⟩
    · rcases List.mem_cons.1 hx with rfl | hx
      · omega
      · exact h2 x hx
    · rcases h3 with h3 | ⟨x, hx, h3⟩
      · by_cases c : k ≤ deg a + 1
        · exact .inr ⟨a, List.mem_cons_self, by omega⟩
        · exact .inl (by omega)
      · exact .inr ⟨x, List.mem_cons_of_mem _ hx, h3⟩
theorem topL_mem (deg : Nat → Nat) (pre : List Nat) : ∀ x ∈ pre, deg x < topL deg pre := (foldl_top deg pre 0).2.1
theorem topL_is (deg : Nat → Nat) (pre : List Nat) : topL deg pre = 0 ∨ ∃ x ∈ pre, topL deg pre = deg x + 1 := (foldl_top deg pre 0).2.2
theorem tallyL_length (deg : Nat → Nat) (pre : List Nat) : (tallyL deg pre).length = topL deg pre := by simp [tallyL]
theorem tallyL_getD (deg : Nat → Nat) (pre : List Nat) {n : Nat} (h : n < topL deg pre) : (tallyL deg pre).getD n 0 = tallyN deg pre n := by
  unfold tallyL
  rw [List.getD_eq_getElem?_getD, List.getElem?_map, List.getElem?_range h]; rfl
theorem tallyN_out (deg : Nat → Nat) (pre : List Nat) {n : Nat} (h : topL deg pre ≤ n) : tallyN deg pre n = 0 := by
  unfold tallyN
  rw [List.length_eq_zero_iff, List.filter_eq_nil_iff]
  intro x hx
  have := topL_mem deg pre x hx
  simp
  omega
def padL (l : List Nat) (n : Nat) : List Nat := l ++ List.replicate (n - l.length) 0
theorem padL_step {l : List Nat} {n k : Nat} (h : k < n) (hk : l.length ≤ k) : padL l k ++ [0] = padL l (k + 1) := by
  unfold padL
  rw [List.append_assoc, ← List.replicate_succ', show k + 1 - l.length = (k - l.length) + 1 by omega]
theorem padL_length {l : List Nat} {k : Nat} : (padL l k).length = max l.length k := by simp [padL]; omega
theorem padL_self (l : List Nat) : padL l l.length = l := by simp [padL]
theorem padL_short {l : List Nat} {k : Nat} (h : k ≤ l.length) : padL l k = l := by unfold padL; rw [show k - l.length = 0 by omega]; simp
theorem padL_getD (l : List Nat) (k n : Nat) : (padL l k).getD n 0 = l.getD n 0 := by
  unfold padL
  by_cases h : n < l.length
  · rw [List.getD_eq_getElem?_getD, List.getElem?_append_left h, ← List.getD_eq_getElem?_getD]
  · rw [List.getD_eq_getElem?_getD, List.getElem?_append_right (by omega), List.getElem?_replicate, List.getD_eq_getElem?_getD, List.getElem?_eq_none (by omega)]
    split <;> rfl
theorem tallyL_snoc (deg : Nat → Nat) (pre : List Nat) (x : Nat) : tallyL deg (pre ++ [x]) = (padL (tallyL deg pre) (deg x + 1)).set (deg x) ((padL (tallyL deg pre) (deg x + 1)).getD (deg x) 0 + 1) := by
  have hl : (padL (tallyL deg pre) (deg x + 1)).length = topL deg (pre ++ [x]) := by rw [padL_length, tallyL_length, topL_snoc]
  refine List.ext_getElem? fun n => ?_
  by_cases hn : n < topL deg (pre ++ [x])
  · have e1 : (tallyL deg (pre ++ [x]))[n]? = some (tallyN deg (pre ++ [x]) n) := by
      unfold tallyL
      rw [List.getElem?_map, List.getElem?_range hn]; rfl
    have key : ∀ n, (padL (tallyL deg pre) (deg x + 1)).getD n 0 = tallyN deg pre n := fun n => by
      rw [padL_getD]
      by_cases h : n < topL deg pre
      · exact tallyL_getD deg pre h
      · rw [tallyN_out deg pre (by omega), List.getD_eq_getElem?_getD, List.getElem?_eq_none (by rw [tallyL_length]; omega)]; rfl
    rw [e1, tallyN_snoc, List.getElem?_set, key]
    by_cases e : deg x = n
    · subst e
      rw [if_pos rfl, if_pos rfl, if_pos (by rw [hl]; exact hn)]
    · rw [if_neg (fun h => e h.symm), if_neg e, ← key n, List.getD_eq_getElem?_getD, List.getElem?_eq_getElem (by rw [hl]; exact hn)]
      rfl
  · rw [List.getElem?_eq_none (by rw [tallyL_length]; omega), List.getElem?_eq_none (by rw [List.length_set, hl]; omega)]
theorem sum_range_split (f : Nat → Nat) : ∀ n, (List.range (n + 1)).foldl (fun s i => s + f i) 0 = (List.range n).foldl (fun s i => s + f i) 0 + f n := fun n => by
  rw [List.range_succ, List.foldl_append]; rfl
theorem tally_all (deg : Nat → Nat) (pre : List Nat) : ∀ n, (∀ x ∈ pre, deg x < n) → (List.range n).foldl (fun s i => s + tallyN deg pre i) 0 = pre.length := by
  have key : ∀ n, (List.range n).foldl (fun s i => s + tallyN deg pre i) 0 = (pre.filter (fun x => decide (deg x < n))).length := fun n => by
    induction n with
    | zero => exact (List.length_eq_zero_iff.2 (List.filter_eq_nil_iff.2 (by simp))).symm
    | succ n ih =>
      rw [sum_range_split, ih]
      unfold tallyN
      clear ih
      induction pre with
      | nil => rfl
      | cons a pre ih =>
        simp only [List.filter_cons]
        by_cases h1 : deg a < n
        · have h2 : deg a < n + 1 := by omega
          have h3 : ¬ deg a = n := by omega
          simp [h1, h2, h3]; omega
        · by_cases h3 : deg a = n
          · have h2 : deg a < n + 1 := by omega
            simp [h3]; omega
          · have h2 : ¬ deg a < n + 1 := by omega
            simp [h1, h2, h3]; exact ih
  intro n hn
  rw [key n]
  congr 1
  exact List.filter_eq_self.2 (fun x hx => by simpa using hn x hx)
theorem tally_last (deg : Nat → Nat) (pre : List Nat) (h : topL deg pre ≠ 0) : tallyN deg pre (topL deg pre - 1) ≠ 0 := by
  rcases topL_is deg pre with c | ⟨x, hx, c⟩
  · exact absurd c h
  · unfold tallyN
    rw [c]
    intro e
    rw [List.length_eq_zero_iff, List.filter_eq_nil_iff] at e
    have := e x hx
    simp at this

def takeNew (ok : Nat → Bool) : List Nat → List Nat → List Nat × List Nat
  | seen, [] => (seen, [])
  | seen, x :: l => if ok x && !seen.contains x then let r := takeNew ok (seen ++ [x]) l; (r.1, x :: r.2) else takeNew ok seen l
theorem takeNew_cons (ok : Nat → Bool) (x : Nat) (l seen : List Nat) : takeNew ok seen (x :: l) = if ok x && !seen.contains x then ((takeNew ok (seen ++ [x]) l).1, x :: (takeNew ok (seen ++ [x]) l).2) else takeNew ok seen l := rfl
theorem takeNew_fst (ok : Nat → Bool) : ∀ (l seen : List Nat), (takeNew ok seen l).1 = seen ++ (takeNew ok seen l).2
  | [], seen => by simp [takeNew]
  | x :: l, seen => by
    unfold takeNew
    split
    · dsimp only
      rw [takeNew_fst ok l (seen ++ [x])]; simp
    · exact takeNew_fst ok l seen
theorem takeNew_append (ok : Nat → Bool) : ∀ (l k seen : List Nat), takeNew ok seen (l ++ k) = ((takeNew ok (takeNew ok seen l).1 k).1, (takeNew ok seen l).2 ++ (takeNew ok (takeNew ok seen l).1 k).2)
  | [], k, seen => by simp [takeNew]
  | x :: l, k, seen => by
    rw [List.cons_append, takeNew_cons, takeNew_cons]
    by_cases h : (ok x && !seen.contains x) = true
    · rw [if_pos h, if_pos h, takeNew_append ok l k (seen ++ [x])]; rfl
    · rw [if_neg h, if_neg h, takeNew_append ok l k seen]
theorem takeNew_one (ok : Nat → Bool) (seen : List Nat) (x : Nat) : takeNew ok seen [x] = if ok x && !seen.contains x then (seen ++ [x], [x]) else (seen, []) := by
  simp only [takeNew]
def levels (ok : Nat → Bool) (P : Nat → List Nat) : Nat → List Nat × List Nat → List Nat × List Nat
  | 0, s => s
  | n + 1, s => let t := levels ok P n s; takeNew ok t.1 (t.2.flatMap P)
theorem levels_succ (ok : Nat → Bool) (P : Nat → List Nat) (n : Nat) (s : List Nat × List Nat) : levels ok P (n + 1) s = takeNew ok (levels ok P n s).1 ((levels ok P n s).2.flatMap P) := rfl
theorem takeNew_in (ok : Nat → Bool) : ∀ (l seen : List Nat), ∀ x ∈ (takeNew ok seen l).2, ok x = true ∧ x ∉ seen
  | [], seen => by simp [takeNew]
  | y :: l, seen => by
    intro x hx
    unfold takeNew at hx
    split at hx
    · next h =>
      simp only [Bool.and_eq_true, Bool.not_eq_true', List.contains_iff_mem, ← Bool.not_eq_true] at h
      rcases List.mem_cons.1 hx with rfl | hx
      · exact h
      · obtain ⟨h1, h2⟩ := takeNew_in ok l (seen ++ [y]) x hx
        exact ⟨h1, fun c => h2 (List.mem_append_left _ c)⟩
    · exact takeNew_in ok l seen x hx
theorem takeNew_nodup (ok : Nat → Bool) : ∀ (l seen : List Nat), seen.Nodup → (takeNew ok seen l).1.Nodup
  | [], seen, h => by simpa [takeNew] using h
  | y :: l, seen, h => by
    unfold takeNew
    split
    · next hc =>
      simp only [Bool.and_eq_true, Bool.not_eq_true', List.contains_iff_mem, ← Bool.not_eq_true] at hc
      refine takeNew_nodup ok l (seen ++ [y]) ?_
      rw [List.nodup_append]
      exact ⟨h, by simp, fun a ha b hb => by simp at hb; subst hb; exact fun e => hc.2 (e ▸ ha)⟩
    · exact takeNew_nodup ok l seen h
end Go.Proofs.YtfedgcdkagngnaaGreat
