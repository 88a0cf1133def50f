/- Parts of the proof, one behind the other: Wn, Ri, Arr, Wo. -/
import Derived.Test.YtfedgcdkagngnaaGreatMT10
import Derived.Deep.DeepCutAuto
import Derived.Deep.CutBlock
import Derived.OpenShut
import Derived.Lib.SmallJoins

/- law22: MarkTurns. -/
namespace Go.Proofs.YtfedgcdkagngnaaGreat
open Go.RowKit Go.Maps
set_option linter.unusedVariables false

/-- A turn: what is done, to which object. -/
structure Tn where
  k : Int
  i : Int
def Tn.cs (o : Tn) : List Value := [.int .i64 o.k, .int .i64 o.i]
theorem Tn.len (o : Tn) : o.cs.length = 2 := rfl
theorem twoTn (zs : List Int) (h : zs.length = 2) : (Tn.cs ⟨zs.getD 0 0, zs.getD 1 0⟩) = zs.map (Value.int .i64) := by
  match zs, h with
  | [a, b], _ => rfl

theorem two_parts {ms sc : Nat → Bool} {xs : List Nat} (h : ∀ x ∈ xs, sc x = true → ms x = true) : (xs.filter ms).length = (xs.filter sc).length + (xs.filter (fun x => ms x && !(sc x))).length := by
  induction xs with
  | nil => rfl
  | cons a xs ih =>
    have ih := ih (fun x hx => h x (List.mem_cons_of_mem _ hx))
    have ha := h a List.mem_cons_self
    cases hm : ms a <;> cases hs : sc a
    · simp [List.filter_cons, hm, hs]; exact ih
    · rw [ha hs] at hm; cases hm
    · simp [List.filter_cons, hm, hs]; omega
    · simp [List.filter_cons, hm, hs]; omega
/-- How many of a list have a colour; how many are not white. -/
def greyN (M : Mk) (xs : List Nat) : Nat := (xs.filter (fun x => decide (M.colour x = 1))).length
def markN (M : Mk) (xs : List Nat) : Nat := (xs.filter (fun x => decide (M.colour x ≠ 0))).length
theorem greyN_snoc (M : Mk) (xs : List Nat) (x : Nat) : greyN M (xs ++ [x]) = greyN M xs + if M.colour x = 1 then 1 else 0 := by
  unfold greyN
  rw [List.filter_append, List.length_append]
  by_cases h : M.colour x = 1 <;> simp [h]
theorem markN_snoc (M : Mk) (xs : List Nat) (x : Nat) : markN M (xs ++ [x]) = markN M xs + if M.colour x = 0 then 0 else 1 := by
  unfold markN
  rw [List.filter_append, List.length_append]
  by_cases h : M.colour x = 0 <;> simp [h]
theorem greyN_le (M : Mk) (xs : List Nat) : greyN M xs ≤ xs.length := List.length_filter_le _ _
theorem markN_le (M : Mk) (xs : List Nat) : markN M xs ≤ xs.length := List.length_filter_le _ _
theorem marks_count {U : List Bool} {M : Mk} {xs : List Nat} (h : MkOk U M) (hn : xs.Nodup) (hf : ∀ x, U.getD x false = true → x ∈ xs) : M.ms.count true = markN M xs ∧ M.ms.count true = M.sc.count true + greyN M xs := by
  have e1 : M.ms.count true = (xs.filter (fun x => M.ms.getD x false)).length := count_in hn (fun x hx => hf x (h.mu x hx))
  have e2 : M.sc.count true = (xs.filter (fun x => M.sc.getD x false)).length := count_in hn (fun x hx => hf x (h.mu x (h.sm x hx)))
  have e3 := two_parts (xs := xs) (ms := fun x => M.ms.getD x false) (sc := fun x => M.sc.getD x false) (fun x _ hx => h.sm x hx)
  refine ⟨?_, ?_⟩
  · rw [e1]
    unfold markN
    congr 1
    refine List.filter_congr (fun x _ => ?_)
    have := M.colour_white x h
    cases hm : M.ms.getD x false with
    | true => rw [hm] at this; simp; intro c; exact absurd (this.1 c) (by simp)
    | false => rw [hm] at this; simp; exact this.2 rfl
  · rw [e1, e2, e3]
    unfold greyN
    congr 2
    refine List.filter_congr (fun x _ => ?_)
    have := M.colour_grey x
    cases hm : M.ms.getD x false <;> cases hs : M.sc.getD x false <;> rw [hm, hs] at this <;> simp [this]

theorem Mk.colour_le (M : Mk) (x : Nat) : M.colour x ≤ 2 := by
  unfold Mk.colour
  split
  · omega
  · split <;> omega

/-- What is known behind some turns. -/
structure Turned (U : List Bool) (xs : List Nat) (M : Mk) (C : Int → Option Int) (k : Nat) : Prop where
  ok : MkOk U M
  col : ∀ x ∈ xs, (C (x : Int)).getD 0 = (M.colour x : Nat)
  small : M.miss ≤ k ∧ M.st.length ≤ k
theorem Turned.start (U : List Bool) (xs : List Nat) (most : Nat) : Turned U xs (Mk.new U.length most) (fun _ => none) 0 :=
  ⟨MkOk.new U most, fun x _ => by
    have : (Mk.new U.length most).colour x = 0 := ((Mk.new U.length most).colour_white x (MkOk.new U most)).2 (Mk.new_ms _ _ _)
    rw [this]; rfl, ⟨Nat.le_refl _, Nat.le_refl _⟩⟩
section
variable {U : List Bool} {xs : List Nat} {M : Mk} {C : Int → Option Int} {k : Nat}
theorem Turned.mono (h : Turned U xs M C k) : Turned U xs M C (k + 1) := ⟨h.ok, h.col, ⟨Nat.le_succ_of_le h.small.1, Nat.le_succ_of_le h.small.2⟩⟩
theorem Turned.fresh (h : Turned U xs M C k) {x : Nat} (hx : x ∈ xs) (hu : U.getD x false = true) : M.fresh U x = decide ((C (x : Int)).getD 0 = 0) := by
  rw [h.col x hx]
  unfold Mk.fresh
  rw [hu]
  have := M.colour_white x h.ok
  cases hm : M.ms.getD x false with
  | true =>
    rw [hm] at this
    symm
    simp only [Bool.not_true, Bool.and_false, decide_eq_false_iff_not]
    intro c
    exact absurd (this.1 (by omega)) (by simp)
  | false =>
    rw [hm] at this
    symm
    simp only [Bool.not_false, Bool.and_true, decide_eq_true_eq]
    have := this.2 rfl
    omega
theorem Mk.shade_other (h : MkOk U M) {x y : Nat} (e : y ≠ x) : (M.shade U x).colour y = M.colour y := by
  unfold Mk.colour
  rw [Mk.shade_sc, h.shade_mk]
  simp [e]
theorem Mk.shade_self (h : MkOk U M) {x : Nat} (hu : U.getD x false = true) : (M.shade U x).colour x = max (M.colour x) 1 := by
  unfold Mk.colour
  rw [Mk.shade_sc, h.shade_mk, hu]
  cases hs : M.sc.getD x false <;> cases hm : M.ms.getD x false <;> simp
theorem Turned.shade (h : Turned U xs M C k) {x : Nat} (hx : x ∈ xs) (hu : U.getD x false = true) : Turned U xs (M.shade U x) (fun z => if z = (x : Int) then some (max ((C (x : Int)).getD 0) 1) else C z) (k + 1) := by
  refine ⟨h.ok.shade x, fun y hy => ?_, Mk.shade_small h.small x⟩
  by_cases e : y = x
  · subst e
    rw [if_pos rfl, Mk.shade_self h.ok hu, Option.getD_some, h.col y hy]
    omega
  · rw [if_neg (by omega), Mk.shade_other h.ok e]; exact h.col y hy
theorem Turned.blacken (h : Turned U xs M C k) {x : Nat} (hu : U.getD x false = true) : Turned U xs (M.blacken x) (fun z => if z = (x : Int) then some 2 else C z) (k + 1) := by
  refine ⟨h.ok.blacken hu, fun y hy => ?_, ⟨Nat.le_succ_of_le h.small.1, Nat.le_succ_of_le h.small.2⟩⟩
  by_cases e : y = x
  · subst e
    rw [if_pos rfl, Mk.blacken_self h.ok (getD_true_lt hu)]; rfl
  · rw [if_neg (by omega), Mk.blacken_other e]; exact h.col y hy
theorem Turned.whiten (h : Turned U xs M C k) {x : Nat} (hu : U.getD x false = true) : Turned U xs (M.whiten x) (fun z => if z = (x : Int) then some 0 else C z) (k + 1) := by
  refine ⟨h.ok.whiten (getD_true_lt hu), fun y hy => ?_, ⟨Nat.le_succ_of_le h.small.1, Nat.le_succ_of_le h.small.2⟩⟩
  by_cases e : y = x
  · subst e
    rw [if_pos rfl, Mk.whiten_self h.ok (getD_true_lt hu)]; rfl
  · rw [if_neg (by omega), Mk.whiten_other e]; exact h.col y hy
end

set_option maxHeartbeats 8000000 in
set_option maxRecDepth 100000 in
theorem markTurns_any (a : Option Addr) (mm cap : Nat) (s : List Op20) (hm : s.length = mm) (a2 : Option Addr) (tn cap2 : Nat) (t : List Tn) (ht : t.length = tn) (w : World) (hcs : Cells w a (recs Op20.cs s)) (hct : Cells w a2 (recs Tn.cs t)) (hmm : mm ≤ maxLen) (htn : tn ≤ maxLen) :
    Calls Tryz.prog 7 #[.slice a mm cap, .slice a2 tn cap2] w (Gives (.bool true) w) := by
  unfold maxLen at htn
  have HM := Lib.hid hm
  have HCS := Lib.hid hcs
  have HCT := Lib.hid hct
  have HT := Lib.hid ht
  have HMM := Lib.hid hmm
  clear hm hcs hct ht hmm
  have HP : Hid (∀ w', Below w.heap.size w w' → Gives (.bool true) w (.returned (.bool true)) w') := Lib.hid (fun w' h => ⟨rfl, h⟩)
  generalize Gives (.bool true) w = Post at *
  go_enter Tryz.func7, Tryz.ntmps7
  go_wp2_with fail
  refine (awake22_any _).mono ?_
  rintro e w1 ⟨rfl, hb1⟩
  have HB1 := Lib.hid hb1
  clear hb1
  go_wp2_with fail
  refine (made22_any a mm cap s HM.out w1 (HCS.out.below HB1.out (Nat.le_refl _)) HMM.out).mono ?_
  rintro e w2 ⟨A, n, m, v, xs, rfl, hh, hn, hf, _, _⟩
  obtain ⟨sa, sc, rfl, _⟩ := hh.at_.own.cells
  have HFu := Lib.hid hf
  have HMb := Lib.hid (Mem.one w2 #[valloc A, vdev A.X.F, .slice sa xs.length sc] 28)
  have HHp : Hid (Hp w1 (w2.alloc (.cells #[valloc A, vdev A.X.F, .slice sa xs.length sc] 28)) [w2.heap.size] A n 4 25000000 m (.slice sa xs.length sc) xs) := Lib.hid (hh.more (fun k hk => by simp at hk; subst hk; exact .inr ⟨Nat.le_refl _, by simp⟩) (below_alloc _ _))
  have hq2 : Hid (w1.heap.size ≤ w2.heap.size) := Lib.hid hh.below.size
  obtain ⟨l, hl⟩ : ∃ l, l = xs.length := ⟨_, rfl⟩
  rw [← hl] at HMb HHp ⊢
  have HL := Lib.hid hl
  have hl2 : l ≤ 2048 := by rw [hl]; exact hh.ok.len
  clear hh hn hf hl
  go_upto_region 4 with fail
  generalize w2.alloc _ = w3 at *
  obtain ⟨q, hq⟩ : ∃ q, q = w2.heap.size := ⟨_, rfl⟩
  rw [← hq] at HMb HHp hq2 ⊢
  have HQ := Lib.hid hq
  clear hq
  have c0 := HMb.out.cell 0 0 rfl rfl
  go_wp2_with fail
  refine (mnew_any HHp.out.at_.al (by rw [HHp.out.ok.ok.lenU]; omega) 2 (by omega)).mono ?_
  rintro e w4 ⟨K, rfl, hm4, hb4, hk4⟩
  rw [show Int.toNat 2 = 2 from rfl] at hm4
  have HHM : Hid (HMk w1 w4 [q] A n 25000000 m (.slice sa l sc) xs K (Mk.new m.used.length 2)) := Lib.hid (HMk.new HHp.out (by intro k hk; simp at hk; subst hk; exact hq2.out) hb4 hm4 hk4)
  have HMb4 := Lib.hid (HMb.out.r.later hb4)
  have hmk := @run_makeMap Tryz.prog
  have HTu0 := Lib.hid (Turned.start m.used xs 2)
  clear hm4 hb4 hk4 c0 hq2
  go_upto_region 10 with fail
  obtain ⟨mp, hmp⟩ : ∃ mp, mp = w4.heap.size := ⟨_, rfl⟩
  have hbm := below_alloc w4 (.map #[] 0)
  have HIm0 : Hid (IMap Tryz.prog 3 (w4.alloc (.map #[] 0)) mp 0 (fun _ => none)) := Lib.hid (by rw [hmp]; exact IMap.made w4 Tryz.prog 3)
  have HH5 : Hid (HMk w1 (w4.alloc (.map #[] 0)) [q, mp] A n 25000000 m (.slice sa l sc) xs K (Mk.new m.used.length 2)) := Lib.hid (HHM.out.more (fun k hk => by
    simp only [List.mem_cons, List.not_mem_nil, or_false] at hk
    rcases hk with rfl | rfl
    · exact .inl (by simp)
    · exact .inr (by simp [hmp])) hbm)
  have HMb5 := Lib.hid (HMb4.out.later hbm)
  have HNe : Hid (mp ≠ q) := Lib.hid (fun e => by have := HMb4.out.glt 0 rfl; omega)
  rw [← hmp]
  generalize w4.alloc _ = w5 at *
  clear hmp hbm HMb4 HHM HMb hmk HHp
  go_wp2_with fail
  go_loopw [9] (fun i wr => ∃ (k : Nat) (v' : Value) (M : Mk) (C : Int → Option Int), k ≤ tn ∧ k ≤ 60 ∧ i = .int .i64 (k : Int) ∧ Hid (HMk w1 wr [q, mp] A n 25000000 m (.slice sa l sc) xs (K.re v') M) ∧ Hid (MemR w2.heap.size wr [⟨q, 28, [valloc A, vdev A.X.F, .slice sa l sc], true⟩]) ∧ Hid (IMap Tryz.prog 3 wr mp k C) ∧ Hid (Turned m.used xs M C k)) (fun i _ => 60 - (intOf i).toNat)
  case atStart => exact ⟨0, K.v, _, _, Nat.zero_le _, Nat.zero_le _, rfl, HH5, HMb5, HIm0, HTu0⟩
  case round =>
    clear HH5 HMb5 HIm0 HTu0
    obtain ⟨k, v', M, C, hkt, hk60, rfl, HH, HMr, HIm, HTu⟩ := hrel
    by_cases hlt : k < tn ∧ k < 60
    · obtain ⟨h1, h2⟩ := hlt
      have h1' : (k : Int) < (tn : Int) := by omega
      have h2' : (k : Int) < 60 := by omega
      have hkl : k < t.length := by rw [HT.out]; exact h1
      obtain ⟨b1, o1, rfl, hbl, hcell⟩ := recs_cells Tn.len (by decide) (⟨0, 0⟩ : Tn) (HCT.out.below (HB1.out.trans (HH.out.below.mono HB1.out.size)) (Nat.le_refl _)) hkl
      generalize t.getD k ⟨0, 0⟩ = o at *
      obtain ⟨ok, oi⟩ := o
      have e0 : wr.cell? ⟨b1, o1 + k * 2, none⟩ = some (.int .i64 ok) := hcell 0 _ rfl
      have e1 : wr.cell? ⟨b1, o1 + k * 2 + 1, none⟩ = some (.int .i64 oi) := hcell 1 _ rfl
      have c0 := HMr.out.cell 0 0 rfl rfl
      have c1 := HMr.out.cell 0 1 rfl rfl
      have c2 := HMr.out.cell 0 2 rfl rfl
      clear hcell hkl
      have r0 := fun x => later_cell c0 x
      have r1 := fun x => later_cell c1 x
      have r2 := fun x => later_cell c2 x
      have r3 := fun x => later_cell e1 x
      go_upto_region 13 with fail
      refine wp_region_seg (C := fun w' => ∃ x : Later (wr), w' = x.val) [.fl [0, 1, 2, 3, 4, 5], .sq [6, 7] false] (by kernel_rfl) (by kernel_rfl) (by intro c a d v w h; cases d <;> exact h) ?_
      simp only [segs, picks, List.getElem?_cons_succ, List.getElem?_cons_zero]
      have hC1 := later_drew (wr)
      refine wpSeg_fl hC1 ?_
      repeat (first | go_big_quiet_step (fail) | quiet_step (fail))
      refine wpQuiet_nil ?_
      have HH6 := Lib.hid (HH.out.later (later_below hC1))
      have HMr6 := Lib.hid (HMr.out.later (later_below hC1))
      have HIm6 := Lib.hid HIm.out.drew
      have e6 := later_cell e0 ⟨_, later_below hC1⟩
      clear r0 r1 r2 r3 c0 c1 c2 e0 e1 HH HMr HIm
      generalize wr.drew = w6 at *
      refine wpSeg_last ?_
      go_wp2_with fail
      refine (wpick_any _ _ _ xs HH6.out.hp.at_.own (by have := HH6.out.xlen; omega) oi).mono ?_
      rintro e w7 ⟨rfl, hb7⟩
      have HH7 := Lib.hid (HH6.out.later hb7)
      have HMr7 := Lib.hid (HMr6.out.later hb7)
      have HIm7 := Lib.hid (HIm6.out.block (hb7.block mp HIm6.out.lt))
      have e7 : w7.cell? ⟨b1, o1 + k * 2, none⟩ = some (.int .i64 ok) := later_cell e6 ⟨w7, hb7⟩
      have HPx : Hid (pickN xs oi ≠ 0 → pickN xs oi ∈ xs) := Lib.hid pickN_mem
      generalize pickN xs oi = x at *
      clear hb7 hC1 e6 HH6 HMr6 HIm6 hbl
      by_cases hx0 : x = 0
      · subst hx0
        go_wp2_with fail
        refine ⟨⟨k + 1, v', M, C, by omega, by omega, vint (by omega), HH7, HMr7, Lib.hid (HIm7.out.mono (Nat.le_succ _)), Lib.hid HTu.out.mono⟩, ?_⟩
        simp [intOf]; omega
      have hxs := HPx.out hx0
      have HXs := Lib.hid hxs
      have hul := HH7.out.hp.ok.us x hxs
      have HU := Lib.hid hul
      have hx2 : x < 2048 := by have := getD_true_lt hul; rw [HH7.out.ulen] at this; exact this
      have hxb : ((x : Int) == 0) = false := by simp; omega
      have HWx : Hid ((Lit.int .i64 (x : Int)).wf = true) := Lib.hid (by simp [Lit.wf, IntKind.min, IntKind.max, IntKind.bits, IntKind.signed]; omega)
      have HCol := Lib.hid (HTu.out.col x hxs)
      have hcl2 := M.colour_le x
      have HFr := Lib.hid (HTu.out.fresh hxs hul)
      have HT1 := Lib.hid (HTu.out.shade hxs hul)
      have HT2 := Lib.hid (HTu.out.blacken hul)
      have HT3 := Lib.hid (HTu.out.whiten hul)
      obtain ⟨cx, hcx⟩ : ∃ cx, cx = (C (x : Int)).getD 0 := ⟨_, rfl⟩
      rw [← hcx] at HCol HFr HT1
      have HCx := Lib.hid hcx
      have hc0 : 0 ≤ cx ∧ cx ≤ 2 := by rw [HCol.out]; omega
      clear hxs hul hx0 HPx hcx
      go_upto_block 2 with fail
      go_cut [] (fun wc => ∃ (v2 : Value) (M2 : Mk) (C2 : Int → Option Int), Hid (HMk w1 wc [q, mp] A n 25000000 m (.slice sa l sc) xs (K.re v2) M2) ∧ Hid (MemR w2.heap.size wc [⟨q, 28, [valloc A, vdev A.X.F, .slice sa l sc], true⟩]) ∧ Hid (IMap Tryz.prog 3 wc mp (k + 1) C2) ∧ Hid (Turned m.used xs M2 C2 (k + 1)))
      case first =>
        by_cases h0 : ok = 0
        · subst h0
          go_upto_region 17 with fail
          refine wp_region_tr (C := fun w' => ∃ x : Later (w7), w' = x.val) (.pu [0, 1, 3, 4] (.br 2 false (.sq [5, 6, 7] false (.nil)) 5 false (.pu [6] (.sq [2, 7] false (.nil))))) (by kernel_rfl) (by kernel_rfl) (by intro c a d v w h; cases d <;> exact h) ?_
          simp only [trO, picks, List.getElem?_cons_succ, List.getElem?_cons_zero]
          have hC2 := later_drew (w7)
          have HH8 := Lib.hid (HH7.out.later (later_below hC2))
          have HMr8 := Lib.hid (HMr7.out.later (later_below hC2))
          have HIm8 := Lib.hid HIm7.out.drew
          generalize w7.drew = w8 at *
          have HSh := Lib.hid (mshade_any HH8.out.ma (show M.miss ≤ 900000 ∧ M.st.length ≤ 900000 by have := HTu.out.small; omega) x)
          have HGo : Hid (∀ w9, MAGo w8 w9 A n 4 m (K.re v') (M.shade m.used x) → ∃ v2, HMk w1 w9 [q, mp] A n 25000000 m (.slice sa l sc) xs (K.re v2) (M.shade m.used x) ∧ Off [q, mp] w8 w9) := Lib.hid (fun w9 hg => HH8.out.go hg)
          change Hid (Calls Tryz.prog 34 #[.pointer (some ⟨K.p, 0, none⟩), .int .i64 (x : Int)] w8 _) at HSh
          unfold ShadePost at HSh
          rw [HFr.out] at HSh
          have HWm : Hid ((Lit.int .i64 (max cx 1)).wf = true) := Lib.hid (by simp [Lit.wf, IntKind.min, IntKind.max, IntKind.bits, IntKind.signed]; omega)
          have HEnd : Hid (∀ wa wb, MAGo w8 wa A n 4 m (K.re v') (M.shade m.used x) → IMap Tryz.prog 3 wb mp (k + 1) (fun z => if z = (x : Int) then some (max cx 1) else C z) → wa.grownBy wb (some mp) → ∃ (v2 : Value) (M2 : Mk) (C2 : Int → Option Int), Hid (HMk w1 wb [q, mp] A n 25000000 m (.slice sa l sc) xs (K.re v2) M2) ∧ Hid (MemR w2.heap.size wb [⟨q, 28, [valloc A, vdev A.X.F, .slice sa l sc], true⟩]) ∧ Hid (IMap Tryz.prog 3 wb mp (k + 1) C2) ∧ Hid (Turned m.used xs M2 C2 (k + 1))) := Lib.hid (fun wa wb hg hi hgr => by
            obtain ⟨v2, h1, h2⟩ := HGo.out wa hg
            have ht : Touch [mp] wa wb := grown_touch hgr (by simp)
            exact ⟨v2, _, _, Lib.hid (h1.own (ht.wide (by simp))), Lib.hid ((HMr8.out.off h2 (by simp)).apart ht (by simp; exact fun e => HNe.out e.symm)), Lib.hid hi, HT1⟩)
          have hcd : (decide (cx = 0) = true ∧ (cx == 0) = true) ∨ (decide (cx = 0) = false ∧ (cx == 0) = false) := by
            by_cases c : cx = 0 <;> simp [c]
          obtain ⟨cb, hcb, hcb2⟩ : ∃ cb : Bool, decide (cx = 0) = cb ∧ (cx == 0) = cb := by
            rcases hcd with ⟨h1, h2⟩ | ⟨h1, h2⟩
            · exact ⟨true, h1, h2⟩
            · exact ⟨false, h1, h2⟩
          rw [hcb] at HSh
          clear hcd hcb HFr HT1
          refine wpTr_pu ?_
          repeat (first | go_big_quiet_step (fail) | quiet_step (fail))
          refine wpQuiet_nil ?_
          refine wpTr_br ?_ ?_
          · refine wpTr_sq (fun K hK => ?_)
            go_wp2_with fail
            refine HSh.out.mono ?_
            rintro e w9 ⟨rfl, hg9⟩
            have HGd := Lib.hid hg9
            obtain ⟨v2, _, ho9⟩ := HGo.out w9 hg9
            have HIm9 := Lib.hid (HIm8.out.block (ho9.block (by simp) HIm8.out.lt))
            clear hg9 ho9
            go_wp2_with fail
            refine hK _ _ (fun h => nomatch h) ?_
            clear hK K
            refine wpTr_last ?_
            go_wp2_with (first | (refine wpList_ilook rfl _ _ 84 rfl 3 Tryz.underlying3 Tryz.underlying84 (by kernel_rfl) mp k C rfl HIm9.out (x : Int) rfl HWx.out ?_; rw [← HCx.out]) | (refine wpList_istore rfl _ _ _ 84 rfl 3 Tryz.underlying3 Tryz.underlying84 mp k C rfl HIm9.out (by unfold maxLen; omega) (x : Int) (max cx 1) rfl HWx.out rfl HWm.out ?_; intro wb hib hgb; have HIb := Lib.hid hib; have HGb := Lib.hid hgb; clear hib hgb))
            all_goals go_meet
            all_goals exact HEnd.out _ _ HGd.out HIb.out HGb.out
          · refine wpTr_sq (fun K hK => ?_)
            go_wp2_with (refine wpList_ilook rfl _ _ 84 rfl 3 Tryz.underlying3 Tryz.underlying84 (by kernel_rfl) mp k C rfl HIm8.out (x : Int) rfl HWx.out ?_; rw [← HCx.out])
            go_wp2_with fail
            refine hK _ _ (fun h => nomatch h) ?_
            clear hK K
            refine wpTr_pu ?_
            repeat (first | go_big_quiet_step (fail) | quiet_step (fail))
            refine wpQuiet_nil ?_
            refine wpTr_last ?_
            go_wp2_with fail
            refine HSh.out.mono ?_
            rintro e w9 ⟨rfl, hg9⟩
            have HGd := Lib.hid hg9
            obtain ⟨v2, _, ho9⟩ := HGo.out w9 hg9
            have HIm9 := Lib.hid (HIm8.out.block (ho9.block (by simp) HIm8.out.lt))
            clear hg9 ho9
            cases cb <;> go_wp2_with (first | (refine wpList_ilook rfl _ _ 84 rfl 3 Tryz.underlying3 Tryz.underlying84 (by kernel_rfl) mp k C rfl HIm9.out (x : Int) rfl HWx.out ?_; rw [← HCx.out]) | (refine wpList_istore rfl _ _ _ 84 rfl 3 Tryz.underlying3 Tryz.underlying84 mp k C rfl HIm9.out (by unfold maxLen; omega) (x : Int) (max cx 1) rfl HWx.out rfl HWm.out ?_; intro wb hib hgb; have HIb := Lib.hid hib; have HGb := Lib.hid hgb; clear hib hgb))
            all_goals go_meet
            all_goals exact HEnd.out _ _ HGd.out HIb.out HGb.out
        · have h0' : (ok == 0) = false := by simpa using h0
          by_cases h1 : ok = 1
          · subst h1
            have HBl := Lib.hid (mblacken_any HH7.out.ma x)
            change Hid (Calls Tryz.prog 42 #[.pointer (some ⟨K.p, 0, none⟩), .int .i64 (x : Int)] w7 _) at HBl
            have HGo : Hid (∀ w9, MAGo w7 w9 A n 4 m (K.re v') (M.blacken x) → ∃ v2, HMk w1 w9 [q, mp] A n 25000000 m (.slice sa l sc) xs (K.re v2) (M.blacken x) ∧ Off [q, mp] w7 w9) := Lib.hid (fun w9 hg => HH7.out.go hg)
            go_wp2_with fail
            refine HBl.out.mono ?_
            rintro e w8 ⟨rfl, hg8⟩
            obtain ⟨v2, hh8, ho8⟩ := HGo.out w8 hg8
            have HH8 := Lib.hid hh8
            have HMr8 := Lib.hid (HMr7.out.off ho8 (by simp))
            have HIm8 := Lib.hid (HIm7.out.block (ho8.block (by simp) HIm7.out.lt))
            clear hg8 hh8 ho8
            go_wp2_with (refine wpList_istore rfl _ _ _ 84 rfl 3 Tryz.underlying3 Tryz.underlying84 mp k C rfl HIm8.out (by unfold maxLen; omega) (x : Int) (2) rfl HWx.out rfl (by kernel_rfl) ?_; intro w9 hi9 hg9; have HI9 := Lib.hid hi9; have HG9 := Lib.hid hg9; clear hi9 hg9)
            go_meet
            have ht : Touch [mp] w8 w9 := grown_touch HG9.out (by simp)
            exact ⟨v2, _, _, Lib.hid (HH8.out.own (ht.wide (by simp))), Lib.hid (HMr8.out.apart ht (by simp; exact fun e => HNe.out e.symm)), HI9, HT2⟩
          · have h1' : (ok == 1) = false := by simpa using h1
            by_cases h2 : ok = 2
            · subst h2
              have HBl := Lib.hid (mwhiten_any HH7.out.ma x)
              change Hid (Calls Tryz.prog 43 #[.pointer (some ⟨K.p, 0, none⟩), .int .i64 (x : Int)] w7 _) at HBl
              have HGo : Hid (∀ w9, MAGo w7 w9 A n 4 m (K.re v') (M.whiten x) → ∃ v2, HMk w1 w9 [q, mp] A n 25000000 m (.slice sa l sc) xs (K.re v2) (M.whiten x) ∧ Off [q, mp] w7 w9) := Lib.hid (fun w9 hg => HH7.out.go hg)
              go_wp2_with fail
              refine HBl.out.mono ?_
              rintro e w8 ⟨rfl, hg8⟩
              obtain ⟨v2, hh8, ho8⟩ := HGo.out w8 hg8
              have HH8 := Lib.hid hh8
              have HMr8 := Lib.hid (HMr7.out.off ho8 (by simp))
              have HIm8 := Lib.hid (HIm7.out.block (ho8.block (by simp) HIm7.out.lt))
              clear hg8 hh8 ho8
              go_wp2_with (refine wpList_istore rfl _ _ _ 84 rfl 3 Tryz.underlying3 Tryz.underlying84 mp k C rfl HIm8.out (by unfold maxLen; omega) (x : Int) (0) rfl HWx.out rfl (by kernel_rfl) ?_; intro w9 hi9 hg9; have HI9 := Lib.hid hi9; have HG9 := Lib.hid hg9; clear hi9 hg9)
              go_meet
              have ht : Touch [mp] w8 w9 := grown_touch HG9.out (by simp)
              exact ⟨v2, _, _, Lib.hid (HH8.out.own (ht.wide (by simp))), Lib.hid (HMr8.out.apart ht (by simp; exact fun e => HNe.out e.symm)), HI9, HT3⟩
            · have h2' : (ok == 2) = false := by simpa using h2
              go_wp2_with fail
              go_meet
              exact ⟨v', M, C, HH7, HMr7, Lib.hid (HIm7.out.mono (Nat.le_succ _)), Lib.hid HTu.out.mono⟩
      case rest =>
        clear HH7 HMr7 HIm7 e7 HTu HT1 HT2 HT3 HFr HCx HCol
        obtain ⟨v2, M2, C2, HH8, HMr8, HIm8, HTu8⟩ := hcut
        have hfu := HFu.out
        obtain ⟨hc1, hc2⟩ := marks_count HTu8.out.ok HH8.out.hp.ok.nd hfu
        have HC1 := Lib.hid hc1
        have HC2 := Lib.hid hc2
        have hg2 : greyN M2 xs ≤ 2048 := Nat.le_trans (greyN_le _ _) HH8.out.xlen
        have hm2 : markN M2 xs ≤ 2048 := Nat.le_trans (markN_le _ _) HH8.out.xlen
        clear hfu hc1 hc2
        obtain ⟨wd, hwd⟩ : ∃ wd, wd = wc := ⟨_, rfl⟩
        go_wp2_with fail
        go_loopw [11, 12, 13] (fun g h j wx => ∃ jj : Nat, jj ≤ l ∧ g = .int .i64 ((greyN M2 (xs.take jj) : Nat) : Int) ∧ h = .int .i64 ((markN M2 (xs.take jj) : Nat) : Int) ∧ j = .int .i64 (jj : Int) ∧ wc = wx) (fun _ _ j _ => l - (intOf j).toNat)
        case atStart => exact ⟨0, Nat.zero_le _, rfl, rfl, rfl, rfl⟩
        case round =>
          obtain ⟨jj, hjl, rfl, rfl, rfl, rfl⟩ := hrel
          have d2 := HMr8.out.cell 0 2 rfl rfl
          by_cases hjlt : jj < l
          · have hjlt' : (jj : Int) < (l : Int) := by omega
            have hcs8 : Cells wc sa (xs.map vi) := by
              obtain ⟨a', c', e', hc', _⟩ := HH8.out.hp.at_.own.cells
              injection e' with e1 _ _
              subst e1
              exact hc'
            obtain ⟨b3, o3, rfl, _, hcx3⟩ := hcs8.at (i := jj) (by rw [List.length_map, ← HL.out]; exact hjlt)
            obtain ⟨y, hy⟩ : ∃ y, xs[jj]? = some y := ⟨_, List.getElem?_eq_getElem (by rw [← HL.out]; exact hjlt)⟩
            have cy := hcx3 jj (vi y) (by rw [List.getElem?_map, hy]; rfl)
            have hyx : y ∈ xs := List.mem_of_getElem? hy
            have hy2 : y < 2048 := by have := (HH8.out.hp.ok.lt hyx).2; omega
            have HWy : Hid ((Lit.int .i64 (y : Int)).wf = true) := Lib.hid (by simp [Lit.wf, IntKind.min, IntKind.max, IntKind.bits, IntKind.signed]; omega)
            have HTk : Hid (xs.take (jj + 1) = xs.take jj ++ [y]) := Lib.hid (by
              have h1 : jj < xs.length := by rw [← HL.out]; exact hjlt
              rw [List.take_succ_eq_append_getElem h1]
              rw [List.getElem?_eq_getElem h1] at hy
              injection hy with hy
              rw [hy])
            have HGs : Hid (greyN M2 (xs.take (jj + 1)) = greyN M2 (xs.take jj) + if M2.colour y = 1 then 1 else 0) := Lib.hid (by rw [HTk.out, greyN_snoc])
            have HMs : Hid (markN M2 (xs.take (jj + 1)) = markN M2 (xs.take jj) + if M2.colour y = 0 then 0 else 1) := Lib.hid (by rw [HTk.out, markN_snoc])
            have hgb : greyN M2 (xs.take jj) ≤ 2048 := Nat.le_trans (greyN_le _ _) (by rw [List.length_take]; omega)
            have hmb : markN M2 (xs.take jj) ≤ 2048 := Nat.le_trans (markN_le _ _) (by rw [List.length_take]; omega)
            have HCy := Lib.hid (HTu8.out.col y hyx)
            have HCo := Lib.hid (mcolour_any HH8.out.mr y)
            change Hid (Calls Tryz.prog 37 #[.pointer (some ⟨K.p, 0, none⟩), .int .i64 (y : Int)] wc _) at HCo
            have hc3 := M2.colour_le y
            generalize greyN M2 (xs.take jj) = g0 at *
            generalize markN M2 (xs.take jj) = m0 at *
            generalize M2.colour y = cl at *
            clear hcs8 hcx3 hy hyx
            have hcl : cl = 0 ∨ cl = 1 ∨ cl = 2 := by omega
            rcases hcl with rfl | rfl | rfl
            all_goals (
              go_wp2_with (refine wpList_ilook rfl _ _ 84 rfl 3 Tryz.underlying3 Tryz.underlying84 (by kernel_rfl) mp (k + 1) C2 rfl HIm8.out (y : Int) rfl HWy.out ?_; rw [HCy.out])
              refine HCo.out.mono ?_
              rintro e w9 ⟨rfl, rfl⟩
              go_wp2_with fail
              refine ⟨⟨jj + 1, by omega, ?_, ?_, vint (by omega), trivial⟩, by simp [intOf]; omega⟩
              · have hg := HGs.out; simp only [Nat.reduceEqDiff, if_true, if_false, Nat.add_zero, reduceIte] at hg; exact vint (by omega)
              · have hg := HMs.out; simp only [Nat.reduceEqDiff, if_true, if_false, Nat.add_zero, reduceIte] at hg; exact vint (by omega))
          · obtain rfl : jj = l := by omega
            have hjf : decide ((jj : Int) < (jj : Int)) = false := by simp
            have hta : xs.take jj = xs := by rw [HL.out, List.take_length]
            rw [hta]
            have HGr := Lib.hid (mgreys_any HH8.out.mr)
            change Hid (Calls Tryz.prog 41 #[.pointer (some ⟨K.p, 0, none⟩)] wc _) at HGr
            rw [show (M2.ms.count true : Int) - (M2.sc.count true : Int) = (greyN M2 xs : Int) by have := HC2.out; omega] at HGr
            have HOn : Hid ((onesL M2.ms).length = markN M2 xs) := Lib.hid (by rw [onesL_length]; exact HC1.out)
            generalize greyN M2 xs = g0 at *
            generalize hmk : markN M2 xs = m0 at *
            clear hta hjlt
            go_wp2_with fail
            refine HGr.out.mono ?_
            rintro e w9 ⟨rfl, hb9⟩
            have HH9 := Lib.hid (HH8.out.later hb9)
            have HMr9 := Lib.hid (HMr8.out.later hb9)
            have HIm9 := Lib.hid (HIm8.out.block (hb9.block mp HIm8.out.lt))
            have HMk := Lib.hid (mmarked_any HH9.out.mr)
            change Hid (Calls Tryz.prog 44 #[.pointer (some ⟨K.p, 0, none⟩)] w9 _) at HMk
            rw [HC1.out] at HMk
            clear hb9
            go_wp2_with fail
            refine HMk.out.mono ?_
            rintro e w10 ⟨rfl, rfl⟩
            have HLi := Lib.hid (mlist_any HH9.out.mr)
            change Hid (Calls Tryz.prog 45 #[.pointer (some ⟨K.p, 0, none⟩)] w9 _) at HLi
            go_wp2_with fail
            refine HLi.out.mono ?_
            intro e w11 hp
            obtain ⟨al, cl, rfl, _, hb11, _⟩ := hp.own
            rw [HOn.out]
            have HH11 := Lib.hid (HH9.out.later hb11)
            have HMr11 := Lib.hid (HMr9.out.later hb11)
            have HIm11 := Lib.hid (HIm9.out.block (hb11.block mp HIm9.out.lt))
            clear hp hb11
            go_wp2_with fail
            refine ⟨⟨k + 1, v2, M2, C2, by omega, by omega, vint (by omega), HH11, HMr11, HIm11, HTu8⟩, ?_⟩
            simp [intOf]; omega
    · have HEnd := Lib.hid (HP.out wr (HB1.out.trans (HH.out.below.mono HB1.out.size)))
      have hor : (k : Int) = (tn : Int) ∨ ((k : Int) < (tn : Int) ∧ (k : Int) = 60) := by omega
      clear hlt
      rcases hor with h1 | ⟨h1, h2⟩
      · obtain rfl : k = tn := by omega
        have hlt' : decide ((k : Int) < (k : Int)) = false := by simp
        clear h1
        go_wp2_with fail
        exact HEnd.out
      · obtain rfl : k = 60 := by omega
        clear h2
        go_wp2_with fail
        exact HEnd.out

end Go.Proofs.YtfedgcdkagngnaaGreat

/- Slices of structs whose fields are all ints: what the reading of such an argument says. -/
namespace Go.Proofs.YtfedgcdkagngnaaGreat
open Go.RowKit Go.ChangeShapes Go.WideShapes Go.Deep
set_option linter.unusedVariables false

theorem wf_bounds {x : Int} (h : (Lit.int .i64 x).wf = true) : -9223372036854775808 ≤ x ∧ x ≤ 9223372036854775807 := by
  simp [Lit.wf, IntKind.min, IntKind.max, IntKind.bits, IntKind.signed] at h
  omega

/-- A list out of what each place holds. -/
theorem list_of {α : Type} (P : Nat → α → Prop) : ∀ n, (∀ i, i < n → ∃ x, P i x) → ∃ l : List α, l.length = n ∧ ∀ i x, l[i]? = some x → P i x
  | 0, _ => ⟨[], rfl, by simp⟩
  | n + 1, h => by
    obtain ⟨l, hl, hp⟩ := list_of P n (fun i hi => h i (by omega))
    obtain ⟨x, hx⟩ := h n (by omega)
    refine ⟨l ++ [x], by simp [hl], fun i y hy => ?_⟩
    by_cases hi : i < l.length
    · rw [List.getElem?_append_left hi] at hy; exact hp i y hy
    · rw [List.getElem?_append_right (by omega)] at hy
      have h0 : i - l.length = 0 := by
        have := (List.getElem?_eq_some_iff.1 hy).1; simp at this; omega
      rw [h0] at hy
      simp at hy
      subst hy
      rw [show i = n by omega]; exact hx

section
variable {H : Type} {enc : TypeId × Value → H} {P : Program} {w : World} {base : Nat} {spare : Nat → Bool} {held : Bool}

theorem ints_struct {e T : TypeId} {fs : Array Field} {n fuel : Nat} {us : List Value} {z : DataW H × List MemPlace} (he : P.underlying e = some (.struct fs)) (hT : P.underlying T = some (.int .i64)) (hc : P.cellsOf T = 1)
    (hF : ((List.range n).all fun j => match fs[j]? with | some f => f.type == T && f.offset == j | none => false) = true) (hlen : us.length = n) (hz : DataW.trod enc P w base spare held fuel e us = some z) :
    ∃ zs : List Int, zs.length = n ∧ us = zs.map (Value.int .i64) ∧ ∀ x ∈ zs, -9223372036854775808 ≤ x ∧ x ≤ 9223372036854775807 := by
  obtain ⟨ys, n', _, _, _, hyl, hf⟩ := DataW.trod_struct he hz
  have each : ∀ j, j < n → ∃ x : Int, us[j]? = some (.int .i64 x) ∧ (-9223372036854775808 ≤ x ∧ x ≤ 9223372036854775807) := by
    intro j hj
    have h1 := List.all_eq_true.1 hF j (List.mem_range.2 hj)
    cases hfj : fs[j]? with
    | none => rw [hfj] at h1; cases h1
    | some f =>
      rw [hfj] at h1
      simp only [Bool.and_eq_true, beq_iff_eq] at h1
      have h2 := hf j f hfj
      rw [h1.1, h1.2, hc] at h2
      have hjs : j < ys.length := by rw [hyl]; exact (Array.getElem?_eq_some_iff.1 hfj).1
      rw [List.getElem?_eq_getElem hjs] at h2
      have hju : j < us.length := by omega
      have h3 : (us.drop j).take 1 = [us[j]] := by rw [List.drop_eq_getElem_cons hju]; rfl
      rw [h3] at h2
      obtain ⟨x, hx, _, hw⟩ := DataW.trod_int hT h2
      have hx' : us[j] = .int .i64 x := by simpa using hx
      exact ⟨x, by rw [List.getElem?_eq_getElem hju, hx'], wf_bounds hw⟩
  obtain ⟨zs, hl, hp⟩ := list_of (fun j x => us[j]? = some (.int .i64 x) ∧ (-9223372036854775808 ≤ x ∧ x ≤ 9223372036854775807)) n each
  refine ⟨zs, hl, ?_, fun x hx => ?_⟩
  · apply List.ext_getElem?
    intro i
    by_cases hi : i < zs.length
    · rw [(hp i _ (List.getElem?_eq_getElem hi)).1, List.getElem?_map, List.getElem?_eq_getElem hi]; rfl
    · rw [List.getElem?_eq_none (by omega), List.getElem?_eq_none (by simp; omega)]
  · obtain ⟨i, hi, rfl⟩ := List.mem_iff_getElem.1 hx
    exact (hp i _ (List.getElem?_eq_getElem hi)).2

theorem recs_ints_read {α : Type} {f : α → List Value} {n : Nat} (hfl : ∀ x, (f x).length = n) (hn : 0 < n) (d : α) (mk : List Int → α) (hmk : ∀ zs : List Int, zs.length = n → f (mk zs) = zs.map (Value.int .i64))
    {t e T : TypeId} {fs : Array Field} {fuel : Nat} {v : Value} {y : DataW H × List MemPlace} (ht : P.underlying t = some (.slice e)) (he : P.underlying e = some (.struct fs)) (hT : P.underlying T = some (.int .i64)) (hC : P.cellsOf e = n) (hc : P.cellsOf T = 1)
    (hF : ((List.range n).all fun j => match fs[j]? with | some f => f.type == T && f.offset == j | none => false) = true) (h : DataW.trod enc P w base spare held fuel t [v] = some y) :
    ∃ (a : Option Addr) (len cap : Nat) (l : List α), v = .slice a len cap ∧ l.length = len ∧ Cells w a (recs f l) ∧ (∀ o ∈ l, ∃ zs : List Int, o = mk zs ∧ zs.length = n ∧ ∀ x ∈ zs, -9223372036854775808 ≤ x ∧ x ≤ 9223372036854775807) ∧ len ≤ maxLen := by
  obtain ⟨a, len, cap, m, rfl, hl, hm, hcs⟩ := elems_read ht hC hn h
  rcases hcs with rfl | ⟨b, off, rfl, hcs⟩
  · exact ⟨a, 0, cap, [], rfl, rfl, Cells.nil _ _, by simp, Nat.zero_le _⟩
  · have each : ∀ i, i < len → ∃ x : α, (∀ r u, (f x)[r]? = some u → w.cell? ⟨b, off + i * n + r, none⟩ = some u) ∧ ∃ zs : List Int, x = mk zs ∧ zs.length = n ∧ ∀ x ∈ zs, -9223372036854775808 ≤ x ∧ x ≤ 9223372036854775807 := by
      intro i hi
      obtain ⟨us, z, hlen, hat, hz⟩ := hcs i hi
      obtain ⟨zs, h1, h2, h3⟩ := ints_struct he hT hc hF hlen hz
      exact ⟨mk zs, fun r u hr => by rw [hmk zs h1, ← h2] at hr; exact hat r u hr, zs, rfl, h1, h3⟩
    obtain ⟨l, hll, hcl, hok⟩ := recs_of hfl hn d each
    exact ⟨_, len, cap, l, rfl, hll, hcl, hok, by omega⟩
end

end Go.Proofs.YtfedgcdkagngnaaGreat

/- What the reading of an array that came in by value says of its elements, each of one cell. -/
namespace Go.Proofs.YtfedgcdkagngnaaGreat
open Go.RowKit Go.ChangeShapes Go.WideShapes
set_option linter.unusedVariables false

section
variable {H : Type} {enc : TypeId × Value → H} {P : Program} {w : World} {base b0 : Nat} {r : Reach} {spare : Nat → Bool} {held : Bool}

end

end Go.Proofs.YtfedgcdkagngnaaGreat

/- Slices of arrays of ints: what the reading of such an argument says. -/
namespace Go.Proofs.YtfedgcdkagngnaaGreat
open Go.RowKit Go.ChangeShapes Go.WideShapes Go.Deep
set_option linter.unusedVariables false

section
variable {H : Type} {enc : TypeId × Value → H} {P : Program} {w : World} {base : Nat} {spare : Nat → Bool} {held : Bool}

theorem ints_array {e T : TypeId} {n fuel : Nat} {us : List Value} {z : DataW H × List MemPlace} (he : P.underlying e = some (.array n T)) (hT : P.underlying T = some (.int .i64)) (hc : P.cellsOf T = 1)
    (hlen : us.length = n) (hz : DataW.trod enc P w base spare held fuel e us = some z) :
    ∃ zs : List Int, zs.length = n ∧ us = zs.map (Value.int .i64) ∧ ∀ x ∈ zs, -9223372036854775808 ≤ x ∧ x ≤ 9223372036854775807 := by
  obtain ⟨ys, m, _, _, _, hyl, hf⟩ := DataW.trod_array he hz
  have each : ∀ j, j < n → ∃ x : Int, us[j]? = some (.int .i64 x) ∧ (-9223372036854775808 ≤ x ∧ x ≤ 9223372036854775807) := by
    intro j hj
    have h2 := hf j hj
    rw [hc, Nat.mul_one] at h2
    have hjs : j < ys.length := by omega
    have hju : j < us.length := by omega
    have h3 : (us.drop j).take 1 = [us[j]] := by rw [List.drop_eq_getElem_cons hju]; rfl
    rw [h3, List.getElem?_eq_getElem hjs] at h2
    obtain ⟨x, hx, _, hw⟩ := DataW.trod_int hT h2
    have hx' : us[j] = .int .i64 x := by simpa using hx
    exact ⟨x, by rw [List.getElem?_eq_getElem hju, hx'], wf_bounds hw⟩
  obtain ⟨zs, hl, hp⟩ := list_of (fun j x => us[j]? = some (.int .i64 x) ∧ (-9223372036854775808 ≤ x ∧ x ≤ 9223372036854775807)) n each
  refine ⟨zs, hl, ?_, fun x hx => ?_⟩
  · apply List.ext_getElem?
    intro i
    by_cases hi : i < zs.length
    · rw [(hp i _ (List.getElem?_eq_getElem hi)).1, List.getElem?_map, List.getElem?_eq_getElem hi]; rfl
    · rw [List.getElem?_eq_none (by omega), List.getElem?_eq_none (by simp; omega)]
  · obtain ⟨i, hi, rfl⟩ := List.mem_iff_getElem.1 hx
    exact (hp i _ (List.getElem?_eq_getElem hi)).2

theorem recs_arrs_read {α : Type} {f : α → List Value} {n : Nat} (hfl : ∀ x, (f x).length = n) (hn : 0 < n) (d : α) (mk : List Int → α) (hmk : ∀ zs : List Int, zs.length = n → f (mk zs) = zs.map (Value.int .i64))
    {t e T : TypeId} {fuel : Nat} {v : Value} {y : DataW H × List MemPlace} (ht : P.underlying t = some (.slice e)) (he : P.underlying e = some (.array n T)) (hT : P.underlying T = some (.int .i64)) (hC : P.cellsOf e = n) (hc : P.cellsOf T = 1)
    (h : DataW.trod enc P w base spare held fuel t [v] = some y) :
    ∃ (a : Option Addr) (len cap : Nat) (l : List α), v = .slice a len cap ∧ l.length = len ∧ Cells w a (recs f l) ∧ (∀ o ∈ l, ∃ zs : List Int, o = mk zs ∧ zs.length = n ∧ ∀ x ∈ zs, -9223372036854775808 ≤ x ∧ x ≤ 9223372036854775807) ∧ len ≤ maxLen := by
  obtain ⟨a, len, cap, m, rfl, hl, hm, hcs⟩ := elems_read ht hC hn h
  rcases hcs with rfl | ⟨b, off, rfl, hcs⟩
  · exact ⟨a, 0, cap, [], rfl, rfl, Cells.nil _ _, by simp, Nat.zero_le _⟩
  · have each : ∀ i, i < len → ∃ x : α, (∀ r u, (f x)[r]? = some u → w.cell? ⟨b, off + i * n + r, none⟩ = some u) ∧ ∃ zs : List Int, x = mk zs ∧ zs.length = n ∧ ∀ x ∈ zs, -9223372036854775808 ≤ x ∧ x ≤ 9223372036854775807 := by
      intro i hi
      obtain ⟨us, z, hlen, hat, hz⟩ := hcs i hi
      obtain ⟨zs, h1, h2, h3⟩ := ints_array he hT hc hlen hz
      exact ⟨mk zs, fun r u hr => by rw [hmk zs h1, ← h2] at hr; exact hat r u hr, zs, rfl, h1, h3⟩
    obtain ⟨l, hll, hcl, hok⟩ := recs_of hfl hn d each
    exact ⟨_, len, cap, l, rfl, hll, hcl, hok, by omega⟩
end
end Go.Proofs.YtfedgcdkagngnaaGreat
