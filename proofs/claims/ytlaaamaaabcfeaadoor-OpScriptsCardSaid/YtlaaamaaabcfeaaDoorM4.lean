/- Parts of the proof, one behind the other: Ju, Ri, Jr, Jv, Ld. -/
import Derived.Test.YtlaaamaaabcfeaaDoorM3
import Derived.Handed
import Derived.HandedShaped

/- op: OpScripts. -/
namespace Go.Proofs.YtlaaamaaabcfeaaDoor
open Go.RowKit
set_option linter.unusedVariables false
open Go.Lib (decDigits itoa nDigits)

/-- An op that can be compared. -/
def Op31.can (w : World) (o : Op31) : Prop := o.ns.length = o.n ∧ Cells w o.a (o.ns.map (Value.int .i64)) ∧ o.n ≤ maxLen
theorem Op31.ok.can {w : World} {o : Op31} (h : o.ok w) : o.can w := by
  obtain ⟨a, c, he, h1, h2⟩ := owned_form h.2
  injection he with e1 e2 e3
  subst e1; subst e3
  exact ⟨h.1, Cells.owned h.2, Nat.le_trans h1 h2⟩
theorem Op31.inn.can {w : World} {o : Op31} (h : o.inn w) : o.can w := ⟨h.1, h.2.1, h.2.2.2⟩
theorem Op31.can.below {w w' : World} {o : Op31} (h : o.can w) (hb : Below w.heap.size w w') : o.can w' := ⟨h.1, h.2.1.below hb (Nat.le_refl _), h.2.2⟩
theorem pl_at {L1 L2 : List Op31} (h : L1.map Op31.pl = L2.map Op31.pl) (j : Nat) : (L1.getD j op0).pl = (L2.getD j op0).pl := by
  have := congrArg (fun l : List (Int × List Int) => l.getD j op0.pl) h
  simpa [List.getD_eq_getElem?_getD, List.getElem?_map, Option.getD_map] using this
theorem len_of {L1 L2 : List Op31} (h : L1.map Op31.pl = L2.map Op31.pl) : L1.length = L2.length := by
  have := congrArg List.length h; simpa using this
theorem can_at {w : World} {L : List Op31} (h : ∀ o ∈ L, o.can w) {j : Nat} (hj : j < L.length) : (L.getD j op0).can w := h _ (by rw [List.getD_eq_getElem?_getD, List.getElem?_eq_getElem hj]; exact List.getElem_mem _)
theorem sum_le {y1 y2 y3 : Nat} (h1 : y2 ≤ y3) (h2 : y1 ≤ 20000) : y1 + (0 + 1) + y2 ≤ y3 + 20001 := by omega
theorem textIn_len : ∀ (L : List Op31), (∀ o ∈ L, ∀ x ∈ o.ns, In64 x) → (textIn L).length ≤ L.length * 20001 := by
  intro L
  induction L with
  | nil => intro _; simp [textIn, textL]
  | cons o L ih =>
    intro h
    have h1 := ih (fun x hx => h x (by simp [hx]))
    have e : textIn (o :: L) = if o.right then opLine o.pl ++ [10] ++ textIn L else textIn L := by
      unfold textIn textL
      cases hr : o.right <;> simp [List.filter_cons, hr]
    rw [e]
    cases hr : o.right with
    | false => rw [if_neg (by simp)]; exact Nat.le_trans h1 (Nat.mul_le_mul_right _ (by simp))
    | true =>
      have h2 := lineOf_len (k := o.k) (h o (by simp)) (by have := (right_range (show rightOp o.k o.ns.length = true from hr)).2.2; omega)
      rw [line_right hr] at h2
      rw [if_pos rfl, List.length_append, List.length_append, List.length_cons, List.length_cons, List.length_nil]
      have e2 : (L.length + 1) * 20001 = L.length * 20001 + 20001 := by rw [Nat.add_mul]
      rw [e2]
      exact sum_le h1 h2
theorem textIn_script {L : List Op31} (h : ∀ o ∈ L, ∀ x ∈ o.ns, In64 x) : scriptL (textIn L) = .inl ((L.filter Op31.right).map Op31.pl) := by
  unfold scriptL textIn
  refine script_text _ 0 (fun o ho => ?_)
  obtain ⟨x, hx, rfl⟩ := List.mem_map.1 ho
  obtain ⟨h1, h2⟩ := List.mem_filter.1 hx
  exact ⟨h2, h x h1⟩
theorem scriptGo_len : ∀ (ls : List (List UInt8)) (i : Nat) (ops : List (Int × List Int)), scriptGo i ls = .inl ops → ops.length ≤ ls.length := by
  intro ls
  induction ls with
  | nil => intro i ops h; simp [scriptGo] at h; subst h; simp
  | cons x ls ih =>
    intro i ops h
    rw [scriptGo] at h
    split at h
    · exact Nat.le_succ_of_le (ih _ _ h)
    · split at h
      · cases h
      · split at h
        · rename_i r hr
          injection h with h
          rw [← h, List.length_cons, List.length_cons]
          exact Nat.succ_le_succ (ih _ _ hr)
        · cases h
theorem scriptL_len {l : List UInt8} {ops : List (Int × List Int)} (h : scriptL l = .inl ops) : ops.length ≤ l.length + 1 := Nat.le_trans (scriptGo_len _ _ _ h) (cut_count 10 l [])
theorem Op31.inn.below {w w' : World} {o : Op31} (h : o.inn w) (hb : Below w.heap.size w w') : o.inn w' := ⟨h.1, h.2.1.below hb (Nat.le_refl _), h.2.2⟩
theorem filter_snoc (L : List Op31) (o : Op31) : (L ++ [o]).filter Op31.right = if o.right then L.filter Op31.right ++ [o] else L.filter Op31.right := by
  rw [List.filter_append]
  cases h : o.right <;> simp [List.filter_cons, h]
theorem take_snoc {L : List Op31} {j : Nat} (hj : j < L.length) : L.take (j + 1) = L.take j ++ [L.getD j op0] := by
  rw [List.take_succ_eq_append_getElem hj, List.getD_eq_getElem?_getD, List.getElem?_eq_getElem hj]; rfl

set_option maxHeartbeats 16000000 in
set_option maxRecDepth 100000 in
theorem opScripts_any (s : List UInt8) (al : Option Addr) (N cl : Nat) (L : List Op31) (hN : L.length = N) (m : Int) (w : World) (hc : Cells w al (recs Op31.cs L)) (hin : ∀ o ∈ L, o.inn w) (hNm : N ≤ maxLen) (hm : w.cell? ⟨0, 0, none⟩ = some (.int .i64 m)) :
    Calls Tryd.prog 5 #[strV s, .slice al N cl] w (Gives (.bool true) w) := by
  have HP : Hid (∀ (w' : World), Below w.heap.size w w' → Gives (.bool true) w (.returned (.bool true)) w') := Lib.hid (fun w' hb => ⟨rfl, hb⟩)
  generalize Gives (.bool true) w = Post at *
  have hw0 : 0 < w.heap.size := Nat.lt_of_le_of_lt (Nat.zero_le _) (World.block_lt_of_cell? _ _ hm)
  have HX : Hid (∀ w', Below w.heap.size w w' → w'.cell? ⟨0, 0, none⟩ = some (.int .i64 m)) := Lib.hid (fun w' hb => by rw [hb.cell (p := ⟨0, 0, none⟩) hw0]; exact hm)
  have HAw := Lib.hid (awake_any m w hm)
  have HC := Lib.hid hc
  have HN := Lib.hid hN
  have HIn := Lib.hid hin
  unfold maxLen at hNm
  obtain ⟨n, hn⟩ : ∃ n, n = s.length := ⟨_, rfl⟩
  have hsz : (bstr s).size = n := by rw [bstr_size, hn]
  have HNs := Lib.hid hn
  clear hc hN hin hm hw0 hn
  go_enter Tryd.func5, Tryd.ntmps5
  go_wp2_with fail
  refine HAw.out.mono ?_
  rintro e w1 ⟨rfl, hb1⟩
  have HB1 := Lib.hid hb1
  clear hb1
  by_cases hlong : 3000 < n ∨ 30 < N
  · have hcase : 3000 < n ∨ (n ≤ 3000 ∧ 30 < N) := by omega
    clear hlong
    rcases hcase with h1 | ⟨h1, h2⟩
    · have h1' : (3000 : Int) < (n : Int) := by omega
      go_wp2_with fail
      exact HP.out _ HB1.out
    · have h1' : decide ((3000 : Int) < (n : Int)) = false := by simp; omega
      have h2' : (30 : Int) < (N : Int) := by omega
      go_wp2_with fail
      exact HP.out _ HB1.out
  · have h1' : decide ((3000 : Int) < (n : Int)) = false := by simp; omega
    have h2' : decide ((30 : Int) < (N : Int)) = false := by simp; omega
    have hn3 : n ≤ 3000 := by omega
    have hN3 : N ≤ 30 := by omega
    clear hlong
    go_wp2_with fail
    refine (script_any s m _ (HX.out _ HB1.out) (by rw [← HNs.out]; omega)).mono ?_
    rintro e w2 ⟨L1, a1, c1, ln, cd, rfl, hc1, hok1, hb2, hs1⟩
    have HB2 : Hid (Below w.heap.size w w2) := Lib.hid (HB1.out.trans (hb2.mono HB1.out.size))
    have HC1 := Lib.hid hc1
    have HK1 := Lib.hid (fun o ho => (hok1 o ho).can)
    have HS1 := Lib.hid hs1
    clear hc1 hok1 hb2 hs1
    go_wp2_with fail
    refine (rscript_any s _ (by rw [← HNs.out]; omega)).mono ?_
    rintro e w3 ⟨L2, a2, c2, ln2, cd2, rfl, hc2, hok2, hb3, hs2⟩
    have HB3 : Hid (Below w.heap.size w w3) := Lib.hid (HB2.out.trans (hb3.mono HB2.out.size))
    have HC13 := Lib.hid (HC1.out.below hb3 (Nat.le_refl _))
    have HK13 := Lib.hid (fun o ho => (HK1.out o ho).below hb3)
    have HC2 := Lib.hid hc2
    have HK2 := Lib.hid (fun o ho => (hok2 o ho).can)
    have HPl : Hid (L1.map Op31.pl = L2.map Op31.pl) := Lib.hid (by
      rcases HS1.out with ⟨e1, _⟩ | ⟨i, _, e1, rfl, _⟩ <;> rcases hs2 with ⟨e2, _⟩ | ⟨i2, _, e2, rfl, _⟩
      · rw [e1] at e2; exact Sum.inl.inj e2
      · rw [e1] at e2; cases e2
      · rw [e1] at e2; cases e2
      · rfl)
    have hcd : (ln = 0 ∧ cd = 0 ∧ ln2 = 0) ∨ ∃ i : Int, 0 < i ∧ ln = i ∧ cd = 30 ∧ ln2 = i := by
      rcases HS1.out with ⟨e1, h1, h2⟩ | ⟨i, h0, e1, _, h1, h2⟩ <;> rcases hs2 with ⟨e2, h3, _⟩ | ⟨i2, _, e2, _, h3, _⟩
      · exact .inl ⟨h1, h2, h3⟩
      · rw [e1] at e2; cases e2
      · rw [e1] at e2; cases e2
      · rw [e1] at e2
        have : i = i2 := Sum.inr.inj e2
        subst this
        exact .inr ⟨i, by omega, h1, h2, h3⟩
    obtain ⟨q, hq⟩ : ∃ q, L1.length = q := ⟨_, rfl⟩
    have HQ1 := Lib.hid hq
    have HQ2 : Hid (L2.length = q) := Lib.hid (by rw [← len_of HPl.out, hq])
    rw [hq, HQ2.out]
    have hq9 : q ≤ 3001 := by
      rw [← hq]
      rcases HS1.out with ⟨e1, _⟩ | ⟨i, _, e1, rfl, _⟩
      · have := scriptL_len e1
        rw [List.length_map] at this
        rw [← HNs.out] at this
        omega
      · simp
    clear hc2 hok2 hb3 hs2 hq
    go_upto_region 7 with fail
    go_cut [63] from 18 (fun v wc => v = .bool false ∧ wc = w3)
    case first =>
      rcases hcd with ⟨rfl, rfl, rfl⟩ | ⟨i, hi, rfl, rfl, rfl⟩
      · go_wp2_with fail
        go_meet
        case rel => exact ⟨rfl, rfl⟩
      · have q1 : (ln2 == 0) = false := by simp; omega
        go_wp2_with fail
        go_meet
        case rel => exact ⟨rfl, rfl⟩
    case rest =>
      obtain ⟨rfl, rfl⟩ := hcut
      clear hcd
      go_wp2_with fail
      go_loopw [4, 10] (fun _ iv wr => ∃ j : Nat, j ≤ q ∧ iv = .int .i64 (j : Int) ∧ Hid (Below wc.heap.size wc wr)) (fun _ iv _ => q - (RowKit.intOf iv).toNat)
      case atStart => exact ⟨0, Nat.zero_le _, rfl, Lib.hid (Below.refl _ _)⟩
      case round =>
        obtain ⟨j, hj, rfl, HBr⟩ := hrel
        by_cases hlt : j < q
        · have hlt' : (j : Int) < (q : Int) := by omega
          have hj1 : j < L1.length := by rw [HQ1.out]; exact hlt
          have hj2 : j < L2.length := by rw [HQ2.out]; exact hlt
          obtain ⟨b1, o1, rfl, _, hcell1⟩ := recs_cells Op31.len (by decide) op0 (HC13.out.below HBr.out (Nat.le_refl _)) hj1
          obtain ⟨b2, o2, rfl, _, hcell2⟩ := recs_cells Op31.len (by decide) op0 (HC2.out.below HBr.out (Nat.le_refl _)) hj2
          have HCa := Lib.hid ((can_at HK13.out hj1).below HBr.out)
          have HCb := Lib.hid ((can_at HK2.out hj2).below HBr.out)
          have hpl := pl_at HPl.out j
          generalize L1.getD j op0 = p1 at *
          generalize L2.getD j op0 = p2 at *
          obtain ⟨k, aa, na, ca, ns⟩ := p1
          obtain ⟨kb, ab, nb, cb, nsb⟩ := p2
          obtain ⟨rfl, rfl⟩ : k = kb ∧ ns = nsb := Prod.mk.inj hpl
          obtain rfl : na = nb := HCa.out.1.symm.trans HCb.out.1
          have e0 : wr.cell? ⟨b1, o1 + j * 2, none⟩ = some (.int .i64 k) := hcell1 0 _ rfl
          have e1 : wr.cell? ⟨b1, o1 + j * 2 + 1, none⟩ = some (.slice aa na ca) := hcell1 1 _ rfl
          have f0 : wr.cell? ⟨b2, o2 + j * 2, none⟩ = some (.int .i64 k) := hcell2 0 _ rfl
          have f1 : wr.cell? ⟨b2, o2 + j * 2 + 1, none⟩ = some (.slice ab na cb) := hcell2 1 _ rfl
          clear hcell1 hcell2 hj1 hj2 hpl
          go_upto_region 12 with fail
          have r0 := fun x => later_cell e0 x
          have r1 := fun x => later_cell e1 x
          have s0 := fun x => later_cell f0 x
          have s1 := fun x => later_cell f1 x
          refine wp_region_seg (C := fun w' => ∃ x : Later (wr), w' = x.val) [.fl [0, 1, 2, 3, 5, 6, 7, 8], .sq [4] true, .sq [9, 10] false] (by kernel_rfl) (by kernel_rfl) (by intro c a d v w h; cases d <;> exact h) ?_
          simp only [segs, picks, List.getElem?_cons_succ, List.getElem?_cons_zero]
          have hC1 := later_drew (wr)
          refine wpSeg_fl hC1 ?_
          repeat (first | go_big_quiet_step (fail) | quiet_step (fail))
          refine wpQuiet_nil ?_
          refine wpSeg_sq (fun K hK => ?_)
          go_wp2_with fail
          refine (ref_any k aa na ca _).mono ?_
          rintro e w4 ⟨rfl, hb4⟩
          have hC2 := later_step hC1 hb4
          go_wp2_with fail
          refine hK _ _ (fun _ => hC2) ?_
          clear hK K
          refine wpSeg_last ?_
          go_wp2_with fail
          refine (same_any k aa ab na ca cb ns HCa.out.1 _ (Cells.below HCa.out.2.1 (later_below hC2) (Nat.le_refl _)) (Cells.below HCb.out.2.1 (later_below hC2) (Nat.le_refl _)) HCa.out.2.2).mono ?_
          rintro e w5 ⟨rfl, hb5⟩
          have hC3 := later_step hC2 hb5
          have HB5 : Hid (Below wc.heap.size wc w5) := Lib.hid (HBr.out.trans ((later_below hC3).mono HBr.out.size))
          go_wp2_with fail
          go_roundw
          case rel => exact ⟨j + 1, by omega, vint (by omega), HB5⟩
          case measure => simp [RowKit.intOf]; omega
        · obtain rfl : j = q := by omega
          have hlt' : decide ((j : Int) < (j : Int)) = false := by simp
          have HBw : Hid (Below w.heap.size w wr) := Lib.hid (HB3.out.trans (HBr.out.mono HB3.out.size))
          clear hlt
          obtain ⟨B, hB⟩ : ∃ B, B = wr.heap.size := ⟨_, rfl⟩
          have HBB := Lib.hid hB
          clear hB HBr HC13 HK13 HC2 HK2 HPl HQ1 HQ2 HS1 HC1 HK1
          go_upto_region 16 with fail
          have HWB : Hid (∀ W, Below B wr W → Below w.heap.size w W) := Lib.hid (fun W h => HBw.out.trans (h.mono (by rw [HBB.out]; exact HBw.out.size)))
          go_wp2_with fail
          go_loopw [4, 11, 12, 13] (fun _ v tv iv w4 => ∃ (i : Nat) (t : List UInt8), i ≤ N ∧ iv = .int .i64 (i : Int) ∧ tv = .string (bstr t) ∧ Hid (t = textIn (L.take i)) ∧ Hid (w4.ownsRow B 25 2 v ((L.take i).filter Op31.right).length (recs Op31.cs ((L.take i).filter Op31.right))) ∧ Hid (Below B wr w4)) (fun _ _ _ i _ => N - (RowKit.intOf i).toNat)
          case atStart => exact ⟨0, [], Nat.zero_le _, rfl, rfl, Lib.hid rfl, Lib.hid ⟨rfl, .inl ⟨rfl, rfl⟩⟩, Lib.hid (Below.refl _ _)⟩
          case round =>
            obtain ⟨i, t, hi, rfl, rfl, HT, HO, HB4⟩ := hrel
            obtain ⟨a9, c9, rfl, hcl, hcm⟩ := owned_form HO.out
            have HBw4 := Lib.hid (HWB.out _ HB4.out)
            by_cases hlt : i < N
            · have hlt' : (i : Int) < (N : Int) := by omega
              have hil : i < L.length := by rw [HN.out]; exact hlt
              obtain ⟨b, off, rfl, _, hcell⟩ := recs_cells Op31.len (by decide) op0 HC.out hil
              have hmem : L.getD i op0 ∈ L := by rw [List.getD_eq_getElem?_getD, List.getElem?_eq_getElem hil]; exact List.getElem_mem _
              have HOi := Lib.hid (HIn.out _ hmem)
              have HTk := Lib.hid (take_snoc hil)
              have htl : (bstr t).size ≤ 700000 := by
                rw [bstr_size, HT.out]
                have h1 := textIn_len (L.take i) (fun o ho => (HIn.out o (List.mem_of_mem_take ho)).2.2.1)
                have h2 := List.length_take_le i L
                exact Nat.le_trans h1 (Nat.le_trans (Nat.mul_le_mul_right 20001 (show (L.take i).length ≤ 30 by omega)) (by decide))
              have hul : ((L.take i).filter Op31.right).length ≤ 30 := by
                have h1 := List.length_filter_le Op31.right (L.take i)
                have h2 := List.length_take_le i L
                omega
              generalize L.getD i op0 = o at *
              have HFi : Hid ((L.take (i + 1)).filter Op31.right = if o.right then (L.take i).filter Op31.right ++ [o] else (L.take i).filter Op31.right) := Lib.hid (by rw [HTk.out, filter_snoc])
              have HTi : Hid (textIn (L.take (i + 1)) = if o.right then t ++ (opLine o.pl ++ [10]) else t) := Lib.hid (by rw [HTk.out, textIn_snoc, HT.out])
              obtain ⟨k, aa, na, ca, ns⟩ := o
              have er : (⟨k, aa, na, ca, ns⟩ : Op31).right = rightOp k na := by unfold Op31.right; rw [HOi.out.1]
              have c0 : w.cell? ⟨b, off + i * 2, none⟩ = some (.int .i64 k) := hcell 0 _ rfl
              have c1 : w.cell? ⟨b, off + i * 2 + 1, none⟩ = some (.slice aa na ca) := hcell 1 _ rfl
              have HE : Hid (∀ W, Below w.heap.size w W → W.cell? ⟨b, off + i * 2, none⟩ = some (.int .i64 k) ∧ W.cell? ⟨b, off + i * 2 + 1, none⟩ = some (.slice aa na ca)) := Lib.hid (fun W hb =>
                ⟨(hb.cell (p := ⟨b, off + i * 2, none⟩) (World.block_lt_of_cell? _ _ c0)).trans c0, (hb.cell (p := ⟨b, off + i * 2 + 1, none⟩) (World.block_lt_of_cell? _ _ c1)).trans c1⟩)
              have HNm : Hid (na ≤ maxLen) := Lib.hid HOi.out.2.2.2
              obtain ⟨e0, e1⟩ := HE.out _ HBw4.out
              rw [er] at HFi HTi
              clear hcell hmem hil c0 c1 er HTk
              generalize (L.take i).filter Op31.right = M at *
              by_cases h7 : 700 < na
              · have h7' : (700 : Int) < (na : Int) := by omega
                go_wp2_with fail
                exact HP.out _ HBw4.out
              · have h7' : decide ((700 : Int) < (na : Int)) = false := by simp; omega
                clear h7
                go_wp2_with fail
                refine (ref_any k aa na ca _).mono ?_
                rintro e w5 ⟨rfl, hb5⟩
                go_wp2_with fail
                refine (rright_any k aa na ca _ HNm.out).mono ?_
                rintro e w6 ⟨rfl, hb6⟩
                have HO6 := Lib.hid (owned_below (owned_below HO.out hb5 (Nat.le_refl _)) hb6 (Nat.le_refl _))
                have hBs : B ≤ wr.heap.size := by rw [HBB.out]; exact HB4.out.size
                have HB6 := Lib.hid ((HB4.out.trans (hb5.mono hBs)).trans (hb6.mono (Nat.le_trans hBs hb5.size)))
                have hbase : Hid (B ≤ w6.heap.size) := Lib.hid (Nat.le_trans hBs (Nat.le_trans hb5.size hb6.size))
                have HBw6 := Lib.hid (HWB.out _ HB6.out)
                obtain ⟨e0, e1⟩ := HE.out _ HBw6.out
                clear hb5 hb6 hBs
                cases hr : rightOp k na with
                | false =>
                  rw [hr] at HFi HTi
                  have HTm : Hid (t = textIn (L.take (i + 1))) := Lib.hid HTi.out.symm
                  have HFm : Hid ((L.take (i + 1)).filter Op31.right = M) := Lib.hid HFi.out
                  clear hr
                  go_wp2_with fail
                  go_roundw
                  case rel => exact ⟨i + 1, t, by omega, vint (by omega), rfl, HTm, Lib.hid (by rw [HFm.out]; exact HO6.out), HB6⟩
                  case measure => simp [RowKit.intOf]; omega
                | true =>
                  rw [hr] at HFi HTi
                  have hnl : ns.length = na := HOi.out.1
                  have HLi : Hid (lineOf k ns = opLine (⟨k, aa, na, ca, ns⟩ : Op31).pl) := Lib.hid (line_right (o := ⟨k, aa, na, ca, ns⟩) (by unfold Op31.right; rw [hnl]; exact hr))
                  have HLl : Hid ((lineOf k ns).length ≤ 20000) := Lib.hid (lineOf_len HOi.out.2.2.1 (by rw [hnl]; have := (right_range hr).2.2; omega))
                  have HTm : Hid (t ++ (lineOf k ns ++ [10]) = textIn (L.take (i + 1))) := Lib.hid (by rw [HLi.out]; exact HTi.out.symm)
                  have HFm : Hid ((L.take (i + 1)).filter Op31.right = M ++ [⟨k, aa, na, ca, ns⟩]) := Lib.hid HFi.out
                  have hone : Hid (∀ u ∈ (#[Value.int .i64 k, Value.slice aa na ca] : Array Value).toList, u.oneCell' = true) := Lib.hid (by intro u hu; simp at hu; rcases hu with rfl | rfl <;> rfl)
                  have hM9 : M.length < 1000000000000 := by omega
                  clear hr hnl HLi
                  go_wp2_with (at_builtin; refine wpList_append_new (us := #[.int .i64 k, .slice aa na ca]) elOps HO6.out rfl hone.out hM9 (by decide) hbase.out rfl rfl rfl (by simp [Act.eval]) ?_; intro g7 c7 w7 ho7 hg7 hc7 hm7 hb7 hl7; have HO7 := Lib.hid ho7; have HB7 : Hid (Below B _ w7) := Lib.hid (below_grownBy HB6.out HO6.out hg7 (by rw [HBB.out]; exact Nat.le_refl _) (Nat.le_refl _)); have HBw7 := Lib.hid (HWB.out _ HB7.out); obtain ⟨f0, f1⟩ := HE.out _ HBw7.out; clear ho7 hg7 hb7)
                  refine (ref_any k aa na ca _).mono ?_
                  rintro e w8 ⟨rfl, hb8⟩
                  have HBs7 : Hid (B ≤ w7.heap.size) := Lib.hid (by rw [HBB.out]; exact HB7.out.size)
                  have HB8 := Lib.hid (HB7.out.trans (hb8.mono HBs7.out))
                  have HO8 := Lib.hid (owned_below HO7.out hb8 (Nat.le_refl _))
                  have HBs8 : Hid (B ≤ w8.heap.size) := Lib.hid (Nat.le_trans HBs7.out hb8.size)
                  clear hb8
                  go_wp2_with fail
                  refine (rline_any k aa na ca ns HOi.out.1 HOi.out.2.2.1 _ (Cells.below HOi.out.2.1 (HWB.out _ HB8.out) (Nat.le_refl _)) HNm.out).mono ?_
                  rintro e w9 ⟨rfl, hb9⟩
                  have HB9 := Lib.hid (HB8.out.trans (hb9.mono HBs8.out))
                  have HO9 := Lib.hid (owned_below HO8.out hb9 (Nat.le_refl _))
                  clear hb9
                  generalize lineOf k ns = q1 at *
                  have hs1 : (bstr q1).size ≤ 20000 := by rw [bstr_size]; exact HLl.out
                  have hs2 : (bstr (t ++ q1)).size ≤ 720000 := by rw [bstr_size, List.length_append]; rw [bstr_size] at htl hs1; omega
                  have ha1 : bstr t ++ bstr q1 = bstr (t ++ q1) := bstr_append t q1
                  have ha2 : bstr (t ++ q1) ++ ({ data := #[10] } : ByteArray) = bstr (t ++ (q1 ++ [10])) := by rw [show ({ data := #[10] } : ByteArray) = bstr [10] from rfl, bstr_append, List.append_assoc]
                  go_wp2_with fail
                  go_roundw
                  case rel => exact ⟨i + 1, t ++ (q1 ++ [10]), by omega, vint (by omega), rfl, HTm, Lib.hid (by rw [HFm.out, recs_append, List.length_append]; exact HO9.out), HB9⟩
                  case measure => simp [RowKit.intOf]; omega
            · obtain rfl : i = N := by omega
              have hlt' : decide ((i : Int) < (i : Int)) = false := by simp
              have hte : L.take i = L := List.take_of_length_le (by rw [HN.out]; exact Nat.le_refl _)
              rw [hte] at HT HO hcl ⊢
              have HTl : Hid ((textIn L).length ≤ 1000000) := Lib.hid (by
                have h1 := textIn_len L (fun o ho => (HIn.out o ho).2.2.1)
                exact Nat.le_trans h1 (Nat.le_trans (Nat.mul_le_mul_right 20001 (show L.length ≤ 30 by rw [HN.out]; exact hN3)) (by decide)))
              have HSt : Hid (scriptL (textIn L) = .inl ((L.filter Op31.right).map Op31.pl)) := Lib.hid (textIn_script (fun o ho => (HIn.out o ho).2.2.1))
              have HKm : Hid (∀ o ∈ L.filter Op31.right, o.can w) := Lib.hid (fun o ho => (HIn.out o (List.mem_filter.1 ho).1).can)
              have HTA : Hid (∀ w', Below w.heap.size w w' → Calls Tryd.prog 24 #[.slice al i cl] w' (Gives (strV (textIn L)) w')) := Lib.hid (fun w' hb => text_any al i cl L HN.out w' (HC.out.below hb (Nat.le_refl _)) (fun o ho => (HIn.out o ho).below hb) hN3)
              rw [← HT.out] at HTl HSt HTA
              have HSA : Hid (∀ w', Below w.heap.size w w' → Calls Tryd.prog 22 #[strV t] w' (ScriptPost (fun v ln cd => .tuple #[v, .int .i64 ln, .int .i64 cd]) t w')) := Lib.hid (fun w' hb => script_any t m w' (HX.out w' hb) HTl.out)
              have hu9 : (L.filter Op31.right).length ≤ 3001 := by
                have h3 := List.length_filter_le Op31.right L
                rw [HN.out] at h3
                omega
              generalize L.filter Op31.right = M at *
              obtain ⟨u, hu⟩ : ∃ u, M.length = u := ⟨_, rfl⟩
              have HU := Lib.hid hu
              rw [hu] at HO hcl hu9 ⊢
              clear hte hlt hu
              go_wp2_with fail
              refine (HTA.out _ HBw4.out).mono ?_
              rintro e w5 ⟨rfl, hb5⟩
              have HBw5 : Hid (Below w.heap.size w w5) := Lib.hid (HBw4.out.trans (hb5.mono HBw4.out.size))
              have HO5 := Lib.hid (owned_below HO.out hb5 (Nat.le_refl _))
              clear hb5
              go_wp2_with fail
              refine (HSA.out _ HBw5.out).mono ?_
              rintro e w6 ⟨L3, a3, c3, ln, cd, rfl, hc3, hok3, hb6, hs3⟩
              have HPl : Hid (L3.map Op31.pl = M.map Op31.pl) := Lib.hid (by
                rcases hs3 with ⟨e1, _⟩ | ⟨_, _, e1, _⟩
                · rw [HSt.out] at e1; exact (Sum.inl.inj e1).symm
                · rw [HSt.out] at e1; cases e1)
              obtain ⟨rfl, rfl⟩ : ln = 0 ∧ cd = 0 := by
                rcases hs3 with ⟨_, e2, e3⟩ | ⟨_, _, e1, _⟩
                · exact ⟨e2, e3⟩
                · rw [HSt.out] at e1; cases e1
              have HL3 : Hid (L3.length = u) := Lib.hid (by rw [len_of HPl.out]; exact HU.out)
              rw [HL3.out]
              have HBw6 : Hid (Below w.heap.size w w6) := Lib.hid (HBw5.out.trans (hb6.mono HBw5.out.size))
              have HO6 := Lib.hid (owned_below HO5.out hb6 (Nat.le_refl _))
              have HC3 := Lib.hid hc3
              have HK3 := Lib.hid (fun o ho => (hok3 o ho).can)
              have hne : ((bstr t).toList != (bstr t).toList) = false := by simp
              have huu : (u != u) = false := by simp
              clear hb6 hc3 hok3 hs3
              go_wp2_with fail
              refine (HTA.out _ HBw6.out).mono ?_
              rintro e w7 ⟨rfl, hb7⟩
              have HBw7 : Hid (Below w.heap.size w w7) := Lib.hid (HBw6.out.trans (hb7.mono HBw6.out.size))
              have HCm := Lib.hid (Cells.ownedN (owned_below HO6.out hb7 (Nat.le_refl _)))
              have HC7 := Lib.hid (HC3.out.below hb7 (Nat.le_refl _))
              have HK7 := Lib.hid (fun o ho => (HK3.out o ho).below hb7)
              have HKm7 := Lib.hid (fun o ho => (HKm.out o ho).below HBw7.out)
              clear hb7
              go_wp2_with fail
              go_loopw [4, 17] (fun _ iv wr => ∃ j : Nat, j ≤ u ∧ iv = .int .i64 (j : Int) ∧ Hid (Below w7.heap.size w7 wr)) (fun _ iv _ => u - (RowKit.intOf iv).toNat)
              case atStart => exact ⟨0, Nat.zero_le _, rfl, Lib.hid (Below.refl _ _)⟩
              case round =>
                obtain ⟨j, hj, rfl, HBr⟩ := hrel
                by_cases hlt : j < u
                · have hlt' : (j : Int) < (u : Int) := by omega
                  have hj1 : j < L3.length := by rw [HL3.out]; exact hlt
                  have hj2 : j < M.length := by rw [HU.out]; exact hlt
                  obtain ⟨b1, o1, rfl, _, hcell1⟩ := recs_cells Op31.len (by decide) op0 (HC7.out.below HBr.out (Nat.le_refl _)) hj1
                  obtain ⟨b2, o2, rfl, _, hcell2⟩ := recs_cells Op31.len (by decide) op0 (HCm.out.below HBr.out (Nat.le_refl _)) hj2
                  have HCa := Lib.hid ((can_at HK7.out hj1).below HBr.out)
                  have HCb := Lib.hid ((can_at HKm7.out hj2).below HBr.out)
                  have hpl := pl_at HPl.out j
                  generalize L3.getD j op0 = p1 at *
                  generalize M.getD j op0 = p2 at *
                  obtain ⟨k, aa, na, ca, ns⟩ := p1
                  obtain ⟨kb, ab, nb, cb, nsb⟩ := p2
                  obtain ⟨rfl, rfl⟩ : k = kb ∧ ns = nsb := Prod.mk.inj hpl
                  obtain rfl : na = nb := HCa.out.1.symm.trans HCb.out.1
                  have e0 : wr.cell? ⟨b1, o1 + j * 2, none⟩ = some (.int .i64 k) := hcell1 0 _ rfl
                  have e1 : wr.cell? ⟨b1, o1 + j * 2 + 1, none⟩ = some (.slice aa na ca) := hcell1 1 _ rfl
                  have f0 : wr.cell? ⟨b2, o2 + j * 2, none⟩ = some (.int .i64 k) := hcell2 0 _ rfl
                  have f1 : wr.cell? ⟨b2, o2 + j * 2 + 1, none⟩ = some (.slice ab na cb) := hcell2 1 _ rfl
                  clear hcell1 hcell2 hj1 hj2 hpl
                  go_upto_region 30 with fail
                  have r0 := fun x => later_cell e0 x
                  have r1 := fun x => later_cell e1 x
                  have s0 := fun x => later_cell f0 x
                  have s1 := fun x => later_cell f1 x
                  refine wp_region_seg (C := fun w' => ∃ x : Later (wr), w' = x.val) [.fl [0, 1, 2, 3, 5, 6, 7, 8], .sq [4] true, .sq [9, 10, 11] false] (by kernel_rfl) (by kernel_rfl) (by intro c a d v w h; cases d <;> exact h) ?_
                  simp only [segs, picks, List.getElem?_cons_succ, List.getElem?_cons_zero]
                  have hC1 := later_drew (wr)
                  refine wpSeg_fl hC1 ?_
                  repeat (first | go_big_quiet_step (fail) | quiet_step (fail))
                  refine wpQuiet_nil ?_
                  refine wpSeg_sq (fun K hK => ?_)
                  go_wp2_with fail
                  refine (ref_any k aa na ca _).mono ?_
                  rintro e w8 ⟨rfl, hb8⟩
                  have hC2 := later_step hC1 hb8
                  go_wp2_with fail
                  refine hK _ _ (fun _ => hC2) ?_
                  clear hK K
                  refine wpSeg_last ?_
                  go_wp2_with fail
                  refine (ref_any k ab na cb _).mono ?_
                  rintro e w9 ⟨rfl, hb9⟩
                  have hC3 := later_step hC2 hb9
                  go_wp2_with fail
                  refine (same_any k aa ab na ca cb ns HCa.out.1 _ (Cells.below HCa.out.2.1 (later_below hC3) (Nat.le_refl _)) (Cells.below HCb.out.2.1 (later_below hC3) (Nat.le_refl _)) HCa.out.2.2).mono ?_
                  rintro e w10 ⟨rfl, hb10⟩
                  have hC4 := later_step hC3 hb10
                  have HB10 : Hid (Below w7.heap.size w7 w10) := Lib.hid (HBr.out.trans ((later_below hC4).mono HBr.out.size))
                  go_wp2_with fail
                  go_roundw
                  case rel => exact ⟨j + 1, by omega, vint (by omega), HB10⟩
                  case measure => simp [RowKit.intOf]; omega
                · obtain rfl : j = u := by omega
                  have hlt' : decide ((j : Int) < (j : Int)) = false := by simp
                  have HBe : Hid (Below w.heap.size w wr) := Lib.hid (HBw7.out.trans (HBr.out.mono HBw7.out.size))
                  clear hlt
                  go_wp2_with fail
                  exact HP.out _ HBe.out

end Go.Proofs.YtlaaamaaabcfeaaDoor

/- Slices of structs whose fields are all ints: what the reading of such an argument says. -/
namespace Go.Proofs.YtlaaamaaabcfeaaDoor
open Go.RowKit Go.ChangeShapes Go.WideShapes Go.Deep
set_option linter.unusedVariables false

theorem wf_bounds {x : Int} (h : (Lit.int .i64 x).wf = true) : -9223372036854775808 ≤ x ∧ x ≤ 9223372036854775807 := by
  simp [Lit.wf, IntKind.min, IntKind.max, IntKind.bits, IntKind.signed] at h
  omega

/-- A list out of what each place holds. -/
theorem list_of {α : Type} (P : Nat → α → Prop) : ∀ n, (∀ i, i < n → ∃ x, P i x) → ∃ l : List α, l.length = n ∧ ∀ i x, l[i]? = some x → P i x
  | 0, _ => ⟨[], rfl, by simp⟩
  | n + 1, h => by
    obtain ⟨l, hl, hp⟩ := list_of P n (fun i hi => h i (by omega))
    obtain ⟨x, hx⟩ := h n (by omega)
    refine ⟨l ++ [x], by simp [hl], fun i y hy => ?_⟩
    by_cases hi : i < l.length
    · rw [List.getElem?_append_left hi] at hy; exact hp i y hy
    · rw [List.getElem?_append_right (by omega)] at hy
      have h0 : i - l.length = 0 := by
        have := (List.getElem?_eq_some_iff.1 hy).1; simp at this; omega
      rw [h0] at hy
      simp at hy
      subst hy
      rw [show i = n by omega]; exact hx

section
variable {H : Type} {enc : TypeId × Value → H} {P : Program} {w : World} {base : Nat} {spare : Nat → Bool} {held : Bool}

theorem ints_struct {e T : TypeId} {fs : Array Field} {n fuel : Nat} {us : List Value} {z : DataW H × List MemPlace} (he : P.underlying e = some (.struct fs)) (hT : P.underlying T = some (.int .i64)) (hc : P.cellsOf T = 1)
    (hF : ((List.range n).all fun j => match fs[j]? with | some f => f.type == T && f.offset == j | none => false) = true) (hlen : us.length = n) (hz : DataW.trod enc P w base spare held fuel e us = some z) :
    ∃ zs : List Int, zs.length = n ∧ us = zs.map (Value.int .i64) ∧ ∀ x ∈ zs, -9223372036854775808 ≤ x ∧ x ≤ 9223372036854775807 := by
  obtain ⟨ys, n', _, _, _, hyl, hf⟩ := DataW.trod_struct he hz
  have each : ∀ j, j < n → ∃ x : Int, us[j]? = some (.int .i64 x) ∧ (-9223372036854775808 ≤ x ∧ x ≤ 9223372036854775807) := by
    intro j hj
    have h1 := List.all_eq_true.1 hF j (List.mem_range.2 hj)
    cases hfj : fs[j]? with
    | none => rw [hfj] at h1; cases h1
    | some f =>
      rw [hfj] at h1
      simp only [Bool.and_eq_true, beq_iff_eq] at h1
      have h2 := hf j f hfj
      rw [h1.1, h1.2, hc] at h2
      have hjs : j < ys.length := by rw [hyl]; exact (Array.getElem?_eq_some_iff.1 hfj).1
      rw [List.getElem?_eq_getElem hjs] at h2
      have hju : j < us.length := by omega
      have h3 : (us.drop j).take 1 = [us[j]] := by rw [List.drop_eq_getElem_cons hju]; rfl
      rw [h3] at h2
      obtain ⟨x, hx, _, hw⟩ := DataW.trod_int hT h2
      have hx' : us[j] = .int .i64 x := by simpa using hx
      exact ⟨x, by rw [List.getElem?_eq_getElem hju, hx'], wf_bounds hw⟩
  obtain ⟨zs, hl, hp⟩ := list_of (fun j x => us[j]? = some (.int .i64 x) ∧ (-9223372036854775808 ≤ x ∧ x ≤ 9223372036854775807)) n each
  refine ⟨zs, hl, ?_, fun x hx => ?_⟩
  · apply List.ext_getElem?
    intro i
    by_cases hi : i < zs.length
    · rw [(hp i _ (List.getElem?_eq_getElem hi)).1, List.getElem?_map, List.getElem?_eq_getElem hi]; rfl
    · rw [List.getElem?_eq_none (by omega), List.getElem?_eq_none (by simp; omega)]
  · obtain ⟨i, hi, rfl⟩ := List.mem_iff_getElem.1 hx
    exact (hp i _ (List.getElem?_eq_getElem hi)).2

theorem recs_ints_read {α : Type} {f : α → List Value} {n : Nat} (hfl : ∀ x, (f x).length = n) (hn : 0 < n) (d : α) (mk : List Int → α) (hmk : ∀ zs : List Int, zs.length = n → f (mk zs) = zs.map (Value.int .i64))
    {t e T : TypeId} {fs : Array Field} {fuel : Nat} {v : Value} {y : DataW H × List MemPlace} (ht : P.underlying t = some (.slice e)) (he : P.underlying e = some (.struct fs)) (hT : P.underlying T = some (.int .i64)) (hC : P.cellsOf e = n) (hc : P.cellsOf T = 1)
    (hF : ((List.range n).all fun j => match fs[j]? with | some f => f.type == T && f.offset == j | none => false) = true) (h : DataW.trod enc P w base spare held fuel t [v] = some y) :
    ∃ (a : Option Addr) (len cap : Nat) (l : List α), v = .slice a len cap ∧ l.length = len ∧ Cells w a (recs f l) ∧ (∀ o ∈ l, ∃ zs : List Int, o = mk zs ∧ zs.length = n ∧ ∀ x ∈ zs, -9223372036854775808 ≤ x ∧ x ≤ 9223372036854775807) ∧ len ≤ maxLen := by
  obtain ⟨a, len, cap, m, rfl, hl, hm, hcs⟩ := elems_read ht hC hn h
  rcases hcs with rfl | ⟨b, off, rfl, hcs⟩
  · exact ⟨a, 0, cap, [], rfl, rfl, Cells.nil _ _, by simp, Nat.zero_le _⟩
  · have each : ∀ i, i < len → ∃ x : α, (∀ r u, (f x)[r]? = some u → w.cell? ⟨b, off + i * n + r, none⟩ = some u) ∧ ∃ zs : List Int, x = mk zs ∧ zs.length = n ∧ ∀ x ∈ zs, -9223372036854775808 ≤ x ∧ x ≤ 9223372036854775807 := by
      intro i hi
      obtain ⟨us, z, hlen, hat, hz⟩ := hcs i hi
      obtain ⟨zs, h1, h2, h3⟩ := ints_struct he hT hc hF hlen hz
      exact ⟨mk zs, fun r u hr => by rw [hmk zs h1, ← h2] at hr; exact hat r u hr, zs, rfl, h1, h3⟩
    obtain ⟨l, hll, hcl, hok⟩ := recs_of hfl hn d each
    exact ⟨_, len, cap, l, rfl, hll, hcl, hok, by omega⟩
end

end Go.Proofs.YtlaaamaaabcfeaaDoor

/- op: ops that came in. -/
namespace Go.Proofs.YtlaaamaaabcfeaaDoor
open Go.RowKit Go.ChangeShapes Go.WideShapes Go.Deep
set_option linter.unusedVariables false

section
variable {H : Type} {enc : TypeId × Value → H} {w : World} {base : Nat} {spare : Nat → Bool} {held : Bool}

/-- An op's cells. -/
theorem op_cells {fuel : Nat} {us : List Value} {z : DataW H × List MemPlace} (hlen : us.length = 2) (h : DataW.trod enc Tryd.prog w base spare held fuel 25 us = some z) :
    ∃ (k : Int) (a : Option Addr) (n c : Nat) (ns : List Int), us = [.int .i64 k, .slice a n c] ∧ ns.length = n ∧ Cells w a (ns.map (Value.int .i64)) ∧ (∀ x ∈ ns, In64 x) ∧ n ≤ maxLen := by
  obtain ⟨ys, n', _, _, _, hyl, hf⟩ := DataW.trod_struct Tryd.underlying25 h
  have hl2 : ys.length = 2 := hyl
  match us, hlen with
  | [u0, u1], _ =>
    have c0 : Tryd.prog.cellsOf 3 = 1 := by kernel_rfl
    have c1 : Tryd.prog.cellsOf 23 = 1 := by kernel_rfl
    have h0 := hf 0 _ rfl
    have h1 := hf 1 _ rfl
    rw [List.getElem?_eq_getElem (by omega)] at h0 h1
    have h0 : DataW.trod enc Tryd.prog w base spare held n' 3 (List.take (Tryd.prog.cellsOf 3) [u0, u1]) = some _ := h0
    have h1 : DataW.trod enc Tryd.prog w base spare held n' 23 (List.take (Tryd.prog.cellsOf 23) [u1]) = some _ := h1
    rw [c0] at h0
    rw [c1] at h1
    obtain ⟨k, hk, _, _⟩ := DataW.trod_int Tryd.underlying3 h0
    obtain ⟨a, n, c, ns, e1, e2, e3, e4, e5, e6⟩ := ints_read (k := .i64) (v := u1) Tryd.underlying23 Tryd.underlying2 (by kernel_rfl) (by simpa using h1)
    have hk' : u0 = .int .i64 k := by simpa using hk
    refine ⟨k, a, n, c, ns, by rw [hk', e1], e2, e3, fun x hx => ?_, Nat.le_trans e5 e6⟩
    have := wf_bounds (e4 x hx)
    unfold In64
    omega
end

end Go.Proofs.YtlaaamaaabcfeaaDoor

/- op: lists of ops that came in. -/
namespace Go.Proofs.YtlaaamaaabcfeaaDoor
open Go.RowKit Go.ChangeShapes Go.WideShapes Go.Deep
set_option linter.unusedVariables false

section
variable {H : Type} {enc : TypeId × Value → H} {w : World} {base : Nat} {spare : Nat → Bool} {held : Bool}

theorem ops_read {fuel : Nat} {v : Value} {y : DataW H × List MemPlace} (h : DataW.trod enc Tryd.prog w base spare held fuel 48 [v] = some y) :
    ∃ (a : Option Addr) (len cap : Nat) (l : List Op31), v = .slice a len cap ∧ l.length = len ∧ Cells w a (recs Op31.cs l) ∧ (∀ o ∈ l, o.inn w) ∧ len ≤ maxLen := by
  obtain ⟨a, len, cap, m, rfl, hl, hm, hcs⟩ := elems_read (size := 2) Tryd.underlying48 (by kernel_rfl) (by decide) h
  rcases hcs with rfl | ⟨b, off, rfl, hcs⟩
  · exact ⟨a, 0, cap, [], rfl, rfl, Cells.nil _ _, by simp, Nat.zero_le _⟩
  · have each : ∀ i, i < len → ∃ x : Op31, (∀ r u, (x.cs)[r]? = some u → w.cell? ⟨b, off + i * 2 + r, none⟩ = some u) ∧ x.inn w := by
      intro i hi
      obtain ⟨us, z, hlen, hat, hz⟩ := hcs i hi
      obtain ⟨k, a, n, c, ns, e1, e2, e3, e4, e5⟩ := op_cells hlen hz
      exact ⟨⟨k, a, n, c, ns⟩, fun r u hr => hat r u (by rw [e1]; exact hr), e2, e3, e4, e5⟩
    obtain ⟨l, hll, hcl, hok⟩ := recs_of Op31.len (by decide) op0 each
    exact ⟨_, len, cap, l, rfl, hll, hcl, hok, by omega⟩
end

end Go.Proofs.YtlaaamaaabcfeaaDoor

/- The frame of a row that lists laid variables, with the world's shape at hand. -/
namespace Go.Proofs.YtlaaamaaabcfeaaDoor
open Go.ChangeShapes Go.WideShapes
set_option linter.unusedVariables false

section
variable {H : Type} {enc : TypeId × Value → H}

theorem returns_laid {a : Assume} {C : Checked} {os : Os} {f : FuncId} {fn : Func} {s : ChangeSpec} {conds : List PathCond} {apart fresh handsOn again : Bool} {X : World → Array Value → Prop}
    (hX : ∀ (w w' : World) (args : Array Value), w.heap = w'.heap → X w args → X w' args)
    (own : ownKnob C.prog.godebug = none) (started : os.Started) (noInit : C.prog.inits.idxOf? f = none) (hfn : C.prog.funcs[f]? = some fn)
    (witness : ∃ (w : World) (tape : Tape) (i : Input), w.os = os ∧ (w.forCall tape i).Shaped C.prog ∧ i.vars = [] ∧ Input.okWide C.prog (w.forCall tape i) .any w.heap.size f i ∧
      ((s.pre enc C.prog fn conds apart (w.forCall tape i).memory i.args ∧ X (w.forCall tape i).memory i.args) ∧ sizedMet enc C.prog fn (OpenSpec.ofChange s) apart (w.forCall tape i).memory i.args) ∧ a.holds C.prog (lone (Frame.enter C.prog f i.args .normal) [] (w.forCall tape i)))
    (contract : ∀ (W : World) (base : Nat) (args : Array Value) (ds gs : List (DataW H)) (before : List MemPlace),
      (∀ (j : Nat) t v, fn.params[j]? = some t → args[j]? = some v → Value.okWide C.prog W .any base t v) →
      DataW.Whole enc C.prog fn.params.toList s.vars apart W args.toList ds gs before →
      conds.all (PathCond.test C.prog ⟨fn.params.toList, ds, s.plain.varTypes C.prog, gs⟩) = true →
      X W args → W.ShapedOpen C.prog →
      Calls C.prog f args W fun e W' => ∃ v, e = .returned v ∧ s.post enc C.prog fn apart fresh handsOn again W args v W') :
    ReturnsInHanded a C os f .any (fun w args => (s.pre enc C.prog fn conds apart w args ∧ X w args) ∧ sizedMet enc C.prog fn (OpenSpec.ofChange s) apart w args) (s.post enc C.prog fn apart fresh handsOn again) := by
  refine returnsInHanded_of_calls own started noInit witness ?_
  intro w tape i _ hsh _ hok hpre _
  obtain ⟨_, _, _, fn', hfn', _, _, _, _, hval⟩ := hok
  obtain rfl : fn' = fn := Option.some.inj (hfn'.symm.trans hfn)
  obtain ⟨⟨⟨ds, gs, before, hw, hc⟩, hx⟩, hz⟩ := hpre
  refine (contract (w.forCall tape i) w.heap.size i.args ds gs before hval (DataW.Whole.of_heap (w' := w.forCall tape i) (by rfl) hw) hc (hX _ _ _ (by rfl) hx) hsh).mono fun e W' ⟨v, he, hp⟩ => ?_
  subst he
  exact ChangeSpec.post_blind hp
end

end Go.Proofs.YtlaaamaaabcfeaaDoor
