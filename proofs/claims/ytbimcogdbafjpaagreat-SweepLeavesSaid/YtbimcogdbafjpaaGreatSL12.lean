/- Parts of the proof, one behind the other: Kn, Ri, Kq. -/
import Derived.Test.YtbimcogdbafjpaaGreatSL11
set_option linter.unusedVariables false
namespace Go.Proofs.YtbimcogdbafjpaaGreat
open Go.RowKit Go.Maps
set_option maxHeartbeats 8000000 in
set_option maxRecDepth 100000 in
theorem sweepLeaves_any (n8 : Int) (hn8 : 0 ≤ n8 ∧ n8 ≤ 255) (a : Option Addr) (mm cap : Nat) (s : List Ob23) (hm : s.length = mm) (w : World) (hcs : Cells w a (recs Ob23.cs s)) (hmm : mm ≤ maxLen) :
  Calls Tryz.prog 5 #[.int .u8 n8, .slice a mm cap] w (Gives (.bool true) w) := by
 have HM := LH hm
 have HCS := LH hcs
 have HMM := LH hmm
 clear hm hcs hmm
 have HP : Hid (∀ w', Below w.heap.size w w' → Gives (.bool true) w (.returned (.bool true)) w') := LH (fun w' h => ⟨rfl, h⟩)
 generalize Gives (.bool true) w = Post at *
 go_enter Tryz.func5, Tryz.ntmps5
 go_wp2_with fail
 refine (awake23_any _).mono ?_
 rintro e wa ⟨rfl, hba⟩
 have HBa := LH hba
 clear hba
 go_wp2_with fail
 refine (made23_any n8 hn8 a mm cap s HM.out wa (HCS.out.below HBa.out (Nat.le_refl _)) HMM.out).mono ?_
 rintro e w1 ⟨B, A, n, m, K, M, am, lm, cm, mk, hB2, hB8, hBe, rfl, hm, hn, hl⟩
 obtain ⟨q, hq⟩ : ∃ q, q = w1.heap.size := ⟨_, rfl⟩
 have HM2 : Hid (Mem23 wa (w1.alloc (.cells #[valloc A, vdev A.X.F, .slice none 0 0] 74)) [q] A n B 25000000 m K M (.slice am lm cm) mk 40) := LH (hm.more (by intro k hk; simp at hk; subst hk; exact .inr (by simp [hq])) (below_alloc _ _))
 have HR2 : Hid (MemR wa.heap.size (w1.alloc (.cells #[valloc A, vdev A.X.F, .slice none 0 0] 74)) [⟨q, 74, [valloc A, vdev A.X.F, .slice none 0 0], true⟩]) := LH (by
  have h0 : MemR wa.heap.size w1 [] := ⟨by simp, by simp, by simp, hm.hs.below.size⟩
  have := h0.alloc #[valloc A, vdev A.X.F, .slice none 0 0] 74
  rw [← hq] at this
  exact this)
 have HN := LH hn
 have HLm := LH hl
 have HMd := LH hm.mkd
 have HUs := LH hm.us
 have HMkl := LH hm.len
 clear hm hn hl hBe
 go_upto_region 4 with fail
 rw [← hq]
 generalize w1.alloc _ = w2 at *
 clear hq
 have c0 := HR2.out.cell 0 0 rfl rfl
 go_wp2_with fail
 refine (swnew_any HM2.out.hs.hp.at_).mono ?_
 rintro e w3 ⟨rfl, hsw, hb3, hz3⟩
 have HS3 := LH (NewSw.start HM2.out HR2.out hsw hb3 hz3)
 have HCn := LH HM2.out.cnt
 have HUl := LH HM2.out.hs.hp.ok.lenU
 generalize w2.heap.size = sp at *
 clear hsw hb3 hz3 c0 HM2 HR2
 go_wp2_with fail
 refine (sbegin_any HS3.out.sw).mono ?_
 rintro e w4 ⟨rfl, hsw4, ht4⟩
 have HM4 := LH (HS3.out.begin HN.out HCn.out hsw4 ht4)
 clear hsw4 ht4 HS3
 obtain ⟨U0, hU0⟩ : ∃ U0, U0 = m.used := ⟨_, rfl⟩
 rw [← hU0] at HM4 HUs
 clear hU0 HCn HUl HN
 have HPa : Hid (∀ w', Below wa.heap.size wa w' → Post (.returned (.bool true)) w') := LH (fun w' h => HP.out w' (HBa.out.trans (h.mono HBa.out.size)))
 clear HP HBa
 generalize [q] ++ (rowOf (.slice am lm cm)).toList = Q at *
 go_upto_block 0 with fail
 go_cut [] (fun wc => ∃ (R : List Nat) (m' : Al) (vg : Value) (G : List Nat), Hid (MemSw wa wc Q q (A.re R) B m' K M U0 (.slice am lm cm) mk sp B vg G))
 case first =>
  go_wp2_with fail
  go_loopw [10] (fun nv wr => ∃ (j : Nat) (R : List Nat) (m' : Al) (vg : Value) (G : List Nat), j + 1 ≤ B ∧ nv = .int .i64 (j : Int) ∧ Hid (MemSw wa wr Q q (A.re R) B m' K M U0 (.slice am lm cm) mk sp (j + 1) vg G)) (fun nv _ => 300 - (RowKit.intOf nv).toNat)
  case atStart => exact ⟨0, A.R, m, _, [], by omega, rfl, HM4⟩
  case round =>
   obtain ⟨j, R, m', vg, G, hj, rfl, HS⟩ := hrel
   have hj3 : (j : Int) < 300 := by omega
   have HD := LH (sdone_any HS.out.hs.hp.at_ HS.out.sw (by omega) (by omega))
   go_wp2_with fail
   refine HD.out.mono ?_
   rintro e w5 ⟨rfl, hb5⟩
   have HS5 := LH (HS.out.later hb5)
   clear hb5 HD HS
   by_cases hlt : j + 1 < B
   case neg =>
    obtain rfl : B = j + 1 := by omega
    have HEnd : Hid (∃ (R : List Nat) (m' : Al) (vg : Value) (G : List Nat), Hid (MemSw wa w5 Q q (A.re R) (j + 1) m' K M U0 (.slice am lm cm) mk sp (j + 1) vg G)) := LH ⟨R, m', vg, G, HS5⟩
    rw [show decide (j + 1 ≤ j + 1) = true from decide_eq_true (Nat.le_refl _)]
    clear HS5 hlt
    go_wp2_with fail
    go_meet
    exact HEnd.out
   have hd : decide (B ≤ j + 1) = false := by simp; omega
   rw [hd]
   have HSt := LH (HS5.out.step (by omega) hlt (by omega))
   clear hd HS5
   go_wp2_with fail
   refine HSt.out.mono ?_
   rintro e w6 ⟨R6, m6, v6, rfl, hm6, _, _⟩
   rw [AF.re_re] at hm6
   have HS6 := LH hm6
   clear hm6 HSt
   go_wp2_with fail
   refine ⟨⟨j + 1, R6, m6, v6, _, by omega, vint (by omega), HS6⟩, ?_⟩
   simp [RowKit.intOf]; omega
 case rest =>
  obtain ⟨R, m5, vg, G, HS⟩ := hcut
  have c0 := HS.out.mr.cell 0 0 rfl rfl
  have HEq : Hid ((onesL m5.used).length = mk.length) := LH (HS.out.sp.len HMd.out HUs.out)
  have HWo : Hid ((onesL m5.used).filter (fun x => !mk.contains x) = []) := LH (HS.out.sp.without HMd.out HUs.out)
  have HKi := LH (fun q h1 h2 => HS.out.sp.kinds (q := q) h1 h2)
  have HOk := LH HS.out.hs.hp.ok
  clear HM4
  go_wp2_with fail
  refine (aobjects_any HS.out.hs.hp.at_).mono ?_
  intro e w6 hp
  obtain ⟨au, cu, rfl, hcu, hb6, _⟩ := hp.own
  have HS6 := LH (HS.out.later hb6)
  have HCu := LH hcu
  rw [HEq.out, ← HLm.out]
  have HOw : Hid (∃ c', Cells w6 am (mk.map vi) ∧ c' = cm) := LH (by
   obtain ⟨a', c', he, h, _, _⟩ := HS6.out.own.own.cells
   cases he
   exact ⟨_, h, rfl⟩)
  have hlm : lm ≤ 40 := by rw [HLm.out]; exact HMkl.out
  have HWt := LH (without_any (c1 := cu) (c2 := cm) HCu.out (by obtain ⟨_, h, _⟩ := HOw.out; exact h) (show lm = (onesL m5.used).length by rw [HEq.out]; exact HLm.out) HLm.out (by omega) (by omega))
  rw [HWo.out] at HWt
  have HUn : Hid (lm = (onesL m5.used).length) := LH (by rw [HEq.out]; exact HLm.out)
  have HXs : Hid (∀ x ∈ onesL m5.used, x ≤ 1000000) := LH (fun x hx => by
   have h1 := mem_onesL.1 hx
   rcases Nat.lt_or_ge x m5.used.length with c | c
   ·have := HOk.out.lenU; omega
   ·rw [List.getD_eq_getElem?_getD, List.getElem?_eq_none c] at h1; cases h1)
  have HPos := LH (fun b => hereN_pos (U := m5.used) (b := b))
  generalize onesL m5.used = us at *
  clear hp hb6 hcu c0 HS HWo HEq HOw
  go_wp2_with fail
  refine HWt.out.mono ?_
  rintro e w7 ⟨v7, rfl, ho7, _, hb7⟩
  obtain ⟨p7, c7, rfl, _, _, _⟩ := ho7.cells
  have HS7 := LH (HS6.out.later hb7)
  have HC7 := LH (HCu.out.below hb7 (Nat.le_refl _))
  clear ho7 hb7 HS6 HCu HWt
  go_wp2_with fail
  go_loopw [12] (fun bv wr => ∃ b : Nat, 1 ≤ b ∧ b ≤ B ∧ bv = .int .i64 (b : Int) ∧ Hid (Below w7.heap.size w7 wr)) (fun bv _ => B - (RowKit.intOf bv).toNat)
  case atStart => exact ⟨1, Nat.le_refl _, by omega, rfl, LH (Below.refl _ _)⟩
  case round =>
   obtain ⟨b, hb1, hbB, rfl, HB⟩ := hrel
   have HSr := LH (HS7.out.later HB.out)
   have HCr := LH (HC7.out.below HB.out (Nat.le_refl _))
   have c0 := HSr.out.mr.cell 0 0 rfl rfl
   have a0 := HSr.out.hs.hp.at_.c0
   have a1 := HSr.out.hs.hp.at_.man.c0
   rename World => wo
   by_cases hlt : b < B
   case neg =>
    obtain rfl : b = B := by omega
    have hlt' : decide ((b : Int) < (b : Int)) = false := by simp
    have HFin := LH (HPa.out _ HSr.out.hs.below)
    have HT := LH (tlen_any HSr.out.hs.hp.at_.man.tab)
    clear HSr HCr HS7 HC7
    go_wp2_with fail
    refine HT.out.mono ?_
    rintro e w8 ⟨rfl, rfl⟩
    go_wp2_with fail
    exact HFin.out
   have hlt' : (b : Int) < (B : Int) := by omega
   have HT := LH (tlen_any HSr.out.hs.hp.at_.man.tab)
   obtain ⟨hd, hhd⟩ : ∃ hd, hd = m5.bm.list.getD b default := ⟨_, rfl⟩
   have HGet := LH (tget_any (HSr.out.hs.hp.at_.man.tab.at (MF.notHot (MF.apart HSr.out.hs.hp.at_.man.nd).t).1) (b : Int) (by rw [HSr.out.hs.hp.at_.man.tab.len]; omega))
   rw [hdGet_nat hb1 (by rw [HSr.out.hs.hp.at_.man.tab.len]; exact hlt), ← hhd] at HGet
   have HKd : Hid ((hd.k = 1 ∨ hd.k = 2) ↔ 0 < hereN b us) := LH (by rw [hhd, HKi.out b hb1 hlt, HPos.out b])
   clear hhd
   obtain ⟨hk, hc, hl⟩ := hd
   unfold Hd.val at HGet
   dsimp only at HGet HKd
   clear HSr
   go_wp2_with fail
   refine HT.out.mono ?_
   rintro e w8 ⟨rfl, rfl⟩
   go_wp2_with fail
   refine HGet.out.mono ?_
   rintro e w9 ⟨rfl, hb9⟩
   have HM := LH (Mem.one w9 #[.int .i64 hk, .int .i64 hc, .int .i64 hl] 104)
   have HB9 : Hid (Below wo.heap.size wo (w9.alloc (Obj.cells #[.int .i64 hk, .int .i64 hc, .int .i64 hl] 104))) := LH (hb9.trans (HM.out.below.mono hb9.size))
   obtain ⟨hp, hhp⟩ : ∃ hp, hp = w9.heap.size := ⟨_, rfl⟩
   have HR9 : Hid (RowAt (w9.alloc (Obj.cells #[.int .i64 hk, .int .i64 hc, .int .i64 hl] 104)) hp 104 [.int .i64 hk, .int .i64 hc, .int .i64 hl]) := LH (by rw [hhp]; exact HM.out.at 0 rfl)
   clear hb9 c0 a0 a1 HT HGet HM
   go_upto_region 22 with fail
   rw [← hhp]
   generalize w9.alloc _ = wh at *
   clear hhp
   go_wp2_with fail
   go_loopw [14, 15] (fun hv iv wr2 => ∃ i : Nat, i ≤ lm ∧ hv = .int .i64 ((hereN b (us.take i) : Nat) : Int) ∧ iv = .int .i64 (i : Int) ∧ Hid (Below wh.heap.size wh wr2)) (fun _ iv _ => lm - (RowKit.intOf iv).toNat)
   case atStart => exact ⟨0, Nat.zero_le _, rfl, rfl, LH (Below.refl _ _)⟩
   case round =>
    obtain ⟨i, hi, rfl, rfl, HBi⟩ := hrel
    have HBw : Hid (Below wo.heap.size wo wr) := LH (HB9.out.trans (HBi.out.mono HB9.out.size))
    by_cases hil : i < lm
    case neg =>
     obtain rfl : i = lm := by omega
     have hil' : decide ((i : Int) < (i : Int)) = false := by simp
     have HTk : Hid (us.take i = us) := LH (by rw [HUn.out]; exact List.take_length)
     rw [HTk.out]
     have d0 : wr.cell? ⟨hp, 0, none⟩ = some (.int .i64 hk) := (HR9.out.keep (HBi.out.block hp HR9.out.lt)).cell rfl
     have hle : hereN b us ≤ 40 := Nat.le_trans (hereN_le b us) (by rw [← HUn.out]; exact hlm)
     have hkd := HKd.out
     have HBx : Hid (Below w7.heap.size w7 wr) := LH (HB.out.trans (HBw.out.mono HB.out.size))
     generalize hereN b us = hz at *
     by_cases hz0 : 0 < hz
     ·have hz1 : (0 : Int) < (hz : Int) := by omega
      rcases hkd.2 hz0 with rfl | rfl
      ·clear hkd HKd
       go_wp2_with fail
       refine ⟨⟨b + 1, by omega, by omega, vint (by omega), HBx⟩, ?_⟩
       simp [RowKit.intOf]; omega
      ·clear hkd HKd
       go_wp2_with fail
       refine ⟨⟨b + 1, by omega, by omega, vint (by omega), HBx⟩, ?_⟩
       simp [RowKit.intOf]; omega
     ·have hz1 : decide ((0 : Int) < (hz : Int)) = false := by simp; omega
      have hk1 : (hk == 1) = false := by
       rcases h : hk == 1 with _ | _
       ·rfl
       ·exact absurd (hkd.1 (.inl (by simpa using h))) hz0
      have hk2 : (hk == 2) = false := by
       rcases h : hk == 2 with _ | _
       ·rfl
       ·exact absurd (hkd.1 (.inr (by simpa using h))) hz0
      clear hkd HKd
      go_wp2_with fail
      refine ⟨⟨b + 1, by omega, by omega, vint (by omega), HBx⟩, ?_⟩
      simp [RowKit.intOf]; omega
    have hil' : (i : Int) < (lm : Int) := by omega
    obtain ⟨x, hx⟩ : ∃ x, us[i]? = some x := ⟨_, List.getElem?_eq_getElem (by rw [← HUn.out]; exact hil)⟩
    obtain ⟨b1, o1, q1, _, hc1⟩ := (HCr.out.below HBw.out (Nat.le_refl _)).at (i := i) (by rw [List.length_map, ← HUn.out]; exact hil)
    have hc1 := hc1 i (vi x) (by rw [List.getElem?_map, hx]; rfl)
    have HTk := LH (hereN_take (b := b) hx)
    have hq : (x : Int).tdiv 512 = ((x / 512 : Nat) : Int) := by rw [Int.tdiv_eq_ediv_of_nonneg (by omega)]; rfl
    have hx9 : x ≤ 1000000 := HXs.out x (List.mem_of_getElem? hx)
    have hle : hereN b (us.take i) ≤ 40 := Nat.le_trans (hereN_le b _) (by rw [List.length_take]; omega)
    obtain ⟨xq, hxq⟩ : ∃ xq, xq = x / 512 := ⟨_, rfl⟩
    rw [← hxq] at HTk hq
    generalize hereN b (us.take i) = hn at *
    subst q1
    clear hx
    by_cases hqb : xq = b
    ·have hqb' : ((xq : Int) == (b : Int)) = true := by simp; omega
     have HTe : Hid (hereN b (us.take (i + 1)) = hn + 1) := LH (by rw [HTk.out, if_pos hqb])
     go_wp2_with fail
     refine ⟨⟨i + 1, by omega, by rw [HTe.out]; exact vint (by omega), vint (by omega), HBi⟩, ?_⟩
     simp [RowKit.intOf]; omega
    ·have hqb' : ((xq : Int) == (b : Int)) = false := by simp; omega
     have HTe : Hid (hereN b (us.take (i + 1)) = hn) := LH (by rw [HTk.out, if_neg hqb]; rfl)
     go_wp2_with fail
     refine ⟨⟨i + 1, by omega, by rw [HTe.out], vint (by omega), HBi⟩, ?_⟩
     simp [RowKit.intOf]; omega
end Go.Proofs.YtbimcogdbafjpaaGreat
namespace Go.Proofs.YtbimcogdbafjpaaGreat
open Go.RowKit Go.ChangeShapes Go.WideShapes Go.Deep
section
variable {H : Type} {enc : TypeId × Value → H} {P : Program} {w : World} {base : Nat} {spare : Nat → Bool} {held : Bool}
end
section
variable {H : Type} {enc : TypeId × Value → H} {w : World} {base : Nat} {spare : Nat → Bool} {held : Bool}
set_option maxRecDepth 100000 in
theorem ob23_cells {fuel : Nat} {us : List Value} {z : DataW H × List MemPlace} (hlen : us.length = 3) (h : DataW.trod enc Tryz.prog w base spare held fuel 205 us = some z) :
  ∃ o : Ob23, us = o.cs := by
 obtain ⟨ys, n', _, _, _, hyl, hf⟩ := DataW.trod_struct Tryz.underlying205 h
 have hl2 : ys.length = 3 := hyl
 match us, hlen with
 | [u0, u1, u2], _ =>
  have c0 : Tryz.prog.cellsOf 3 = 1 := by kernel_rfl
  have c1 : Tryz.prog.cellsOf 4 = 1 := by kernel_rfl
  have h0 := hf 0 _ rfl
  have h1 := hf 1 _ rfl
  have h2 := hf 2 _ rfl
  rw [List.getElem?_eq_getElem (by omega)] at h0 h1 h2
  have h0 : DataW.trod enc Tryz.prog w base spare held n' 3 (List.take (Tryz.prog.cellsOf 3) [u0, u1, u2]) = some _ := h0
  have h1 : DataW.trod enc Tryz.prog w base spare held n' 3 (List.take (Tryz.prog.cellsOf 3) [u1, u2]) = some _ := h1
  have h2 : DataW.trod enc Tryz.prog w base spare held n' 4 (List.take (Tryz.prog.cellsOf 4) [u2]) = some _ := h2
  rw [c0] at h0 h1
  rw [c1] at h2
  obtain ⟨k, hk, _, _⟩ := DataW.trod_int Tryz.underlying3 h0
  obtain ⟨k', hk', _, _⟩ := DataW.trod_int Tryz.underlying3 h1
  obtain ⟨k2, hk2, _⟩ := DataW.trod_bool Tryz.underlying4 h2
  refine ⟨⟨k, k', k2⟩, ?_⟩
  have e0 : u0 = .int .i64 k := by simpa using hk
  have e1 : u1 = .int .i64 k' := by simpa using hk'
  have e2 : u2 = .bool k2 := by simpa using hk2
  rw [e0, e1, e2]; rfl
theorem ob23_read {fuel : Nat} {v : Value} {y : DataW H × List MemPlace} (h : DataW.trod enc Tryz.prog w base spare held fuel 95 [v] = some y) :
  ∃ (a : Option Addr) (len cap : Nat) (l : List Ob23), v = .slice a len cap ∧ l.length = len ∧ Cells w a (recs Ob23.cs l) ∧ len ≤ maxLen := by
 obtain ⟨a, len, cap, m, rfl, hl, hm, hcs⟩ := elems_read (size := 3) Tryz.underlying95 (by kernel_rfl) (by decide) h
 rcases hcs with rfl | ⟨b, off, rfl, hcs⟩
 ·exact ⟨a, 0, cap, [], rfl, rfl, Cells.nil _ _, Nat.zero_le _⟩
 ·have each : ∀ i, i < len → ∃ x : Ob23, (∀ r u, (x.cs)[r]? = some u → w.cell? ⟨b, off + i * 3 + r, none⟩ = some u) ∧ True := by
   intro i hi
   obtain ⟨us, z, hlen, hat, hz⟩ := hcs i hi
   obtain ⟨o, e1⟩ := ob23_cells hlen hz
   exact ⟨o, fun r u hr => hat r u (by rw [e1]; exact hr), trivial⟩
  obtain ⟨l, hll, hcl, _⟩ := recs_of Ob23.len (by decide) ⟨0, 0, false⟩ each
  exact ⟨_, len, cap, l, rfl, hll, hcl, by omega⟩
end
end Go.Proofs.YtbimcogdbafjpaaGreat
