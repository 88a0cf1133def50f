/- Parts of the proof, one behind the other: Dm, Ri, Arr, Cf, Dn. -/
import Derived.Test.YtpopbfagliagnaaGreatCF13
import Derived.OpenShut
import Derived.Lib.SmallJoins
set_option linter.unusedVariables false
namespace Go.Proofs.YtpopbfagliagnaaGreat
open Go.RowKit Go.Maps
set_option maxHeartbeats 8000000 in
set_option maxRecDepth 100000 in
theorem checkFinds_any (a : Option Addr) (mm cap : Nat) (s : List Op28) (hm : s.length = mm) (t0 t1 wh : Int) (ht0 : 0 ≤ t0 ∧ t0 ≤ 255) (ht1 : 0 ≤ t1 ∧ t1 ≤ 255) (hwh : 0 ≤ wh ∧ wh ≤ 65535) (w : World) (hcs : Cells w a (recs Op28.cs s)) (hmm : mm ≤ maxLen) :
  Calls Tryz.prog 14 #[.slice a mm cap, .agg #[.int .u8 t0, .int .u8 t1], .int .u16 wh] w (Gives (.bool true) w) := by
 have HP : Hid (∀ w', Below w.heap.size w w' → Gives (.bool true) w (.returned (.bool true)) w') := LH (fun w' h => ⟨rfl, h⟩)
 generalize Gives (.bool true) w = Post at *
 have HM := LH hm
 have HCS := LH hcs
 clear hm hcs
 have HM4 := LH (Mem.one w #[.int .u8 t0, .int .u8 t1] 25)
 go_enter Tryz.func14, Tryz.ntmps14
 go_upto_region 1 with fail
 obtain ⟨q4, hq4⟩ : ∃ q, q = w.heap.size := ⟨_, rfl⟩
 rw [← hq4] at HM4 ⊢
 generalize w.alloc _ = w0 at *
 clear hq4
 go_wp2_with fail
 refine (awake28_any w0).mono ?_
 rintro e w1 ⟨rfl, hb1⟩
 have HM1 := LH (HM4.out.later hb1)
 obtain ⟨B, hB2, hB8, hpl⟩ := played28_any t0 ht0 a mm cap s HM.out w1 (HCS.out.below HM1.out.below (Nat.le_refl _)) hmm
 have HPl := LH hpl
 have u0 := HM1.out.cell 0 0 rfl rfl
 have u1 := HM1.out.cell 0 1 rfl rfl
 clear hb1 hpl HM4
 go_wp2_with fail
 refine HPl.out.mono ?_
 rintro e w2 ⟨A, n, m, rfl, hh, _⟩
 have HB2 := LH (HM1.out.below.trans (hh.below.mono HM1.out.below.size))
 have HMw := LH (Mem.one w2 #[valloc A, vdev A.X.F, .slice none 0 0] 132)
 have HA3 := LH (hh.at_.below HMw.out.below)
 have HOk := LH hh.ok
 have HLg := LH hh.lg
 have HSn := LH hh.snd
 have HNw := LH (fun k (hk : k ∈ A.list) => Nat.le_trans HM1.out.below.size (hh.new k hk).1)
 have HSt := LH hh.steps
 have HAm := LH hh.at_.mem
 have HB3 := LH (HB2.out.trans (HMw.out.below.mono HB2.out.size))
 clear hh HPl HB2 u0 u1
 unfold vworld
 go_upto_region 5 with fail
 obtain ⟨q8, hq8⟩ : ∃ q, q = w2.heap.size := ⟨_, rfl⟩
 rw [← hq8] at HMw ⊢
 have HQ8 : Hid (∀ k ∈ A.list, k < q8) := LH (fun k hk => by rw [hq8]; exact HAm.out k hk)
 generalize w2.alloc _ = w3 at *
 clear hq8
 have c0 := HMw.out.cell 0 0 rfl rfl
 have c1 := HMw.out.cell 0 1 rfl rfl
 go_wp2_with fail
 refine (aobjects_any HA3.out).mono ?_
 intro e w4 hp
 obtain ⟨au, cu, rfl, hcu, hb4, _⟩ := hp.own
 have HCu := LH hcu
 have HA4 := LH (HA3.out.below hb4)
 have HMw4 := LH (HMw.out.later hb4)
 have HB4 := LH (HB3.out.trans (hb4.mono HB3.out.size))
 obtain ⟨us, hus⟩ : ∃ us, us = onesL m.used := ⟨_, rfl⟩
 obtain ⟨ul, hul⟩ : ∃ ul, ul = us.length := ⟨_, rfl⟩
 have HUl : Hid (ul ≤ 4096) := LH (by
  rw [hul, hus, onesL_length]
  have h1 := count_le_len m.used
  have h2 := HOk.out.lenU
  omega)
 rw [← hus] at HCu
 rw [← hus, ← hul]
 have HUs := LH hus
 have HUn := LH hul
 clear hp hcu hb4 c0 c1 HMw HA3 HB3 hus hul
 have c0 := HMw4.out.cell 0 0 rfl rfl
 have a0 := HA4.out.c0
 have m0 := HA4.out.man.c0
 obtain ⟨wn, rfl⟩ := Int.eq_ofNat_of_zero_le hwh.1
 obtain ⟨B1, hB1⟩ : ∃ B1, B1 = B - 1 := ⟨_, rfl⟩
 have hB1I : (B : Int) - 1 = (B1 : Int) := by omega
 have hB1p : 0 < B1 := by omega
 have hB1z : ((B1 : Int) == 0) = false := by rw [beq_eq_false_iff_ne]; omega
 obtain ⟨wm, hwme⟩ : ∃ wm, wm = wn % B1 := ⟨_, rfl⟩
 have hwm : (wn : Int).tmod (B1 : Int) = (wm : Int) := by rw [hwme, Int.tmod_eq_emod_of_nonneg (by omega)]; rfl
 have hwl : wm < B1 := by rw [hwme]; exact Nat.mod_lt _ hB1p
 have HWl : Hid (wm < B - 1) := LH (by omega)
 clear hwme hB1 hB1p hwl
 go_wp2_with fail
 refine (tlen_any HA4.out.man.tab).mono ?_
 rintro e w5 ⟨rfl, rfl⟩
 have hwl := HWl.out
 obtain ⟨b, hb⟩ : ∃ b, b = 1 + wm := ⟨_, rfl⟩
 have hbI : (1 : Int) + (wm : Int) = (b : Int) := by omega
 have hb1 : 1 ≤ b := by omega
 have hbB : b < B := by omega
 obtain ⟨c256, hc256⟩ : ∃ c, c = 256 + b := ⟨_, rfl⟩
 have h256 : (256 : Int) + (b : Int) = (c256 : Int) := by omega
 have HC256 := LH hc256
 clear hb hc256 hwl
 go_upto_region 9 with fail
 clear hwm hbI hB1I hB1z c0 a0 m0
 go_upto_region 10 with fail
 clear h256
 go_cut [59] from 53 (fun v wc => ∃ bb : Bool, v = .bool bb ∧ (bb = true → 0 < ul) ∧ wc = w4)
 case first =>
  by_cases h1 : 128 ≤ t1
  ·by_cases h2 : 0 < ul
   ·have h2' : (0 : Int) < (ul : Int) := by omega
    go_wp2_with fail
    go_meet
    exact ⟨true, rfl, fun _ => h2, rfl⟩
   ·have h2' : decide ((0 : Int) < (ul : Int)) = false := by simp; omega
    go_wp2_with fail
    go_meet
    exact ⟨false, rfl, (fun h => nomatch h), rfl⟩
  ·have h1' : decide ((128 : Int) ≤ t1) = false := by simp; omega
   go_wp2_with fail
   go_meet
   exact ⟨false, rfl, (fun h => nomatch h), rfl⟩
 case rest =>
  obtain ⟨bb, rfl, hbb, rfl⟩ := hcut
  go_upto_if 59 with fail
  go_cut [12] from 60 (fun av wd => ∃ at_ : Nat, av = .int .i64 (at_ : Int) ∧ (at_ = c256 ∨ (512 ≤ at_ ∧ m.used.getD at_ false = true)) ∧ wd = wc)
  case first =>
   cases bb with
   | false =>
    go_wp2_with fail
    go_meet
    exact ⟨c256, rfl, .inl rfl, rfl⟩
   | true =>
    have hul0 := hbb rfl
    have hulz : ((ul : Int) == 0) = false := by rw [beq_eq_false_iff_ne]; omega
    have hwu : (wn : Int).tmod (ul : Int) = ((wn % ul : Nat) : Int) := by rw [Int.tmod_eq_emod_of_nonneg (by omega)]; rfl
    have hwul : wn % ul < ul := Nat.mod_lt _ hul0
    have hxm : us.getD (wn % ul) 0 ∈ us := by
     rw [List.getD_eq_getElem?_getD, List.getElem?_eq_getElem (by rw [← HUn.out]; exact hwul)]
     exact List.getElem_mem _
    have hused : m.used.getD (us.getD (wn % ul) 0) false = true := by rw [HUs.out] at hxm ⊢; exact mem_onesL.1 hxm
    obtain ⟨b2, o2, rfl, _, hcx⟩ := HCu.out.at (i := wn % ul) (by rw [List.length_map, ← HUn.out]; exact hwul)
    have hcx := hcx (wn % ul) (vi (us.getD (wn % ul) 0)) (by rw [List.getElem?_map, List.getElem?_eq_getElem (by rw [← HUn.out]; exact hwul), List.getD_eq_getElem?_getD, List.getElem?_eq_getElem (by rw [← HUn.out]; exact hwul)]; rfl)
    have h512 := (HOk.out.used_kind hused).1
    generalize us.getD (wn % ul) 0 = x at *
    generalize wn % ul = wu at *
    go_wp2_with fail
    go_meet
    exact ⟨x, rfl, .inr ⟨h512, hused⟩, rfl⟩
  case rest =>
   obtain ⟨at_, rfl, hat, rfl⟩ := hcut
   have hatB : at_ < 512 * B := by
    rcases hat with h | ⟨_, h⟩
    ·have := HC256.out; omega
    ·have := (HOk.out.used_kind h).2.1; omega
   have HAt := LH hat
   obtain ⟨bn, rfl⟩ := Int.eq_ofNat_of_zero_le ht1.1
   have hbm : (bn : Int).tmod 64 = ((bn % 64 : Nat) : Int) := by rw [Int.tmod_eq_emod_of_nonneg (by omega)]; rfl
   have hb63 : bn % 64 ≤ 63 := by omega
   generalize bn % 64 = bm at *
   have c1 := HMw4.out.cell 0 1 rfl rfl
   have HGe := LH (dget_any HA4.out.man.dev (at_ : Int))
   have hpk : peek m.bm.dev.cache (at_ : Int) = m.bm.dev.cache.getD at_ 0 := by unfold peek; rw [if_pos (by omega)]; rfl
   rw [hpk] at HGe
   have HOl : Hid (m.bm.dev.cache.getD at_ 0 < 18446744073709551616) := LH (by
    have hl : at_ < m.bm.dev.cache.length := by rw [HOk.out.len]; exact hatB
    rw [List.getD_eq_getElem?_getD, List.getElem?_eq_getElem hl]
    exact HA4.out.man.dev.u64C _ (List.getElem_mem _))
   have HOld : Hid (m.bm.dev.cache.getD at_ 0 = m.bm.dev.cache.getD at_ 0) := LH rfl
   obtain ⟨old, hold⟩ : ∃ old, old = m.bm.dev.cache.getD at_ 0 := ⟨_, rfl⟩
   rw [← hold] at HGe HOl
   have HOe := LH hold
   have hp64 : 2 ^ bm < 18446744073709551616 := Nat.pow_lt_pow_right (a := 2) (m := bm) (n := 64) (by decide) (by omega)
   have hsh : bits BinOp.xor IntKind.u64 (old : Int) (IntKind.u64.wrap (2 ^ bm)) = ((old ^^^ 2 ^ bm : Nat) : Int) := by
    have e : ((2 : Int) ^ bm) = ((2 ^ bm : Nat) : Int) := by rw [Int.natCast_pow]; rfl
    have h64 : ∀ P : Nat, P < 18446744073709551616 → IntKind.u64.wrap (P : Int) = (P : Int) := fun P h => IntWalk.u64_in _ (by omega)
    rw [e, h64 _ hp64, u64_xor_nat _ _ HOl.out hp64]
   have HXl : Hid (old ^^^ 2 ^ bm < 18446744073709551616) := LH (Nat.xor_lt_two_pow (n := 64) HOl.out hp64)
   have HXn : Hid (old ^^^ 2 ^ bm ≠ old) := LH (fun h => by
    have h1 : old ^^^ (old ^^^ 2 ^ bm) = 2 ^ bm := by rw [← Nat.xor_assoc, Nat.xor_self, Nat.zero_xor]
    rw [h, Nat.xor_self] at h1
    have := Nat.two_pow_pos bm
    omega)
   have HSh := LH hsh
   clear hpk hat hold HOld hp64 hsh
   go_wp2_with fail
   refine HGe.out.mono ?_
   rintro e w6 ⟨rfl, rfl⟩
   go_wp2_with fail
   rw [HSh.out]
   generalize old ^^^ 2 ^ bm = X at *
   refine (store_any HA4.out.man.dev (N := 31000000) (by omega) HSt.out (at_ : Int) X HXl.out).mono ?_
   rintro e w7 ⟨rfl, hd7, ht7⟩
   have hse := (turn_store HOk.out (v := X) hatB).1
   rw [hse]
   obtain ⟨hm7, ht7'⟩ := HA4.out.man.setDev hd7 ht7
   obtain ⟨R, ha7, ht8, _⟩ := HA4.out.setMan (Nat.le_refl _) hm7 ht7' (by show (m.bm.dev.store (at_ : Int) X).cache.length = _; exact store_clen _ _ _)
   have HA7 : Hid (AlAt w7 (A.re R) n B (m.turn at_ X)) := LH ha7
   have HM7 : Hid (MemR w2.heap.size w7 [⟨q8, 132, [valloc A, vdev A.X.F, .slice none 0 0], true⟩]) := LH (HMw4.out.r.apart ht8 (fun x hx => by
    obtain rfl := List.mem_singleton.1 hx
    exact fun hk => by have := HQ8.out _ (AF.hot_list hk); dsimp only at this; omega))
   have HB7 := LH (below_touched HB4.out ht8 (fun k hk => HNw.out k (AF.hot_list hk)) (Nat.le_refl _))
   clear hd7 ht7 hse hm7 ht7' ha7 ht8 HGe HA4 HMw4 HB4 HCu c1
   have HLn : Hid (m.bm.list.length = B) := LH HOk.out.bm.lenL
   have HW : Hid (∀ w', AlAt w' (A.re R) n B (m.turn at_ X) → (512 ≤ at_ → placedN (m.turn at_ X).bm.dev m.bm.list (at_ : Int) = none) → Calls Tryz.prog 78 #[valloc A] w' (BadPost w')) := LH (fun w' ha hpn => by
    rcases HAt.out with h | ⟨h5, hu⟩
    ·have e : at_ = 256 + b := by rw [h]; exact HC256.out
     subst e
     exact cwhole_hd (A := A.re R) ha (turn_head HOk.out hb1 hbB (by rw [← HOe.out]; exact HXn.out)) hB2 (by omega)
    ·exact cwhole_bad (A := A.re R) ha (turn_hdsOk HOk.out _ _) (turn_lg HLg.out _ _) (HOk.out.ckF.dev _) (HOk.out.upto.mono (show 512 * B ≤ 900000 by omega)) (turn_good HOk.out hatB h5 (by omega))
      (by rw [turn_hds HOk.out hatB h5 (by omega)]; exact sound_open HOk.out.bm HSn.out)
      (fun q hq => by rw [turn_hds HOk.out hatB h5 (by omega)]; exact hds_all HOk.out.bm q hq)
      (turn_bad HOk.out HLg.out hu (hpn h5)) hB2 (by omega))
   go_upto_if 84 with fail
   go_cut [14, 15, 16, 17] from 83 (fun _ _ _ _ wc => Hid (AlAt wc (A.re R) n B (m.turn at_ X)) ∧ Hid (MemR w2.heap.size wc [⟨q8, 132, [valloc A, vdev A.X.F, .slice none 0 0], true⟩]) ∧ Hid (Below w.heap.size w wc) ∧ Hid (Calls Tryz.prog 78 #[valloc A] wc (BadPost wc)))
   case first =>
    by_cases h5 : 512 ≤ at_
    ·have h5' : decide ((512 : Int) ≤ (at_ : Int)) = true := by simp; omega
     have c1 := HM7.out.cell 0 1 rfl rfl
     have HHd := LH (ohead_any HA7.out.man.dev (at_ : Int))
     have HCd : Hid ((headN (m.turn at_ X).bm.dev (at_ : Int)).code ≠ 0 → placedN (m.turn at_ X).bm.dev m.bm.list (at_ : Int) = none) := LH (fun h => by
      cases hp : placedN (m.turn at_ X).bm.dev m.bm.list (at_ : Int) with
      | none => rfl
      | some o => obtain ⟨h1, h2, _⟩ := placed_head hp; rw [h1] at h; exact absurd h2 h)
     generalize headN (m.turn at_ X).bm.dev (at_ : Int) = o at *
     obtain ⟨op, od, oc⟩ := o
     unfold Odec.val at HHd
     dsimp only at HHd HCd
     go_wp2_with fail
     refine HHd.out.mono ?_
     rintro e w8 ⟨rfl, hb8⟩
     have HA8 := LH ((HA7.out.below hb8).below (below_alloc w8 (.cells #[.int .i64 op, .int .i64 od] 169)))
     have HM8 := LH ((HM7.out.later hb8).later (below_alloc w8 (.cells #[.int .i64 op, .int .i64 od] 169)))
     have HB8 : Hid (Below w.heap.size w (w8.alloc (.cells #[.int .i64 op, .int .i64 od] 169))) := LH ((HB7.out.trans (hb8.mono HB7.out.size)).trans ((below_alloc w8 _).mono (Nat.le_trans HB7.out.size hb8.size)))
     clear hb8 c1 HHd HA7 HM7 HB7
     go_upto_region 17 with fail
     generalize w8.alloc _ = w9 at *
     have HCl : Hid ((m.turn at_ X).bm.dev.cache.length ≤ 1000000) := LH (by
      show (m.bm.dev.store (at_ : Int) X).cache.length ≤ 1000000
      rw [store_clen, HOk.out.len]; omega)
     have HPl := LH (fun w' gl kl (ha : AlAt w' (A.re R) n B (m.turn at_ X)) (hc : Cells w' (some ⟨gl, 0, none⟩) (hdCs m.bm.list)) => aplaced_any ha.man.dev (some ⟨gl, 0, none⟩) B kl m.bm.list HLn.out hc (by omega) HCl.out (at_ : Int))
     generalize hpp : placedN (m.turn at_ X).bm.dev m.bm.list (at_ : Int) = pl at *
     go_cut [16, 17] from 92 (fun ov kv wd => ∃ g : Nat, ov = .pointer (some ⟨g, 0, none⟩) ∧ kv = .bool pl.isSome ∧ Hid (AlAt wd (A.re R) n B (m.turn at_ X)) ∧ Hid (MemR w2.heap.size wd [⟨q8, 132, [valloc A, vdev A.X.F, .slice none 0 0], true⟩]) ∧ Hid (Below w.heap.size w wd))
     case first =>
      have c0 := HM8.out.cell 0 0 rfl rfl
      have c1 := HM8.out.cell 0 1 rfl rfl
      have a0 : w9.cell? ⟨A.a, 0, none⟩ = some (.pointer (some ⟨A.X.m, 0, none⟩)) := HA8.out.c0
      have m0 : w9.cell? ⟨A.X.m, 0, none⟩ = some (.pointer (some ⟨A.X.t, 0, none⟩)) := HA8.out.man.c0
      have r0 := fun x => later_cell c0 x
      have r1 := fun x => later_cell c1 x
      have r2 := fun x => later_cell a0 x
      have r3 := fun x => later_cell m0 x
      clear c0 c1 a0 m0
      refine wp_region_tr (C := fun w' => ∃ x : Later (w9), w' = x.val) (.fl [0, 1, 2, 3, 4, 5, 6, 8, 9, 10, 11, 12, 13, 14, 15, 17] (.br 7 true (.br 16 true (.br 18 false (.pu [19, 20, 21] (.sq [22] true (.sq [23, 24] false (.nil)))) 22 true (.sq [18, 19] false (.pu [20, 21] (.sq [23, 24] false (.nil))))) 22 true (.sq [16] true (.sq [18, 19] false (.pu [20, 21] (.sq [23, 24] false (.nil)))))) 22 true (.sq [7] true (.sq [16] true (.sq [18, 19] false (.pu [20, 21] (.sq [23, 24] false (.nil)))))))) (by kernel_rfl) (by kernel_rfl) (by intro c a d v w h; cases d <;> exact h) ?_
      simp only [trO, picks, List.getElem?_cons_succ, List.getElem?_cons_zero]
      have hC1 := later_drew (w9)
      refine wpTr_fl hC1 ?_
      repeat (first | go_big_quiet_step (fail) | quiet_step (fail))
      refine wpQuiet_nil ?_
      clear r0 r1 r2 r3
      have HA9 := LH (HA8.out.below (later_below hC1))
      have HM9 := LH (HM8.out.later (later_below hC1))
      have HB9 := LH (HB8.out.trans ((later_below hC1).mono HB8.out.size))
      generalize w9.drew = x0 at *
      refine wpTr_br ?_ ?_
      ·refine wpTr_sq (fun K hK => ?_)
       go_wp2_with fail
       refine (bgeom_any HA9.out.man).mono ?_
       rintro e y101 ⟨rfl, hb⟩
       have HA101 := LH (HA9.out.below hb)
       have HM101 := LH (HM9.out.later hb)
       have HB101 := LH (HB9.out.trans (hb.mono HB9.out.size))
       have hC101 := later_step hC1 hb
       clear hb
       go_wp2_with fail
       refine hK _ _ (fun _ => hC101) ?_
       clear hK K
       refine wpTr_br ?_ ?_
       ·refine wpTr_sq (fun K hK => ?_)
        go_wp2_with fail
        refine (tall_any HA101.out.man.tab (by omega)).mono ?_
        rintro e y102 ⟨gl, kl, rfl, _, _, hrow, hb⟩
        have HA102 := LH (HA101.out.below hb)
        have HM102 := LH (HM101.out.later hb)
        have HB102 := LH (HB101.out.trans (hb.mono HB101.out.size))
        have hC102 := later_step hC101 hb
        have HRw102 := LH hrow.cells
        clear hb hrow
        go_wp2_with fail
        refine hK _ _ (fun _ => hC102) ?_
        clear hK K
        refine wpTr_br ?_ ?_
        ·refine wpTr_sq (fun K hK => ?_)
         go_wp2_with fail
         refine (HPl.out _ gl kl HA102.out HRw102.out).mono ?_
         rintro e y103 ⟨⟨pp, dd, rfl, _⟩, hb⟩
         rw [hpp]
         have HA103 := LH (HA102.out.below hb)
         have HM103 := LH (HM102.out.later hb)
         have HB103 := LH (HB102.out.trans (hb.mono HB102.out.size))
         have hC103 := later_step hC102 hb
         have HRw103 := LH (HRw102.out.below hb (Nat.le_refl _))
         clear hb
         go_wp2_with fail
         refine hK _ _ (fun h => nomatch h) ?_
         clear hK K
         refine wpTr_pu ?_
         repeat (first | go_big_quiet_step (fail) | quiet_step (fail))
         refine wpQuiet_nil ?_
         refine wpTr_sq (fun K hK => ?_)
         go_wp2_with fail
         have hb := below_alloc y103 (.cells #[.int .i64 0, .int .i64 0] 169)
         have HO104 := LH (Mem.one y103 #[.int .i64 0, .int .i64 0] 169)
         have HG104 : Hid (∀ j ∈ (A.re R).list, j < y103.heap.size) := LH HA103.out.mem
         have HGw104 : Hid (w.heap.size ≤ y103.heap.size ∧ w2.heap.size ≤ y103.heap.size ∧ q8 < y103.heap.size) := LH ⟨HB103.out.size, HM103.out.size, HM103.out.glt 0 rfl⟩
         have HA104 := LH (HA103.out.below hb)
         have HM104 := LH (HM103.out.later hb)
         have HB104 := LH (HB103.out.trans (hb.mono HB103.out.size))
         have hC104 := later_step hC103 hb
         have HRw104 := LH (HRw103.out.below hb (Nat.le_refl _))
         clear hb
         go_wp2_with fail
         refine hK _ _ (fun _ => hC104) ?_
         clear hK K
         generalize y103.alloc _ = y104 at *
         obtain ⟨g, hg⟩ : ∃ g, g = y103.heap.size := ⟨_, rfl⟩
         rw [← hg] at HO104 HG104 HGw104 ⊢
         clear hg
         refine wpTr_last ?_
         go_wp2_with (refine wpList_store_mem aggOb HO104.out 0 rfl rfl rfl rfl rfl rfl rfl rfl ?_; intro w6 h6 ht6; have HT6 := LH ht6; clear h6 ht6)
         go_meet
         refine ⟨g, rfl, rfl, LH (HA104.out.keep (fun j hj => HT6.out.block j (HA104.out.mem j hj) (by simp; have := HG104.out j hj; omega))), LH (HM104.out.apart HT6.out (fun x hx => by obtain rfl := List.mem_singleton.1 hx; simp; have := HGw104.out; omega)), LH (below_touched HB104.out HT6.out (fun j hj => by simp at hj; subst hj; exact HGw104.out.1) (Nat.le_refl _))⟩
        ·refine wpTr_sq (fun K hK => ?_)
         go_wp2_with fail
         have hb := below_alloc y102 (.cells #[.int .i64 0, .int .i64 0] 169)
         have HO105 := LH (Mem.one y102 #[.int .i64 0, .int .i64 0] 169)
         have HG105 : Hid (∀ j ∈ (A.re R).list, j < y102.heap.size) := LH HA102.out.mem
         have HGw105 : Hid (w.heap.size ≤ y102.heap.size ∧ w2.heap.size ≤ y102.heap.size ∧ q8 < y102.heap.size) := LH ⟨HB102.out.size, HM102.out.size, HM102.out.glt 0 rfl⟩
         have HA105 := LH (HA102.out.below hb)
         have HM105 := LH (HM102.out.later hb)
         have HB105 := LH (HB102.out.trans (hb.mono HB102.out.size))
         have hC105 := later_step hC102 hb
         have HRw105 := LH (HRw102.out.below hb (Nat.le_refl _))
         clear hb
         go_wp2_with fail
         refine hK _ _ (fun _ => hC105) ?_
         clear hK K
         generalize y102.alloc _ = y105 at *
         obtain ⟨g, hg⟩ : ∃ g, g = y102.heap.size := ⟨_, rfl⟩
         rw [← hg] at HO105 HG105 HGw105 ⊢
         clear hg
         refine wpTr_sq (fun K hK => ?_)
         go_wp2_with fail
         refine (HPl.out _ gl kl HA105.out HRw105.out).mono ?_
         rintro e y106 ⟨⟨pp, dd, rfl, _⟩, hb⟩
         rw [hpp]
         have HA106 := LH (HA105.out.below hb)
         have HM106 := LH (HM105.out.later hb)
         have HB106 := LH (HB105.out.trans (hb.mono HB105.out.size))
         have hC106 := later_step hC105 hb
         have HRw106 := LH (HRw105.out.below hb (Nat.le_refl _))
         have HO106 := LH (HO105.out.later hb)
         clear hb
         go_wp2_with fail
         refine hK _ _ (fun h => nomatch h) ?_
         clear hK K
         refine wpTr_pu ?_
         repeat (first | go_big_quiet_step (fail) | quiet_step (fail))
         refine wpQuiet_nil ?_
         refine wpTr_last ?_
         go_wp2_with (refine wpList_store_mem aggOb HO106.out 0 rfl rfl rfl rfl rfl rfl rfl rfl ?_; intro w6 h6 ht6; have HT6 := LH ht6; clear h6 ht6)
         go_meet
         refine ⟨g, rfl, rfl, LH (HA106.out.keep (fun j hj => HT6.out.block j (HA106.out.mem j hj) (by simp; have := HG105.out j hj; omega))), LH (HM106.out.apart HT6.out (fun x hx => by obtain rfl := List.mem_singleton.1 hx; simp; have := HGw105.out; omega)), LH (below_touched HB106.out HT6.out (fun j hj => by simp at hj; subst hj; exact HGw105.out.1) (Nat.le_refl _))⟩
       ·refine wpTr_sq (fun K hK => ?_)
        go_wp2_with fail
        have hb := below_alloc y101 (.cells #[.int .i64 0, .int .i64 0] 169)
        have HO107 := LH (Mem.one y101 #[.int .i64 0, .int .i64 0] 169)
        have HG107 : Hid (∀ j ∈ (A.re R).list, j < y101.heap.size) := LH HA101.out.mem
        have HGw107 : Hid (w.heap.size ≤ y101.heap.size ∧ w2.heap.size ≤ y101.heap.size ∧ q8 < y101.heap.size) := LH ⟨HB101.out.size, HM101.out.size, HM101.out.glt 0 rfl⟩
        have HA107 := LH (HA101.out.below hb)
        have HM107 := LH (HM101.out.later hb)
        have HB107 := LH (HB101.out.trans (hb.mono HB101.out.size))
        have hC107 := later_step hC101 hb
        clear hb
        go_wp2_with fail
        refine hK _ _ (fun _ => hC107) ?_
        clear hK K
        generalize y101.alloc _ = y107 at *
        obtain ⟨g, hg⟩ : ∃ g, g = y101.heap.size := ⟨_, rfl⟩
        rw [← hg] at HO107 HG107 HGw107 ⊢
        clear hg
        refine wpTr_sq (fun K hK => ?_)
        go_wp2_with fail
        refine (tall_any HA107.out.man.tab (by omega)).mono ?_
        rintro e y108 ⟨gl, kl, rfl, _, _, hrow, hb⟩
        have HA108 := LH (HA107.out.below hb)
        have HM108 := LH (HM107.out.later hb)
        have HB108 := LH (HB107.out.trans (hb.mono HB107.out.size))
        have hC108 := later_step hC107 hb
        have HRw108 := LH hrow.cells
        have HO108 := LH (HO107.out.later hb)
        clear hb hrow
        go_wp2_with fail
        refine hK _ _ (fun _ => hC108) ?_
        clear hK K
        refine wpTr_sq (fun K hK => ?_)
        go_wp2_with fail
        refine (HPl.out _ gl kl HA108.out HRw108.out).mono ?_
        rintro e y109 ⟨⟨pp, dd, rfl, _⟩, hb⟩
        rw [hpp]
        have HA109 := LH (HA108.out.below hb)
        have HM109 := LH (HM108.out.later hb)
        have HB109 := LH (HB108.out.trans (hb.mono HB108.out.size))
        have hC109 := later_step hC108 hb
        have HRw109 := LH (HRw108.out.below hb (Nat.le_refl _))
        have HO109 := LH (HO108.out.later hb)
        clear hb
        go_wp2_with fail
        refine hK _ _ (fun h => nomatch h) ?_
        clear hK K
        refine wpTr_pu ?_
        repeat (first | go_big_quiet_step (fail) | quiet_step (fail))
        refine wpQuiet_nil ?_
        refine wpTr_last ?_
        go_wp2_with (refine wpList_store_mem aggOb HO109.out 0 rfl rfl rfl rfl rfl rfl rfl rfl ?_; intro w6 h6 ht6; have HT6 := LH ht6; clear h6 ht6)
        go_meet
        refine ⟨g, rfl, rfl, LH (HA109.out.keep (fun j hj => HT6.out.block j (HA109.out.mem j hj) (by simp; have := HG107.out j hj; omega))), LH (HM109.out.apart HT6.out (fun x hx => by obtain rfl := List.mem_singleton.1 hx; simp; have := HGw107.out; omega)), LH (below_touched HB109.out HT6.out (fun j hj => by simp at hj; subst hj; exact HGw107.out.1) (Nat.le_refl _))⟩
      ·refine wpTr_sq (fun K hK => ?_)
       go_wp2_with fail
       have hb := below_alloc x0 (.cells #[.int .i64 0, .int .i64 0] 169)
       have HO110 := LH (Mem.one x0 #[.int .i64 0, .int .i64 0] 169)
       have HG110 : Hid (∀ j ∈ (A.re R).list, j < x0.heap.size) := LH HA9.out.mem
       have HGw110 : Hid (w.heap.size ≤ x0.heap.size ∧ w2.heap.size ≤ x0.heap.size ∧ q8 < x0.heap.size) := LH ⟨HB9.out.size, HM9.out.size, HM9.out.glt 0 rfl⟩
       have HA110 := LH (HA9.out.below hb)
       have HM110 := LH (HM9.out.later hb)
       have HB110 := LH (HB9.out.trans (hb.mono HB9.out.size))
       have hC110 := later_step hC1 hb
       clear hb
       go_wp2_with fail
       refine hK _ _ (fun _ => hC110) ?_
       clear hK K
       generalize x0.alloc _ = y110 at *
       obtain ⟨g, hg⟩ : ∃ g, g = x0.heap.size := ⟨_, rfl⟩
       rw [← hg] at HO110 HG110 HGw110 ⊢
       clear hg
       refine wpTr_sq (fun K hK => ?_)
       go_wp2_with fail
       refine (bgeom_any HA110.out.man).mono ?_
       rintro e y111 ⟨rfl, hb⟩
       have HA111 := LH (HA110.out.below hb)
       have HM111 := LH (HM110.out.later hb)
       have HB111 := LH (HB110.out.trans (hb.mono HB110.out.size))
       have hC111 := later_step hC110 hb
       have HO111 := LH (HO110.out.later hb)
       clear hb
       go_wp2_with fail
       refine hK _ _ (fun _ => hC111) ?_
       clear hK K
       refine wpTr_sq (fun K hK => ?_)
       go_wp2_with fail
       refine (tall_any HA111.out.man.tab (by omega)).mono ?_
       rintro e y112 ⟨gl, kl, rfl, _, _, hrow, hb⟩
       have HA112 := LH (HA111.out.below hb)
       have HM112 := LH (HM111.out.later hb)
       have HB112 := LH (HB111.out.trans (hb.mono HB111.out.size))
       have hC112 := later_step hC111 hb
       have HRw112 := LH hrow.cells
       have HO112 := LH (HO111.out.later hb)
       clear hb hrow
       go_wp2_with fail
       refine hK _ _ (fun _ => hC112) ?_
       clear hK K
       refine wpTr_sq (fun K hK => ?_)
       go_wp2_with fail
       refine (HPl.out _ gl kl HA112.out HRw112.out).mono ?_
       rintro e y113 ⟨⟨pp, dd, rfl, _⟩, hb⟩
       rw [hpp]
       have HA113 := LH (HA112.out.below hb)
       have HM113 := LH (HM112.out.later hb)
       have HB113 := LH (HB112.out.trans (hb.mono HB112.out.size))
       have hC113 := later_step hC112 hb
       have HRw113 := LH (HRw112.out.below hb (Nat.le_refl _))
       have HO113 := LH (HO112.out.later hb)
       clear hb
       go_wp2_with fail
       refine hK _ _ (fun h => nomatch h) ?_
       clear hK K
       refine wpTr_pu ?_
       repeat (first | go_big_quiet_step (fail) | quiet_step (fail))
       refine wpQuiet_nil ?_
       refine wpTr_last ?_
       go_wp2_with (refine wpList_store_mem aggOb HO113.out 0 rfl rfl rfl rfl rfl rfl rfl rfl ?_; intro w6 h6 ht6; have HT6 := LH ht6; clear h6 ht6)
       go_meet
       refine ⟨g, rfl, rfl, LH (HA113.out.keep (fun j hj => HT6.out.block j (HA113.out.mem j hj) (by simp; have := HG110.out j hj; omega))), LH (HM113.out.apart HT6.out (fun x hx => by obtain rfl := List.mem_singleton.1 hx; simp; have := HGw110.out; omega)), LH (below_touched HB113.out HT6.out (fun j hj => by simp at hj; subst hj; exact HGw110.out.1) (Nat.le_refl _))⟩
     case rest =>
      obtain ⟨g, rfl, rfl, HAe, HMe, HBe⟩ := hcut
      clear HPl HA8 HM8 HB8
      by_cases hoc : oc = 0
      ·subst hoc
       cases pl with
       | some z =>
        have HFin := LH (HP.out wc HBe.out)
        go_wp2_with fail
        exact HFin.out
       | none =>
        have HWh := LH (HW.out wc HAe.out (fun _ => rfl))
        go_wp2_with fail
        go_meet
        exact ⟨HAe, HMe, HBe, HWh⟩
      ·have hoc' : (oc == 0) = false := by simpa using hoc
       have HWh := LH (HW.out wc HAe.out (fun _ => HCd.out hoc))
       go_wp2_with fail
       go_meet
       exact ⟨HAe, HMe, HBe, HWh⟩
    ·have h5' : decide ((512 : Int) ≤ (at_ : Int)) = false := by simp; omega
     have HWh := LH (HW.out w7 HA7.out (fun h => absurd h h5))
     go_wp2_with fail
     go_meet
     exact ⟨HA7, HM7, HB7, HWh⟩
   case rest =>
    obtain ⟨HAc, HMc, HBc, HWc⟩ := hcut
    have c0 := HMc.out.cell 0 0 rfl rfl
    clear HW HA7 HM7 HB7
    go_wp2_with fail
    refine HWc.out.mono ?_
    rintro e w10 ⟨ea, er, her, rfl, hb10⟩
    have hes : (er != 0) = true := by simpa using her
    rw [show zeroRep.cs.toArray = #[.int .i64 0, .int .i64 0, .int .i64 0, .int .i64 0, .int .i64 0, .int .i64 0, .int .i64 0] from rfl]
    have HM11 := LH (Mem.one w10 #[.int .i64 0, .int .i64 0, .int .i64 0, .int .i64 0, .int .i64 0, .int .i64 0, .int .i64 0] 157)
    have HB11 : Hid (Below w.heap.size w (w10.alloc (.cells #[.int .i64 0, .int .i64 0, .int .i64 0, .int .i64 0, .int .i64 0, .int .i64 0, .int .i64 0] 157))) := LH ((HBc.out.trans (hb10.mono HBc.out.size)).trans (HM11.out.below.mono (Nat.le_trans HBc.out.size hb10.size)))
    clear hb10 c0
    go_upto_region 21 with fail
    obtain ⟨q, hq⟩ : ∃ q, q = w10.heap.size := ⟨_, rfl⟩
    rw [← hq] at HM11 ⊢
    generalize w10.alloc _ = w11 at *
    clear hq
    have d0 := HM11.out.cell 0 0 rfl rfl
    have d1 := HM11.out.cell 0 1 rfl rfl
    have d2 := HM11.out.cell 0 2 rfl rfl
    have d3 := HM11.out.cell 0 3 rfl rfl
    have d4 := HM11.out.cell 0 4 rfl rfl
    have d5 := HM11.out.cell 0 5 rfl rfl
    have d6 := HM11.out.cell 0 6 rfl rfl
    have HFin := LH (HP.out w11 HB11.out)
    go_wp2_with fail
    exact HFin.out
end Go.Proofs.YtpopbfagliagnaaGreat
namespace Go.Proofs.YtpopbfagliagnaaGreat
open Go.RowKit Go.ChangeShapes Go.WideShapes Go.Deep
theorem wf_bounds {x : Int} (h : (Lit.int .i64 x).wf = true) : -9223372036854775808 ≤ x ∧ x ≤ 9223372036854775807 := by
 simp [Lit.wf, IntKind.min, IntKind.max, IntKind.bits, IntKind.signed] at h
 omega
theorem list_of {α : Type} (P : Nat → α → Prop) : ∀ n, (∀ i, i < n → ∃ x, P i x) → ∃ l : List α, l.length = n ∧ ∀ i x, l[i]? = some x → P i x
 | 0, _ => ⟨[], rfl, by simp⟩
 | n + 1, h => by
  obtain ⟨l, hl, hp⟩ := list_of P n (fun i hi => h i (by omega))
  obtain ⟨x, hx⟩ := h n (by omega)
  refine ⟨l ++ [x], by simp [hl], fun i y hy => ?_⟩
  by_cases hi : i < l.length
  ·rw [List.getElem?_append_left hi] at hy; exact hp i y hy
  ·rw [List.getElem?_append_right (by omega)] at hy
   have h0 : i - l.length = 0 := by
    have := (List.getElem?_eq_some_iff.1 hy).1; simp at this; omega
   rw [h0] at hy
   simp at hy
   subst hy
   rw [show i = n by omega]; exact hx
section
variable {H : Type} {enc : TypeId × Value → H} {P : Program} {w : World} {base : Nat} {spare : Nat → Bool} {held : Bool}
theorem ints_struct {e T : TypeId} {fs : Array Field} {n fuel : Nat} {us : List Value} {z : DataW H × List MemPlace} (he : P.underlying e = some (.struct fs)) (hT : P.underlying T = some (.int .i64)) (hc : P.cellsOf T = 1)
  (hF : ((List.range n).all fun j => match fs[j]? with | some f => f.type == T && f.offset == j | none => false) = true) (hlen : us.length = n) (hz : DataW.trod enc P w base spare held fuel e us = some z) :
  ∃ zs : List Int, zs.length = n ∧ us = zs.map (Value.int .i64) ∧ ∀ x ∈ zs, -9223372036854775808 ≤ x ∧ x ≤ 9223372036854775807 := by
 obtain ⟨ys, n', _, _, _, hyl, hf⟩ := DataW.trod_struct he hz
 have each : ∀ j, j < n → ∃ x : Int, us[j]? = some (.int .i64 x) ∧ (-9223372036854775808 ≤ x ∧ x ≤ 9223372036854775807) := by
  intro j hj
  have h1 := List.all_eq_true.1 hF j (List.mem_range.2 hj)
  cases hfj : fs[j]? with
  | none => rw [hfj] at h1; cases h1
  | some f =>
   rw [hfj] at h1
   simp only [Bool.and_eq_true, beq_iff_eq] at h1
   have h2 := hf j f hfj
   rw [h1.1, h1.2, hc] at h2
   have hjs : j < ys.length := by rw [hyl]; exact (Array.getElem?_eq_some_iff.1 hfj).1
   rw [List.getElem?_eq_getElem hjs] at h2
   have hju : j < us.length := by omega
   have h3 : (us.drop j).take 1 = [us[j]] := by rw [List.drop_eq_getElem_cons hju]; rfl
   rw [h3] at h2
   obtain ⟨x, hx, _, hw⟩ := DataW.trod_int hT h2
   have hx' : us[j] = .int .i64 x := by simpa using hx
   exact ⟨x, by rw [List.getElem?_eq_getElem hju, hx'], wf_bounds hw⟩
 obtain ⟨zs, hl, hp⟩ := list_of (fun j x => us[j]? = some (.int .i64 x) ∧ (-9223372036854775808 ≤ x ∧ x ≤ 9223372036854775807)) n each
 refine ⟨zs, hl, ?_, fun x hx => ?_⟩
 ·apply List.ext_getElem?
  intro i
  by_cases hi : i < zs.length
  ·rw [(hp i _ (List.getElem?_eq_getElem hi)).1, List.getElem?_map, List.getElem?_eq_getElem hi]; rfl
  ·rw [List.getElem?_eq_none (by omega), List.getElem?_eq_none (by simp; omega)]
 ·obtain ⟨i, hi, rfl⟩ := List.mem_iff_getElem.1 hx
  exact (hp i _ (List.getElem?_eq_getElem hi)).2
theorem recs_ints_read {α : Type} {f : α → List Value} {n : Nat} (hfl : ∀ x, (f x).length = n) (hn : 0 < n) (d : α) (mk : List Int → α) (hmk : ∀ zs : List Int, zs.length = n → f (mk zs) = zs.map (Value.int .i64))
  {t e T : TypeId} {fs : Array Field} {fuel : Nat} {v : Value} {y : DataW H × List MemPlace} (ht : P.underlying t = some (.slice e)) (he : P.underlying e = some (.struct fs)) (hT : P.underlying T = some (.int .i64)) (hC : P.cellsOf e = n) (hc : P.cellsOf T = 1)
  (hF : ((List.range n).all fun j => match fs[j]? with | some f => f.type == T && f.offset == j | none => false) = true) (h : DataW.trod enc P w base spare held fuel t [v] = some y) :
  ∃ (a : Option Addr) (len cap : Nat) (l : List α), v = .slice a len cap ∧ l.length = len ∧ Cells w a (recs f l) ∧ (∀ o ∈ l, ∃ zs : List Int, o = mk zs ∧ zs.length = n ∧ ∀ x ∈ zs, -9223372036854775808 ≤ x ∧ x ≤ 9223372036854775807) ∧ len ≤ maxLen := by
 obtain ⟨a, len, cap, m, rfl, hl, hm, hcs⟩ := elems_read ht hC hn h
 rcases hcs with rfl | ⟨b, off, rfl, hcs⟩
 ·exact ⟨a, 0, cap, [], rfl, rfl, Cells.nil _ _, by simp, Nat.zero_le _⟩
 ·have each : ∀ i, i < len → ∃ x : α, (∀ r u, (f x)[r]? = some u → w.cell? ⟨b, off + i * n + r, none⟩ = some u) ∧ ∃ zs : List Int, x = mk zs ∧ zs.length = n ∧ ∀ x ∈ zs, -9223372036854775808 ≤ x ∧ x ≤ 9223372036854775807 := by
   intro i hi
   obtain ⟨us, z, hlen, hat, hz⟩ := hcs i hi
   obtain ⟨zs, h1, h2, h3⟩ := ints_struct he hT hc hF hlen hz
   exact ⟨mk zs, fun r u hr => by rw [hmk zs h1, ← h2] at hr; exact hat r u hr, zs, rfl, h1, h3⟩
  obtain ⟨l, hll, hcl, hok⟩ := recs_of hfl hn d each
  exact ⟨_, len, cap, l, rfl, hll, hcl, hok, by omega⟩
end
end Go.Proofs.YtpopbfagliagnaaGreat
namespace Go.Proofs.YtpopbfagliagnaaGreat
open Go.RowKit Go.ChangeShapes Go.WideShapes
section
variable {H : Type} {enc : TypeId × Value → H} {P : Program} {w : World} {base b0 : Nat} {r : Reach} {spare : Nat → Bool} {held : Bool}
theorem open_arr {t e : TypeId} {n : Nat} {v : Value} {d : DataW H} {p : List MemPlace} (hs : P.underlying t = some (.array n e)) (hone : P.cellsOf e = 1) (hC : P.cellsOf t = n)
  (hv : Value.okWide P w r b0 t v) (h : DataW.Trod enc P w base spare held t v d p) :
  ∃ (cs : Array Value) (m : Nat), v = .agg cs ∧ cs.size = n ∧ ∀ (i : Nat) (u : Value), cs[i]? = some u → ∃ y, DataW.trod enc P w base spare held m e [u] = some y := by
 simp only [Value.okWide, hs] at hv
 obtain ⟨cs, rfl, hsz, _⟩ := hv
 obtain ⟨fuel, hf⟩ := h
 obtain ⟨xs, m, _, _, _, hl, hel⟩ := DataW.trod_array hs hf
 refine ⟨cs, m, rfl, hsz.trans hC, fun i u hi => ?_⟩
 have hin : i < n := by have := (Array.getElem?_eq_some_iff.1 hi).1; omega
 have h1 := hel i hin
 have e1 : (((Value.agg cs).cells.toList.drop (i * P.cellsOf e)).take (P.cellsOf e)) = [u] := by
  rw [hone, Nat.mul_one]
  show (cs.toList.drop i).take 1 = [u]
  have hlt : i < cs.toList.length := by simpa using (Array.getElem?_eq_some_iff.1 hi).1
  rw [List.drop_eq_getElem_cons hlt]
  simp
  exact (Array.getElem?_eq_some_iff.1 hi).2
 rw [e1] at h1
 exact ⟨xs[i]'(by omega), by rw [h1]; exact List.getElem?_eq_getElem (by omega)⟩
theorem open_arr2 {t e : TypeId} {v : Value} {d : DataW H} {p : List MemPlace} (hs : P.underlying t = some (.array 2 e)) (hone : P.cellsOf e = 1) (hC : P.cellsOf t = 2)
  (hv : Value.okWide P w r b0 t v) (h : DataW.Trod enc P w base spare held t v d p) :
  ∃ (c0 c1 : Value) (m : Nat) (y0 y1 : DataW H × List MemPlace), v = .agg #[c0, c1] ∧ DataW.trod enc P w base spare held m e [c0] = some y0 ∧ DataW.trod enc P w base spare held m e [c1] = some y1 := by
 obtain ⟨cs, m, rfl, hsz, he⟩ := open_arr hs hone hC hv h
 obtain ⟨l⟩ := cs
 match l, hsz with
 | [c0, c1], _ =>
  obtain ⟨y0, h0⟩ := he 0 c0 rfl
  obtain ⟨y1, h1⟩ := he 1 c1 rfl
  exact ⟨c0, c1, m, y0, y1, rfl, h0, h1⟩
end
end Go.Proofs.YtpopbfagliagnaaGreat
namespace Go.Proofs.YtpopbfagliagnaaGreat
open Go.RowKit Go.ChangeShapes Go.WideShapes Go.Deep
section
variable {H : Type} {enc : TypeId × Value → H} {P : Program} {w : World} {base : Nat} {spare : Nat → Bool} {held : Bool}
theorem wf_u16 {x : Int} (h : (Lit.int .u16 x).wf = true) : 0 ≤ x ∧ x ≤ 65535 := by
 simp [Lit.wf, IntKind.min, IntKind.max, IntKind.bits, IntKind.signed] at h
 omega
end
section
variable {H : Type} {enc : TypeId × Value → H} {P : Program} {w : World} {base : Nat} {spare : Nat → Bool} {held : Bool}
theorem wf_u8b {x : Int} (h : (Lit.int .u8 x).wf = true) : 0 ≤ x ∧ x ≤ 255 := by
 simp [Lit.wf, IntKind.min, IntKind.max, IntKind.bits, IntKind.signed] at h
 omega
theorem byte_read {T : TypeId} {fuel : Nat} {c : Value} {z : DataW H × List MemPlace} (hT : P.underlying T = some (.int .u8)) (hz : DataW.trod enc P w base spare held fuel T [c] = some z) : ∃ x : Int, c = .int .u8 x ∧ 0 ≤ x ∧ x ≤ 255 := by
 obtain ⟨x, hx, _, hw⟩ := DataW.trod_int hT hz
 exact ⟨x, by simpa using hx, wf_u8b hw⟩
end
end Go.Proofs.YtpopbfagliagnaaGreat
