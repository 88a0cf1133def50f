/- Parts of the proof, one behind the other: Fi, Fj, Fk, Wc, Fl, Wl, Ws, M, Fn, Fo, Fp, Fq, Fr, Zd, Jx, Zi, Zj, Sb, Js, Zh, Zk, Ga, Gb, Gc, Fs, Gd, Zo, Wd, Ge, Tx, Ft, Fu, Pa, Pb, Th, Pc, Ti, Ha, Ta, Tb, Tj, Kb, Fv, Fw, Fx, Pf, Kc, Kd, Kf, Kg, Kh, Ki, Kj, Kk, Kl, Cn, Co, Cq, Gs, Cu. -/
import Derived.Test.YtpopbfagliagnaaGreatCF10
import Derived.Deep.DeepCutAuto
import Derived.Deep.CutBlock
import Derived.WalkKit
import Derived.Deep.Cut
import Derived.Test.YtpopbfagliagnaaGreatProg
import Derived.Shelf.Strings.Builder1
import Derived.OrdersIn
import Derived.RangeFuncNested
set_option linter.unusedVariables false
namespace Go.Proofs.YtpopbfagliagnaaGreat
open Go.RowKit Go.Maps
theorem bm_smallL {B : Nat} {b : Bm} (h : BmOk B b) : ∀ i, (b.list.getD i default).l ≤ 100000 := fun i => by
 by_cases hi : i < B
 ·have := of_decide_eq_true (h.right i hi)
  unfold HdRight at this
  omega
 ·rw [List.getD_eq_getElem?_getD, List.getElem?_eq_none (by rw [h.lenL]; omega)]
  show (0 : Int) ≤ 100000
  decide
theorem aput_any {w : World} {A : AF} {n B : Nat} {m : Al} (h : AlAt w A n B m) (hL : m.fl.upto 900000) (hn : n < 1000000000000) (mu k a : Nat) (hm4 : mu < 4) (hk : k < 32) :
  Calls Tryz.prog 172 #[.pointer (some ⟨A.f, 0, none⟩), .int .i64 (mu : Int), .int .i64 (k : Int), .int .i64 (a : Int)] w fun e w' => e = .returned (.int .i64 (if m.fl.has k a then 41 else 0)) ∧ AlGo w w' A (n + 2) B ⟨m.bm, m.used, m.fl.put mu k a⟩ := by
 refine (fput_any h.free hL hn mu k a hm4 hk).mono ?_
 rintro e w' ⟨rfl, hg⟩
 exact ⟨rfl, h.setFree (by omega) hg⟩
theorem apush_any {w : World} {A : AF} {n B : Nat} {m : Al} (h : AlAt w A n B m) (hL : m.fl.upto 1000000) (k a : Nat) (hk : k < 32) :
  Calls Tryz.prog 171 #[.pointer (some ⟨A.f, 0, none⟩), .int .i64 (k : Int), .int .i64 (a : Int)] w fun e w' => e = .returned (.int .i64 (if m.fl.has k a then 41 else 0)) ∧ AlGo w w' A n B ⟨m.bm, m.used, m.fl.pushed k a⟩ := by
 refine (fpush_any h.free hL k a hk).mono ?_
 rintro e w' ⟨rfl, hg⟩
 exact ⟨rfl, h.setFree (Nat.le_refl _) hg⟩
theorem adrop_any {w : World} {A : AF} {n B : Nat} {m : Al} (h : AlAt w A n B m) (a : Nat) :
  Calls Tryz.prog 170 #[vset A.U, .int .i64 (a : Int)] w fun e w' => e = .returned (.bool (hasI m.used (a : Int))) ∧ AlGo w w' A n B ⟨m.bm, m.used.set a false, m.fl⟩ := by
 refine (sdrop_any h.set (a : Int)).mono ?_
 rintro e w' ⟨rfl, hs, ht⟩
 rw [dropI_set] at hs
 exact ⟨rfl, h.setUsed hs ht (by simp)⟩
set_option maxHeartbeats 1000000 in
theorem afreeCells_any {w : World} {A : AF} {n B : Nat} {m : Al} (h : AlAt w A n B m) (hL : m.fl.upto 900000) (k : Nat) (hk : k < 32) :
  Calls Tryz.prog 41 #[valloc A, .int .i64 (k : Int)] w (ListI w m.fl k) := by
 have HL := LH (flist_any h.free hL k hk)
 have c4 := h.c4
 have HP : Hid (∀ e w', ListI w m.fl k e w' → ListI w m.fl k e w') := LH (fun _ _ h => h)
 clear h hL
 generalize hPo : ListI w m.fl k = Post at *
 go_enter Tryz.func41, Tryz.ntmps41
 go_wp2_with fail
 refine HL.out.mono ?_
 intro e w1 h1
 have h2 := h1
 rw [← hPo] at h2
 obtain ⟨v, ys, rfl, _⟩ := h2
 have H1 := LH h1
 clear h1 hPo
 go_wp2_with fail
 exact H1.out
def FreePost (w : World) (A : AF) (n B N : Nat) (m : Al) (x : Int) : Ending → World → Prop := fun e w' =>
 (hasI m.used x = false ∧ e = .returned (.int .i64 42) ∧ AlGo w w' A n B m) ∨
 (∃ (a : Nat) (m' : Al), x = (a : Int) ∧ m.used.getD a false = true ∧ e = .returned (.int .i64 0) ∧ Gone B m m' a ∧ m'.bm.dev.ok (N + 500000) ∧ AlGo w w' A n B m')
set_option maxHeartbeats 4000000 in
set_option maxRecDepth 20000 in
theorem afree_any {w : World} {A : AF} {n B : Nat} {m : Al} (h : AlAt w A n B m) (hok : AlOk B m) (hB : B ≤ 200) (hn : n < 900000000000) {N : Nat} (hN : N ≤ 900000000) (ho : m.bm.dev.ok N) (mu x : Int) :
  Calls Tryz.prog 75 #[valloc A, .int .i64 mu, .int .i64 x] w (FreePost w A (n + 4) B N m x) := by
 have HA := LH h
 have HOk := LH hok
 have HON := LH ho
 have HUp := LH hok.upto
 have HPl := LH (aplace_any h (by omega) x)
 have HP1 : Hid (∀ w', hasI m.used x = false → AlGo w w' A (n + 4) B m → FreePost w A (n + 4) B N m x (.returned (.int .i64 42)) w') := LH (fun w' h1 h2 => .inl ⟨h1, rfl, h2⟩)
 have HP2 : Hid (∀ (a : Nat) m' w', x = (a : Int) → m.used.getD a false = true → Gone B m m' a → m'.bm.dev.ok (N + 500000) → AlGo w w' A (n + 4) B m' → FreePost w A (n + 4) B N m x (.returned (.int .i64 0)) w') := LH (fun a m' w' h1 h2 h3 h4 h5 => .inr ⟨a, m', h1, h2, rfl, h3, h4, h5⟩)
 generalize FreePost w A (n + 4) B N m x = Post at *
 clear h hok ho
 go_enter Tryz.func75, Tryz.ntmps75
 go_wp2_with fail
 refine HPl.out.mono ?_
 rintro e w1 ⟨⟨p, d, rfl, hpl⟩, hb1⟩
 have HM := LH (Mem.one w1 #[.int .i64 p, .int .i64 d] 169)
 have HA1 := LH (HA.out.below hb1)
 have HW1 := LH hb1
 have HPd := LH hpl
 clear hb1 hpl HPl
 generalize hbv : (placedN m.bm.dev m.bm.list x).isSome = bv at *
 have HBv := LH hbv
 clear hbv
 go_upto_region 2 with fail
 obtain ⟨q, hq⟩ : ∃ q, q = w1.heap.size := ⟨_, rfl⟩
 rw [← hq] at HM ⊢
 have HQ := LH hq
 have HA2 := LH (HA1.out.below HM.out.below)
 have HW2 := LH (HW1.out.trans (HM.out.below.mono HW1.out.size))
 generalize w1.alloc _ = w2 at *
 clear hq
 cases hu : hasI m.used x with
 | false =>
  have HFin := LH (fun w' (h : AlGo w w' A (n + 4) B m) => HP1.out w' hu h)
  cases bv with
  | false =>
   clear hu
   go_wp2_with fail
   exact HFin.out _ (AlGo.ahead HW2.out ((AlGo.refl HA2.out).mono (by omega)))
  | true =>
   have HH := LH (shas_any HA2.out.set x)
   rw [hu] at HH
   have c3 := HA2.out.c3
   clear hu
   go_wp2_with fail
   refine HH.out.mono ?_
   rintro e w3 ⟨rfl, rfl⟩
   go_wp2_with fail
   exact HFin.out _ (AlGo.ahead HW2.out ((AlGo.refl HA2.out).mono (by omega)))
 | true =>
 obtain ⟨a, rfl, hal, hua⟩ := hasI_is hu
 have HUa := LH hua
 obtain ⟨o, hop⟩ := Option.isSome_iff_exists.1 (HOk.out.placed a hua)
 have hbv : bv = true := by rw [← HBv.out, hop]; rfl
 subst hbv
 obtain rfl := HPd.out o hop
 have HOp := LH hop
 have HH := LH (shas_any HA2.out.set (a : Int))
 rw [hu] at HH
 have c3 := HA2.out.c3
 clear hu hua hop HPd HBv
 go_wp2_with fail
 refine HH.out.mono ?_
 rintro e w3 ⟨rfl, rfl⟩
 have d0 := HM.out.cell 0 0 rfl rfl
 have d1 := HM.out.cell 0 1 rfl rfl
 have HSm := LH (fun w => osmall_any p d w)
 go_wp2_with fail
 refine (HSm.out _).mono ?_
 rintro e w3 ⟨rfl, hb3⟩
 have HA3 := LH (HA2.out.below hb3)
 have HW3 := LH (HW2.out.trans (hb3.mono HW2.out.size))
 clear hb3 d0 d1 c3 HSm
 by_cases hsm : small (objSize p d)
 case neg =>
  rw [ofV_large _ hsm]
  obtain ⟨hre, hgone⟩ := gone_large HOk.out hB HUa.out HOp.out hsm
  have HRe := LH hre
  have HGone := LH hgone
  have hkk := HOk.out.used_kind HUa.out
  have HBo : Hid (blockOf (B : Int) (a : Int) = ((a / 512 : Nat) : Int)) := LH (by unfold blockOf; rw [if_neg (by omega)]; omega)
  have HOkN2 : Hid ((m.bm.release ((a / 512 : Nat) : Int)).bm.dev.ok (N + 500000)) := LH (release_okN HOk.out.bm.clean.inv HON.out (by rw [HOk.out.bm.lenL]; omega) _)
  have HLc : Hid ((m.bm.release ((a / 512 : Nat) : Int)).bm.dev.cache.length = m.bm.dev.cache.length) := LH (by rw [hgone.ok.len, HOk.out.len])
  clear hsm hre hgone hkk
  go_upto_region 6 with fail
  have r0 := fun x => later_cell HA3.out.c0 x
  have r2 := fun x => later_cell HA3.out.c2 x
  refine wp_region_seg (C := fun w' => ∃ x : Later (w3), w' = x.val) [.fl [0, 1, 2, 3, 4, 5, 6, 7, 8], .sq [9] true, .sq [10, 11] false] (by kernel_rfl) (by kernel_rfl) (by intro c a d v w h; cases d <;> exact h) ?_
  simp only [segs, picks, List.getElem?_cons_succ, List.getElem?_cons_zero]
  have hC1 := later_drew (w3)
  refine wpSeg_fl hC1 ?_
  repeat (first | go_big_quiet_step (fail) | quiet_step (fail))
  refine wpQuiet_nil ?_
  clear r0 r2
  have HD4 := LH (later_below hC1)
  generalize w3.drew = w4 at *
  refine wpSeg_sq (fun K hK => ?_)
  go_wp2_with fail
  refine (gblockOf_any B (by omega) (a : Int) _).mono ?_
  rintro e w5 ⟨rfl, hb5⟩
  rw [HBo.out]
  have hC2 := later_step hC1 hb5
  have HA5 := LH (HA3.out.below (HD4.out.trans (hb5.mono HD4.out.size)))
  have HW5 := LH (HW3.out.trans ((HD4.out.trans (hb5.mono HD4.out.size)).mono HW3.out.size))
  have HRl := LH (brelease_any HA5.out.man (by omega) (by omega) (N := N) (by omega) HON.out HOk.out.bm.clean.inv (bm_smallL HOk.out.bm) ((a / 512 : Nat) : Int))
  clear hb5
  generalize m.bm.release ((a / 512 : Nat) : Int) = rl at *
  obtain ⟨bm', b', er⟩ := rl
  dsimp only at HRe HGone HOkN2 HLc
  obtain rfl := HRe.out
  generalize ((a / 512 : Nat) : Int) = bi at *
  go_wp2_with fail
  refine hK _ _ (fun _ => hC2) ?_
  clear hK K
  refine wpSeg_last ?_
  go_wp2_with fail
  refine HRl.out.mono ?_
  rintro e w6 ⟨rfl, hm6, ht6⟩
  obtain ⟨R6, ha6, ht6', hr6⟩ := HA5.out.setMan (by omega) hm6 ht6 HLc.out
  have HA6 := LH ha6
  have HT6 := LH ht6'
  have HR6 := LH hr6
  have c3 := ha6.c3
  change w6.cell? ⟨A.a, 3, none⟩ = some (vset A.U) at c3
  have HDr := LH (adrop_any HA6.out a)
  clear ha6 ht6' hr6 hm6 ht6 hC1 hC2 HRl
  dsimp only
  go_wp2_with fail
  refine HDr.out.mono ?_
  rintro e w7 ⟨rfl, hg7⟩
  have HG7 := LH (AlGo.ahead HW5.out (AlGo.trans HT6.out HR6.out hg7))
  clear hg7 HDr
  go_wp2_with fail
  exact HP2.out a _ _ rfl HUa.out HGone.out HOkN2.out (HG7.out.mono (by omega))
 have HGone := LH (fun f hf => gone_small (f := f) HOk.out HUa.out HOp.out hsm hf)
 have HCnt : Hid (m.fl.cnt (ofN (objSize p d : Nat)) a = 0) := LH (by rw [HOk.out.cells _ _ (ofN_lt hsm), if_neg]; rintro ⟨_, e⟩; rw [HUa.out] at e; cases e)
 have hk := ofN_lt hsm
 rw [ofV_small _ hsm]
 dsimp only at HGone
 clear hsm
 generalize ofN (objSize p d : Nat) = k at *
 have c3 := HA3.out.c3
 have HDr := LH (adrop_any HA3.out a)
 have HHas : Hid (m.fl.has k a = false) := LH ((m.fl.has_not k a).2 HCnt.out)
 go_wp2_with fail
 refine HDr.out.mono ?_
 rintro e w4 ⟨rfl, hg4⟩
 obtain ⟨R4, ha4, ht4, hr4⟩ := hg4
 have HA4 := LH ha4
 have HT4 := LH ht4
 have HR4 := LH hr4
 have c4 := ha4.c4
 change w4.cell? ⟨A.a, 4, none⟩ = some (.pointer (some ⟨A.f, 0, none⟩)) at c4
 clear ha4 ht4 hr4 c3 HDr
 have HOk4 : Hid (m.bm.dev.ok (N + 500000)) := LH (HON.out.mono (by omega))
 by_cases hmu : mu < 0 ∨ 4 ≤ mu
 ·have HFin := LH (HGone.out (m.fl.pushed k a) (fun j y => FL.pushed_cnt _ _ _ _ _))
  have HPu := LH (apush_any HA4.out (HUp.out.mono (by omega)) k a hk)
  rw [HHas.out] at HPu
  clear HGone
  rcases hmu with hmu | hmu
  ·go_wp2_with fail
   refine HPu.out.mono ?_
   rintro e w5 ⟨rfl, hg5⟩
   have HG5 := LH (AlGo.ahead HW3.out (AlGo.trans HT4.out HR4.out hg5))
   clear hg5
   go_wp2_with fail
   exact HP2.out a _ _ rfl HUa.out HFin.out HOk4.out (HG5.out.mono (by omega))
  ·have hmu0 : 0 ≤ mu := by omega
   go_wp2_with fail
   refine HPu.out.mono ?_
   rintro e w5 ⟨rfl, hg5⟩
   have HG5 := LH (AlGo.ahead HW3.out (AlGo.trans HT4.out HR4.out hg5))
   clear hg5
   go_wp2_with fail
   exact HP2.out a _ _ rfl HUa.out HFin.out HOk4.out (HG5.out.mono (by omega))
 ·have hmu0 : 0 ≤ mu := by omega
  have hmu4 : mu < 4 := by omega
  obtain ⟨mn, rfl⟩ := Int.eq_ofNat_of_zero_le hmu0
  have hmn : mn < 4 := by omega
  have HFin := LH (HGone.out (m.fl.put mn k a) (fun j y => FL.put_cnt _ hmn _ _ _ _))
  have HPu := LH (aput_any HA4.out (HUp.out.mono (by omega)) (by omega) mn k a hmn hk)
  rw [HHas.out] at HPu
  clear HGone hmu
  go_wp2_with fail
  refine HPu.out.mono ?_
  rintro e w5 ⟨rfl, hg5⟩
  have HG5 := LH (AlGo.ahead HW3.out (AlGo.trans HT4.out HR4.out hg5))
  clear hg5
  go_wp2_with fail
  exact HP2.out a _ _ rfl HUa.out HFin.out HOk4.out (HG5.out.mono (by omega))
def BetwPost (w : World) (l : List Bool) (fr to_ : Nat) : Ending → World → Prop := fun e w' => w = w' ∧ ∃ c : Nat, e = .returned (.int .i64 (c : Int)) ∧ c ≤ 1000000 ∧ (c = 0 ↔ ∀ i, fr ≤ i → i < to_ → l.getD i false = false)
def betwM (L : Nat) (av ov : Value) : Nat := match ov with | .bool true => L + 1 - (intOf av).toNat | _ => 0
theorem betwM_next {l : List Bool} {s i : Nat} (hi : i < l.length) (h : i < s) {av ov : Value} (hv : nextV (nextB l s) = .tuple #[av, ov]) : betwM l.length av ov < l.length + 1 - i := by
 cases hn : nextB l s with
 | none =>
  rw [hn] at hv
  unfold nextV at hv
  injection hv with h1
  have e2 := congrArg (fun a => a[1]?) h1
  simp at e2
  subst e2
  show 0 < _
  omega
 | some j =>
  rw [hn] at hv
  unfold nextV at hv
  injection hv with h1
  have e1 := congrArg (fun a => a[0]?) h1
  have e2 := congrArg (fun a => a[1]?) h1
  simp at e1 e2
  subst e1 e2
  have := (nextB_is hn).1
  have h3 := (nextB_is hn).2.2.1
  show l.length + 1 - (Int.toNat (j : Int)) < _
  rw [Int.toNat_natCast]
  omega
set_option maxHeartbeats 1000000 in
theorem sbetween_any {w : World} {X : SetF} {l : List Bool} (h : SetAt w X l) (hl : l.length ≤ 900000) (fr to_ : Nat) (hfr : fr ≤ 1000000000) :
  Calls Tryz.prog 251 #[vset X, .int .i64 (fr : Int), .int .i64 (to_ : Int)] w (BetwPost w l fr to_) := by
 have HS := LH h
 have HN := LH (fun a => snext_any h a)
 have HP : Hid (∀ c : Nat, c ≤ 1000000 → (c = 0 ↔ ∀ i, fr ≤ i → i < to_ → l.getD i false = false) → BetwPost w l fr to_ (.returned (.int .i64 (c : Int))) w) := LH (fun c h1 h2 => ⟨rfl, c, rfl, h1, h2⟩)
 generalize BetwPost w l fr to_ = Post at *
 clear h
 have hv : ∀ o, ∃ av ov, nextV o = .tuple #[av, ov] := fun o => by cases o <;> exact ⟨_, _, rfl⟩
 have HN0 := LH (HN.out (fr : Int))
 rw [Int.toNat_natCast] at HN0
 obtain ⟨av0, ov0, hv0⟩ := hv (nextB l fr)
 rw [hv0] at HN0
 have HV0 := LH hv0
 clear hv0
 go_enter Tryz.func251, Tryz.ntmps251
 go_wp2_with fail
 refine HN0.out.mono ?_
 rintro e w1 ⟨rfl, rfl⟩
 go_wp2_with fail
 go_loopw [7, 8, 9] (fun nv av ov wr => ∃ (c s : Nat), nv = .int .i64 (c : Int) ∧ c ≤ l.length ∧ c ≤ s ∧ Hid (nextV (nextB l s) = .tuple #[av, ov]) ∧ Hid (w = wr) ∧ Hid ((c = 0 ∧ s = fr) ∨ (1 ≤ c ∧ ∃ i, fr ≤ i ∧ i < to_ ∧ l.getD i false = true)) ∧ Hid (fr ≤ s)) (fun _ av ov _ => betwM l.length av ov)
 case atStart => exact ⟨0, fr, rfl, by omega, by omega, HV0, LH rfl, LH (.inl ⟨rfl, rfl⟩), LH (Nat.le_refl _)⟩
 case round =>
  obtain ⟨c, s, rfl, hc, hcs, hnv, hw, hst, hfs⟩ := hrel
  cases hnx : nextB l s with
  | none =>
   have h1 := hnv.out
   rw [hnx] at h1
   unfold nextV at h1
   injection h1 with h1
   have e1 := congrArg (fun a => a[0]?) h1
   have e2 := congrArg (fun a => a[1]?) h1
   simp at e1 e2
   subst e1 e2
   have HFin : Hid (c = 0 ↔ ∀ i, fr ≤ i → i < to_ → l.getD i false = false) := LH (by
    rcases hst.out with ⟨c0, rfl⟩ | ⟨c1, i, i1, i2, i3⟩
    ·exact ⟨fun _ i i1 _ => nextB_not hnx i i1, fun _ => c0⟩
    ·exact ⟨fun h => by omega, fun h => by rw [h i i1 i2] at i3; cases i3⟩)
   have HFin2 := LH (HP.out c (by omega) HFin.out)
   obtain rfl := hw.out
   clear hnx h1
   go_wp2_with fail
   exact HFin2.out
  | some i =>
   have h1 := hnv.out
   rw [hnx] at h1
   unfold nextV at h1
   injection h1 with h1
   have e1 := congrArg (fun a => a[0]?) h1
   have e2 := congrArg (fun a => a[1]?) h1
   simp at e1 e2
   subst e1 e2
   obtain ⟨k1, k2, k3, k4⟩ := nextB_is hnx
   obtain rfl := hw.out
   have hfsn := hfs.out
   clear hnx h1
   by_cases hit : i < to_
   case neg =>
    have hitI : ¬ (i : Int) < (to_ : Int) := by omega
    have HFin : Hid (c = 0 ↔ ∀ j, fr ≤ j → j < to_ → l.getD j false = false) := LH (by
     rcases hst.out with ⟨c0, rfl⟩ | ⟨c1, j, i1, i2, i3⟩
     ·exact ⟨fun _ j j1 j2 => k4 j j1 (by omega), fun _ => c0⟩
     ·exact ⟨fun h => by omega, fun h => by rw [h j i1 i2] at i3; cases i3⟩)
    have HFin2 := LH (HP.out c (by omega) HFin.out)
    clear k4 hst HFin
    go_wp2_with fail
    exact HFin2.out
   case pos =>
   have hitI : (i : Int) < (to_ : Int) := by omega
   have HNi := LH (HN.out ((i : Int) + 1))
   rw [show ((i : Int) + 1).toNat = i + 1 by omega] at HNi
   obtain ⟨av1, ov1, hv1⟩ := hv (nextB l (i + 1))
   rw [hv1] at HNi
   have HV1 := LH hv1
   have HM1 := LH (betwM_next k3 (by omega : i < i + 1) hv1)
   have HS1 : Hid ((c + 1 = 0 ∧ i + 1 = fr) ∨ (1 ≤ c + 1 ∧ ∃ i, fr ≤ i ∧ i < to_ ∧ l.getD i false = true)) := LH (.inr ⟨by omega, i, by omega, hit, k2⟩)
   have hc1 : Hid (c + 1 ≤ l.length ∧ c + 1 ≤ i + 1) := LH ⟨by omega, by omega⟩
   clear hv1 k4 k2
   go_wp2_with fail
   refine HNi.out.mono ?_
   rintro e w2 ⟨rfl, rfl⟩
   go_wp2_with fail
   go_roundw
   case rel => exact ⟨c + 1, i + 1, vint (by omega), hc1.out.1, hc1.out.2, HV1, LH trivial, HS1, LH (by omega)⟩
   case measure =>
    show betwM _ _ _ < l.length + 1 - (Int.toNat (i : Int))
    rw [Int.toNat_natCast]
    exact HM1.out
theorem aremove_any {w : World} {A : AF} {n B : Nat} {m : Al} (h : AlAt w A n B m) (hL : m.fl.upto 900000) (hn : n < 1000000000000) (k lo hi : Nat) (hk : k < 32) :
  Calls Tryz.prog 252 #[.pointer (some ⟨A.f, 0, none⟩), .int .i64 (k : Int), .int .i64 (lo : Int), .int .i64 (hi : Int)] w fun e w' => (∃ x, e = .returned (.int .i64 x)) ∧ AlGo w w' A (n + 4) B ⟨m.bm, m.used, m.fl.remove k lo hi⟩ := by
 refine (fremove_any h.free hL hn k lo hi hk).mono ?_
 rintro e w' ⟨he, hg⟩
 exact ⟨he, h.setFree (by omega) hg⟩
def TrimOk (m : Al) (b : Int) : Prop := (hdGet m.bm.list b).k = 1 ∧ ∀ x : Nat, ((x / 512 : Nat) : Int) = b → m.used.getD x false = false
def TrimPost (w : World) (A : AF) (n B N : Nat) (m : Al) (b : Int) : Ending → World → Prop := fun e w' =>
 (¬ TrimOk m b ∧ e = .returned (.tuple #[.bool false, .int .i64 0]) ∧ AlGo w w' A n B m) ∨
 (∃ (bn : Nat) (m' : Al), b = (bn : Int) ∧ 1 ≤ bn ∧ bn < B ∧ TrimOk m b ∧ e = .returned (.tuple #[.bool true, .int .i64 0]) ∧ Trimmed B m m' bn ∧ m'.bm.dev.ok (N + 500000) ∧ AlGo w w' A n B m')
set_option maxHeartbeats 4000000 in
set_option maxRecDepth 20000 in
theorem atrim_any {w : World} {A : AF} {n B : Nat} {m : Al} (h : AlAt w A n B m) (hok : AlOk B m) (hB : B ≤ 200) (hn : n < 900000000000) {N : Nat} (hN : N ≤ 900000000) (ho : m.bm.dev.ok N) (b : Int) :
  Calls Tryz.prog 174 #[valloc A, .int .i64 b] w (TrimPost w A (n + 5) B N m b) := by
 have HA := LH h
 have HOk := LH hok
 have HON := LH ho
 have HUp := LH hok.upto
 have HGet := LH (tget_any (h.man.tab.at (MF.notHot (MF.apart h.man.nd).t).1) b (by rw [hok.bm.lenL]; omega))
 have HP1 : Hid (∀ w', ¬ TrimOk m b → AlGo w w' A (n + 5) B m → TrimPost w A (n + 5) B N m b (.returned (.tuple #[.bool false, .int .i64 0])) w') := LH (fun w' h1 h2 => .inl ⟨h1, rfl, h2⟩)
 have HP2 : Hid (∀ (bn : Nat) m' w', b = (bn : Int) → 1 ≤ bn → bn < B → TrimOk m b → Trimmed B m m' bn → m'.bm.dev.ok (N + 500000) → AlGo w w' A (n + 5) B m' → TrimPost w A (n + 5) B N m b (.returned (.tuple #[.bool true, .int .i64 0])) w') := LH (fun bn m' w' h1 h2 h3 h4 h5 h6 h7 => .inr ⟨bn, m', h1, h2, h3, h4, rfl, h5, h6, h7⟩)
 generalize TrimPost w A (n + 5) B N m b = Post at *
 have c0 := h.c0
 have c3 := h.man.c0
 clear h hok ho
 obtain ⟨hk0, hc0, hl0, he⟩ : ∃ hk0 hc0 hl0, hdGet m.bm.list b = ⟨hk0, hc0, hl0⟩ := ⟨_, _, _, rfl⟩
 have HE := LH he
 unfold Hd.val at HGet
 rw [he] at HGet
 dsimp only at HGet
 clear he
 go_enter Tryz.func174, Tryz.ntmps174
 go_wp2_with fail
 refine HGet.out.mono ?_
 rintro e w1 ⟨rfl, hb1⟩
 have HM := LH (Mem.one w1 #[.int .i64 hk0, .int .i64 hc0, .int .i64 hl0] 103)
 have HA1 := LH (HA.out.below hb1)
 have HW1 := LH hb1
 clear hb1 HGet c0 c3
 go_upto_region 2 with fail
 obtain ⟨q, hq⟩ : ∃ q, q = w1.heap.size := ⟨_, rfl⟩
 rw [← hq] at HM ⊢
 have HA2 := LH (HA1.out.below HM.out.below)
 have HW2 := LH (HW1.out.trans (HM.out.below.mono HW1.out.size))
 have HQn : Hid (∀ k ∈ A.list, k ≠ q) := LH (fun k hk e => by have := HA1.out.mem k hk; omega)
 generalize w1.alloc _ = w2 at *
 clear hq
 have c2 := HA2.out.c2
 have HFi := LH (fun w => gfirst_any B (by omega) b w)
 go_wp2_with fail
 refine (HFi.out _).mono ?_
 rintro e w3 ⟨rfl, hb3⟩
 have HM3 := LH (HM.out.later hb3)
 have HA3 := LH (HA2.out.below hb3)
 have HW3 := LH (HW2.out.trans (hb3.mono HW2.out.size))
 have d0 := HM3.out.cell 0 0 rfl rfl
 clear hb3 c2 HFi
 by_cases hk1 : hk0 = 1
 case neg =>
  have HNo : Hid (¬ TrimOk m b) := LH (fun h => hk1 (by have := h.1; rw [HE.out] at this; exact this))
  go_wp2_with fail
  exact HP1.out _ HNo.out (AlGo.ahead HW3.out ((AlGo.refl HA3.out).mono (by omega)))
 subst hk1
 obtain ⟨bn, hbn, hbl⟩ : ∃ bn : Nat, b = (bn : Int) ∧ 1 ≤ bn ∧ bn < B := by
  have h1 := HE.out
  unfold hdGet at h1
  split at h1
  ·have := congrArg Hd.k h1; simp at this
  ·rename_i h0
   rw [HOk.out.bm.lenL] at h0
   exact ⟨b.toNat, by omega, by omega, by omega⟩
 obtain ⟨hb1, hbB⟩ := hbl
 subst hbn
 have HL : Hid (m.bm.list.getD bn default = ⟨1, hc0, hl0⟩) := LH (by rw [← hdGet_at HOk.out.bm hb1 hbB]; exact HE.out)
 obtain ⟨cn, hcn, hc32, hl00⟩ : ∃ cn : Nat, hc0 = (cn : Int) ∧ cn < 32 ∧ hl0 = 0 := by
  have hr := of_decide_eq_true (HOk.out.bm.right bn hbB)
  rw [HL.out] at hr
  unfold HdRight at hr
  dsimp only at hr
  exact ⟨hc0.toNat, by omega, by omega, by omega⟩
 subst hcn hl00
 have hfo : firstOf (B : Int) (bn : Int) = ((512 * bn : Nat) : Int) := by unfold firstOf; rw [if_neg (by omega)]; omega
 rw [hfo]
 clear hfo
 have HBw := LH (sbetween_any HA3.out.set (by rw [HOk.out.lenU]; omega) (512 * bn) (512 * bn + 512) (by omega))
 obtain ⟨fr, hfr⟩ : ∃ fr, fr = 512 * bn := ⟨_, rfl⟩
 rw [← hfr] at HBw ⊢
 have hfr2 : Hid (((fr : Int) + 512) = ((fr + 512 : Nat) : Int)) := LH (by omega)
 have hfrl : fr ≤ 200000 := by omega
 have HFr := LH hfr
 have c3 := HA3.out.c3
 clear hfr
 go_wp2_with fail
 rw [hfr2.out]
 refine HBw.out.mono ?_
 rintro e w4 ⟨rfl, c, rfl, hcl, hciff⟩
 have HCi := LH hciff
 clear hciff HBw
 by_cases hc : c = 0
 case neg =>
  have HNo : Hid (¬ TrimOk m (bn : Int)) := LH (fun h => hc (HCi.out.2 (fun i h1 h2 => h.2 i (by have := HFr.out; omega))))
  have hcp : (0 : Int) < (c : Int) := by omega
  go_wp2_with fail
  exact HP1.out _ HNo.out (AlGo.ahead HW3.out ((AlGo.refl HA3.out).mono (by omega)))
 subst hc
 have HYes : Hid (TrimOk m (bn : Int)) := LH ⟨by rw [HE.out], fun x hx => HCi.out.1 rfl x (by have := HFr.out; omega) (by have := HFr.out; omega)⟩
 obtain ⟨hre, htr⟩ := trim_done HOk.out hB hb1 hbB hc32 HL.out (fun x hx => HYes.out.2 x (by rw [hx]))
 rw [← HFr.out] at htr
 have HRe := LH hre
 have HTr := LH htr
 have HOkN2 : Hid ((m.bm.release (bn : Int)).bm.dev.ok (N + 500000)) := LH (release_okN HOk.out.bm.clean.inv HON.out (by rw [HOk.out.bm.lenL]; omega) _)
 have HLc : Hid ((m.bm.release (bn : Int)).bm.dev.cache.length = m.bm.dev.cache.length) := LH (by rw [htr.ok.len, HOk.out.len])
 clear hre htr HCi c3
 go_upto_region 5 with fail
 have r0 := fun x => later_cell HA3.out.c4 x
 have r1 := fun x => later_cell (HM3.out.cell 0 1 rfl rfl) x
 refine wp_region_seg (C := fun w' => ∃ x : Later (w3), w' = x.val) [.fl [0, 1, 2, 3, 4, 5, 6, 7, 8], .sq [9] false] (by kernel_rfl) (by kernel_rfl) (by intro c a d v w h; cases d <;> exact h) ?_
 simp only [segs, picks, List.getElem?_cons_succ, List.getElem?_cons_zero]
 have hC1 := later_drew (w3)
 refine wpSeg_fl hC1 ?_
 repeat (first | go_big_quiet_step (fail) | quiet_step (fail))
 refine wpQuiet_nil ?_
 clear r0 r1
 have HD4 := LH (later_below hC1)
 generalize w3.drew = w4 at *
 have HA4 := LH (HA3.out.below HD4.out)
 have HW4 := LH (HW3.out.trans (HD4.out.mono HW3.out.size))
 have HRm := LH (aremove_any HA4.out (HUp.out.mono (by omega)) (by omega) cn fr (fr + 512) hc32)
 clear hC1
 refine wpSeg_last ?_
 go_wp2_with fail
 rw [hfr2.out]
 refine HRm.out.mono ?_
 rintro e w5 ⟨⟨rv, rfl⟩, hg5⟩
 obtain ⟨R5, ha5, ht5, hr5⟩ := hg5
 have HA5 := LH ha5
 have HT5 := LH ht5
 have HR5 := LH hr5
 have c0 := ha5.c0
 change w5.cell? ⟨A.a, 0, none⟩ = some (.pointer (some ⟨A.X.m, 0, none⟩)) at c0
 have HRl := LH (brelease_any (X := A.X) HA5.out.man (by omega) (by omega) (N := N) (by omega) HON.out HOk.out.bm.clean.inv (bm_smallL HOk.out.bm) (bn : Int))
 clear ha5 ht5 hr5 HRm
 generalize m.bm.release (bn : Int) = rl at *
 obtain ⟨bm', b', er⟩ := rl
 dsimp only at HRe HTr HOkN2 HLc
 obtain rfl := HRe.out
 go_wp2_with fail
 refine HRl.out.mono ?_
 rintro e w6 ⟨rfl, hm6, ht6⟩
 have HG6 := LH (AlGo.ahead HW4.out (AlGo.trans HT5.out HR5.out (HA5.out.setMan (by omega) hm6 ht6 HLc.out)))
 clear hm6 ht6 HRl c0
 dsimp only
 go_wp2_with fail
 exact HP2.out bn _ _ rfl hb1 hbB HYes.out HTr.out HOkN2.out (HG6.out.mono (by omega))
end Go.Proofs.YtpopbfagliagnaaGreat
namespace Go.Proofs.YtpopbfagliagnaaGreat
open Go.RowKit
theorem dev0_ok {B : Nat} (hB2 : 2 ≤ B) (hB : B ≤ 100) : (dev0 B).ok 201000 := (fmt_formed hB2 hB).ok
section
variable {w wr w' : World} {Q Q' : List Nat} {A : AF} {n N N' : Nat} {m m' : Al} {v : Value} {xs : List Nat} {K : MkF} {M M' : Mk}
end
end Go.Proofs.YtpopbfagliagnaaGreat
namespace Go.Proofs.YtpopbfagliagnaaGreat
open Go.RowKit Go.Maps
end Go.Proofs.YtpopbfagliagnaaGreat
namespace Go.Proofs.YtpopbfagliagnaaGreat
open Go.RowKit
end Go.Proofs.YtpopbfagliagnaaGreat
namespace Go.Proofs.YtpopbfagliagnaaGreat
open Go.RowKit Go.Maps
section
variable {P : Program} {C : World → Prop} {ops : Array Oper} {rest : List Oper} {o : Oper} {a : Act} {Q : Act → Prop}
end
section
variable {w : World} {P : Program} {ops : Array Oper} {rest : List Oper} {o : Oper} {act : Act} {Q : Exit → Act → World → Prop}
end
end Go.Proofs.YtpopbfagliagnaaGreat
namespace Go.Proofs.YtpopbfagliagnaaGreat
open Go.RowKit
end Go.Proofs.YtpopbfagliagnaaGreat
namespace Go.Proofs.YtpopbfagliagnaaGreat
open Go.Lib (decDigits itoa nDigits)
end Go.Proofs.YtpopbfagliagnaaGreat
namespace Go.Proofs.YtpopbfagliagnaaGreat
open Go.RowKit
open Go.Lib (decDigits itoa nDigits)
open Go.Lib (decDigits itoa nDigits)
open Go.Lib (decDigits itoa nDigits)
section
variable {P : Program} {w : World} {ops : Array Oper} {rest : List Oper} {o : Oper} {a : Act} {Q : Exit → Act → World → Prop}
end
end Go.Proofs.YtpopbfagliagnaaGreat
namespace Go.Proofs.YtpopbfagliagnaaGreat
open Go.RowKit Go.Shelf
end Go.Proofs.YtpopbfagliagnaaGreat
namespace Go.Proofs.YtpopbfagliagnaaGreat
open Go.RowKit
def nlB (wd : Int) (b B : Nat) : Prop := 0 < wd ∧ (b : Int) % wd = 0 ∧ (b : Int) < (B : Int) - 1
instance (wd : Int) (b B : Nat) : Decidable (nlB wd b B) := by unfold nlB; infer_instance
open Go.Lib (decDigits itoa nDigits)
open Go.Lib (decDigits itoa nDigits)
theorem Cells.touchNe {w w' : World} {a : Option Addr} {vs : List Value} {q : Nat} (h : Cells w a vs) (ht : Touch [q] w w') (hne : ∀ x, a = some x → x.block ≠ q) : Cells w' a vs := by
 rcases h with h | ⟨b, off, rfl, h⟩
 ·exact .inl h
 ·exact .inr ⟨b, off, rfl, fun i v hi => cell_of_touch ht (by simpa using hne _ rfl) (h i v hi)⟩
end Go.Proofs.YtpopbfagliagnaaGreat
namespace Go.Proofs.YtpopbfagliagnaaGreat
section
variable {P : Program} {ops : Array Oper} {md : Region.Mode} {C : World → Prop} {Q : Exit → Act → World → Prop} {ex : List Nat}
end
end Go.Proofs.YtpopbfagliagnaaGreat
namespace Go.Proofs.YtpopbfagliagnaaGreat
open Go.RowKit Go.Maps
end Go.Proofs.YtpopbfagliagnaaGreat
namespace Go.Proofs.YtpopbfagliagnaaGreat
variable {B : Nat} {m : Al}
theorem long_ltF {n : Nat} (hn : 1 ≤ n) : ∀ {l : List (Nat × Nat)}, (∀ x ∈ l, x.2 < n) → longOf l < n := by
 intro l h
 have : ∀ (l : List Nat) (m : Nat), m < n → (∀ x ∈ l, x < n) → l.foldl max m < n := by
  intro l
  induction l with
  | nil => intro m hm _; exact hm
  | cons x l ih => intro m hm h; exact ih _ (by have := h x (by simp); omega) (fun y hy => h y (by simp [hy]))
 exact this _ 0 hn (fun x hx => by obtain ⟨y, hy, rfl⟩ := List.mem_map.1 hx; exact h y hy)
theorem long_geF : ∀ {l : List (Nat × Nat)} {x : Nat × Nat}, x ∈ l → x.2 ≤ longOf l := by
 intro l x hx
 have h1 : ∀ (l : List Nat) (m : Nat), m ≤ l.foldl max m := by
  intro l
  induction l with
  | nil => intro m; exact Nat.le_refl _
  | cons y l ih => intro m; exact Nat.le_trans (Nat.le_max_left m y) (ih _)
 have h2 : ∀ (l : List Nat) (m y : Nat), y ∈ l → y ≤ l.foldl max m := by
  intro l
  induction l with
  | nil => intro m y hy; cases hy
  | cons z l ih =>
   intro m y hy
   rcases List.mem_cons.1 hy with rfl | hy
   ·exact Nat.le_trans (Nat.le_max_right m y) (h1 l _)
   ·exact ih _ y hy
 exact h2 _ 0 _ (List.mem_map.2 ⟨x, hx, rfl⟩)
theorem pick_noneF {l : List Bool} {n : Nat} (h : pick n (runsOf l) = none) : ∀ x ∈ runsOf l, x.2 < n := by
 have hb := pick_best (n := n) (runsOf_is l).rising
 rw [h] at hb
 exact fun x hx => hb x.1 x.2 hx
theorem pick_longF {l : List Bool} {n : Nat} (hn : 1 ≤ n) : pick n (runsOf l) = none ↔ ¬ n ≤ longOf (runsOf l) := by
 constructor
 ·intro h
  have := long_ltF hn (pick_noneF h)
  omega
 ·intro h
  cases hp : pick n (runsOf l) with
  | none => rfl
  | some x =>
   exfalso
   obtain ⟨h1, h2⟩ := pick_run hp
   have := long_geF (((runsOf_is l).mem x.1 x.2).2 h1)
   dsimp only at this
   omega
theorem sum_memF : ∀ {l : List (Nat × Nat)} {x : Nat × Nat}, x ∈ l → x.2 ≤ sumOf l
 | [], _, h => by cases h
 | y :: l, x, h => by
  have e : sumOf (y :: l) = y.2 + sumOf l := by simp [sumOf]
  rw [e]
  rcases List.mem_cons.1 h with rfl | h
  ·omega
  ·have := sum_memF h; omega
theorem sum_count (f : Nat → Bool) : ∀ L, sumOf (runsTo f L) = ((List.range L).filter f).length
 | 0 => rfl
 | b + 1 => by
  have ih := sum_count f b
  rw [List.range_succ, List.filter_append, List.length_append]
  have hpos : 0 < b ∧ f (b - 1) = true → 0 < ((List.range b).filter f).length := fun hp => List.length_pos_iff.2 (List.ne_nil_of_mem (List.mem_filter.2 ⟨List.mem_range.2 (show b - 1 < b by omega), hp.2⟩))
  generalize ((List.range b).filter f).length = c at *
  have hsum : ∀ l : List (Nat × Nat), ∀ x : Nat × Nat, sumOf (l ++ [x]) = sumOf l + x.2 := sum_add
  unfold runsTo
  generalize runsTo f b = R at *
  by_cases hf : f b
  ·rw [if_pos hf]
   have e1 : ([b].filter f).length = 1 := by simp [hf]
   rw [e1]
   by_cases hp : 0 < b ∧ f (b - 1) = true
   ·rw [if_pos hp]
    have hc := hpos hp
    split
    ·rename_i hx
     have h0 : R = [] := List.getLast?_eq_none_iff.1 hx
     rw [h0] at ih
     have : sumOf [] = 0 := rfl
     omega
    ·rename_i x hx
     obtain ⟨ys, hy⟩ := List.getLast?_eq_some_iff.1 hx
     rw [hy, hsum] at ih
     rw [hy, List.dropLast_concat, hsum]
     dsimp only
     omega
   ·rw [if_neg hp, hsum, ih]
  ·rw [if_neg hf, ih]
   simp [hf]
theorem sum_noneF {l : List Bool} : pick 1 (runsOf l) = none ↔ ¬ 0 < sumOf (runsOf l) := by
 rw [pick_longF (Nat.le_refl 1)]
 constructor
 ·intro h h2
  apply h
  have : runsOf l ≠ [] := fun e => by rw [e] at h2; simp [sumOf] at h2
  obtain ⟨x, hx⟩ := List.exists_mem_of_ne_nil _ this
  have h3 := long_geF hx
  have h4 := ((runsOf_is l).mem x.1 x.2).1 hx
  have := h4.1
  omega
 ·intro h h2
  apply h
  have : runsOf l ≠ [] := fun e => by rw [e] at h2; simp [longOf] at h2
  obtain ⟨x, hx⟩ := List.exists_mem_of_ne_nil _ this
  have h4 := ((runsOf_is l).mem x.1 x.2).1 hx
  have h5 := h4.1
  have : x.2 ≤ sumOf (runsOf l) := by
   exact sum_memF hx
  omega
def roomy16 (m : Al) (n : Nat) : Prop := if small n then 0 < (m.fl.all (ofN (n : Nat))).length ∨ 0 < sumOf (runsOf m.bm.free) else objBlocks n ≤ longOf (runsOf m.bm.free)
theorem cells_none {S : FL} {k : Nat} (h : ¬ 0 < (S.all k).length) : S.g k = [] ∧ ∀ i, i < 4 → S.c i k = [] := by
 have h0 : S.all k = [] := List.length_eq_zero_iff.1 (by omega)
 unfold FL.all at h0
 simp only [List.append_eq_nil_iff] at h0
 obtain ⟨⟨⟨⟨h1, h2⟩, h3⟩, h4⟩, h5⟩ := h0
 refine ⟨h1, fun i hi => ?_⟩
 rcases four hi with rfl | rfl | rfl | rfl <;> assumption
theorem room_no (h : AlOk B m) {mu n : Nat} (hmu : mu < 4) (h1 : 1 ≤ n) (h9 : n ≤ 16448) (hno : ¬ roomy16 m n) : m.room mu n = ⟨m, 0, 4⟩ := by
 unfold roomy16 at hno
 unfold Al.room
 by_cases hs : small n
 ·rw [if_pos hs] at hno ⊢
  have hk := ofN_lt hs
  generalize ofN (n : Int) = k at *
  obtain ⟨hg, hc⟩ := cells_none (fun h => hno (.inl h))
  have hp := sum_noneF.2 (fun h => hno (.inr h))
  have hcell : m.fl.cell mu k = none := by
   cases hx : m.fl.cell mu k with
   | none => rfl
   | some x =>
    exfalso
    have h2 := FL.taken_cnt hmu hx k x
    rw [if_pos ⟨rfl, rfl⟩] at h2
    have h0 : m.fl.cnt k x = 0 := by
     unfold FL.cnt
     rw [hg, hc 0 (by omega), hc 1 (by omega), hc 2 (by omega), hc 3 (by omega)]
     rfl
    omega
  unfold Al.roomS
  rw [hcell, if_neg (by simp)]
  rcases small_live h.bm h.live k hk with ⟨e, _⟩ | ⟨b, s1, s2, s3, s4, s5, s6, s7, s8, s9, s10, s11⟩
  ·rw [e, if_neg (by simp), if_neg (by simp)]
   unfold Al.steal FL.owner
   rw [hc 0 (by omega), hc 1 (by omega), hc 2 (by omega), hc 3 (by omega)]
   simp
  ·exact absurd hp s11
 ·rw [if_neg hs] at hno ⊢
  have hb : 1 ≤ objBlocks n ∧ objBlocks n < 256 := by
   unfold objBlocks; rw [if_neg hs]; omega
  unfold Al.roomL
  rcases large_live h.bm h.live (objBlocks n) hb.1 hb.2 with ⟨e, _⟩ | ⟨b, _, _, _, _, _, _, _, _, _, _, hp⟩
  ·rw [e, if_pos (by simp)]
  ·exact absurd ((pick_longF hb.1).2 hno) hp
theorem alloc_room (h : AlOk B m) (hB : B ≤ 200) {mu p d : Int} (h0 : 0 ≤ mu) (h4 : mu < 4) (hs : objSize p d ≠ 0) (hm : (objSize p d : Int) ≤ 512 * ((B : Int) - 1)) :
  (∃ m' a, m.alloc mu p d = ⟨m', ((a : Nat) : Int), 0⟩ ∧ Made B m m' a p d ∧ roomy16 m (objSize p d)) ∨ (m.alloc mu p d = ⟨m, 0, 4⟩ ∧ ¬ roomy16 m (objSize p d)) := by
 rcases alloc_done h hB h0 h4 hs hm with ⟨m', a, he, hmd⟩ | ⟨he, hn⟩
 ·left
  refine ⟨m', a, he, hmd, Classical.byContradiction fun hno => ?_⟩
  have hr := room_no h (mu := mu.toNat) (by omega) (by omega) (objSize_le p d) hno
  unfold Al.alloc at he
  rw [if_neg (by omega), h.bm.lenL, if_neg (by omega), hr, if_pos (by simp)] at he
  have := congrArg AlR.err he
  simp at this
 ·right
  refine ⟨he, fun hr => ?_⟩
  unfold roomy16 at hr
  by_cases hsm : small (objSize p d)
  ·rw [if_pos hsm] at hr
   obtain ⟨h1, h2⟩ := hn.cell hsm
   rcases hr with hr | hr
   ·obtain ⟨x, hx⟩ := List.exists_mem_of_length_pos hr
    have := List.count_pos_iff.2 hx
    rw [FL.all_count, h2] at this
    omega
   ·exact absurd hr (sum_noneF.1 h1)
  ·rw [if_neg hsm] at hr
   have hb : 1 ≤ objBlocks (objSize p d) := by unfold objBlocks; rw [if_neg hsm]; omega
   exact (pick_longF hb).1 (hn.run hsm) hr
end Go.Proofs.YtpopbfagliagnaaGreat
namespace Go.Proofs.YtpopbfagliagnaaGreat
open Go.RowKit
theorem spanL_runs {ks f : Nat → Bool} : ∀ b, (∀ i, i < b → f i = (decide (i ≠ 0) && ks i)) → spanL ks b = runsTo f b
 | 0, _ => rfl
 | b + 1, h => by
  have ih := spanL_runs b (fun i hi => h i (by omega))
  have hb := h b (by omega)
  unfold spanL runsTo
  rw [← ih]
  by_cases h0 : b = 0
  ·subst h0
   rw [if_pos (.inl rfl), if_neg (by rw [hb]; simp)]
  ·have hp := h (b - 1) (by omega)
   have hfb : f b = ks b := by rw [hb, decide_eq_true (show b ≠ 0 from h0)]; rfl
   rw [hfb]
   cases hk : ks b with
   | false => rw [if_pos (.inr rfl), if_neg (by simp)]
   | true =>
    rw [if_neg (by simp [h0]), if_pos rfl]
    by_cases hq : 1 < b ∧ ks (b - 1) = true
    ·have hq' : 0 < b ∧ f (b - 1) = true := ⟨by omega, by rw [hp, hq.2, decide_eq_true (show b - 1 ≠ 0 by omega)]; rfl⟩
     rw [if_pos hq, if_pos hq']
     unfold bump
     cases hl : (spanL ks b).getLast? with
     | none => exact List.getLast?_eq_none_iff.1 hl
     | some x => rfl
    ·have hq' : ¬ (0 < b ∧ f (b - 1) = true) := by
      rintro ⟨_, h2⟩
      rw [hp, Bool.and_eq_true, decide_eq_true_iff] at h2
      exact hq ⟨by omega, h2.2⟩
     rw [if_neg hq, if_neg hq']
theorem spans_runs {B : Nat} {b : Bm} (h : BmOk B b) : spansOf b.list = runsOf b.free := by
 unfold spansOf runsOf
 rw [h.lenL, h.lenF]
 refine spanL_runs B (fun i hi => ?_)
 rw [Bool.eq_iff_iff, h.free i, Bool.and_eq_true, decide_eq_true_iff]
 unfold freeAt
 rw [beq_iff_eq]
 exact ⟨fun ⟨h1, _, h3⟩ => ⟨by omega, h3⟩, fun ⟨h1, h3⟩ => ⟨by omega, hi, h3⟩⟩
def frTo (L : List Hd) : Nat → Nat
 | 0 => 0
 | n + 1 => frTo L n + if 1 ≤ n ∧ (L.getD n default).k = 0 then 1 else 0
theorem frTo_le (L : List Hd) : ∀ n, frTo L n ≤ n
 | 0 => Nat.le_refl _
 | n + 1 => by unfold frTo; have := frTo_le L n; split <;> omega
theorem frTo_filter {B : Nat} {b : Bm} (h : BmOk B b) : ∀ n, n ≤ B → frTo b.list n = ((List.range n).filter (fb b.free)).length
 | 0, _ => rfl
 | n + 1, hn => by
  unfold frTo
  rw [frTo_filter h n (by omega), List.range_succ, List.filter_append, List.length_append]
  congr 1
  by_cases c : 1 ≤ n ∧ (b.list.getD n default).k = 0
  ·rw [if_pos c, List.filter_cons_of_pos ((h.free n).2 ⟨c.1, by omega, c.2⟩)]; rfl
  ·rw [if_neg c, List.filter_cons_of_neg (fun hf => c ⟨((h.free n).1 hf).1, ((h.free n).1 hf).2.2⟩)]; rfl
theorem frTo_sum {B : Nat} {b : Bm} (h : BmOk B b) : frTo b.list B = sumOf (runsOf b.free) := by
 unfold runsOf
 rw [frTo_filter h B (Nat.le_refl _), sum_count, h.lenF]
theorem sum_le {B : Nat} {b : Bm} (h : BmOk B b) : sumOf (runsOf b.free) ≤ B := by rw [← frTo_sum h]; exact frTo_le _ _
def numC (m : Al) (k : Nat) : Nat := (m.fl.all k).length
theorem count_len {x y : List Nat} (h : ∀ a, x.count a = y.count a) : x.length = y.length := (List.perm_iff_count.2 h).length_eq
def prdS (m : Al) (k : Nat) : Nat := numC m k + sumOf (runsOf m.bm.free) * clsCells k
def divs (l : List (Nat × Nat)) (z : Nat) : Nat := (l.map (fun x => x.2 / z)).sum
def prdN (m : Al) (n : Nat) : Nat := if small n then prdS m (ofN (n : Int)) else divs (runsOf m.bm.free) (objBlocks n)
theorem divs_perm {a b : List (Nat × Nat)} (h : a.Perm b) (z : Nat) : divs a z = divs b z := (h.map _).sum_nat
theorem divs_cons (x : Nat × Nat) (l : List (Nat × Nat)) (z : Nat) : divs (x :: l) z = x.2 / z + divs l z := by unfold divs; rw [List.map_cons, List.sum_cons]
theorem divs_none {l : List (Nat × Nat)} {z : Nat} (h : ∀ x ∈ l, x.2 < z) : divs l z = 0 := by
 induction l with
 | nil => rfl
 | cons x l ih => rw [divs_cons, ih (fun y hy => h y (List.mem_cons_of_mem _ hy)), Nat.div_eq_of_lt (h x List.mem_cons_self)]
theorem take_perm {l : List Bool} {a k z : Nat} (hr : IsRun (fb l) a k) (hz : 1 ≤ z) (hk : z ≤ k) :
  ∃ R, (runsOf l).Perm ((a, k) :: R) ∧ (runsOf (setTo l a false z)).Perm ((if z < k then [(a + z, k - z)] else []) ++ R) := by
 have h1 := runsOf_is l
 have h2 := runsOf_is (setTo l a false z)
 refine ⟨(runsOf l).filter (fun x => x.1 != a), ?_, ?_⟩
 ·refine (List.perm_ext_iff_of_nodup (rising_nodup h1.rising) (List.nodup_cons.2 ⟨by simp, (rising_nodup h1.rising).filter _⟩)).2 fun x => ?_
  rw [List.mem_cons, List.mem_filter, bne_iff_ne]
  constructor
  ·intro hx
   by_cases e : x.1 = a
   ·refine .inl (Prod.ext e ?_)
    have hx' := (h1.mem x.1 x.2).1 hx
    rw [e] at hx'
    exact hx'.one hr
   ·exact .inr ⟨hx, e⟩
  ·rintro (rfl | ⟨hx, _⟩)
   ·exact (h1.mem a k).2 hr
   ·exact hx
 ·refine (List.perm_ext_iff_of_nodup (rising_nodup h2.rising) ?_).2 fun x => ?_
  ·split
   ·refine List.nodup_cons.2 ⟨fun hm => ?_, (rising_nodup h1.rising).filter _⟩
    obtain ⟨hm, _⟩ := List.mem_filter.1 hm
    have hm' := (h1.mem _ _).1 hm
    have := hr.2.1 (a + z - 1) (by omega) (by omega)
    rw [hm'.2.2.1 (a + z - 1) (by omega)] at this
    cases this
   ·exact (rising_nodup h1.rising).filter _
  ·rw [List.mem_append, List.mem_filter, bne_iff_ne, show x = (x.1, x.2) from rfl, h2.mem x.1 x.2, take_runs hr hz hk, h1.mem x.1 x.2]
   split
   ·next c => rw [List.mem_singleton, Prod.ext_iff]; exact ⟨fun h => h.imp (fun h => h.2) id, fun h => h.imp (fun h => ⟨c, h⟩) id⟩
   ·next c => exact ⟨fun h => h.imp (fun h => absurd h.1 c) id, fun h => h.imp (fun h => absurd h (by simp)) id⟩
theorem divs_take {l : List Bool} {a k z : Nat} (hr : IsRun (fb l) a k) (hz : 1 ≤ z) (hk : z ≤ k) : divs (runsOf l) z = divs (runsOf (setTo l a false z)) z + 1 := by
 obtain ⟨R, p1, p2⟩ := take_perm hr hz hk
 rw [divs_perm p1, divs_perm p2, divs_cons]
 show k / z + _ = _
 have hdiv : k / z = (k - z) / z + 1 := by
  conv => lhs; rw [show k = (k - z) + z by omega]
  exact Nat.add_div_right _ (by omega)
 split
 ·rw [List.singleton_append, divs_cons]; show _ = (k - z) / z + _ + 1; omega
 ·obtain rfl : k = z := by omega
  rw [List.nil_append, Nat.div_self (by omega)]; omega
theorem sum_take {l : List Bool} {a k z : Nat} (hr : IsRun (fb l) a k) (hz : 1 ≤ z) (hk : z ≤ k) : sumOf (runsOf l) = sumOf (runsOf (setTo l a false z)) + z := by
 obtain ⟨R, p1, p2⟩ := take_perm hr hz hk
 have hc : ∀ (x : Nat × Nat) (l : List (Nat × Nat)), sumOf (x :: l) = x.2 + sumOf l := fun x l => by unfold sumOf; rw [List.map_cons, List.sum_cons]
 rw [sum_perm p1, sum_perm p2, hc]
 show k + _ = _
 split
 ·rw [List.singleton_append, hc]; show _ = (k - z) + _ + z; omega
 ·obtain rfl : k = z := by omega
  rw [List.nil_append]; omega
theorem objBlocks_33 {n : Nat} (h : n ≤ 16448) : objBlocks n ≤ 33 := by unfold objBlocks; split <;> omega
theorem small_free {b : Bm} {k : Int} (h : (b.small k).err = 0) : (b.small k).bm.free = (takeR b.free 1).1 ∧ (takeR b.free 1).2.2 = 0 := by
 unfold Bm.small at h ⊢
 split at h
 ·cases h
 ·next c1 =>
  rw [if_neg c1]
  split at h
  ·next c2 => exact absurd h c2
  ·next c2 => rw [if_neg c2]; exact ⟨rfl, by simpa using c2⟩
theorem large_free {b : Bm} {n : Int} (h : (b.large n).err = 0) : (b.large n).bm.free = (takeR b.free n).1 ∧ (takeR b.free n).2.2 = 0 ∧ 1 ≤ n := by
 unfold Bm.large at h ⊢
 split at h
 ·cases h
 ·next c1 =>
  rw [if_neg c1]
  split at h
  ·next c2 => exact absurd h c2
  ·next c2 =>
   rw [if_neg c2]
   have c2' : (takeR b.free n).2.2 = 0 := by simpa using c2
   split
   ·exact ⟨rfl, c2', by omega⟩
   ·exact ⟨rfl, c2', by omega⟩
theorem taken_len {S : FL} {m k x : Nat} (hm : m < 4) (h : S.cell m k = some x) : (S.all k).length = ((S.taken m k).all k).length + 1 := by
 have := count_len (x := S.all k) (y := x :: (S.taken m k).all k) (fun a => by
  rw [FL.all_count, FL.taken_cnt hm h k a, List.count_cons, FL.all_count]
  by_cases e : a = x
  ·subst e; simp
  ·rw [if_neg (by rintro ⟨_, h⟩; exact e h), if_neg (by simpa using fun h => e h.symm)])
 rw [this, List.length_cons]
theorem drain_len {S : FL} {m k : Nat} (hm : m < 4) (hk : k < 32) : ((S.drain m).all k).length = (S.all k).length :=
 count_len (fun a => by rw [FL.all_count, FL.all_count, FL.drain_cnt _ hm hk])
theorem count_mapRange {f : Nat → Nat} (hf : ∀ i j, f i = f j → i = j) (a : Nat) : ∀ n, ((List.range n).map f).count a = if ∃ i, i < n ∧ a = f i then 1 else 0
 | 0 => by rw [if_neg (by rintro ⟨i, hi, _⟩; omega)]; rfl
 | n + 1 => by
  rw [List.range_succ, List.map_append, List.count_append, count_mapRange hf a n]
  by_cases e : a = f n
  ·subst e
   rw [if_neg (by rintro ⟨i, hi, e⟩; have := hf _ _ e; omega), if_pos ⟨n, by omega, rfl⟩]; simp
  ·have h0 : ([n].map f).count a = 0 := by
    rw [List.count_eq_zero]; simpa using e
   rw [h0, Nat.add_zero]
   congr 1
   refine propext ⟨fun ⟨i, hi, h⟩ => ⟨i, by omega, h⟩, fun ⟨i, hi, h⟩ => ⟨i, ?_, h⟩⟩
   by_cases c : i = n
   ·subst c; exact absurd h e
   ·omega
section
variable {B : Nat} {m : Al}
theorem carved_len (h : AlOk B m) {b k : Nat} (hk : k < 32) (hb : 1 ≤ b) (hbB : b < B) (hz : (m.bm.list.getD b default).k = 0) : ((m.carved b k).all k).length = numC m k + clsCells (k : Int) := by
 have h0 : ∀ i, i < clsCells (k : Int) → m.fl.cnt k (cellOf b k i) = 0 := fun i hi => by
  rw [h.cells k _ hk, if_neg]
  rintro ⟨hc, _⟩
  have := isCell_kind hc
  rw [(cellOf_at hk hi).1, hz] at this
  cases this
 have hu : ∀ i, i < clsCells (k : Int) → m.used.getD (cellOf b k i) false = false := fun i hi => by
  cases hc : m.used.getD (cellOf b k i) false with
  | false => rfl
  | true =>
   have := (h.used_kind hc).2.2
   rw [(cellOf_at hk hi).1] at this
   exact absurd hz this
 have := count_len (x := (m.carved b k).all k) (y := m.fl.all k ++ (List.range (clsCells (k : Int))).map (cellOf b k)) (fun a => by
  rw [FL.all_count, List.count_append, FL.all_count, count_mapRange (cellOf_inj hk)]
  unfold Al.carved
  rw [FL.carve_cnt (cellOf_inj hk) h0]
  congr 2
  refine propext ⟨fun ⟨_, _, i, hi, e⟩ => ⟨i, hi, e⟩, fun ⟨i, hi, e⟩ => ⟨rfl, by rw [e]; exact hu i hi, i, hi, e⟩⟩)
 rw [this, List.length_append, List.length_map, List.length_range]; rfl
theorem room_prd (h : AlOk B m) (hB : B ≤ 200) {mu n : Nat} (hmu : mu < 4) (h1 : 1 ≤ n) (h9 : n ≤ 16448) (he : (m.room mu n).err = 0) :
  prdN m n = prdN (m.room mu n).al n + 1 ∧ ((m.room mu n).al.bm = m.bm ∨ sumOf (runsOf (m.room mu n).al.bm.free) + 1 ≤ sumOf (runsOf m.bm.free)) ∧ (m.room mu n).al.used = m.used ∧
   ∀ q : Nat, ((m.room mu n).al.bm.list.getD q default).k = 2 → (m.bm.list.getD q default).k = 2 ∨ (m.room mu n).a = ((512 * q : Nat) : Int) := by
 unfold Al.room at he ⊢
 unfold prdN
 by_cases hs : small n
 ·rw [if_pos hs] at he
  rw [if_pos hs, if_pos hs, if_pos hs]
  have hk := ofN_lt hs
  generalize ofN (n : Int) = k at *
  have htk : ∀ (bm : Bm) (f : FL), (m.take bm f mu k).err = 0 → ∃ x, f.cell mu k = some x ∧ (m.take bm f mu k).al = ⟨bm, m.used, f.taken mu k⟩ := fun bm f hz => by
   unfold Al.take at hz ⊢
   cases hc : f.cell mu k with
   | none => rw [hc] at hz; rw [if_neg (by simp)] at hz; cases hz
   | some x => exact ⟨x, rfl, by rw [if_pos (by simp)]⟩
  unfold Al.roomS at he ⊢
  cases hc : m.fl.cell mu k with
  | some x =>
   rw [hc, if_pos (by rfl)] at he
   rw [if_pos (by rfl)]
   obtain ⟨y, hy, e⟩ := htk _ _ he
   rw [e]
   have := taken_len hmu hy
   exact ⟨by unfold prdS numC; dsimp only; omega, .inl rfl, rfl, fun q hq => .inl hq⟩
  | none =>
   rw [hc, if_neg (by simp)] at he
   rw [if_neg (by simp)]
   by_cases hz : (m.bm.small k).err = 0
   ·rw [if_pos hz] at he ⊢
    obtain ⟨y, hy, e⟩ := htk _ _ he
    rw [e]
    rcases small_live h.bm h.live k hk with ⟨e2, hp⟩ | ⟨b, s1, s2, s3, s4, s5, s6, s7, s8, s9, s10, s11⟩
    ·rw [e2] at hz; cases hz
    ·obtain ⟨f1, f2⟩ := small_free hz
     obtain ⟨a, kk, g1, g2, g3, _⟩ := takeR_fit (Nat.le_refl 1) f2
     rw [show ((1 : Nat) : Int) = 1 from rfl] at g1
     rw [g1] at f1
     dsimp only at f1
     have hsum := sum_take g2 (Nat.le_refl 1) g3
     rw [← f1] at hsum
     have hl := taken_len hmu hy
     rw [s1, Int.toNat_natCast] at hl
     rw [s1, Int.toNat_natCast]
     rw [carved_len h hk s3 s4 ((h.bm.free b).1 s5).2.2] at hl
     refine ⟨?_, .inr ?_, rfl, fun q hq => .inl ?_⟩
     ·unfold prdS
      show numC m k + _ = ((FL.taken _ mu k).all k).length + _ + 1
      rw [hsum, Nat.add_mul, Nat.one_mul]
      dsimp only at hl ⊢
      omega
     ·show sumOf (runsOf (m.bm.small k).bm.free) + 1 ≤ _
      omega
     ·have hq' : ((m.bm.small k).bm.list.getD q default).k = 2 := hq
      rw [s9 q] at hq'
      split at hq'
      ·cases hq'
      ·exact hq'
   ·rw [if_neg hz] at he ⊢
    by_cases hz4 : (m.bm.small k).err ≠ 4
    ·rw [if_pos hz4] at he
     exact absurd he hz
    ·rw [if_neg hz4] at he ⊢
     have hbm : (m.bm.small k).bm = m.bm := by
      rcases small_live h.bm h.live k hk with ⟨e2, _⟩ | ⟨b, _, s2, _⟩
      ·rw [e2]
      ·exact absurd s2 hz
     unfold Al.steal at he ⊢
     cases ho : m.fl.owner k with
     | none => rw [ho] at he; cases he
     | some i =>
      rw [ho] at he
      dsimp only at he ⊢
      have hi : i < 4 := by
       unfold FL.owner at ho
       repeat' split at ho
       all_goals cases ho
       all_goals omega
      obtain ⟨y, hy, e⟩ := htk _ _ he
      rw [e, hbm]
      have h1 := taken_len hmu hy
      rw [drain_len hi hk] at h1
      exact ⟨by unfold prdS numC; dsimp only; omega, .inl rfl, rfl, fun q hq => .inl hq⟩
 ·rw [if_neg hs] at he
  rw [if_neg hs, if_neg hs, if_neg hs]
  unfold Al.roomL at he ⊢
  by_cases hz : (m.bm.large (objBlocks n)).err ≠ 0
  ·rw [if_pos hz] at he; exact absurd he hz
  ·rw [if_neg hz]
   obtain ⟨f1, f2, f3⟩ := large_free (show (m.bm.large (objBlocks n)).err = 0 by simpa using hz)
   obtain ⟨a, kk, g1, g2, g3, _⟩ := takeR_fit (z := objBlocks n) (by omega) f2
   rw [g1] at f1
   dsimp only at f1
   have hsum := sum_take g2 (by omega) g3
   have hdiv := divs_take g2 (by omega) g3
   have hlive := large_live h.bm h.live (objBlocks n) (by omega) (by have := objBlocks_33 h9; omega)
   dsimp only
   refine ⟨by rw [f1]; exact hdiv, .inr (by rw [f1]; omega), rfl, fun q hq => ?_⟩
   rcases hlive with ⟨e2, _⟩ | ⟨b, s1, s2, s3, s4, s5, s6, s7, s8, s9, s10, s11⟩
   ·rw [e2] at hz; exact absurd (show (4 : Int) ≠ 0 by decide) hz
   ·rw [s9 q] at hq
    split at hq
    ·next c => right; rw [s1, c]; omega
    ·split at hq
     ·cases hq
     ·exact .inl hq
theorem alloc_prd (h : AlOk B m) (hB : B ≤ 200) {mu p d : Int} (h0 : 0 ≤ mu) (h4 : mu < 4) (hs : objSize p d ≠ 0) (hm : (objSize p d : Int) ≤ 512 * ((B : Int) - 1)) :
  (∃ m' a, m.alloc mu p d = ⟨m', ((a : Nat) : Int), 0⟩ ∧ Made B m m' a p d ∧ prdN m (objSize p d) = prdN m' (objSize p d) + 1 ∧ (∀ q : Nat, (m'.bm.list.getD q default).k = 2 → (m.bm.list.getD q default).k = 2 ∨ a = 512 * q) ∧ ∀ N, m.bm.dev.ok N → ∃ N', m'.bm.dev.ok N' ∧ N' + 600000 * sumOf (runsOf m'.bm.free) ≤ N + 20000 + 600000 * sumOf (runsOf m.bm.free)) ∨
  (m.alloc mu p d = ⟨m, 0, 4⟩ ∧ prdN m (objSize p d) = 0) := by
 have hz : 1 ≤ objSize p d ∧ objSize p d ≤ 16448 := by
  refine ⟨by omega, ?_⟩
  have h1 := objSize_is hs
  have h2 := obj_small hs
  omega
 rcases alloc_room h hB h0 h4 hs hm with ⟨m', a, e, hmd, hr⟩ | ⟨e, hr⟩
 ·refine .inl ⟨m', a, e, hmd, ?_⟩
  have hra := e
  unfold Al.alloc at hra
  rw [if_neg (by omega), if_neg (by rw [h.bm.lenL]; omega)] at hra
  by_cases he : (m.room mu.toNat (objSize p d)).err ≠ 0
  ·rw [if_pos he] at hra
   injection hra with _ _ h3
   exact absurd h3 he
  ·rw [if_neg he] at hra
   have he0 : (m.room mu.toNat (objSize p d)).err = 0 := by simpa using he
   obtain ⟨p1, p2, _, p4⟩ := room_prd h hB (mu := mu.toNat) (by omega) hz.1 hz.2 he0
   have hfl : m'.fl = (m.room mu.toNat (objSize p d)).al.fl ∧ m'.bm.free = (m.room mu.toNat (objSize p d)).al.bm.free ∧ m'.bm.dev = ((m.room mu.toNat (objSize p d)).al.bm.dev.init (m.room mu.toNat (objSize p d)).a p d).dev ∧ m'.bm.list = (m.room mu.toNat (objSize p d)).al.bm.list ∧ (m.room mu.toNat (objSize p d)).a = (a : Int) := by
    unfold Al.made at hra
    split at hra
    ·next c => injection hra with _ _ h3; exact absurd h3 c
    ·injection hra with h1 h2 _; subst h1; exact ⟨rfl, rfl, rfl, rfl, h2⟩
   obtain ⟨f1, f2, f3, f4, f5⟩ := hfl
   refine ⟨?_, fun q hq => ?_, fun N hN => ?_⟩
   ·rw [p1]
    unfold prdN prdS numC
    rw [f1, f2]
   ·rw [f4] at hq
    exact (p4 q hq).imp id (fun h => by rw [f5] at h; omega)
   ·rw [f2, f3]
    rcases p2 with p2 | p2
    ·rw [p2]
     exact ⟨N + 20000, init_ok hN _ _ _, by omega⟩
    ·exact ⟨N + 500000 + 20000, init_ok (room_okN h.bm.clean.inv hN (by rw [h.bm.lenL]; omega) _ _) _ _ _, by omega⟩
 ·refine .inr ⟨e, ?_⟩
  unfold roomy16 at hr
  unfold prdN
  by_cases c : small (objSize p d)
  ·rw [if_pos c] at hr ⊢
   unfold prdS numC
   have e1 : (m.fl.all (ofN (objSize p d : Nat))).length = 0 := by omega
   have e2 : sumOf (runsOf m.bm.free) = 0 := by omega
   rw [e1, e2, Nat.zero_mul]
  ·rw [if_neg c] at hr ⊢
   refine divs_none (fun x hx => ?_)
   have := long_geF hx
   omega
end
end Go.Proofs.YtpopbfagliagnaaGreat
namespace Go.Proofs.YtpopbfagliagnaaGreat
open Go.RowKit Go.Maps
end Go.Proofs.YtpopbfagliagnaaGreat
namespace Go.Proofs.YtpopbfagliagnaaGreat
section
variable {U : List Bool} {P : Nat → List Nat} {hs hk hs' : List Bool} {at_ : Nat} {open_ : List Nat}
end
end Go.Proofs.YtpopbfagliagnaaGreat
namespace Go.Proofs.YtpopbfagliagnaaGreat
open Go.RowKit Go.Maps
theorem hd_is {B : Nat} {b : Bm} (h : BmOk B b) {q : Nat} (h1 : 1 ≤ q) (h2 : q < B) : ∃ k c l : Int, hdGet b.list (q : Int) = ⟨k, c, l⟩ ∧ b.list.getD q default = ⟨k, c, l⟩ ∧ (k = 1 → ∃ cn : Nat, c = (cn : Int) ∧ cn < 32) := by
 have hg := hdGet_at h h1 h2
 have hr := of_decide_eq_true (h.right q h2)
 generalize b.list.getD q default = x at *
 obtain ⟨k, c, l⟩ := x
 refine ⟨k, c, l, hg, rfl, fun hk => ?_⟩
 unfold HdRight at hr
 dsimp only at hr
 exact ⟨c.toNat, by omega, by omega⟩
theorem cells_vmap {P : Program} {k : TypeId} {w w' : World} {b n : Nat} {M : Lit → Option Value} {a : Option Addr} {vs : List Value} (hV : VMap P k w b n M) (h : Cells w a vs) (hg : w.grownBy w' (some b)) : Cells w' a vs := by
 by_cases he : vs = []
 ·exact .inl he
 refine h.touchNe (q := b) (by simpa using grown_touchO hg) (fun x hx e => ?_)
 rcases h with h | ⟨b1, off, rfl, hc⟩
 ·exact he h
 ·injection hx with hx
  subst hx
  obtain ⟨v, l, rfl⟩ := List.exists_cons_of_ne_nil he
  have h0 := hc 0 v rfl
  obtain ⟨D, ⟨es, clock, hb, _⟩, _⟩ := hV
  subst e
  simp [World.cell?, hb] at h0
end Go.Proofs.YtpopbfagliagnaaGreat
namespace Go.Proofs.YtpopbfagliagnaaGreat
open Go.RowKit
def LgOk (m : Al) : Prop := ∀ q, (m.bm.list.getD q default).k = 2 → m.used.getD (512 * q) false = true
theorem LgOk.start {B : Nat} (hB2 : 2 ≤ B) (hB : B ≤ 100) : LgOk (al0 B) := fun q hq => by
 rw [al0_list hB2 hB, List.getD_eq_getElem?_getD, List.getElem?_replicate] at hq
 split at hq
 ·exact absurd hq (by decide)
 ·exact absurd hq (by decide)
section
variable {B : Nat} {m m' : Al}
theorem LgOk.made (hl : LgOk m) (h : AlOk B m) {a : Nat} {p d : Int} (hm : Made B m m' a p d) (hk : ∀ q : Nat, (m'.bm.list.getD q default).k = 2 → (m.bm.list.getD q default).k = 2 ∨ a = 512 * q) : LgOk m' := fun q hq => by
 rcases hk q hq with e | e
 ·exact (hm.others h (hl q e)).1
 ·have hp := hm.placed
  have hr := placed_room hp
  have hpos := hr.pos
  have hlen := hm.ok.lenU
  rw [hm.ok.bm.lenL] at hpos
  have hlu : a < m.used.length := by rw [h.lenU]; omega
  rw [hm.used, ← e, List.getD_eq_getElem?_getD, List.getElem?_set_self hlu]; rfl
theorem LgOk.gone (hl : LgOk m) {a : Nat} (hg : Gone B m m' a) : LgOk m' := fun q hq => by
 rcases hg.kin q with e | ⟨e, _⟩
 ·have hq2 := hq
  rw [e] at hq2
  rw [hg.used, getD_set_off, if_neg]
  ·exact hl q hq2
  ·intro c
   refine hg.k2 ?_
   rw [show a / 512 = q by omega]; exact hq
 ·rw [e] at hq; exact absurd hq (by decide)
theorem LgOk.trim (hl : LgOk m) {b : Nat} (ht : Trimmed B m m' b) : LgOk m' := fun q hq => by
 rw [ht.list q] at hq
 split at hq
 ·exact absurd hq (by decide)
 ·rw [ht.used]; exact hl q hq
theorem used_small (h : AlOk B m) {a : Nat} (hu : m.used.getD a false = true) : (m.bm.list.getD (a / 512) default).k = 1 ∨ (m.bm.list.getD (a / 512) default).k = 2 := by
 obtain ⟨o, ho⟩ := Option.isSome_iff_exists.1 (h.placed a hu)
 cases placed_room ho with
 | cell k hk hc hn => exact .inl (isCell_kind hc)
 | run n hb h1 hm hw hn => exact .inr (wholeN_fits (by omega)).2.1
end
section
variable {C : World → Prop} {ops : Array Oper} {rest : List Oper} {o : Oper} {a : Act} {Q : Act → Prop}
end
theorem snd_al0 {B : Nat} (hB2 : 2 ≤ B) (hB : B ≤ 100) : Snd (al0 B).bm.list := by
 intro q _ hq
 rw [al0_list hB2 hB] at hq
 simp only [List.getD_eq_getElem?_getD, List.getElem?_replicate] at hq
 split at hq <;> exact absurd hq (by decide)
section
variable {w wr w' : World} {Q : List Nat} {A : AF} {n n' B N N' : Nat} {m m' : Al}
structure Hq (w wr : World) (Q : List Nat) (A : AF) (n B N : Nat) (m : Al) : Prop where
 at_ : AlAt wr A n B m
 ok : AlOk B m
 lg : LgOk m
 snd : Snd m.bm.list
 steps : m.bm.dev.ok N
 new : ∀ k ∈ A.list, w.heap.size ≤ k ∧ k ∉ Q
 qlt : ∀ k ∈ Q, k < wr.heap.size
 below : Below w.heap.size w wr
theorem Hq.later (h : Hq w wr Q A n B N m) (hb : Below wr.heap.size wr w') : Hq w w' Q A n B N m :=
 ⟨h.at_.below hb, h.ok, h.lg, h.snd, h.steps, h.new, fun k hk => Nat.lt_of_lt_of_le (h.qlt k hk) hb.size, h.below.trans (hb.mono h.below.size)⟩
theorem Hq.mono (h : Hq w wr Q A n B N m) (hn : n ≤ n') (hN : N ≤ N') : Hq w wr Q A n' B N' m :=
 ⟨h.at_.mono hn, h.ok, h.lg, h.snd, h.steps.mono hN, h.new, h.qlt, h.below⟩
theorem Hq.own (h : Hq w wr Q A n B N m) (ht : Touch Q wr w') (hQ : ∀ k ∈ Q, w.heap.size ≤ k) : Hq w w' Q A n B N m :=
 ⟨h.at_.keep (fun k hk => ht.block k (h.at_.mem k hk) (h.new k hk).2), h.ok, h.lg, h.snd, h.steps, h.new, fun k hk => Nat.lt_of_lt_of_le (h.qlt k hk) ht.size, below_touched h.below ht hQ (Nat.le_refl _)⟩
theorem Hq.go (h : Hq w wr Q A n B N m) (hg : AlGo wr w' A n' B m') (hok : AlOk B m') (hl : LgOk m') (hsn : Snd m'.bm.list) (hs : m'.bm.dev.ok N') :
  ∃ R, Hq w w' Q (A.re R) n' B N' m' ∧ Off Q wr w' := by
 obtain ⟨R, h1, h2, h3⟩ := hg
 have hlt := h.below.size
 refine ⟨R, ⟨h1, hok, hl, hsn, hs, fun k hk => ?_, fun k hk => Nat.lt_of_lt_of_le (h.qlt k hk) h2.size, below_touched h.below h2 (fun k hk => (h.new k (AF.hot_list hk)).1) (Nat.le_refl _)⟩, ⟨A.hot, h2, fun k hk hm => (h.new k (AF.hot_list hm)).2 hk⟩⟩
 rcases AF.re_list hk with c | c
 ·exact h.new k c
 ·rcases h3 k c with c | c
  ·exact h.new k (by simp [AF.list, c])
  ·exact ⟨Nat.le_trans hlt c, fun hq => by have := h.qlt k hq; omega⟩
theorem Hq.more (h : Hq w wr Q A n B N m) {Q' : List Nat} (hQ : ∀ k ∈ Q', k ∈ Q ∨ (wr.heap.size ≤ k ∧ k < w'.heap.size)) (hb : Below wr.heap.size wr w') : Hq w w' Q' A n B N m := by
 have h' := h.later hb
 refine { h' with new := fun k hk => ⟨(h.new k hk).1, fun hq => ?_⟩, qlt := fun k hk => ?_ }
 ·rcases hQ k hq with c | c
  ·exact (h.new k hk).2 c
  ·have := h.at_.mem k hk; omega
 ·rcases hQ k hk with c | c
  ·exact h'.qlt k c
  ·exact c.2
theorem Hq.less (h : Hq w wr Q A n B N m) {Q' : List Nat} (hQ : ∀ k ∈ Q', k ∈ Q) : Hq w wr Q' A n B N m :=
 { h with new := fun k hk => ⟨(h.new k hk).1, fun hq => (h.new k hk).2 (hQ k hq)⟩, qlt := fun k hk => h.qlt k (hQ k hk) }
theorem Hq.begun {w0 w w1 : World} {A : AF} {n B : Nat} (hB2 : 2 ≤ B) (hB : B ≤ 100) (h : AlAt w1 A n B (al0 B)) (hA : ∀ k ∈ A.list, w0.heap.size ≤ k) (hb0 : Below w.heap.size w w0) (hb : Below w0.heap.size w0 w1) {Q : List Nat} (hQ : ∀ k ∈ Q, k < w0.heap.size) :
  Hq w w1 Q A n B 201000 (al0 B) :=
 ⟨h, al0_ok hB2 hB, LgOk.start hB2 hB, snd_al0 hB2 hB, dev0_ok hB2 hB, fun k hk => ⟨Nat.le_trans hb0.size (hA k hk), fun hq => (by have := hQ k hq; have := hA k hk; omega)⟩, fun k hk => Nat.lt_of_lt_of_le (hQ k hk) hb.size, hb0.trans (hb.mono hb0.size)⟩
theorem alloc_cases (h : AlOk B m) (hB : B ≤ 200) (hl : LgOk m) (hs : Snd m.bm.list) (ho : m.bm.dev.ok N) (mu p d : Int) :
  (∃ m' a, m.alloc mu p d = ⟨m', ((a : Nat) : Int), 0⟩ ∧ Made B m m' a p d ∧ LgOk m' ∧ Snd m'.bm.list ∧ m'.bm.dev.ok (N + 600000)) ∨ ∃ er, m.alloc mu p d = ⟨m, 0, er⟩ ∧ er ≠ 0 := by
 by_cases hmu : mu < 0 ∨ 4 ≤ mu
 ·exact .inr ⟨1, by unfold Al.alloc; rw [if_pos hmu], by decide⟩
 ·by_cases hz : objSize p d = 0 ∨ 512 * ((m.bm.list.length : Int) - 1) < (objSize p d : Nat)
  ·exact .inr ⟨5, by unfold Al.alloc; rw [if_neg hmu, if_pos hz], by decide⟩
  ·rw [h.bm.lenL] at hz
   rcases alloc_prd h hB (mu := mu) (p := p) (d := d) (by omega) (by omega) (by omega) (by omega) with ⟨m', a, e, hm, _, hk, _⟩ | ⟨e, _⟩
   ·have hsn := snd_alloc h hs mu p d
    have hok := alloc_okN h.bm.clean.inv ho (by rw [h.bm.lenL]; omega) mu p d
    rw [e] at hsn hok
    exact .inl ⟨m', a, e, hm, hl.made h hm hk, hsn, hok⟩
   ·exact .inr ⟨4, e, by decide⟩
def HqAl (w wr : World) (Q : List Nat) (A : AF) (n B N : Nat) (m : Al) (mu p d : Int) : Ending → World → Prop := fun e w' => ∃ (m' : Al) (R : List Nat) (a er : Int),
 e = .returned (.tuple #[.int .i64 a, .int .i64 er]) ∧ Hq w w' Q (A.re R) (n + 6) B (N + 600000) m' ∧ Off Q wr w' ∧ ((∃ x : Nat, a = (x : Int) ∧ er = 0 ∧ Made B m m' x p d) ∨ (m' = m ∧ er ≠ 0)) ∧ m.alloc mu p d = ⟨m', a, er⟩
theorem Hq.alloc (h : Hq w wr Q A n B N m) (hB2 : 2 ≤ B) (hB : B ≤ 200) (hn : n < 900000000000) (hN : N ≤ 900000000) (mu p d : Int) :
  Calls Tryz.prog 152 #[valloc A, .int .i64 mu, .int .i64 p, .int .i64 d] wr (HqAl w wr Q A n B N m mu p d) := by
 refine (aalloc_any h.at_ h.ok (by omega) hB hn hN h.steps mu p d).mono ?_
 rintro e w' ⟨rfl, hg⟩
 rcases alloc_cases h.ok hB h.lg h.snd h.steps mu p d with ⟨m', a, e, hm, h1, h2, h3⟩ | ⟨er, e, he⟩
 ·rw [e] at hg ⊢
  obtain ⟨R, hq, ho⟩ := h.go hg hm.ok h1 h2 h3
  exact ⟨m', R, a, 0, rfl, hq, ho, .inl ⟨a, rfl, rfl, hm⟩, e⟩
 ·rw [e] at hg ⊢
  obtain ⟨R, hq, ho⟩ := h.go hg h.ok h.lg h.snd (h.steps.mono (Nat.le_add_right N 600000))
  exact ⟨m, R, 0, er, rfl, hq, ho, .inr ⟨rfl, he⟩, e⟩
def HqFr (w wr : World) (Q : List Nat) (A : AF) (n B N : Nat) (m : Al) (x : Int) : Ending → World → Prop := fun e w' => ∃ (m' : Al) (R : List Nat) (er : Int),
 e = .returned (.int .i64 er) ∧ Hq w w' Q (A.re R) (n + 4) B (N + 500000) m' ∧ Off Q wr w' ∧ ((∃ a : Nat, x = (a : Int) ∧ m.used.getD a false = true ∧ er = 0 ∧ Gone B m m' a) ∨ (m' = m ∧ er = 42 ∧ hasI m.used x = false))
theorem Hq.free (h : Hq w wr Q A n B N m) (hB : B ≤ 200) (hn : n < 900000000000) (hN : N ≤ 900000000) (mu x : Int) :
  Calls Tryz.prog 75 #[valloc A, .int .i64 mu, .int .i64 x] wr (HqFr w wr Q A n B N m x) := by
 refine (afree_any h.at_ h.ok hB hn hN h.steps mu x).mono ?_
 rintro e w' (⟨hx, rfl, hg⟩ | ⟨a, m', rfl, hu, rfl, hgn, ho, hg⟩)
 ·obtain ⟨R, hq, hof⟩ := h.go hg h.ok h.lg h.snd (h.steps.mono (Nat.le_add_right N 500000))
  exact ⟨m, R, 42, rfl, hq, hof, .inr ⟨rfl, rfl, hx⟩⟩
 ·obtain ⟨R, hq, hof⟩ := h.go hg hgn.ok (h.lg.gone hgn) (hgn.snd h.snd) ho
  exact ⟨m', R, 0, rfl, hq, hof, .inl ⟨a, rfl, hu, rfl, hgn⟩⟩
end
section
variable {w wr w' : World} {Q Q' R : List Nat} {A : AF} {n n' B N N' : Nat} {m m' : Al} {K : MkF} {M M' : Mk}
end
section
variable {w wr w' : World} {Q Q' : List Nat} {v : Value} {xs : List Nat}
end
section
variable {w w' : World} {s b : Nat} {A : AF} {K : MkF} {vg : Value} {G Q : List Nat}
end
end Go.Proofs.YtpopbfagliagnaaGreat
namespace Go.Proofs.YtpopbfagliagnaaGreat
open Go.RowKit Go.Maps
section
variable {w : World} {A : AF} {n B : Nat} {m : Al} {K : MkF} {M : Mk}
end
section
variable {U : List Bool} {f : Nat} {pre : List Nat} {i : Nat} {M : Mk}
end
section
variable {w : World} {A : AF} {n B : Nat} {m : Al} {K : MkF} {M : Mk} {s b : Nat} {vg : Value} {G : List Nat}
end
section
variable {w : World} {A : AF} {n B : Nat} {m : Al} {K : MkF} {M : Mk} {s b : Nat} {vg : Value} {G : List Nat}
end
section
variable {w wr w' : World} {Q Q' R : List Nat} {A : AF} {n n' B N N' : Nat} {m m' : Al} {K : MkF} {M M' : Mk}
end
section
variable {B : Nat} {m m1 m2 : Al} {ws : List Nat} {i x : Nat}
end
section
variable {w w3 w4 w5 : World} {A : AF} {n B N : Nat} {m : Al} {K : MkF} {M : Mk} {s b : Nat} {vg v2 : Value} {G G2 Q : List Nat}
structure NearO (Q : List Nat) (w : World) where
 val : World
 off : Off Q w val
instance (Q : List Nat) (w : World) : Nonempty (NearO Q w) := ⟨⟨w, Off.ofBelow (Below.refl _ _)⟩⟩
end
section
variable {w w3 w4 w5 : World} {A : AF} {n B N : Nat} {m : Al} {K : MkF} {M : Mk} {v v2 : Value} {xs : List Nat} {Q : List Nat}
end
section
variable {w wr w' : World} {Q Q' : List Nat} {A : AF} {n n' B N N' c c' : Nat} {m m' : Al} {K : MkF} {M M' : Mk} {vm : Value} {mk : List Nat}
end
section
variable {w : World} {A : AF} {n B : Nat} {m : Al} {K : MkF} {M : Mk} {s b : Nat} {vg : Value} {G : List Nat}
end
theorem hdGet_nat {l : List Hd} {b : Nat} (h1 : 1 ≤ b) (h2 : b < l.length) : hdGet l (b : Int) = l.getD b default := by
 unfold hdGet
 rw [if_neg (by omega), Int.toNat_natCast]
section
variable {B : Nat} {U0 : List Bool} {M : Mk} {m m' : Al} {b : Nat}
end
def InM (M : Lit → Option Value) (f : Nat → Bool) : Prop := ∀ x : Nat, x ≤ 1000000 → M (.int .i64 (x : Int)) = if f x then some (.bool true) else none
theorem InM.put {M : Lit → Option Value} {f g : Nat → Bool} (h : InM M f) {c : Nat} (hg : ∀ x, g x = (f x || decide (x = c))) : InM (putL M (.int .i64 (c : Int)) (some (.bool true))) g := fun x hx => by
 rw [hg x]
 by_cases e : x = c
 ·subst e; rw [putL_same]; simp
 ·rw [putL_other _ (fun h => e (by injection h with _ h; omega)), h x hx]; simp [e]
theorem InM.get {M : Lit → Option Value} {f : Nat → Bool} (h : InM M f) {c : Nat} (hc : c ≤ 1000000) : (M (.int .i64 (c : Int))).getD (.bool false) = .bool (f c) := by
 rw [h c hc]; cases f c <;> rfl
theorem InM.same {M : Lit → Option Value} {f g : Nat → Bool} (h : InM M f) (hg : ∀ x, g x = f x) : InM M g := fun x hx => by rw [hg x]; exact h x hx
def isFree (m : Al) (k x : Nat) : Bool := decide (isCell m.bm.list k x ∧ m.used.getD x false = false)
def freeUpto (m : Al) (k x : Nat) : Bool := (List.range k).any (fun j => isFree m j x)
theorem freeUpto_step (m : Al) (k x : Nat) : freeUpto m (k + 1) x = (freeUpto m k x || isFree m k x) := by
 unfold freeUpto
 rw [List.range_succ, List.any_append]; simp
theorem freeUpto_no {m : Al} {k x : Nat} (h : isFree m k x = true) : freeUpto m k x = false := by
 unfold freeUpto
 rw [List.any_eq_false]
 intro j hj hc
 have h1 := (of_decide_eq_true h).1.2.2.1
 have h2 := (of_decide_eq_true hc).1.2.2.1
 rw [h1] at h2
 injection h2 with _ h2 _
 have := List.mem_range.1 hj
 omega
section
variable {B : Nat} {m : Al} {k : Nat} {ys : List Nat}
theorem free_list (h : AlOk B m) (hk : k < 32) (hc : ∀ a, ys.count a = m.fl.cnt k a) : ys.Nodup ∧ ∀ x, ys.contains x = isFree m k x := by
 have hc2 : ∀ a, ys.count a = if isCell m.bm.list k a ∧ m.used.getD a false = false then 1 else 0 := fun a => by rw [hc, h.cells k a hk]
 refine ⟨List.nodup_iff_count.2 (fun a => by rw [hc2]; split <;> omega), fun x => ?_⟩
 rw [Bool.eq_iff_iff, List.contains_iff_mem, ← List.count_pos_iff, hc2]
 unfold isFree
 rw [decide_eq_true_iff]
 split <;> simp_all
theorem isFree_at (h : AlOk B m) {x : Nat} (hx : isFree m k x = true) : 512 ≤ x ∧ x < 512 * B ∧ m.bm.list.getD (x / 512) default = ⟨1, k, 0⟩ ∧ begins k x = true := by
 obtain ⟨⟨h1, h2, h3, h4⟩, _⟩ := of_decide_eq_true hx
 rw [h.bm.lenL] at h2
 exact ⟨h1, h2, h3, decide_eq_true h4⟩
end
theorem keyed_int : Keyed Tryz.prog 3 := int_keyed Tryz.underlying3
theorem key_int (x : Nat) (hx : x ≤ 1000000) : keyOf Tryz.prog 3 (.int .i64 (x : Int)) = some (.int .i64 (x : Int)) := keyOf_int_mk Tryz.underlying3 (by simp [Lit.wf, IntKind.min, IntKind.max, IntKind.bits, IntKind.signed]; omega)
theorem zero_bool (w : World) : (zeroValue 4).run Tryz.prog w = .ok (.bool false) w := Tryz.zeroValue4 w
def CfPost (w : World) (m : Al) : Ending → World → Prop := fun e w' => ∃ (mp n : Nat) (M : Lit → Option Value), e = .returned (.tuple #[.map (some mp), .int .i64 0, .int .i64 0]) ∧ w.heap.size ≤ mp ∧ VMap Tryz.prog 3 w' mp n M ∧ InM M (freeUpto m 32) ∧ Below w.heap.size w w'
set_option maxHeartbeats 8000000 in
set_option maxRecDepth 100000 in
theorem cfree_any {w : World} {A : AF} {n B : Nat} {m : Al} (h : AlAt w A n B m) (hok : AlOk B m) (hB1 : 1 ≤ B) (hB : B ≤ 100) (hL : m.fl.upto 900000) :
  Calls Tryz.prog 176 #[valloc A] w (CfPost w m) := by
 have HP : Hid (∀ mp n M w', w.heap.size ≤ mp → VMap Tryz.prog 3 w' mp n M → InM M (freeUpto m 32) → Below w.heap.size w w' → CfPost w m (.returned (.tuple #[.map (some mp), .int .i64 0, .int .i64 0])) w') := LH (fun mp n M w' h1 h2 h3 h4 => ⟨mp, n, M, rfl, h1, h2, h3, h4⟩)
 generalize CfPost w m = Post at *
 have HA := LH h
 have HOk := LH hok
 have HLu := LH hL
 have HMp := LH (VMap.made w Tryz.prog 3)
 have HB0 := LH (below_alloc w (.map #[] 0))
 clear h hok hL
 have hmm := @run_makeMap Tryz.prog
 go_enter Tryz.func176, Tryz.ntmps176
 go_upto_block 0 with fail
 clear hmm
 obtain ⟨mp, hmp⟩ : ∃ mp, mp = w.heap.size := ⟨_, rfl⟩
 rw [← hmp] at HMp ⊢
 have HMq : Hid (w.heap.size ≤ mp) := LH (by rw [hmp]; exact Nat.le_refl _)
 generalize w.alloc _ = w0 at *
 clear hmp
 go_wp2_with fail
 go_loopw [12] (fun kv wr => ∃ (k n1 : Nat) (M : Lit → Option Value), k ≤ 32 ∧ kv = .int .i64 (k : Int) ∧ n1 ≤ 1000000 * k ∧ Hid (VMap Tryz.prog 3 wr mp n1 M) ∧ Hid (InM M (freeUpto m k)) ∧ Hid (Below w.heap.size w wr)) (fun kv _ => 32 - (RowKit.intOf kv).toNat)
 case atStart => exact ⟨0, 0, _, by omega, rfl, by omega, HMp, LH (fun x _ => rfl), HB0⟩
 case round =>
  clear HMp HB0
  obtain ⟨k, n1, M, hk32, rfl, hn1, HV, HI, HB⟩ := hrel
  by_cases hlt : k < 32
  case neg =>
   obtain rfl : k = 32 := by omega
   have HFin := LH (HP.out mp n1 M wr HMq.out HV.out HI.out HB.out)
   clear HV HI HB
   go_wp2_with fail
   go_ret3
   exact HFin.out
  have hlt' : (k : Int) < 32 := by omega
  have HFc := LH (afreeCells_any (HA.out.below HB.out) HLu.out k hlt)
  go_wp2_with fail
  refine HFc.out.mono ?_
  rintro e w5 ⟨vy, ys, rfl, ho5, _, hc5, _, hb5⟩
  obtain ⟨ay, cy, rfl, hcy, _, _⟩ := ho5.cells
  obtain ⟨hnd, hin⟩ := free_list HOk.out hlt hc5
  have HNd := LH hnd
  have HIn := LH hin
  have HC5 := LH hcy
  have HV5 := LH (HV.out.block (hb5.block mp HV.out.lt))
  have HB5 := LH (HB.out.trans (hb5.mono HB.out.size))
  have HYl : Hid (ys.length ≤ 100000) := LH (by
   have h1 := nodup_len (512 * B) ys (fun x hx => (isFree_at HOk.out ((hin x).symm.trans (by simpa using hx))).2.1) (fun a => List.nodup_iff_count.1 hnd a)
   omega)
  obtain ⟨yl, hyl⟩ : ∃ yl, yl = ys.length := ⟨_, rfl⟩
  have HYn := LH hyl
  rw [← hyl] at HYl ⊢
  have hyl9 := HYl.out
  clear ho5 hcy hc5 hb5 hnd hin hyl HFc HV HB
  rename World => wz
  go_wp2_with fail
  go_loopw [19] (fun iv wr => ∃ (i n2 : Nat) (M2 : Lit → Option Value), i ≤ yl ∧ iv = .int .i64 (i : Int) ∧ n2 ≤ 1000000 * k + i ∧ Hid (VMap Tryz.prog 3 wr mp n2 M2) ∧ Hid (InM M2 (fun x => freeUpto m k x || (ys.take i).contains x)) ∧ Hid (Cells wr ay (ys.map vi)) ∧ Hid (Below w.heap.size w wr)) (fun iv _ => yl - (RowKit.intOf iv).toNat)
  case atStart => exact ⟨0, n1, M, Nat.zero_le _, rfl, by omega, HV5, LH (HI.out.same (fun x => by simp)), HC5, HB5⟩
  case round =>
   clear HV5 HI HC5 HB5
   obtain ⟨i, n2, M2, hi, rfl, hn2, HV, HI, HC, HB⟩ := hrel
   by_cases hil : i < yl
   case neg =>
    obtain rfl : i = yl := by omega
    have hil' : decide ((i : Int) < (i : Int)) = false := by simp
    have HI2 : Hid (InM M2 (freeUpto m (k + 1))) := LH (HI.out.same (fun x => by rw [freeUpto_step, HYn.out, List.take_length, HIn.out x]))
    clear HI HC
    go_wp2_with fail
    refine ⟨⟨k + 1, n2, M2, by omega, vint (by omega), by omega, HV, HI2, HB⟩, ?_⟩
    simp [RowKit.intOf]; omega
   have hil' : (i : Int) < (yl : Int) := by omega
   obtain ⟨x, hx⟩ : ∃ x, ys[i]? = some x := ⟨_, List.getElem?_eq_getElem (by rw [← HYn.out]; exact hil)⟩
   have hmem : x ∈ ys := List.mem_of_getElem? hx
   have hfr : isFree m k x = true := by rw [← HIn.out x]; simpa using hmem
   obtain ⟨x1, x2, x3, x4⟩ := isFree_at HOk.out hfr
   have HNo : Hid ((freeUpto m k x || (ys.take i).contains x) = false) := LH (by
    rw [freeUpto_no hfr, Bool.false_or, ← Bool.not_eq_true, List.contains_iff_mem]
    intro hm
    obtain ⟨j, hj, hjx⟩ := List.mem_iff_getElem.1 hm
    rw [List.length_take] at hj
    have h1 : ys[j]? = some x := by rw [List.getElem?_eq_getElem (by omega)]; rw [List.getElem_take] at hjx; rw [hjx]
    have := (List.getElem?_inj (by rw [← HYn.out]; exact hil) HNd.out).1 (hx.trans h1.symm)
    omega)
   have HStp : Hid (∀ z, (freeUpto m k z || (ys.take (i + 1)).contains z) = ((freeUpto m k z || (ys.take i).contains z) || decide (z = x))) := LH (fun z => by
    rw [Bool.or_assoc]
    congr 1
    rw [Bool.eq_iff_iff, List.take_add_one, hx]
    simp)
   obtain ⟨b1, o1, q1, _, hc1⟩ := HC.out.at (i := i) (by rw [List.length_map, ← HYn.out]; exact hil)
   have hc1 := hc1 i (vi x) (by rw [List.getElem?_map, hx]; rfl)
   have HAr := LH (HA.out.below HB.out)
   have a0 := HAr.out.c0
   subst q1
   clear hx hmem hfr
   rename World => wv
   go_wp2_with fail
   refine (bgeom_any HAr.out.man).mono ?_
   rintro e w6 ⟨rfl, hb6⟩
   have HB6 := LH hb6
   have HCt := LH (cat_full B (by omega) k x hlt x1 x2 w6)
   have hx9 : x ≤ 100000 := by omega
   clear hb6 hc1 a0
   go_wp2_with fail
   refine HCt.out.mono ?_
   rintro e w7 ⟨⟨yy, rfl⟩, hb7⟩
   rw [x4]
   obtain ⟨xb, hxb⟩ : ∃ xb, xb = x / 512 := ⟨_, rfl⟩
   rw [← hxb] at x3 ⊢
   have hxb1 : 1 ≤ xb := by omega
   have hxbB : xb < B := by omega
   have HM8 := LH (Mem.one w7 #[.int .i64 (xb : Int), .int .i64 yy] 289)
   have HB8 : Hid (Below wv.heap.size wv (w7.alloc (.cells #[.int .i64 (xb : Int), .int .i64 yy] 289))) := LH ((HB6.out.trans (hb7.mono HB6.out.size)).trans (HM8.out.below.mono (Nat.le_trans HB6.out.size hb7.size)))
   obtain ⟨q9, hq9⟩ : ∃ q9, q9 = w7.heap.size := ⟨_, rfl⟩
   have HX3 := LH x3
   clear hb7 HCt HB6 hxb x1 x2 x3 x4
   go_upto_region 9 with fail
   rw [← hq9] at HM8 ⊢
   generalize w7.alloc _ = w8 at *
   clear hq9
   have HA8 := LH (HAr.out.below HB8.out)
   have a0 := HA8.out.c0
   have a1 := HA8.out.man.c0
   have d0 := HM8.out.cell 0 0 rfl rfl
   have r0 := fun x => later_cell a0 x
   have r1 := fun x => later_cell a1 x
   have r2 := fun x => later_cell d0 x
   have HGet := LH (fun w' (h' : Below w8.heap.size w8 w') => tget_any ((HA8.out.below h').man.tab.at (MF.notHot (MF.apart (HA8.out.below h').man.nd).t).1) (xb : Int) (by rw [HA8.out.man.tab.len]; omega))
   rw [hdGet_nat hxb1 (by rw [HA8.out.man.tab.len]; exact hxbB), HX3.out] at HGet
   unfold Hd.val at HGet
   dsimp only at HGet
   refine wp_region_seg (C := fun w' => ∃ x : Later (w8), w' = x.val) [.sq [0, 1, 2] false, .fl [3, 4, 5, 6, 7, 8, 9, 10, 11, 13, 14], .sq [12] true, .sq [15, 16, 17] false] (by kernel_rfl) (by kernel_rfl) (by intro c a d v w h; cases d <;> exact h) ?_
   simp only [segs, picks, List.getElem?_cons_succ, List.getElem?_cons_zero]
   have hC1 := later_drew (w8)
   refine wpSeg_sq (fun K hK => ?_)
   go_wp2_with fail
   go_wp2_with fail
   refine hK _ _ (fun h => nomatch h) ?_
   clear hK K
   refine wpSeg_fl hC1 ?_
   repeat (first | go_big_quiet_step (fail) | quiet_step (fail))
   refine wpQuiet_nil ?_
   refine wpSeg_sq (fun K hK => ?_)
   go_wp2_with fail
   refine (HGet.out _ (later_below hC1)).mono ?_
   rintro e w9 ⟨rfl, hb9⟩
   have hC2 := later_step hC1 hb9
   clear hb9
   go_wp2_with fail
   refine hK _ _ (fun _ => hC2) ?_
   clear hK K
   have HB9 : Hid (Below wv.heap.size wv w9) := LH (HB8.out.trans ((later_below hC2).mono HB8.out.size))
   have HV9 := LH (HV.out.block (HB9.out.block mp HV.out.lt))
   have HC9 := LH (HC.out.below HB9.out (Nat.le_refl _))
   have HGm : Hid ((M2 (.int .i64 (x : Int))).getD (.bool false) = .bool false) := LH (by rw [HI.out.get (by omega), HNo.out])
   have hkey := key_int x (by omega)
   have hn9 : n2 < maxLen := by have : maxLen = 9223372036854775807 := rfl; omega
   clear r0 r1 r2 a0 a1 d0 hC1 hC2 HGet HM8 HA8 HAr HB8 HV HC HX3
   refine wpSeg_last ?_
   go_wp2_with (first
    | (refine wpList_vlook rfl _ _ 279 rfl 3 4 keyed_int Tryz.underlying279 _ (zero_bool _) mp n2 M2 rfl HV9.out _ _ rfl hkey ?_; rw [HGm.out])
    | (refine wpList_vstore rfl _ _ _ 279 rfl 3 4 keyed_int Tryz.underlying279 mp n2 M2 rfl HV9.out hn9 _ _ _ rfl rfl hkey ?_; intro wf h6 hg6; have HV6 := LH h6; have HG6 := LH hg6; clear h6 hg6))
   have HC6 := LH (cells_vmap HV9.out HC9.out HG6.out)
   have HBf : Hid (Below w.heap.size w wf) := LH (below_touch (HB.out.trans (HB9.out.mono HB.out.size)) (grown_touchO HG6.out) (fun b hb => by simp at hb; subst hb; exact HMq.out) (Nat.le_refl _))
   refine ⟨⟨i + 1, n2 + 1, _, by omega, vint (by omega), by omega, HV6, LH (HI.out.put HStp.out), HC6, HBf⟩, ?_⟩
   simp [RowKit.intOf]; omega
structure Rep where
 fr : Nat
 sm : Nat
 lg : Nat
 ob : Nat
 us : Nat
 ce : Nat
 wa : Int
def Rep.cs (R : Rep) : List Value := [vi R.fr, vi R.sm, vi R.lg, vi R.ob, vi R.us, vi R.ce, .int .i64 R.wa]
def Rep.ok (R : Rep) (N : Nat) : Prop := R.fr ≤ N ∧ R.sm ≤ N ∧ R.lg ≤ N ∧ R.ob ≤ N ∧ R.us ≤ N ∧ R.ce ≤ N ∧ -(N : Int) ≤ R.wa ∧ R.wa ≤ N
def RepAt (w : World) (r : Nat) (R : Rep) : Prop := w.heap[r]? = some (.cells R.cs.toArray 157 (0, 0))
section
variable {w w' : World} {r : Nat} {R : Rep}
theorem RepAt.lt (h : RepAt w r R) : r < w.heap.size := (Array.getElem?_eq_some_iff.1 h).1
theorem RepAt.keep (h : RepAt w r R) (hk : w'.heap[r]? = w.heap[r]?) : RepAt w' r R := hk.trans h
theorem RepAt.below (h : RepAt w r R) (hb : Below w.heap.size w w') : RepAt w' r R := h.keep (hb.block r h.lt)
theorem RepAt.row (h : RepAt w r R) : RowAt w r 157 R.cs := ⟨_, h, [], by simp⟩
theorem RepAt.cell (h : RepAt w r R) {i : Nat} {v : Value} (hi : R.cs[i]? = some v) : w.cell? ⟨r, i, none⟩ = some v := cell_of_row _ _ i _ _ _ (by rw [h]) |>.trans (by simpa using hi)
theorem RepAt.set (h : RepAt w r R) {R' : Rep} (i : Nat) (v : Value) (he : R.cs.toArray.setIfInBounds i v = R'.cs.toArray) : RepAt (w.setCell ⟨r, i, none⟩ v) r R' ∧ Touch [r] w (w.setCell ⟨r, i, none⟩ v) :=
 ⟨by unfold RepAt; rw [heap_setCell_same w r i _ _ _ h, he], Touch.setCell _ (by simp) _⟩
end
def Rep.add (R : Rep) (s : Nat) (room : Int) : Rep := { R with ob := R.ob + 1, us := R.us + s, wa := R.wa + (room - s) }
set_option maxHeartbeats 4000000 in
set_option maxRecDepth 20000 in
theorem radd_any {w : World} {r : Nat} {R : Rep} (h : RepAt w r R) (hR : R.ok 1000000000) (p d : Int) (room : Int) (hs : objSize p d ≤ 1000000) (hr : 0 ≤ room) (hr2 : room ≤ 1000000) :
  Calls Tryz.prog 254 #[.pointer (some ⟨r, 0, none⟩), .agg #[.int .i64 p, .int .i64 d], .int .i64 room] w fun e w' => e = .returned (.tuple #[]) ∧ RepAt w' r (R.add (objSize p d) room) ∧ Touch [r] w w' := by
 have HP : Hid (∀ w', RepAt w' r (R.add (objSize p d) room) → Touch [r] w w' → (fun e w' => e = Ending.returned (.tuple #[]) ∧ RepAt w' r (R.add (objSize p d) room) ∧ Touch [r] w w') (.returned (.tuple #[])) w') := LH (fun w' h1 h2 => ⟨rfl, h1, h2⟩)
 generalize (fun e w' => e = Ending.returned (.tuple #[]) ∧ RepAt w' r (R.add (objSize p d) room) ∧ Touch [r] w w') = Post at *
 have HSz := LH (fun w => osize_any p d w)
 obtain ⟨s, hs'⟩ : ∃ s, s = objSize p d := ⟨_, rfl⟩
 rw [← hs'] at HSz HP hs
 have hb0 := below_alloc w (.cells #[.int .i64 p, .int .i64 d] 169)
 have HM := LH (Mem.one w #[.int .i64 p, .int .i64 d] 169)
 have HR0 := LH (h.below hb0)
 have HB0 := LH hb0
 have HRne : Hid (r ≠ w.heap.size) := LH (Nat.ne_of_lt h.lt)
 obtain ⟨q, hq⟩ : ∃ q, q = w.heap.size := ⟨_, rfl⟩
 obtain ⟨rf, rs, rl, ro, ru, rc, ra⟩ := R
 obtain ⟨k1, k2, k3, k4, k5, k6, k7, k8⟩ := hR
 dsimp only at k1 k2 k3 k4 k5 k6 k7 k8
 clear h hb0 hs'
 go_enter Tryz.func254, Tryz.ntmps254
 go_upto_region 1 with fail
 rw [← hq] at HM HRne ⊢
 generalize w.alloc _ = w0 at *
 clear hq
 have c3 : w0.cell? ⟨r, 3, none⟩ = some (.int .i64 (ro : Int)) := HR0.out.cell rfl
 have f3 := HR0.out.row.frozen 3
 obtain ⟨h1, t1⟩ := HR0.out.set (R' := ⟨rf, rs, rl, ro + 1, ru, rc, ra⟩) 3 (.int .i64 ((ro : Int) + 1)) rfl
 have HR1 := LH h1
 have HT1 := LH t1
 clear h1 t1
 go_upto_region 2 with fail
 generalize w0.setCell _ _ = w1 at *
 have HM1 : Hid (MemR w.heap.size w1 [⟨q, 169, [.int .i64 p, .int .i64 d], true⟩]) := LH (HM.out.r.apart HT1.out (by intro x hx; simp at hx; subst hx; simp; exact fun e => HRne.out e.symm))
 have c4 : w1.cell? ⟨r, 4, none⟩ = some (.int .i64 (ru : Int)) := HR1.out.cell rfl
 have m0 := HM1.out.cell 0 0 rfl rfl
 have m1 := HM1.out.cell 0 1 rfl rfl
 have r0 := fun x => later_cell c4 x
 have r1 := fun x => later_cell m0 x
 have r2 := fun x => later_cell m1 x
 clear c3 f3
 refine wp_region_seg (C := fun w' => ∃ x : Later (w1), w' = x.val) [.fl [0, 1, 2, 3, 4], .sq [5] true, .sq [6, 7, 8, 9] false] (by kernel_rfl) (by kernel_rfl) (by intro c a d v w h; cases d <;> exact h) ?_
 simp only [segs, picks, List.getElem?_cons_succ, List.getElem?_cons_zero]
 have hC1 := later_drew (w1)
 refine wpSeg_fl hC1 ?_
 repeat (first | go_big_quiet_step (fail) | quiet_step (fail))
 refine wpQuiet_nil ?_
 refine wpSeg_sq (fun K hK => ?_)
 go_wp2_with fail
 refine (HSz.out _).mono ?_
 rintro e w2 ⟨rfl, hb2⟩
 have hC2 := later_step hC1 hb2
 clear hb2
 have HR2 := LH (HR1.out.below (later_below hC2))
 have HM2 := LH (HM1.out.later (later_below hC2))
 have HT2 : Hid (Touch [r] w0 w2) := LH (HT1.out.trans (Touch.ofBelow (later_below hC2)))
 have f4 := HR2.out.row.frozen 4
 have d4 : w2.cell? ⟨r, 4, none⟩ = some (.int .i64 (ru : Int)) := HR2.out.cell rfl
 obtain ⟨h1, t1⟩ := HR2.out.set (R' := ⟨rf, rs, rl, ro + 1, ru + s, rc, ra⟩) 4 (.int .i64 ((ru : Int) + (s : Int))) rfl
 have HR3 := LH h1
 have HT3 := LH (HT2.out.trans t1)
 have HM3 : Hid (MemR w.heap.size (w2.setCell ⟨r, 4, none⟩ (.int .i64 ((ru : Int) + (s : Int)))) [⟨q, 169, [.int .i64 p, .int .i64 d], true⟩]) := LH (HM2.out.apart t1 (by intro x hx; simp at hx; subst hx; simp; exact fun e => HRne.out e.symm))
 clear h1 t1 r0 r1 r2 c4 m0 m1
 go_wp2_with fail
 refine hK _ _ (fun _ => hC2) ?_
 clear hK K
 refine wpSeg_last ?_
 go_upto_region 3 with fail
 generalize w2.setCell _ _ = w3 at *
 have c6 : w3.cell? ⟨r, 6, none⟩ = some (.int .i64 ra) := HR3.out.cell rfl
 have m0 := HM3.out.cell 0 0 rfl rfl
 have m1 := HM3.out.cell 0 1 rfl rfl
 have r0 := fun x => later_cell c6 x
 have r1 := fun x => later_cell m0 x
 have r2 := fun x => later_cell m1 x
 have hw : IntKind.i64.wrap (room - (s : Int)) = room - (s : Int) := by rw [IntKind.wrap_i64]; omega
 clear hC1 hC2 HR2 HM2 HT2 f4 d4
 refine wp_region_seg (C := fun w' => ∃ x : Later (w3), w' = x.val) [.fl [0, 1, 2, 3, 4, 5], .sq [6] true, .fl [7], .sq [8, 9, 10, 11] false] (by kernel_rfl) (by kernel_rfl) (by intro c a d v w h; cases d <;> exact h) ?_
 simp only [segs, picks, List.getElem?_cons_succ, List.getElem?_cons_zero]
 have hC1 := later_drew (w3)
 refine wpSeg_fl hC1 ?_
 repeat (first | go_big_quiet_step (fail) | quiet_step (fail))
 refine wpQuiet_nil ?_
 refine wpSeg_sq (fun K hK => ?_)
 go_wp2_with fail
 refine (HSz.out _).mono ?_
 rintro e w4 ⟨rfl, hb4⟩
 have hC2 := later_step hC1 hb4
 clear hb4
 have HR4 := LH (HR3.out.below (later_below hC2))
 have HT4 : Hid (Touch [r] w0 w4) := LH (HT3.out.trans (Touch.ofBelow (later_below hC2)))
 have f6 := HR4.out.row.frozen 6
 have d6 : w4.cell? ⟨r, 6, none⟩ = some (.int .i64 ra) := HR4.out.cell rfl
 obtain ⟨h1, t1⟩ := HR4.out.set (R' := ⟨rf, rs, rl, ro + 1, ru + s, rc, ra + (room - s)⟩) 6 (.int .i64 (ra + (room - (s : Int)))) rfl
 have HR5 := LH h1
 have HT5 : Hid (Touch [r] w (w4.setCell ⟨r, 6, none⟩ (.int .i64 (ra + (room - (s : Int)))))) := LH ((Touch.ofBelow HB0.out).trans (HT4.out.trans t1))
 clear h1 t1 r0 r1 r2 c6 m0 m1
 go_wp2_with fail
 refine hK _ _ (fun _ => hC2) ?_
 clear hK K
 refine wpSeg_fl hC2 ?_
 repeat (first | go_big_quiet_step (fail) | quiet_step (fail))
 refine wpQuiet_nil ?_
 refine wpSeg_last ?_
 go_wp2_with fail
 go_end0
 exact HP.out _ HR5.out HT5.out
end Go.Proofs.YtpopbfagliagnaaGreat
namespace Go.Proofs.YtpopbfagliagnaaGreat
open Go.RowKit Go.Shelf Go.Maps
attribute [local go_sem] Oper.semAt_some
def cellL (b k : Nat) : List Nat := (List.range (clsCells k)).map (cellOf b k)
theorem cellL_len (b k : Nat) : (cellL b k).length = clsCells k := by simp [cellL]
def Kp3 (Bk Bg Bb : Nat) (A B : World) : Prop := B.heap[Bk]? = A.heap[Bk]? ∧ B.heap[Bg]? = A.heap[Bg]? ∧ B.heap[Bb]? = A.heap[Bb]?
set_option maxRecDepth 100000 in
set_option maxHeartbeats 4000000 in
theorem call1_in {B c b : Nat} (hB : B ≤ 1000) (hc : c < 32) (hb1 : 1 ≤ b) (hbB : b < B) (n : Nat) (hn : 1 ≤ n) (lp Bk Bg Bb : Nat) (J Jx : List {x : Nat // x ∈ cellL b c} → World → Prop)
  (hAb : ∀ s W W', J s W → Below W.heap.size W W' → J s W')
  (hY : ∀ pre (x : {x : Nat // x ∈ cellL b c}) W, J pre W → pre.length < (cellL b c).length → YieldAt Fence.wide (n - 1) Tryz.prog lp #[.int .i64 (x.val : Int)] W fun e W' =>
   (e = .returned (.bool true) ∧ J (pre ++ [x]) W' ∧ Kp3 Bk Bg Bb W W') ∨ (e = .returned (.bool false) ∧ Jx (pre ++ [x]) W'))
  (W : World) (hk : Boxed W Bk 3 (.int .i64 (c : Int))) (hg : Boxed W Bg 44 (.int .i64 (B : Int))) (hbb : Boxed W Bb 3 (.int .i64 (b : Int))) (h0 : J [] W) :
  CallsIn Fence.wide n Tryz.prog 340 #[.func (.yield lp) #[] #[], .pointer (some ⟨Bk, 0, none⟩), .pointer (some ⟨Bg, 0, none⟩), .pointer (some ⟨Bb, 0, none⟩)] W fun e W' => (∃ v, e = .returned v) ∧
   ((∃ ys, ys.map Subtype.val = cellL b c ∧ J ys W') ∨ (∃ pre, True ∧ Jx pre W')) := by
 obtain ⟨N, hN⟩ : ∃ N, N = clsCells (c : Int) := ⟨_, rfl⟩
 have hN9 : N ≤ 512 := by rw [hN]; unfold clsCells; exact Nat.le_trans (Nat.div_le_self _ _) (by omega)
 have HNn := LH hN
 have HCc := LH (fun w => ccells_any (c : Int) w)
 rw [← hN] at HCc
 have HAd := LH (fun i w => caddr_any B hB (c : Int) (b : Int) i w)
 have HCa : Hid (∀ i : Nat, i < N → cellAt (B : Int) (c : Int) (b : Int) (i : Int) = (cellOf b c i : Nat)) := LH (fun i hi => cellAt_of hc hb1 hbB (by rw [← hN]; exact hi))
 have HIn : Hid (∀ i : Nat, i < N → cellOf b c i ∈ cellL b c) := LH (fun i hi => List.mem_map.2 ⟨i, List.mem_range.2 (by rw [← hN]; exact hi), rfl⟩)
 have hck := hk.cell
 have hcg := hg.cell
 have hcb := hbb.cell
 clear hN
 refine callsIn_of_wp Tryz.func340 rfl trivial ?_ rfl
 simp only [Tryz.ntmps340, List.size_toArray, List.length_cons, List.length_nil, Nat.reduceAdd, Nat.reduceSub, Array.replicate_succ, Array.replicate_zero, List.push_toArray, List.append_toArray, List.nil_append, List.cons_append]
 gi_wp2_with (refine ⟨trivial, ?_⟩; gi_at_call 279; refine (callsIn_wide.2 (HCc.out _)).mono ?_; rintro e w1 ⟨rfl, hbw⟩)
 have hk1 : Boxed w1 Bk 3 (.int .i64 (c : Int)) := (hbw.block Bk hk.lt).trans hk
 have hg1 : Boxed w1 Bg 44 (.int .i64 (B : Int)) := (hbw.block Bg hg.lt).trans hg
 have hbb1 : Boxed w1 Bb 3 (.int .i64 (b : Int)) := (hbw.block Bb hbb.lt).trans hbb
 have hj1 := hAb _ _ _ h0 hbw
 clear hk hg hbb h0 hbw hck hcg hcb HCc
 gi_loopw [9] (fun iv wr => ∃ (i : Nat) (pre : List {x : Nat // x ∈ cellL b c}), i ≤ N ∧ iv = .int .i64 (i : Int) ∧ Hid (pre.length = i ∧ pre.map Subtype.val = (cellL b c).take i) ∧ Boxed wr Bk 3 (.int .i64 (c : Int)) ∧ Boxed wr Bg 44 (.int .i64 (B : Int)) ∧ Boxed wr Bb 3 (.int .i64 (b : Int)) ∧ J pre wr) (fun iv _ => N - (RowKit.intOf iv).toNat)
 case atStart => exact ⟨0, [], Nat.zero_le _, rfl, LH ⟨rfl, rfl⟩, hk1, hg1, hbb1, hj1⟩
 case round =>
  clear hk1 hg1 hbb1 hj1
  obtain ⟨i, pre, hi, rfl, HPr, hk, hg, hbb, hJ⟩ := hrel
  have hck := hk.cell
  have hcg := hg.cell
  have hcb := hbb.cell
  by_cases hlt : i < N
  case neg =>
   obtain rfl : i = N := by omega
   have hlt' : decide ((i : Int) < (i : Int)) = false := by simp
   gi_wp2
   go_end0
   refine ⟨⟨_, rfl⟩, .inl ⟨pre, ?_, hJ⟩⟩
   rw [HPr.out.2, HNn.out]
   exact List.take_of_length_le (by rw [cellL_len]; exact Nat.le_refl _)
  have hlt' : (i : Int) < (N : Int) := by omega
  have HAi := LH (fun w => HAd.out (i : Int) w)
  rw [HCa.out i hlt] at HAi
  have hx := HIn.out i hlt
  have hx9 : cellOf b c i ≤ 1000000 := by
   have h1 : clsWords (c : Int) ≤ 512 := Nat.le_trans (clsWords_le _) (by omega)
   have h2 : i * clsWords (c : Int) ≤ 512 * 512 := Nat.mul_le_mul (by omega) h1
   unfold cellOf
   omega
  have HPx : Hid (∀ y : {x : Nat // x ∈ cellL b c}, y.val = cellOf b c i → (pre ++ [y]).length = i + 1 ∧ (pre ++ [y]).map Subtype.val = (cellL b c).take (i + 1)) := LH (fun y hy => by
   refine ⟨by rw [List.length_append, HPr.out.1]; rfl, ?_⟩
   rw [List.map_append, HPr.out.2, List.take_add_one]
   congr 1
   have : (cellL b c)[i]? = some (cellOf b c i) := by
    unfold cellL
    rw [List.getElem?_map, List.getElem?_range (by rw [← HNn.out]; exact hlt)]; rfl
   rw [this, ← hy]; rfl)
  have HPl : Hid (pre.length < (cellL b c).length) := LH (by rw [HPr.out.1, cellL_len, ← HNn.out]; exact hlt)
  obtain ⟨y, hyv⟩ : ∃ y : {x : Nat // x ∈ cellL b c}, y.val = cellOf b c i := ⟨⟨_, hx⟩, rfl⟩
  have HPy := LH (HPx.out y hyv)
  rw [← hyv] at HAi hx9
  have hyn : decide ((y.val : Int) < 0) = false := by simp
  clear HPx hx hyv
  gi_wp2_with (refine ⟨trivial, ?_⟩; gi_at_call 262; refine (callsIn_wide.2 (HAi.out _)).mono ?_; rintro e w3 ⟨rfl, hb3⟩; have hJ3 := hAb _ _ _ hJ hb3; have hk3 : Boxed w3 Bk 3 (.int .i64 (c : Int)) := (hb3.block Bk hk.lt).trans hk; have hg3 : Boxed w3 Bg 44 (.int .i64 (B : Int)) := (hb3.block Bg hg.lt).trans hg; have hbb3 : Boxed w3 Bb 3 (.int .i64 (b : Int)) := (hb3.block Bb hbb.lt).trans hbb; obtain ⟨fn, tmps, assign, body, hy, hR⟩ := hY pre y w3 hJ3 HPl.out; clear hb3)
  refine hR.mono ?_
  rintro e W6 (⟨rfl, hJ6, hk6⟩ | ⟨rfl, hJx6⟩)
  ·have hk7 : Boxed W6 Bk 3 (.int .i64 (c : Int)) := hk6.1.trans hk3
   have hg7 : Boxed W6 Bg 44 (.int .i64 (B : Int)) := hk6.2.1.trans hg3
   have hbb7 : Boxed W6 Bb 3 (.int .i64 (b : Int)) := hk6.2.2.trans hbb3
   clear hk6 hy hR
   gi_wp2
   go_roundw
   case rel => exact ⟨i + 1, pre ++ [y], by omega, vint (by omega), HPy, hk7, hg7, hbb7, hJ6⟩
   case measure => simp [RowKit.intOf]; omega
  ·gi_wp2
   refine bodyPost_ret (results_none rfl _ _ _) rfl ?_
   exact ⟨⟨_, rfl⟩, .inr ⟨_, trivial, hJx6⟩⟩
theorem Kp3.trans {Bk Bg Bb : Nat} {A B C : World} (h : Kp3 Bk Bg Bb A B) (k : Kp3 Bk Bg Bb B C) : Kp3 Bk Bg Bb A C := ⟨k.1.trans h.1, k.2.1.trans h.2.1, k.2.2.trans h.2.2⟩
theorem Kp3.book {Bk Bg Bb : Nat} {w : World} (h1 : Bk < w.heap.size) (h2 : Bg < w.heap.size) (h3 : Bb < w.heap.size) (W : World) (l : Nat) (o o' : Obj) (hl : w.heap.size ≤ l) (_ : W.heap[l]? = some o) (_ : o.isCells = false) (_ : o.isWalk = false) : Kp3 Bk Bg Bb W (W.putObj l o') :=
 ⟨World.putObj_heap_other (by omega), World.putObj_heap_other (by omega), World.putObj_heap_other (by omega)⟩
theorem abides_stays {β : Type} {B : Nat} {J : β → World → Prop} {s : β} {W W' : World} (h : AbidesFrom B J) (hs : J s W) (hb : Below W.heap.size W W') : J s W' :=
 h s W W' none hs ⟨hb.os, hb.tape, hb.output, hb.size, fun k hk _ => hb.block k hk⟩ (fun r e => by cases e)
theorem call_stops {B c b : Nat} {w : World} (hB : B ≤ 1000) (hc : c < 32) (hb1 : 1 ≤ b) (hbB : b < B) (n : Nat) (hn : 1 ≤ n) (Bk Bg Bb : Nat) (hk : Boxed w Bk 3 (.int .i64 (c : Int))) (hg : Boxed w Bg 44 (.int .i64 (B : Int))) (hbb : Boxed w Bb 3 (.int .i64 (b : Int))) :
  SeqStopsK Fence.wide n Tryz.prog 340 #[.pointer (some ⟨Bk, 0, none⟩), .pointer (some ⟨Bg, 0, none⟩), .pointer (some ⟨Bb, 0, none⟩)] (fun x : {x : Nat // x ∈ cellL b c} => #[Value.int .i64 (x.val : Int)]) (Kp3 Bk Bg Bb) (fun ys => ys.map Subtype.val = cellL b c) (fun _ => True) (cellL b c).length w :=
 fun lp J Jx W hW hJa _ hY h0 => call1_in hB hc hb1 hbB n hn lp Bk Bg Bb J Jx (fun _ _ _ hs hb => abides_stays hJa hs hb) hY W ((hW.block Bk hk.lt).trans hk) ((hW.block Bg hg.lt).trans hg) ((hW.block Bb hbb.lt).trans hbb) h0
set_option maxHeartbeats 1000000 in
theorem call_in (B c b : Nat) (n : Nat) (w : World) :
  CallsIn Fence.wide n Tryz.prog 307 #[vgeom (B : Int), .int .i64 (c : Int), .int .i64 (b : Int)] w fun e w' => e = .returned (.func (.func 340) #[] #[.pointer (some ⟨w.heap.size + 1, 0, none⟩), .pointer (some ⟨w.heap.size, 0, none⟩), .pointer (some ⟨w.heap.size + 2, 0, none⟩)]) ∧ w' = ((w.alloc (.cells #[.int .i64 (B : Int)] 44)).alloc (.cells #[.int .i64 (c : Int)] 3)).alloc (.cells #[.int .i64 (b : Int)] 3) := by
 refine callsIn_of_wp Tryz.func307 rfl trivial ?_ rfl
 simp only [Tryz.ntmps307, List.size_toArray, List.length_cons, List.length_nil, Nat.reduceAdd, Nat.reduceSub, Array.replicate_succ, Array.replicate_zero, List.push_toArray, List.append_toArray, List.nil_append, List.cons_append]
 gi_wp2
 go_ret
 exact ⟨rfl, rfl⟩
end Go.Proofs.YtpopbfagliagnaaGreat
namespace Go.Proofs.YtpopbfagliagnaaGreat
open Go.RowKit
def isDefer : Op → Bool
 | .defer _ => true
 | _ => false
section
variable {P : Program} {ops : Array Oper} {md : Region.Mode} {C : World → Prop} {Q : Exit → Act → World → Prop}
theorem wpOp_in {i l₀ n : Nat} {K : Act → World → Prop} {a : Act} {w : World} (hd : ∀ o, ops[i]? = some o → isDefer o.op = false) (hL : ¬ LetsOut Q) (h : wpOp P ops Q i K a w) : wpOpIn (Fence.wide.inRound l₀) n P ops Q i K a w := by
 unfold wpOp at h
 unfold wpOpIn
 cases ho : ops[i]? with
 | none => rw [ho] at h; exact h
 | some o =>
  rw [ho] at h
  have hdo : ∀ c, o.op ≠ .defer c := fun c e => by have := hd o ho; rw [e] at this; cases this
  simp only at h ⊢
  split at h
  ·rename_i hw
   rw [if_pos hw]
   rcases h with h | h
   ·refine ⟨fun f _ => trivial, ?_⟩
    rw [Oper.semAt_eq _ _ _ hdo]
    unfold Oper.wp at h
    generalize (execOp a.eval o).run P w = r at *
    cases r with
    | ok x w' =>
     cases x <;> simp only [Oper.upon, Oper.uponIn] at h ⊢
     case value => exact h
     case skip => exact h
     case defer => exact h
     case enter f args => exact ⟨fun hh => (by cases hh), callsIn_wide.2 h⟩
     case row r args => exact ⟨fun hh => (by cases hh), fun c cs _ => let ⟨v, w', r, s⟩ := h c cs; ⟨v, w', r, stepsIn_wide.2 s⟩⟩
    | halt x w' => cases x <;> simp only [Oper.upon, Oper.uponIn] at h ⊢; exact h
   ·exact absurd h.2 hL
  ·rename_i hw
   rw [if_neg hw]
   exact ⟨fun f _ => trivial, h⟩
theorem wpAny_in {l₀ n : Nat} (hd : ∀ (i : Nat) o, ops[i]? = some o → isDefer o.op = false) (hL : ¬ LetsOut Q) : ∀ (fuel : Nat) (listed : Array Bool) (a : Act) (w : World), wpAny P md ops Q fuel listed a w → wpAnyIn (Fence.wide.inRound l₀) n P md ops Q fuel listed a w
 | 0, _, _, _, h => h
 | fuel + 1, _, _, _, h => ⟨h.1, fun i hi => wpOp_in (hd i) hL (wpOp_mono (fun a' w' h' => wpAny_in hd hL fuel _ a' w' h') (h.2 i hi))⟩
theorem wpIn_region_seg {l₀ n id : Nat} {a : Act} {w : World} {l : List Oper} (is : List Seg) (hm : P.follows .mixedOrders = true) (hB : segB .any l.toArray is = true)
  (hQ : ∀ c a d v w, Q (.panic c) (a.put d v) w → Q (.panic c) a w) (hL : ¬ LetsOut Q) (hd : (l.all fun o => !isDefer o.op) = true)
  (h : wpSeg P l.toArray C Q (segs l is) a w.drew) : (Code.region id l.toArray true).wpIn (Fence.wide.inRound l₀) n P Q a w := by
 simp only [segB, Bool.and_eq_true, beq_iff_eq] at hB
 refine wpIn_region_any hm (wpAny_in (fun i o ho => ?_) hL _ _ _ _ (wpAny_of_F (C := C) (loose := looseOf .any l.toArray) _ _ _ _ ?_))
 ·have hi : l[i]? = some o := by simpa using ho
  have := List.all_eq_true.1 hd o (List.mem_of_getElem? hi)
  simpa using this
 ·have := seg_ok (md := .any) (C := C) hB.1.1 hQ is (Array.replicate l.toArray.size false) a w.drew (shut_none _) hB.2 h
  rw [hB.1.2] at this
  exact this
end
def clsWaste (c : Nat) : Nat := 512 - clsCells (c : Int) * clsWords (c : Int)
set_option maxHeartbeats 1000000 in
theorem cwaste_any (c : Nat) (hc : c < 32) (w : World) : Calls Tryz.prog 308 #[.int .i64 (c : Int)] w fun e w' => e = .returned (.int .i64 (clsWaste c : Nat)) ∧ Below w.heap.size w w' := by
 have h5 : clsCells (c : Int) * clsWords (c : Int) ≤ 512 := by unfold clsCells; exact Nat.div_mul_le_self _ _
 have HW : Hid (((512 : Int) - ((clsCells (c : Int) : Nat) : Int) * ((clsWords (c : Int) : Nat) : Int)) = (clsWaste c : Nat)) := LH (by
  unfold clsWaste
  rw [← Int.natCast_mul]
  omega)
 have hm : (((clsCells (c : Int) : Nat) : Int) * ((clsWords (c : Int) : Nat) : Int)) ≤ 512 := by rw [← Int.natCast_mul]; omega
 have hm0 : 0 ≤ (((clsCells (c : Int) : Nat) : Int) * ((clsWords (c : Int) : Nat) : Int)) := by rw [← Int.natCast_mul]; omega
 have HR := LH (fun w => cright_any (c : Int) w)
 rw [decide_eq_true (show (0 : Int) ≤ (c : Int) ∧ (c : Int) < 32 by omega)] at HR
 have HC := LH (fun w => ccells_any (c : Int) w)
 have HD := LH (fun w => cwords_any (c : Int) w)
 have HP : Hid (∀ w', Below w.heap.size w w' → (fun e w' => e = Ending.returned (.int .i64 (clsWaste c : Nat)) ∧ Below w.heap.size w w') (.returned (.int .i64 (clsWaste c : Nat))) w') := LH (fun w' h => ⟨rfl, h⟩)
 generalize (fun e w' => e = Ending.returned (.int .i64 (clsWaste c : Nat)) ∧ Below w.heap.size w w') = Post at *
 generalize clsCells (c : Int) = x at *
 generalize clsWords (c : Int) = y at *
 go_enter Tryz.func308, Tryz.ntmps308
 go_wp2_with fail
 refine (HR.out _).mono ?_
 rintro e w1 ⟨rfl, rfl⟩
 go_wp2_with fail
 refine (HC.out _).mono ?_
 rintro e w2 ⟨rfl, hb2⟩
 have HB2 := LH hb2
 clear hb2
 go_wp2_with fail
 refine (HD.out _).mono ?_
 rintro e w3 ⟨rfl, hb3⟩
 have HFin := LH (HP.out _ (HB2.out.trans (hb3.mono HB2.out.size)))
 clear hb3
 go_wp2_with fail
 rw [HW.out]
 exact HFin.out
end Go.Proofs.YtpopbfagliagnaaGreat
