/- Parts of the proof, one behind the other: Tj, Tk, Wt, Gg, Gh, Gi, Gj, Gl, Gk, Gm, Tc, Tl, Tm, Tn, To. -/
import Derived.Test.YtbimcogdbafjpaaGreatSC11
import Derived.Deep.DeepCutAuto
import Derived.Deep.CutBlock
set_option linter.unusedVariables false
namespace Go.Proofs.YtbimcogdbafjpaaGreat
open Go.RowKit Go.Maps
theorem hd_is {B : Nat} {b : Bm} (h : BmOk B b) {q : Nat} (h1 : 1 ≤ q) (h2 : q < B) : ∃ k c l : Int, hdGet b.list (q : Int) = ⟨k, c, l⟩ ∧ b.list.getD q default = ⟨k, c, l⟩ ∧ (k = 1 → ∃ cn : Nat, c = (cn : Int) ∧ cn < 32) := by
 have hg := hdGet_at h h1 h2
 have hr := of_decide_eq_true (h.right q h2)
 generalize b.list.getD q default = x at *
 obtain ⟨k, c, l⟩ := x
 refine ⟨k, c, l, hg, rfl, fun hk => ?_⟩
 unfold HdRight at hr
 dsimp only at hr
 exact ⟨c.toNat, by omega, by omega⟩
theorem vmap_apart {P : Program} {k : TypeId} {w : World} {b n : Nat} {M : Lit → Option Value} (h : VMap P k w b n M) {base e size c : Nat} {v : Value} {xs : List Value} (ho : w.ownsRow base e size v c xs) : some b ≠ v.ownBlock := by
 intro hc
 obtain ⟨D, ⟨es, clock, hb, _⟩, _⟩ := h
 rcases ho.2 with ⟨rfl, _⟩ | ⟨g, cap, cur, rfl, _, hg, _⟩
 ·simp [Value.ownBlock] at hc
 ·simp [Value.ownBlock] at hc
  subst hc
  rw [hb] at hg
  cases hg
theorem cells_vmap {P : Program} {k : TypeId} {w w' : World} {b n : Nat} {M : Lit → Option Value} {a : Option Addr} {vs : List Value} (hV : VMap P k w b n M) (h : Cells w a vs) (hg : w.grownBy w' (some b)) : Cells w' a vs := by
 by_cases he : vs = []
 ·exact .inl he
 refine h.touchNe (q := b) (by simpa using grown_touchO hg) (fun x hx e => ?_)
 rcases h with h | ⟨b1, off, rfl, hc⟩
 ·exact he h
 ·injection hx with hx
  subst hx
  obtain ⟨v, l, rfl⟩ := List.exists_cons_of_ne_nil he
  have h0 := hc 0 v rfl
  obtain ⟨D, ⟨es, clock, hb, _⟩, _⟩ := hV
  subst e
  simp [World.cell?, hb] at h0
set_option maxHeartbeats 8000000 in
set_option maxRecDepth 100000 in
theorem srows_any {w : World} {A : AF} {n B : Nat} {m : Al} (h : AlAt w A n B m) (hok : AlOk B m) (hB1 : 1 ≤ B) (hB : B ≤ 100) :
  Calls Tryz.prog 29 #[valloc A] w (RowsPost 84 (rowsTo m B 32) w) := by
 have HP : Hid (∀ v w', w'.ownsRow w.heap.size 84 5 v (rowsTo m B 32).length (recs Rw.cs (rowsTo m B 32)) → Below w.heap.size w w' → RowsPost 84 (rowsTo m B 32) w (.returned v) w') := LH (fun v w' h1 h2 => ⟨v, rfl, h1, h2⟩)
 generalize RowsPost 84 (rowsTo m B 32) w = Post at *
 have HA := LH h
 have HOk := LH hok
 have HLn : Hid (m.bm.list.length = B) := LH hok.bm.lenL
 have HMp := LH (VMap.made w Tryz.prog 200)
 have HB0 := LH (below_alloc w (.map #[] 0))
 clear h hok
 have hmm := @run_makeMap Tryz.prog
 go_enter Tryz.func29, Tryz.ntmps29
 go_upto_block 0 with fail
 clear hmm
 obtain ⟨mp, hmp⟩ : ∃ mp, mp = w.heap.size := ⟨_, rfl⟩
 rw [← hmp] at HMp ⊢
 have HMq : Hid (w.heap.size ≤ mp) := LH (by rw [hmp]; exact Nat.le_refl _)
 generalize w.alloc _ = w0 at *
 clear hmp
 -- the blocks
 go_cut [] (fun wc => ∃ (n : Nat) (M : Lit → Option Value), n ≤ 200 ∧ Hid (VMap Tryz.prog 200 wc mp n M) ∧ Hid (RowM M (rows1 m.bm.list (B - 1))) ∧ Hid (Below w.heap.size w wc))
 case first =>
  go_wp2_with fail
  go_loopw [4] (fun bv wr => ∃ (b n : Nat) (M : Lit → Option Value), 1 ≤ b ∧ b ≤ B ∧ bv = .int .i64 (b : Int) ∧ n ≤ b ∧ Hid (VMap Tryz.prog 200 wr mp n M) ∧ Hid (RowM M (rows1 m.bm.list (b - 1))) ∧ Hid (Below w.heap.size w wr)) (fun bv _ => B - (intOf bv).toNat)
  case atStart => exact ⟨1, 0, _, Nat.le_refl _, hB1, rfl, by omega, HMp, LH (fun k _ => rfl), HB0⟩
  case round =>
   clear HMp HB0
   obtain ⟨b, n1, M, hb1, hbB, rfl, hn1, HV, HRm, HB⟩ := hrel
   have HA1 := LH (HA.out.below HB.out)
   have c0 := HA1.out.c0
   have c1 := HA1.out.man.c0
   go_wp2_with fail
   refine (tlen_any HA1.out.man.tab).mono ?_
   rintro e w1 ⟨rfl, rfl⟩
   by_cases hlt : b < B
   case neg =>
    obtain rfl : b = B := by omega
    have hlt' : decide ((b : Int) < (b : Int)) = false := by simp
    have HEnd : Hid (∃ (n : Nat) (M' : Lit → Option Value), n ≤ 200 ∧ Hid (VMap Tryz.prog 200 wr mp n M') ∧ Hid (RowM M' (rows1 m.bm.list (b - 1))) ∧ Hid (Below w.heap.size w wr)) := LH ⟨n1, M, by omega, HV, HRm, HB⟩
    clear HV HRm HB HA1 c0 c1
    go_wp2_with fail
    go_meet
    exact HEnd.out
   have hlt' : (b : Int) < (B : Int) := by omega
   obtain ⟨hk, hc, hl, he, hgd, hcls⟩ := hd_is HOk.out.bm hb1 hlt
   have HGet := LH (tget_any (HA1.out.man.tab.at (MF.notHot (MF.apart HA1.out.man.nd).t).1) (b : Int) (by rw [HLn.out]; omega))
   unfold Hd.val at HGet
   rw [he] at HGet
   dsimp only at HGet
   have HGd := LH hgd
   clear he hgd
   go_wp2_with fail
   refine HGet.out.mono ?_
   rintro e w2 ⟨rfl, hb2⟩
   have HM := LH (Mem.one w2 #[.int .i64 hk, .int .i64 hc, .int .i64 hl] 104)
   have HB2 : Hid (Below wr.heap.size wr w2) := LH hb2
   clear hb2 HGet c0 c1
   go_upto_region 6 with fail
   have HB3 : Hid (Below wr.heap.size wr (w2.alloc (Obj.cells #[.int .i64 hk, .int .i64 hc, .int .i64 hl] 104))) := LH (HB2.out.trans (HM.out.below.mono HB2.out.size))
   generalize w2.alloc _ = w3 at *
   have d0 := HM.out.cell 0 0 rfl rfl
   have d1 := HM.out.cell 0 1 rfl rfl
   by_cases hk1 : hk = 1
   case neg =>
    have hk1' : (hk == 1) = false := by simpa using hk1
    have HR3 : Hid (RowM M (rows1 m.bm.list (b + 1 - 1))) := LH (by
     obtain ⟨z, rfl⟩ : ∃ z, b = z + 1 := ⟨b - 1, by omega⟩
     exact HRm.out.same (fun k _ => rows1_skip (by rw [HGd.out]; exact hk1) k))
    have HV3 := LH (HV.out.block (HB3.out.block mp HV.out.lt))
    have HW3 := LH (HB.out.trans (HB3.out.mono HB.out.size))
    clear hk1 hcls
    go_wp2_with fail
    refine ⟨⟨b + 1, n1, M, by omega, by omega, vint (by omega), by omega, HV3, HR3, HW3⟩, ?_⟩
    simp [intOf]; omega
   obtain ⟨cn, rfl, hcn⟩ := hcls hk1
   subst hk1
   have HV3 := LH (HV.out.block (HB3.out.block mp HV.out.lt))
   have hkey := key_one (cn : Int) (wf_small cn (by omega))
   have HGm := LH (HRm.out.get hcn)
   obtain ⟨g1, g2, g3, g4⟩ := rows1_get m.bm.list (b - 1) cn
   have hcb := cntB_le m.bm.list cn (b - 1)
   obtain ⟨r, hr⟩ : ∃ r, r = (rows1 m.bm.list (b - 1) cn).getD rw0 := ⟨_, rfl⟩
   rw [← hr] at HGm g1 g2 g3 g4
   obtain ⟨rk, rb, ro, rf, rww⟩ := r
   dsimp only at g1 g2 g3 g4
   subst g2 g3 g4
   have HG1 := LH g1
   have hrb : rb ≤ 100 := by omega
   have HMr := LH (Mem.one w3 #[.int .i64 (rk : Int), .int .i64 (rb : Int), .int .i64 (0 : Nat), .int .i64 (0 : Nat), .int .i64 (0 : Nat)] 84)
   clear hr g1 hcb
   unfold rwV at HGm
   dsimp only at HGm
   go_upto_region 8 with (refine wpList_vlook rfl _ _ 198 rfl 200 84 keyed_sk Tryz.underlying198 _ (zero_rw _) mp n1 M rfl HV3.out _ _ rfl hkey ?_; rw [HGm.out])
   have HM4 := LH (HM.out.later (show Below w3.heap.size w3 _ from HMr.out.below))
   generalize w3.alloc _ = w4 at *
   have e0 := HMr.out.cell 0 0 rfl rfl
   have e1 := HMr.out.cell 0 1 rfl rfl
   have f0 := HMr.out.frozen 0 0 rfl
   have f1 := HMr.out.frozen 0 1 rfl
   have d1 := HM4.out.cell 0 1 rfl rfl
   go_upto_region 9 with fail
   have HMs : Hid (Mem w3 ((w4.setCell ⟨w3.heap.size, 0, none⟩ (.int .i64 (cn : Int))).setCell ⟨w3.heap.size, 1, none⟩ (.int .i64 ((rb : Int) + 1))) [⟨w3.heap.size, 84, [.int .i64 (cn : Int), .int .i64 ((rb : Int) + 1), .int .i64 (0 : Nat), .int .i64 (0 : Nat), .int .i64 (0 : Nat)], true⟩]) := LH ((HMr.out.set 0 0 (.int .i64 (cn : Int)) rfl (by show 0 < 5; omega)).set 0 1 (.int .i64 ((rb : Int) + 1)) rfl (by show 1 < 5; omega))
   clear e0 e1 f0 f1 d1 d0
   generalize (World.setCell _ _ _).setCell _ _ = w5 at *
   have HB5 : Hid (Below wr.heap.size wr w5) := LH (HB3.out.trans (HMs.out.below.mono HB3.out.size))
   have HV5 := LH (HV.out.block (HB5.out.block mp HV.out.lt))
   have HM5 := LH (HM.out.later HMs.out.below)
   have d1 := HM5.out.cell 0 1 rfl rfl
   have HW5 := LH (HB.out.trans (HB5.out.mono HB.out.size))
   have hn9 : n1 < maxLen := by unfold maxLen; omega
   have HNx : Hid (∀ k, k < 32 → rows1 m.bm.list (b + 1 - 1) k = if k = cn then some ⟨cn, rb + 1, 0, 0, 0⟩ else rows1 m.bm.list (b - 1) k) := LH (by
    obtain ⟨z, rfl⟩ : ∃ z, b = z + 1 := ⟨b - 1, by omega⟩
    intro k _
    rw [HG1.out]
    exact rows1_step (by rw [HGd.out]) (by rw [HGd.out]) k)
   have HRn : Hid (RowM (putL M (oneKey (cn : Int)) (some (.agg #[.int .i64 (cn : Int), .int .i64 ((rb : Int) + 1), .int .i64 (0 : Nat), .int .i64 (0 : Nat), .int .i64 (0 : Nat)]))) (rows1 m.bm.list (b + 1 - 1))) := LH (HRm.out.put hcn ⟨cn, rb + 1, 0, 0, 0⟩ HNx.out)
   clear HB3 HV3 HV HRm HMr HM4 HGm HNx
   go_wp2_with (first
    | (refine wpList_load_mem aggRw HMs.out 0 rfl rfl rfl rfl rfl ?_)
    | (refine wpList_vstore rfl _ _ _ 198 rfl 200 84 keyed_sk Tryz.underlying198 mp n1 M rfl HV5.out hn9 _ _ _ rfl rfl hkey ?_; intro w6 h6 hg6; have HV6 := LH h6; have HG6 := LH hg6; clear h6 hg6))
   refine ⟨⟨b + 1, n1 + 1, _, by omega, by omega, vint (by omega), by omega, HV6, HRn, LH (HW5.out.grown HG6.out HW5.out.size (fun k e => by injection e with e; rw [← e]; exact HMq.out))⟩, ?_⟩
   simp [intOf]; omega
 case rest =>
  clear HMp HB0
  obtain ⟨n1, M, hn1, HV, HRm, HBc⟩ := hcut
  generalize wc = wx at *
  have HAx := LH (HA.out.below HBc.out)
  go_upto_block 2 with fail
  refine (aobjects_any HAx.out).mono ?_
  intro e w5 hp
  obtain ⟨au, cu, rfl, hcu, hb5, _⟩ := hp.own
  have HUl : Hid ((onesL m.used).length ≤ 51200) := LH (by
   rw [onesL_length]
   have h1 := count_le_len m.used
   have h2 := HOk.out.lenU
   omega)
  have HV5 := LH (HV.out.block (hb5.block mp HV.out.lt))
  have HB5 := LH (HBc.out.trans (hb5.mono HBc.out.size))
  have HCu := LH hcu
  have HUm : Hid (∀ x ∈ onesL m.used, m.used.getD x false = true) := LH (fun x hx => mem_onesL.1 hx)
  have HFr : Hid (∀ k, k < 32 → (rowK m B k).f = numC m k) := LH (fun k hk => by
   show (freeTo (fun y => (onesL m.used).contains y) m.bm.list k (B - 1)).length = _
   have e : (fun y => (onesL m.used).contains y) = fun a => m.used.getD a false := by
    funext y; rw [Bool.eq_iff_iff, List.contains_iff_mem]; exact mem_onesL
   rw [e, numC_free HOk.out hk hB1])
  have HRk : Hid (∀ k, rowK m B k = ⟨k, cntB m.bm.list k (B - 1), cntO m.bm.dev k (onesL m.used), (rowK m B k).f, wrdO m.bm.dev k (onesL m.used)⟩) := LH (fun k => rfl)
  have HR5 : Hid (RowM M (rows2 m B [])) := HRm
  obtain ⟨us, hus⟩ : ∃ us, us = onesL m.used := ⟨_, rfl⟩
  obtain ⟨ul, hul⟩ : ∃ ul, ul = us.length := ⟨_, rfl⟩
  rw [← hus] at HUl HCu HUm HRk
  rw [← hul] at HUl
  rw [← hus, ← hul]
  have HUn := LH hul
  have hul9 := HUl.out
  clear hcu hb5 hp hus hul HV HRm HBc HAx
  go_upto_block 2 with fail
  go_cut [] (fun wc => ∃ (n : Nat) (M : Lit → Option Value), n ≤ 60000 ∧ Hid (VMap Tryz.prog 200 wc mp n M) ∧ Hid (RowM M (rows2 m B us)) ∧ Hid (Below w.heap.size w wc))
  case first =>
   go_wp2_with fail
   go_loopw [63] (fun iv wr => ∃ (i n : Nat) (M : Lit → Option Value), i ≤ ul ∧ iv = .int .i64 (i : Int) ∧ n ≤ 200 + i ∧ Hid (VMap Tryz.prog 200 wr mp n M) ∧ Hid (RowM M (rows2 m B (us.take i))) ∧ Hid (Cells wr au (us.map vi)) ∧ Hid (Below w.heap.size w wr)) (fun iv _ => ul - (intOf iv).toNat)
   case atStart => exact ⟨0, n1, M, Nat.zero_le _, rfl, by omega, HV5, HR5, HCu, HB5⟩
   case round =>
    clear HV5 HR5
    clear HCu
    obtain ⟨i, n2, M2, hi, rfl, hn2, HV, HRm, HCu, HBw⟩ := hrel
    by_cases hlt : i < ul
    case neg =>
     obtain rfl : i = ul := by omega
     have hlt' : decide ((i : Int) < (i : Int)) = false := by simp
     have HEnd : Hid (∃ (n : Nat) (M : Lit → Option Value), n ≤ 60000 ∧ Hid (VMap Tryz.prog 200 wr mp n M) ∧ Hid (RowM M (rows2 m B us)) ∧ Hid (Below w.heap.size w wr)) := LH ⟨n2, M2, by omega, HV, LH (by have h1 := HRm.out; rw [HUn.out, List.take_length] at h1; exact h1), HBw⟩
     clear HV HRm HCu HBw
     go_wp2_with fail
     go_meet
     exact HEnd.out
    have hlt' : (i : Int) < (ul : Int) := by omega
    obtain ⟨x, hx⟩ : ∃ x, us[i]? = some x := ⟨_, List.getElem?_eq_getElem (by rw [← HUn.out]; exact hlt)⟩
    obtain ⟨b1, o1, e1, _, hcx⟩ := HCu.out.at (i := i) (by rw [List.length_map, ← HUn.out]; exact hlt)
    subst e1
    have cx := hcx i (vi x) (by rw [List.getElem?_map, hx]; rfl)
    have HTk : Hid (us.take (i + 1) = us.take i ++ [x]) := LH (take_one hx)
    have hux := HUm.out x (List.mem_of_getElem? hx)
    have hop := obOf_placed HOk.out hux
    obtain ⟨p, hp⟩ : ∃ p, p = (obOf m x).p := ⟨_, rfl⟩
    obtain ⟨d, hd⟩ : ∃ d, d = (obOf m x).d := ⟨_, rfl⟩
    rw [← hp, ← hd] at hop
    have HSz : Hid (szN m.bm.dev x = objSize p d) := LH (by rw [hp, hd]; rfl)
    have HPl := LH (aplace_any (HA.out.below HBw.out) (by omega) (x : Int))
    unfold PlPost at HPl
    rw [hop] at HPl
    have HUx := LH hux
    have hol : cntO m.bm.dev (ofN (szN m.bm.dev x : Nat)) (us.take i) ≤ 51200 := Nat.le_trans (cntO_le _ _ _) (by rw [List.length_take]; omega)
    have hwl : wrdO m.bm.dev (ofN (szN m.bm.dev x : Nat)) (us.take i) ≤ 256 * 51200 := Nat.le_trans (wrdO_le _ _ _) (Nat.mul_le_mul_left _ (by rw [List.length_take]; omega))
    have hbl : cntB m.bm.list (ofN (szN m.bm.dev x : Nat)) (B - 1) ≤ 100 := Nat.le_trans (cntB_le _ _ _) (by omega)
    clear hx hcx hop hp hd hux
    go_upto_region 13 with fail
    clear cx
    go_wp2_with fail
    refine HPl.out.mono ?_
    rintro e w6 ⟨⟨p', d', rfl, ho'⟩, hb6⟩
    have ho2 := ho' _ rfl
    injection ho2 with hp2 hd2 _
    subst hp2 hd2
    have HMo := LH (Mem.one w6 #[.int .i64 p, .int .i64 d] 129)
    have HB6 : Hid (Below wr.heap.size wr w6) := LH hb6
    clear hb6 ho' HPl
    go_upto_region 14 with fail
    have HB7 : Hid (Below wr.heap.size wr (w6.alloc (Obj.cells #[.int .i64 p, .int .i64 d] 129))) := LH (HB6.out.trans (HMo.out.below.mono HB6.out.size))
    generalize w6.alloc _ = w7 at *
    have d0 := HMo.out.cell 0 0 rfl rfl
    have d1 := HMo.out.cell 0 1 rfl rfl
    go_wp2_with fail
    refine (osmall_any p d _).mono ?_
    rintro e w8 ⟨rfl, hb8⟩
    have HM8 := LH (HMo.out.later hb8)
    have HB8 := LH (HB7.out.trans (hb8.mono HB7.out.size))
    have HV8 := LH (HV.out.block (HB8.out.block mp HV.out.lt))
    have HBz8 := LH (HBw.out.trans (HB8.out.mono HBw.out.size))
    have HC8 := LH (HCu.out.below HB8.out (Nat.le_refl _))
    clear hb8 d0 d1 HB7 HMo HB6
    by_cases hsm : small (objSize p d)
    case neg =>
     rw [ofV_large _ hsm]
     have HR8 : Hid (RowM M2 (rows2 m B (us.take (i + 1)))) := LH (by
      rw [HTk.out]
      exact HRm.out.same (fun k _ => rows2_skip (by rw [HSz.out]; exact hsm) k))
     clear hsm
     go_wp2_with fail
     refine ⟨⟨i + 1, n2, M2, by omega, vint (by omega), by omega, HV8, HR8, HC8, HBz8⟩, ?_⟩
     simp [intOf]; omega
    rw [ofV_small _ hsm]
    obtain ⟨c, hc⟩ : ∃ c, c = ofN (objSize p d : Nat) := ⟨_, rfl⟩
    have hc32 : c < 32 := by rw [hc]; exact ofN_lt hsm
    obtain ⟨hg, hst⟩ := rows2_step HOk.out (l := us.take i) HUx.out (by rw [HSz.out]; exact hsm) (c := c) (by rw [HSz.out, hc])
    rw [HSz.out, ← hc] at hol hwl hbl
    have HSs := LH (fun w => osize_any p d w)
    have hsl : objSize p d ≤ 256 := hsm.2
    rw [← hc]
    rw [HSz.out] at hst
    obtain ⟨ro, hro⟩ : ∃ ro, ro = cntO m.bm.dev c (us.take i) := ⟨_, rfl⟩
    obtain ⟨rr, hrr⟩ : ∃ rr, rr = wrdO m.bm.dev c (us.take i) := ⟨_, rfl⟩
    obtain ⟨rb, hrb⟩ : ∃ rb, rb = cntB m.bm.list c (B - 1) := ⟨_, rfl⟩
    rw [← hro, ← hrr, ← hrb] at hg hst
    rw [← hro] at hol
    rw [← hrr] at hwl
    rw [← hrb] at hbl
    have HGm := LH (HRm.out.get hc32)
    rw [hg] at HGm
    unfold rwV at HGm
    dsimp only at HGm
    have HSt := LH hst
    have hkey := key_one (c : Int) (wf_small c (by omega))
    clear hg hst hro hrr hrb hc hsm HSz HUx
    generalize objSize p d = sz at *
    have HMr := LH (Mem.one w8 #[.int .i64 (c : Int), .int .i64 (rb : Int), .int .i64 (ro : Int), .int .i64 (0 : Nat), .int .i64 (rr : Int)] 84)
    go_upto_region 17 with (refine wpList_vlook rfl _ _ 198 rfl 200 84 keyed_sk Tryz.underlying198 _ (zero_rw _) mp n2 M2 rfl HV8.out _ _ rfl hkey ?_; rw [HGm.out])
    generalize w8.alloc _ = w9 at *
    have e2 := HMr.out.cell 0 2 rfl rfl
    have f2 := HMr.out.frozen 0 2 rfl
    go_upto_region 18 with fail
    have HMs : Hid (Mem w8 (w9.setCell ⟨w8.heap.size, 2, none⟩ (.int .i64 ((ro : Int) + 1))) [⟨w8.heap.size, 84, [.int .i64 (c : Int), .int .i64 (rb : Int), .int .i64 ((ro : Int) + 1), .int .i64 (0 : Nat), .int .i64 (rr : Int)], true⟩]) := LH (HMr.out.set 0 2 (.int .i64 ((ro : Int) + 1)) rfl (by show 2 < 5; omega))
    clear e2 f2 HMr
    generalize World.setCell _ _ _ = wa at *
    have HMo := LH (HM8.out.later HMs.out.below)
    have r0 := fun x => later_cell (HMs.out.cell 0 4 rfl rfl) x
    have r1 := fun x => later_cell (HMo.out.cell 0 0 rfl rfl) x
    have r2 := fun x => later_cell (HMo.out.cell 0 1 rfl rfl) x
    refine wp_region_seg (C := fun w' => ∃ x : Later (wa), w' = x.val) [.fl [0, 1, 2], .sq [3] true, .sq [4, 5, 6] false] (by kernel_rfl) (by kernel_rfl) (by intro c a d v w h; cases d <;> exact h) ?_
    simp only [segs, picks, List.getElem?_cons_succ, List.getElem?_cons_zero]
    have hC1 := later_drew (wa)
    refine wpSeg_fl hC1 ?_
    repeat (first | go_big_quiet_step (fail) | quiet_step (fail))
    refine wpQuiet_nil ?_
    clear r0 r1 r2
    have HMs2 := LH (HMs.out.later (later_below hC1))
    generalize wa.drew = wb at *
    refine wpSeg_sq (fun K hK => ?_)
    go_wp2_with fail
    refine (HSs.out _).mono ?_
    rintro e wd ⟨rfl, hbd⟩
    have hC2 := later_step hC1 hbd
    have HMs3 := LH (HMs2.out.later hbd)
    clear hbd HMs2 HMs
    go_wp2_with fail
    refine hK _ _ (fun _ => hC2) ?_
    clear hK K
    have f4 := HMs3.out.frozen 0 4 rfl
    have e4 := HMs3.out.cell 0 4 rfl rfl
    refine wpSeg_last ?_
    go_upto_region 19 with fail
    have HMt : Hid (Mem w8 (wd.setCell ⟨w8.heap.size, 4, none⟩ (.int .i64 ((rr : Int) + (sz : Int)))) [⟨w8.heap.size, 84, [.int .i64 (c : Int), .int .i64 (rb : Int), .int .i64 ((ro : Int) + 1), .int .i64 (0 : Nat), .int .i64 ((rr : Int) + (sz : Int))], true⟩]) := LH (HMs3.out.set 0 4 (.int .i64 ((rr : Int) + (sz : Int))) rfl (by show 4 < 5; omega))
    clear e4 f4 HMs3 hC1 hC2
    generalize World.setCell _ _ _ = we at *
    have HBe := LH (HBz8.out.trans (HMt.out.below.mono HBz8.out.size))
    have HCe := LH (HC8.out.below HMt.out.below (Nat.le_refl _))
    have HVe := LH (HV8.out.block (HMt.out.below.block mp HV8.out.lt))
    have hn9 : n2 < maxLen := by unfold maxLen; omega
    have HRn : Hid (RowM (putL M2 (oneKey (c : Int)) (some (.agg #[.int .i64 (c : Int), .int .i64 (rb : Int), .int .i64 ((ro : Int) + 1), .int .i64 (0 : Nat), .int .i64 ((rr : Int) + (sz : Int))]))) (rows2 m B (us.take (i + 1)))) := LH (by
     rw [HTk.out]
     exact HRm.out.put hc32 ⟨c, rb, ro + 1, 0, rr + sz⟩ (fun k _ => HSt.out k))
    clear HV8 HRm HMo HM8 HGm HSt HBz8
    go_wp2_with (first
     | (refine wpList_load_mem aggRw HMt.out 0 rfl rfl rfl rfl rfl ?_)
     | (refine wpList_vstore rfl _ _ _ 198 rfl 200 84 keyed_sk Tryz.underlying198 mp n2 M2 rfl HVe.out hn9 _ _ _ rfl rfl hkey ?_; intro wf h6 hg6; have HV6 := LH h6; have HG6 := LH hg6; clear h6 hg6))
    refine ⟨⟨i + 1, n2 + 1, _, by omega, vint (by omega), by omega, HV6, HRn, LH (cells_vmap HVe.out HCe.out HG6.out), LH (HBe.out.grown HG6.out HBe.out.size (fun k e => by injection e with e; rw [← e]; exact HMq.out))⟩, ?_⟩
    simp [intOf]; omega
  case rest =>
   clear HV5 HR5 HCu HB5
   obtain ⟨n2, M2, hn2, HV, HRm, HBc⟩ := hcut
   generalize wc = wy at *
   go_wp2_with fail
   go_loopw [14, 98] (fun ov kv wr => ∃ (k : Nat), k ≤ 32 ∧ kv = .int .i64 (k : Int) ∧ Hid (wr.ownsRow w.heap.size 84 5 ov (rowsTo m B k).length (recs Rw.cs (rowsTo m B k))) ∧ Hid (VMap Tryz.prog 200 wr mp n2 M2) ∧ Hid (Below w.heap.size w wr)) (fun _ kv _ => 32 - (intOf kv).toNat)
   case atStart => exact ⟨0, by omega, rfl, LH ⟨rfl, .inl ⟨rfl, rfl⟩⟩, HV, HBc⟩
   case round =>
    clear HV HBc
    obtain ⟨k, hk, rfl, HO, HV, HB⟩ := hrel
    by_cases hlt : k < 32
    case neg =>
     obtain rfl : k = 32 := by omega
     go_wp2_with fail
     exact HP.out _ _ HO.out HB.out
    have hkey := key_one (k : Int) (wf_small k (by omega))
    have HGm := LH (HRm.out.get hlt)
    have HHs := LH (HRm.out.has hlt)
    have HNx : Hid (rowsTo m B (k + 1) = rowsTo m B k ++ if 0 < cntB m.bm.list k (B - 1) then [rowK m B k] else []) := LH rfl
    have hLn : (rowsTo m B k).length ≤ 32 := Nat.le_trans (rowsTo_len m B k) (by omega)
    obtain ⟨F, hF⟩ : ∃ F, F = rowsTo m B k := ⟨_, rfl⟩
    rw [← hF] at HO HNx hLn
    clear hF
    by_cases hc : 0 < cntB m.bm.list k (B - 1)
    case neg =>
     have hz : rows2 m B us k = none := by unfold rows2; rw [if_neg hc]
     rw [hz] at HGm HHs
     rw [if_neg hc, List.append_nil] at HNx
     unfold rwV rw0 at HGm
     dsimp only [Option.getD_none, Option.isSome_none] at HGm HHs
     have HMr := LH (Mem.one wr #[.int .i64 (0 : Nat), .int .i64 (0 : Nat), .int .i64 (0 : Nat), .int .i64 (0 : Nat), .int .i64 (0 : Nat)] 84)
     have HO2 := LH (owned_below HO.out HMr.out.below (Nat.le_refl _))
     have HV2 := LH (HV.out.block (HMr.out.below.block mp HV.out.lt))
     have HB2 := LH (HB.out.trans (HMr.out.below.mono HB.out.size))
     clear hz hc HO HB
     go_upto_region 26 with (refine wpList_vlook_ok rfl _ _ 198 rfl 200 84 keyed_sk Tryz.underlying198 _ (zero_rw _) mp n2 M2 rfl HV.out _ _ rfl hkey ?_; rw [HGm.out, HHs.out])
     generalize wr.alloc _ = w3 at *
     clear HV
     go_wp2_with fail
     refine ⟨⟨k + 1, by omega, vint (by omega), LH (by rw [HNx.out]; exact HO2.out), HV2, HB2⟩, ?_⟩
     simp [intOf]; omega
    have hz : rows2 m B us k = some ⟨k, cntB m.bm.list k (B - 1), cntO m.bm.dev k us, 0, wrdO m.bm.dev k us⟩ := by unfold rows2; rw [if_pos hc]
    rw [hz] at HGm HHs
    rw [if_pos hc, HRk.out k] at HNx
    unfold rwV at HGm
    dsimp only [Option.getD_some, Option.isSome_some] at HGm HHs
    have HFk := LH (HFr.out k hlt)
    have HNl := LH (numC_le HOk.out hlt hB1)
    obtain ⟨ff, hff⟩ : ∃ ff, ff = (rowK m B k).f := ⟨_, rfl⟩
    rw [← hff] at HNx HFk
    have hfl : ff ≤ 51200 := by have h1 := HFk.out; have h2 := HNl.out; omega
    obtain ⟨cb, hcb⟩ : ∃ cb, cb = cntB m.bm.list k (B - 1) := ⟨_, rfl⟩
    obtain ⟨co, hco⟩ : ∃ co, co = cntO m.bm.dev k us := ⟨_, rfl⟩
    obtain ⟨cw, hcw⟩ : ∃ cw, cw = wrdO m.bm.dev k us := ⟨_, rfl⟩
    rw [← hcb, ← hco, ← hcw] at HGm HNx
    have HFc := LH (fun w' (h : AlAt w' A n B m) => afreeCells_any h (HOk.out.upto.mono (show 512 * B ≤ 900000 by omega)) k hlt)
    clear hz hc hff HNl hcb hco hcw
    have HMr := LH (Mem.one wr #[.int .i64 (k : Int), .int .i64 (cb : Int), .int .i64 (co : Int), .int .i64 (0 : Nat), .int .i64 (cw : Int)] 84)
    have HB2 := LH (HB.out.trans (HMr.out.below.mono HB.out.size))
    go_upto_region 26 with (refine wpList_vlook_ok rfl _ _ 198 rfl 200 84 keyed_sk Tryz.underlying198 _ (zero_rw _) mp n2 M2 rfl HV.out _ _ rfl hkey ?_; rw [HGm.out, HHs.out])
    have HMq : Hid (Mem wr (wr.alloc (Obj.cells #[.int .i64 (k : Int), .int .i64 (cb : Int), .int .i64 (co : Int), .int .i64 (0 : Nat), .int .i64 (cw : Int)] 84)) [⟨wr.heap.size, 84, [.int .i64 (k : Int), .int .i64 (cb : Int), .int .i64 (co : Int), .int .i64 (0 : Nat), .int .i64 (cw : Int)], true⟩]) := HMr
    generalize wr.alloc _ = w3 at *
    clear HMr
    go_wp2_with fail
    refine (HFc.out _ (HA.out.below HB2.out)).mono ?_
    rintro e w4 ⟨v4, ys, rfl, ho4, _, hcnt, _, hb4⟩
    obtain ⟨a4, c4, rfl, _⟩ := ho4.cells
    have hyl : ys.length = ff := by rw [HFk.out]; exact numC_list hcnt
    rw [hyl]
    have HM4 := LH (HMq.out.later hb4)
    clear hb4 ho4 hcnt hyl HMq HB2 HFc HFk
    have f3 := HM4.out.frozen 0 3 rfl
    have e3 := HM4.out.cell 0 3 rfl rfl
    go_upto_region 28 with fail
    have HMs : Hid (Mem wr (w4.setCell ⟨wr.heap.size, 3, none⟩ (.int .i64 (ff : Int))) [⟨wr.heap.size, 84, [.int .i64 (k : Int), .int .i64 (cb : Int), .int .i64 (co : Int), .int .i64 (ff : Int), .int .i64 (cw : Int)], true⟩]) := LH (HM4.out.set 0 3 (.int .i64 (ff : Int)) rfl (by show 3 < 5; omega))
    clear f3 e3 HM4
    generalize World.setCell _ _ _ = w5' at *
    have HO5 := LH (owned_below HO.out HMs.out.below (Nat.le_refl _))
    have HV5' := LH (HV.out.block (HMs.out.below.block mp HV.out.lt))
    have HB5' := LH (HB.out.trans (HMs.out.below.mono HB.out.size))
    have hbase : Hid (w.heap.size ≤ w5'.heap.size) := LH HB5'.out.size
    have hone : Hid (∀ u ∈ (#[.int .i64 (k : Int), .int .i64 (cb : Int), .int .i64 (co : Int), .int .i64 (ff : Int), .int .i64 (cw : Int)] : Array Value).toList, u.oneCell' = true) := LH (by intro u hu; simp at hu; rcases hu with rfl | rfl | rfl | rfl | rfl <;> rfl)
    have hLn9 : Hid (F.length < 1000000000000) := LH (by omega)
    clear HO HV HB
    go_wp2_with (first
     | (refine wpList_load_mem aggRw HMs.out 0 rfl rfl rfl rfl rfl ?_)
     | (at_builtin; refine wpList_append_new (us := #[.int .i64 (k : Int), .int .i64 (cb : Int), .int .i64 (co : Int), .int .i64 (ff : Int), .int .i64 (cw : Int)]) elRw HO5.out rfl hone.out hLn9.out (by decide) hbase.out rfl rfl rfl (by simp [Act.eval]) ?_; intro g6 c6 w6 ho6 hg6 hc6 hm6 hb6 hl6; have HO6 := LH ho6; have HG6 := LH hg6; clear ho6 hg6 hc6 hm6 hb6 hl6))
    refine ⟨⟨k + 1, by omega, vint (by omega), LH ?_, LH (HV5'.out.block (HG6.out.block mp HV5'.out.lt (vmap_apart HV5'.out HO5.out))), LH (below_grownBy HB5'.out HO5.out HG6.out (Nat.le_refl _) (Nat.le_refl _))⟩, ?_⟩
    ·rw [HNx.out, List.length_append, recs_append]
     exact HO6.out
    ·simp [intOf]; omega
def LarPost (t : Nat × Nat × Nat) (w : World) : Ending → World → Prop := fun e w' => e = .returned (.tuple #[.int .i64 (t.1 : Int), .int .i64 (t.2.1 : Int), .int .i64 (t.2.2 : Int)]) ∧ Below w.heap.size w w'
set_option maxHeartbeats 4000000 in
set_option maxRecDepth 20000 in
theorem slarge_any {w : World} {A : AF} {n B : Nat} {m : Al} (h : AlAt w A n B m) (hok : AlOk B m) (hB : B ≤ 100) :
  Calls Tryz.prog 33 #[valloc A] w (LarPost (larO m.bm.dev (onesL m.used)) w) := by
 have HP : Hid (∀ (a b c : Nat) w', (a, b, c) = larO m.bm.dev (onesL m.used) → Below w.heap.size w w' → LarPost (larO m.bm.dev (onesL m.used)) w (.returned (.tuple #[.int .i64 (a : Int), .int .i64 (b : Int), .int .i64 (c : Int)])) w') := LH (fun a b c w' h1 h2 => by rw [← h1]; exact ⟨rfl, h2⟩)
 generalize LarPost (larO m.bm.dev (onesL m.used)) w = Post at *
 have HA := LH h
 have HOk := LH hok
 clear h hok
 go_enter Tryz.func33, Tryz.ntmps33
 go_wp2_with fail
 refine (aobjects_any HA.out).mono ?_
 intro e w1 hp
 obtain ⟨au, cu, rfl, hcu, hb1, _⟩ := hp.own
 have HUl : Hid ((onesL m.used).length ≤ 51200) := LH (by
  rw [onesL_length]
  have h1 := count_le_len m.used
  have h2 := HOk.out.lenU
  omega)
 have HB1 := LH hb1
 have HCu := LH hcu
 have HUm : Hid (∀ x ∈ onesL m.used, m.used.getD x false = true) := LH (fun x hx => mem_onesL.1 hx)
 obtain ⟨us, hus⟩ : ∃ us, us = onesL m.used := ⟨_, rfl⟩
 obtain ⟨ul, hul⟩ : ∃ ul, ul = us.length := ⟨_, rfl⟩
 rw [← hus] at HUl HCu HUm HP
 rw [← hul] at HUl
 rw [← hus, ← hul]
 have HUn := LH hul
 have hul9 := HUl.out
 clear hcu hb1 hp hus hul
 go_wp2_with fail
 go_loopw [5, 6, 7, 16] (fun av bv cv iv wr => ∃ a b c i : Nat, i ≤ ul ∧ a ≤ 51200 ∧ b ≤ 33 * 51200 ∧ c ≤ 16448 * 51200 ∧ av = .int .i64 (a : Int) ∧ bv = .int .i64 (b : Int) ∧ cv = .int .i64 (c : Int) ∧ iv = .int .i64 (i : Int) ∧ Hid ((a, b, c) = larO m.bm.dev (us.take i)) ∧ Hid (Below w1.heap.size w1 wr)) (fun _ _ _ iv _ => ul - (intOf iv).toNat)
 case atStart => exact ⟨0, 0, 0, 0, Nat.zero_le _, by omega, by omega, by omega, rfl, rfl, rfl, rfl, LH rfl, LH (Below.refl _ _)⟩
 case round =>
  obtain ⟨a, b, c, i, hi, ha, hb, hc, rfl, rfl, rfl, rfl, HL, HB⟩ := hrel
  have HBw := LH (HB1.out.trans (HB.out.mono HB1.out.size))
  by_cases hlt : i < ul
  case neg =>
   obtain rfl : i = ul := by omega
   have hlt' : decide ((i : Int) < (i : Int)) = false := by simp
   have HE : Hid ((a, b, c) = larO m.bm.dev us) := LH (by have h1 := HL.out; rw [HUn.out, List.take_length] at h1; exact h1)
   go_wp2_with fail
   go_ret3
   exact HP.out a b c _ HE.out HBw.out
  have hlt' : (i : Int) < (ul : Int) := by omega
  obtain ⟨x, hx⟩ : ∃ x, us[i]? = some x := ⟨_, List.getElem?_eq_getElem (by rw [← HUn.out]; exact hlt)⟩
  obtain ⟨b1, o1, e1, _, hcx⟩ := (HCu.out.below HB.out (Nat.le_refl _)).at (i := i) (by rw [List.length_map, ← HUn.out]; exact hlt)
  subst e1
  have cx := hcx i (vi x) (by rw [List.getElem?_map, hx]; rfl)
  have hux := HUm.out x (List.mem_of_getElem? hx)
  have hop := obOf_placed HOk.out hux
  obtain ⟨p, hp⟩ : ∃ p, p = (obOf m x).p := ⟨_, rfl⟩
  obtain ⟨d, hd⟩ : ∃ d, d = (obOf m x).d := ⟨_, rfl⟩
  rw [← hp, ← hd] at hop
  have HNx : Hid (larO m.bm.dev (us.take (i + 1)) = if 0 < objBlocks (objSize p d) then ((larO m.bm.dev (us.take i)).1 + 1, (larO m.bm.dev (us.take i)).2.1 + objBlocks (objSize p d), (larO m.bm.dev (us.take i)).2.2 + objSize p d) else larO m.bm.dev (us.take i)) := LH (by
   have hs : szN m.bm.dev x = objSize p d := by rw [hp, hd]; rfl
   rw [take_one hx, larO_snoc, hs])
  have HLe : Hid ((larO m.bm.dev (us.take (i + 1))).1 ≤ 51200 ∧ (larO m.bm.dev (us.take (i + 1))).2.1 ≤ 33 * 51200 ∧ (larO m.bm.dev (us.take (i + 1))).2.2 ≤ 16448 * 51200) := LH (by
   obtain ⟨h1, h2, h3⟩ := larO_le m.bm.dev (us.take (i + 1))
   have h4 : (us.take (i + 1)).length ≤ 51200 := by rw [List.length_take]; omega
   exact ⟨by omega, Nat.le_trans h2 (Nat.mul_le_mul_left _ h4), Nat.le_trans h3 (Nat.mul_le_mul_left _ h4)⟩)
  have HPl := LH (aplace_any (HA.out.below HBw.out) (by omega) (x : Int))
  unfold PlPost at HPl
  rw [hop] at HPl
  clear hx hcx hop hp hd hux
  go_upto_region 5 with fail
  clear cx
  go_wp2_with fail
  refine HPl.out.mono ?_
  rintro e w6 ⟨⟨p', d', rfl, ho'⟩, hb6⟩
  have ho2 := ho' _ rfl
  injection ho2 with hp2 hd2 _
  subst hp2 hd2
  have HMo := LH (Mem.one w6 #[.int .i64 p, .int .i64 d] 129)
  have HB6 : Hid (Below w1.heap.size w1 w6) := LH (HB.out.trans (hb6.mono HB.out.size))
  clear hb6 ho' HPl HB HBw
  go_upto_region 6 with fail
  have HB7 : Hid (Below w1.heap.size w1 (w6.alloc (Obj.cells #[.int .i64 p, .int .i64 d] 129))) := LH (HB6.out.trans (HMo.out.below.mono HB6.out.size))
  generalize w6.alloc _ = w7 at *
  have d0 := HMo.out.cell 0 0 rfl rfl
  have d1 := HMo.out.cell 0 1 rfl rfl
  go_wp2_with fail
  refine (oblocks_any p d _).mono ?_
  rintro e w8 ⟨rfl, hb8⟩
  have HM8 := LH (HMo.out.later hb8)
  have HB8 := LH (HB7.out.trans (hb8.mono HB7.out.size))
  have HSz := LH (fun w => osize_any p d w)
  clear hb8 d0 d1 HB7 HMo HB6
  generalize objBlocks (objSize p d) = nb at *
  generalize objSize p d = sz at *
  by_cases hnb : 0 < nb
  ·have hnb' : (0 : Int) < (nb : Int) := by omega
   rw [if_pos hnb, ← HL.out] at HNx
   dsimp only at HNx
   rw [HNx.out] at HLe
   obtain ⟨l1, l2, l3⟩ := HLe.out
   dsimp only at l1 l2 l3
   have d0 := HM8.out.cell 0 0 rfl rfl
   have d1 := HM8.out.cell 0 1 rfl rfl
   clear HL hnb HLe
   go_wp2_with fail
   refine (HSz.out _).mono ?_
   rintro e w9 ⟨rfl, hb9⟩
   have HB9 := LH (HB8.out.trans (hb9.mono HB8.out.size))
   clear hb9 d0 d1
   go_wp2_with fail
   refine ⟨⟨a + 1, b + nb, c + sz, i + 1, by omega, l1, l2, l3, vint (by omega), vint (by omega), vint (by omega), vint (by omega), LH HNx.out.symm, HB9⟩, ?_⟩
   simp [intOf]; omega
  ·have hnb' : (nb : Int) ≤ 0 := by omega
   rw [if_neg hnb, ← HL.out] at HNx
   clear HL HLe
   go_wp2_with fail
   refine ⟨⟨a, b, c, i + 1, by omega, ha, hb, hc, rfl, rfl, rfl, vint (by omega), LH HNx.out.symm, HB8⟩, ?_⟩
   simp [intOf]; omega
def filK (r : Rw) : Nat := if 0 < r.b * clsCells (r.k : Int) then 100 * r.o / (r.b * clsCells (r.k : Int)) else 0
set_option maxHeartbeats 4000000 in
set_option maxRecDepth 20000 in
theorem sfill_any (r : Rw) (hk : r.k < 32) (hb : r.b ≤ 1000) (ho : r.o ≤ 100000) (w : World) : Calls Tryz.prog 31 #[rwV r] w (Gives (.int .i64 (filK r : Nat)) w) := by
 obtain ⟨k, b, o, f, x⟩ := r
 have HMem := LH (Mem.one w #[.int .i64 (k : Int), .int .i64 (b : Int), .int .i64 (o : Int), .int .i64 (f : Int), .int .i64 (x : Int)] 84)
 have HP : Hid (∀ x' w', x' = ((filK ⟨k, b, o, f, x⟩ : Nat) : Int) → Below w.heap.size w w' → Gives (.int .i64 (filK ⟨k, b, o, f, x⟩ : Nat)) w (.returned (.int .i64 x')) w') := LH (fun x w' h1 h2 => by subst h1; exact ⟨rfl, h2⟩)
 have HD : Hid (filK ⟨k, b, o, f, x⟩ = if 0 < b * clsCells (k : Int) then 100 * o / (b * clsCells (k : Int)) else 0) := LH rfl
 generalize Gives (.int .i64 (filK ⟨k, b, o, f, x⟩ : Nat)) w = Post at *
 generalize filK ⟨k, b, o, f, x⟩ = fr at *
 dsimp only at hk hb ho
 unfold rwV
 dsimp only
 have hC : clsCells (k : Int) ≤ 256 := clsCells_256 hk
 have HCc := LH (fun w' => ccells_any (k : Int) w')
 generalize clsCells (k : Int) = C at *
 have hFC : b * C ≤ 256000 := by
  have : b * C ≤ 1000 * 256 := Nat.mul_le_mul hb hC
  omega
 have hI : (b : Int) * (C : Int) = ((b * C : Nat) : Int) := by push_cast; rfl
 have HI := LH hI
 have hFC0 : (0 : Int) ≤ (b : Int) * (C : Int) := by rw [hI]; omega
 have hFC1 : (b : Int) * (C : Int) ≤ 256000 := by rw [hI]; omega
 clear hI
 go_enter Tryz.func31, Tryz.ntmps31
 go_upto_region 1 with fail
 obtain ⟨q, hq⟩ : ∃ q, q = w.heap.size := ⟨_, rfl⟩
 rw [← hq] at HMem ⊢
 generalize w.alloc _ = w0 at *
 clear hq
 have r0 := fun x => later_cell (HMem.out.cell 0 0 rfl rfl) x
 have r1 := fun x => later_cell (HMem.out.cell 0 1 rfl rfl) x
 refine wp_region_seg (C := fun w' => ∃ x : Later (w0), w' = x.val) [.fl [0, 1, 2, 3], .sq [4] true, .sq [5, 6] false] (by kernel_rfl) (by kernel_rfl) (by intro c a d v w h; cases d <;> exact h) ?_
 simp only [segs, picks, List.getElem?_cons_succ, List.getElem?_cons_zero]
 have hC1 := later_drew (w0)
 refine wpSeg_fl hC1 ?_
 repeat (first | go_big_quiet_step (fail) | quiet_step (fail))
 refine wpQuiet_nil ?_
 clear r0 r1
 have HM1 := LH (HMem.out.later (later_below hC1))
 generalize w0.drew = w1 at *
 refine wpSeg_sq (fun K hK => ?_)
 go_wp2_with fail
 refine (HCc.out _).mono ?_
 rintro e w2 ⟨rfl, hb2⟩
 have hC2 := later_step hC1 hb2
 have HM2 := LH (HM1.out.later hb2)
 clear hb2
 go_wp2_with fail
 refine hK _ _ (fun _ => hC2) ?_
 clear hK K
 by_cases hz : 0 < b * C
 ·have hz' : (0 : Int) < (b : Int) * (C : Int) := by rw [HI.out]; omega
  have hz0 : ((b : Int) * (C : Int) == 0) = false := by rw [beq_eq_false_iff_ne]; omega
  have HE : Hid ((100 * (o : Int)) / ((b : Int) * (C : Int)) = (fr : Int)) := LH (by rw [HD.out, if_pos hz, HI.out]; push_cast; rfl)
  have d2 := HM2.out.cell 0 2 rfl rfl
  clear hz
  refine wpSeg_last ?_
  go_wp2_with fail
  exact HP.out _ _ HE.out HM2.out.below
 ·have hz' : (b : Int) * (C : Int) ≤ 0 := by rw [HI.out]; omega
  have HE : Hid ((0 : Int) = (fr : Int)) := LH (by rw [HD.out, if_neg hz]; rfl)
  clear hz
  refine wpSeg_last ?_
  go_wp2_with fail
  exact HP.out _ _ HE.out HM2.out.below
def lenV : Value → Nat
 | .slice _ n _ => n
 | _ => 0
end Go.Proofs.YtbimcogdbafjpaaGreat
namespace Go.Proofs.YtbimcogdbafjpaaGreat
open Go.RowKit
open Go.Lib (decDigits itoa nDigits)
end Go.Proofs.YtbimcogdbafjpaaGreat
namespace Go.Proofs.YtbimcogdbafjpaaGreat
open Go.RowKit Go.Shelf
section
variable {B b : Nat} {v : Value} {l : List UInt8} {w w' : World}
end
end Go.Proofs.YtbimcogdbafjpaaGreat
namespace Go.Proofs.YtbimcogdbafjpaaGreat
open Go.RowKit Go.Maps
open Go.Lib (decDigits itoa nDigits)
section
variable {q ba bn bo mp : Nat} {A : AF} {v : Value} {o : List Nat} {w w' : World}
end
open Go.Lib (decDigits itoa nDigits)
section
variable {q ba bn bo mp : Nat} {A : AF} {v : Value} {o : List Nat} {w : World}
end
open Go.Lib (decDigits itoa nDigits)
section
variable {q ba bn bo mp : Nat} {A : AF} {v : Value} {o : List Nat} {w w' : World}
end
section
variable {q ba bn bo mp b n B : Nat} {A : AF} {m : Al} {v vb : Value} {s : List Nat × List UInt8} {w0 w w' : World}
end
open Go.Lib (decDigits itoa nDigits)
theorem OwnI.at_cells {w : World} {a : Option Addr} {c nl : Nat} {xs : List Nat} (h : OwnI w (.slice a nl c) xs) : Cells w a (xs.map vi) := by
 obtain ⟨a', c', e, h1, _⟩ := h.cells
 injection e with e1 _ _
 subst e1
 exact h1
theorem flat_len {P : Nat → List Nat} {n : Nat} (h : ∀ x, (P x).length ≤ n) : ∀ l : List Nat, (l.flatMap P).length ≤ n * l.length
 | [] => by simp
 | x :: l => by rw [List.flatMap_cons, List.length_append, List.length_cons, Nat.mul_succ]; have := flat_len h l; have := h x; omega
theorem Cells.blk {w w' : World} {a : Option Addr} {vs : List Value} (h : Cells w a vs) (hk : ∀ x, a = some x → w'.heap[x.block]? = w.heap[x.block]?) : Cells w' a vs := by
 rcases h with h | ⟨b, off, rfl, h⟩
 ·exact .inl h
 ·refine .inr ⟨b, off, rfl, fun i v hi => ?_⟩
  have h1 := h i v hi
  have h2 := hk _ rfl
  dsimp only at h2
  unfold World.cell? at h1 ⊢
  dsimp only at h1 ⊢
  rw [h2]; exact h1
section
variable {B : Nat} {w0 w w' wa w2 : World} {a8 : Option Addr} {lv : List Nat} {v7 v10 v2 : Value} {S N : List Nat} {x : Nat}
end
def lvIn (ok : Nat → Bool) (P : Nat → List Nat) (fr : List Nat) : Nat → List Nat
 | 0 => fr
 | t + 1 => (levels ok P t (takeNew ok [] fr)).2.flatMap P
def lvS (ok : Nat → Bool) (P : Nat → List Nat) (fr : List Nat) : Nat → List Nat
 | 0 => []
 | t + 1 => (levels ok P t (takeNew ok [] fr)).1
theorem lv_round (ok : Nat → Bool) (P : Nat → List Nat) (fr : List Nat) (t : Nat) : levels ok P t (takeNew ok [] fr) = takeNew ok (lvS ok P fr t) (lvIn ok P fr t) := by
 cases t with
 | zero => rfl
 | succ t => rfl
theorem lv_ge {ok : Nat → Bool} {P : Nat → List Nat} {fr : List Nat} : ∀ t, (∀ j, j < t → (levels ok P j (takeNew ok [] fr)).2 ≠ []) → t ≤ (lvS ok P fr t).length
 | 0, _ => Nat.zero_le _
 | t + 1, h => by
  have h1 := lv_ge t (fun j hj => h j (by omega))
  have h2 : 0 < (levels ok P t (takeNew ok [] fr)).2.length := List.length_pos_iff.2 (h t (Nat.lt_succ_self t))
  show t + 1 ≤ (levels ok P t (takeNew ok [] fr)).1.length
  rw [lv_round] at h2 ⊢
  rw [takeNew_len]; omega
theorem lvS_len {U : List Bool} {P : Nat → List Nat} {fr : List Nat} (t : Nat) : (lvS (fun x => U.getD x false) P fr t).length ≤ U.length := by
 cases t with
 | zero => simp [lvS]
 | succ t => exact ((LvOk.first _ fr).levels t).len
def DepthPost (U : List Bool) (P : Nat → List Nat) (fr : List Nat) (w : World) : Ending → World → Prop := fun e w' => ∃ K, LvEnd (fun x => U.getD x false) P (takeNew (fun x => U.getD x false) [] fr) K ∧ e = .returned (.int .i64 ((K - 1 : Nat) : Int)) ∧ Below w.heap.size w w'
def hunZ (b x : Nat) : Int := if b = 0 then 0 else (100 * (512 * (b : Int) - (x : Int))).tdiv (512 * (b : Int))
theorem tdiv_small (x y : Int) {n : Int} (h1 : -n ≤ x) (h2 : x ≤ n) : -n ≤ x.tdiv y ∧ x.tdiv y ≤ n := by
 have h := Int.natAbs_tdiv_le_natAbs x y
 omega
section
variable {B : Nat} {m : Al}
theorem rowsTo_small (h : AlOk B m) (hB1 : 1 ≤ B) (hB : B ≤ 100) (k : Nat) (hk : k < 32) : (rowK m B k).b ≤ 100 ∧ (rowK m B k).o ≤ 51200 ∧ (rowK m B k).w ≤ 13107200 := by
 have hl : (onesL m.used).length ≤ 51200 := by
  rw [onesL_length]
  have h1 := count_le_len m.used
  have h2 := h.lenU
  omega
 exact ⟨Nat.le_trans (cntB_le _ _ _) (by omega), Nat.le_trans (cntO_le _ _ _) hl, Nat.le_trans (wrdO_le _ _ _) (Nat.le_trans (Nat.mul_le_mul_left 256 hl) (by omega))⟩
theorem rows_small (h : AlOk B m) (hB1 : 1 ≤ B) (hB : B ≤ 100) : ∀ r ∈ rowsTo m B 32, r.k < 32 ∧ r.b ≤ 100 ∧ r.o ≤ 51200 ∧ r.w ≤ 13107200 := fun r hr => by
 obtain ⟨k, hk, rfl, _⟩ := rowsTo_mem hr
 obtain ⟨h1, h2, h3⟩ := rowsTo_small h hB1 hB k hk
 exact ⟨hk, h1, h2, h3⟩
end
theorem sums_small {l : List Rw} (h : ∀ r ∈ l, r.k < 32 ∧ r.b ≤ 100 ∧ r.o ≤ 51200 ∧ r.w ≤ 13107200) : sumB5 l ≤ 100 * l.length ∧ sumW5 l ≤ 13107200 * l.length := by
 induction l with
 | nil => exact ⟨Nat.le_refl _, Nat.le_refl _⟩
 | cons r l ih =>
  obtain ⟨h1, h2⟩ := ih (fun x hx => h x (List.mem_cons_of_mem _ hx))
  obtain ⟨_, h3, _, h4⟩ := h r List.mem_cons_self
  have e1 : sumB5 (r :: l) = r.b + sumB5 l := by unfold sumB5; rw [List.map_cons, List.sum_cons]
  have e2 : sumW5 (r :: l) = r.w + sumW5 l := by unfold sumW5; rw [List.map_cons, List.sum_cons]
  rw [e1, e2, List.length_cons]
  exact ⟨by omega, by omega⟩
theorem row_cells {w : World} {a : Option Addr} {l : List Rw} (h : Cells w a (recs Rw.cs l)) {j : Nat} {r : Rw} (hr : l[j]? = some r) :
  ∃ b off, a = some ⟨b, off, none⟩ ∧ ∀ i v, (Rw.cs r)[i]? = some v → w.cell? ⟨b, off + j * 5 + i, none⟩ = some v := by
 have hj := (List.getElem?_eq_some_iff.1 hr).1
 obtain ⟨b, off, e, _, hc⟩ := recs_cells Rw.len (by decide) rw0 h hj
 have hg : l.getD j rw0 = r := by rw [List.getD_eq_getElem?_getD, hr]; rfl
 rw [hg] at hc
 exact ⟨b, off, e, hc⟩
set_option maxHeartbeats 4000000 in
set_option maxRecDepth 20000 in
theorem shundredths_any {w : World} {A : AF} {n B : Nat} {m : Al} (h : AlAt w A n B m) (hok : AlOk B m) (hB1 : 1 ≤ B) (hB : B ≤ 100) :
  Calls Tryz.prog 35 #[valloc A] w (Gives (.int .i64 (hunZ (sumB5 (rowsTo m B 32) + (larO m.bm.dev (onesL m.used)).2.1) (sumW5 (rowsTo m B 32) + (larO m.bm.dev (onesL m.used)).2.2))) w) := by
 have hsm := rows_small hok hB1 hB
 have hln := rowsTo_len m B 32
 obtain ⟨R, hR⟩ : ∃ R, R = rowsTo m B 32 := ⟨_, rfl⟩
 have HRw := LH (srows_any h hok hB1 hB)
 unfold RowsPost at HRw
 rw [← hR] at HRw hsm hln ⊢
 have HLa := LH (fun w' (h : AlAt w' A n B m) => slarge_any h hok hB)
 have hla : (larO m.bm.dev (onesL m.used)).2.1 ≤ 33 * 51200 ∧ (larO m.bm.dev (onesL m.used)).2.2 ≤ 16448 * 51200 := by
  have hl : (onesL m.used).length ≤ 51200 := by
   rw [onesL_length]
   have h1 := count_le_len m.used
   have h2 := hok.lenU
   omega
  obtain ⟨_, h2, h3⟩ := larO_le m.bm.dev (onesL m.used)
  exact ⟨Nat.le_trans h2 (Nat.mul_le_mul_left _ hl), Nat.le_trans h3 (Nat.mul_le_mul_left _ hl)⟩
 generalize larO m.bm.dev (onesL m.used) = La at *
 obtain ⟨ln, lb, lw⟩ := La
 unfold LarPost at HLa
 dsimp only at HLa hla ⊢
 have HP : Hid (∀ x w', x = hunZ (sumB5 R + lb) (sumW5 R + lw) → Below w.heap.size w w' → Gives (.int .i64 (hunZ (sumB5 R + lb) (sumW5 R + lw))) w (.returned (.int .i64 x)) w') := LH (fun x w' h1 h2 => by subst h1; exact ⟨rfl, h2⟩)
 generalize Gives (.int .i64 (hunZ (sumB5 R + lb) (sumW5 R + lw))) w = Post at *
 have HA := LH h
 have HSm := LH hsm
 obtain ⟨hlb, hlw⟩ := hla
 clear h hok hsm hR
 go_enter Tryz.func35, Tryz.ntmps35
 go_wp2_with fail
 refine HRw.out.mono ?_
 rintro e w1 ⟨v, rfl, ho, hb1⟩
 obtain ⟨a1, c1, rfl, _, _⟩ := owned_form ho
 have HC := LH (Cells.owned3 ho)
 have HB1 := LH hb1
 obtain ⟨l, hl⟩ : ∃ l, l = R.length := ⟨_, rfl⟩
 rw [← hl] at hln ⊢
 have HL := LH hl
 clear ho hb1 hl HRw
 go_upto_block 0 with fail
 go_cut [3, 4] (fun bv wv wc => ∃ b x : Nat, b ≤ 3200 ∧ x ≤ 13107200 * 32 ∧ bv = .int .i64 (b : Int) ∧ wv = .int .i64 (x : Int) ∧ Hid (b = sumB5 R ∧ x = sumW5 R) ∧ Hid (Below w1.heap.size w1 wc))
 case first =>
  go_wp2_with fail
  go_loopw [3, 4, 14] (fun bv wv jv wr => ∃ b x j : Nat, j ≤ l ∧ b ≤ 3200 ∧ x ≤ 13107200 * 32 ∧ bv = .int .i64 (b : Int) ∧ wv = .int .i64 (x : Int) ∧ jv = .int .i64 (j : Int) ∧ Hid (b = sumB5 (R.take j) ∧ x = sumW5 (R.take j)) ∧ Hid (Below w1.heap.size w1 wr)) (fun _ _ jv _ => l - (intOf jv).toNat)
  case atStart => exact ⟨0, 0, 0, Nat.zero_le _, by omega, by omega, rfl, rfl, rfl, LH ⟨rfl, rfl⟩, LH (Below.refl _ _)⟩
  case round =>
   obtain ⟨b, x, j, hj, hb, hx, rfl, rfl, rfl, HS, HB⟩ := hrel
   by_cases hlt : j < l
   case neg =>
    obtain rfl : j = l := by omega
    have hlt' : decide ((j : Int) < (j : Int)) = false := by simp
    have HEnd : Hid (∃ b' x' : Nat, b' ≤ 3200 ∧ x' ≤ 13107200 * 32 ∧ Value.int .i64 (b : Int) = .int .i64 (b' : Int) ∧ Value.int .i64 (x : Int) = .int .i64 (x' : Int) ∧ Hid (b' = sumB5 R ∧ x' = sumW5 R) ∧ Hid (Below w1.heap.size w1 wr)) := LH ⟨b, x, hb, hx, rfl, rfl, LH (by have h1 := HS.out; rw [HL.out, List.take_length] at h1; exact h1), HB⟩
    clear HS HB
    go_wp2_with fail
    go_meet
    exact HEnd.out
   have hlt' : (j : Int) < (l : Int) := by omega
   obtain ⟨r, hr⟩ : ∃ r, R[j]? = some r := ⟨_, List.getElem?_eq_getElem (by rw [← HL.out]; exact hlt)⟩
   have HTk : Hid (R.take (j + 1) = R.take j ++ [r]) := LH (by
    have h1 := (List.getElem?_eq_some_iff.1 hr).1
    rw [List.take_succ_eq_append_getElem h1, (List.getElem?_eq_some_iff.1 hr).2])
   obtain ⟨s1, s2, s3, s4⟩ := HSm.out r (List.mem_of_getElem? hr)
   obtain ⟨hbb, hxx⟩ := sums_small (l := R.take (j + 1)) (fun z hz => HSm.out z (List.mem_of_mem_take hz))
   have hlen : (R.take (j + 1)).length ≤ 32 := by rw [List.length_take]; omega
   have hb2 : b + r.b ≤ 3200 := by rw [HTk.out, sumB5_snoc, ← HS.out.1] at hbb; rw [HTk.out] at hlen; omega
   have hx2 : x + r.w ≤ 13107200 * 32 := by rw [HTk.out, sumW5_snoc, ← HS.out.2] at hxx; rw [HTk.out] at hlen; omega
   have HNx : Hid (b + r.b = sumB5 (R.take (j + 1)) ∧ x + r.w = sumW5 (R.take (j + 1))) := LH (by rw [HTk.out, sumB5_snoc, sumW5_snoc, ← HS.out.1, ← HS.out.2]; exact ⟨rfl, rfl⟩)
   obtain ⟨ba, off, rfl, hcell⟩ := row_cells (HC.out.below HB.out (Nat.le_refl _)) hr
   obtain ⟨rk, rb, ro, rf, rx⟩ := r
   unfold Rw.cs at hcell
   dsimp only at hcell s1 s2 s3 s4 hb2 hx2 HNx
   have e0 := hcell 0 _ rfl
   have e1 := hcell 1 _ rfl
   have e2 := hcell 2 _ rfl
   have e3 := hcell 3 _ rfl
   have e4 := hcell 4 _ rfl
   rw [Nat.add_zero] at e0
   have HM := LH (Mem.one wr #[.int .i64 (rk : Int), .int .i64 (rb : Int), .int .i64 (ro : Int), .int .i64 (rf : Int), .int .i64 (rx : Int)] 84)
   clear hr hcell hbb hxx hlen HTk HS
   go_upto_region 5 with fail
   generalize wr.alloc _ = wa at *
   clear e0 e1 e2 e3 e4
   have HBa := LH (HB.out.trans (HM.out.below.mono HB.out.size))
   have r1 := fun x => later_cell (HM.out.cell 0 1 rfl rfl) x
   have r4 := fun x => later_cell (HM.out.cell 0 4 rfl rfl) x
   have hw1 : IntKind.i64.wrap ((b : Int) + (rb : Int)) = (b : Int) + (rb : Int) := by rw [IntKind.wrap_i64]; omega
   have hw2 : IntKind.i64.wrap ((x : Int) + (rx : Int)) = (x : Int) + (rx : Int) := by rw [IntKind.wrap_i64]; omega
   refine wp_region_later (by kernel_rfl) (by kernel_rfl) ?_
   repeat (quiet_step (fail))
   refine wpQuiet_nil ?_
   rintro w5 ⟨x5, hx5⟩
   have HB5 := LH (HBa.out.trans ((show Below wa.heap.size wa w5 by rw [hx5]; exact x5.below).mono HBa.out.size))
   clear hx5 r1 r4 HB HBa HM
   go_wp2_with fail
   refine ⟨⟨b + rb, x + rx, j + 1, by omega, hb2, hx2, vint (by omega), vint (by omega), vint (by omega), HNx, HB5⟩, ?_⟩
   simp [intOf]; omega
 case rest =>
  obtain ⟨b, x, hb, hx, rfl, rfl, HS, HB⟩ := hcut
  generalize wc = wx at *
  have HBx := LH (HB1.out.trans (HB.out.mono HB1.out.size))
  have HAx := LH (HA.out.below HBx.out)
  have HZ : Hid (hunZ (sumB5 R + lb) (sumW5 R + lw) = if b + lb = 0 then 0 else (100 * (512 * ((b + lb : Nat) : Int) - ((x + lw : Nat) : Int))).tdiv (512 * ((b + lb : Nat) : Int))) := LH (by rw [← HS.out.1, ← HS.out.2]; rfl)
  rw [HZ.out] at HP
  clear HS HZ HB HC HL HSm
  go_wp2_with fail
  refine (HLa.out _ HAx.out).mono ?_
  rintro e w6 ⟨rfl, hb6⟩
  have HB6 := LH (HBx.out.trans (hb6.mono HBx.out.size))
  clear hb6 HBx HAx
  by_cases hz : b + lb = 0
  ·have hb0 : b = 0 := by omega
   have hl0 : lb = 0 := by omega
   subst hb0 hl0
   rw [if_pos rfl] at HP
   go_wp2_with fail
   exact HP.out _ _ rfl HB6.out
  ·rw [if_neg hz] at HP
   obtain ⟨zz, hzz⟩ : ∃ zz, (100 * (((b : Int) + (lb : Int)) * 512 - (x : Int) - (lw : Int))).tdiv (((b : Int) + (lb : Int)) * 512) = zz := ⟨_, rfl⟩
   have hbd := tdiv_small (100 * (((b : Int) + (lb : Int)) * 512 - (x : Int) - (lw : Int))) (((b : Int) + (lb : Int)) * 512) (n := 1000000000000) (by omega) (by omega)
   rw [hzz] at hbd
   obtain ⟨hz1, hz2⟩ := hbd
   have hne : ((((b : Int) + (lb : Int)) * 512) == 0) = false := by rw [beq_eq_false_iff_ne]; omega
   have HE : Hid (zz = (100 * (512 * ((b + lb : Nat) : Int) - ((x + lw : Nat) : Int))).tdiv (512 * ((b + lb : Nat) : Int))) := LH (by
    rw [← hzz]
    congr 1
    ·push_cast; omega
    ·push_cast; omega)
   go_wp2_with fail
   exact HP.out _ _ HE.out HB6.out
set_option maxHeartbeats 4000000 in
set_option maxRecDepth 20000 in
theorem rfill32_any (r : Rw) (hk : r.k < 32) (hb : r.b ≤ 1000) (ho : r.o ≤ 100000) (w : World) : Calls Tryz.prog 32 #[rwV r] w (Gives (.int .i64 (filK r : Nat)) w) := by
 obtain ⟨k, b, o, f, x⟩ := r
 have HMem := LH (Mem.one w #[.int .i64 (k : Int), .int .i64 (b : Int), .int .i64 (o : Int), .int .i64 (f : Int), .int .i64 (x : Int)] 86)
 have HP : Hid (∀ x' w', x' = ((filK ⟨k, b, o, f, x⟩ : Nat) : Int) → Below w.heap.size w w' → Gives (.int .i64 (filK ⟨k, b, o, f, x⟩ : Nat)) w (.returned (.int .i64 x')) w') := LH (fun x w' h1 h2 => by subst h1; exact ⟨rfl, h2⟩)
 have HD : Hid (filK ⟨k, b, o, f, x⟩ = if 0 < b * clsCells (k : Int) then 100 * o / (b * clsCells (k : Int)) else 0) := LH rfl
 generalize Gives (.int .i64 (filK ⟨k, b, o, f, x⟩ : Nat)) w = Post at *
 generalize filK ⟨k, b, o, f, x⟩ = fr at *
 dsimp only at hk hb ho
 unfold rwV
 dsimp only
 have hC : clsCells (k : Int) ≤ 256 := clsCells_256 hk
 have HCc := LH (fun w' => rccells_any (k : Int) w')
 generalize clsCells (k : Int) = C at *
 have hFC : b * C ≤ 256000 := by
  have : b * C ≤ 1000 * 256 := Nat.mul_le_mul hb hC
  omega
 have hI : (b : Int) * (C : Int) = ((b * C : Nat) : Int) := by push_cast; rfl
 have HI := LH hI
 have hFC0 : (0 : Int) ≤ (b : Int) * (C : Int) := by rw [hI]; omega
 have hFC1 : (b : Int) * (C : Int) ≤ 256000 := by rw [hI]; omega
 clear hI
 go_enter Tryz.func32, Tryz.ntmps32
 go_upto_region 1 with fail
 obtain ⟨q, hq⟩ : ∃ q, q = w.heap.size := ⟨_, rfl⟩
 rw [← hq] at HMem ⊢
 generalize w.alloc _ = w0 at *
 clear hq
 have r0 := fun x => later_cell (HMem.out.cell 0 0 rfl rfl) x
 have r1 := fun x => later_cell (HMem.out.cell 0 1 rfl rfl) x
 refine wp_region_seg (C := fun w' => ∃ x : Later (w0), w' = x.val) [.fl [0, 1, 2, 3], .sq [4] true, .sq [5, 6] false] (by kernel_rfl) (by kernel_rfl) (by intro c a d v w h; cases d <;> exact h) ?_
 simp only [segs, picks, List.getElem?_cons_succ, List.getElem?_cons_zero]
 have hC1 := later_drew (w0)
 refine wpSeg_fl hC1 ?_
 repeat (first | go_big_quiet_step (fail) | quiet_step (fail))
 refine wpQuiet_nil ?_
 clear r0 r1
 have HM1 := LH (HMem.out.later (later_below hC1))
 generalize w0.drew = w1 at *
 refine wpSeg_sq (fun K hK => ?_)
 go_wp2_with fail
 refine (HCc.out _).mono ?_
 rintro e w2 ⟨rfl, hb2⟩
 have hC2 := later_step hC1 hb2
 have HM2 := LH (HM1.out.later hb2)
 clear hb2
 go_wp2_with fail
 refine hK _ _ (fun _ => hC2) ?_
 clear hK K
 by_cases hz : 0 < b * C
 ·have hz0 : ((b : Int) * (C : Int) == 0) = false := by rw [HI.out, beq_eq_false_iff_ne]; omega
  have hz1 : (0 : Int) < (b : Int) * (C : Int) := by rw [HI.out]; omega
  have HE : Hid ((100 * (o : Int)) / ((b : Int) * (C : Int)) = (fr : Int)) := LH (by rw [HD.out, if_pos hz, HI.out]; push_cast; rfl)
  clear hz hC1
  refine wpSeg_last ?_
  go_upto_region 3 with fail
  have r0 := fun x => later_cell (HM2.out.cell 0 0 rfl rfl) x
  have r1 := fun x => later_cell (HM2.out.cell 0 1 rfl rfl) x
  have r2 := fun x => later_cell (HM2.out.cell 0 2 rfl rfl) x
  have hw1 : IntKind.i64.wrap (100 * (o : Int)) = 100 * (o : Int) := by rw [IntKind.wrap_i64]; omega
  have hw2 : IntKind.i64.wrap ((b : Int) * (C : Int)) = (b : Int) * (C : Int) := by rw [IntKind.wrap_i64]; omega
  refine wp_region_seg (C := fun w' => ∃ x : Later (w2), w' = x.val) [.fl [0, 1, 2, 3, 4, 5, 6], .sq [7] true, .fl [8], .sq [9, 10] false] (by kernel_rfl) (by kernel_rfl) (by intro c a d v w h; cases d <;> exact h) ?_
  simp only [segs, picks, List.getElem?_cons_succ, List.getElem?_cons_zero]
  have hC1 := later_drew (w2)
  refine wpSeg_fl hC1 ?_
  repeat (first | go_big_quiet_step (fail) | quiet_step (fail))
  refine wpQuiet_nil ?_
  clear r0 r1 r2
  have HM3 := LH (HM2.out.later (later_below hC1))
  generalize w2.drew = w3 at *
  refine wpSeg_sq (fun K hK => ?_)
  go_wp2_with fail
  refine (HCc.out _).mono ?_
  rintro e w4 ⟨rfl, hb4⟩
  have hC2 := later_step hC1 hb4
  have HM4 := LH (HM3.out.later hb4)
  clear hb4
  go_wp2_with fail
  refine hK _ _ (fun _ => hC2) ?_
  clear hK K
  refine wpSeg_fl hC2 ?_
  repeat (first | go_big_quiet_step (fail) | quiet_step (fail))
  refine wpQuiet_nil ?_
  refine wpSeg_last ?_
  go_wp2_with fail
  exact HP.out _ _ HE.out HM4.out.below
 ·have hz0 : ((b : Int) * (C : Int) == 0) = true := by rw [HI.out, beq_iff_eq]; omega
  have HE : Hid ((0 : Int) = (fr : Int)) := LH (by rw [HD.out, if_neg hz]; rfl)
  clear hz
  refine wpSeg_last ?_
  go_wp2_with fail
  exact HP.out _ _ HE.out HM2.out.below
set_option maxHeartbeats 4000000 in
set_option maxRecDepth 20000 in
theorem rlarge32_any {w : World} {v : Value} {S : Dev} {mm : Nat} (hm : S.dirty.length = mm) (h : RAt w v mm S.ref) {N : Nat} (hf : S.fit N)
  (au : Option Addr) (un cu : Nat) (us : List Nat) (hun : us.length = un) (hcu : Cells w au (us.map vi)) (hul : un ≤ 51200) :
  Calls Tryz.prog 34 #[v, .slice au un cu] w (LarPost (larO S us) w) := by
 have HP : Hid (∀ (a b c : Nat) w', (a, b, c) = larO S us → Below w.heap.size w w' → LarPost (larO S us) w (.returned (.tuple #[.int .i64 (a : Int), .int .i64 (b : Int), .int .i64 (c : Int)])) w') := LH (fun a b c w' h1 h2 => by rw [← h1]; exact ⟨rfl, h2⟩)
 generalize LarPost (larO S us) w = Post at *
 have HHd := LH (fun w' (h : RAt w' v mm S.ref) (x : Nat) => rhead15_any hm h hf (x : Int))
 obtain ⟨D, rfl⟩ := h.agg
 obtain ⟨hD8, hD1⟩ := h.arr
 have HM := LH (Mem.one w D 59)
 have HR0 := LH (h.below HM.out.below (Nat.le_refl _))
 have HCu0 := LH (hcu.below HM.out.below (Nat.le_refl _))
 have HUn := LH hun
 have HLs : Hid (∀ i x : Nat, us[i]? = some x → larO S (us.take (i + 1)) = if 0 < objBlocks (szN S x) then ((larO S (us.take i)).1 + 1, (larO S (us.take i)).2.1 + objBlocks (szN S x), (larO S (us.take i)).2.2 + szN S x) else larO S (us.take i)) := LH (fun i x hx => by rw [take_one hx, larO_snoc])
 have HLl : Hid (∀ i, (larO S (us.take i)).1 ≤ 51200 ∧ (larO S (us.take i)).2.1 ≤ 33 * 51200 ∧ (larO S (us.take i)).2.2 ≤ 16448 * 51200) := LH (fun i => by
  obtain ⟨h1, h2, h3⟩ := larO_le S (us.take i)
  have h4 : (us.take i).length ≤ 51200 := by rw [List.length_take]; omega
  exact ⟨by omega, Nat.le_trans h2 (Nat.mul_le_mul_left _ h4), Nat.le_trans h3 (Nat.mul_le_mul_left _ h4)⟩)
 have HSz : Hid (∀ x : Nat, objSize (headN S (x : Int)).p (headN S (x : Int)).d = szN S x) := LH (fun _ => rfl)
 have HHp := LH (show ∀ o : Odec, headV o = .tuple #[vob o.p o.d, .bool (decide (o.code = 0))] from fun _ => rfl)
 clear h hf hm hun hcu
 go_enter Tryz.func34, Tryz.ntmps34
 go_upto_region 1 with fail
 generalize w.alloc _ = w0 at *
 obtain ⟨q, hq⟩ : ∃ q, q = w.heap.size := ⟨_, rfl⟩
 rw [← hq] at HM ⊢
 clear hq
 go_wp2_with fail
 go_loopw [7, 8, 9, 10] (fun av bv cv iv wr => ∃ a b c i : Nat, i ≤ un ∧ a ≤ 51200 ∧ b ≤ 33 * 51200 ∧ c ≤ 16448 * 51200 ∧ av = .int .i64 (a : Int) ∧ bv = .int .i64 (b : Int) ∧ cv = .int .i64 (c : Int) ∧ iv = .int .i64 (i : Int) ∧ Hid ((a, b, c) = larO S (us.take i)) ∧ Hid (Below w0.heap.size w0 wr)) (fun _ _ _ iv _ => un - (intOf iv).toNat)
 case atStart => exact ⟨0, 0, 0, 0, Nat.zero_le _, by omega, by omega, by omega, rfl, rfl, rfl, rfl, LH rfl, LH (Below.refl _ _)⟩
 case round =>
  obtain ⟨a, b, c, i, hi, ha, hb, hc, rfl, rfl, rfl, rfl, HL, HB⟩ := hrel
  by_cases hlt : i < un
  case neg =>
   obtain rfl : i = un := by omega
   have hlt' : decide ((i : Int) < (i : Int)) = false := by simp
   have HE : Hid ((a, b, c) = larO S us) := LH (by have h1 := HL.out; rw [← HUn.out, List.take_length] at h1; exact h1)
   have HBz := LH (HM.out.below.trans (HB.out.mono HM.out.below.size))
   go_wp2_with fail
   go_ret3
   exact HP.out a b c _ HE.out HBz.out
  have hlt' : (i : Int) < (un : Int) := by omega
  have HMr := LH (HM.out.later HB.out)
  have HRr := LH (HR0.out.below HB.out (Nat.le_refl _))
  obtain ⟨b1, o1, e1, _, hc1⟩ := (HCu0.out.below HB.out (Nat.le_refl _)).at (i := i) (by rw [List.length_map, HUn.out]; exact hlt)
  subst e1
  obtain ⟨x, hx⟩ : ∃ x, us[i]? = some x := ⟨_, List.getElem?_eq_getElem (by rw [HUn.out]; exact hlt)⟩
  have cx := hc1 i (vi x) (by rw [List.getElem?_map, hx]; rfl)
  have HNx := LH (HLs.out i x hx)
  have HLe := LH (HLl.out (i + 1))
  have HHx := LH (fun w' h => HHd.out w' h x)
  rw [HHp.out] at HHx
  have HSx := LH (HSz.out x)
  generalize headN S (x : Int) = od at *
  obtain ⟨p, d, cd⟩ := od
  dsimp only at HHx HSx
  rw [← HSx.out] at HNx
  clear hc1 hx HSx
  generalize decide (cd = 0) = okb at *
  have hld : ∀ w', (∃ x : Later wr, w' = x.val) → ∀ i v, D.toList[i]? = some v → w'.cell? ⟨q, 0 + i, none⟩ = some v := by
   rintro _ ⟨x, rfl⟩ i v hi
   rw [Nat.zero_add]
   exact later_cell (HMr.out.cell 0 i rfl hi) x
  have r1 := fun x => later_cell cx x
  have HM0 := LH (Mem.start wr)
  go_upto_region 5 with fail
  go_cut [11] (fun ov wc => ∃ g : Nat, ov = .pointer (some ⟨g, 0, none⟩) ∧ Hid (Mem wr wc [⟨g, 38, [.int .i64 p, .int .i64 d], true⟩]))
  case first =>
   refine wp_region_tr (C := fun w' => ∃ x : Later (wr), w' = x.val) (.fl [0, 1, 2, 3, 4] (.br 5 false (.pu [6, 7, 8] (.sq [9] true (.sq [10, 11] false (.nil)))) 9 true (.sq [5, 6] false (.pu [7, 8] (.sq [10, 11] false (.nil)))))) (by kernel_rfl) (by kernel_rfl) (by intro c a d v w h; cases d <;> exact h) ?_
   simp only [trO, picks, List.getElem?_cons_succ, List.getElem?_cons_zero]
   have hC1 := later_drew (wr)
   refine wpTr_fl hC1 ?_
   repeat (first | (refine wpQuiet_load_arr aggRd D hld hD8 rfl rfl rfl ?_) | go_big_quiet_step (fail) | quiet_step (fail))
   refine wpQuiet_nil ?_
   have HM6 := LH (HM0.out.later (later_below hC1))
   have HR6 := LH (HRr.out.below (later_below hC1) (Nat.le_refl _))
   clear r1 hld cx HRr HMr HM0
   generalize wr.drew = w6 at *
   refine wpTr_br ?_ ?_
   ·refine wpTr_sq (fun K hK => ?_)
    go_wp2_with fail
    refine (HHx.out _ HR6.out).mono ?_
    rintro e w7 ⟨rfl, hb7⟩
    have HM7 := LH (HM6.out.later hb7)
    have hC2 := later_step hC1 hb7
    clear hb7
    go_wp2_with fail
    refine hK _ _ (fun h => nomatch h) ?_
    clear hK K
    refine wpTr_pu ?_
    repeat (first | go_big_quiet_step (fail) | quiet_step (fail))
    refine wpQuiet_nil ?_
    refine wpTr_sq (fun K hK => ?_)
    go_wp2_with fail
    have hb := below_alloc w7 (.cells #[.int .i64 0, .int .i64 0] 38)
    have HM8 := LH (HM7.out.alloc #[.int .i64 0, .int .i64 0] 38)
    have hC3 := later_step hC2 hb
    obtain ⟨qd, hqd⟩ : ∃ qd, qd = w7.heap.size := ⟨_, rfl⟩
    clear hb
    go_wp2_with fail
    refine hK _ _ (fun _ => hC3) ?_
    clear hK K
    generalize w7.alloc _ = w8 at *
    rw [← hqd] at HM8 ⊢
    clear hqd
    refine wpTr_last ?_
    go_wp2_with (refine wpList_store_mem aggRo HM8.out 0 rfl rfl rfl rfl rfl rfl rfl rfl ?_; intro w9 h9 ht9; have H9 := LH h9; clear h9 ht9)
    go_meet
    exact ⟨_, rfl, H9⟩
   ·refine wpTr_sq (fun K hK => ?_)
    go_wp2_with fail
    have hb := below_alloc w6 (.cells #[.int .i64 0, .int .i64 0] 38)
    have HM7 := LH (HM6.out.alloc #[.int .i64 0, .int .i64 0] 38)
    have HR7 := LH (HR6.out.below hb (Nat.le_refl _))
    have hC2 := later_step hC1 hb
    obtain ⟨qd, hqd⟩ : ∃ qd, qd = w6.heap.size := ⟨_, rfl⟩
    clear hb
    go_wp2_with fail
    refine hK _ _ (fun _ => hC2) ?_
    clear hK K
    generalize w6.alloc _ = w7 at *
    rw [← hqd] at HM7 ⊢
    clear hqd
    refine wpTr_sq (fun K hK => ?_)
    go_wp2_with fail
    refine (HHx.out _ HR7.out).mono ?_
    rintro e w8 ⟨rfl, hb8⟩
    have HM8 := LH (HM7.out.later hb8)
    clear hb8
    go_wp2_with fail
    refine hK _ _ (fun h => nomatch h) ?_
    clear hK K
    refine wpTr_pu ?_
    repeat (first | go_big_quiet_step (fail) | quiet_step (fail))
    refine wpQuiet_nil ?_
    refine wpTr_last ?_
    go_wp2_with (refine wpList_store_mem aggRo HM8.out 0 rfl rfl rfl rfl rfl rfl rfl rfl ?_; intro w9 h9 ht9; have H9 := LH h9; clear h9 ht9)
    go_meet
    exact ⟨_, rfl, H9⟩
  case rest =>
   obtain ⟨g, rfl, HMo⟩ := hcut
   generalize wc = wx at *
   have HBx := LH (HB.out.trans (HMo.out.below.mono HB.out.size))
   have d0 := HMo.out.cell 0 0 rfl rfl
   have d1 := HMo.out.cell 0 1 rfl rfl
   have HBl := LH (fun w => roblocks_any p d w)
   have HSz2 := LH (fun w => rosize_any p d w)
   clear HMr HRr r1 hld cx HB HM0
   generalize objBlocks (objSize p d) = nb at *
   generalize objSize p d = sz at *
   go_wp2_with fail
   refine (HBl.out _).mono ?_
   rintro e w8 ⟨rfl, hb8⟩
   have HM8 := LH (HMo.out.later hb8)
   have HB8 := LH (HBx.out.trans (hb8.mono HBx.out.size))
   clear hb8 d0 d1 HMo HBx
   by_cases hnb : 0 < nb
   ·have hnb' : (0 : Int) < (nb : Int) := by omega
    rw [if_pos hnb, ← HL.out] at HNx
    dsimp only at HNx
    rw [HNx.out] at HLe
    obtain ⟨l1, l2, l3⟩ := HLe.out
    dsimp only at l1 l2 l3
    have r0 := fun x => later_cell (HM8.out.cell 0 0 rfl rfl) x
    have r1 := fun x => later_cell (HM8.out.cell 0 1 rfl rfl) x
    have hw1 : IntKind.i64.wrap ((a : Int) + 1) = (a : Int) + 1 := by rw [IntKind.wrap_i64]; omega
    have hw2 : IntKind.i64.wrap ((b : Int) + (nb : Int)) = (b : Int) + (nb : Int) := by rw [IntKind.wrap_i64]; omega
    have hw3 : IntKind.i64.wrap ((c : Int) + (sz : Int)) = (c : Int) + (sz : Int) := by rw [IntKind.wrap_i64]; omega
    clear HL hnb HLe
    go_upto_region 7 with fail
    refine wp_region_seg (C := fun w' => ∃ x : Later (w8), w' = x.val) [.fl [0, 1, 2, 3, 6, 7], .sq [4] true, .fl [5], .sq [8] true, .fl [9, 10, 11], .sq [12] false] (by kernel_rfl) (by kernel_rfl) (by intro c a d v w h; cases d <;> exact h) ?_
    simp only [segs, picks, List.getElem?_cons_succ, List.getElem?_cons_zero]
    have hC1 := later_drew (w8)
    refine wpSeg_fl hC1 ?_
    repeat (first | go_big_quiet_step (fail) | quiet_step (fail))
    refine wpQuiet_nil ?_
    have HB9 := LH (HB8.out.trans ((later_below hC1).mono HB8.out.size))
    clear r0 r1 HM8
    generalize w8.drew = w9 at *
    refine wpSeg_sq (fun K hK => ?_)
    go_wp2_with fail
    refine (HBl.out _).mono ?_
    rintro e wa ⟨rfl, hb⟩
    have HBa := LH (HB9.out.trans (hb.mono HB9.out.size))
    have hC2 := later_step hC1 hb
    clear hb
    go_wp2_with fail
    refine hK _ _ (fun _ => hC2) ?_
    clear hK K
    refine wpSeg_fl hC2 ?_
    repeat (first | go_big_quiet_step (fail) | quiet_step (fail))
    refine wpQuiet_nil ?_
    refine wpSeg_sq (fun K hK => ?_)
    go_wp2_with fail
    refine (HSz2.out _).mono ?_
    rintro e wb ⟨rfl, hb⟩
    have HBb := LH (HBa.out.trans (hb.mono HBa.out.size))
    have hC3 := later_step hC2 hb
    clear hb
    go_wp2_with fail
    refine hK _ _ (fun _ => hC3) ?_
    clear hK K
    refine wpSeg_fl hC3 ?_
    repeat (first | go_big_quiet_step (fail) | quiet_step (fail))
    refine wpQuiet_nil ?_
    refine wpSeg_last ?_
    go_wp2_with fail
    refine ⟨⟨a + 1, b + nb, c + sz, i + 1, by omega, l1, l2, l3, vint (by omega), vint (by omega), vint (by omega), vint (by omega), LH HNx.out.symm, HBb⟩, ?_⟩
    simp [intOf]; omega
   ·have hnb' : (nb : Int) ≤ 0 := by omega
    rw [if_neg hnb, ← HL.out] at HNx
    clear HL HLe
    go_wp2_with fail
    refine ⟨⟨a, b, c, i + 1, by omega, ha, hb, hc, rfl, rfl, rfl, vint (by omega), LH HNx.out.symm, HB8⟩, ?_⟩
    simp [intOf]; omega
theorem aggRr : Agg Tryz.prog 86 #[.int .i64 0, .int .i64 0, .int .i64 0, .int .i64 0, .int .i64 0] := ⟨⟨_, Tryz.underlying86, rfl⟩, by kernel_rfl⟩
theorem elRr : Elem Tryz.prog 81 86 (.agg #[.int .i64 0, .int .i64 0, .int .i64 0, .int .i64 0, .int .i64 0]) 5 40 := Elem.mk' Tryz.underlying81 (by kernel_rfl) rfl (by decide)
theorem other_blk32 {w : World} {base e n size d t : Nat} {v : Value} {xs : List Value} {cs : Array Value} {fr : Nat × Nat} (ho : w.ownsRow base e size v n xs) (h : w.heap[d]? = some (.cells cs t fr)) (hne : t ≠ e) : some d ≠ v.ownBlock := by
 intro c
 rcases ho.2 with ⟨rfl, _⟩ | ⟨g, cap, cur, rfl, _, hg, _⟩
 ·simp [Value.ownBlock] at c
 ·simp [Value.ownBlock] at c
  subst c
  rw [hg] at h
  injection h with h
  injection h with h1 h2
  exact hne h2.symm
def rowR (S : Dev) (L : List Hd) (us : List Nat) (k : Nat) : Rw := ⟨k, cntB L k (L.length - 1), cntO S k us, (freeTo (fun y => us.contains y) L k (L.length - 1)).length, wrdO S k us⟩
def rowsR (S : Dev) (L : List Hd) (us : List Nat) : Nat → List Rw
 | 0 => []
 | n + 1 => rowsR S L us n ++ if 0 < cntB L n (L.length - 1) then [rowR S L us n] else []
theorem rowsR_len (S : Dev) (L : List Hd) (us : List Nat) : ∀ n, (rowsR S L us n).length ≤ n
 | 0 => Nat.le_refl _
 | n + 1 => by unfold rowsR; have := rowsR_len S L us n; rw [List.length_append]; split <;> simp <;> omega
theorem rowsR_is {B : Nat} {m : Al} (h : AlOk B m) : ∀ n, rowsR m.bm.dev m.bm.list (onesL m.used) n = rowsTo m B n
 | 0 => rfl
 | n + 1 => by
  unfold rowsR rowsTo
  rw [rowsR_is h n]
  unfold rowR rowK
  rw [h.bm.lenL]
theorem isK_ref (S : Dev) (k x : Nat) (_hk : k < 32) : isK S k x = decide (rofN (szN S x : Nat) = (k : Int)) := by
 unfold isK
 by_cases hs : small (szN S x)
 ·rw [rofN_small _ hs, decide_eq_true hs, Bool.true_and]
  rw [decide_eq_decide]; omega
 ·rw [rofN_large _ hs, decide_eq_false hs, Bool.false_and]
  symm
  rw [decide_eq_false_iff_not]; omega
set_option maxHeartbeats 8000000 in
set_option maxRecDepth 100000 in
theorem rrows32_any {w : World} {v : Value} {S : Dev} {mm : Nat} (hm : S.dirty.length = mm) (h : RAt w v mm S.ref) {N : Nat} (hf : S.fit N)
  (a : Option Addr) (n cap : Nat) (L : List Hd) (hn : L.length = n) (hc : Cells w a (hdCs L)) (hn1 : 1 ≤ n) (hl : n ≤ 100)
  (au : Option Addr) (un cu : Nat) (us : List Nat) (hun : us.length = un) (hcu : Cells w au (us.map vi)) (hul : un ≤ 51200) :
  Calls Tryz.prog 30 #[v, .slice a n cap, .slice au un cu] w (RowsPost 86 (rowsR S L us 32) w) := by
 have HP : Hid (∀ v w', w'.ownsRow w.heap.size 86 5 v (rowsR S L us 32).length (recs Rw.cs (rowsR S L us 32)) → Below w.heap.size w w' → RowsPost 86 (rowsR S L us 32) w (.returned v) w') := LH (fun v w' h1 h2 => ⟨v, rfl, h1, h2⟩)
 generalize RowsPost 86 (rowsR S L us 32) w = Post at *
 have HHd := LH (fun w' (h : RAt w' v mm S.ref) (x : Nat) => rhead15_any hm h hf (x : Int))
 obtain ⟨D, rfl⟩ := h.agg
 obtain ⟨hD8, hD1⟩ := h.arr
 have HM := LH (Mem.one w D 59)
 have HR := LH h
 have HCu := LH hcu
 have HC := LH hc
 have HLn := LH hn
 have HUn := LH hun
 have HFr := LH (fun w' (h : Below w.heap.size w w') (k : Nat) (hk : k < 32) => rfree16_any a n cap L hn (hc.below h (Nat.le_refl _)) (by omega) k hk au un cu us hun (hcu.below h (Nat.le_refl _)) (by omega))
 have HFl : Hid (∀ k, k < 32 → (freeTo (fun y => us.contains y) L k (n - 1)).length ≤ 51200) := LH (fun k hk => by
  have := freeTo_len (u := fun y => us.contains y) (L := L) hk (n - 1)
  omega)
 have HCb : Hid (∀ k b, cntB L k b ≤ b) := LH (fun k b => cntB_le L k b)
 have HCs : Hid (∀ k b, cntB L k (b + 1) = cntB L k b + if isSm L k (b + 1) then 1 else 0) := LH (fun _ _ => rfl)
 have HOs : Hid (∀ k i x : Nat, k < 32 → us[i]? = some x → cntO S k (us.take (i + 1)) = cntO S k (us.take i) + (if rofN (szN S x : Nat) = (k : Int) then 1 else 0) ∧ wrdO S k (us.take (i + 1)) = wrdO S k (us.take i) + (if rofN (szN S x : Nat) = (k : Int) then szN S x else 0)) := LH (fun k i x hk hx => by
  rw [take_one hx, cntO_snoc, wrdO_snoc, isK_ref S k x hk]
  by_cases e : rofN (szN S x : Nat) = (k : Int)
  ·simp [e]
  ·simp [e])
 have HOl : Hid (∀ k i, cntO S k (us.take i) ≤ 51200 ∧ wrdO S k (us.take i) ≤ 13107200) := LH (fun k i => by
  have h4 : (us.take i).length ≤ 51200 := by rw [List.length_take]; omega
  exact ⟨Nat.le_trans (cntO_le _ _ _) h4, Nat.le_trans (wrdO_le _ _ _) (Nat.le_trans (Nat.mul_le_mul_left 256 h4) (by omega))⟩)
 have HO0 : Hid (∀ k, cntO S k (us.take 0) = 0 ∧ wrdO S k (us.take 0) = 0 ∧ cntB L k 0 = 0) := LH (fun _ => ⟨rfl, rfl, rfl⟩)
 have HOe : Hid (us.take un = us) := LH (by rw [← hun, List.take_length])
 have HSz : Hid (∀ x : Nat, objSize (headN S (x : Int)).p (headN S (x : Int)).d = szN S x ∧ szN S x ≤ 16448) := LH (fun x => ⟨rfl, szN_le S x⟩)
 have HHp := LH (show ∀ o : Odec, headV o = .tuple #[vob o.p o.d, .bool (decide (o.code = 0))] from fun _ => rfl)
 have HNx : Hid (∀ k, rowsR S L us (k + 1) = rowsR S L us k ++ if 0 < cntB L k (n - 1) then [⟨k, cntB L k (n - 1), cntO S k us, (freeTo (fun y => us.contains y) L k (n - 1)).length, wrdO S k us⟩] else []) := LH (fun k => by rw [← hn]; rfl)
 have HRl := LH (fun k => rowsR_len S L us k)
 have HR0 : Hid (rowsR S L us 0 = []) := LH rfl
 generalize rowsR S L us = RR at *
 generalize freeTo (fun y => us.contains y) L = FF at *
 clear h hf hm hun hcu hn hc
 go_enter Tryz.func30, Tryz.ntmps30
 go_upto_region 1 with fail
 have HW0 : Hid (Below w.heap.size w (w.alloc (Obj.cells D 59))) := LH HM.out.below
 generalize w.alloc _ = w0 at *
 obtain ⟨q, hq⟩ : ∃ q, q = w.heap.size := ⟨_, rfl⟩
 rw [← hq] at HM ⊢
 have HQ := LH hq
 clear hq
 go_wp2_with fail
 go_loopw [7, 8] (fun ov kv wr => ∃ (k : Nat), k ≤ 32 ∧ kv = .int .i64 (k : Int) ∧ Hid (wr.ownsRow w.heap.size 86 5 ov (RR k).length (recs Rw.cs (RR k))) ∧ Hid (Below w.heap.size w wr) ∧ Hid (MemR w.heap.size wr [⟨q, 59, D.toList, true⟩])) (fun _ kv _ => 32 - (intOf kv).toNat)
 case atStart => exact ⟨0, by omega, rfl, LH (by rw [HR0.out]; exact ⟨rfl, .inl ⟨rfl, rfl⟩⟩), HW0, LH HM.out.r⟩
 case round =>
  clear HW0 HM
  obtain ⟨k, hk, rfl, HO, HB, HMd⟩ := hrel
  by_cases hlt : k < 32
  case neg =>
   obtain rfl : k = 32 := by omega
   go_wp2_with fail
   exact HP.out _ _ HO.out HB.out
  have hlt' : (k : Int) < 32 := by omega
  have HNk := LH (HNx.out k)
  have hfl := HFl.out k hlt
  have hRl := HRl.out k
  obtain ⟨F, hF⟩ : ∃ F, F = RR k := ⟨_, rfl⟩
  rw [← hF] at HO HNk hRl
  clear hF
  go_wp2_with fail
  refine (HFr.out _ HB.out k hlt).mono ?_
  rintro e w1 ⟨v1, rfl, ho1, _, hb1⟩
  obtain ⟨a1, c1, rfl, _⟩ := ho1.cells
  generalize (FF k (n - 1)).length = fl at *
  have HMr := LH (Mem.one w1 #[.int .i64 (k : Int), .int .i64 0, .int .i64 0, .int .i64 (fl : Int), .int .i64 0] 86)
  have HB1 := LH (HB.out.trans (hb1.mono HB.out.size))
  have HO1 := LH (owned_below HO.out hb1 (Nat.le_refl _))
  have HMd1 := LH (HMd.out.later hb1)
  clear ho1 hb1 HO HB HMd
  go_upto_region 6 with fail
  have HMs : Hid (Mem w1 (w1.alloc (Obj.cells #[.int .i64 (k : Int), .int .i64 0, .int .i64 0, .int .i64 (fl : Int), .int .i64 0] 86)) [⟨w1.heap.size, 86, [.int .i64 (k : Int), .int .i64 ((0 : Nat) : Int), .int .i64 ((0 : Nat) : Int), .int .i64 (fl : Int), .int .i64 ((0 : Nat) : Int)], true⟩]) := HMr
  generalize w1.alloc _ = w2 at *
  clear HMr
  -- the blocks
  go_upto_block 2 with fail
  go_cut [] (fun wc => Hid (Mem w1 wc [⟨w1.heap.size, 86, [.int .i64 (k : Int), .int .i64 ((cntB L k (n - 1) : Nat) : Int), .int .i64 ((0 : Nat) : Int), .int .i64 (fl : Int), .int .i64 ((0 : Nat) : Int)], true⟩]))
  case first =>
   go_wp2_with fail
   go_loopw [10] (fun bv wi => ∃ b x : Nat, 1 ≤ b ∧ b ≤ n ∧ bv = .int .i64 (b : Int) ∧ x ≤ 100 ∧ Hid (x = cntB L k (b - 1)) ∧ Hid (Mem w1 wi [⟨w1.heap.size, 86, [.int .i64 (k : Int), .int .i64 (x : Int), .int .i64 ((0 : Nat) : Int), .int .i64 (fl : Int), .int .i64 ((0 : Nat) : Int)], true⟩])) (fun bv _ => n - (intOf bv).toNat)
   case atStart => exact ⟨1, 0, Nat.le_refl _, hn1, rfl, by omega, LH (HO0.out k).2.2.symm, HMs⟩
   case round =>
    clear HMs
    obtain ⟨b, x, hb1, hbn, rfl, hx9, HX, HMi⟩ := hrel
    by_cases hbl : b < n
    case neg =>
     obtain rfl : b = n := by omega
     have hlt' : decide ((b : Int) < (b : Int)) = false := by simp
     rw [HX.out] at HMi
     clear HX
     go_wp2_with fail
     go_meet
     exact HMi
    have hbl' : (b : Int) < (n : Int) := by omega
    obtain ⟨kk, cc, zz, he⟩ := hdGetD L b
    obtain ⟨ba, oa, rfl, e0, e1, e2⟩ := hd_cells (HC.out.below (HB1.out.trans (HMi.out.below.mono HB1.out.size)) (Nat.le_refl _)) (by rw [HLn.out]; exact hbl) he
    have HSm : Hid (isSm L k b = (decide (kk = 1) && decide (cc = (k : Int)))) := LH (by unfold isSm; rw [he])
    have HSuc : Hid (cntB L k (b + 1 - 1) = cntB L k (b - 1) + if isSm L k b then 1 else 0) := LH (by
     obtain ⟨z, rfl⟩ : ∃ z, b = z + 1 := ⟨b - 1, by omega⟩
     exact HCs.out k z)
    clear he e2
    have hstay : (¬ (kk = 1 ∧ cc = (k : Int))) → x = cntB L k (b + 1 - 1) := fun hno => by
     rw [HSuc.out, HSm.out, ← HX.out, if_neg (by simpa using hno), Nat.add_zero]
    by_cases hk1 : kk = 1
    case neg =>
     have hk1' : (kk == 1) = false := by simpa using hk1
     have HXn := LH (hstay (fun h => hk1 h.1))
     clear hstay hk1
     go_wp2_with fail
     refine ⟨⟨b + 1, x, by omega, by omega, vint (by omega), hx9, HXn, HMi⟩, ?_⟩
     simp [intOf]; omega
    subst hk1
    by_cases hc1 : cc = (k : Int)
    case neg =>
     have hc1' : (cc == (k : Int)) = false := by simpa using hc1
     have HXn := LH (hstay (fun h => hc1 h.2))
     clear hstay hc1
     go_wp2_with fail
     refine ⟨⟨b + 1, x, by omega, by omega, vint (by omega), hx9, HXn, HMi⟩, ?_⟩
     simp [intOf]; omega
    subst hc1
    have HXn : Hid (x + 1 = cntB L k (b + 1 - 1)) := LH (by rw [HSuc.out, HSm.out, ← HX.out]; simp)
    have hx8 : x + 1 ≤ 100 := by have h1 := HCb.out k (b + 1 - 1); rw [← HXn.out] at h1; omega
    have f1 := HMi.out.frozen 0 1 rfl
    have d1 := HMi.out.cell 0 1 rfl rfl
    clear hstay
    go_upto_region 8 with fail
    have HMj : Hid (Mem w1 (wr.setCell ⟨w1.heap.size, 1, none⟩ (.int .i64 ((x : Int) + 1))) [⟨w1.heap.size, 86, [.int .i64 (k : Int), .int .i64 ((x + 1 : Nat) : Int), .int .i64 ((0 : Nat) : Int), .int .i64 (fl : Int), .int .i64 ((0 : Nat) : Int)], true⟩]) := LH (HMi.out.set 0 1 (.int .i64 ((x : Int) + 1)) rfl (by show 1 < 5; omega))
    clear f1 d1 e0 e1
    generalize World.setCell _ _ _ = wj at *
    go_wp2_with fail
    refine ⟨⟨b + 1, x + 1, by omega, by omega, vint (by omega), hx8, HXn, HMj⟩, ?_⟩
    simp [intOf]; omega
  case rest =>
   clear HMs
   have HMc : Hid (Mem w1 wc [⟨w1.heap.size, 86, [.int .i64 (k : Int), .int .i64 ((cntB L k (n - 1) : Nat) : Int), .int .i64 ((0 : Nat) : Int), .int .i64 (fl : Int), .int .i64 ((0 : Nat) : Int)], true⟩]) := hcut
   clear hcut
   generalize wc = wx at *
   have hcb9 : cntB L k (n - 1) ≤ 100 := by have := HCb.out k (n - 1); omega
   generalize cntB L k (n - 1) = cb at *
   -- the objects
   go_upto_block 4 with fail
   go_cut [] (fun wc => Hid (Mem w1 wc [⟨w1.heap.size, 86, [.int .i64 (k : Int), .int .i64 (cb : Int), .int .i64 ((cntO S k us : Nat) : Int), .int .i64 (fl : Int), .int .i64 ((wrdO S k us : Nat) : Int)], true⟩]))
   case first =>
    go_wp2_with fail
    go_loopw [11] (fun iv wi => ∃ i o x : Nat, i ≤ un ∧ iv = .int .i64 (i : Int) ∧ o ≤ 51200 ∧ x ≤ 13107200 ∧ Hid (o = cntO S k (us.take i) ∧ x = wrdO S k (us.take i)) ∧ Hid (Mem w1 wi [⟨w1.heap.size, 86, [.int .i64 (k : Int), .int .i64 (cb : Int), .int .i64 (o : Int), .int .i64 (fl : Int), .int .i64 (x : Int)], true⟩])) (fun iv _ => un - (intOf iv).toNat)
    case atStart => exact ⟨0, 0, 0, Nat.zero_le _, rfl, by omega, by omega, LH ⟨(HO0.out k).1.symm, (HO0.out k).2.1.symm⟩, HMc⟩
    case round =>
     clear HMc
     obtain ⟨i, o, x, hi, rfl, ho9, hx9, HX, HMi⟩ := hrel
     by_cases hil : i < un
     case neg =>
      obtain rfl : i = un := by omega
      have hlt' : decide ((i : Int) < (i : Int)) = false := by simp
      rw [HOe.out] at HX
      rw [HX.out.1, HX.out.2] at HMi
      clear HX
      go_wp2_with fail
      go_meet
      exact HMi
     have hil' : (i : Int) < (un : Int) := by omega
     have HBi : Hid (Below w.heap.size w wr) := LH (HB1.out.trans (HMi.out.below.mono HB1.out.size))
     have HMdi := LH (HMd1.out.later HMi.out.below)
     have HRi := LH (HR.out.below HBi.out (Nat.le_refl _))
     obtain ⟨b1, o1, e1, _, hc1⟩ := (HCu.out.below HBi.out (Nat.le_refl _)).at (i := i) (by rw [List.length_map, HUn.out]; exact hil)
     subst e1
     obtain ⟨y, hy⟩ : ∃ y, us[i]? = some y := ⟨_, List.getElem?_eq_getElem (by rw [HUn.out]; exact hil)⟩
     have cx := hc1 i (vi y) (by rw [List.getElem?_map, hy]; rfl)
     have HSt := LH (HOs.out k i y hlt hy)
     have HSl := LH (HOl.out k (i + 1))
     have HHx := LH (fun w' h => HHd.out w' h y)
     rw [HHp.out] at HHx
     have HSx := LH (HSz.out y)
     generalize headN S (y : Int) = od at *
     obtain ⟨p, d, cd⟩ := od
     dsimp only at HHx HSx
     rw [← HSx.out.1] at HSt
     have hsz9 : objSize p d ≤ 16448 := by have h1 := HSx.out.2; rw [← HSx.out.1] at h1; exact h1
     clear hc1 hy HSx
     generalize decide (cd = 0) = okb at *
     have hld : ∀ w', (∃ x : Later wr, w' = x.val) → ∀ i v, D.toList[i]? = some v → w'.cell? ⟨q, 0 + i, none⟩ = some v := by
      rintro _ ⟨x, rfl⟩ i v hi
      rw [Nat.zero_add]
      exact later_cell (HMdi.out.cell 0 i rfl hi) x
     have r1 := fun x => later_cell cx x
     have HM0 := LH (Mem.start wr)
     go_upto_region 14 with fail
     go_cut [12] (fun ov wc => ∃ g : Nat, ov = .pointer (some ⟨g, 0, none⟩) ∧ Hid (Mem wr wc [⟨g, 38, [.int .i64 p, .int .i64 d], true⟩]))
     case first =>
      refine wp_region_tr (C := fun w' => ∃ x : Later (wr), w' = x.val) (.fl [0, 1, 2, 3, 4] (.br 5 false (.pu [6, 7, 8] (.sq [9] true (.sq [10, 11] false (.nil)))) 9 true (.sq [5, 6] false (.pu [7, 8] (.sq [10, 11] false (.nil)))))) (by kernel_rfl) (by kernel_rfl) (by intro c a d v w h; cases d <;> exact h) ?_
      simp only [trO, picks, List.getElem?_cons_succ, List.getElem?_cons_zero]
      have hC1 := later_drew (wr)
      refine wpTr_fl hC1 ?_
      repeat (first | (refine wpQuiet_load_arr aggRd D hld hD8 rfl rfl rfl ?_) | go_big_quiet_step (fail) | quiet_step (fail))
      refine wpQuiet_nil ?_
      have HM6 := LH (HM0.out.later (later_below hC1))
      have HR6 := LH (HRi.out.below (later_below hC1) (Nat.le_refl _))
      clear r1 hld cx HRi HM0
      generalize wr.drew = w6 at *
      refine wpTr_br ?_ ?_
      ·refine wpTr_sq (fun K hK => ?_)
       go_wp2_with fail
       refine (HHx.out _ HR6.out).mono ?_
       rintro e w7 ⟨rfl, hb7⟩
       have HM7 := LH (HM6.out.later hb7)
       have hC2 := later_step hC1 hb7
       clear hb7
       go_wp2_with fail
       refine hK _ _ (fun h => nomatch h) ?_
       clear hK K
       refine wpTr_pu ?_
       repeat (first | go_big_quiet_step (fail) | quiet_step (fail))
       refine wpQuiet_nil ?_
       refine wpTr_sq (fun K hK => ?_)
       go_wp2_with fail
       have hb := below_alloc w7 (.cells #[.int .i64 0, .int .i64 0] 38)
       have HM8 := LH (HM7.out.alloc #[.int .i64 0, .int .i64 0] 38)
       have hC3 := later_step hC2 hb
       obtain ⟨qd, hqd⟩ : ∃ qd, qd = w7.heap.size := ⟨_, rfl⟩
       clear hb
       go_wp2_with fail
       refine hK _ _ (fun _ => hC3) ?_
       clear hK K
       generalize w7.alloc _ = w8 at *
       rw [← hqd] at HM8 ⊢
       clear hqd
       refine wpTr_last ?_
       go_wp2_with (refine wpList_store_mem aggRo HM8.out 0 rfl rfl rfl rfl rfl rfl rfl rfl ?_; intro w9 h9 ht9; have H9 := LH h9; clear h9 ht9)
       go_meet
       exact ⟨_, rfl, H9⟩
      ·refine wpTr_sq (fun K hK => ?_)
       go_wp2_with fail
       have hb := below_alloc w6 (.cells #[.int .i64 0, .int .i64 0] 38)
       have HM7 := LH (HM6.out.alloc #[.int .i64 0, .int .i64 0] 38)
       have HR7 := LH (HR6.out.below hb (Nat.le_refl _))
       have hC2 := later_step hC1 hb
       obtain ⟨qd, hqd⟩ : ∃ qd, qd = w6.heap.size := ⟨_, rfl⟩
       clear hb
       go_wp2_with fail
       refine hK _ _ (fun _ => hC2) ?_
       clear hK K
       generalize w6.alloc _ = w7 at *
       rw [← hqd] at HM7 ⊢
       clear hqd
       refine wpTr_sq (fun K hK => ?_)
       go_wp2_with fail
       refine (HHx.out _ HR7.out).mono ?_
       rintro e w8 ⟨rfl, hb8⟩
       have HM8 := LH (HM7.out.later hb8)
       clear hb8
       go_wp2_with fail
       refine hK _ _ (fun h => nomatch h) ?_
       clear hK K
       refine wpTr_pu ?_
       repeat (first | go_big_quiet_step (fail) | quiet_step (fail))
       refine wpQuiet_nil ?_
       refine wpTr_last ?_
       go_wp2_with (refine wpList_store_mem aggRo HM8.out 0 rfl rfl rfl rfl rfl rfl rfl rfl ?_; intro w9 h9 ht9; have H9 := LH h9; clear h9 ht9)
       go_meet
       exact ⟨_, rfl, H9⟩
     case rest =>
      obtain ⟨g, rfl, HMo⟩ := hcut
      generalize wc = wy at *
      have HMi2 := LH (HMi.out.later HMo.out.below)
      have HMx : Hid (w1.heap.size < wr.heap.size) := LH (HMi.out.glt 0 rfl)
      have d0 := HMo.out.cell 0 0 rfl rfl
      have d1 := HMo.out.cell 0 1 rfl rfl
      have HCl := LH (fun w => rclass_any p d w)
      have HSz2 := LH (fun w => rosize_any p d w)
      clear HMdi HRi r1 hld cx HBi HM0 HMi HHx
      generalize objSize p d = sz at *
      generalize rofN (sz : Nat) = rc at *
      go_wp2_with fail
      refine (HCl.out _).mono ?_
      rintro e w8 ⟨rfl, hb8⟩
      have HM8 := LH (HMo.out.later hb8)
      have HMi8 := LH (HMi2.out.later hb8)
      clear hb8 d0 d1 HMo HMi2
      by_cases hrc : rc = (k : Int)
      case neg =>
       have hrc' : (rc == (k : Int)) = false := by simpa using hrc
       rw [if_neg hrc, if_neg hrc, Nat.add_zero, Nat.add_zero] at HSt
       have HXn : Hid (o = cntO S k (us.take (i + 1)) ∧ x = wrdO S k (us.take (i + 1))) := LH (by rw [HSt.out.1, HSt.out.2]; exact HX.out)
       clear HX HSt HSl hrc
       go_wp2_with fail
       refine ⟨⟨i + 1, o, x, by omega, vint (by omega), ho9, hx9, HXn, HMi8⟩, ?_⟩
       simp [intOf]; omega
      rw [if_pos hrc, if_pos hrc] at HSt
      subst hrc
      have HXn : Hid (o + 1 = cntO S k (us.take (i + 1)) ∧ x + sz = wrdO S k (us.take (i + 1))) := LH (by rw [HSt.out.1, HSt.out.2, ← HX.out.1, ← HX.out.2]; exact ⟨rfl, rfl⟩)
      have hbnd : o + 1 ≤ 51200 ∧ x + sz ≤ 13107200 := by have h1 := HSl.out; rw [← HXn.out.1, ← HXn.out.2] at h1; exact h1
      obtain ⟨ho8, hx8⟩ := hbnd
      have f2 := HMi8.out.frozen 0 2 rfl
      have d2 := HMi8.out.cell 0 2 rfl rfl
      clear HX HSt HSl
      go_upto_region 17 with fail
      have HMj : Hid (Mem w1 (w8.setCell ⟨w1.heap.size, 2, none⟩ (.int .i64 ((o : Int) + 1))) [⟨w1.heap.size, 86, [.int .i64 (k : Int), .int .i64 (cb : Int), .int .i64 ((o + 1 : Nat) : Int), .int .i64 (fl : Int), .int .i64 (x : Int)], true⟩]) := LH (HMi8.out.set 0 2 (.int .i64 ((o : Int) + 1)) rfl (by show 2 < 5; omega))
      have HMo9 : Hid (RowAt (w8.setCell ⟨w1.heap.size, 2, none⟩ (.int .i64 ((o : Int) + 1))) g 38 [.int .i64 p, .int .i64 d]) := LH ((HM8.out.at 0 rfl).keep ((Touch.setCell (L := [w1.heap.size]) ⟨w1.heap.size, 2, none⟩ (by simp) _).block g (HM8.out.glt 0 rfl) (by
       have h1 := HM8.out.gbase 0 rfl
       have h2 := HMx.out
       simp; omega)))
      clear f2 d2
      generalize World.setCell _ _ _ = wj at *
      have r4 := fun x => later_cell (HMj.out.cell 0 4 rfl rfl) x
      have r5 := fun x => later_cell (HMo9.out.cell (i := 0) rfl) x
      have r6 := fun x => later_cell (HMo9.out.cell (i := 1) rfl) x
      have hw1 : IntKind.i64.wrap ((x : Int) + (sz : Int)) = (x : Int) + (sz : Int) := by rw [IntKind.wrap_i64]; omega
      refine wp_region_seg (C := fun w' => ∃ x : Later (wj), w' = x.val) [.fl [0, 1, 2], .sq [3] true, .sq [4, 5, 6] false] (by kernel_rfl) (by kernel_rfl) (by intro c a d v w h; cases d <;> exact h) ?_
      simp only [segs, picks, List.getElem?_cons_succ, List.getElem?_cons_zero]
      have hC1 := later_drew (wj)
      refine wpSeg_fl hC1 ?_
      repeat (first | go_big_quiet_step (fail) | quiet_step (fail))
      refine wpQuiet_nil ?_
      clear r4 r5 r6
      have HMk := LH (HMj.out.later (later_below hC1))
      generalize wj.drew = wk at *
      refine wpSeg_sq (fun K hK => ?_)
      go_wp2_with fail
      refine (HSz2.out _).mono ?_
      rintro e wl ⟨rfl, hbl⟩
      have hC2 := later_step hC1 hbl
      have HMl := LH (HMk.out.later hbl)
      clear hbl HMk HMj
      go_wp2_with fail
      refine hK _ _ (fun _ => hC2) ?_
      clear hK K
      have f4 := HMl.out.frozen 0 4 rfl
      have e4 := HMl.out.cell 0 4 rfl rfl
      refine wpSeg_last ?_
      go_upto_region 13 with fail
      have HMz : Hid (Mem w1 (wl.setCell ⟨w1.heap.size, 4, none⟩ (.int .i64 ((x : Int) + (sz : Int)))) [⟨w1.heap.size, 86, [.int .i64 (k : Int), .int .i64 (cb : Int), .int .i64 ((o + 1 : Nat) : Int), .int .i64 (fl : Int), .int .i64 ((x + sz : Nat) : Int)], true⟩]) := LH (HMl.out.set 0 4 (.int .i64 ((x : Int) + (sz : Int))) rfl (by show 4 < 5; omega))
      clear f4 e4 HMl hC1 hC2
      generalize World.setCell _ _ _ = wz at *
      go_wp2_with fail
      refine ⟨⟨i + 1, o + 1, x + sz, by omega, vint (by omega), ho8, hx8, HXn, HMz⟩, ?_⟩
      simp [intOf]; omega
   case rest =>
    clear HMc
    have HMc : Hid (Mem w1 wc [⟨w1.heap.size, 86, [.int .i64 (k : Int), .int .i64 (cb : Int), .int .i64 ((cntO S k us : Nat) : Int), .int .i64 (fl : Int), .int .i64 ((wrdO S k us : Nat) : Int)], true⟩]) := hcut
    clear hcut
    generalize wc = wy at *
    generalize cntO S k us = co at *
    generalize wrdO S k us = cw at *
    have HOy := LH (owned_below HO1.out HMc.out.below (Nat.le_refl _))
    have HBy := LH (HB1.out.trans (HMc.out.below.mono HB1.out.size))
    have HMdy := LH (HMd1.out.later HMc.out.below)
    have d1 := HMc.out.cell 0 1 rfl rfl
    by_cases hc0 : 0 < cb
    case neg =>
     rw [if_neg hc0, List.append_nil] at HNk
     have hc0' : (cb : Int) ≤ 0 := by omega
     clear hc0
     go_wp2_with fail
     refine ⟨⟨k + 1, by omega, vint (by omega), LH (by rw [HNk.out]; exact HOy.out), HBy, HMdy⟩, ?_⟩
     simp [intOf]; omega
    rw [if_pos hc0] at HNk
    have hc0' : (0 : Int) < (cb : Int) := by omega
    have hbase : Hid (w.heap.size ≤ wy.heap.size) := LH HBy.out.size
    have hone : Hid (∀ u ∈ (#[.int .i64 (k : Int), .int .i64 (cb : Int), .int .i64 (co : Int), .int .i64 (fl : Int), .int .i64 (cw : Int)] : Array Value).toList, u.oneCell' = true) := LH (by intro u hu; simp at hu; rcases hu with rfl | rfl | rfl | rfl | rfl <;> rfl)
    have hLn9 : Hid (F.length < 1000000000000) := LH (by omega)
    clear hc0
    go_wp2_with (first
     | (refine wpList_load_mem aggRr HMc.out 0 rfl rfl rfl rfl rfl ?_)
     | (at_builtin; refine wpList_append_new (us := #[.int .i64 (k : Int), .int .i64 (cb : Int), .int .i64 (co : Int), .int .i64 (fl : Int), .int .i64 (cw : Int)]) elRr HOy.out rfl hone.out hLn9.out (by decide) hbase.out rfl rfl rfl (by simp [Act.eval]) ?_; intro g6 c6 w6 ho6 hg6 hc6 hm6 hb6 hl6; have HO6 := LH ho6; have HG6 := LH hg6; clear ho6 hg6 hc6 hm6 hb6 hl6))
    refine ⟨⟨k + 1, by omega, vint (by omega), LH ?_, LH (below_grownBy HBy.out HOy.out HG6.out (Nat.le_refl _) (Nat.le_refl _)), LH ?_⟩, ?_⟩
    ·rw [HNk.out, List.length_append, recs_append]
     exact HO6.out
    ·refine HMdy.out.apart (grown_touchO HG6.out) (fun x hx hm => ?_)
     simp only [List.mem_singleton] at hx
     subst hx
     have h1 := HMdy.out.at 0 rfl
     obtain ⟨cs, h2, _⟩ := h1
     exact other_blk32 HOy.out h2 (by decide) (Option.mem_toList.1 hm).symm
    ·simp [intOf]; omega
set_option maxHeartbeats 4000000 in
set_option maxRecDepth 100000 in
theorem rhundredths32_any {w : World} {v : Value} {S : Dev} {mm : Nat} (hm : S.dirty.length = mm) (h : RAt w v mm S.ref) {N : Nat} (hf : S.fit N)
  (a : Option Addr) (n cap : Nat) (L : List Hd) (hn : L.length = n) (hc : Cells w a (hdCs L)) (hn1 : 1 ≤ n) (hl : n ≤ 100)
  (au : Option Addr) (un cu : Nat) (us : List Nat) (hun : us.length = un) (hcu : Cells w au (us.map vi)) (hul : un ≤ 51200)
  (hRs : ∀ r ∈ rowsR S L us 32, r.k < 32 ∧ r.b ≤ 100 ∧ r.o ≤ 51200 ∧ r.w ≤ 13107200) :
  Calls Tryz.prog 36 #[v, .slice a n cap, .slice au un cu] w (Gives (.int .i64 (hunZ (sumB5 (rowsR S L us 32) + (larO S us).2.1) (sumW5 (rowsR S L us 32) + (larO S us).2.2))) w) := by
 have HRw := LH (fun w' (hb : Below w.heap.size w w') => rrows32_any hm (h.below hb (Nat.le_refl _)) hf a n cap L hn (hc.below hb (Nat.le_refl _)) hn1 hl au un cu us hun (hcu.below hb (Nat.le_refl _)) hul)
 have HLa := LH (fun w' (hb : Below w.heap.size w w') => rlarge32_any hm (h.below hb (Nat.le_refl _)) hf au un cu us hun (hcu.below hb (Nat.le_refl _)) hul)
 have hln := rowsR_len S L us 32
 generalize rowsR S L us 32 = R at *
 unfold RowsPost at HRw
 have hla : (larO S us).2.1 ≤ 33 * 51200 ∧ (larO S us).2.2 ≤ 16448 * 51200 := by
  obtain ⟨_, h2, h3⟩ := larO_le S us
  rw [hun] at h2 h3
  exact ⟨Nat.le_trans h2 (Nat.mul_le_mul_left _ hul), Nat.le_trans h3 (Nat.mul_le_mul_left _ hul)⟩
 generalize larO S us = La at *
 obtain ⟨ln, lb, lw⟩ := La
 unfold LarPost at HLa
 dsimp only at HLa hla ⊢
 have HP : Hid (∀ x w', x = hunZ (sumB5 R + lb) (sumW5 R + lw) → Below w.heap.size w w' → Gives (.int .i64 (hunZ (sumB5 R + lb) (sumW5 R + lw))) w (.returned (.int .i64 x)) w') := LH (fun x w' h1 h2 => by subst h1; exact ⟨rfl, h2⟩)
 generalize Gives (.int .i64 (hunZ (sumB5 R + lb) (sumW5 R + lw))) w = Post at *
 have HSm := LH hRs
 obtain ⟨hlb, hlw⟩ := hla
 obtain ⟨D, rfl⟩ := h.agg
 obtain ⟨hD8, hD1⟩ := h.arr
 have HM := LH (Mem.one w D 59)
 have hDl : D.toList.length = zeroD.size := by rw [Array.length_toList, hD8]; rfl
 clear h hf hm hun hcu hc hn hRs
 go_enter Tryz.func36, Tryz.ntmps36
 go_upto_region 1 with fail
 generalize w.alloc _ = w0 at *
 obtain ⟨q, hq⟩ : ∃ q, q = w.heap.size := ⟨_, rfl⟩
 rw [← hq] at HM ⊢
 clear hq
 go_wp2_with (refine wpList_load_mem aggRd HM.out 0 rfl rfl rfl rfl hDl ?_)
 refine (HLa.out _ HM.out.below).mono ?_
 rintro e w1 ⟨rfl, hb1⟩
 have HM1 := LH (HM.out.later hb1)
 clear hb1 HM
 go_wp2_with (refine wpList_load_mem aggRd HM1.out 0 rfl rfl rfl rfl hDl ?_)
 refine (HRw.out _ HM1.out.below).mono ?_
 rintro e w2 ⟨v2, rfl, ho, hb2⟩
 obtain ⟨a1, c1, rfl, _, _⟩ := owned_form ho
 have HC := LH (Cells.owned3 ho)
 have HB2 := LH (HM1.out.later hb2).below
 obtain ⟨l, hl⟩ : ∃ l, l = R.length := ⟨_, rfl⟩
 rw [← hl] at hln ⊢
 have HL := LH hl
 clear ho hb2 hl HRw HLa HM1
 go_wp2_with fail
 go_loopw [8, 9, 11] (fun bv wv jv wr => ∃ b x j : Nat, j ≤ l ∧ b ≤ 3200 ∧ x ≤ 13107200 * 32 ∧ bv = .int .i64 ((b : Int) + (lb : Int)) ∧ wv = .int .i64 ((x : Int) + (lw : Int)) ∧ jv = .int .i64 (j : Int) ∧ Hid (b = sumB5 (R.take j) ∧ x = sumW5 (R.take j)) ∧ Hid (Below w2.heap.size w2 wr)) (fun _ _ jv _ => l - (intOf jv).toNat)
 case atStart => exact ⟨0, 0, 0, Nat.zero_le _, by omega, by omega, vint (by omega), vint (by omega), rfl, LH ⟨rfl, rfl⟩, LH (Below.refl _ _)⟩
 case round =>
  obtain ⟨b, x, j, hj, hb, hx, rfl, rfl, rfl, HS, HB⟩ := hrel
  by_cases hlt : j < l
  case neg =>
   obtain rfl : j = l := by omega
   have hlt' : decide ((j : Int) < (j : Int)) = false := by simp
   have HBx := LH (HB2.out.trans (HB.out.mono HB2.out.size))
   have HZ : Hid (hunZ (sumB5 R + lb) (sumW5 R + lw) = if b + lb = 0 then 0 else (100 * (512 * ((b + lb : Nat) : Int) - ((x + lw : Nat) : Int))).tdiv (512 * ((b + lb : Nat) : Int))) := LH (by
    have h1 := HS.out
    rw [HL.out, List.take_length] at h1
    rw [← h1.1, ← h1.2]; rfl)
   rw [HZ.out] at HP
   clear HS HZ HB
   by_cases hz : b + lb = 0
   ·have hb0 : b = 0 := by omega
    have hl0 : lb = 0 := by omega
    subst hb0 hl0
    rw [if_pos rfl] at HP
    go_wp2_with fail
    exact HP.out _ _ rfl HBx.out
   ·rw [if_neg hz] at HP
    obtain ⟨zz, hzz⟩ : ∃ zz, (100 * (512 * ((b : Int) + (lb : Int)) - ((x : Int) + (lw : Int)))).tdiv (512 * ((b : Int) + (lb : Int))) = zz := ⟨_, rfl⟩
    have hbd := tdiv_small (100 * (512 * ((b : Int) + (lb : Int)) - ((x : Int) + (lw : Int)))) (512 * ((b : Int) + (lb : Int))) (n := 1000000000000) (by omega) (by omega)
    rw [hzz] at hbd
    obtain ⟨hz1, hz2⟩ := hbd
    have hne : ((512 * ((b : Int) + (lb : Int))) == 0) = false := by rw [beq_eq_false_iff_ne]; omega
    have hne2 : (((b : Int) + (lb : Int)) == 0) = false := by rw [beq_eq_false_iff_ne]; omega
    have HE : Hid (zz = (100 * (512 * ((b + lb : Nat) : Int) - ((x + lw : Nat) : Int))).tdiv (512 * ((b + lb : Nat) : Int))) := LH (by
     rw [← hzz]
     push_cast
     rfl)
    go_wp2_with fail
    exact HP.out _ _ HE.out HBx.out
  have hlt' : (j : Int) < (l : Int) := by omega
  obtain ⟨r, hr⟩ : ∃ r, R[j]? = some r := ⟨_, List.getElem?_eq_getElem (by rw [← HL.out]; exact hlt)⟩
  have HTk : Hid (R.take (j + 1) = R.take j ++ [r]) := LH (by
   have h1 := (List.getElem?_eq_some_iff.1 hr).1
   rw [List.take_succ_eq_append_getElem h1, (List.getElem?_eq_some_iff.1 hr).2])
  obtain ⟨s1, s2, s3, s4⟩ := HSm.out r (List.mem_of_getElem? hr)
  obtain ⟨hbb, hxx⟩ := sums_small (l := R.take (j + 1)) (fun z hz => HSm.out z (List.mem_of_mem_take hz))
  have hlen : (R.take (j + 1)).length ≤ 32 := by rw [List.length_take]; omega
  have hb2 : b + r.b ≤ 3200 := by rw [HTk.out, sumB5_snoc, ← HS.out.1] at hbb; rw [HTk.out] at hlen; omega
  have hx2 : x + r.w ≤ 13107200 * 32 := by rw [HTk.out, sumW5_snoc, ← HS.out.2] at hxx; rw [HTk.out] at hlen; omega
  have HNx : Hid (b + r.b = sumB5 (R.take (j + 1)) ∧ x + r.w = sumW5 (R.take (j + 1))) := LH (by rw [HTk.out, sumB5_snoc, sumW5_snoc, ← HS.out.1, ← HS.out.2]; exact ⟨rfl, rfl⟩)
  obtain ⟨ba, off, rfl, hcell⟩ := row_cells (HC.out.below HB.out (Nat.le_refl _)) hr
  obtain ⟨rk, rb, ro, rf, rx⟩ := r
  unfold Rw.cs at hcell
  dsimp only at hcell s1 s2 s3 s4 hb2 hx2 HNx
  have e1 := hcell 1 _ rfl
  have e4 := hcell 4 _ rfl
  have r1 := fun x => later_cell e1 x
  have r4 := fun x => later_cell e4 x
  have hw1 : IntKind.i64.wrap (((b : Int) + (lb : Int)) + (rb : Int)) = ((b : Int) + (lb : Int)) + (rb : Int) := by rw [IntKind.wrap_i64]; omega
  have hw2 : IntKind.i64.wrap (((x : Int) + (lw : Int)) + (rx : Int)) = ((x : Int) + (lw : Int)) + (rx : Int) := by rw [IntKind.wrap_i64]; omega
  clear hr hcell hbb hxx hlen HTk HS
  go_upto_region 6 with fail
  clear e1 e4
  refine wp_region_later (by kernel_rfl) (by kernel_rfl) ?_
  repeat (quiet_step (fail))
  refine wpQuiet_nil ?_
  rintro w5 ⟨x5, hx5⟩
  have HB5 := LH (HB.out.trans ((show Below wr.heap.size wr w5 by rw [hx5]; exact x5.below).mono HB.out.size))
  clear hx5 r1 r4 HB
  go_wp2_with fail
  refine ⟨⟨b + rb, x + rx, j + 1, by omega, hb2, hx2, vint (by push_cast; omega), vint (by push_cast; omega), vint (by omega), HNx, HB5⟩, ?_⟩
  simp [intOf]; omega
end Go.Proofs.YtbimcogdbafjpaaGreat
