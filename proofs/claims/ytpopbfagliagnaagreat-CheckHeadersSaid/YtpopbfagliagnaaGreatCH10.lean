/- Parts of the proof, one behind the other: Cg. -/
import Derived.Test.YtpopbfagliagnaaGreatCH9
set_option linter.unusedVariables false
namespace Go.Proofs.YtpopbfagliagnaaGreat
open Go.RowKit Go.Maps
theorem three_hd (zs : List Int) (h : zs.length = 3) : (Hd.cs ⟨zs.getD 0 0, zs.getD 1 0, zs.getD 2 0⟩) = zs.map (Value.int .i64) := by
 match zs, h with
 | [x, y, z], _ => rfl
theorem u2_bounds {l : List U2} (h : ∀ o ∈ l, ∃ zs : List Int, o = ⟨zs.getD 0 0, zs.getD 1 0⟩ ∧ zs.length = 2 ∧ ∀ x ∈ zs, 0 ≤ x ∧ x ≤ 65535) : ∀ o ∈ l, (0 ≤ o.a ∧ o.a ≤ 65535) ∧ 0 ≤ o.b ∧ o.b ≤ 65535 := fun o ho => by
 obtain ⟨zs, rfl, hl, hz⟩ := h o ho
 match zs, hl with
 | [x, y], _ => exact ⟨hz x (by simp), hz y (by simp)⟩
def hdWords (L : List Hd) (N : Nat) : Nat → List Nat
 | 0 => List.replicate N 0
 | k + 1 => (hdWords L N k).set (257 + k) (encN ((k + 1 : Nat) : Int) (L.getD k default).k (L.getD k default).c (L.getD k default).l)
theorem hdWords_len (L : List Hd) (N : Nat) : ∀ k, (hdWords L N k).length = N
 | 0 => List.length_replicate
 | k + 1 => by unfold hdWords; rw [List.length_set, hdWords_len L N k]
theorem hdWords_lt (L : List Hd) (N : Nat) : ∀ k, ∀ z ∈ hdWords L N k, z < 18446744073709551616
 | 0, z, hz => by unfold hdWords at hz; rw [List.mem_replicate] at hz; omega
 | k + 1, z, hz => by
  unfold hdWords at hz
  rcases List.mem_or_eq_of_mem_set hz with h | h
  ·exact hdWords_lt L N k z h
  ·rw [h]; exact encN_lt _ _ _ _
theorem fresh_is (ws : List Nat) (m : Nat) (hl : ws.length = 8 * m) : freshR (padTo ws (8 * m)) m = (freshDev ws m).ref ∧ padTo ws (8 * m) = ws := by
 have e : padTo ws (8 * m) = ws := by unfold padTo; rw [hl, Nat.sub_self]; simp
 refine ⟨?_, e⟩
 rw [e]
 unfold freshR Dev.ref freshDev
 rw [hl]; rfl
theorem fresh_fit {ws : List Nat} {m : Nat} (h : (freshDev ws m).wf) : (freshDev ws m).fit 0 := by
 have e : nowD (freshDev ws m) = freshDev ws m := by unfold nowD freshDev; simp
 have := nowD_fit h 0
 rw [e] at this
 exact this
def HdRes (S : Dev) (B : Nat) (l : List Hd) (b e : Int) : Prop :=
 (GoodTo S B ∧ soundN (hds (devWord S) B) B 1 = 0 ∧ l = hds (devWord S) B ∧ b = 0 ∧ e = 0) ∨
 (∃ q : Nat, 1 ≤ q ∧ q < B ∧ GoodTo S q ∧ ¬ HdGood S q ∧ l = [] ∧ b = (q : Int) ∧ e = 21) ∨
 (GoodTo S B ∧ soundN (hds (devWord S) B) B 1 ≠ 0 ∧ l = [] ∧ b = ((soundN (hds (devWord S) B) B 1 : Nat) : Int) ∧ e = 40)
theorem HdRes.one {S : Dev} {B : Nat} {l l' : List Hd} {b b' e e' : Int} (h : HdRes S B l b e) (h' : HdRes S B l' b' e') : l = l' ∧ b = b' ∧ e = e' := by
 rcases h with ⟨g, s, rfl, rfl, rfl⟩ | ⟨q, q1, q2, g, ng, rfl, rfl, rfl⟩ | ⟨g, s, rfl, rfl, rfl⟩ <;> rcases h' with ⟨g', s', rfl, rfl, rfl⟩ | ⟨q', q1', q2', g', ng', rfl, rfl, rfl⟩ | ⟨g', s', rfl, rfl, rfl⟩
 ·exact ⟨rfl, rfl, rfl⟩
 ·exact absurd (g q' q1' q2') ng'
 ·exact absurd s s'
 ·exact absurd (g' q q1 q2) ng
 ·obtain rfl : q = q' := by
   rcases Nat.lt_trichotomy q q' with c | c | c
   ·exact absurd (g' q q1 c) ng
   ·exact c
   ·exact absurd (g q' q1' c) ng'
  exact ⟨rfl, rfl, rfl⟩
 ·exact absurd (g' q q1 q2) ng
 ·exact absurd s' s
 ·exact absurd (g q' q1' q2') ng'
 ·exact ⟨rfl, rfl, rfl⟩
def HdAns (S : Dev) (B : Nat) (w : World) (en : Ending) (w' : World) : Prop := Below w.heap.size w w' ∧ ∃ (a : Option Addr) (c : Nat) (l : List Hd) (b e : Int), en = .returned (.tuple #[.slice a l.length c, .int .i64 b, .int .i64 e]) ∧ Cells w' a (hdCs l) ∧ l.length ≤ B ∧ HdRes S B l b e
theorem ch_ans {S : Dev} {B : Nat} {w w' : World} {en : Ending} (h : ChPost S B w en w') : HdAns S B w en w' := by
 obtain ⟨hb, ⟨h1, h2, g, c, rfl, _, _, hr⟩ | ⟨q, q1, q2, h1, h2, rfl⟩ | ⟨h1, z, rfl, hz, rfl⟩⟩ := h
 ·exact ⟨hb, some ⟨g, 0, none⟩, c, hds (devWord S) B, 0, 0, by rw [hds_length], hr.cells, Nat.le_of_eq (hds_length _ _), .inl ⟨h1, h2, rfl, rfl, rfl⟩⟩
 ·exact ⟨hb, none, 0, [], _, _, rfl, Cells.nil _ _, Nat.zero_le _, .inr (.inl ⟨q, q1, q2, h1, h2, rfl, rfl, rfl⟩)⟩
 ·exact ⟨hb, none, 0, [], _, _, rfl, Cells.nil _ _, Nat.zero_le _, .inr (.inr ⟨h1, hz, rfl, rfl, rfl⟩)⟩
theorem rh_ans {S : Dev} {B : Nat} {w w' : World} {en : Ending} (h : RhPost S B w en w') : HdAns S B w en w' := by
 obtain ⟨hb, ⟨h1, h2, g, c, rfl, _, _, hr⟩ | ⟨q, q1, q2, h1, h2, rfl⟩ | ⟨h1, z, rfl, hz, rfl⟩⟩ := h
 ·exact ⟨hb, some ⟨g, 0, none⟩, c, hds (devWord S) B, 0, 0, by rw [hds_length], hr.cells, Nat.le_of_eq (hds_length _ _), .inl ⟨h1, h2, rfl, rfl, rfl⟩⟩
 ·exact ⟨hb, none, 0, [], _, _, rfl, Cells.nil _ _, Nat.zero_le _, .inr (.inl ⟨q, q1, q2, h1, h2, rfl, rfl, rfl⟩)⟩
 ·exact ⟨hb, none, 0, [], _, _, rfl, Cells.nil _ _, Nat.zero_le _, .inr (.inr ⟨h1, hz, rfl, rfl, rfl⟩)⟩
set_option maxHeartbeats 8000000 in
set_option maxRecDepth 100000 in
theorem checkHeaders_any (a : Option Addr) (n cap : Nat) (L : List Hd) (hn : L.length = n) (b : Option Addr) (mm bc : Nat) (s : List U2) (hm : s.length = mm) (hu : ∀ o ∈ s, (0 ≤ o.a ∧ o.a ≤ 65535) ∧ 0 ≤ o.b ∧ o.b ≤ 65535) (w : World) (hcs : Cells w a (hdCs L)) (hcu : Cells w b (recs U2.cs s)) (hn9 : n ≤ maxLen) (hm9 : mm ≤ maxLen) :
  Calls Tryz.prog 7 #[.slice a n cap, .slice b mm bc] w (Gives (.bool true) w) := by
 have HP : Hid (∀ w', Below w.heap.size w w' → Gives (.bool true) w (.returned (.bool true)) w') := LH (fun w' h => ⟨rfl, h⟩)
 generalize Gives (.bool true) w = Post at *
 have HN := LH hn
 have HM := LH hm
 have HU := LH hu
 have HC := LH hcs
 have HCu := LH hcu
 unfold maxLen at hn9 hm9
 clear hn hm hu hcs hcu
 go_enter Tryz.func7, Tryz.ntmps7
 go_wp2_with fail
 refine (awake28_any w).mono ?_
 rintro e w1 ⟨rfl, hb1⟩
 have HB1 := LH hb1
 clear hb1
 have HF1 := LH (HP.out w1 HB1.out)
 by_cases h1 : n < 1
 ·have h1' : (n : Int) < 1 := by omega
  clear h1
  go_wp2_with fail
  exact HF1.out
 by_cases h2 : 8 < n
 ·have h1' : decide ((n : Int) < 1) = false := by simp; omega
  have h2' : (8 : Int) < (n : Int) := by omega
  clear h1 h2
  go_wp2_with fail
  exact HF1.out
 by_cases h3 : 20 < mm
 ·have h1' : decide ((n : Int) < 1) = false := by simp; omega
  have h2' : decide ((8 : Int) < (n : Int)) = false := by simp; omega
  have h3' : (20 : Int) < (mm : Int) := by omega
  clear h1 h2 h3
  go_wp2_with fail
  exact HF1.out
 have h1' : decide ((n : Int) < 1) = false := by simp; omega
 have h2' : decide ((8 : Int) < (n : Int)) = false := by simp; omega
 have h3' : decide ((20 : Int) < (mm : Int)) = false := by simp; omega
 clear HF1
 obtain ⟨B, hBe⟩ : ∃ B, B = n + 1 := ⟨_, rfl⟩
 have hBI : (1 : Int) + (n : Int) = (B : Int) := by omega
 have HBn := LH hBe
 have hB2 : 2 ≤ B := by omega
 have hB9 : B ≤ 9 := by omega
 have hn8 : n ≤ 8 := by omega
 have hmm20 : mm ≤ 20 := by omega
 clear h1 h2 h3 hBe
 have HMg := LH (Mem.one w1 #[.int .i64 (B : Int)] 44)
 go_upto_region 6 with fail
 obtain ⟨q5, hq5⟩ : ∃ q, q = w1.heap.size := ⟨_, rfl⟩
 rw [← hq5] at HMg ⊢
 generalize w1.alloc _ = w2 at *
 clear hq5
 have e5 := HMg.out.cell 0 0 rfl rfl
 go_wp2_with fail
 refine (gwords_any (B : Int) w2 (by omega) (by omega)).mono ?_
 rintro e w3 ⟨rfl, hb3⟩
 have HM3 := LH (HMg.out.later hb3)
 have hNI : (B : Int) * 512 = ((512 * B : Nat) : Int) := by omega
 rw [hNI]
 obtain ⟨N, hN⟩ : ∃ N, N = 512 * B := ⟨_, rfl⟩
 rw [← hN]
 have hN5 : N ≤ 5000 := by omega
 have HNe := LH hN
 clear hb3 hNI hN e5 HMg
 go_upto_region 7 with (at_make; refine wpList_make_len el64 w3.heap.size N rfl rfl rfl (by omega) (by decide) (Nat.le_refl _) rfl rfl rfl rfl ?_; intro w4 hown hgrow; have HO := LH hown; have HG := LH hgrow; clear hown hgrow)
 have hr0 := owned_row HO.out
 obtain ⟨g, hg⟩ : ∃ g, g = w3.heap.size := ⟨_, rfl⟩
 rw [← hg] at hr0 ⊢
 have HR4 : Hid (RowAt w4 g 40 ((hdWords L N 0).map vu64)) := LH (by unfold hdWords; rw [List.map_replicate]; show RowAt w4 g 40 (List.replicate N (.int .u64 0)); simpa using hr0)
 have HM4 := LH ((HM3.out.later (below_grown HG.out (Nat.le_refl _))))
 have HGb : Hid (w1.heap.size ≤ g ∧ q5 < g) := LH ⟨by rw [hg]; exact HM3.out.below.size, by rw [hg]; exact HM3.out.glt 0 rfl⟩
 clear hr0 hg HO HG HM3
 go_wp2_with fail
 have HX4 : Hid (RowX w4 ⟨q5, 44, [.int .i64 (B : Int)], true⟩) := LH (HM4.out.rows _ (by simp))
 have HB4 := LH (HM4.out.below)
 go_loopw [7] (fun iv wr => ∃ k : Nat, k ≤ n ∧ iv = .int .i64 (k : Int) ∧ Hid (RowAt wr g 40 ((hdWords L N k).map vu64)) ∧ Hid (RowX wr ⟨q5, 44, [.int .i64 (B : Int)], true⟩) ∧ Hid (Below w1.heap.size w1 wr)) (fun iv _ => n - (intOf iv).toNat)
 case atStart => exact ⟨0, Nat.zero_le _, rfl, HR4, HX4, HB4⟩
 case round =>
  obtain ⟨k, hk, rfl, HR, HX, HB⟩ := hrel
  by_cases hlt : k < n
  ·have hlt' : (k : Int) < (n : Int) := by omega
   obtain ⟨hk0, hc0, hl0, he⟩ := hdGetD L k
   obtain ⟨b1, o1, rfl, d0, d1, d2⟩ := hd_cells (HC.out.below (HB1.out.trans (HB.out.mono HB1.out.size)) (Nat.le_refl _)) (by rw [HN.out]; exact hlt) he
   have hk1 : (1 : Int) + (k : Int) = ((k + 1 : Nat) : Int) := by omega
   obtain ⟨z, hz⟩ : ∃ z, z = 257 + k := ⟨_, rfl⟩
   have hzI : (257 : Int) + (k : Int) = (z : Int) := by omega
   have hzN : (z : Int) < (N : Int) := by have := HNe.out; have := HBn.out; omega
   have HZl : Hid (z < (hdWords L N k).length) := LH (by rw [hdWords_len]; omega)
   have HNx : Hid (hdWords L N (k + 1) = (hdWords L N k).set z (encN ((k + 1 : Nat) : Int) hk0 hc0 hl0)) := LH (by rw [hdWords, he, hz])
   clear he hz
   go_wp2_with fail
   refine (ref_any ⟨hk0, hc0, hl0⟩ _).mono ?_
   rintro e w5 ⟨rfl, hb5⟩
   unfold Hd.val
   dsimp only
   have HR5 := LH (HR.out.keep (hb5.block g HR.out.lt))
   have HX5 := LH (HX.out.keep (hb5.block q5 HX.out.lt))
   have HB5 := LH (HB.out.trans (hb5.mono HB.out.size))
   clear hb5 d0 d1 d2
   go_wp2_with fail
   refine (rencode_any ((k + 1 : Nat) : Int) hk0 hc0 hl0 (by omega) (by omega) _).mono ?_
   rintro e w6 ⟨rfl, hb6⟩
   have HR6 := LH (HR5.out.keep (hb6.block g HR5.out.lt))
   have HX6 := LH (HX5.out.keep (hb6.block q5 HX5.out.lt))
   have HB6 := LH (HB5.out.trans (hb6.mono HB5.out.size))
   obtain ⟨u, hu⟩ : ∃ u, ((hdWords L N k).map vu64)[z]? = some u := ⟨_, List.getElem?_eq_getElem (by rw [List.length_map]; exact HZl.out)⟩
   have e0 : w6.cell? ⟨g, z, none⟩ = some u := HR6.out.cell hu
   have e1 : w6.frozen? ⟨g, z, none⟩ = false := HR6.out.frozen _
   generalize encN ((k + 1 : Nat) : Int) hk0 hc0 hl0 = x at *
   have HR7 : Hid (RowAt (w6.setCell ⟨g, z, none⟩ (vu64 x)) g 40 ((hdWords L N (k + 1)).map vu64)) := LH (by rw [HNx.out, List.map_set]; exact HR6.out.set z (by rw [List.length_map]; exact HZl.out) (vu64 x))
   have HX7 : Hid (RowX (w6.setCell ⟨g, z, none⟩ (vu64 x)) ⟨q5, 44, [.int .i64 (B : Int)], true⟩) := LH (HX6.out.keep (Below.heap_setCell _ _ _ _ (by show q5 ≠ g; have := HGb.out; omega)))
   have HB7 := LH (HB6.out.setCell (p := ⟨g, z, none⟩) HGb.out.1 (vu64 x))
   clear hb6 hu
   go_wp2_with fail
   exact ⟨⟨k + 1, by omega, vint (by omega), HR7, HX7, HB7⟩, by simp [intOf]; omega⟩
  ·obtain rfl : k = n := by omega
   have hlt' : decide ((k : Int) < (k : Int)) = false := by simp
   obtain ⟨M, hM⟩ : ∃ M, M = 64 * B := ⟨_, rfl⟩
   have hNM : N = 8 * M := by have := HNe.out; omega
   have hM8 : (N + 7) / 8 = M := by omega
   obtain ⟨ws, hws⟩ : ∃ ws, ws = hdWords L N k := ⟨_, rfl⟩
   have hwl : ws.length = N := by rw [hws]; exact hdWords_len _ _ _
   have hwu : ∀ z ∈ ws, z < 18446744073709551616 := by rw [hws]; exact hdWords_lt _ _ _
   rw [← hws] at HR
   obtain ⟨hfr1, hfr2⟩ := fresh_is ws M (by omega)
   have hml := nload_any g 0 N ws hwl wr (fun i v hi => by rw [Nat.zero_add]; exact HR.out.cell hi) (by omega) hwu
   rw [hM8, hfr2] at hml
   have HLd := LH hml
   have HRl := LH (fun w' (hc : Cells w' (some ⟨g, 0, none⟩) (ws.map vu64)) => rload_at (some ⟨g, 0, none⟩) N N ws hwl w' hc (by omega) hwu)
   have HWl := LH hwl
   have HWu := LH hwu
   have HFr := LH hfr1
   have HM64 := LH hM
   have HNM := LH hNM
   have HM8 := LH hM8
   clear hml hfr1 hfr2 hws hlt hwu hwl hM hNM hM8
   go_wp2_with fail
   refine HLd.out.mono ?_
   rintro e w5 ⟨F, rfl, hFn, hd, hb5⟩
   have HD5 := LH hd
   have HFn := LH hFn
   have HR5 := LH (HR.out.keep (hb5.block g HR.out.lt))
   have HX5 := LH (HX.out.keep (hb5.block q5 HX.out.lt))
   have HB5 := LH (HB.out.trans (hb5.mono HB.out.size))
   have HGF : Hid (g ∉ F.list ∧ q5 ∉ F.list) := LH ⟨fun h => by have := hFn _ h; have := HR.out.lt; omega, fun h => by have := hFn _ h; have := HX.out.lt; dsimp only at this; omega⟩
   have HFb : Hid (∀ i ∈ F.list, w1.heap.size ≤ i) := LH (fun i hi => Nat.le_trans HB.out.size (hFn i hi))
   clear hd hb5 hFn HLd
   go_wp2_with fail
   refine (HRl.out w5 HR5.out.cells).mono ?_
   rintro e w6 ⟨v, rfl, hra, hloc, hb6⟩
   rw [HM8.out, HFr.out] at hra
   obtain ⟨D, rfl⟩ := hra.agg
   have HIn : Hid (∀ b, RIn (.agg D) b → w5.heap.size ≤ b ∧ b < w6.heap.size) := LH (fun b h => ⟨by
    obtain ⟨cs, hcs, i, x, n', c', hi, rfl⟩ := h
    exact hloc cs hcs i x n' c' hi, hra.oldp (by have := HM64.out; omega) b h⟩)
   have HA6 := LH hra
   have HArr := LH hra.arr
   have HD6 := LH (HD5.out.below hb6)
   have HR6 := LH (HR5.out.keep (hb6.block g HR5.out.lt))
   have HX6 := LH (HX5.out.keep (hb6.block q5 HX5.out.lt))
   have HB6 := LH (HB5.out.trans (hb6.mono HB5.out.size))
   have HFm : Hid (∀ b, b ∈ F.list → b < w5.heap.size) := LH HD5.out.mem
   have HMr6 : Hid (MemR w1.heap.size w6 [⟨q5, 44, [.int .i64 (B : Int)], true⟩, ⟨g, 40, ws.map vu64, false⟩]) := LH ⟨by
    intro x hx; simp only [List.mem_cons, List.not_mem_nil, or_false] at hx; rcases hx with rfl | rfl
    ·exact HX6.out
    ·exact RowX.of HR6.out, by
    intro x hx; simp only [List.mem_cons, List.not_mem_nil, or_false] at hx; rcases hx with rfl | rfl
    ·show w1.heap.size ≤ q5; exact HM4.out.gbase 0 rfl
    ·exact HGb.out.1, by simp; have := HGb.out; omega, HB6.out.size⟩
   clear hra hloc hb6 HD5 HR5 HX5 HB5 HRl HR6 HX6
   have HM7 := LH (HMr6.out.alloc zeroD 38)
   have HB7 := LH (below_alloc w6 (.cells zeroD 38))
   obtain ⟨q9, hq9⟩ : ∃ q9, q9 = w6.heap.size := ⟨_, rfl⟩
   have HQ9 : Hid (q9 ∉ F.list ∧ ∀ b, RIn (.agg D) b → b ≠ q9 ∧ b ∉ F.list) := LH ⟨fun h => by have := HFm.out _ h; have := HD6.out.mem _ h; omega, fun b h => ⟨by have := (HIn.out b h).2; omega, fun hf => by have := (HIn.out b h).1; have := HFm.out _ hf; omega⟩⟩
   have HA7 := LH (HA6.out.below HB7.out (Nat.le_refl _))
   have HD7 := LH (HD6.out.below HB7.out)
   have HBw : Hid (Below w1.heap.size w1 (w6.alloc (.cells zeroD 38))) := LH (HB6.out.trans (HB7.out.mono HB6.out.size))
   have HQb : Hid (w1.heap.size ≤ q9) := LH (by rw [hq9]; exact HB6.out.size)
   go_upto_region 12 with (refine wpList_store_r aggRd HM7.out 2 rfl rfl rfl rfl rfl HArr.out.1 HArr.out.1.symm HArr.out.2 ?_; intro w8 h8 ht8; rw [← hq9] at h8 ht8; have H8 := LH h8; have HT8 := LH ht8; clear h8 ht8)
   rw [← hq9] at HM7
   have HA8 := LH (HA7.out.touch HT8.out (.inr (fun b h => by simp; exact (HQ9.out.2 b h).1)))
   have HD8 := LH (HD7.out.keep (fun k hk => HT8.out.block k (HD7.out.mem k hk) (by simp; intro e; exact HQ9.out.1 (e ▸ hk))))
   have HB8 := LH (below_touched HBw.out HT8.out (by intro k hk; simp at hk; subst hk; exact HQb.out) (Nat.le_refl _))
   rw [← hq9]
   clear hq9 HA7 HD7 HBw HT8 HM7 HB7
   have HM8b : Hid (MemR w1.heap.size w8 [⟨q5, 44, [.int .i64 (B : Int)], true⟩, ⟨g, 40, ws.map vu64, false⟩, ⟨q9, 38, D.toList, true⟩]) := LH H8.out
   have HFt := LH (fresh_fit HD8.out.wf)
   have HDl : Hid ((freshDev ws M).dirty.length = M) := LH (by simp [freshDev])
   generalize freshDev ws M = S0 at *
   clear H8
   go_wp2_with fail
   go_loopw [10] (fun iv wr => ∃ (j : Nat) (S : Dev) (D : Array Value), j ≤ mm ∧ iv = .int .i64 (j : Int) ∧ Hid (DevAt wr F S) ∧ Hid (RAt wr (.agg D) M S.ref) ∧ Hid (∀ b, RIn (.agg D) b → b ≠ q9 ∧ b ∉ F.list) ∧ Hid (S.fit j) ∧ Hid (S.dirty.length = M) ∧ Hid (MemR w1.heap.size wr [⟨q5, 44, [.int .i64 (B : Int)], true⟩, ⟨g, 40, ws.map vu64, false⟩, ⟨q9, 38, D.toList, true⟩]) ∧ Hid (Below w1.heap.size w1 wr)) (fun iv _ => mm - (intOf iv).toNat)
   case atStart => exact ⟨0, S0, D, Nat.zero_le _, rfl, HD8, HA8, LH HQ9.out.2, HFt, HDl, HM8b, HB8⟩
   case round =>
    clear HD8 HA8 HFt HDl HM8b HB8 HIn HArr HA6 HD6
    obtain ⟨j, S, D, hj, rfl, HD, HA, HI, HFt, HDl, HMr, HBr⟩ := hrel
    by_cases hjl : j < mm
    ·have hjl' : (j : Int) < (mm : Int) := by omega
     have hjs : j < s.length := by rw [HM.out]; exact hjl
     obtain ⟨b1, o1, rfl, _, hcell⟩ := recs_cells U2.len (by decide) (⟨0, 0⟩ : U2) (HCu.out.below (HB1.out.trans (HBr.out.mono HB1.out.size)) (Nat.le_refl _)) hjs
     obtain ⟨⟨u1, u2⟩, ⟨u3, u4⟩⟩ := HU.out (s.getD j ⟨0, 0⟩) (by rw [List.getD_eq_getElem?_getD, List.getElem?_eq_getElem hjs]; exact List.getElem_mem hjs)
     generalize s.getD j ⟨0, 0⟩ = o at *
     obtain ⟨sa, sb⟩ := o
     dsimp only at u1 u2 u3 u4
     obtain ⟨x, rfl⟩ := Int.eq_ofNat_of_zero_le u1
     obtain ⟨y, rfl⟩ := Int.eq_ofNat_of_zero_le u3
     have e0 : wr.cell? ⟨b1, o1 + j * 2, none⟩ = some (.int .u16 (x : Int)) := hcell 0 _ rfl
     have e1 : wr.cell? ⟨b1, o1 + j * 2 + 1, none⟩ = some (.int .u16 (y : Int)) := hcell 1 _ rfl
     have hx12 : (x : Int).tmod 12 = ((x % 12 : Nat) : Int) := by rw [Int.tmod_eq_emod_of_nonneg (by omega)]; rfl
     have hy2 : (y : Int).tmod 2 = ((y % 2 : Nat) : Int) := by rw [Int.tmod_eq_emod_of_nonneg (by omega)]; rfl
     have hx11 : x % 12 ≤ 11 := by omega
     have hy1 : y % 2 ≤ 1 := by omega
     generalize x % 12 = xm at *
     generalize y % 2 = ym at *
     obtain ⟨z, hz⟩ : ∃ z, z = 256 + xm := ⟨_, rfl⟩
     have hzI : (256 : Int) + (xm : Int) = (z : Int) := by omega
     have hzN : z < N := by have := HNe.out; omega
     have hzN' : (z : Int) < (N : Int) := by omega
     have HWz : Hid (ws.getD z 0 < 18446744073709551616) := LH (by
      rw [List.getD_eq_getElem?_getD, List.getElem?_eq_getElem (by rw [HWl.out]; exact hzN)]
      exact HWu.out _ (List.getElem_mem _))
     have eg : wr.cell? ⟨g, z, none⟩ = some (vu64 (ws.getD z 0)) := HMr.out.cell 1 z rfl (by
      rw [List.getElem?_map, List.getElem?_eq_getElem (by rw [HWl.out]; exact hzN), List.getD_eq_getElem?_getD, List.getElem?_eq_getElem (by rw [HWl.out]; exact hzN)]; rfl)
     generalize ws.getD z 0 = W at *
     have hxo := u64_xor_nat W ym HWz.out (by omega)
     have HXl : Hid (W ^^^ ym < 18446744073709551616) := LH (Nat.xor_lt_two_pow (n := 64) HWz.out (by omega))
     generalize W ^^^ ym = X at *
     clear hcell hjs hz hzN u1 u3 hjl
     go_upto_region 16 with fail
     have r1 := fun x => later_cell e1 x
     have rg := fun x => later_cell eg x
     refine wp_region_seg (C := fun w' => ∃ x : Later (wr), w' = x.val) [.fl [0, 1, 2, 3, 4, 5, 6, 7, 8, 9, 10], .sq [11, 12] false] (by kernel_rfl) (by kernel_rfl) (by intro c a d v w h; cases d <;> exact h) ?_
     simp only [segs, picks, List.getElem?_cons_succ, List.getElem?_cons_zero]
     have hC1 := later_drew (wr)
     refine wpSeg_fl hC1 ?_
     repeat (first | go_big_quiet_step (fail) | quiet_step (fail))
     refine wpQuiet_nil ?_
     have HD1 := LH (HD.out.below (later_below hC1))
     have HA1 := LH (HA.out.below (later_below hC1) (Nat.le_refl _))
     have HM1 := LH (HMr.out.later (later_below hC1))
     have HBr1 := LH (HBr.out.trans ((later_below hC1).mono HBr.out.size))
     clear r1 rg e0 e1 eg hC1 HD HA HMr HBr
     generalize wr.drew = wd at *
     refine wpSeg_last ?_
     go_wp2_with fail
     refine (store_any HD1.out (by omega) HFt.out.ok (z : Int) X HXl.out).mono ?_
     rintro e w5 ⟨rfl, hd5, ht5⟩
     have HD5 := LH hd5
     have HA5 := LH (HA1.out.touch ht5 (.inr (fun b h => (HI.out b h).2)))
     have HM5 := LH (HM1.out.apart ht5 (by
      intro x hx; simp only [List.mem_cons, List.not_mem_nil, or_false] at hx; rcases hx with rfl | rfl | rfl
      ·exact HGF.out.2
      ·exact HGF.out.1
      ·exact HQ9.out.1))
     have HB5 := LH (below_touched HBr1.out ht5 HFb.out (Nat.le_refl _))
     have HAr := LH HA5.out.arr
     clear hd5 ht5 HD1 HA1 HM1 HBr1
     go_wp2_with (refine wpList_load_r aggRd HM5.out 2 rfl rfl rfl rfl HAr.out.1 ?_; rw [show D.toList.toArray = D from Array.toArray_toList])
     refine (rstore_m HDl.out HA5.out (N := j) (by omega) HFt.out (z : Int) X HXl.out (by omega)).mono ?_
     rintro e w6 ⟨v, rfl, hra, hri, hb6⟩
     obtain ⟨D', rfl⟩ := hra.agg
     have HI6 : Hid (∀ b, RIn (.agg D') b → b ≠ q9 ∧ b ∉ F.list) := LH (fun b h => by
      rcases hri b h with c | c
      ·exact HI.out b c
      ·exact ⟨fun e => by have := HM5.out.glt 2 rfl; omega, fun e => by have := HD5.out.mem b e; omega⟩)
     have HD6 := LH (HD5.out.below hb6)
     have HA6 := LH hra
     have HM6 := LH (HM5.out.later hb6)
     have HB6 := LH (HB5.out.trans (hb6.mono HB5.out.size))
     have HAr6 := LH hra.arr
     clear hra hri hb6 HD5 HA5 HM5 HB5
     go_wp2_with (refine wpList_store_r aggRd HM6.out 2 rfl rfl rfl rfl rfl HAr6.out.1 (HAr.out.1.trans HAr6.out.1.symm) HAr6.out.2 ?_; intro w8 h8 ht8; have H8 := LH h8; have HT8 := LH ht8; clear h8 ht8)
     have HA8 := LH (HA6.out.touch HT8.out (.inr (fun b h => by simp; exact (HI6.out b h).1)))
     have HD8 := LH (HD6.out.keep (fun k hk => HT8.out.block k (HD6.out.mem k hk) (by simp; intro e; exact HQ9.out.1 (e ▸ hk))))
     have HB8 := LH (below_touched HB6.out HT8.out (by intro k hk; simp at hk; subst hk; exact HQb.out) (Nat.le_refl _))
     have HM8b : Hid (MemR w1.heap.size w8 [⟨q5, 44, [.int .i64 (B : Int)], true⟩, ⟨g, 40, ws.map vu64, false⟩, ⟨q9, 38, D'.toList, true⟩]) := LH H8.out
     refine ⟨⟨j + 1, S.store (z : Int) X, D', by omega, vint (by omega), HD8, HA8, HI6, LH (Dev.store_fit HFt.out _ _ HXl.out), LH ((Dev.store_dl _ _ _).trans HDl.out), HM8b, HB8⟩, ?_⟩
     simp [intOf]; omega
    ·obtain rfl : j = mm := by omega
     have hlt2 : decide ((j : Int) < (j : Int)) = false := by simp
     have e5 := HMr.out.cell 0 0 rfl rfl
     have HAr := LH HA.out.arr
     go_wp2_with fail
     refine (cheaders_any HD.out B (by omega) (by omega)).mono ?_
     intro e w5 hp
     obtain ⟨hb5, la, lc, l, bv, ev, rfl, hcl, hlB, hres⟩ := ch_ans hp
     have HA5 := LH (HA.out.below hb5 (Nat.le_refl _))
     have HM5 := LH (HMr.out.later hb5)
     have HB5 := LH (HBr.out.trans (hb5.mono HBr.out.size))
     have HCl := LH hcl
     have HRs := LH hres
     have HLb := LH hlB
     clear hp hb5 hcl hres hlB e5 HA HMr HBr HD
     have e5 := HM5.out.cell 0 0 rfl rfl
     go_wp2_with (refine wpList_load_r aggRd HM5.out 2 rfl rfl rfl rfl HAr.out.1 ?_; rw [show D.toList.toArray = D from Array.toArray_toList])
     refine (rheaders28_any HA5.out (by have := HM64.out; omega) B (by omega) (by omega)).mono ?_
     intro e w6 hp
     obtain ⟨hb6, ra, rc, r, bw, ew, rfl, hcr, hrB, hres⟩ := rh_ans hp
     obtain ⟨rfl, rfl, rfl⟩ := HRs.out.one hres
     have HC6 := LH (HCl.out.below hb6 (Nat.le_refl _))
     have HCr := LH hcr
     have HB6 := LH (HB5.out.trans (hb6.mono HB5.out.size))
     obtain ⟨ll, hll⟩ : ∃ ll, ll = l.length := ⟨_, rfl⟩
     rw [← hll] at HLb ⊢
     have HLl := LH hll.symm
     clear hp hb6 hcr hres hrB e5 HA5 HM5 HB5 HCl HRs hll
     go_wp2_with fail
     refine (refs_any la ll lc l HLl.out w6 HC6.out (by have := HLb.out; omega)).mono ?_
     rintro e w10 ⟨v, rfl, ho, hb10⟩
     obtain ⟨a10, c10, rfl, hcs10⟩ := cells_of_owned ho
     have HC10 := LH hcs10
     have HCr10 := LH (HCr.out.below hb10 (Nat.le_refl _))
     have HB10 := LH (HB6.out.trans (hb10.mono HB6.out.size))
     clear hcs10 ho hb10 HB6 HC6 HCr
     go_wp2_with fail
     refine (rsame_any a10 ra ll ll c10 rc l l HLl.out HLl.out w10 HC10.out HCr10.out (by have := HLb.out; omega) (by have := HLb.out; omega)).mono ?_
     rintro e w11 ⟨rfl, q, rfl⟩
     have hse : sameHd l l = true := by simp [sameHd]
     rw [hse]
     have HFin := LH (HP.out _ (HB1.out.trans ((below_drewN HB10.out q).mono HB1.out.size)))
     clear hse
     go_wp2_with fail
     exact HFin.out
end Go.Proofs.YtpopbfagliagnaaGreat
