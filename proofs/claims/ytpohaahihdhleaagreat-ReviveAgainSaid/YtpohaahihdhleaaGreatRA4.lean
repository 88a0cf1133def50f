/- Parts of the proof, one behind the other: Ch, Iv, Rs, Rt, Ru, Rv, Lb, Li, Le, Lf, Lg, Lj. -/
import Derived.Test.YtpohaahihdhleaaGreatRA3
import Derived.Deep.Cut
import Derived.ChangeKeysEq
import Derived.Laws.StructEq
import Derived.Deep.QuietTactic
import Derived.BigQuiet
set_option linter.unusedVariables false
namespace Go.Proofs.YtpohaahihdhleaaGreat
open Go.RowKit
theorem elInt : Elem Tryz.prog 47 3 (.int .i64 0) 1 8 := Elem.mk' Tryz.underlying47 (by kernel_rfl) rfl (by decide)
abbrev vi (n : Nat) : Value := .int .i64 (n : Int)
theorem owned_at {w : World} {base e n : Nat} {v : Value} {vs : List Value} (h : w.ownsRow base e 1 v n vs) : ∃ a c, v = .slice a n c ∧ vs.length = n ∧ ∀ i x, vs[i]? = some x → ∃ g, a = some ⟨g, 0, none⟩ ∧ base ≤ g ∧ w.cell? ⟨g, i, none⟩ = some x := by
 have hl : vs.length = n := by have := h.1; simpa using this
 rcases h.2 with ⟨h0, h1⟩ | ⟨g, cap, cur, rfl, hb, hg, h1, h2, h3, h4⟩
 ·subst h0 h1
  simp at hl
  subst hl
  exact ⟨none, 0, rfl, rfl, by simp⟩
 ·exact ⟨_, _, rfl, hl, fun i x hi => ⟨g, rfl, hb, (owned_row h).cell hi⟩⟩
def dirtyL (ds : List Bool) : Nat → List Nat
 | 0 => []
 | k + 1 => dirtyL ds k ++ (if ds.getD k false then [k] else [])
theorem dirtyL_len (ds : List Bool) (k : Nat) : (dirtyL ds k).length ≤ k := by
 induction k with
 | zero => simp [dirtyL]
 | succ k ih => unfold dirtyL; split <;> simp <;> omega
theorem dirtyL_mem (ds : List Bool) (k l : Nat) : l ∈ dirtyL ds k ↔ l < k ∧ ds.getD l false = true := by
 induction k with
 | zero => simp [dirtyL]
 | succ k ih =>
  unfold dirtyL
  rw [List.mem_append, ih]
  constructor
  ·rintro (⟨h1, h2⟩ | h)
   ·exact ⟨by omega, h2⟩
   ·split at h
    ·rename_i hd
     simp at h; subst h; exact ⟨by omega, hd⟩
    ·simp at h
  ·rintro ⟨h1, h2⟩
   by_cases e : l = k
   ·subst e; right; rw [if_pos h2]; simp
   ·left; exact ⟨by omega, h2⟩
set_option maxHeartbeats 1000000 in
theorem dirty_any {w : World} {F : Foot} {S : Dev} (h : DevAt w F S) :
  Calls Tryz.prog 56 #[vdev F] w fun e w' => ∃ v, e = .returned v ∧ w'.ownsRow w.heap.size 3 1 v (dirtyL S.dirty S.dirty.length).length ((dirtyL S.dirty S.dirty.length).map vi) ∧ Below w.heap.size w w' := by
 have c1 : w.cell? ⟨F.d, 3, none⟩ = some (.slice (some ⟨F.t, 0, none⟩) S.dirty.length F.ct) := cell_of_row _ _ 3 _ _ _ h.head
 have hsm := h.small
 have hl := h.lenD
 have hn : S.dirty.length ≤ 1000000 := by omega
 have HR := LH h.dirty
 clear hsm hl h
 obtain ⟨n, hnn⟩ : ∃ n, n = S.dirty.length := ⟨_, rfl⟩
 rw [← hnn] at hn c1 ⊢
 have HN := LH hnn
 clear hnn
 go_enter Tryz.func56, Tryz.ntmps56
 go_wp2_with fail
 go_loopw [3, 11] (fun v i wr => ∃ k : Nat, k ≤ n ∧ i = .int .i64 k ∧ wr.ownsRow w.heap.size 3 1 v (dirtyL S.dirty k).length ((dirtyL S.dirty k).map vi) ∧ Below w.heap.size w wr) (fun _ i _ => n - (intOf i).toNat)
 case atStart => exact ⟨0, Nat.zero_le _, rfl, ⟨rfl, .inl ⟨rfl, rfl⟩⟩, Below.refl _ _⟩
 case round =>
  obtain ⟨k, hk, rfl, ho, hb⟩ := hrel
  obtain ⟨a1, c1', rfl, hc1, hm1⟩ := owned_form ho
  have hdl := dirtyL_len S.dirty k
  have HO := LH ho
  have HB := LH hb
  clear ho hb
  by_cases hlt : k < n
  ·have hlt' : (k : Int) < (n : Int) := by omega
   have HS : Hid (dirtyL S.dirty (k + 1) = dirtyL S.dirty k ++ (if S.dirty.getD k false then [k] else [])) := LH rfl
   have d0 : wr.cell? ⟨F.t, k, none⟩ = some (.bool (S.dirty.getD k false)) := below_cells HB.out (HR.out.cell (by have := HN.out; simp [← this, hlt])) (Nat.le_refl _)
   cases hq : S.dirty.getD k false
   ·rw [hq] at d0 HS
    clear hq
    go_wp2_with fail
    refine ⟨⟨k + 1, by omega, vint (by omega), ?_, HB.out⟩, by simp [intOf]; omega⟩
    rw [HS.out]
    simpa using HO.out
   ·rw [hq] at d0 HS
    have hone : Hid (∀ u ∈ (#[Value.int .i64 (k : Int)] : Array Value).toList, u.oneCell' = true) := LH (by intro u hu; simp at hu; subst hu; rfl)
    have hbase : Hid (w.heap.size ≤ wr.heap.size) := LH HB.out.size
    have hk9 : Hid ((dirtyL S.dirty k).length < 1000000000000) := LH (by omega)
    clear hq hdl hc1 hm1
    generalize hz : (dirtyL S.dirty k).length = z at *
    have HZ := LH hz
    clear hz
    go_wp2_with (at_builtin; refine wpList_append_new (us := #[.int .i64 (k : Int)]) elInt HO.out rfl hone.out hk9.out (by decide) hbase.out rfl rfl rfl (by simp [Act.eval]) ?_; intro g6 c6 w6 ho6 hg6 hc6 hm6 hb6 hl6; have HO6 := LH ho6; have HG6 := LH hg6; clear ho6 hg6)
    refine ⟨⟨k + 1, by omega, vint (by omega), ?_, below_grownBy HB.out HO.out HG6.out (Nat.le_refl _) (Nat.le_refl _)⟩, by simp [intOf]; omega⟩
    rw [HS.out]
    simpa [HZ.out] using HO6.out
  ·obtain rfl : k = n := by omega
   have hlt' : decide ((k : Int) < (k : Int)) = false := by simp
   go_wp2_with fail
   go_ret
   exact ⟨_, rfl, HO.out, HB.out⟩
def crashOne (S : Dev) (out : List Nat) (l c : Nat) : List Nat :=
 if c % 3 = 1 then (if S.pending.getD l false then splice out (8 * l) (seg S.flushed l) else out)
 else if c % 3 = 2 then splice out (8 * l) (seg S.cache l) else out
def crashTo (S : Dev) (ls cs : List Nat) : Nat → List Nat
 | 0 => S.lasting
 | i + 1 => crashOne S (crashTo S ls cs i) (ls.getD i 0) (cs.getD i 0)
def Dev.crashW (S : Dev) (cs : List Nat) : List Nat := crashTo S (dirtyL S.dirty S.dirty.length) cs (min (dirtyL S.dirty S.dirty.length).length cs.length)
def Dev.crash (S : Dev) (cs : List Nat) : Dev := freshDev (S.crashW cs) S.dirty.length
structure Dev.wf (S : Dev) : Prop where
 lenL : S.lasting.length = S.cache.length
 lenF : S.flushed.length = S.cache.length
 lenP : S.pending.length = S.dirty.length
 lenD : S.cache.length = 8 * S.dirty.length
 small : S.cache.length ≤ 1000000
 u64L : ∀ z ∈ S.lasting, z < 18446744073709551616
 u64C : ∀ z ∈ S.cache, z < 18446744073709551616
 u64F : ∀ z ∈ S.flushed, z < 18446744073709551616
theorem DevAt.wf {w : World} {F : Foot} {S : Dev} (h : DevAt w F S) : S.wf := ⟨h.lenL, h.lenF, h.lenP, h.lenD, h.small, h.u64L, h.u64C, h.u64F⟩
theorem crashTo_wf {S : Dev} (h : S.wf) (ls cs : List Nat) (hls : ∀ l ∈ ls, l < S.dirty.length) : ∀ i, i ≤ ls.length → (crashTo S ls cs i).length = S.cache.length ∧ ∀ z ∈ crashTo S ls cs i, z < 18446744073709551616
 | 0, _ => ⟨h.lenL, h.u64L⟩
 | i + 1, hi => by
  obtain ⟨h1, h2⟩ := crashTo_wf h ls cs hls i (by omega)
  have hl : ls.getD i 0 < S.dirty.length := hls _ (by simp [show i < ls.length by omega])
  have hD := h.lenD
  unfold crashTo crashOne
  generalize ls.getD i 0 = l at *
  split
  ·split
   ·have hs := seg_length S.flushed l (by rw [h.lenF]; omega)
    exact ⟨by rw [length_splice _ _ _ (by rw [hs]; omega)]; exact h1, splice_lt _ h2 (seg_lt _ h.u64F)⟩
   ·exact ⟨h1, h2⟩
  ·split
   ·have hs := seg_length S.cache l (by omega)
    exact ⟨by rw [length_splice _ _ _ (by rw [hs]; omega)]; exact h1, splice_lt _ h2 (seg_lt _ h.u64C)⟩
   ·exact ⟨h1, h2⟩
set_option maxHeartbeats 2000000 in
set_option maxRecDepth 100000 in
theorem crash_any {w : World} {F : Foot} {S : Dev} (h : DevAt w F S) (a : Option Addr) (m cap : Nat) (cs : List Nat) (hm : cs.length = m) (hc : Cells w a (cs.map vu8)) (hu : ∀ z ∈ cs, z < 256) (hmx : m ≤ 1000000000) :
  Calls Tryz.prog 23 #[vdev F, .slice a m cap] w fun e w' => ∃ G : Foot, e = .returned (vdev G) ∧ (∀ k ∈ G.list, w.heap.size ≤ k) ∧ DevAt w' G (S.crash cs) ∧ Below w.heap.size w w' := by
 have c0 : w.cell? ⟨F.d, 0, none⟩ = some (.slice (some ⟨F.l, 0, none⟩) S.cache.length F.cl) := cell_of_row _ _ 0 _ _ _ h.head
 have HWF := LH h.wf
 have HD := LH h
 have HMEM := LH h.mem
 have HM := LH hm
 have HC := LH hc
 have HU := LH hu
 clear hm hc hu
 have hls : ∀ l ∈ dirtyL S.dirty S.dirty.length, l < S.dirty.length := fun l hl => ((dirtyL_mem _ _ _).1 hl).1
 have hlsl := dirtyL_len S.dirty S.dirty.length
 have HCR : Hid (S.crash cs = freshDev (crashTo S (dirtyL S.dirty S.dirty.length) cs (min (dirtyL S.dirty S.dirty.length).length cs.length)) S.dirty.length) := LH rfl
 have hsml : S.cache.length ≤ 1000000 := h.small
 have HLD : Hid (S.cache.length = 8 * S.dirty.length) := LH h.lenD
 clear h
 have HLS := LH hls
 clear hls
 go_enter Tryz.func23, Tryz.ntmps23
 go_wp2_with fail
 refine (clone_any F.l 0 F.cl S.lasting HWF.out.lenL w (fun i v hi => by rw [Nat.zero_add]; exact HD.out.lasting.cell hi) (by rw [HWF.out.lenL]; exact hsml)).mono ?_
 rintro e w1 ⟨v1, rfl, ho1, hb1, hn1⟩
 obtain ⟨g, cg, rfl, hg1, hg2, hg3, hg4, hg5, hr1⟩ := NewRow.of ho1 hn1 (Nat.le_refl _)
 have hd1 := HD.out.below hb1
 have HB1 := LH hb1
 have HR1 := LH hr1
 have HD1 := LH hd1
 clear hb1 hr1 hd1
 clear ho1 hn1 HD c0
 go_wp2_with fail
 refine (dirty_any HD1.out).mono ?_
 rintro e w2 ⟨v2, rfl, ho2, hb2⟩
 generalize dirtyL S.dirty S.dirty.length = ls at *
 obtain ⟨a2, c2, rfl, hl2, hat2⟩ := owned_at ho2
 have HAT : Hid (∀ i, i < ls.length → ∃ b, a2 = some ⟨b, 0, none⟩ ∧ b ≠ g ∧ w2.cell? ⟨b, i, none⟩ = some (vi (ls.getD i 0))) := LH (fun i hi => by
  obtain ⟨b, h1, h2, h3⟩ := hat2 i (vi (ls.getD i 0)) (by simp [hi])
  exact ⟨b, h1, by omega, h3⟩)
 have HR2 := LH (HR1.out.keep (hb2.block g hg4))
 have HD2 := LH (HD1.out.below hb2)
 have HB2 := LH (HB1.out.trans (hb2.mono HB1.out.size))
 have HGF : Hid (∀ k ∈ F.list, k ≠ g) := LH (fun k hk e => by have := HMEM.out k hk; omega)
 clear hat2 ho2 hb2 HR1 HD1 HB1 hl2
 go_wp2_with fail
 go_loopw [16] (fun i wr => ∃ k : Nat, k ≤ ls.length ∧ k ≤ m ∧ i = .int .i64 k ∧ RowAt wr g 40 ((crashTo S ls cs k).map vu64) ∧ Touch [g] w2 wr) (fun i _ => ls.length - (intOf i).toNat)
 case atStart => exact ⟨0, Nat.zero_le _, Nat.zero_le _, rfl, HR2.out, Touch.refl _ _⟩
 case round =>
  obtain ⟨k, hk, hkm, rfl, hrr, htr⟩ := hrel
  have hol := (crashTo_wf HWF.out ls cs HLS.out k hk)
  have hdr := HD2.out.keep (fun b hb => htr.block b (HD2.out.mem b hb) (by simpa using HGF.out b hb))
  have HDr := LH hdr
  have HRr := LH hrr
  have HTr := LH htr
  have HOL := LH hol.1
  have HOU := LH hol.2
  clear hrr htr hol hdr
  have fin : Hid (k = min ls.length m → Calls Tryz.prog 43 #[.slice (some ⟨g, 0, none⟩) S.cache.length cg] wr fun e w' => ∃ G : Foot, e = .returned (vdev G) ∧ (∀ k ∈ G.list, w.heap.size ≤ k) ∧ DevAt w' G (S.crash cs) ∧ Below w.heap.size w w') := LH (fun hkk => by
   refine (load_any (crashTo S ls cs k) HOL.out HLD.out HRr.out hg1 hsml HOU.out).mono ?_
   rintro e w5 ⟨G, rfl, hG, hd5, hb5⟩
   have hbr : Below w.heap.size w wr := below_touch HB2.out HTr.out (fun q hq => by simp at hq; omega) (Nat.le_refl _)
   refine ⟨G, rfl, fun q hq => ?_, ?_, hbr.trans (hb5.mono hbr.size)⟩
   ·rcases hG q hq with rfl | hq
    ·exact hg3
    ·exact Nat.le_trans hbr.size hq
   ·rw [HCR.out, HM.out, ← hkk]
    exact hd5)
  by_cases hlt : k < ls.length
  ·have hlt' : (k : Int) < (ls.length : Int) := by omega
   obtain ⟨b2, rfl, hbg, hcl⟩ := HAT.out k hlt
   have d0 : wr.cell? ⟨b2, k, none⟩ = some (vi (ls.getD k 0)) := cell_of_touch HTr.out (by simpa using hbg) hcl
   have hl1 : ls.getD k 0 < S.dirty.length := HLS.out _ (by simp [hlt])
   have HST0 : Hid (crashTo S ls cs (k + 1) = crashOne S (crashTo S ls cs k) (ls.getD k 0) (cs.getD k 0)) := LH rfl
   generalize ls.getD k 0 = l at *
   clear hcl
   by_cases hkm2 : k < m
   ·have hkm' : ¬ (m : Int) ≤ (k : Int) := by omega
    obtain ⟨b3, o3, rfl, d1⟩ : ∃ b o, a = some ⟨b, o, none⟩ ∧ wr.cell? ⟨b, o + k, none⟩ = some (vu8 (cs.getD k 0)) := by
     have hwr : Cells wr a (cs.map vu8) := by
      have h1 := HC.out.below HB2.out (Nat.le_refl _)
      rcases HC.out with h0 | ⟨b, o, rfl, h0⟩
      ·exact .inl h0
      ·refine .inr ⟨b, o, rfl, fun i v hi => ?_⟩
       have hlt0 := World.block_lt_of_cell? _ _ (h0 i v hi)
       exact cell_of_touch HTr.out (by simp at hlt0 ⊢; omega) (below_cells HB2.out (h0 i v hi) (Nat.le_refl _))
     obtain ⟨b, o, h1, h2⟩ := hwr.atMap 0 (i := k) (by rw [HM.out]; exact hkm2)
     exact ⟨b, o, h1, h2.2 k (by rw [HM.out]; exact hkm2)⟩
    have hcu : cs.getD k 0 < 256 := HU.out _ (by simp [HM.out, hkm2])
    have e1 : wr.cell? ⟨F.d, 1, none⟩ = some (.slice (some ⟨F.c, 0, none⟩) S.cache.length F.cc) := cell_of_row _ _ 1 _ _ _ HDr.out.head
    have e2 : wr.cell? ⟨F.d, 2, none⟩ = some (.slice (some ⟨F.f, 0, none⟩) S.cache.length F.cf) := cell_of_row _ _ 2 _ _ _ HDr.out.head
    have e4 : wr.cell? ⟨F.d, 4, none⟩ = some (.slice (some ⟨F.p, 0, none⟩) S.dirty.length F.cp) := cell_of_row _ _ 4 _ _ _ HDr.out.head
    have p4 : wr.cell? ⟨F.p, l, none⟩ = some (.bool (S.pending.getD l false)) := HDr.out.pending.cell (by have := HWF.out.lenP; simp [show l < S.pending.length by omega])
    have h8 : 8 * l + 8 ≤ S.cache.length := by have := HLD.out; omega
    generalize cs.getD k 0 = c at *
    have HCC : Hid (c % 3 = 1 ∨ c % 3 = 2 ∨ c % 3 = 0) := LH (by omega)
    go_upto_region 7 with fail
    rcases HCC.out with hc | hc | hc
    ·have hq : (((c : Int) % 3 == 1) = true) := by simp; omega
     cases hpd : S.pending.getD l false
     ·rw [hpd] at p4
      have HST : Hid (crashTo S ls cs (k + 1) = crashTo S ls cs k) := LH (by rw [HST0.out, crashOne, if_pos hc, hpd]; rfl)
      clear hc hpd
      go_wp2_with fail
      refine ⟨⟨k + 1, by omega, by omega, vint (by omega), ?_, HTr.out⟩, by simp [intOf]; omega⟩
      rw [HST.out]
      exact HRr.out
     ·rw [hpd] at p4
      have HST : Hid (crashTo S ls cs (k + 1) = splice (crashTo S ls cs k) (8 * l) (seg S.flushed l)) := LH (by rw [HST0.out, crashOne, if_pos hc, hpd]; rfl)
      clear hc hpd
      go_wp2_with fail
      have q1 := fun x => later_cell (w := wr) e2 x
      have hcap : S.cache.length ≤ F.cf := HDr.out.capF
      refine wp_region_seg (C := fun w' => ∃ x : Later (wr), w' = x.val) [.fl [0, 1, 2, 4, 5, 6, 7, 8, 9], .sq [3] true, .sq [10, 11] false] (by kernel_rfl) (by kernel_rfl) (by intro c a d v w h; cases d <;> exact h) ?_
      simp only [segs, picks, List.getElem?_cons_succ, List.getElem?_cons_zero]
      have hC1 := later_drew (wr)
      refine wpSeg_fl hC1 ?_
      repeat (first | go_big_quiet_step (fail) | quiet_step (fail))
      refine wpQuiet_nil ?_
      refine wpSeg_sq (fun K hK => ?_)
      go_wp2_with fail
      refine (part_any _ g S.cache.length cg l h8 hg1 hsml _).mono ?_
      rintro e w3 ⟨rfl, rfl⟩
      go_wp2_with fail
      refine hK _ _ (fun _ => hC1) ?_
      clear hK K
      refine wpSeg_last ?_
      go_wp2_with fail
      refine (part_any _ F.f S.cache.length F.cf l h8 hcap hsml _).mono ?_
      rintro e w3 ⟨rfl, rfl⟩
      have HRd : Hid (RowAt wr.drew g 40 ((crashTo S ls cs k).map vu64)) := LH (HRr.out.keep rfl)
      have HDd := LH (HDr.out.below (later_below hC1))
      have hsl : Hid ((seg S.flushed l).length = 8) := LH (seg_length S.flushed l (by have := HWF.out.lenF; omega))
      have HSg := LH (seg_cell HDd.out.flushed l)
      have hfit : Hid (8 * l + ((seg S.flushed l).map vu64).length ≤ ((crashTo S ls cs k).map vu64).length) := LH (by simp [hsl.out, HOL.out]; omega)
      have hmin : Hid (((seg S.flushed l).map vu64).length = Nat.min 8 8) := LH (by simp [hsl.out])
      go_wp2_with (refine wpList_copy_row (off := 8 * l) (dLen := 8) (sLen := 8) rfl rfl Tryz.underlying31 (by kernel_rfl) rfl rfl HRd.out ((seg S.flushed l).map vu64) hmin.out HSg.out hfit.out (one_cells _) ?_; intro w4 hr4 ht4; have HR4 := LH hr4; have HT4 := LH ht4; clear hr4 ht4)
      refine ⟨⟨k + 1, by omega, by omega, vint (by omega), ?_, HTr.out.trans ((Touch.ofBelow (later_below hC1)).trans HT4.out)⟩, by simp [intOf]; omega⟩
      rw [HST.out, ← splice_map]
      exact HR4.out
    ·have hq : (((c : Int) % 3 == 1) = false) := by simp; omega
     have hq2 : (((c : Int) % 3 == 2) = true) := by simp; omega
     have HST : Hid (crashTo S ls cs (k + 1) = splice (crashTo S ls cs k) (8 * l) (seg S.cache l)) := LH (by rw [HST0.out, crashOne, if_neg (by omega), if_pos hc])
     clear hc
     go_wp2_with fail
     have q1 := fun x => later_cell (w := wr) e1 x
     have hcap : S.cache.length ≤ F.cc := HDr.out.capC
     refine wp_region_seg (C := fun w' => ∃ x : Later (wr), w' = x.val) [.fl [0, 1, 2, 4, 5, 6, 7, 8, 9], .sq [3] true, .sq [10, 11] false] (by kernel_rfl) (by kernel_rfl) (by intro c a d v w h; cases d <;> exact h) ?_
     simp only [segs, picks, List.getElem?_cons_succ, List.getElem?_cons_zero]
     have hC1 := later_drew (wr)
     refine wpSeg_fl hC1 ?_
     repeat (first | go_big_quiet_step (fail) | quiet_step (fail))
     refine wpQuiet_nil ?_
     refine wpSeg_sq (fun K hK => ?_)
     go_wp2_with fail
     refine (part_any _ g S.cache.length cg l h8 hg1 hsml _).mono ?_
     rintro e w3 ⟨rfl, rfl⟩
     go_wp2_with fail
     refine hK _ _ (fun _ => hC1) ?_
     clear hK K
     refine wpSeg_last ?_
     go_wp2_with fail
     refine (part_any _ F.c S.cache.length F.cc l h8 hcap hsml _).mono ?_
     rintro e w3 ⟨rfl, rfl⟩
     have HRd : Hid (RowAt wr.drew g 40 ((crashTo S ls cs k).map vu64)) := LH (HRr.out.keep rfl)
     have HDd := LH (HDr.out.below (later_below hC1))
     have hsl : Hid ((seg S.cache l).length = 8) := LH (seg_length S.cache l (by have := HWF.out.lenF; omega))
     have HSg := LH (seg_cell HDd.out.cache l)
     have hfit : Hid (8 * l + ((seg S.cache l).map vu64).length ≤ ((crashTo S ls cs k).map vu64).length) := LH (by simp [hsl.out, HOL.out]; omega)
     have hmin : Hid (((seg S.cache l).map vu64).length = Nat.min 8 8) := LH (by simp [hsl.out])
     go_wp2_with (refine wpList_copy_row (off := 8 * l) (dLen := 8) (sLen := 8) rfl rfl Tryz.underlying31 (by kernel_rfl) rfl rfl HRd.out ((seg S.cache l).map vu64) hmin.out HSg.out hfit.out (one_cells _) ?_; intro w4 hr4 ht4; have HR4 := LH hr4; have HT4 := LH ht4; clear hr4 ht4)
     refine ⟨⟨k + 1, by omega, by omega, vint (by omega), ?_, HTr.out.trans ((Touch.ofBelow (later_below hC1)).trans HT4.out)⟩, by simp [intOf]; omega⟩
     rw [HST.out, ← splice_map]
     exact HR4.out
    ·have hq : (((c : Int) % 3 == 1) = false) := by simp; omega
     have hq2 : (((c : Int) % 3 == 2) = false) := by simp; omega
     have HST : Hid (crashTo S ls cs (k + 1) = crashTo S ls cs k) := LH (by rw [HST0.out, crashOne, if_neg (by omega), if_neg (by omega)])
     clear hc
     go_wp2_with fail
     refine ⟨⟨k + 1, by omega, by omega, vint (by omega), ?_, HTr.out⟩, by simp [intOf]; omega⟩
     rw [HST.out]
     exact HRr.out
   ·obtain rfl : k = m := by omega
    have hkm' : (k : Int) ≤ (k : Int) := Int.le_refl _
    have HF := LH (fin.out (by omega))
    clear fin
    go_wp2_with fail
    refine HF.out.mono ?_
    rintro e w5 hz
    obtain ⟨G, rfl, hz2⟩ := hz
    have HZ2 := LH hz2
    clear hz2
    go_wp2_with fail
    go_ret
    exact ⟨G, rfl, HZ2.out⟩
  ·obtain rfl : k = ls.length := by omega
   have hlt' : decide ((ls.length : Int) < (ls.length : Int)) = false := by simp
   have HF := LH (fin.out (by omega))
   clear fin
   go_wp2_with fail
   refine HF.out.mono ?_
   rintro e w5 hz
   obtain ⟨G, rfl, hz2⟩ := hz
   have HZ2 := LH hz2
   clear hz2
   go_wp2_with fail
   go_ret
   exact ⟨G, rfl, HZ2.out⟩
end Go.Proofs.YtpohaahihdhleaaGreat
namespace Go.Proofs.YtpohaahihdhleaaGreat
theorem splice_getD (l s : List Nat) (o i : Nat) (h : o + s.length ≤ l.length) : (splice l o s).getD i 0 = if o ≤ i ∧ i < o + s.length then s.getD (i - o) 0 else l.getD i 0 := by
 unfold splice
 simp only [List.getD_eq_getElem?_getD]
 by_cases h1 : i < o
 ·rw [if_neg (by omega), List.getElem?_append_left (by simp; omega), List.getElem?_take_of_lt h1]
 ·rw [List.getElem?_append_right (by simp; omega), show (l.take o).length = o by simp; omega]
  by_cases h2 : i < o + s.length
  ·rw [if_pos (by omega), List.getElem?_append_left (by omega)]
  ·rw [if_neg (by omega), List.getElem?_append_right (by omega), List.getElem?_drop, show o + s.length + (i - o - s.length) = i by omega]
theorem seg_getD (l : List Nat) (j i : Nat) (hi : 8 * j ≤ i) (h2 : i < 8 * j + 8) : (seg l j).getD (i - 8 * j) 0 = l.getD i 0 := by
 rw [List.getD_eq_getElem?_getD, seg_at l j (i - 8 * j) (by omega), show 8 * j + (i - 8 * j) = i by omega, ← List.getD_eq_getElem?_getD]
theorem seg_eq_iff (l m : List Nat) (j : Nat) (h1 : 8 * j + 8 ≤ l.length) (h2 : 8 * j + 8 ≤ m.length) : seg l j = seg m j ↔ ∀ i, 8 * j ≤ i → i < 8 * j + 8 → l.getD i 0 = m.getD i 0 := by
 constructor
 ·intro h i hi hi2
  rw [← seg_getD l j i hi hi2, ← seg_getD m j i hi hi2, h]
 ·intro h
  apply List.ext_getElem (by rw [seg_length l j h1, seg_length m j h2])
  intro i hi1 hi2
  rw [seg_length l j h1] at hi1
  have := h (8 * j + i) (by omega) (by omega)
  have e1 := seg_getD l j (8 * j + i) (by omega) (by omega)
  have e2 := seg_getD m j (8 * j + i) (by omega) (by omega)
  rw [show 8 * j + i - 8 * j = i by omega] at e1 e2
  rw [this, ← e2] at e1
  simpa [List.getD_eq_getElem?_getD, seg_length l j h1, seg_length m j h2, hi1] using e1
theorem splice_seg_getD (l s : List Nat) (j i : Nat) (h1 : 8 * j + 8 ≤ l.length) (h2 : 8 * j + 8 ≤ s.length) : (splice l (8 * j) (seg s j)).getD i 0 = if i / 8 = j then s.getD i 0 else l.getD i 0 := by
 have hl := seg_length s j h2
 rw [splice_getD _ _ _ _ (by rw [hl]; exact h1), hl]
 by_cases h : i / 8 = j
 ·rw [if_pos (by omega), if_pos h, seg_getD s j i (by omega) (by omega)]
 ·rw [if_neg (by omega), if_neg h]
theorem getD_setB (l : List Bool) (i j : Nat) (b : Bool) (hi : i < l.length) : (l.set i b).getD j false = if j = i then b else l.getD j false := by
 simp only [List.getD_eq_getElem?_getD]
 by_cases h : j = i
 ·subst h; rw [if_pos rfl, List.getElem?_set_self hi]; rfl
 ·rw [if_neg h, List.getElem?_set_ne (Ne.symm h)]
theorem getD_setN (l : List Nat) (i j x : Nat) (hi : i < l.length) : (l.set i x).getD j 0 = if j = i then x else l.getD j 0 := by
 simp only [List.getD_eq_getElem?_getD]
 by_cases h : j = i
 ·subst h; rw [if_pos rfl, List.getElem?_set_self hi]; rfl
 ·rw [if_neg h, List.getElem?_set_ne (Ne.symm h)]
structure Dev.inv (S : Dev) : Prop where
 wf : S.wf
 sound : ∀ j, S.dirty.getD (j / 8) false = false → S.lasting.getD j 0 = S.cache.getD j 0
 pend : ∀ l, S.pending.getD l false = true → S.dirty.getD l false = true
theorem Dev.step_wf {S : Dev} (h : S.wf) : S.step.wf := by
 unfold Dev.step
 split
 ·exact ⟨h.lenL, h.lenF, h.lenP, h.lenD, h.small, h.u64L, h.u64C, h.u64F⟩
 ·exact ⟨h.lenL, h.lenF, h.lenP, h.lenD, h.small, h.u64L, h.u64C, h.u64F⟩
theorem Dev.step_inv {S : Dev} (h : S.inv) : S.step.inv := by
 obtain ⟨e1, e2, e3, e4, e5⟩ := S.step_rest
 exact ⟨Dev.step_wf h.wf, by rw [e1, e2, e4]; exact h.sound, by rw [e5, e4]; exact h.pend⟩
theorem fresh_inv {ws : List Nat} {m : Nat} (h8 : ws.length = 8 * m) (hs : ws.length ≤ 1000000) (hu : ∀ z ∈ ws, z < 18446744073709551616) : (freshDev ws m).inv := by
 refine ⟨⟨rfl, by simp [freshDev], by simp [freshDev], by simpa [freshDev] using h8, hs, hu, hu, ?_⟩, fun j _ => rfl, fun l hl => ?_⟩
 ·intro z hz
  simp [freshDev] at hz
  omega
 ·exfalso
  simp [freshDev, List.getD_eq_getElem?_getD, List.getElem?_replicate] at hl
  split at hl <;> simp at hl
theorem Dev.put_inv {S : Dev} (h : S.inv) (i x : Nat) (hi : i < S.cache.length) (hx : x < 18446744073709551616) : (S.put i x).inv := by
 have hw := h.wf
 have hD := hw.lenD
 have hl : i / 8 < S.dirty.length := by omega
 refine ⟨⟨by simp [Dev.put, hw.lenL], by simp [Dev.put, hw.lenF], by simp [Dev.put, hw.lenP], by simp [Dev.put, hD], by simp [Dev.put, hw.small], hw.u64L, set_lt hw.u64C _ _ hx, hw.u64F⟩, fun j hj => ?_, fun l hl2 => ?_⟩
 ·simp only [Dev.put] at hj ⊢
  rw [getD_setB _ _ _ _ hl] at hj
  rw [getD_setN _ _ _ _ hi]
  split at hj
  ·cases hj
  ·rw [if_neg (by rintro rfl; simp at *)]
   exact h.sound j hj
 ·simp only [Dev.put] at hl2 ⊢
  rw [getD_setB _ _ _ _ hl]
  split
  ·rfl
  ·exact h.pend l hl2
theorem Dev.store_inv {S : Dev} (h : S.inv) (i : Int) (x : Nat) (hx : x < 18446744073709551616) : (S.store i x).inv := by
 unfold Dev.store
 split
 ·exact h
 ·split
  ·exact Dev.step_inv h
  ·exact Dev.put_inv (Dev.step_inv h) _ _ (by rw [(Dev.step_rest S).2.1]; omega) hx
theorem Dev.hold_inv {S : Dev} (h : S.inv) (j : Nat) (hj : j < S.dirty.length) : (S.hold j).inv := by
 have hw := h.wf
 have hD := hw.lenD
 unfold Dev.hold
 split
 ·rename_i hd
  have hs := seg_length S.cache j (by omega)
  refine ⟨⟨hw.lenL, by rw [length_splice _ _ _ (by rw [hs, hw.lenF]; omega)]; exact hw.lenF, by simp [hw.lenP], hD, hw.small, hw.u64L, hw.u64C, splice_lt _ hw.u64F (seg_lt _ hw.u64C)⟩, h.sound, fun l hl => ?_⟩
  dsimp only at hl ⊢
  rw [getD_setB _ _ _ _ (by rw [hw.lenP]; exact hj)] at hl
  split at hl
  ·rename_i e; rw [e]; exact hd
  ·exact h.pend l hl
 ·exact h
theorem Dev.flush_inv {S : Dev} (h : S.inv) (j : Int) : (S.flush j).inv := by
 unfold Dev.flush
 split
 ·exact h
 ·split
  ·exact Dev.step_inv h
  ·exact Dev.hold_inv (Dev.step_inv h) _ (by rw [(Dev.step_rest S).2.2.2.1]; omega)
theorem Dev.flushRun_inv {S : Dev} (h : S.inv) (a m : Nat) : (S.flushRun a m).dev.inv := by
 induction m with
 | zero => exact h
 | succ m ih =>
  unfold Dev.flushRun
  split
  ·exact ih
  ·exact Dev.flush_inv ih _
structure FenceAt (S : Dev) (k : Nat) (T : Dev) : Prop where
 cache : T.cache = S.cache
 flushed : T.flushed = S.flushed
 lenD : T.dirty.length = S.dirty.length
 lenP : T.pending.length = S.pending.length
 lenL : T.lasting.length = S.lasting.length
 pending : ∀ l, T.pending.getD l false = if l < k then false else S.pending.getD l false
 dirty : ∀ l, T.dirty.getD l false = if l < k ∧ S.pending.getD l false = true then !decide (seg S.flushed l = seg S.cache l) else S.dirty.getD l false
 lasting : ∀ j, T.lasting.getD j 0 = if j / 8 < k ∧ S.pending.getD (j / 8) false = true then S.flushed.getD j 0 else S.lasting.getD j 0
 u64 : ∀ z ∈ T.lasting, z < 18446744073709551616
theorem fenceTo_at {S : Dev} (h : S.wf) : ∀ k, k ≤ S.dirty.length → FenceAt S k (S.fenceTo k)
 | 0, _ => ⟨rfl, rfl, rfl, rfl, rfl, by simp [Dev.fenceTo], by simp [Dev.fenceTo], by simp [Dev.fenceTo], h.u64L⟩
 | k + 1, hk => by
  have i := fenceTo_at h k (by omega)
  have hD := h.lenD
  have hP := h.lenP
  have hL := h.lenL
  have hF := h.lenF
  unfold Dev.fenceTo
  generalize S.fenceTo k = T at *
  have hp : T.pending.getD k false = S.pending.getD k false := by rw [i.pending k, if_neg (by omega)]
  unfold Dev.settle
  rw [hp]
  cases hq : S.pending.getD k false
  ·simp only [Bool.false_eq_true, if_false]
   refine ⟨i.cache, i.flushed, i.lenD, i.lenP, i.lenL, fun l => ?_, fun l => ?_, fun j => ?_, i.u64⟩
   ·rw [i.pending l]
    by_cases e : l = k
    ·subst e; rw [if_neg (by omega), if_pos (by omega), hq]
    ·by_cases h1 : l < k
     ·rw [if_pos h1, if_pos (by omega)]
     ·rw [if_neg h1, if_neg (by omega)]
   ·rw [i.dirty l]
    by_cases e : l = k
    ·subst e; rw [if_neg (by omega), if_neg (by rw [hq]; simp)]
    ·by_cases h1 : l < k ∧ S.pending.getD l false = true
     ·rw [if_pos h1, if_pos ⟨by omega, h1.2⟩]
     ·rw [if_neg h1, if_neg (fun h2 => h1 ⟨by omega, h2.2⟩)]
   ·rw [i.lasting j]
    by_cases e : j / 8 = k
    ·rw [if_neg (by omega), if_neg (by rw [e, hq]; simp)]
    ·by_cases h1 : j / 8 < k ∧ S.pending.getD (j / 8) false = true
     ·rw [if_pos h1, if_pos ⟨by omega, h1.2⟩]
     ·rw [if_neg h1, if_neg (fun h2 => h1 ⟨by omega, h2.2⟩)]
  ·simp only [if_true]
   rw [i.flushed, i.cache]
   have hs := seg_length S.flushed k (by omega)
   have hlT : 8 * k + 8 ≤ T.lasting.length := by rw [i.lenL]; omega
   refine ⟨rfl, rfl, by simp [i.lenD], by simp [i.lenP], by rw [length_splice _ _ _ (by rw [hs]; exact hlT)]; exact i.lenL, fun l => ?_, fun l => ?_, fun j => ?_, splice_lt _ i.u64 (seg_lt _ h.u64F)⟩
   ·dsimp only
    rw [getD_setB _ _ _ _ (by rw [i.lenP]; omega), i.pending l]
    by_cases e : l = k
    ·subst e; rw [if_pos rfl, if_pos (by omega)]
    ·rw [if_neg e]
     by_cases h1 : l < k
     ·rw [if_pos h1, if_pos (by omega)]
     ·rw [if_neg h1, if_neg (by omega)]
   ·dsimp only
    rw [getD_setB _ _ _ _ (by rw [i.lenD]; omega), i.dirty l]
    by_cases e : l = k
    ·subst e; rw [if_pos rfl, if_pos ⟨by omega, hq⟩]
    ·rw [if_neg e]
     by_cases h1 : l < k ∧ S.pending.getD l false = true
     ·rw [if_pos h1, if_pos ⟨by omega, h1.2⟩]
     ·rw [if_neg h1, if_neg (fun h2 => h1 ⟨by omega, h2.2⟩)]
   ·dsimp only
    rw [splice_seg_getD _ _ _ _ hlT (by omega), i.lasting j]
    by_cases e : j / 8 = k
    ·rw [if_pos e, if_pos ⟨by omega, by rw [e]; exact hq⟩]
    ·rw [if_neg e]
     by_cases h1 : j / 8 < k ∧ S.pending.getD (j / 8) false = true
     ·rw [if_pos h1, if_pos ⟨by omega, h1.2⟩]
     ·rw [if_neg h1, if_neg (fun h2 => h1 ⟨by omega, h2.2⟩)]
theorem getD_false_of {l : List Bool} {i : Nat} (h : l.length ≤ i) : l.getD i false = false := by simp [List.getD_eq_getElem?_getD, List.getElem?_eq_none h]
theorem getD_zero_of {l : List Nat} {i : Nat} (h : l.length ≤ i) : l.getD i 0 = 0 := by simp [List.getD_eq_getElem?_getD, List.getElem?_eq_none h]
theorem Dev.fence_at {S : Dev} (h : S.wf) (hs : S.stop = false) : FenceAt S S.dirty.length S.fence := by
 unfold Dev.fence
 rw [hs]
 simp only [Bool.false_eq_true, if_false]
 obtain ⟨e1, e2, e3, e4, e5⟩ := S.step_rest
 have i := fenceTo_at (Dev.step_wf h) S.dirty.length (by rw [e4]; exact Nat.le_refl _)
 exact ⟨by rw [← e2]; exact i.cache, by rw [← e3]; exact i.flushed, by rw [← e4]; exact e4 ▸ i.lenD, by rw [← e5]; exact i.lenP, by rw [← e1]; exact i.lenL, by have := i.pending; rwa [e5] at this, by have := i.dirty; rwa [e5, e3, e2, e4] at this, by have := i.lasting; rwa [e5, e3, e1] at this, i.u64⟩
theorem Dev.fence_inv {S : Dev} (h : S.inv) : S.fence.inv := by
 by_cases hs : S.stop = true
 ·unfold Dev.fence; rw [hs]; exact Dev.step_inv h
 ·have i := Dev.fence_at h.wf (by simpa using hs)
  have hw := h.wf
  have hD := hw.lenD
  generalize S.fence = T at *
  refine ⟨⟨by rw [i.lenL, i.cache]; exact hw.lenL, by rw [i.flushed, i.cache]; exact hw.lenF, by rw [i.lenP, i.lenD]; exact hw.lenP, by rw [i.cache, i.lenD]; exact hD, by rw [i.cache]; exact hw.small, i.u64, by rw [i.cache]; exact hw.u64C, by rw [i.flushed]; exact hw.u64F⟩, fun j hj => ?_, fun l hl => ?_⟩
  ·rw [i.lasting j, i.cache]
   rw [i.dirty (j / 8)] at hj
   by_cases h1 : j / 8 < S.dirty.length ∧ S.pending.getD (j / 8) false = true
   ·rw [if_pos h1]
    rw [if_pos h1] at hj
    have : seg S.flushed (j / 8) = seg S.cache (j / 8) := by simpa using hj
    exact (seg_eq_iff _ _ _ (by rw [hw.lenF]; omega) (by omega)).1 this j (by omega) (by omega)
   ·rw [if_neg h1]
    rw [if_neg h1] at hj
    exact h.sound j hj
  ·rw [i.pending l] at hl
   by_cases h1 : l < S.dirty.length
   ·rw [if_pos h1] at hl; cases hl
   ·rw [getD_false_of (by rw [hw.lenP]; omega)] at hl
    simp at hl
theorem Dev.persist_inv {S : Dev} (h : S.inv) (p n : Int) : (S.persist p n).dev.inv := by
 unfold Dev.persist
 split
 ·exact h
 ·split
  ·unfold Dev.persistN
   split
   ·exact Dev.flushRun_inv h _ _
   ·exact Dev.fence_inv (Dev.flushRun_inv h _ _)
  ·exact Dev.fence_inv h
theorem settle_steps (S : Dev) (j : Nat) : (S.settle j).steps = S.steps ∧ (S.settle j).fuse = S.fuse := by
 unfold Dev.settle; split <;> exact ⟨rfl, rfl⟩
theorem fenceTo_steps (S : Dev) (k : Nat) : (S.fenceTo k).steps = S.steps ∧ (S.fenceTo k).fuse = S.fuse := by
 induction k with
 | zero => exact ⟨rfl, rfl⟩
 | succ k ih => have h := settle_steps (S.fenceTo k) k; exact ⟨h.1.trans ih.1, h.2.trans ih.2⟩
theorem Dev.fence_ok {S : Dev} {N : Nat} (h : S.ok N) : S.fence.ok (N + 1) := by
 unfold Dev.fence
 split
 ·exact Dev.step_ok h
 ·have := Dev.step_ok h
  have e := fenceTo_steps S.step S.dirty.length
  unfold Dev.ok at *
  rw [e.1, e.2]
  exact this
theorem Dev.persist_ok {S : Dev} (hw : S.wf) {N : Nat} (h : S.ok N) (p n : Int) : (S.persist p n).dev.ok (N + 200000) := by
 have hD := hw.lenD
 have hs := hw.small
 unfold Dev.persist
 split
 ·exact h.mono (by omega)
 ·split
  ·unfold Dev.persistN
   have hM : (((p : Int) + (n : Int) - 1) / 8 - (p : Int) / 8 + 1).toNat ≤ 150000 := by omega
   split
   ·exact (Dev.flushRun_ok h _ _).mono (by omega)
   ·exact (Dev.fence_ok (Dev.flushRun_ok h _ _)).mono (by omega)
  ·exact (Dev.fence_ok h).mono (by omega)
theorem settle_live {S : Dev} (h : S.live) (j : Nat) : (S.settle j).live := by
 unfold Dev.settle; split <;> exact h
theorem fenceTo_live {S : Dev} (h : S.live) (k : Nat) : (S.fenceTo k).live := by
 induction k with
 | zero => exact h
 | succ k ih => exact settle_live ih k
theorem Dev.live.fence {S : Dev} (h : S.live) : S.fence.live := by
 unfold Dev.fence
 rw [h.stop]
 exact fenceTo_live h.step _
theorem Dev.live.persist_live {S : Dev} (h : S.live) (p n : Nat) (hn : 0 < n) (hd : S.cache.length = 8 * S.dirty.length) (hp : p + n ≤ S.cache.length) : (S.persist p n).dev.live := by
 unfold Dev.persist
 rw [if_neg (by omega), if_pos (by omega)]
 unfold Dev.persistN
 obtain ⟨i1, i2, i3, i4⟩ := h.flushRun ((p : Int) / 8).toNat (((p : Int) + (n : Int) - 1) / 8 - (p : Int) / 8 + 1).toNat (by omega)
 rw [if_neg (by rw [i1]; simp)]
 exact i2.fence
theorem Dev.flushRun_held {S : Dev} (h : S.inv) (a : Nat) : ∀ m, (S.flushRun a m).err = 0 → (S.flushRun a m).dev.cache = S.cache ∧ (S.flushRun a m).dev.dirty = S.dirty ∧ (0 < m → a + m ≤ S.dirty.length) ∧
  ∀ l, a ≤ l → l < a + m → S.dirty.getD l false = true → (S.flushRun a m).dev.pending.getD l false = true ∧ seg (S.flushRun a m).dev.flushed l = seg S.cache l
 | 0, _ => ⟨rfl, rfl, fun h => absurd h (Nat.lt_irrefl _), fun l h1 h2 => by omega⟩
 | m + 1, he => by
  have hinv := Dev.flushRun_inv h a m
  unfold Dev.flushRun at he ⊢
  by_cases h0 : (S.flushRun a m).err ≠ 0
  ·rw [if_pos h0] at he
   exact absurd he h0
  ·rw [if_neg h0] at he ⊢
   obtain ⟨i1, i2, i3, i4⟩ := Dev.flushRun_held h a m (by simpa using h0)
   generalize (S.flushRun a m).dev = T at *
   dsimp only at he ⊢
   unfold Dev.flushE at he
   unfold Dev.flush
   by_cases c1 : ((a + m : Nat) : Int) < 0 ∨ (T.dirty.length : Int) ≤ ((a + m : Nat) : Int)
   ·rw [if_pos c1] at he; simp at he
   rw [if_neg c1] at he ⊢
   cases c2 : T.stop
   ·simp only [Bool.false_eq_true, if_false]
    obtain ⟨e1, e2, e3, e4, e5⟩ := T.step_rest
    rw [show ((a + m : Nat) : Int).toNat = a + m by omega]
    have hw := Dev.step_wf hinv.wf
    have hD := hw.lenD
    have hdl : T.dirty.length = S.dirty.length := by rw [i2]
    have hj : a + m < T.step.dirty.length := by rw [e4]; omega
    rw [← e4] at i2
    rw [← e2] at i1
    rw [← e5, ← e3] at i4
    generalize T.step = U at *
    refine ⟨by rw [(Dev.hold_len U _).1, i1], by rw [(Dev.hold_len U _).2, i2], fun _ => by rw [← i2]; omega, fun l h1 h2 hd => ?_⟩
    unfold Dev.hold
    by_cases hl : l = a + m
    ·subst hl
     rw [if_pos (by rw [i2]; exact hd)]
     dsimp only
     refine ⟨by rw [getD_setB _ _ _ _ (by rw [hw.lenP]; exact hj), if_pos rfl], ?_⟩
     rw [seg_splice _ _ _ (seg_length _ _ (by omega)) (by rw [hw.lenF]; omega), i1]
    ·have := i4 l h1 (by omega) hd
     have hll : l < U.dirty.length := by
      rcases Nat.lt_or_ge l U.dirty.length with h | h
      ·exact h
      ·rw [← i2, getD_false_of h] at hd; cases hd
     split
     ·dsimp only
      refine ⟨by rw [getD_setB _ _ _ _ (by rw [hw.lenP]; exact hj), if_neg hl]; exact this.1, ?_⟩
      rw [← this.2]
      have hs := seg_length U.cache (a + m) (by omega)
      refine (seg_eq_iff _ _ _ (by rw [length_splice _ _ _ (by rw [hs, hw.lenF]; omega), hw.lenF]; omega) (by rw [hw.lenF]; omega)).2 (fun i h3 h4 => ?_)
      rw [splice_seg_getD _ _ _ _ (by rw [hw.lenF]; omega) (by omega), if_neg (by omega)]
     ·exact this
   ·rw [c2] at he
    simp at he
theorem Dev.persist_clean {S : Dev} (h : S.inv) (p n : Nat) (hn : 0 < n) (he : (S.persist p n).err = 0) : (S.persist p n).dev.cache = S.cache ∧ p + n ≤ S.cache.length ∧ (S.persist p n).dev.dirty.length = S.dirty.length ∧
  (∀ j, p ≤ j → j < p + n → (S.persist p n).dev.dirty.getD (j / 8) false = false) ∧ ∀ l, S.dirty.getD l false = false → (S.persist p n).dev.dirty.getD l false = false := by
 unfold Dev.persist at he ⊢
 by_cases c1 : (p : Int) < 0 ∨ (n : Int) < 0 ∨ (S.cache.length : Int) < (p : Int) ∨ (S.cache.length : Int) - (p : Int) < (n : Int)
 ·rw [if_pos c1] at he; simp at he
 rw [if_neg c1, if_pos (by omega)] at he ⊢
 unfold Dev.persistN at he ⊢
 generalize hA : ((p : Int) / 8).toNat = A at *
 generalize hM : (((p : Int) + (n : Int) - 1) / 8 - (p : Int) / 8 + 1).toNat = M at *
 by_cases c2 : (S.flushRun A M).err ≠ 0
 ·rw [if_pos c2] at he; exact absurd he c2
 rw [if_neg c2] at he ⊢
 obtain ⟨i1, i2, i3, i4⟩ := Dev.flushRun_held h A M (by simpa using c2)
 have hinv := Dev.flushRun_inv h A M
 generalize (S.flushRun A M).dev = T at *
 dsimp only at he ⊢
 unfold Dev.fenceE at he
 cases c3 : T.stop
 ·have f := Dev.fence_at hinv.wf c3
  refine ⟨f.cache.trans i1, by omega, by rw [f.lenD, i2], fun j h1 h2 => ?_, fun l hl => ?_⟩
  ·rw [f.dirty, i2, i1]
   cases hd : S.dirty.getD (j / 8) false
   ·rw [if_neg]
    rintro ⟨_, hp⟩
    have := hinv.pend _ hp
    rw [i2, hd] at this
    cases this
   ·have := i4 (j / 8) (by omega) (by omega) hd
    have hl : j / 8 < S.dirty.length := by
     rcases Nat.lt_or_ge (j / 8) S.dirty.length with h | h
     ·exact h
     ·rw [getD_false_of h] at hd; cases hd
    rw [if_pos ⟨hl, this.1⟩, this.2]
    simp
  ·rw [f.dirty, i2, if_neg]
   ·exact hl
   ·rintro ⟨_, hp⟩
    have := hinv.pend _ hp
    rw [i2, hl] at this
    cases this
 ·rw [c3] at he
  simp at he
theorem Dev.crash_clean {S : Dev} (h : S.inv) (cs : List Nat) (j : Nat) (hd : S.dirty.getD (j / 8) false = false) : (S.crashW cs).getD j 0 = S.cache.getD j 0 := by
 rw [← h.sound j hd]
 unfold Dev.crashW
 have hls : ∀ l ∈ dirtyL S.dirty S.dirty.length, l < S.dirty.length ∧ S.dirty.getD l false = true := fun l hl => (dirtyL_mem _ _ _).1 hl
 generalize dirtyL S.dirty S.dirty.length = ls at *
 have hw := h.wf
 have hD := hw.lenD
 have key : ∀ i, i ≤ ls.length → (crashTo S ls cs i).getD j 0 = S.lasting.getD j 0 := by
  intro i
  induction i with
  | zero => intro _; rfl
  | succ i ih =>
   intro hi
   rw [← ih (by omega)]
   have hlen := (crashTo_wf hw ls cs (fun l hl => (hls l hl).1) i (by omega)).1
   have hm : ls.getD i 0 ∈ ls := by
    rw [List.getD_eq_getElem?_getD, List.getElem?_eq_getElem (by omega)]
    exact List.getElem_mem _
   have hl := hls _ hm
   rw [show crashTo S ls cs (i + 1) = crashOne S (crashTo S ls cs i) (ls.getD i 0) (cs.getD i 0) from rfl]
   generalize crashTo S ls cs i = out at *
   generalize ls.getD i 0 = l at *
   unfold crashOne
   have hne : j / 8 ≠ l := by rintro rfl; rw [hl.2] at hd; cases hd
   split
   ·split
    ·rw [splice_seg_getD _ _ _ _ (by omega) (by rw [hw.lenF]; omega), if_neg hne]
    ·rfl
   ·split
    ·rw [splice_seg_getD _ _ _ _ (by omega) (by omega), if_neg hne]
    ·rfl
 exact key _ (Nat.min_le_left _ _)
theorem Dev.crash_wf {S : Dev} (h : S.wf) (cs : List Nat) : (S.crashW cs).length = S.cache.length ∧ ∀ z ∈ S.crashW cs, z < 18446744073709551616 :=
 crashTo_wf h _ cs (fun l hl => ((dirtyL_mem _ _ _).1 hl).1) _ (Nat.min_le_left _ _)
end Go.Proofs.YtpohaahihdhleaaGreat
namespace Go.Proofs.YtpohaahihdhleaaGreat
open Go.RowKit
def Dev.ref (S : Dev) : RDev := ⟨S.cache, S.lasting, S.flushed, S.dirty, S.pending, S.steps, if S.armed = true then S.fuse else -1, S.dead⟩
structure Dev.fit (S : Dev) (N : Nat) : Prop where
 wf : S.wf
 ok : S.ok N
 arm : S.armed = true → 0 ≤ S.fuse
theorem Dev.fit_fuse {S : Dev} {N : Nat} (h : S.fit N) : -1 ≤ S.ref.fuse ∧ S.ref.fuse < 9223372036854775808 := by
 unfold Dev.ref
 dsimp only
 have := h.ok
 unfold Dev.ok at this
 split
 ·rename_i c; have := h.arm c; omega
 ·omega
structure ROpen (w : World) (S : Dev) (an al aw ad ap : Option Addr) (m : Nat) (sv fz : Int) (dd : Bool) : Prop where
 k1 : Cells w an (S.cache.map vu64)
 k2 : Cells w al (S.lasting.map vu64)
 k3 : Cells w aw (S.flushed.map vu64)
 k4 : Cells w ad (S.dirty.map Value.bool)
 k5 : Cells w ap (S.pending.map Value.bool)
 hm : m = S.dirty.length
 hs : sv = S.steps
 hf : fz = S.ref.fuse
 hd : dd = S.dead
 cl : S.cache.length = 8 * m
theorem ropen {w : World} {v : Value} {S : Dev} (h : RAt w v S.dirty.length S.ref) {N : Nat} (hf : S.fit N) :
  ∃ an cn al cl aw cw ad cd ap cp m sv fz dd, v = .agg #[.slice an m cn, .slice al m cl, .slice aw m cw, .slice ad m cd, .slice ap m cp, .int .i64 sv, .int .i64 fz, .bool dd] ∧ ROpen w S an al aw ad ap m sv fz dd ∧ S.dirty.length = m ∧ m ≤ 125000 ∧ (0 ≤ sv ∧ sv ≤ N) ∧ (-1 ≤ fz ∧ fz < 9223372036854775808) := by
 obtain ⟨an, cn, al, cl, aw, cw, ad, cd, ap, cp, rfl, k1, k2, k3, k4, k5⟩ := h.ex
 have h1 := hf.ok
 unfold Dev.ok at h1
 have h2 := hf.wf.small
 have h3 := hf.wf.lenD
 exact ⟨an, cn, al, cl, aw, cw, ad, cd, ap, cp, _, _, _, _, rfl, ⟨k1, k2, k3, k4, k5, rfl, rfl, rfl, rfl, h3⟩, rfl, by omega, ⟨h1.1, h1.2.1⟩, Dev.fit_fuse hf⟩
theorem run_eqItems_ints {P : Program} {e : TypeId} {k : IntKind} (he : P.underlying e = some (.int k)) (d : Nat) (w : World) (xs ys : List Int) :
  ∀ is : List Nat, (∀ i ∈ is, i < xs.length ∧ i < ys.length) → ∃ b, (Op.eqItems (d + 1) e 1 (xs.map (Value.int k)).toArray (ys.map (Value.int k)).toArray is).run P w = .ok b w ∧ (b = true ↔ ∀ i ∈ is, xs[i]? = ys[i]?)
 | [], _ => ⟨true, by simp [Op.eqItems], by simp⟩
 | i :: is, h => by
  obtain ⟨h1, h2⟩ := h i (by simp)
  obtain ⟨b, hb, hiff⟩ := run_eqItems_ints he d w xs ys is (fun j hj => h j (by simp [hj]))
  have hagg : (isAgg e).run P w = .ok false w := by unfold isAgg; rw [Sem.run_bind, run_underlying he w]; simp
  have hp : ∀ (zs : List Int) (hz : i < zs.length), (part e (zs.map (Value.int k)).toArray (i * 1)).run P w = .ok (.int k zs[i]) w := fun zs hz => by
   simp [part, hagg, hz]
  simp only [Op.eqItems, Sem.run_bind, hp xs h1, hp ys h2, Result.andThen_ok]
  rw [run_equalIn_int w d e k k _ _ he]
  simp only [Result.andThen_ok]
  by_cases hab : xs[i] = ys[i]
  ·have : (xs[i] == ys[i]) = true := by simpa using hab
   simp only [this, Bool.not_true, Bool.false_eq_true, if_false]
   refine ⟨b, hb, ?_⟩
   rw [hiff]
   simp [h1, h2, hab]
  ·have : (xs[i] == ys[i]) = false := by simpa using hab
   simp only [this, Bool.not_false, if_true, Sem.run_pure]
   refine ⟨false, rfl, ?_⟩
   simp [h1, h2, hab]
theorem cellsU64 : Tryz.prog.cellsOf 40 = 1 := by kernel_rfl
theorem infoU64 : (Tryz.prog.info? 40).isSome = true := by kernel_rfl
def arrW (ws : List Nat) : Value := .agg (ws.map vu64).toArray
def magicN : Nat := 8390047168116913201
def supH (n id : Nat) : List Nat := [magicN, 1, n, id, 0, 0, 0]
def supN (n id : Nat) : List Nat := [magicN, 1, n, id, 0, 0, 0, wordsN (supH n id)]
theorem agg8 : Agg Tryz.prog 101 #[.int .u64 0, .int .u64 0, .int .u64 0, .int .u64 0, .int .u64 0, .int .u64 0, .int .u64 0, .int .u64 0] := ⟨⟨_, Tryz.underlying101, rfl⟩, by kernel_rfl⟩
theorem row_front {w : World} {g e : Nat} {xs ys : List Value} (h : RowAt w g e (xs ++ ys)) : Cells w (some ⟨g, 0, none⟩) xs :=
 .inr ⟨g, 0, rfl, fun i v hi => by
  rw [Nat.zero_add]
  exact h.cell (by rw [List.getElem?_append_left (List.getElem?_eq_some_iff.1 hi).1]; exact hi)⟩
theorem supH_lt {n id : Nat} (hn : n < 18446744073709551616) (hid : id < 18446744073709551616) : ∀ z ∈ supH n id, z < 18446744073709551616 := by
 intro z hz
 unfold supH magicN at hz
 simp only [List.mem_cons, List.not_mem_nil, or_false] at hz
 omega
def SupPost (n id : Nat) (w : World) : Ending → World → Prop := fun e w' => e = .returned (arrW (supN n id)) ∧ Below w.heap.size w w'
set_option maxHeartbeats 2000000 in
set_option maxRecDepth 100000 in
theorem sencode_any (n id : Nat) (hn : n ≤ 4000000000000000000) (hid : id < 18446744073709551616) (w : World) :
  Calls Tryz.prog 108 #[.agg #[.int .i64 (n : Int), vu64 id]] w (SupPost n id w) := by
 have HP : Hid (∀ w', Below w.heap.size w w' → SupPost n id w (.returned (.agg ((supN n id).map vu64).toArray)) w') := LH (fun w' h => ⟨rfl, h⟩)
 generalize SupPost n id w = Post at *
 have HM := LH (((Mem.one w #[.int .i64 (n : Int), vu64 id] 42).alloc #[.int .u64 0, .int .u64 0, .int .u64 0, .int .u64 0, .int .u64 0, .int .u64 0, .int .u64 0, .int .u64 0] 101).alloc #[vu64 magicN, vu64 1, vu64 n, vu64 id, vu64 0, vu64 0, vu64 0, vu64 0] 101)
 have d0 := (Mem.two w #[.int .i64 (n : Int), vu64 id] 42 #[.int .u64 0, .int .u64 0, .int .u64 0, .int .u64 0, .int .u64 0, .int .u64 0, .int .u64 0, .int .u64 0] 101).cell 0 0 rfl rfl
 have d1 := (Mem.two w #[.int .i64 (n : Int), vu64 id] 42 #[.int .u64 0, .int .u64 0, .int .u64 0, .int .u64 0, .int .u64 0, .int .u64 0, .int .u64 0, .int .u64 0] 101).cell 0 1 rfl rfl
 go_enter Tryz.func108, Tryz.ntmps108
 go_upto_region 2 with fail
 clear d0 d1
 obtain ⟨q1, hq1⟩ : ∃ q, q = w.heap.size := ⟨_, rfl⟩
 obtain ⟨q2, hq2⟩ : ∃ q, q = w.heap.size + 1 := ⟨_, rfl⟩
 obtain ⟨q3, hq3⟩ : ∃ q, q = w.heap.size + 1 + 1 := ⟨_, rfl⟩
 have HM0 : Hid (Mem w (((w.alloc (.cells #[.int .i64 (n : Int), vu64 id] 42)).alloc (.cells #[.int .u64 0, .int .u64 0, .int .u64 0, .int .u64 0, .int .u64 0, .int .u64 0, .int .u64 0, .int .u64 0] 101)).alloc (.cells #[.int .u64 8390047168116913201, .int .u64 1, .int .u64 (n : Int), .int .u64 (id : Int), .int .u64 0, .int .u64 0, .int .u64 0, .int .u64 0] 101)) [⟨q1, 42, [.int .i64 (n : Int), vu64 id], true⟩, ⟨q2, 101, (List.replicate 8 0).map vu64, true⟩, ⟨q3, 101, (supH n id).map vu64 ++ [vu64 0], true⟩]) := LH (by
  have := HM.out
  simp only [World.size_alloc] at this
  rw [hq1, hq2, hq3]
  exact this)
 rw [← hq3, ← hq2, ← hq1]
 obtain ⟨w1, hw1⟩ : ∃ w1, w1 = (((w.alloc (.cells #[.int .i64 (n : Int), vu64 id] 42)).alloc (.cells #[.int .u64 0, .int .u64 0, .int .u64 0, .int .u64 0, .int .u64 0, .int .u64 0, .int .u64 0, .int .u64 0] 101)).alloc (.cells #[.int .u64 8390047168116913201, .int .u64 1, .int .u64 (n : Int), .int .u64 (id : Int), .int .u64 0, .int .u64 0, .int .u64 0, .int .u64 0] 101)) := ⟨_, rfl⟩
 rw [← hw1] at HM0 ⊢
 clear hq1 hq2 hq3 HM hw1
 go_wp2_with fail
 refine (crcWords_any (some ⟨q3, 0, none⟩) 8 (supH n id) rfl w1 (row_front (HM0.out.at 2 rfl)) (supH_lt (by omega) hid) (by simp [supH])).mono ?_
 rintro e w2 ⟨rfl, hb2⟩
 have HM2 := LH (HM0.out.later hb2)
 have hlt := wordsN_lt (supH n id)
 have HS : Hid (supN n id = supH n id ++ [wordsN (supH n id)]) := LH rfl
 generalize wordsN (supH n id) = cr at *
 have c7 : w2.cell? ⟨q3, 7, none⟩ = some (vu64 0) := HM2.out.cell 2 7 rfl rfl
 have f7 := HM2.out.frozen 2 7 rfl
 have HM3 : Hid (Mem w (w2.setCell ⟨q3, 7, none⟩ (.int .u64 (cr : Int))) [⟨q1, 42, [.int .i64 (n : Int), vu64 id], true⟩, ⟨q2, 101, (List.replicate 8 0).map vu64, true⟩, ⟨q3, 101, (supN n id).map vu64, true⟩]) := LH (by
  have := HM2.out.set 2 7 (.int .u64 (cr : Int)) rfl (by simp [supH])
  rw [HS.out]
  exact this)
 clear hb2 HM0
 go_upto_region 3 with fail
 generalize w2.setCell _ _ = w3 at *
 clear c7 f7 HM2
 go_wp2_with (first
  | (refine wpList_load_mem agg8 HM3.out 2 rfl rfl rfl rfl rfl ?_)
  | (refine wpList_store_mem agg8 HM3.out 1 rfl rfl rfl rfl rfl rfl rfl rfl ?_; intro w6 h6 ht6; have H6 := LH h6; clear h6 ht6))
 exact bodyPost_ret (results_cell_row (p := 2) rfl _ _ _ _ _ _ _ rfl (H6.out.exact 1 rfl) Tryz.underlying101 rfl (by kernel_rfl)) rfl (HP.out _ H6.out.below)
set_option maxHeartbeats 2000000 in
set_option maxRecDepth 100000 in
theorem rsencode_any (n id : Nat) (hn : n ≤ 4000000000000000000) (hid : id < 18446744073709551616) (w : World) :
  Calls Tryz.prog 35 #[.int .i64 (n : Int), vu64 id] w (SupPost n id w) := by
 have HP : Hid (∀ w', Below w.heap.size w w' → SupPost n id w (.returned (.agg ((supN n id).map vu64).toArray)) w') := LH (fun w' h => ⟨rfl, h⟩)
 generalize SupPost n id w = Post at *
 have HM := LH (Mem.two w #[.int .u64 0, .int .u64 0, .int .u64 0, .int .u64 0, .int .u64 0, .int .u64 0, .int .u64 0, .int .u64 0] 101 #[vu64 magicN, vu64 1, vu64 n, vu64 id, vu64 0, vu64 0, vu64 0, vu64 0] 101)
 go_enter Tryz.func35, Tryz.ntmps35
 go_upto_region 2 with fail
 obtain ⟨q2, hq2⟩ : ∃ q, q = w.heap.size := ⟨_, rfl⟩
 obtain ⟨q3, hq3⟩ : ∃ q, q = w.heap.size + 1 := ⟨_, rfl⟩
 have HM0 : Hid (Mem w ((w.alloc (.cells #[.int .u64 0, .int .u64 0, .int .u64 0, .int .u64 0, .int .u64 0, .int .u64 0, .int .u64 0, .int .u64 0] 101)).alloc (.cells #[.int .u64 8390047168116913201, .int .u64 1, .int .u64 (n : Int), .int .u64 (id : Int), .int .u64 0, .int .u64 0, .int .u64 0, .int .u64 0] 101)) [⟨q2, 101, (List.replicate 8 0).map vu64, true⟩, ⟨q3, 101, (supH n id).map vu64 ++ [vu64 0], true⟩]) := LH (by
  rw [hq2, hq3]
  exact HM.out)
 rw [← hq3, ← hq2]
 obtain ⟨w1, hw1⟩ : ∃ w1, w1 = ((w.alloc (.cells #[.int .u64 0, .int .u64 0, .int .u64 0, .int .u64 0, .int .u64 0, .int .u64 0, .int .u64 0, .int .u64 0] 101)).alloc (.cells #[.int .u64 8390047168116913201, .int .u64 1, .int .u64 (n : Int), .int .u64 (id : Int), .int .u64 0, .int .u64 0, .int .u64 0, .int .u64 0] 101)) := ⟨_, rfl⟩
 rw [← hw1] at HM0 ⊢
 clear hq2 hq3 HM hw1
 go_wp2_with fail
 refine (rcrcWords_any (some ⟨q3, 0, none⟩) 8 (supH n id) rfl w1 (row_front (HM0.out.at 1 rfl)) (supH_lt (by omega) hid) (by simp [supH])).mono ?_
 rintro e w2 ⟨rfl, hb2⟩
 have HM2 := LH (HM0.out.later hb2)
 have hlt := wordsN_lt (supH n id)
 have HS : Hid (supN n id = supH n id ++ [wordsN (supH n id)]) := LH rfl
 generalize wordsN (supH n id) = cr at *
 have c7 : w2.cell? ⟨q3, 7, none⟩ = some (vu64 0) := HM2.out.cell 1 7 rfl rfl
 have f7 := HM2.out.frozen 1 7 rfl
 have HM3 : Hid (Mem w (w2.setCell ⟨q3, 7, none⟩ (.int .u64 (cr : Int))) [⟨q2, 101, (List.replicate 8 0).map vu64, true⟩, ⟨q3, 101, (supN n id).map vu64, true⟩]) := LH (by
  have := HM2.out.set 1 7 (.int .u64 (cr : Int)) rfl (by simp [supH])
  rw [HS.out]
  exact this)
 clear hb2 HM0
 go_upto_region 3 with fail
 generalize w2.setCell _ _ = w3 at *
 clear c7 f7 HM2
 go_wp2_with (first
  | (refine wpList_load_mem agg8 HM3.out 1 rfl rfl rfl rfl rfl ?_)
  | (refine wpList_store_mem agg8 HM3.out 0 rfl rfl rfl rfl rfl rfl rfl rfl ?_; intro w6 h6 ht6; have H6 := LH h6; clear h6 ht6))
 exact bodyPost_ret (results_cell_row (p := 4) rfl _ _ _ _ _ _ _ rfl (H6.out.exact 0 rfl) Tryz.underlying101 rfl (by kernel_rfl)) rfl (HP.out _ H6.out.below)
def supD (ws : List Nat) : Nat × Nat × Int :=
 if ws.getD 0 0 ≠ magicN then (0, 0, 24)
 else if ws.getD 7 0 ≠ wordsN (ws.take 7) then (0, 0, 25)
 else if 2 ≤ ws.getD 2 0 ∧ ws.getD 2 0 ≤ 256 ∧ supN (ws.getD 2 0) (ws.getD 3 0) = ws then (ws.getD 2 0, ws.getD 3 0, 0) else (0, 0, 26)
theorem equal8 (w : World) (xs ys : List Nat) (hx : xs.length = 8) (hy : ys.length = 8) : (Op.equalIn 10000 101 (.agg (xs.map vu64).toArray) (.agg (ys.map vu64).toArray)).run Tryz.prog w = .ok (decide (xs = ys)) w := by
 obtain ⟨i, hi⟩ := Option.isSome_iff_exists.1 infoU64
 have hn : ∀ l : List Nat, l.map vu64 = (l.map (fun n : Nat => (n : Int))).map (Value.int .u64) := by intro l; simp
 rw [show (10000 : Nat) = 9999 + 1 from rfl, run_equalIn_array w 9999 _ _ Tryz.underlying101 hi, cellsU64, show (9999 : Nat) = 9998 + 1 from rfl, hn xs, hn ys]
 obtain ⟨b, hb, hiff⟩ := run_eqItems_ints Tryz.underlying40 9998 w (xs.map (fun n : Nat => (n : Int))) (ys.map (fun n : Nat => (n : Int))) (List.range 8) (fun i hi => by simp at hi; simp; omega)
 rw [hb]
 have : b = decide (xs = ys) := by
  rw [Bool.eq_iff_iff, hiff, decide_eq_true_iff]
  constructor
  ·intro h
   apply List.ext_getElem (by rw [hx, hy])
   intro i h1 h2
   have := h i (by simp; omega)
   simp [h1, h2] at this
   omega
  ·rintro rfl; simp
 rw [this]
def rtI (r : Int) : Bool := decide (0 ≤ r ∧ r < 131072)
def slotR (ep : Nat) (rs : List Int) : Bool := rs.all rtI && decide (0 < ep)
theorem eight_ints {rs : List Int} (h : rs.length = 8) : ∃ a0 a1 a2 a3 a4 a5 a6 a7, rs = [a0, a1, a2, a3, a4, a5, a6, a7] := by
 match rs, h with
 | [a0, a1, a2, a3, a4, a5, a6, a7], _ => exact ⟨a0, a1, a2, a3, a4, a5, a6, a7, rfl⟩
def slotVal (ep : Nat) (rs : List Int) : Value := .agg (vu64 ep :: rs.map (Value.int .i64)).toArray
theorem all_bad {rs : List Int} {i : Nat} {r : Int} (hi : rs[i]? = some r) (h : rtI r = false) : rs.all rtI = false := by
 rw [List.all_eq_false]
 exact ⟨r, List.mem_of_getElem? hi, by rw [h]; decide⟩
theorem all_next {rs : List Int} {i : Nat} {r : Int} (h : (rs.take i).all rtI = true) (hi : rs[i]? = some r) (hr : rtI r = true) : (rs.take (i + 1)).all rtI = true := by
 rw [List.take_add_one, hi, List.all_append, h]
 simp [hr]
set_option maxHeartbeats 4000000 in
set_option maxRecDepth 100000 in
theorem slright_any (ep : Nat) (rs : List Int) (hl : rs.length = 8) (hep : ep < 18446744073709551616) (w : World) :
  Calls Tryz.prog 172 #[slotVal ep rs] w fun e w' => e = .returned (.bool (slotR ep rs)) ∧ Below w.heap.size w w' := by
 have HP : Hid (∀ b w', b = slotR ep rs → Below w.heap.size w w' → (fun e w' => e = Ending.returned (.bool (slotR ep rs)) ∧ Below w.heap.size w w') (.returned (.bool b)) w') := LH (fun b w' h1 h2 => by subst h1; exact ⟨rfl, h2⟩)
 generalize hPo : (fun e w' => e = Ending.returned (.bool (slotR ep rs)) ∧ Below w.heap.size w w') = Post at *
 clear hPo
 obtain ⟨a0, a1, a2, a3, a4, a5, a6, a7, rfl⟩ := eight_ints hl
 obtain ⟨rs, hrs⟩ : ∃ rs, rs = [a0, a1, a2, a3, a4, a5, a6, a7] := ⟨_, rfl⟩
 rw [← hrs] at HP
 have HRs := LH hrs
 have HBad : Hid (∀ (i : Nat) r, [a0, a1, a2, a3, a4, a5, a6, a7][i]? = some r → rtI r = false → false = slotR ep rs) := LH (fun i r h1 h2 => by
  unfold slotR; rw [hrs, all_bad h1 h2]; rfl)
 have HNx : Hid (∀ (i : Nat) r, [a0, a1, a2, a3, a4, a5, a6, a7][i]? = some r → (rs.take i).all rtI = true → rtI r = true → (rs.take (i + 1)).all rtI = true) := LH (fun i r h1 h2 h3 => all_next h2 (by rw [hrs]; exact h1) h3)
 clear hrs hl
 rw [show slotVal ep [a0, a1, a2, a3, a4, a5, a6, a7] = .agg #[vu64 ep, .int .i64 a0, .int .i64 a1, .int .i64 a2, .int .i64 a3, .int .i64 a4, .int .i64 a5, .int .i64 a6, .int .i64 a7] from rfl]
 have HM := LH (Mem.one w #[vu64 ep, .int .i64 a0, .int .i64 a1, .int .i64 a2, .int .i64 a3, .int .i64 a4, .int .i64 a5, .int .i64 a6, .int .i64 a7] 154)
 go_enter Tryz.func172, Tryz.ntmps172
 go_upto_region 1 with fail
 obtain ⟨q, hq⟩ : ∃ q, q = w.heap.size := ⟨_, rfl⟩
 rw [← hq] at HM ⊢
 generalize w.alloc _ = w1 at *
 clear hq
 have d0 := HM.out.cell 0 0 rfl rfl
 have d1 := HM.out.cell 0 1 rfl rfl
 have d2 := HM.out.cell 0 2 rfl rfl
 have d3 := HM.out.cell 0 3 rfl rfl
 have d4 := HM.out.cell 0 4 rfl rfl
 have d5 := HM.out.cell 0 5 rfl rfl
 have d6 := HM.out.cell 0 6 rfl rfl
 have d7 := HM.out.cell 0 7 rfl rfl
 have d8 := HM.out.cell 0 8 rfl rfl
 go_wp2_with fail
 go_loopw [7] (fun iv wr => ∃ i : Nat, i ≤ 8 ∧ iv = .int .i64 (i : Int) ∧ Hid ((rs.take i).all rtI = true) ∧ wr = w1) (fun iv _ => 8 - (intOf iv).toNat)
 case atStart => exact ⟨0, by omega, rfl, LH rfl, rfl⟩
 case round =>
  obtain ⟨i, hi, rfl, HA, rfl⟩ := hrel
  by_cases hlt : i < 8
  ·obtain ⟨r, hr⟩ : ∃ r, [a0, a1, a2, a3, a4, a5, a6, a7][i]? = some r := ⟨_, List.getElem?_eq_getElem (by simpa using hlt)⟩
   have HBi := LH (HBad.out i r hr)
   have HNi := LH (HNx.out i r hr HA.out)
   have hlt' : (i : Int) < 8 := by omega
   have HV : Hid ((#[Value.int .i64 a0, .int .i64 a1, .int .i64 a2, .int .i64 a3, .int .i64 a4, .int .i64 a5, .int .i64 a6, .int .i64 a7] : Array Value)[i]? = some (.int .i64 r)) := LH (by
    have : ([a0, a1, a2, a3, a4, a5, a6, a7].map (Value.int .i64))[i]? = some (.int .i64 r) := by rw [List.getElem?_map, hr]; rfl
    rw [← this]; simp)
   by_cases h1 : r < 0
   ·have HF := LH (HP.out false wr (HBi.out (by unfold rtI; rw [decide_eq_false]; omega)) HM.out.below)
    clear hr
    go_wp2_with (refine wpList_index_arr i Tryz.underlying24 Tryz.underlying3 rfl (by kernel_rfl) (by omega) (by omega) HV.out rfl rfl rfl rfl ?_)
    exact HF.out
   ·have h1' : decide (r < 0) = false := by simp; omega
    by_cases h2 : 131072 ≤ r
    ·have HF := LH (HP.out false wr (HBi.out (by unfold rtI; rw [decide_eq_false]; omega)) HM.out.below)
     clear hr h1
     go_wp2_with (refine wpList_index_arr i Tryz.underlying24 Tryz.underlying3 rfl (by kernel_rfl) (by omega) (by omega) HV.out rfl rfl rfl rfl ?_)
     exact HF.out
    ·have h2' : decide (131072 ≤ r) = false := by simp; omega
     have HN := LH (HNi.out (by unfold rtI; rw [decide_eq_true]; omega))
     clear hr h1 h2
     go_wp2_with (refine wpList_index_arr i Tryz.underlying24 Tryz.underlying3 rfl (by kernel_rfl) (by omega) (by omega) HV.out rfl rfl rfl rfl ?_)
     exact ⟨⟨i + 1, by omega, vint (by omega), HN, trivial⟩, by simp [intOf]; omega⟩
  ·have hi8 : i = 8 := by omega
   have hltd : decide ((i : Int) < 8) = false := by simp; omega
   have HF := LH (fun b (hb : b = decide (0 < ep)) => HP.out b wr (by
    have h9 := HA.out
    rw [hi8, List.take_of_length_le (by rw [HRs.out]; simp)] at h9
    unfold slotR; rw [h9, hb]; rfl) HM.out.below)
   clear hi8
   by_cases h0 : 0 < ep
   ·have h0' : (0 : Int) < (ep : Int) := by omega
    go_wp2_with fail
    exact HF.out true (by simp [h0])
   ·have h0' : decide ((0 : Int) < (ep : Int)) = false := by simp; omega
    go_wp2_with fail
    exact HF.out false (by simp [h0])
set_option maxHeartbeats 4000000 in
set_option maxRecDepth 100000 in
theorem rslright_any (ep : Nat) (rs : List Int) (hl : rs.length = 8) (hep : ep < 18446744073709551616) (w : World) :
  Calls Tryz.prog 85 #[slotVal ep rs] w fun e w' => e = .returned (.bool (slotR ep rs)) ∧ Below w.heap.size w w' := by
 have HP : Hid (∀ b w', b = slotR ep rs → Below w.heap.size w w' → (fun e w' => e = Ending.returned (.bool (slotR ep rs)) ∧ Below w.heap.size w w') (.returned (.bool b)) w') := LH (fun b w' h1 h2 => by subst h1; exact ⟨rfl, h2⟩)
 generalize hPo : (fun e w' => e = Ending.returned (.bool (slotR ep rs)) ∧ Below w.heap.size w w') = Post at *
 clear hPo
 obtain ⟨a0, a1, a2, a3, a4, a5, a6, a7, rfl⟩ := eight_ints hl
 obtain ⟨rs, hrs⟩ : ∃ rs, rs = [a0, a1, a2, a3, a4, a5, a6, a7] := ⟨_, rfl⟩
 rw [← hrs] at HP
 have HRs := LH hrs
 have HBad : Hid (∀ (i : Nat) r, [a0, a1, a2, a3, a4, a5, a6, a7][i]? = some r → rtI r = false → false = slotR ep rs) := LH (fun i r h1 h2 => by
  unfold slotR; rw [hrs, all_bad h1 h2]; rfl)
 have HNx : Hid (∀ (i : Nat) r, [a0, a1, a2, a3, a4, a5, a6, a7][i]? = some r → (rs.take i).all rtI = true → rtI r = true → (rs.take (i + 1)).all rtI = true) := LH (fun i r h1 h2 h3 => all_next h2 (by rw [hrs]; exact h1) h3)
 clear hrs hl
 rw [show slotVal ep [a0, a1, a2, a3, a4, a5, a6, a7] = .agg #[vu64 ep, .int .i64 a0, .int .i64 a1, .int .i64 a2, .int .i64 a3, .int .i64 a4, .int .i64 a5, .int .i64 a6, .int .i64 a7] from rfl]
 have HM := LH (Mem.one w #[vu64 ep, .int .i64 a0, .int .i64 a1, .int .i64 a2, .int .i64 a3, .int .i64 a4, .int .i64 a5, .int .i64 a6, .int .i64 a7] 55)
 go_enter Tryz.func85, Tryz.ntmps85
 go_upto_region 1 with fail
 obtain ⟨q, hq⟩ : ∃ q, q = w.heap.size := ⟨_, rfl⟩
 rw [← hq] at HM ⊢
 generalize w.alloc _ = w1 at *
 clear hq
 have d0 := HM.out.cell 0 0 rfl rfl
 go_wp2_with fail
 go_loopw [3] (fun iv wr => ∃ i : Nat, i ≤ 8 ∧ iv = .int .i64 (i : Int) ∧ Hid ((rs.take i).all rtI = true) ∧ wr = w1) (fun iv _ => 8 - (intOf iv).toNat)
 case atStart => exact ⟨0, by omega, rfl, LH rfl, rfl⟩
 case round =>
  obtain ⟨i, hi, rfl, HA, rfl⟩ := hrel
  by_cases hlt : i < 8
  ·obtain ⟨r, hr⟩ : ∃ r, [a0, a1, a2, a3, a4, a5, a6, a7][i]? = some r := ⟨_, List.getElem?_eq_getElem (by simpa using hlt)⟩
   have HBi := LH (HBad.out i r hr)
   have HNi := LH (HNx.out i r hr HA.out)
   have hlt' : (i : Int) < 8 := by omega
   have e1 : wr.cell? ⟨q, 1 + i, none⟩ = some (.int .i64 r) := HM.out.cell 0 (1 + i) rfl (by
    have : ([a0, a1, a2, a3, a4, a5, a6, a7].map (Value.int .i64))[i]? = some (.int .i64 r) := by rw [List.getElem?_map, hr]; rfl
    rw [← this, Nat.add_comm]
    show (vu64 ep :: [a0, a1, a2, a3, a4, a5, a6, a7].map (Value.int .i64))[i + 1]? = _
    rw [List.getElem?_cons_succ])
   by_cases h1 : r < 0
   ·have HF := LH (HP.out false wr (HBi.out (by unfold rtI; rw [decide_eq_false]; omega)) HM.out.below)
    clear hr
    go_wp2_with fail
    exact HF.out
   ·have h1' : decide (r < 0) = false := by simp; omega
    by_cases h2 : 131071 < r
    ·have HF := LH (HP.out false wr (HBi.out (by unfold rtI; rw [decide_eq_false]; omega)) HM.out.below)
     clear hr h1
     go_wp2_with fail
     exact HF.out
    ·have h2' : decide (131071 < r) = false := by simp; omega
     have HN := LH (HNi.out (by unfold rtI; rw [decide_eq_true]; omega))
     clear hr h1 h2
     go_wp2_with fail
     exact ⟨⟨i + 1, by omega, vint (by omega), HN, trivial⟩, by simp [intOf]; omega⟩
  ·have hi8 : i = 8 := by omega
   have hltd : decide ((i : Int) < 8) = false := by simp; omega
   have HF := LH (fun b (hb : b = decide (0 < ep)) => HP.out b wr (by
    have h9 := HA.out
    rw [hi8, List.take_of_length_le (by rw [HRs.out]; simp)] at h9
    unfold slotR; rw [h9, hb]; rfl) HM.out.below)
   clear hi8
   by_cases h0 : 0 < ep
   ·have h0' : (0 : Int) < (ep : Int) := by omega
    go_wp2_with fail
    exact HF.out true (by simp [h0])
   ·have h0' : decide ((0 : Int) < (ep : Int)) = false := by simp; omega
    go_wp2_with fail
    exact HF.out false (by simp [h0])
set_option maxHeartbeats 1000000 in
theorem gright_any (n : Int) (w : World) : Calls Tryz.prog 62 #[.agg #[.int .i64 n]] w fun e w' => e = .returned (.bool (decide (2 ≤ n ∧ n ≤ 256))) ∧ Below w.heap.size w w' := by
 have HM := LH (Mem.one w #[.int .i64 n] 44)
 have HP : Hid (∀ b w', b = decide (2 ≤ n ∧ n ≤ 256) → Below w.heap.size w w' → (fun e w' => e = Ending.returned (.bool (decide (2 ≤ n ∧ n ≤ 256))) ∧ Below w.heap.size w w') (.returned (.bool b)) w') := LH (fun b w' h1 h2 => by subst h1; exact ⟨rfl, h2⟩)
 generalize (fun e w' => e = Ending.returned (.bool (decide (2 ≤ n ∧ n ≤ 256))) ∧ Below w.heap.size w w') = Post at *
 go_enter Tryz.func62, Tryz.ntmps62
 go_upto_region 1 with fail
 obtain ⟨q, hq⟩ : ∃ q, q = w.heap.size := ⟨_, rfl⟩
 rw [← hq] at HM ⊢
 generalize w.alloc _ = w1 at *
 clear hq
 have d0 := HM.out.cell 0 0 rfl rfl
 by_cases h2 : 2 ≤ n
 ·by_cases h3 : n ≤ 256
  ·have HF := LH (HP.out true w1 (by simp [h2, h3]) HM.out.below)
   go_wp2_with fail
   exact HF.out
  ·have h3' : decide (n ≤ 256) = false := by simp; omega
   have HF := LH (HP.out false w1 (by simp; omega) HM.out.below)
   clear h3
   go_wp2_with fail
   exact HF.out
 ·have h2' : decide (2 ≤ n) = false := by simp; omega
  have HF := LH (HP.out false w1 (by simp; omega) HM.out.below)
  clear h2
  go_wp2_with fail
  exact HF.out
def SdPost (t : Nat × Nat × Int) (w : World) : Ending → World → Prop := fun e w' => e = .returned (.tuple #[.agg #[.int .i64 (t.1 : Int), vu64 t.2.1], .int .i64 t.2.2]) ∧ Below w.heap.size w w'
theorem eight_list {ws : List Nat} (h : ws.length = 8) : ∃ a0 a1 a2 a3 a4 a5 a6 a7, ws = [a0, a1, a2, a3, a4, a5, a6, a7] := by
 match ws, h with
 | [a0, a1, a2, a3, a4, a5, a6, a7], _ => exact ⟨a0, a1, a2, a3, a4, a5, a6, a7, rfl⟩
theorem aggSu : Agg Tryz.prog 42 #[.int .i64 0, .int .u64 0] := ⟨⟨_, Tryz.underlying42, rfl⟩, by kernel_rfl⟩
set_option maxHeartbeats 4000000 in
set_option maxRecDepth 100000 in
theorem sdecode_any (ws : List Nat) (hl : ws.length = 8) (hu : ∀ z ∈ ws, z < 18446744073709551616) (w : World) :
  Calls Tryz.prog 87 #[arrW ws] w (SdPost (supD ws) w) := by
 have HP : Hid (∀ (n id : Nat) (e : Int) w', (n, id, e) = supD ws → Below w.heap.size w w' → SdPost (supD ws) w (.returned (.tuple #[.agg #[.int .i64 (n : Int), vu64 id], .int .i64 e])) w') := LH (fun n id e w' h1 h2 => by rw [← h1]; exact ⟨rfl, h2⟩)
 generalize hPo : SdPost (supD ws) w = Post at *
 clear hPo
 obtain ⟨a0, a1, a2, a3, a4, a5, a6, a7, rfl⟩ := eight_list hl
 have h0 := hu a0 (by simp)
 have h2 := hu a2 (by simp)
 have h3 := hu a3 (by simp)
 have HU := LH hu
 have HD : Hid (supD [a0, a1, a2, a3, a4, a5, a6, a7] = if a0 ≠ magicN then (0, 0, 24) else if a7 ≠ wordsN [a0, a1, a2, a3, a4, a5, a6] then (0, 0, 25) else if 2 ≤ a2 ∧ a2 ≤ 256 ∧ supN a2 a3 = [a0, a1, a2, a3, a4, a5, a6, a7] then (a2, a3, 0) else (0, 0, 26)) := LH rfl
 clear hu hl
 rw [show arrW [a0, a1, a2, a3, a4, a5, a6, a7] = .agg #[vu64 a0, vu64 a1, vu64 a2, vu64 a3, vu64 a4, vu64 a5, vu64 a6, vu64 a7] from rfl]
 have HM := LH (Mem.two w #[vu64 a0, vu64 a1, vu64 a2, vu64 a3, vu64 a4, vu64 a5, vu64 a6, vu64 a7] 101 #[.int .i64 0, .int .u64 0] 42)
 go_enter Tryz.func87, Tryz.ntmps87
 go_upto_region 1 with fail
 obtain ⟨q1, hq1⟩ : ∃ q, q = w.heap.size := ⟨_, rfl⟩
 obtain ⟨q2, hq2⟩ : ∃ q, q = w.heap.size + 1 := ⟨_, rfl⟩
 rw [← hq2, ← hq1] at HM ⊢
 generalize (w.alloc _).alloc _ = w1 at *
 clear hq1 hq2
 have d0 := HM.out.cell 0 0 rfl rfl
 have d7 := HM.out.cell 0 7 rfl rfl
 by_cases e0 : a0 = magicN
 case neg =>
  have e0' : ((a0 : Int) == 8390047168116913201) = false := by rw [beq_eq_false_iff_ne]; unfold magicN at e0; omega
  have HF := LH (fun w' h => HP.out 0 0 24 w' (by rw [HD.out, if_pos e0]) h)
  clear e0
  go_wp2_with (refine wpList_store_mem aggSu HM.out 1 rfl rfl rfl rfl rfl rfl rfl rfl ?_; intro w6 h6 ht6; have H6 := LH h6; clear h6 ht6)
  refine bodyPost_ret (results_cell_row2 (p := 2) (u := 3) rfl _ _ _ _ _ _ _ rfl (H6.out.exact 1 rfl) Tryz.underlying42 rfl (by kernel_rfl)) rfl ?_
  exact HF.out _ H6.out.below
 have e0' : ((a0 : Int) == 8390047168116913201) = true := by rw [beq_iff_eq, e0]; rfl
 have HE0 := LH e0
 clear e0
 go_upto_region 3 with fail
 have r7 := fun x => later_cell d7 x
 clear d7 d0
 refine wp_region_seg (C := fun w' => ∃ x : Later (w1), w' = x.val) [.fl [0, 1, 2], .sq [3] true, .fl [4], .sq [5, 6] false] (by kernel_rfl) (by kernel_rfl) (by intro c a d v w h; cases d <;> exact h) ?_
 simp only [segs, picks, List.getElem?_cons_succ, List.getElem?_cons_zero]
 have hC1 := later_drew (w1)
 refine wpSeg_fl hC1 ?_
 repeat (first | go_big_quiet_step (fail) | quiet_step (fail))
 refine wpQuiet_nil ?_
 have HM1 := LH (HM.out.later (later_below hC1))
 clear r7
 refine wpSeg_sq (fun K hK => ?_)
 go_wp2_with fail
 refine (crcWords_any (some ⟨q1, 0, none⟩) 8 [a0, a1, a2, a3, a4, a5, a6] rfl _ (row_front (xs := [vu64 a0, vu64 a1, vu64 a2, vu64 a3, vu64 a4, vu64 a5, vu64 a6]) (ys := [vu64 a7]) (HM1.out.at 0 rfl)) (fun z hz => HU.out z (by simp only [List.mem_cons, List.not_mem_nil, or_false] at hz ⊢; omega)) (by simp)).mono ?_
 rintro e w2 ⟨rfl, hb2⟩
 have hC2 := later_step hC1 hb2
 have HM2 := LH (HM1.out.later hb2)
 have hlt := wordsN_lt [a0, a1, a2, a3, a4, a5, a6]
 have HW : Hid (wordsN [a0, a1, a2, a3, a4, a5, a6] = wordsN [a0, a1, a2, a3, a4, a5, a6]) := LH rfl
 obtain ⟨cr, hcr⟩ : ∃ cr, cr = wordsN [a0, a1, a2, a3, a4, a5, a6] := ⟨_, rfl⟩
 rw [← hcr] at hlt ⊢
 have HCr := LH hcr
 clear hb2 HW hcr HM1
 go_wp2_with fail
 refine hK _ _ (fun _ => hC2) ?_
 clear hK K
 refine wpSeg_fl hC2 ?_
 repeat (first | go_big_quiet_step (fail) | quiet_step (fail))
 refine wpQuiet_nil ?_
 clear hC1 hC2
 by_cases e7 : a7 = cr
 case neg =>
  have e7' : ((a7 : Int) == (cr : Int)) = false := by rw [beq_eq_false_iff_ne]; omega
  have HF := LH (fun w' h => HP.out 0 0 25 w' (by rw [HD.out, if_neg (by rw [HE0.out]; simp), if_pos (by rw [← HCr.out]; exact e7)]) h)
  clear e7
  refine wpSeg_last ?_
  go_wp2_with (refine wpList_store_mem aggSu HM2.out 1 rfl rfl rfl rfl rfl rfl rfl rfl ?_; intro w6 h6 ht6; have H6 := LH h6; clear h6 ht6)
  refine bodyPost_ret (results_cell_row2 (p := 2) (u := 3) rfl _ _ _ _ _ _ _ rfl (H6.out.exact 1 rfl) Tryz.underlying42 rfl (by kernel_rfl)) rfl ?_
  exact HF.out _ H6.out.below
 have e7' : ((a7 : Int) == (cr : Int)) = true := by rw [beq_iff_eq, e7]
 have HE7 := LH e7
 have d2 := HM2.out.cell 0 2 rfl rfl
 have d3 := HM2.out.cell 0 3 rfl rfl
 have HF := LH (fun (h9 : ¬ (2 ≤ a2 ∧ a2 ≤ 256)) w' h => HP.out 0 0 26 w' (by rw [HD.out, if_neg (by rw [HE0.out]; simp), if_neg (by rw [HE7.out, HCr.out]; simp), if_neg (fun hh => h9 ⟨hh.1, hh.2.1⟩)]) h)
 clear e7
 by_cases hA : a2 ≤ 1073741824
 case neg =>
  have hmn : min (a2 : Int) 1073741824 = 1073741824 := by omega
  have hA' : ¬ (a2 : Int) ≤ 1073741824 := by omega
  have HF := LH (HF.out (by omega))
  have hrd : decide (2 ≤ (1073741824 : Int) ∧ (1073741824 : Int) ≤ 256) = false := by decide
  have HM3 := LH (HM2.out.alloc #[.int .i64 1073741824, vu64 a3] 42)
  refine wpSeg_last ?_
  go_wp2_with fail
  go_upto_region 6 with fail
  obtain ⟨q4, hq4⟩ : ∃ q, q = w2.heap.size := ⟨_, rfl⟩
  rw [← hq4] at HM3 ⊢
  generalize w2.alloc _ = wc at *
  clear hq4 d2 d3 HM2
  have c0 := HM3.out.cell 2 0 rfl rfl
  have c1 := HM3.out.cell 2 1 rfl rfl
  refine wp_region_seg (C := fun w' => ∃ x : Later (wc), w' = x.val) [.sq [0, 1, 2, 3, 4, 5] false, .fl [6, 8], .sq [7] true, .sq [9, 10] false] (by kernel_rfl) (by kernel_rfl) (by intro c a d v w h; cases d <;> exact h) ?_
  simp only [segs, picks, List.getElem?_cons_succ, List.getElem?_cons_zero]
  have hC1 := later_drew (wc)
  refine wpSeg_sq (fun K hK => ?_)
  go_wp2_with fail
  refine (gright_any 1073741824 _).mono ?_
  rintro e w5 ⟨rfl, hb5⟩
  rw [hrd]
  have hC2 := later_step hC1 hb5
  have HM5 := LH (HM3.out.later (later_below hC2))
  clear hb5 c0 c1
  go_wp2_with fail
  refine hK _ _ (fun h => nomatch h) ?_
  clear hK K
  refine wpSeg_fl hC2 ?_
  repeat (first | go_big_quiet_step (fail) | quiet_step (fail))
  refine wpQuiet_nil ?_
  refine wpSeg_sq (fun K hK => ?_)
  go_wp2_with fail
  go_wp2_with fail
  refine hK _ _ (fun _ => hC2) ?_
  clear hK K
  clear hC1 hC2
  refine wpSeg_last ?_
  go_wp2_with (refine wpList_store_mem aggSu HM5.out 1 rfl rfl rfl rfl rfl rfl rfl rfl ?_; intro w6 h6 ht6; have H6 := LH h6; clear h6 ht6)
  refine bodyPost_ret (results_cell_row2 (p := 2) (u := 3) rfl _ _ _ _ _ _ _ rfl (H6.out.exact 1 rfl) Tryz.underlying42 rfl (by kernel_rfl)) rfl ?_
  exact HF.out _ H6.out.below
 have hmn : min (a2 : Int) 1073741824 = (a2 : Int) := by omega
 have hA' : (a2 : Int) ≤ 1073741824 := by omega
 have HM3 := LH (HM2.out.alloc #[.int .i64 (a2 : Int), vu64 a3] 42)
 refine wpSeg_last ?_
 go_wp2_with fail
 go_upto_region 6 with fail
 obtain ⟨q4, hq4⟩ : ∃ q, q = w2.heap.size := ⟨_, rfl⟩
 rw [← hq4] at HM3 ⊢
 generalize w2.alloc _ = wc at *
 clear hq4 d2 d3 HM2
 have c0 := HM3.out.cell 2 0 rfl rfl
 have c1 := HM3.out.cell 2 1 rfl rfl
 by_cases hr : 2 ≤ a2 ∧ a2 ≤ 256
 case neg =>
  have HF := LH (HF.out hr)
  have hrd : decide (2 ≤ (a2 : Int) ∧ (a2 : Int) ≤ 256) = false := by simp; omega
  clear hr
  refine wp_region_seg (C := fun w' => ∃ x : Later (wc), w' = x.val) [.sq [0, 1, 2, 3, 4, 5] false, .fl [6, 8], .sq [7] true, .sq [9, 10] false] (by kernel_rfl) (by kernel_rfl) (by intro c a d v w h; cases d <;> exact h) ?_
  simp only [segs, picks, List.getElem?_cons_succ, List.getElem?_cons_zero]
  have hC1 := later_drew (wc)
  refine wpSeg_sq (fun K hK => ?_)
  go_wp2_with fail
  refine (gright_any (a2 : Int) _).mono ?_
  rintro e w5 ⟨rfl, hb5⟩
  rw [hrd]
  have hC2 := later_step hC1 hb5
  have HM5 := LH (HM3.out.later (later_below hC2))
  clear hb5 c0 c1
  go_wp2_with fail
  refine hK _ _ (fun h => nomatch h) ?_
  clear hK K
  refine wpSeg_fl hC2 ?_
  repeat (first | go_big_quiet_step (fail) | quiet_step (fail))
  refine wpQuiet_nil ?_
  refine wpSeg_sq (fun K hK => ?_)
  go_wp2_with fail
  go_wp2_with fail
  refine hK _ _ (fun _ => hC2) ?_
  clear hK K
  clear hC1 hC2
  refine wpSeg_last ?_
  go_wp2_with (refine wpList_store_mem aggSu HM5.out 1 rfl rfl rfl rfl rfl rfl rfl rfl ?_; intro w6 h6 ht6; have H6 := LH h6; clear h6 ht6)
  refine bodyPost_ret (results_cell_row2 (p := 2) (u := 3) rfl _ _ _ _ _ _ _ rfl (H6.out.exact 1 rfl) Tryz.underlying42 rfl (by kernel_rfl)) rfl ?_
  exact HF.out _ H6.out.below
 have hrd : decide (2 ≤ (a2 : Int) ∧ (a2 : Int) ≤ 256) = true := by simp; omega
 have HSe := LH (fun w => sencode_any a2 a3 (by omega) h3 w)
 have b0 := HM3.out.cell 0 0 rfl rfl
 have b1 := HM3.out.cell 0 1 rfl rfl
 have b2 := HM3.out.cell 0 2 rfl rfl
 have b3 := HM3.out.cell 0 3 rfl rfl
 have b4 := HM3.out.cell 0 4 rfl rfl
 have b5 := HM3.out.cell 0 5 rfl rfl
 have b6 := HM3.out.cell 0 6 rfl rfl
 have b7 := HM3.out.cell 0 7 rfl rfl
 have r0 := fun x => later_cell b0 x
 have r1 := fun x => later_cell b1 x
 have r2 := fun x => later_cell b2 x
 have r3 := fun x => later_cell b3 x
 have r4 := fun x => later_cell b4 x
 have r5 := fun x => later_cell b5 x
 have r6 := fun x => later_cell b6 x
 have r7 := fun x => later_cell b7 x
 have rc0 := fun x => later_cell c0 x
 have rc1 := fun x => later_cell c1 x
 refine wp_region_seg (C := fun w' => ∃ x : Later (wc), w' = x.val) [.sq [0, 1, 2, 3, 4, 5] false, .fl [6, 8], .sq [7] true, .sq [9, 10] false] (by kernel_rfl) (by kernel_rfl) (by intro c a d v w h; cases d <;> exact h) ?_
 simp only [segs, picks, List.getElem?_cons_succ, List.getElem?_cons_zero]
 have hC1 := later_drew (wc)
 refine wpSeg_sq (fun K hK => ?_)
 go_wp2_with fail
 refine (gright_any (a2 : Int) _).mono ?_
 rintro e w5 ⟨rfl, hb5⟩
 rw [hrd]
 have hC2 := later_step hC1 hb5
 clear hb5 c0 c1 b0 b1 b2 b3 b4 b5 b6 b7
 go_wp2_with fail
 refine hK _ _ (fun h => nomatch h) ?_
 clear hK K
 refine wpSeg_fl hC2 ?_
 repeat (first | go_big_quiet_step (fail) | quiet_step (fail))
 refine wpQuiet_nil ?_
 clear r0 r1 r2 r3 r4 r5 r6 r7 rc0 rc1
 refine wpSeg_sq (fun K hK => ?_)
 go_wp2_with fail
 refine (HSe.out _).mono ?_
 rintro e w6 ⟨rfl, hb6⟩
 have hC3 := later_step hC2 hb6
 have HM6 := LH (HM3.out.later (later_below hC3))
 clear hb6
 go_wp2_with fail
 refine hK _ _ (fun _ => hC3) ?_
 clear hK K
 clear hC1 hC2 hC3
 have HSN : Hid (supN a2 a3 = [magicN, 1, a2, a3, 0, 0, 0, wordsN (supH a2 a3)]) := LH rfl
 rw [show arrW (supN a2 a3) = .agg #[vu64 magicN, vu64 1, vu64 a2, vu64 a3, vu64 0, vu64 0, vu64 0, vu64 (wordsN (supH a2 a3))] from rfl]
 have heq : ∀ w', (Op.equalIn 10000 101 (.agg #[vu64 magicN, vu64 1, vu64 a2, vu64 a3, vu64 0, vu64 0, vu64 0, vu64 (wordsN (supH a2 a3))]) (.agg #[vu64 a0, vu64 a1, vu64 a2, vu64 a3, vu64 a4, vu64 a5, vu64 a6, vu64 a7])).run Tryz.prog w' = .ok (decide (supN a2 a3 = [a0, a1, a2, a3, a4, a5, a6, a7])) w' := fun w' => equal8 w' (supN a2 a3) [a0, a1, a2, a3, a4, a5, a6, a7] rfl rfl
 by_cases hs : supN a2 a3 = [a0, a1, a2, a3, a4, a5, a6, a7]
 ·rw [decide_eq_true hs] at heq
  have HF2 := LH (fun w' h => HP.out a2 a3 0 w' (by rw [HD.out, if_neg (by rw [HE0.out]; simp), if_neg (by rw [HE7.out, HCr.out]; simp), if_pos ⟨hr.1, hr.2, hs⟩]) h)
  generalize wordsN (supH a2 a3) = sc at *
  generalize magicN = mg at *
  clear hs hr
  refine wpSeg_last ?_
  go_wp2_with (first | (refine wpList_load_mem aggSu HM6.out 2 rfl rfl rfl rfl rfl ?_) | (refine wpList_store_mem aggSu HM6.out 1 rfl rfl rfl rfl rfl rfl rfl rfl ?_; intro w6 h6 ht6; have H6 := LH h6; clear h6 ht6))
  refine bodyPost_ret (results_cell_row2 (p := 2) (u := 3) rfl _ _ _ _ _ _ _ rfl (H6.out.exact 1 rfl) Tryz.underlying42 rfl (by kernel_rfl)) rfl ?_
  exact HF2.out _ H6.out.below
 ·rw [decide_eq_false hs] at heq
  have HF2 := LH (fun w' h => HP.out 0 0 26 w' (by rw [HD.out, if_neg (by rw [HE0.out]; simp), if_neg (by rw [HE7.out, HCr.out]; simp), if_neg (fun hh => hs hh.2.2)]) h)
  generalize wordsN (supH a2 a3) = sc at *
  generalize magicN = mg at *
  clear hs hr
  refine wpSeg_last ?_
  go_wp2_with (refine wpList_store_mem aggSu HM6.out 1 rfl rfl rfl rfl rfl rfl rfl rfl ?_; intro w6 h6 ht6; have H6 := LH h6; clear h6 ht6)
  refine bodyPost_ret (results_cell_row2 (p := 2) (u := 3) rfl _ _ _ _ _ _ _ rfl (H6.out.exact 1 rfl) Tryz.underlying42 rfl (by kernel_rfl)) rfl ?_
  exact HF2.out _ H6.out.below
def rowN (n : Nat) (f : Nat → Nat) (i : Nat) : List Nat := (List.range n).map (fun k => if k < i then f k else 0)
theorem rowN_len (n : Nat) (f : Nat → Nat) (i : Nat) : (rowN n f i).length = n := by simp [rowN]
theorem rowN_at (n : Nat) (f : Nat → Nat) (i k : Nat) : (rowN n f i)[k]? = if k < n then some (if k < i then f k else 0) else none := by
 unfold rowN
 rw [List.getElem?_map]
 by_cases h : k < n
 ·rw [if_pos h, List.getElem?_eq_getElem (by simpa using h), List.getElem_range]; rfl
 ·rw [if_neg h, List.getElem?_eq_none (by simp; omega)]; rfl
theorem rowN_set {n : Nat} (f : Nat → Nat) {i : Nat} (hi : i < n) : (rowN n f i).set i (f i) = rowN n f (i + 1) := by
 apply List.ext_getElem?
 intro k
 rw [List.getElem?_set, rowN_at, rowN_at, rowN_len]
 by_cases e : i = k
 ·subst e
  rw [if_pos rfl, if_pos hi, if_pos hi, if_pos (by omega)]
 ·rw [if_neg e]
  by_cases h : k < n
  ·rw [if_pos h, if_pos h]
   by_cases h2 : k < i
   ·rw [if_pos h2, if_pos (by omega)]
   ·rw [if_neg h2, if_neg (by omega)]
  ·rw [if_neg h, if_neg h]
theorem rowN_all (n : Nat) (f : Nat → Nat) : rowN n f n = (List.range n).map f := by
 unfold rowN
 exact List.map_congr_left (fun k hk => by rw [if_pos (List.mem_range.1 hk)])
theorem rowN_none (n : Nat) (f : Nat → Nat) : rowN n f 0 = List.replicate n 0 := by
 apply List.ext_getElem?
 intro k
 rw [rowN_at, List.getElem?_replicate]
 by_cases h : k < n
 ·rw [if_pos h, if_pos h, if_neg (by omega)]
 ·rw [if_neg h, if_neg h]
def dwordsAt (S : Dev) (a n : Nat) : List Nat := (List.range n).map (fun k => peek S.cache ((a + k : Nat) : Int))
theorem peek_u64 {l : List Nat} (hu : ∀ z ∈ l, z < 18446744073709551616) (i : Int) : peek l i < 18446744073709551616 := by
 unfold peek
 split
 ·rw [List.getD_eq_getElem?_getD]
  cases h : l[i.toNat]? with
  | none => simp
  | some x => exact hu x (List.mem_of_getElem? h)
 ·omega
theorem dwordsAt_lt {S : Dev} (hu : ∀ z ∈ S.cache, z < 18446744073709551616) (a n : Nat) : ∀ z ∈ dwordsAt S a n, z < 18446744073709551616 := by
 intro z hz
 obtain ⟨k, _, rfl⟩ := List.mem_map.1 hz
 exact peek_u64 hu _
theorem dwordsAt_len (S : Dev) (a n : Nat) : (dwordsAt S a n).length = n := by simp [dwordsAt]
set_option maxHeartbeats 2000000 in
set_option maxRecDepth 100000 in
theorem sline_any {w : World} {F : Foot} {S : Dev} (h : DevAt w F S) :
  Calls Tryz.prog 88 #[vdev F] w fun e w' => e = .returned (arrW (dwordsAt S 0 8)) ∧ Below w.heap.size w w' := by
 have HP : Hid (∀ w', Below w.heap.size w w' → (fun e w' => e = Ending.returned (arrW (dwordsAt S 0 8)) ∧ Below w.heap.size w w') (.returned (arrW (dwordsAt S 0 8))) w') := LH (fun w' h => ⟨rfl, h⟩)
 generalize (fun e w' => e = Ending.returned (arrW (dwordsAt S 0 8)) ∧ Below w.heap.size w w') = Post at *
 obtain ⟨f, hf⟩ : ∃ f : Nat → Nat, f = fun k => peek S.cache ((0 + k : Nat) : Int) := ⟨_, rfl⟩
 have HAll : Hid (dwordsAt S 0 8 = rowN 8 f 8) := LH (by rw [rowN_all, hf]; rfl)
 have HDv := LH h
 have HG : Hid (∀ (k : Nat) w', Below w.heap.size w w' → Calls Tryz.prog 59 #[vdev F, .int .i64 (k : Int)] w' (fun e w2 => e = .returned (vu64 (f k)) ∧ w' = w2)) := LH (fun k w' hb => by
  rw [hf]
  have := dget_any (h.below hb) (k : Int)
  simpa using this)
 have HM := LH (Mem.two w ((rowN 8 f 0).map vu64).toArray 101 ((rowN 8 f 0).map vu64).toArray 101)
 clear h hf
 go_enter Tryz.func88, Tryz.ntmps88
 go_upto_region 2 with fail
 rw [show (#[.int .u64 0, .int .u64 0, .int .u64 0, .int .u64 0, .int .u64 0, .int .u64 0, .int .u64 0, .int .u64 0] : Array Value) = ((rowN 8 f 0).map vu64).toArray from rfl]
 obtain ⟨q2, hq2⟩ : ∃ q, q = w.heap.size := ⟨_, rfl⟩
 obtain ⟨q3, hq3⟩ : ∃ q, q = w.heap.size + 1 := ⟨_, rfl⟩
 rw [← hq3, ← hq2] at HM ⊢
 generalize (w.alloc _).alloc _ = w1 at *
 clear hq2 hq3
 have HM0 : Hid (Mem w w1 [⟨q2, 101, (rowN 8 f 0).map vu64, true⟩, ⟨q3, 101, (rowN 8 f 0).map vu64, true⟩]) := LH (by simpa using HM.out)
 clear HM
 go_wp2_with fail
 go_loopw [5] (fun iv wr => ∃ i : Nat, i ≤ 8 ∧ iv = .int .i64 (i : Int) ∧ Hid (Mem w wr [⟨q2, 101, (rowN 8 f 0).map vu64, true⟩, ⟨q3, 101, (rowN 8 f i).map vu64, true⟩])) (fun iv _ => 8 - (intOf iv).toNat)
 case atStart => exact ⟨0, by omega, rfl, HM0⟩
 case round =>
  obtain ⟨i, hi, rfl, HM⟩ := hrel
  by_cases hlt : i < 8
  ·have hlt' : (i : Int) < 8 := by omega
   have hz : (0 : Int) + (i : Int) = (i : Int) := by omega
   obtain ⟨u, hu⟩ : ∃ u, ((rowN 8 f i).map vu64)[i]? = some u := ⟨_, List.getElem?_eq_getElem (by rw [List.length_map, rowN_len]; exact hlt)⟩
   have HS : Hid (Mem w (wr.setCell ⟨q3, i, none⟩ (vu64 (f i))) [⟨q2, 101, (rowN 8 f 0).map vu64, true⟩, ⟨q3, 101, (rowN 8 f (i + 1)).map vu64, true⟩]) := LH (by
    have := HM.out.set 1 i (vu64 (f i)) rfl (by rw [List.length_map, rowN_len]; exact hlt)
    rw [← rowN_set f hlt, List.map_set]
    exact this)
   have c0 : wr.cell? ⟨q3, i, none⟩ = some u := HM.out.cell 1 i rfl hu
   have f0 := HM.out.frozen 1 i rfl
   have HGk := LH (HG.out i wr HM.out.below)
   clear hu
   go_wp2_with fail
   refine HGk.out.mono ?_
   rintro e w2 ⟨rfl, rfl⟩
   go_wp2_with fail
   exact ⟨⟨i + 1, by omega, vint (by omega), HS⟩, by simp [intOf]; omega⟩
  ·have hi8 : i = 8 := by omega
   have hltd : decide ((i : Int) < 8) = false := by simp; omega
   rw [hi8, ← HAll.out] at HM
   clear hi8
   go_wp2_with (first
    | (refine wpList_load_mem agg8 HM.out 1 rfl rfl rfl rfl (by rw [List.length_map, dwordsAt_len]; rfl) ?_)
    | (refine wpList_store_mem agg8 HM.out 0 rfl rfl rfl rfl rfl (by simp [dwordsAt_len]) (by simp [dwordsAt_len, rowN_len]) (by simp [Value.oneCell']) ?_; intro w6 h6 ht6; have H6 := LH h6; clear h6 ht6))
   refine bodyPost_ret (results_cell_row (p := 2) rfl _ _ _ _ _ _ _ rfl (H6.out.exact 0 rfl) Tryz.underlying101 rfl (by kernel_rfl)) rfl ?_
   exact HP.out _ H6.out.below
theorem rowN_skip {n : Nat} (f : Nat → Nat) {i : Nat} (hi : i < n) (h : f i = 0) : rowN n f (i + 1) = rowN n f i := by
 apply List.ext_getElem?
 intro k
 rw [rowN_at, rowN_at]
 by_cases e : k = i
 ·subst e
  rw [if_pos hi, if_pos hi, if_pos (by omega), if_neg (by omega), h]
 ·by_cases h1 : k < i
  ·rw [if_pos h1, if_pos (by omega : k < i + 1)]
  ·rw [if_neg h1, if_neg (by omega : ¬ k < i + 1)]
theorem aggSl : Agg Tryz.prog 154 #[.int .u64 0, .int .i64 0, .int .i64 0, .int .i64 0, .int .i64 0, .int .i64 0, .int .i64 0, .int .i64 0, .int .i64 0] := ⟨⟨_, Tryz.underlying154, rfl⟩, by kernel_rfl⟩
def slotH (ep : Nat) (ns : List Nat) (n : Nat) : List Nat := [ep, ns.getD (4 * n) 0, ns.getD (4 * n + 1) 0, ns.getD (4 * n + 2) 0, ns.getD (4 * n + 3) 0, n, 0]
def slotLn (ep : Nat) (ns : List Nat) (n : Nat) : List Nat := slotH ep ns n ++ [wordsN (slotH ep ns n)]
def slotE (ep : Nat) (ns : List Nat) : List Nat := slotLn ep ns 0 ++ slotLn ep ns 1
def slotW (ep : Nat) (rs : List Int) : List Nat := if slotR ep rs = true then slotE ep (rs.map Int.toNat) else List.replicate 16 0
theorem agg16 : Agg Tryz.prog 113 #[.int .u64 0, .int .u64 0, .int .u64 0, .int .u64 0, .int .u64 0, .int .u64 0, .int .u64 0, .int .u64 0, .int .u64 0, .int .u64 0, .int .u64 0, .int .u64 0, .int .u64 0, .int .u64 0, .int .u64 0, .int .u64 0] := ⟨⟨_, Tryz.underlying113, rfl⟩, by kernel_rfl⟩
theorem slotR_nat {rs : List Int} {ep : Nat} (h : slotR ep rs = true) : ∀ r ∈ rs, ∃ n : Nat, r = (n : Int) ∧ n < 131072 := fun r hr => by
 unfold slotR at h
 rw [Bool.and_eq_true, List.all_eq_true] at h
 have h1 := of_decide_eq_true (h.1 r hr)
 exact ⟨r.toNat, by omega, by omega⟩
theorem slotW_len (ep : Nat) (rs : List Int) : (slotW ep rs).length = 16 := by
 unfold slotW
 split
 ·rfl
 ·simp
def SlPost (ep : Nat) (rs : List Int) (w : World) : Ending → World → Prop := fun e w' => e = .returned (arrW (slotW ep rs)) ∧ Below w.heap.size w w'
set_option maxHeartbeats 8000000 in
set_option maxRecDepth 100000 in
theorem slencode_any (ep : Nat) (rs : List Int) (hl : rs.length = 8) (hep : ep < 18446744073709551616) (w : World) :
  Calls Tryz.prog 155 #[slotVal ep rs] w (SlPost ep rs w) := by
 have HP : Hid (∀ w', Below w.heap.size w w' → SlPost ep rs w (.returned (arrW (slotW ep rs))) w') := LH (fun w' h => ⟨rfl, h⟩)
 generalize hPo : SlPost ep rs w = Post at *
 clear hPo
 have HRt := LH (fun w => slright_any ep rs hl hep w)
 have HNat := LH (fun (h : slotR ep rs = true) => slotR_nat h)
 have HWd : Hid (slotW ep rs = if slotR ep rs = true then slotE ep (rs.map Int.toNat) else List.replicate 16 0) := LH rfl
 obtain ⟨a0, a1, a2, a3, a4, a5, a6, a7, rfl⟩ := eight_ints hl
 have hsv : slotVal ep [a0, a1, a2, a3, a4, a5, a6, a7] = .agg #[vu64 ep, .int .i64 a0, .int .i64 a1, .int .i64 a2, .int .i64 a3, .int .i64 a4, .int .i64 a5, .int .i64 a6, .int .i64 a7] := rfl
 rw [hsv]
 rw [hsv] at HRt
 have HM := LH ((Mem.two w #[vu64 ep, .int .i64 a0, .int .i64 a1, .int .i64 a2, .int .i64 a3, .int .i64 a4, .int .i64 a5, .int .i64 a6, .int .i64 a7] 154 #[.int .u64 0, .int .u64 0, .int .u64 0, .int .u64 0, .int .u64 0, .int .u64 0, .int .u64 0, .int .u64 0, .int .u64 0, .int .u64 0, .int .u64 0, .int .u64 0, .int .u64 0, .int .u64 0, .int .u64 0, .int .u64 0] 113).alloc #[.int .u64 0, .int .u64 0, .int .u64 0, .int .u64 0, .int .u64 0, .int .u64 0, .int .u64 0, .int .u64 0, .int .u64 0, .int .u64 0, .int .u64 0, .int .u64 0, .int .u64 0, .int .u64 0, .int .u64 0, .int .u64 0] 113)
 clear hsv hl
 go_enter Tryz.func155, Tryz.ntmps155
 go_upto_region 2 with fail
 obtain ⟨q1, hq1⟩ : ∃ q, q = w.heap.size := ⟨_, rfl⟩
 obtain ⟨q2, hq2⟩ : ∃ q, q = w.heap.size + 1 := ⟨_, rfl⟩
 obtain ⟨q3, hq3⟩ : ∃ q, q = w.heap.size + 1 + 1 := ⟨_, rfl⟩
 have HM0 : Hid (Mem w (((w.alloc (.cells #[vu64 ep, .int .i64 a0, .int .i64 a1, .int .i64 a2, .int .i64 a3, .int .i64 a4, .int .i64 a5, .int .i64 a6, .int .i64 a7] 154)).alloc (.cells #[.int .u64 0, .int .u64 0, .int .u64 0, .int .u64 0, .int .u64 0, .int .u64 0, .int .u64 0, .int .u64 0, .int .u64 0, .int .u64 0, .int .u64 0, .int .u64 0, .int .u64 0, .int .u64 0, .int .u64 0, .int .u64 0] 113)).alloc (.cells #[.int .u64 0, .int .u64 0, .int .u64 0, .int .u64 0, .int .u64 0, .int .u64 0, .int .u64 0, .int .u64 0, .int .u64 0, .int .u64 0, .int .u64 0, .int .u64 0, .int .u64 0, .int .u64 0, .int .u64 0, .int .u64 0] 113)) [⟨q1, 154, [vu64 ep, .int .i64 a0, .int .i64 a1, .int .i64 a2, .int .i64 a3, .int .i64 a4, .int .i64 a5, .int .i64 a6, .int .i64 a7], true⟩, ⟨q2, 113, (List.replicate 16 0).map vu64, true⟩, ⟨q3, 113, (List.replicate 16 0).map vu64, true⟩]) := LH (by
  have := HM.out
  simp only [World.size_alloc] at this
  rw [hq1, hq2, hq3]
  exact this)
 rw [← hq3, ← hq2, ← hq1]
 clear HM
 obtain ⟨w1, hw1⟩ : ∃ w1, w1 = (((w.alloc (.cells #[vu64 ep, .int .i64 a0, .int .i64 a1, .int .i64 a2, .int .i64 a3, .int .i64 a4, .int .i64 a5, .int .i64 a6, .int .i64 a7] 154)).alloc (.cells #[.int .u64 0, .int .u64 0, .int .u64 0, .int .u64 0, .int .u64 0, .int .u64 0, .int .u64 0, .int .u64 0, .int .u64 0, .int .u64 0, .int .u64 0, .int .u64 0, .int .u64 0, .int .u64 0, .int .u64 0, .int .u64 0] 113)).alloc (.cells #[.int .u64 0, .int .u64 0, .int .u64 0, .int .u64 0, .int .u64 0, .int .u64 0, .int .u64 0, .int .u64 0, .int .u64 0, .int .u64 0, .int .u64 0, .int .u64 0, .int .u64 0, .int .u64 0, .int .u64 0, .int .u64 0] 113)) := ⟨_, rfl⟩
 rw [← hw1] at HM0 ⊢
 clear hq1 hq2 hq3 hw1
 go_wp2_with (refine wpList_load_mem aggSl HM0.out 0 rfl rfl rfl rfl rfl ?_)
 refine (HRt.out w1).mono ?_
 rintro e w2 ⟨rfl, hb2⟩
 have HM2 := LH (HM0.out.later hb2)
 clear hb2 HM0
 by_cases hr : slotR ep [a0, a1, a2, a3, a4, a5, a6, a7] = true
 case neg =>
  have hrf : slotR ep [a0, a1, a2, a3, a4, a5, a6, a7] = false := by simpa using hr
  rw [hrf]
  have HF := LH (fun w' h => HP.out w' h)
  rw [HWd.out, if_neg hr] at HF
  clear hr
  go_wp2_with (first
   | (refine wpList_load_mem agg16 HM2.out 2 rfl rfl rfl rfl rfl ?_)
   | (refine wpList_store_mem agg16 HM2.out 1 rfl rfl rfl rfl rfl rfl rfl rfl ?_; intro w6 h6 ht6; have H6 := LH h6; clear h6 ht6))
  refine bodyPost_ret (results_cell_row (p := 2) rfl _ _ _ _ _ _ _ rfl (H6.out.exact 1 rfl) Tryz.underlying113 rfl (by kernel_rfl)) rfl ?_
  exact HF.out _ H6.out.below
 rw [hr]
 have HF := LH (fun w' h => HP.out w' h)
 rw [HWd.out, if_pos hr] at HF
 obtain ⟨n0, rfl, hn0⟩ := HNat.out hr a0 (by simp)
 obtain ⟨n1, rfl, hn1⟩ := HNat.out hr a1 (by simp)
 obtain ⟨n2, rfl, hn2⟩ := HNat.out hr a2 (by simp)
 obtain ⟨n3, rfl, hn3⟩ := HNat.out hr a3 (by simp)
 obtain ⟨n4, rfl, hn4⟩ := HNat.out hr a4 (by simp)
 obtain ⟨n5, rfl, hn5⟩ := HNat.out hr a5 (by simp)
 obtain ⟨n6, rfl, hn6⟩ := HNat.out hr a6 (by simp)
 obtain ⟨n7, rfl, hn7⟩ := HNat.out hr a7 (by simp)
 rw [show [(n0 : Int), n1, n2, n3, n4, n5, n6, n7].map Int.toNat = [n0, n1, n2, n3, n4, n5, n6, n7] from rfl] at HF
 obtain ⟨f, hf⟩ : ∃ f : Nat → Nat, f = fun k => (slotE ep [n0, n1, n2, n3, n4, n5, n6, n7]).getD k 0 := ⟨_, rfl⟩
 have HAll : Hid (rowN 16 f 16 = slotE ep [n0, n1, n2, n3, n4, n5, n6, n7]) := LH (by rw [rowN_all, hf]; rfl)
 obtain ⟨s0, hs0⟩ : ∃ s, s = wordsN (slotH ep [n0, n1, n2, n3, n4, n5, n6, n7] 0) := ⟨_, rfl⟩
 obtain ⟨s1, hs1⟩ : ∃ s, s = wordsN (slotH ep [n0, n1, n2, n3, n4, n5, n6, n7] 1) := ⟨_, rfl⟩
 have f0 : f 0 = ep := by rw [hf]; rfl
 have f1 : f 1 = n0 := by rw [hf]; rfl
 have f2 : f 2 = n1 := by rw [hf]; rfl
 have f3 : f 3 = n2 := by rw [hf]; rfl
 have f4 : f 4 = n3 := by rw [hf]; rfl
 have f5 : f 5 = 0 := by rw [hf]; rfl
 have f6 : f 6 = 0 := by rw [hf]; rfl
 have f7 : f 7 = s0 := by rw [hf, hs0]; rfl
 have f8 : f 8 = ep := by rw [hf]; rfl
 have f9 : f 9 = n4 := by rw [hf]; rfl
 have f10 : f 10 = n5 := by rw [hf]; rfl
 have f11 : f 11 = n6 := by rw [hf]; rfl
 have f12 : f 12 = n7 := by rw [hf]; rfl
 have f13 : f 13 = 1 := by rw [hf]; rfl
 have f14 : f 14 = 0 := by rw [hf]; rfl
 have f15 : f 15 = s1 := by rw [hf, hs1]; rfl
 have hl0 : s0 < 4294967296 := by rw [hs0]; exact wordsN_lt _
 have hl1 : s1 < 4294967296 := by rw [hs1]; exact wordsN_lt _
 have HC0 := LH (fun (a : Option Addr) (cap : Nat) (w' : World) (h : Cells w' a ((slotH ep [n0, n1, n2, n3, n4, n5, n6, n7] 0).map vu64)) => crcWords_any a cap (slotH ep [n0, n1, n2, n3, n4, n5, n6, n7] 0) (n := 7) rfl w' h (by intro z hz; simp only [slotH, List.mem_cons, List.not_mem_nil, or_false] at hz; rcases hz with rfl | rfl | rfl | rfl | rfl | rfl | rfl <;> (try simp) <;> omega) (by simp [slotH]))
 have HC1 := LH (fun (a : Option Addr) (cap : Nat) (w' : World) (h : Cells w' a ((slotH ep [n0, n1, n2, n3, n4, n5, n6, n7] 1).map vu64)) => crcWords_any a cap (slotH ep [n0, n1, n2, n3, n4, n5, n6, n7] 1) (n := 7) rfl w' h (by intro z hz; simp only [slotH, List.mem_cons, List.not_mem_nil, or_false] at hz; rcases hz with rfl | rfl | rfl | rfl | rfl | rfl | rfl <;> (try simp) <;> omega) (by simp [slotH]))
 rw [← hs0] at HC0
 rw [← hs1] at HC1
 have HM3 : Hid (Mem w w2 [⟨q1, 154, [vu64 ep, .int .i64 (n0 : Int), .int .i64 (n1 : Int), .int .i64 (n2 : Int), .int .i64 (n3 : Int), .int .i64 (n4 : Int), .int .i64 (n5 : Int), .int .i64 (n6 : Int), .int .i64 (n7 : Int)], true⟩, ⟨q2, 113, (List.replicate 16 0).map vu64, true⟩, ⟨q3, 113, (rowN 16 f (0)).map vu64, true⟩]) := LH (by rw [rowN_none]; exact HM2.out)
 clear hf hs0 hs1 HM2 HNat HWd hr
 go_wp2_with fail
 go_loopw [11] (fun iv wr => ∃ n : Nat, n ≤ 2 ∧ iv = .int .i64 (n : Int) ∧ Hid (Mem w wr [⟨q1, 154, [vu64 ep, .int .i64 (n0 : Int), .int .i64 (n1 : Int), .int .i64 (n2 : Int), .int .i64 (n3 : Int), .int .i64 (n4 : Int), .int .i64 (n5 : Int), .int .i64 (n6 : Int), .int .i64 (n7 : Int)], true⟩, ⟨q2, 113, (List.replicate 16 0).map vu64, true⟩, ⟨q3, 113, (rowN 16 f (8 * n)).map vu64, true⟩])) (fun iv _ => 2 - (intOf iv).toNat)
 case atStart => exact ⟨0, by omega, rfl, HM3⟩
 case round =>
  obtain ⟨n, hn, rfl, HM⟩ := hrel
  rcases (by omega : n = 0 ∨ n = 1 ∨ n = 2) with rfl | rfl | rfl
  ·rw [show ((0 : Nat) : Int) = 0 from rfl]
   rw [show (8 * 0) = 0 from rfl] at HM
   have e0 := HM.out.cell 0 0 rfl rfl
   obtain ⟨u, hu⟩ : ∃ u, ((rowN 16 f 0).map vu64)[0]? = some u := ⟨_, List.getElem?_eq_getElem (by rw [List.length_map, rowN_len]; omega)⟩
   have c0 : wr.cell? ⟨q3, 0, none⟩ = some u := HM.out.cell 2 0 rfl hu
   have k0 := HM.out.frozen 2 0 rfl
   have HS : Hid (Mem w (wr.setCell ⟨q3, 0, none⟩ (vu64 ep)) [⟨q1, 154, [vu64 ep, .int .i64 (n0 : Int), .int .i64 (n1 : Int), .int .i64 (n2 : Int), .int .i64 (n3 : Int), .int .i64 (n4 : Int), .int .i64 (n5 : Int), .int .i64 (n6 : Int), .int .i64 (n7 : Int)], true⟩, ⟨q2, 113, (List.replicate 16 0).map vu64, true⟩, ⟨q3, 113, (rowN 16 f (1)).map vu64, true⟩]) := LH (by
     have := HM.out.set 2 0 (vu64 (f 0)) rfl (by rw [List.length_map, rowN_len]; omega)
     rw [← List.map_set, rowN_set f (by omega : 0 < 16), f0] at this
     exact this)
   clear hu
   go_wp2_with fail
   go_loopw [24] (fun iv wx => ∃ i : Nat, i ≤ 4 ∧ iv = .int .i64 (i : Int) ∧ Hid (Mem w wx [⟨q1, 154, [vu64 ep, .int .i64 (n0 : Int), .int .i64 (n1 : Int), .int .i64 (n2 : Int), .int .i64 (n3 : Int), .int .i64 (n4 : Int), .int .i64 (n5 : Int), .int .i64 (n6 : Int), .int .i64 (n7 : Int)], true⟩, ⟨q2, 113, (List.replicate 16 0).map vu64, true⟩, ⟨q3, 113, (rowN 16 f (1 + i)).map vu64, true⟩])) (fun iv _ => 4 - (intOf iv).toNat)
   case atStart => exact ⟨0, by omega, rfl, HS⟩
   case round =>
    obtain ⟨i, hi, rfl, HMi⟩ := hrel
    rcases (by omega : i = 0 ∨ i = 1 ∨ i = 2 ∨ i = 3 ∨ i = 4) with rfl | rfl | rfl | rfl | rfl
    ·rw [show ((0 : Nat) : Int) = 0 from rfl]
     rw [show 1 + 0 = 1 from rfl] at HMi
     have e1 := HMi.out.cell 0 1 rfl rfl
     obtain ⟨u1, hu⟩ : ∃ u, ((rowN 16 f 1).map vu64)[1]? = some u := ⟨_, List.getElem?_eq_getElem (by rw [List.length_map, rowN_len]; omega)⟩
     have c1 : wr.cell? ⟨q3, 1, none⟩ = some u1 := HMi.out.cell 2 1 rfl hu
     have k1 := HMi.out.frozen 2 1 rfl
     have HT : Hid (Mem w (wr.setCell ⟨q3, 1, none⟩ (vu64 n0)) [⟨q1, 154, [vu64 ep, .int .i64 (n0 : Int), .int .i64 (n1 : Int), .int .i64 (n2 : Int), .int .i64 (n3 : Int), .int .i64 (n4 : Int), .int .i64 (n5 : Int), .int .i64 (n6 : Int), .int .i64 (n7 : Int)], true⟩, ⟨q2, 113, (List.replicate 16 0).map vu64, true⟩, ⟨q3, 113, (rowN 16 f (2)).map vu64, true⟩]) := LH (by
      have := HMi.out.set 2 1 (vu64 (f 1)) rfl (by rw [List.length_map, rowN_len]; omega)
      rw [← List.map_set, rowN_set f (by omega : 1 < 16), f1] at this
      exact this)
     clear hu
     go_wp2_with fail
     exact ⟨⟨1, by omega, rfl, HT⟩, by simp [intOf]⟩
    ·rw [show ((1 : Nat) : Int) = 1 from rfl]
     rw [show 1 + 1 = 2 from rfl] at HMi
     have e1 := HMi.out.cell 0 2 rfl rfl
     obtain ⟨u1, hu⟩ : ∃ u, ((rowN 16 f 2).map vu64)[2]? = some u := ⟨_, List.getElem?_eq_getElem (by rw [List.length_map, rowN_len]; omega)⟩
     have c1 : wr.cell? ⟨q3, 2, none⟩ = some u1 := HMi.out.cell 2 2 rfl hu
     have k1 := HMi.out.frozen 2 2 rfl
     have HT : Hid (Mem w (wr.setCell ⟨q3, 2, none⟩ (vu64 n1)) [⟨q1, 154, [vu64 ep, .int .i64 (n0 : Int), .int .i64 (n1 : Int), .int .i64 (n2 : Int), .int .i64 (n3 : Int), .int .i64 (n4 : Int), .int .i64 (n5 : Int), .int .i64 (n6 : Int), .int .i64 (n7 : Int)], true⟩, ⟨q2, 113, (List.replicate 16 0).map vu64, true⟩, ⟨q3, 113, (rowN 16 f (3)).map vu64, true⟩]) := LH (by
      have := HMi.out.set 2 2 (vu64 (f 2)) rfl (by rw [List.length_map, rowN_len]; omega)
      rw [← List.map_set, rowN_set f (by omega : 2 < 16), f2] at this
      exact this)
     clear hu
     go_wp2_with fail
     exact ⟨⟨2, by omega, rfl, HT⟩, by simp [intOf]⟩
    ·rw [show ((2 : Nat) : Int) = 2 from rfl]
     rw [show 1 + 2 = 3 from rfl] at HMi
     have e1 := HMi.out.cell 0 3 rfl rfl
     obtain ⟨u1, hu⟩ : ∃ u, ((rowN 16 f 3).map vu64)[3]? = some u := ⟨_, List.getElem?_eq_getElem (by rw [List.length_map, rowN_len]; omega)⟩
     have c1 : wr.cell? ⟨q3, 3, none⟩ = some u1 := HMi.out.cell 2 3 rfl hu
     have k1 := HMi.out.frozen 2 3 rfl
     have HT : Hid (Mem w (wr.setCell ⟨q3, 3, none⟩ (vu64 n2)) [⟨q1, 154, [vu64 ep, .int .i64 (n0 : Int), .int .i64 (n1 : Int), .int .i64 (n2 : Int), .int .i64 (n3 : Int), .int .i64 (n4 : Int), .int .i64 (n5 : Int), .int .i64 (n6 : Int), .int .i64 (n7 : Int)], true⟩, ⟨q2, 113, (List.replicate 16 0).map vu64, true⟩, ⟨q3, 113, (rowN 16 f (4)).map vu64, true⟩]) := LH (by
      have := HMi.out.set 2 3 (vu64 (f 3)) rfl (by rw [List.length_map, rowN_len]; omega)
      rw [← List.map_set, rowN_set f (by omega : 3 < 16), f3] at this
      exact this)
     clear hu
     go_wp2_with fail
     exact ⟨⟨3, by omega, rfl, HT⟩, by simp [intOf]⟩
    ·rw [show ((3 : Nat) : Int) = 3 from rfl]
     rw [show 1 + 3 = 4 from rfl] at HMi
     have e1 := HMi.out.cell 0 4 rfl rfl
     obtain ⟨u1, hu⟩ : ∃ u, ((rowN 16 f 4).map vu64)[4]? = some u := ⟨_, List.getElem?_eq_getElem (by rw [List.length_map, rowN_len]; omega)⟩
     have c1 : wr.cell? ⟨q3, 4, none⟩ = some u1 := HMi.out.cell 2 4 rfl hu
     have k1 := HMi.out.frozen 2 4 rfl
     have HT : Hid (Mem w (wr.setCell ⟨q3, 4, none⟩ (vu64 n3)) [⟨q1, 154, [vu64 ep, .int .i64 (n0 : Int), .int .i64 (n1 : Int), .int .i64 (n2 : Int), .int .i64 (n3 : Int), .int .i64 (n4 : Int), .int .i64 (n5 : Int), .int .i64 (n6 : Int), .int .i64 (n7 : Int)], true⟩, ⟨q2, 113, (List.replicate 16 0).map vu64, true⟩, ⟨q3, 113, (rowN 16 f (5)).map vu64, true⟩]) := LH (by
      have := HMi.out.set 2 4 (vu64 (f 4)) rfl (by rw [List.length_map, rowN_len]; omega)
      rw [← List.map_set, rowN_set f (by omega : 4 < 16), f4] at this
      exact this)
     clear hu
     go_wp2_with fail
     exact ⟨⟨4, by omega, rfl, HT⟩, by simp [intOf]⟩
    ·rw [show ((4 : Nat) : Int) = 4 from rfl]
     rw [show 1 + 4 = 5 from rfl] at HMi
     obtain ⟨u1, hu⟩ : ∃ u, ((rowN 16 f 5).map vu64)[5]? = some u := ⟨_, List.getElem?_eq_getElem (by rw [List.length_map, rowN_len]; omega)⟩
     have c1 : wr.cell? ⟨q3, 5, none⟩ = some u1 := HMi.out.cell 2 5 rfl hu
     have k1 := HMi.out.frozen 2 5 rfl
     have HT : Hid (Mem w (wr.setCell ⟨q3, 5, none⟩ (vu64 0)) [⟨q1, 154, [vu64 ep, .int .i64 (n0 : Int), .int .i64 (n1 : Int), .int .i64 (n2 : Int), .int .i64 (n3 : Int), .int .i64 (n4 : Int), .int .i64 (n5 : Int), .int .i64 (n6 : Int), .int .i64 (n7 : Int)], true⟩, ⟨q2, 113, (List.replicate 16 0).map vu64, true⟩, ⟨q3, 113, (rowN 16 f (7)).map vu64, true⟩]) := LH (by
      have := HMi.out.set 2 5 (vu64 (f 5)) rfl (by rw [List.length_map, rowN_len]; omega)
      rw [← List.map_set, rowN_set f (by omega : 5 < 16), f5, show 5 + 1 = 6 from rfl, ← rowN_skip f (by omega : 6 < 16) f6] at this
      exact this)
     clear hu
     go_upto_region 15 with fail
     generalize wr.setCell ⟨q3, 5, none⟩ (vu64 0) = wy at *
     have HCe : Hid (Cells wy (some ⟨q3, 0, none⟩) ((slotH ep [n0, n1, n2, n3, n4, n5, n6, n7] 0).map vu64)) := LH (by
      have := (((HT.out.at 2 rfl).cells).drop 0).take 7
      have h2 : ((rowN 16 f 7).drop 0).take 7 = slotH ep [n0, n1, n2, n3, n4, n5, n6, n7] 0 := by
       simp [rowN, List.range, List.range.loop, slotH, f0, f1, f2, f3, f4, f5, f6]
      rw [← List.map_drop, ← List.map_take, h2] at this
      simpa using this)
     have HCc := LH (HC0.out _ 16 wy HCe.out)
     go_wp2_with fail
     refine HCc.out.mono ?_
     rintro e w5 ⟨rfl, hb5⟩
     have HM5 := LH (HT.out.later hb5)
     obtain ⟨u2, hu⟩ : ∃ u, ((rowN 16 f 7).map vu64)[7]? = some u := ⟨_, List.getElem?_eq_getElem (by rw [List.length_map, rowN_len]; omega)⟩
     have c2 : w5.cell? ⟨q3, 7, none⟩ = some u2 := HM5.out.cell 2 7 rfl hu
     have k2 := HM5.out.frozen 2 7 rfl
     have HS5 : Hid (Mem w (w5.setCell ⟨q3, 7, none⟩ (vu64 s0)) [⟨q1, 154, [vu64 ep, .int .i64 (n0 : Int), .int .i64 (n1 : Int), .int .i64 (n2 : Int), .int .i64 (n3 : Int), .int .i64 (n4 : Int), .int .i64 (n5 : Int), .int .i64 (n6 : Int), .int .i64 (n7 : Int)], true⟩, ⟨q2, 113, (List.replicate 16 0).map vu64, true⟩, ⟨q3, 113, (rowN 16 f (8)).map vu64, true⟩]) := LH (by
      have := HM5.out.set 2 7 (vu64 (f 7)) rfl (by rw [List.length_map, rowN_len]; omega)
      rw [← List.map_set, rowN_set f (by omega : 7 < 16), f7] at this
      exact this)
     clear hu hb5
     go_wp2_with fail
     exact ⟨⟨1, by omega, rfl, HS5⟩, by simp [intOf]⟩
  ·rw [show ((1 : Nat) : Int) = 1 from rfl]
   rw [show (8 * 1) = 8 from rfl] at HM
   have e0 := HM.out.cell 0 0 rfl rfl
   obtain ⟨u, hu⟩ : ∃ u, ((rowN 16 f 8).map vu64)[8]? = some u := ⟨_, List.getElem?_eq_getElem (by rw [List.length_map, rowN_len]; omega)⟩
   have c0 : wr.cell? ⟨q3, 8, none⟩ = some u := HM.out.cell 2 8 rfl hu
   have k0 := HM.out.frozen 2 8 rfl
   have HS : Hid (Mem w (wr.setCell ⟨q3, 8, none⟩ (vu64 ep)) [⟨q1, 154, [vu64 ep, .int .i64 (n0 : Int), .int .i64 (n1 : Int), .int .i64 (n2 : Int), .int .i64 (n3 : Int), .int .i64 (n4 : Int), .int .i64 (n5 : Int), .int .i64 (n6 : Int), .int .i64 (n7 : Int)], true⟩, ⟨q2, 113, (List.replicate 16 0).map vu64, true⟩, ⟨q3, 113, (rowN 16 f (9)).map vu64, true⟩]) := LH (by
     have := HM.out.set 2 8 (vu64 (f 8)) rfl (by rw [List.length_map, rowN_len]; omega)
     rw [← List.map_set, rowN_set f (by omega : 8 < 16), f8] at this
     exact this)
   clear hu
   go_wp2_with fail
   go_loopw [24] (fun iv wx => ∃ i : Nat, i ≤ 4 ∧ iv = .int .i64 (i : Int) ∧ Hid (Mem w wx [⟨q1, 154, [vu64 ep, .int .i64 (n0 : Int), .int .i64 (n1 : Int), .int .i64 (n2 : Int), .int .i64 (n3 : Int), .int .i64 (n4 : Int), .int .i64 (n5 : Int), .int .i64 (n6 : Int), .int .i64 (n7 : Int)], true⟩, ⟨q2, 113, (List.replicate 16 0).map vu64, true⟩, ⟨q3, 113, (rowN 16 f (9 + i)).map vu64, true⟩])) (fun iv _ => 4 - (intOf iv).toNat)
   case atStart => exact ⟨0, by omega, rfl, HS⟩
   case round =>
    obtain ⟨i, hi, rfl, HMi⟩ := hrel
    rcases (by omega : i = 0 ∨ i = 1 ∨ i = 2 ∨ i = 3 ∨ i = 4) with rfl | rfl | rfl | rfl | rfl
    ·rw [show ((0 : Nat) : Int) = 0 from rfl]
     rw [show 9 + 0 = 9 from rfl] at HMi
     have e1 := HMi.out.cell 0 5 rfl rfl
     obtain ⟨u1, hu⟩ : ∃ u, ((rowN 16 f 9).map vu64)[9]? = some u := ⟨_, List.getElem?_eq_getElem (by rw [List.length_map, rowN_len]; omega)⟩
     have c1 : wr.cell? ⟨q3, 9, none⟩ = some u1 := HMi.out.cell 2 9 rfl hu
     have k1 := HMi.out.frozen 2 9 rfl
     have HT : Hid (Mem w (wr.setCell ⟨q3, 9, none⟩ (vu64 n4)) [⟨q1, 154, [vu64 ep, .int .i64 (n0 : Int), .int .i64 (n1 : Int), .int .i64 (n2 : Int), .int .i64 (n3 : Int), .int .i64 (n4 : Int), .int .i64 (n5 : Int), .int .i64 (n6 : Int), .int .i64 (n7 : Int)], true⟩, ⟨q2, 113, (List.replicate 16 0).map vu64, true⟩, ⟨q3, 113, (rowN 16 f (10)).map vu64, true⟩]) := LH (by
      have := HMi.out.set 2 9 (vu64 (f 9)) rfl (by rw [List.length_map, rowN_len]; omega)
      rw [← List.map_set, rowN_set f (by omega : 9 < 16), f9] at this
      exact this)
     clear hu
     go_wp2_with fail
     exact ⟨⟨1, by omega, rfl, HT⟩, by simp [intOf]⟩
    ·rw [show ((1 : Nat) : Int) = 1 from rfl]
     rw [show 9 + 1 = 10 from rfl] at HMi
     have e1 := HMi.out.cell 0 6 rfl rfl
     obtain ⟨u1, hu⟩ : ∃ u, ((rowN 16 f 10).map vu64)[10]? = some u := ⟨_, List.getElem?_eq_getElem (by rw [List.length_map, rowN_len]; omega)⟩
     have c1 : wr.cell? ⟨q3, 10, none⟩ = some u1 := HMi.out.cell 2 10 rfl hu
     have k1 := HMi.out.frozen 2 10 rfl
     have HT : Hid (Mem w (wr.setCell ⟨q3, 10, none⟩ (vu64 n5)) [⟨q1, 154, [vu64 ep, .int .i64 (n0 : Int), .int .i64 (n1 : Int), .int .i64 (n2 : Int), .int .i64 (n3 : Int), .int .i64 (n4 : Int), .int .i64 (n5 : Int), .int .i64 (n6 : Int), .int .i64 (n7 : Int)], true⟩, ⟨q2, 113, (List.replicate 16 0).map vu64, true⟩, ⟨q3, 113, (rowN 16 f (11)).map vu64, true⟩]) := LH (by
      have := HMi.out.set 2 10 (vu64 (f 10)) rfl (by rw [List.length_map, rowN_len]; omega)
      rw [← List.map_set, rowN_set f (by omega : 10 < 16), f10] at this
      exact this)
     clear hu
     go_wp2_with fail
     exact ⟨⟨2, by omega, rfl, HT⟩, by simp [intOf]⟩
    ·rw [show ((2 : Nat) : Int) = 2 from rfl]
     rw [show 9 + 2 = 11 from rfl] at HMi
     have e1 := HMi.out.cell 0 7 rfl rfl
     obtain ⟨u1, hu⟩ : ∃ u, ((rowN 16 f 11).map vu64)[11]? = some u := ⟨_, List.getElem?_eq_getElem (by rw [List.length_map, rowN_len]; omega)⟩
     have c1 : wr.cell? ⟨q3, 11, none⟩ = some u1 := HMi.out.cell 2 11 rfl hu
     have k1 := HMi.out.frozen 2 11 rfl
     have HT : Hid (Mem w (wr.setCell ⟨q3, 11, none⟩ (vu64 n6)) [⟨q1, 154, [vu64 ep, .int .i64 (n0 : Int), .int .i64 (n1 : Int), .int .i64 (n2 : Int), .int .i64 (n3 : Int), .int .i64 (n4 : Int), .int .i64 (n5 : Int), .int .i64 (n6 : Int), .int .i64 (n7 : Int)], true⟩, ⟨q2, 113, (List.replicate 16 0).map vu64, true⟩, ⟨q3, 113, (rowN 16 f (12)).map vu64, true⟩]) := LH (by
      have := HMi.out.set 2 11 (vu64 (f 11)) rfl (by rw [List.length_map, rowN_len]; omega)
      rw [← List.map_set, rowN_set f (by omega : 11 < 16), f11] at this
      exact this)
     clear hu
     go_wp2_with fail
     exact ⟨⟨3, by omega, rfl, HT⟩, by simp [intOf]⟩
    ·rw [show ((3 : Nat) : Int) = 3 from rfl]
     rw [show 9 + 3 = 12 from rfl] at HMi
     have e1 := HMi.out.cell 0 8 rfl rfl
     obtain ⟨u1, hu⟩ : ∃ u, ((rowN 16 f 12).map vu64)[12]? = some u := ⟨_, List.getElem?_eq_getElem (by rw [List.length_map, rowN_len]; omega)⟩
     have c1 : wr.cell? ⟨q3, 12, none⟩ = some u1 := HMi.out.cell 2 12 rfl hu
     have k1 := HMi.out.frozen 2 12 rfl
     have HT : Hid (Mem w (wr.setCell ⟨q3, 12, none⟩ (vu64 n7)) [⟨q1, 154, [vu64 ep, .int .i64 (n0 : Int), .int .i64 (n1 : Int), .int .i64 (n2 : Int), .int .i64 (n3 : Int), .int .i64 (n4 : Int), .int .i64 (n5 : Int), .int .i64 (n6 : Int), .int .i64 (n7 : Int)], true⟩, ⟨q2, 113, (List.replicate 16 0).map vu64, true⟩, ⟨q3, 113, (rowN 16 f (13)).map vu64, true⟩]) := LH (by
      have := HMi.out.set 2 12 (vu64 (f 12)) rfl (by rw [List.length_map, rowN_len]; omega)
      rw [← List.map_set, rowN_set f (by omega : 12 < 16), f12] at this
      exact this)
     clear hu
     go_wp2_with fail
     exact ⟨⟨4, by omega, rfl, HT⟩, by simp [intOf]⟩
    ·rw [show ((4 : Nat) : Int) = 4 from rfl]
     rw [show 9 + 4 = 13 from rfl] at HMi
     obtain ⟨u1, hu⟩ : ∃ u, ((rowN 16 f 13).map vu64)[13]? = some u := ⟨_, List.getElem?_eq_getElem (by rw [List.length_map, rowN_len]; omega)⟩
     have c1 : wr.cell? ⟨q3, 13, none⟩ = some u1 := HMi.out.cell 2 13 rfl hu
     have k1 := HMi.out.frozen 2 13 rfl
     have HT : Hid (Mem w (wr.setCell ⟨q3, 13, none⟩ (vu64 1)) [⟨q1, 154, [vu64 ep, .int .i64 (n0 : Int), .int .i64 (n1 : Int), .int .i64 (n2 : Int), .int .i64 (n3 : Int), .int .i64 (n4 : Int), .int .i64 (n5 : Int), .int .i64 (n6 : Int), .int .i64 (n7 : Int)], true⟩, ⟨q2, 113, (List.replicate 16 0).map vu64, true⟩, ⟨q3, 113, (rowN 16 f (15)).map vu64, true⟩]) := LH (by
      have := HMi.out.set 2 13 (vu64 (f 13)) rfl (by rw [List.length_map, rowN_len]; omega)
      rw [← List.map_set, rowN_set f (by omega : 13 < 16), f13, show 13 + 1 = 14 from rfl, ← rowN_skip f (by omega : 14 < 16) f14] at this
      exact this)
     clear hu
     go_upto_region 15 with fail
     generalize wr.setCell ⟨q3, 13, none⟩ (vu64 1) = wy at *
     have HCe : Hid (Cells wy (some ⟨q3, 8, none⟩) ((slotH ep [n0, n1, n2, n3, n4, n5, n6, n7] 1).map vu64)) := LH (by
      have := (((HT.out.at 2 rfl).cells).drop 8).take 7
      have h2 : ((rowN 16 f 15).drop 8).take 7 = slotH ep [n0, n1, n2, n3, n4, n5, n6, n7] 1 := by
       simp [rowN, List.range, List.range.loop, slotH, f8, f9, f10, f11, f12, f13, f14]
      rw [← List.map_drop, ← List.map_take, h2] at this
      simpa using this)
     have HCc := LH (HC1.out _ 8 wy HCe.out)
     go_wp2_with fail
     refine HCc.out.mono ?_
     rintro e w5 ⟨rfl, hb5⟩
     have HM5 := LH (HT.out.later hb5)
     obtain ⟨u2, hu⟩ : ∃ u, ((rowN 16 f 15).map vu64)[15]? = some u := ⟨_, List.getElem?_eq_getElem (by rw [List.length_map, rowN_len]; omega)⟩
     have c2 : w5.cell? ⟨q3, 15, none⟩ = some u2 := HM5.out.cell 2 15 rfl hu
     have k2 := HM5.out.frozen 2 15 rfl
     have HS5 : Hid (Mem w (w5.setCell ⟨q3, 15, none⟩ (vu64 s1)) [⟨q1, 154, [vu64 ep, .int .i64 (n0 : Int), .int .i64 (n1 : Int), .int .i64 (n2 : Int), .int .i64 (n3 : Int), .int .i64 (n4 : Int), .int .i64 (n5 : Int), .int .i64 (n6 : Int), .int .i64 (n7 : Int)], true⟩, ⟨q2, 113, (List.replicate 16 0).map vu64, true⟩, ⟨q3, 113, (rowN 16 f (16)).map vu64, true⟩]) := LH (by
      have := HM5.out.set 2 15 (vu64 (f 15)) rfl (by rw [List.length_map, rowN_len]; omega)
      rw [← List.map_set, rowN_set f (by omega : 15 < 16), f15] at this
      exact this)
     clear hu hb5
     go_wp2_with fail
     exact ⟨⟨2, by omega, rfl, HS5⟩, by simp [intOf]⟩
  ·rw [show ((2 : Nat) : Int) = 2 from rfl]
   rw [show (8 * 2) = 16 from rfl, HAll.out] at HM
   go_wp2_with (first
    | (refine wpList_load_mem agg16 HM.out 2 rfl rfl rfl rfl rfl ?_)
    | (refine wpList_store_mem agg16 HM.out 1 rfl rfl rfl rfl rfl rfl rfl rfl ?_; intro w6 h6 ht6; have H6 := LH h6; clear h6 ht6))
   refine bodyPost_ret (results_cell_row (p := 2) rfl _ _ _ _ _ _ _ rfl (H6.out.exact 1 rfl) Tryz.underlying113 rfl (by kernel_rfl)) rfl ?_
   exact HF.out _ H6.out.below
end Go.Proofs.YtpohaahihdhleaaGreat
