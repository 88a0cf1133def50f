/- nvm: Dirty, Crash. -/
import Derived.Test.YtjgdplengfnkaaaBk
import Derived.Test.YtjgdplengfnkaaaMx
import Derived.Deep.Cut
namespace Go.Proofs.Ytjgdplengfnkaaa
open Go.RowKit
set_option linter.unusedVariables false

theorem elInt : Elem Try.prog 100 3 (.int .i64 0) 1 8 := Elem.mk' Try.underlying100 (by kernel_rfl) rfl (by decide)
abbrev vi (n : Nat) : Value := .int .i64 (n : Int)

theorem owned_at {w : World} {base e n : Nat} {v : Value} {vs : List Value} (h : w.ownsRow base e 1 v n vs) : ∃ a c, v = .slice a n c ∧ vs.length = n ∧ ∀ i x, vs[i]? = some x → ∃ g, a = some ⟨g, 0, none⟩ ∧ base ≤ g ∧ w.cell? ⟨g, i, none⟩ = some x := by
  have hl : vs.length = n := by have := h.1; simpa using this
  rcases h.2 with ⟨h0, h1⟩ | ⟨g, cap, cur, rfl, hb, hg, h1, h2, h3, h4⟩
  · subst h0 h1
    simp at hl
    subst hl
    exact ⟨none, 0, rfl, rfl, by simp⟩
  · exact ⟨_, _, rfl, hl, fun i x hi => ⟨g, rfl, hb, (owned_row h).cell hi⟩⟩

/-- The dirty lines among the first k. -/
def dirtyL (ds : List Bool) : Nat → List Nat
  | 0 => []
  | k + 1 => dirtyL ds k ++ (if ds.getD k false then [k] else [])
theorem dirtyL_len (ds : List Bool) (k : Nat) : (dirtyL ds k).length ≤ k := by
  induction k with
  | zero => simp [dirtyL]
  | succ k ih => unfold dirtyL; split <;> simp <;> omega
theorem dirtyL_mem (ds : List Bool) (k l : Nat) : l ∈ dirtyL ds k ↔ l < k ∧ ds.getD l false = true := by
  induction k with
  | zero => simp [dirtyL]
  | succ k ih =>
    unfold dirtyL
    rw [List.mem_append, ih]
    constructor
    · rintro (⟨h1, h2⟩ | h)
      · exact ⟨by omega, h2⟩
      · split at h
        · rename_i hd
          simp at h; subst h; exact ⟨by omega, hd⟩
        · simp at h
    · rintro ⟨h1, h2⟩
      by_cases e : l = k
      · subst e; right; rw [if_pos h2]; simp
      · left; exact ⟨by omega, h2⟩

set_option maxHeartbeats 1000000 in
theorem dirty_any {w : World} {F : Foot} {S : Dev} (h : DevAt w F S) :
    Calls Try.prog 64 #[vdev F] w fun e w' => ∃ v, e = .returned v ∧ w'.ownsRow w.heap.size 3 1 v (dirtyL S.dirty S.dirty.length).length ((dirtyL S.dirty S.dirty.length).map vi) ∧ Below w.heap.size w w' := by
  have c1 : w.cell? ⟨F.d, 3, none⟩ = some (.slice (some ⟨F.t, 0, none⟩) S.dirty.length F.ct) := cell_of_row _ _ 3 _ _ _ h.head
  have hsm := h.small
  have hl := h.lenD
  have hn : S.dirty.length ≤ 1000000 := by omega
  have HR := Lib.hid h.dirty
  clear hsm hl h
  obtain ⟨n, hnn⟩ : ∃ n, n = S.dirty.length := ⟨_, rfl⟩
  rw [← hnn] at hn c1 ⊢
  have HN := Lib.hid hnn
  clear hnn
  go_enter Try.func64, Try.ntmps64
  go_wp2_with fail
  go_loopw [3, 11] (fun v i wr => ∃ k : Nat, k ≤ n ∧ i = .int .i64 k ∧ wr.ownsRow w.heap.size 3 1 v (dirtyL S.dirty k).length ((dirtyL S.dirty k).map vi) ∧ Below w.heap.size w wr) (fun _ i _ => n - (intOf i).toNat)
  case atStart => exact ⟨0, Nat.zero_le _, rfl, ⟨rfl, .inl ⟨rfl, rfl⟩⟩, Below.refl _ _⟩
  case round =>
    obtain ⟨k, hk, rfl, ho, hb⟩ := hrel
    obtain ⟨a1, c1', rfl, hc1, hm1⟩ := owned_form ho
    have hdl := dirtyL_len S.dirty k
    have HO := Lib.hid ho
    have HB := Lib.hid hb
    clear ho hb
    by_cases hlt : k < n
    · have hlt' : (k : Int) < (n : Int) := by omega
      have HS : Hid (dirtyL S.dirty (k + 1) = dirtyL S.dirty k ++ (if S.dirty.getD k false then [k] else [])) := Lib.hid rfl
      have d0 : wr.cell? ⟨F.t, k, none⟩ = some (.bool (S.dirty.getD k false)) := below_cells HB.out (HR.out.cell (by have := HN.out; simp [← this, hlt])) (Nat.le_refl _)
      cases hq : S.dirty.getD k false
      · rw [hq] at d0 HS
        clear hq
        go_wp2_with fail
        refine ⟨⟨k + 1, by omega, vint (by omega), ?_, HB.out⟩, by simp [intOf]; omega⟩
        rw [HS.out]
        simpa using HO.out
      · rw [hq] at d0 HS
        have hone : Hid (∀ u ∈ (#[Value.int .i64 (k : Int)] : Array Value).toList, u.oneCell' = true) := Lib.hid (by intro u hu; simp at hu; subst hu; rfl)
        have hbase : Hid (w.heap.size ≤ wr.heap.size) := Lib.hid HB.out.size
        have hk9 : Hid ((dirtyL S.dirty k).length < 1000000000000) := Lib.hid (by omega)
        clear hq hdl hc1 hm1
        generalize hz : (dirtyL S.dirty k).length = z at *
        have HZ := Lib.hid hz
        clear hz
        go_wp2_with (at_builtin; refine wpList_append_new (us := #[.int .i64 (k : Int)]) elInt HO.out rfl hone.out hk9.out (by decide) hbase.out rfl rfl rfl (by simp [Act.eval]) ?_; intro g6 c6 w6 ho6 hg6 hc6 hm6 hb6 hl6; have HO6 := Lib.hid ho6; have HG6 := Lib.hid hg6; clear ho6 hg6)
        refine ⟨⟨k + 1, by omega, vint (by omega), ?_, below_grownBy HB.out HO.out HG6.out (Nat.le_refl _) (Nat.le_refl _)⟩, by simp [intOf]; omega⟩
        rw [HS.out]
        simpa [HZ.out] using HO6.out
    · obtain rfl : k = n := by omega
      have hlt' : decide ((k : Int) < (k : Int)) = false := by simp
      go_wp2_with fail
      go_ret
      exact ⟨_, rfl, HO.out, HB.out⟩

/-- What becomes of one line. -/
def crashOne (S : Dev) (out : List Nat) (l c : Nat) : List Nat :=
  if c % 3 = 1 then (if S.pending.getD l false then splice out (8 * l) (seg S.flushed l) else out)
  else if c % 3 = 2 then splice out (8 * l) (seg S.cache l) else out
def crashTo (S : Dev) (ls cs : List Nat) : Nat → List Nat
  | 0 => S.lasting
  | i + 1 => crashOne S (crashTo S ls cs i) (ls.getD i 0) (cs.getD i 0)
def Dev.crashW (S : Dev) (cs : List Nat) : List Nat := crashTo S (dirtyL S.dirty S.dirty.length) cs (min (dirtyL S.dirty S.dirty.length).length cs.length)
def Dev.crash (S : Dev) (cs : List Nat) : Dev := freshDev (S.crashW cs) S.dirty.length

structure Dev.wf (S : Dev) : Prop where
  lenL : S.lasting.length = S.cache.length
  lenF : S.flushed.length = S.cache.length
  lenP : S.pending.length = S.dirty.length
  lenD : S.cache.length = 8 * S.dirty.length
  small : S.cache.length ≤ 1000000
  u64L : ∀ z ∈ S.lasting, z < 18446744073709551616
  u64C : ∀ z ∈ S.cache, z < 18446744073709551616
  u64F : ∀ z ∈ S.flushed, z < 18446744073709551616
theorem DevAt.wf {w : World} {F : Foot} {S : Dev} (h : DevAt w F S) : S.wf := ⟨h.lenL, h.lenF, h.lenP, h.lenD, h.small, h.u64L, h.u64C, h.u64F⟩

theorem crashTo_wf {S : Dev} (h : S.wf) (ls cs : List Nat) (hls : ∀ l ∈ ls, l < S.dirty.length) : ∀ i, i ≤ ls.length → (crashTo S ls cs i).length = S.cache.length ∧ ∀ z ∈ crashTo S ls cs i, z < 18446744073709551616
  | 0, _ => ⟨h.lenL, h.u64L⟩
  | i + 1, hi => by
    obtain ⟨h1, h2⟩ := crashTo_wf h ls cs hls i (by omega)
    have hl : ls.getD i 0 < S.dirty.length := hls _ (by simp [show i < ls.length by omega])
    have hD := h.lenD
    unfold crashTo crashOne
    generalize ls.getD i 0 = l at *
    split
    · split
      · have hs := seg_length S.flushed l (by rw [h.lenF]; omega)
        exact ⟨by rw [length_splice _ _ _ (by rw [hs]; omega)]; exact h1, splice_lt _ h2 (seg_lt _ h.u64F)⟩
      · exact ⟨h1, h2⟩
    · split
      · have hs := seg_length S.cache l (by omega)
        exact ⟨by rw [length_splice _ _ _ (by rw [hs]; omega)]; exact h1, splice_lt _ h2 (seg_lt _ h.u64C)⟩
      · exact ⟨h1, h2⟩

set_option maxHeartbeats 2000000 in
set_option maxRecDepth 100000 in
theorem crash_any {w : World} {F : Foot} {S : Dev} (h : DevAt w F S) (a : Option Addr) (m cap : Nat) (cs : List Nat) (hm : cs.length = m) (hc : Cells w a (cs.map vu8)) (hu : ∀ z ∈ cs, z < 256) (hmx : m ≤ 1000000000) :
    Calls Try.prog 28 #[vdev F, .slice a m cap] w fun e w' => ∃ G : Foot, e = .returned (vdev G) ∧ (∀ k ∈ G.list, w.heap.size ≤ k) ∧ DevAt w' G (S.crash cs) ∧ Below w.heap.size w w' := by
  have c0 : w.cell? ⟨F.d, 0, none⟩ = some (.slice (some ⟨F.l, 0, none⟩) S.cache.length F.cl) := cell_of_row _ _ 0 _ _ _ h.head
  have HWF := Lib.hid h.wf
  have HD := Lib.hid h
  have HMEM := Lib.hid h.mem
  have HM := Lib.hid hm
  have HC := Lib.hid hc
  have HU := Lib.hid hu
  clear hm hc hu
  have hls : ∀ l ∈ dirtyL S.dirty S.dirty.length, l < S.dirty.length := fun l hl => ((dirtyL_mem _ _ _).1 hl).1
  have hlsl := dirtyL_len S.dirty S.dirty.length
  have HCR : Hid (S.crash cs = freshDev (crashTo S (dirtyL S.dirty S.dirty.length) cs (min (dirtyL S.dirty S.dirty.length).length cs.length)) S.dirty.length) := Lib.hid rfl
  have hsml : S.cache.length ≤ 1000000 := h.small
  have HLD : Hid (S.cache.length = 8 * S.dirty.length) := Lib.hid h.lenD
  clear h
  have HLS := Lib.hid hls
  clear hls
  go_enter Try.func28, Try.ntmps28
  go_wp2_with fail
  refine (clone_any F.l 0 F.cl S.lasting HWF.out.lenL w (fun i v hi => by rw [Nat.zero_add]; exact HD.out.lasting.cell hi) (by rw [HWF.out.lenL]; exact hsml)).mono ?_
  rintro e w1 ⟨v1, rfl, ho1, hb1, hn1⟩
  obtain ⟨g, cg, rfl, hg1, hg2, hg3, hg4, hg5, hr1⟩ := NewRow.of ho1 hn1 (Nat.le_refl _)
  have hd1 := HD.out.below hb1
  have HB1 := Lib.hid hb1
  have HR1 := Lib.hid hr1
  have HD1 := Lib.hid hd1
  clear hb1 hr1 hd1
  clear ho1 hn1 HD c0
  go_wp2_with fail
  refine (dirty_any HD1.out).mono ?_
  rintro e w2 ⟨v2, rfl, ho2, hb2⟩
  generalize dirtyL S.dirty S.dirty.length = ls at *
  obtain ⟨a2, c2, rfl, hl2, hat2⟩ := owned_at ho2
  have HAT : Hid (∀ i, i < ls.length → ∃ b, a2 = some ⟨b, 0, none⟩ ∧ b ≠ g ∧ w2.cell? ⟨b, i, none⟩ = some (vi (ls.getD i 0))) := Lib.hid (fun i hi => by
    obtain ⟨b, h1, h2, h3⟩ := hat2 i (vi (ls.getD i 0)) (by simp [hi])
    exact ⟨b, h1, by omega, h3⟩)
  have HR2 := Lib.hid (HR1.out.keep (hb2.block g hg4))
  have HD2 := Lib.hid (HD1.out.below hb2)
  have HB2 := Lib.hid (HB1.out.trans (hb2.mono HB1.out.size))
  have HGF : Hid (∀ k ∈ F.list, k ≠ g) := Lib.hid (fun k hk e => by have := HMEM.out k hk; omega)
  clear hat2 ho2 hb2 HR1 HD1 HB1 hl2
  go_wp2_with fail
  go_loopw [16] (fun i wr => ∃ k : Nat, k ≤ ls.length ∧ k ≤ m ∧ i = .int .i64 k ∧ RowAt wr g 76 ((crashTo S ls cs k).map vu64) ∧ Touch [g] w2 wr) (fun i _ => ls.length - (intOf i).toNat)
  case atStart => exact ⟨0, Nat.zero_le _, Nat.zero_le _, rfl, HR2.out, Touch.refl _ _⟩
  case round =>
    obtain ⟨k, hk, hkm, rfl, hrr, htr⟩ := hrel
    have hol := (crashTo_wf HWF.out ls cs HLS.out k hk)
    have hdr := HD2.out.keep (fun b hb => htr.block b (HD2.out.mem b hb) (by simpa using HGF.out b hb))
    have HDr := Lib.hid hdr
    have HRr := Lib.hid hrr
    have HTr := Lib.hid htr
    have HOL := Lib.hid hol.1
    have HOU := Lib.hid hol.2
    clear hrr htr hol hdr
    have fin : Hid (k = min ls.length m → Calls Try.prog 52 #[.slice (some ⟨g, 0, none⟩) S.cache.length cg] wr fun e w' => ∃ G : Foot, e = .returned (vdev G) ∧ (∀ k ∈ G.list, w.heap.size ≤ k) ∧ DevAt w' G (S.crash cs) ∧ Below w.heap.size w w') := Lib.hid (fun hkk => by
      refine (load_any (crashTo S ls cs k) HOL.out HLD.out HRr.out hg1 hsml HOU.out).mono ?_
      rintro e w5 ⟨G, rfl, hG, hd5, hb5⟩
      have hbr : Below w.heap.size w wr := below_touch HB2.out HTr.out (fun q hq => by simp at hq; omega) (Nat.le_refl _)
      refine ⟨G, rfl, fun q hq => ?_, ?_, hbr.trans (hb5.mono hbr.size)⟩
      · rcases hG q hq with rfl | hq
        · exact hg3
        · exact Nat.le_trans hbr.size hq
      · rw [HCR.out, HM.out, ← hkk]
        exact hd5)
    by_cases hlt : k < ls.length
    · have hlt' : (k : Int) < (ls.length : Int) := by omega
      obtain ⟨b2, rfl, hbg, hcl⟩ := HAT.out k hlt
      have d0 : wr.cell? ⟨b2, k, none⟩ = some (vi (ls.getD k 0)) := cell_of_touch HTr.out (by simpa using hbg) hcl
      have hl1 : ls.getD k 0 < S.dirty.length := HLS.out _ (by simp [hlt])
      have HST0 : Hid (crashTo S ls cs (k + 1) = crashOne S (crashTo S ls cs k) (ls.getD k 0) (cs.getD k 0)) := Lib.hid rfl
      generalize ls.getD k 0 = l at *
      clear hcl
      by_cases hkm2 : k < m
      · have hkm' : ¬ (m : Int) ≤ (k : Int) := by omega
        obtain ⟨b3, o3, rfl, d1⟩ : ∃ b o, a = some ⟨b, o, none⟩ ∧ wr.cell? ⟨b, o + k, none⟩ = some (vu8 (cs.getD k 0)) := by
          have hwr : Cells wr a (cs.map vu8) := by
            have h1 := HC.out.below HB2.out (Nat.le_refl _)
            rcases HC.out with h0 | ⟨b, o, rfl, h0⟩
            · exact .inl h0
            · refine .inr ⟨b, o, rfl, fun i v hi => ?_⟩
              have hlt0 := World.block_lt_of_cell? _ _ (h0 i v hi)
              exact cell_of_touch HTr.out (by simp at hlt0 ⊢; omega) (below_cells HB2.out (h0 i v hi) (Nat.le_refl _))
          obtain ⟨b, o, h1, h2⟩ := hwr.atMap 0 (i := k) (by rw [HM.out]; exact hkm2)
          exact ⟨b, o, h1, h2.2 k (by rw [HM.out]; exact hkm2)⟩
        have hcu : cs.getD k 0 < 256 := HU.out _ (by simp [HM.out, hkm2])
        have e1 : wr.cell? ⟨F.d, 1, none⟩ = some (.slice (some ⟨F.c, 0, none⟩) S.cache.length F.cc) := cell_of_row _ _ 1 _ _ _ HDr.out.head
        have e2 : wr.cell? ⟨F.d, 2, none⟩ = some (.slice (some ⟨F.f, 0, none⟩) S.cache.length F.cf) := cell_of_row _ _ 2 _ _ _ HDr.out.head
        have e4 : wr.cell? ⟨F.d, 4, none⟩ = some (.slice (some ⟨F.p, 0, none⟩) S.dirty.length F.cp) := cell_of_row _ _ 4 _ _ _ HDr.out.head
        have p4 : wr.cell? ⟨F.p, l, none⟩ = some (.bool (S.pending.getD l false)) := HDr.out.pending.cell (by have := HWF.out.lenP; simp [show l < S.pending.length by omega])
        have h8 : 8 * l + 8 ≤ S.cache.length := by have := HLD.out; omega
        generalize cs.getD k 0 = c at *
        have HCC : Hid (c % 3 = 1 ∨ c % 3 = 2 ∨ c % 3 = 0) := Lib.hid (by omega)
        go_upto_region 7 with fail
        rcases HCC.out with hc | hc | hc
        · have hq : (((c : Int) % 3 == 1) = true) := by simp; omega
          cases hpd : S.pending.getD l false
          · rw [hpd] at p4
            have HST : Hid (crashTo S ls cs (k + 1) = crashTo S ls cs k) := Lib.hid (by rw [HST0.out, crashOne, if_pos hc, hpd]; rfl)
            clear hc hpd
            go_wp2_with fail
            refine ⟨⟨k + 1, by omega, by omega, vint (by omega), ?_, HTr.out⟩, by simp [intOf]; omega⟩
            rw [HST.out]
            exact HRr.out
          · rw [hpd] at p4
            have HST : Hid (crashTo S ls cs (k + 1) = splice (crashTo S ls cs k) (8 * l) (seg S.flushed l)) := Lib.hid (by rw [HST0.out, crashOne, if_pos hc, hpd]; rfl)
            clear hc hpd
            go_wp2_with fail
            have q1 := fun x => later_cell (w := wr) e2 x
            have hcap : S.cache.length ≤ F.cf := HDr.out.capF
            refine wp_region_seg (C := fun w' => ∃ x : Later (wr), w' = x.val) [.fl [0, 1, 2, 4, 5, 6, 7, 8, 9], .sq [3] true, .sq [10, 11] false] (by kernel_rfl) (by kernel_rfl) (by intro c a d v w h; cases d <;> exact h) ?_
            simp only [segs, picks, List.getElem?_cons_succ, List.getElem?_cons_zero]
            have hC1 := later_drew (wr)
            refine wpSeg_fl hC1 ?_
            repeat (quiet_step (fail))
            refine wpQuiet_nil ?_
            refine wpSeg_sq (fun K hK => ?_)
            go_wp2_with fail
            refine (part_any _ g S.cache.length cg l h8 hg1 hsml _).mono ?_
            rintro e w3 ⟨rfl, rfl⟩
            go_wp2_with fail
            refine hK _ _ (fun _ => hC1) ?_
            clear hK K
            refine wpSeg_last ?_
            go_wp2_with fail
            refine (part_any _ F.f S.cache.length F.cf l h8 hcap hsml _).mono ?_
            rintro e w3 ⟨rfl, rfl⟩
            have HRd : Hid (RowAt wr.drew g 76 ((crashTo S ls cs k).map vu64)) := Lib.hid (HRr.out.keep rfl)
            have HDd := Lib.hid (HDr.out.below (later_below hC1))
            have hsl : Hid ((seg S.flushed l).length = 8) := Lib.hid (seg_length S.flushed l (by have := HWF.out.lenF; omega))
            have HSg := Lib.hid (seg_cell HDd.out.flushed l)
            have hfit : Hid (8 * l + ((seg S.flushed l).map vu64).length ≤ ((crashTo S ls cs k).map vu64).length) := Lib.hid (by simp [hsl.out, HOL.out]; omega)
            have hmin : Hid (((seg S.flushed l).map vu64).length = Nat.min 8 8) := Lib.hid (by simp [hsl.out])
            go_wp2_with (refine wpList_copy_row (off := 8 * l) (dLen := 8) (sLen := 8) rfl rfl Try.underlying22 (by kernel_rfl) rfl rfl HRd.out ((seg S.flushed l).map vu64) hmin.out HSg.out hfit.out (one_cells _) ?_; intro w4 hr4 ht4; have HR4 := Lib.hid hr4; have HT4 := Lib.hid ht4; clear hr4 ht4)
            refine ⟨⟨k + 1, by omega, by omega, vint (by omega), ?_, HTr.out.trans ((Touch.ofBelow (later_below hC1)).trans HT4.out)⟩, by simp [intOf]; omega⟩
            rw [HST.out, ← splice_map]
            exact HR4.out
        · have hq : (((c : Int) % 3 == 1) = false) := by simp; omega
          have hq2 : (((c : Int) % 3 == 2) = true) := by simp; omega
          have HST : Hid (crashTo S ls cs (k + 1) = splice (crashTo S ls cs k) (8 * l) (seg S.cache l)) := Lib.hid (by rw [HST0.out, crashOne, if_neg (by omega), if_pos hc])
          clear hc
          go_wp2_with fail
          have q1 := fun x => later_cell (w := wr) e1 x
          have hcap : S.cache.length ≤ F.cc := HDr.out.capC
          refine wp_region_seg (C := fun w' => ∃ x : Later (wr), w' = x.val) [.fl [0, 1, 2, 4, 5, 6, 7, 8, 9], .sq [3] true, .sq [10, 11] false] (by kernel_rfl) (by kernel_rfl) (by intro c a d v w h; cases d <;> exact h) ?_
          simp only [segs, picks, List.getElem?_cons_succ, List.getElem?_cons_zero]
          have hC1 := later_drew (wr)
          refine wpSeg_fl hC1 ?_
          repeat (quiet_step (fail))
          refine wpQuiet_nil ?_
          refine wpSeg_sq (fun K hK => ?_)
          go_wp2_with fail
          refine (part_any _ g S.cache.length cg l h8 hg1 hsml _).mono ?_
          rintro e w3 ⟨rfl, rfl⟩
          go_wp2_with fail
          refine hK _ _ (fun _ => hC1) ?_
          clear hK K
          refine wpSeg_last ?_
          go_wp2_with fail
          refine (part_any _ F.c S.cache.length F.cc l h8 hcap hsml _).mono ?_
          rintro e w3 ⟨rfl, rfl⟩
          have HRd : Hid (RowAt wr.drew g 76 ((crashTo S ls cs k).map vu64)) := Lib.hid (HRr.out.keep rfl)
          have HDd := Lib.hid (HDr.out.below (later_below hC1))
          have hsl : Hid ((seg S.cache l).length = 8) := Lib.hid (seg_length S.cache l (by have := HWF.out.lenF; omega))
          have HSg := Lib.hid (seg_cell HDd.out.cache l)
          have hfit : Hid (8 * l + ((seg S.cache l).map vu64).length ≤ ((crashTo S ls cs k).map vu64).length) := Lib.hid (by simp [hsl.out, HOL.out]; omega)
          have hmin : Hid (((seg S.cache l).map vu64).length = Nat.min 8 8) := Lib.hid (by simp [hsl.out])
          go_wp2_with (refine wpList_copy_row (off := 8 * l) (dLen := 8) (sLen := 8) rfl rfl Try.underlying22 (by kernel_rfl) rfl rfl HRd.out ((seg S.cache l).map vu64) hmin.out HSg.out hfit.out (one_cells _) ?_; intro w4 hr4 ht4; have HR4 := Lib.hid hr4; have HT4 := Lib.hid ht4; clear hr4 ht4)
          refine ⟨⟨k + 1, by omega, by omega, vint (by omega), ?_, HTr.out.trans ((Touch.ofBelow (later_below hC1)).trans HT4.out)⟩, by simp [intOf]; omega⟩
          rw [HST.out, ← splice_map]
          exact HR4.out
        · have hq : (((c : Int) % 3 == 1) = false) := by simp; omega
          have hq2 : (((c : Int) % 3 == 2) = false) := by simp; omega
          have HST : Hid (crashTo S ls cs (k + 1) = crashTo S ls cs k) := Lib.hid (by rw [HST0.out, crashOne, if_neg (by omega), if_neg (by omega)])
          clear hc
          go_wp2_with fail
          refine ⟨⟨k + 1, by omega, by omega, vint (by omega), ?_, HTr.out⟩, by simp [intOf]; omega⟩
          rw [HST.out]
          exact HRr.out
      · obtain rfl : k = m := by omega
        have hkm' : (k : Int) ≤ (k : Int) := Int.le_refl _
        have HF := Lib.hid (fin.out (by omega))
        clear fin
        go_wp2_with fail
        refine HF.out.mono ?_
        rintro e w5 hz
        obtain ⟨G, rfl, hz2⟩ := hz
        have HZ2 := Lib.hid hz2
        clear hz2
        go_wp2_with fail
        go_ret
        exact ⟨G, rfl, HZ2.out⟩
    · obtain rfl : k = ls.length := by omega
      have hlt' : decide ((ls.length : Int) < (ls.length : Int)) = false := by simp
      have HF := Lib.hid (fin.out (by omega))
      clear fin
      go_wp2_with fail
      refine HF.out.mono ?_
      rintro e w5 hz
      obtain ⟨G, rfl, hz2⟩ := hz
      have HZ2 := Lib.hid hz2
      clear hz2
      go_wp2_with fail
      go_ret
      exact ⟨G, rfl, HZ2.out⟩

end Go.Proofs.Ytjgdplengfnkaaa
