/- Parts of the proof, one behind the other: Vm, Vp, Ff, Df, Fg, Fh, Fa, Fb, Wi, Wj, Wk, Fi, Fj, Fk, Wc, Fl, Wl, Ws, M, Fn, Fo, Fp, Fq, Fr, Zd, Jx, Zi, Zj, Sb, Js, Zh, Zk, Ga, Gb, Gc, Fs, Gd, Zo, Wd, Ge, Tx, Ft, Fu, Fv, Fw, Fx, Fy, Fz, Vw, Vx, Vy, Vz. -/
import Derived.Test.YtpohaahihdhleaaGreatRA10
import Derived.Test.YtpohaahihdhleaaGreatProg
import Derived.Lib.SliceRun
import Derived.Deep.DeepCutAuto
import Derived.Deep.CutBlock
import Derived.WalkKit
import Derived.Deep.Cut
import Derived.Shelf.Strings.Builder1
set_option linter.unusedVariables false
namespace Go.Proofs.YtpohaahihdhleaaGreat
open Go.RowKit Go.Maps Go.ChangeMaps
def ClPost (S : Dev) (L : List Hd) (fr : List Nat) (w : World) : Ending → World → Prop := fun e w' => Below w.heap.size w w' ∧
  ((CloOk (okN S L) (ptrN S) fr ∧ ∃ v ys, e = .returned (.tuple #[v, .int .i64 0]) ∧ OwnI w' v ys ∧ ys.Pairwise (· < ·) ∧ (∀ x, x ∈ ys ↔ Rch (okN S L) (ptrN S) fr x) ∧ (∀ b, rowOf v = some b → w.heap.size ≤ b)) ∨
   (¬ CloOk (okN S L) (ptrN S) fr ∧ e = .returned (.tuple #[.slice none 0 0, .int .i64 22])))
theorem lt_of_le_nodup {ys : List Nat} (h : ys.Pairwise (· ≤ ·)) (hn : ys.Nodup) : ys.Pairwise (· < ·) := by
 have := List.pairwise_and_iff.2 ⟨h, hn⟩
 exact this.imp (fun ⟨h1, h2⟩ => Nat.lt_of_le_of_ne h1 h2)
set_option maxHeartbeats 8000000 in
set_option maxRecDepth 20000 in
theorem tclosure_any {w : World} {F : Foot} {S : Dev} (h : DevAt w F S) {a : Option Addr} {B cap : Nat} {L : List Hd} (hlen : L.length = B) (hc : Cells w a (hdCs L)) (hB : B ≤ 1000)
  (fa : Option Addr) (fl fc : Nat) (fr : List Nat) (hfl : fr.length = fl) (hfc : Cells w fa (fr.map vi)) (hfs : fl ≤ 1000) (hfb : ∀ x ∈ fr, x ≤ 4611686018427387904) :
  Calls Tryz.prog 47 #[vdev F, vgeom (B : Int), .slice a B cap, .slice fa fl fc] w (ClPost S L fr w) := by
 have HP : Hid (∀ v ys w', Below w.heap.size w w' → CloOk (okN S L) (ptrN S) fr → OwnI w' v ys → ys.Pairwise (· < ·) → (∀ x, x ∈ ys ↔ Rch (okN S L) (ptrN S) fr x) → (∀ b, rowOf v = some b → w.heap.size ≤ b) → ClPost S L fr w (.returned (.tuple #[v, .int .i64 0])) w') := LH (fun v ys w' h1 h2 h3 h4 h5 h6 => ⟨h1, .inl ⟨h2, v, ys, rfl, h3, h4, h5, h6⟩⟩)
 have HQ : Hid (∀ w', Below w.heap.size w w' → ¬ CloOk (okN S L) (ptrN S) fr → ClPost S L fr w (.returned (.tuple #[.slice none 0 0, .int .i64 22])) w') := LH (fun w' h1 h2 => ⟨h1, .inr ⟨h2, rfl⟩⟩)
 generalize ClPost S L fr w = Post at *
 have hb1 := below_alloc w (.cells #[.int .i64 (B : Int)] 44)
 have c0 : (w.alloc (.cells #[.int .i64 (B : Int)] 44)).cell? ⟨w.heap.size, 0, none⟩ = some (.int .i64 (B : Int)) := cell_alloc_new _ _ _ 0 _ rfl
 have HB1 := LH hb1
 have h1 := h.below hb1
 have hc1 := hc.below hb1 (Nat.le_refl _)
 have hf1 := hfc.below hb1 (Nat.le_refl _)
 generalize hw1 : w.alloc (.cells #[.int .i64 (B : Int)] 44) = w1 at *
 have HRoot : Hid (∀ (T : TF) (w2 : World) (n : Nat) (seen opn : List Nat) (bad : Bool) (v : Value), TrAt w1 w2 F B a cap T n seen opn bad v → n ≤ 1000000000 → opn.length ≤ 1000000000 → ∀ x : Nat, x ≤ 4611686018427387904 →
   Calls Tryz.prog 94 #[.pointer (some ⟨T.g, 0, none⟩), .int .i64 (x : Int)] w2 (Reached S L w1 F B a cap T n seen opn bad v w2 x)) := LH (fun T w2 n seen opn bad v ht hn ho x hx => troot_any h1 hlen hc1 hB ht hn ho x hx)
 have HRun : Hid (∀ (T : TF) (w2 : World) (m0 : Nat), TrRun S L w1 F B a cap T fr w2 m0 → Calls Tryz.prog 95 #[.pointer (some ⟨T.g, 0, none⟩)] w2 (TrDone S L w1 F B a cap T fr)) := LH (fun T w2 m0 ht => trun_any h1 hlen hc1 hB ht)
 have HCf := LH hf1
 have HFl := LH hfl
 have HFb := LH hfb
 have HLn := LH hlen
 clear h hc hfc h1 hc1 hf1 hfl hfb hb1 hlen
 go_enter Tryz.func47, Tryz.ntmps47
 go_upto_region 1 with fail
 clear hw1
 obtain ⟨q, hq⟩ : ∃ q, q = w.heap.size := ⟨_, rfl⟩
 rw [← hq] at c0 ⊢
 clear hq
 go_wp2_with fail
 refine (trnew_any w1 F B a cap).mono ?_
 rintro e w2 ⟨T, rfl, ht⟩
 have HT := LH ht
 obtain ⟨g, hg⟩ : ∃ g, g = T.g := ⟨_, rfl⟩
 have HG := LH hg
 rw [← hg]
 clear ht hg c0
 go_wp2_with fail
 go_loopw [11, 22] (fun fv iv wr => ∃ (k : Nat) (seen opn : List Nat) (bad : Bool) (v : Value) (fe : Int), k ≤ fl ∧ fv = .int .i64 fe ∧ iv = .int .i64 (k : Int) ∧ Hid (TrAt w1 wr F B a cap T k seen opn bad v) ∧ Hid (Trc (okN S L) (ptrN S) fr seen opn (fr.drop k) bad) ∧ Hid (fe ≠ 0 → bad = true) ∧ Hid (opn.length ≤ k)) (fun _ iv _ => fl - (RowKit.intOf iv).toNat)
 case atStart => exact ⟨0, [], [], false, _, 0, by omega, rfl, rfl, HT, LH (Trc.start _ _ _), LH (fun h => absurd rfl h), LH (by simp)⟩
 case round =>
  obtain ⟨k, seen, opn, bad, v, fe, hk, rfl, rfl, HTr, HTc, HFe, HOl⟩ := hrel
  by_cases hlt : k < fl
  ·have hlt' : (k : Int) < (fl : Int) := by omega
   obtain ⟨x, hx⟩ : ∃ x, fr[k]? = some x := ⟨_, List.getElem?_eq_getElem (by rw [HFl.out]; exact hlt)⟩
   obtain ⟨b1, o1, q1, _, hcx⟩ := (HCf.out.below HTr.out.org (Nat.le_refl _)).at (i := k) (by rw [List.length_map, HFl.out]; exact hlt)
   have cx : wr.cell? ⟨b1, o1 + k, none⟩ = some (.int .i64 (x : Int)) := hcx k (vi x) (by rw [List.getElem?_map, hx]; rfl)
   have HXb := LH (HFb.out x (List.mem_of_getElem? hx))
   have HDr : Hid (fr.drop k = x :: fr.drop (k + 1)) := LH (by
    have hk2 : k < fr.length := by rw [HFl.out]; exact hlt
    rw [List.drop_eq_getElem_cons hk2]
    congr 1
    rw [List.getElem?_eq_getElem hk2] at hx
    injection hx)
   have HRx := LH (HRoot.out T wr k seen opn bad v HTr.out (by omega) (by have := HOl.out; omega) x HXb.out)
   rw [← HG.out] at HRx
   subst q1
   clear hcx hx
   go_wp2_with fail
   refine HRx.out.mono ?_
   rintro e w5 ⟨seen2, opn2, bad2, v2, er, rfl, ht2, her, hbe, hbb, htc, hl1, hl2, hto, hro, hl3⟩
   have HT2 := LH ht2
   have HTc2 : Hid (Trc (okN S L) (ptrN S) fr seen2 opn2 (fr.drop (k + 1)) bad2) := LH (htc fr _ (by rw [← HDr.out]; exact HTc.out))
   have HOl2 : Hid (opn2.length ≤ k + 1) := LH (by have := HOl.out; omega)
   have HBb := LH hbb
   have HBe := LH hbe
   clear ht2 hbe hbb htc hl1 hl2 hto hro hl3 cx
   rcases her with rfl | rfl
   ·go_wp2_with fail
    exact ⟨⟨k + 1, seen2, opn2, bad2, v2, fe, by omega, rfl, vint (by omega), HT2, HTc2, LH (fun h => HBb.out (HFe.out h)), HOl2⟩, by simp [RowKit.intOf]; omega⟩
   ·go_wp2_with fail
    exact ⟨⟨k + 1, seen2, opn2, bad2, v2, 22, by omega, rfl, vint (by omega), HT2, HTc2, LH (fun _ => HBe.out (by decide)), HOl2⟩, by simp [RowKit.intOf]; omega⟩
  ·have hltd : decide ((k : Int) < (fl : Int)) = false := by simp; omega
   have hke : k = fl := by omega
   have HTc2 : Hid (Trc (okN S L) (ptrN S) fr seen opn [] bad) := LH (by have := HTc.out; rw [hke, ← HFl.out, List.drop_length] at this; exact this)
   have HRx := LH (HRun.out T wr ((512 * B - seen.length) + opn.length) ⟨k, seen, opn, bad, v, HTr.out, HTc2.out, rfl, by have := HOl.out; omega⟩)
   rw [← HG.out] at HRx
   have HKeep : Hid (∀ n seen' bad' v' w', TrAt w1 w' F B a cap T n seen' [] bad' v' → Trc (okN S L) (ptrN S) fr seen' [] [] bad' → (fe ≠ 0 → bad' = true)) := LH (fun n seen' bad' v' w' _ h2 hf => by
    have hb := HFe.out hf
    cases hq : bad' with
    | true => rfl
    | false =>
     have hok := h2.verdict.1 hq
     obtain ⟨z, z1, z2, z3⟩ := HTc2.out.dirty hb
     exact absurd (hok z z1 (z3.elim .inl (fun ⟨y, hy, hm⟩ => .inr ⟨y, HTc2.out.in_ y hy, hm⟩))) z2)
   clear hke HTc HFe HTc2 HTr
   go_wp2_with fail
   refine HRx.out.mono ?_
   rintro e w5 ⟨n5, seen5, bad5, v5, rfl, ht5, hc5⟩
   have HT5 := LH ht5
   have HC5 := LH hc5
   have hfe := HKeep.out _ _ _ _ _ ht5 hc5
   have HB5 : Hid (Below w.heap.size w w5) := LH (HB1.out.trans (ht5.org.mono HB1.out.size))
   clear ht5 hc5
   cases bad5 with
   | true =>
    rw [if_pos rfl]
    clear hfe
    go_wp2_with fail
    exact HQ.out _ HB5.out (fun h => by have := HC5.out.verdict.2 h; cases this)
   | false =>
    rw [if_neg (by simp)]
    have hf0 : fe = 0 := by
     by_cases c : fe = 0
     ·exact c
     ·have := hfe c; cases this
    subst hf0
    have hnd := HC5.out.nd
    have hln := HC5.out.len
    rw [HLn.out] at hln
    have HSe := LH (tseen_any HT5.out hnd (by omega))
    rw [← HG.out] at HSe
    clear hfe hnd hln
    go_wp2_with fail
    refine HSe.out.mono ?_
    rintro e w6 ⟨v6, ys, rfl, ho6, hso, hpm, hb6, hrw⟩
    have HO6 := LH ho6
    have HS6 := LH (lt_of_le_nodup hso (hpm.nodup_iff.2 HC5.out.nd))
    have HM6 : Hid (∀ x, x ∈ ys ↔ Rch (okN S L) (ptrN S) fr x) := LH (fun x => by rw [hpm.mem_iff]; exact HC5.out.done x)
    have HR6 : Hid (∀ b, rowOf v6 = some b → w.heap.size ≤ b) := LH (fun b hb => Nat.le_trans HB5.out.size (hrw b hb))
    have HB6 : Hid (Below w.heap.size w w6) := LH (HB5.out.trans (hb6.mono HB5.out.size))
    clear ho6 hso hpm hb6 hrw
    go_wp2_with fail
    exact HP.out _ _ _ HB6.out (HC5.out.verdict.1 rfl) HO6.out HS6.out HM6.out HR6.out
end Go.Proofs.YtpohaahihdhleaaGreat
namespace Go.Proofs.YtpohaahihdhleaaGreat
open Go.RowKit Go.Maps
theorem supR_ok {S : Dev} (h : (supR S).2.2 = 0) : 2 ≤ (supR S).1 ∧ (supR S).1 ≤ 256 ∧ 512 * (supR S).1 = S.cache.length := by
 unfold supR at h ⊢
 by_cases c : (supD (dwordsAt S 0 8)).2.2 ≠ 0 ∨ 512 * (supD (dwordsAt S 0 8)).1 ≠ S.cache.length
 ·rw [if_pos c] at h; simp at h
 ·rw [if_neg c] at h ⊢
  have h2 : 512 * (supD (dwordsAt S 0 8)).1 = S.cache.length := by
   by_cases d : 512 * (supD (dwordsAt S 0 8)).1 = S.cache.length
   ·exact d
   ·exact absurd (.inr d) c
  refine ⟨?_, supD_small _, h2⟩
  unfold supD at h ⊢
  split at h
  ·simp at h
  ·split at h
   ·simp at h
   ·split at h
    ·rename_i c1 c2 c3
     rw [if_neg c1, if_neg c2, if_pos c3]
     exact c3.1
    ·simp at h
theorem supR_err (S : Dev) : (supR S).2.2 = 0 ∨ supR S = (0, 0, 20) := by
 unfold supR
 by_cases c : (supD (dwordsAt S 0 8)).2.2 ≠ 0 ∨ 512 * (supD (dwordsAt S 0 8)).1 ≠ S.cache.length
 ·rw [if_pos c]; exact .inr rfl
 ·rw [if_neg c]
  refine .inl ?_
  by_cases d : (supD (dwordsAt S 0 8)).2.2 = 0
  ·exact d
  ·exact absurd (.inl d) c
theorem slotD_right {ws : List Nat} (h : (slotD ws).2.2 = 0) : slotR (slotD ws).1 (slotD ws).2.1 = true := by
 unfold slotD at h ⊢
 split at h
 ·simp at h
 ·split at h
  ·simp at h
  ·split at h
   ·rename_i c1 c2 c3
    rw [if_neg c1, if_neg c2, if_pos c3]
    exact c3.1
   ·simp at h
theorem rootsN_right {S : Dev} (h : (rootsN S).2.2.2 = true) : slotR (rootsN S).1 (rootsN S).2.1 = true := by
 unfold rootsN at h ⊢
 unfold slotC at h ⊢
 split at h
 ·rename_i c
  rw [if_pos c]
  exact slotD_right c.1
 ·rename_i c1
  split at h
  ·rename_i c2
   rw [if_neg c1, if_pos c2]
   exact slotD_right c2
  ·simp at h
def rootL (S : Dev) : List Nat := (rootsN S).2.1.map Int.toNat
theorem rootL_cast {S : Dev} (h : (rootsN S).2.2.2 = true) : (rootsN S).2.1 = (rootL S).map (fun n : Nat => (n : Int)) := by
 unfold rootL
 rw [List.map_map]
 refine (List.map_id _).symm.trans (List.map_congr_left (fun r hr => ?_))
 obtain ⟨n, rfl, _⟩ := slotR_nat (rootsN_right h) r hr
 rfl
theorem rootL_lt {S : Dev} (h : (rootsN S).2.2.2 = true) : ∀ x ∈ rootL S, x < 131072 := fun x hx => by
 obtain ⟨r, hr, rfl⟩ := List.mem_map.1 hx
 obtain ⟨n, rfl, hn⟩ := slotR_nat (rootsN_right h) r hr
 exact hn
def lookL (S : Dev) : List Hd := hds (devWord S) (supR S).1
open Classical in
noncomputable def lookE (S : Dev) : Int :=
 if (supR S).2.2 ≠ 0 then 20 else if ¬ AllOk (devWord S) (supR S).1 then 21 else if (rootsN S).2.2.2 = false then 23 else if ¬ CloOk (okN S (lookL S)) (ptrN S) (rootL S) then 22 else 0
def stV (n id : Nat) (al rt lv : Value) : Value := .agg #[.int .i64 (n : Int), vu64 id, .int .i64 (n : Int), al, rt, lv]
def stZ : Array Value := #[.int .i64 0, .int .u64 0, .int .i64 0, .pointer none, .pointer none, .slice none 0 0]
theorem aggSt : Agg Tryz.prog 49 #[.int .i64 0, .int .u64 0, .int .i64 0, .pointer none, .pointer none, .slice none 0 0] := ⟨⟨_, Tryz.underlying49, rfl⟩, by kernel_rfl⟩
def LookPost (S : Dev) (F : Foot) (w : World) : Ending → World → Prop := fun e w' => Below w.heap.size w w' ∧
  ((lookE S = 0 ∧ ∃ g lg lc lv ys, e = .returned (.tuple #[stV (supR S).1 (supR S).2.1 (.pointer none) (.pointer (some ⟨g, 0, none⟩)) lv, .slice (some ⟨lg, 0, none⟩) (supR S).1 lc, .int .i64 0]) ∧
      RootsAt w' g F (rootsN S).1 (rootsN S).2.1 (rootsN S).2.2.1 ∧ w.heap.size ≤ g ∧ RowAt w' lg 107 (hdCs (lookL S)) ∧ w.heap.size ≤ lg ∧ (supR S).1 ≤ lc ∧
      OwnI w' lv ys ∧ ys.Pairwise (· < ·) ∧ (∀ x, x ∈ ys ↔ Rch (okN S (lookL S)) (ptrN S) (rootL S) x) ∧ (∀ b, rowOf lv = some b → w.heap.size ≤ b)) ∨
   (lookE S ≠ 0 ∧ e = .returned (.tuple #[.agg stZ, .slice none 0 0, .int .i64 (lookE S)])))
set_option maxHeartbeats 8000000 in
set_option maxRecDepth 20000 in
theorem look_any {w : World} {F : Foot} {S : Dev} (h : DevAt w F S) :
  Calls Tryz.prog 12 #[vdev F] w (LookPost S F w) := by
 have HF : Hid (∀ (c : Int) w', lookE S = c → c ≠ 0 → Below w.heap.size w w' → LookPost S F w (.returned (.tuple #[.agg stZ, .slice none 0 0, .int .i64 c])) w') := LH (fun c w' h1 h2 h3 => ⟨h3, .inr ⟨by rw [h1]; exact h2, by rw [h1]⟩⟩)
 obtain ⟨⟨n, id, e0⟩, hX⟩ : ∃ X, X = supR S := ⟨_, rfl⟩
 have HY : Hid (∀ g lg lc lv ys w', lookE S = 0 → Below w.heap.size w w' → RootsAt w' g F (rootsN S).1 (rootsN S).2.1 (rootsN S).2.2.1 → w.heap.size ≤ g → RowAt w' lg 107 (hdCs (lookL S)) → w.heap.size ≤ lg → n ≤ lc →
   OwnI w' lv ys → ys.Pairwise (· < ·) → (∀ x, x ∈ ys ↔ Rch (okN S (lookL S)) (ptrN S) (rootL S) x) → (∀ b, rowOf lv = some b → w.heap.size ≤ b) →
   LookPost S F w (.returned (.tuple #[stV n id (.pointer none) (.pointer (some ⟨g, 0, none⟩)) lv, .slice (some ⟨lg, 0, none⟩) n lc, .int .i64 0])) w') := LH (fun g lg lc lv ys w' h1 h2 h3 h4 h5 h6 h7 h8 h9 h10 h11 =>
  ⟨h2, .inl ⟨h1, g, lg, lc, lv, ys, by rw [← hX], h3, h4, h5, h6, by rw [← hX]; exact h7, h8, h9, h10, h11⟩⟩)
 generalize LookPost S F w = Post at *
 have HX := LH hX
 have HSu := LH (fun w' (hb : Below w.heap.size w w') => sread_any (h.below hb))
 rw [← hX] at HSu
 have HD := LH h
 have HEr := LH (supR_err S)
 unfold SdPost at HSu
 dsimp only at HSu
 have hid : id < 18446744073709551616 := by
  rcases supR_err S with c | c
  ·have : (supR S).2.1 < 18446744073709551616 := by
    unfold supR
    split
    ·decide
    ·unfold supD
     split
     ·decide
     ·split
      ·decide
      ·split
       ·show (dwordsAt S 0 8).getD 3 0 < _
        rw [List.getD_eq_getElem?_getD]
        cases hq : (dwordsAt S 0 8)[3]? with
        | none => simp
        | some x => exact dwordsAt_lt h.u64C 0 8 x (List.mem_of_getElem? hq)
       ·decide
   rw [← hX] at this; exact this
  ·rw [← hX] at c; injection c with c1 c2; injection c2 with c2 c3; omega
 clear h hX
 have HM := LH (Mem.one w #[.int .i64 0, .int .u64 0, .int .i64 0, .pointer none, .pointer none, .slice none 0 0] 49)
 go_enter Tryz.func12, Tryz.ntmps12
 go_upto_region 1 with fail
 obtain ⟨q1, hq1⟩ : ∃ q, q = w.heap.size := ⟨_, rfl⟩
 rw [← hq1] at HM ⊢
 generalize w.alloc _ = w1 at *
 clear hq1
 have HM1 : Hid (Mem w w1 [⟨q1, 49, [.int .i64 0, .int .u64 0, .int .i64 0, .pointer none, .pointer none, .slice none 0 0], true⟩]) := LH (by simpa using HM.out)
 clear HM
 go_wp2_with fail
 refine (HSu.out w1 HM1.out.below).mono ?_
 rintro e w2 ⟨rfl, hb2⟩
 have HM2 := LH ((HM1.out.later hb2).alloc #[.int .i64 (n : Int), vu64 id] 42)
 clear hb2 HM1 HSu
 go_upto_region 2 with fail
 obtain ⟨q2, hq2⟩ : ∃ q, q = w2.heap.size := ⟨_, rfl⟩
 rw [← hq2] at HM2 ⊢
 generalize w2.alloc _ = w3 at *
 clear hq2
 have HM3 : Hid (Mem w w3 [⟨q1, 49, [.int .i64 0, .int .u64 0, .int .i64 0, .pointer none, .pointer none, .slice none 0 0], true⟩, ⟨q2, 42, [.int .i64 (n : Int), vu64 id], true⟩]) := LH (by simpa using HM2.out)
 clear HM2
 by_cases he : e0 = 0
 case neg =>
  have he20 : e0 = 20 := by
   rcases HEr.out with c | c
   ·rw [← HX.out] at c; exact absurd c he
   ·rw [← HX.out] at c; injection c with _ c; injection c
  subst he20
  have HE : Hid (lookE S = 20) := LH (by unfold lookE; rw [← HX.out, if_pos he])
  have HG := LH (fun w' h => HF.out 20 w' HE.out (by decide) h)
  clear he
  go_wp2_with (refine wpList_store_mem aggSt HM3.out 0 rfl rfl rfl rfl rfl rfl rfl rfl ?_; intro w6 h6 ht6; have H6 := LH h6; clear h6 ht6)
  refine bodyPost_ret (results_sl3 (p := 2) (s := 3) (u := 4) rfl _ _ _ _ _ _ _ rfl (H6.out.exact 0 rfl) Tryz.underlying49 rfl (by kernel_rfl)) rfl ?_
  exact HG.out _ H6.out.below
 subst he
 have hno := supR_ok (S := S) (by rw [← HX.out])
 rw [← HX.out] at hno
 obtain ⟨hn2, hn256, hnl⟩ := hno
 have HNl := LH hnl
 dsimp only at hn2 hn256
 have c0 := HM3.out.cell 1 0 rfl rfl
 have HM4 := LH (HM3.out.alloc #[.int .i64 (n : Int)] 44)
 clear hnl
 go_upto_region 5 with fail
 obtain ⟨q3, hq3⟩ : ∃ q, q = w3.heap.size := ⟨_, rfl⟩
 rw [← hq3] at HM4 ⊢
 generalize w3.alloc _ = w4 at *
 clear hq3 c0
 have HM5 : Hid (Mem w w4 [⟨q1, 49, [.int .i64 0, .int .u64 0, .int .i64 0, .pointer none, .pointer none, .slice none 0 0], true⟩, ⟨q2, 42, [.int .i64 (n : Int), vu64 id], true⟩, ⟨q3, 44, [.int .i64 (n : Int)], true⟩]) := LH (by simpa using HM4.out)
 clear HM4 HM3
 have c0 := HM5.out.cell 2 0 rfl rfl
 go_wp2_with fail
 refine (read_any (HD.out.below HM5.out.below) n (by omega) (by omega)).mono ?_
 rintro e w5 ⟨hb5, ⟨hall, lg, lc, rfl, hlg, hlc, hrow⟩ | ⟨b, hb1, hb2, _, hbad, rfl⟩⟩
 case inr =>
  have HM6 := LH (HM5.out.later hb5)
  have HE : Hid (lookE S = 21) := LH (by
   have : ¬ AllOk (devWord S) n := fun hh => hbad (hh b hb1 hb2)
   unfold lookE
   rw [← HX.out, if_neg (by simp), if_pos this])
  have HG := LH (fun w' h => HF.out 21 w' HE.out (by decide) h)
  clear hb5 hbad hb1 hb2 c0
  go_wp2_with (refine wpList_store_mem aggSt HM6.out 0 rfl rfl rfl rfl rfl rfl rfl rfl ?_; intro w6 h6 ht6; have H6 := LH h6; clear h6 ht6)
  refine bodyPost_ret (results_sl3 (p := 2) (s := 3) (u := 4) rfl _ _ _ _ _ _ _ rfl (H6.out.exact 0 rfl) Tryz.underlying49 rfl (by kernel_rfl)) rfl ?_
  exact HG.out _ H6.out.below
 have HM6 := LH (HM5.out.later hb5)
 have HRow := LH hrow
 have HLg : Hid (w.heap.size ≤ lg) := LH (Nat.le_trans HM5.out.below.size hlg)
 have HLq : Hid (q1 < lg) := LH (Nat.lt_of_lt_of_le (HM5.out.glt 0 rfl) hlg)
 have HAll := LH hall
 have HLe : Hid (lookL S = hds (devWord S) n) := LH (by unfold lookL; rw [← HX.out])
 clear hb5 hall hlg hrow c0 HM5
 go_wp2_with fail
 refine (rtopen_any (HD.out.below HM6.out.below)).mono ?_
 rintro e w6 ⟨hb6, ⟨hbt, g, rfl, hg, hrt⟩ | ⟨hbf, rfl⟩⟩
 case inr =>
  have HM7 := LH (HM6.out.later hb6)
  have HE : Hid (lookE S = 23) := LH (by
   unfold lookE
   rw [← HX.out, if_neg (by simp), if_neg (fun hh => hh HAll.out), if_pos hbf])
  have HG := LH (fun w' h => HF.out 23 w' HE.out (by decide) h)
  clear hb6 hbf
  go_wp2_with (refine wpList_store_mem aggSt HM7.out 0 rfl rfl rfl rfl rfl rfl rfl rfl ?_; intro w6 h6 ht6; have H6 := LH h6; clear h6 ht6)
  refine bodyPost_ret (results_sl3 (p := 2) (s := 3) (u := 4) rfl _ _ _ _ _ _ _ rfl (H6.out.exact 0 rfl) Tryz.underlying49 rfl (by kernel_rfl)) rfl ?_
  exact HG.out _ H6.out.below
 have HM7 := LH (HM6.out.later hb6)
 have HRow7 := LH (RowAt.below HRow.out hb6)
 have HRt := LH hrt
 have HGg : Hid (w.heap.size ≤ g) := LH (Nat.le_trans HM6.out.below.size hg)
 have HGq : Hid (q1 < g) := LH (Nat.lt_of_lt_of_le (HM6.out.glt 0 rfl) hg)
 have HBt := LH hbt
 have hl8 : (rootL S).length = 8 := by unfold rootL; rw [List.length_map]; exact (rootsN_ok HD.out.u64C).2.1
 obtain ⟨n0, n1, n2, n3, n4, n5, n6, n7, hfr⟩ := eight_list hl8
 have hrs : (rootsN S).2.1 = [(n0 : Int), (n1 : Int), (n2 : Int), (n3 : Int), (n4 : Int), (n5 : Int), (n6 : Int), (n7 : Int)] := by rw [rootL_cast hbt, hfr]; rfl
 have HLs := LH (rtlasting_any hrt (rootsN_ok HD.out.u64C).2.1)
 rw [hrs, show arrI [(n0 : Int), (n1 : Int), (n2 : Int), (n3 : Int), (n4 : Int), (n5 : Int), (n6 : Int), (n7 : Int)] = .agg #[.int .i64 (n0 : Int), .int .i64 (n1 : Int), .int .i64 (n2 : Int), .int .i64 (n3 : Int), .int .i64 (n4 : Int), .int .i64 (n5 : Int), .int .i64 (n6 : Int), .int .i64 (n7 : Int)] from rfl] at HLs
 have HFr := LH hfr
 clear hb6 hrt hg hbt hl8 hfr hrs HM6 HRow
 go_wp2_with fail
 refine HLs.out.mono ?_
 rintro e w7 ⟨rfl, hb7⟩
 have HM8 := LH ((HM7.out.later hb7).alloc #[.int .i64 (n0 : Int), .int .i64 (n1 : Int), .int .i64 (n2 : Int), .int .i64 (n3 : Int), .int .i64 (n4 : Int), .int .i64 (n5 : Int), .int .i64 (n6 : Int), .int .i64 (n7 : Int)] 24)
 have HB78 : Hid (Below w6.heap.size w6 (w7.alloc (.cells #[.int .i64 (n0 : Int), .int .i64 (n1 : Int), .int .i64 (n2 : Int), .int .i64 (n3 : Int), .int .i64 (n4 : Int), .int .i64 (n5 : Int), .int .i64 (n6 : Int), .int .i64 (n7 : Int)] 24))) := LH (hb7.trans ((below_alloc _ _).mono hb7.size))
 clear hb7 HLs
 go_upto_region 12 with fail
 obtain ⟨q4, hq4⟩ : ∃ q, q = w7.heap.size := ⟨_, rfl⟩
 rw [← hq4] at HM8 ⊢
 generalize w7.alloc _ = w8 at *
 clear hq4
 have HM9 : Hid (Mem w w8 [⟨q1, 49, [.int .i64 0, .int .u64 0, .int .i64 0, .pointer none, .pointer none, .slice none 0 0], true⟩, ⟨q2, 42, [.int .i64 (n : Int), vu64 id], true⟩, ⟨q3, 44, [.int .i64 (n : Int)], true⟩, ⟨q4, 24, [.int .i64 (n0 : Int), .int .i64 (n1 : Int), .int .i64 (n2 : Int), .int .i64 (n3 : Int), .int .i64 (n4 : Int), .int .i64 (n5 : Int), .int .i64 (n6 : Int), .int .i64 (n7 : Int)], true⟩]) := LH (by simpa using HM8.out)
 clear HM8 HM7
 have c0 := HM9.out.cell 2 0 rfl rfl
 have r0 := fun x => later_cell c0 x
 clear c0
 refine wp_region_seg (C := fun w' => ∃ x : Later (w8), w' = x.val) [.fl [0, 1, 2, 3], .sq [4, 5] false, .fl [6, 7, 8], .sq [9] false] (by kernel_rfl) (by kernel_rfl) (by intro c a d v w h; cases d <;> exact h) ?_
 simp only [segs, picks, List.getElem?_cons_succ, List.getElem?_cons_zero]
 have hC1 := later_drew (w8)
 refine wpSeg_fl hC1 ?_
 repeat (first | go_big_quiet_step (fail) | quiet_step (fail))
 refine wpQuiet_nil ?_
 have hbd := later_below hC1
 have HM10 := LH (HM9.out.later hbd)
 have HRow10 := LH (RowAt.below (RowAt.below HRow7.out HB78.out) hbd)
 have HRt10 := LH ((HRt.out.below HB78.out (Nat.le_refl _)).below hbd (Nat.le_refl _))
 have HD10 := LH (HD.out.below HM10.out.below)
 have HCf : Hid (Cells w8.drew (some ⟨q4, 0, none⟩) ([n0, n1, n2, n3, n4, n5, n6, n7].map vi)) := LH ((HM10.out.at 3 rfl).cells)
 have HFb : Hid (∀ x ∈ [n0, n1, n2, n3, n4, n5, n6, n7], x ≤ 4611686018427387904) := LH (fun x hx => by rw [← HFr.out] at hx; have := rootL_lt HBt.out x hx; omega)
 generalize w8.drew = wd at *
 clear r0 hbd
 refine wpSeg_sq (fun K hK => ?_)
 go_wp2_with fail
 refine (tclosure_any HD10.out (L := hds (devWord S) n) (hds_length _ _) HRow10.out.cells (by omega) (some ⟨q4, 0, none⟩) 8 8 [n0, n1, n2, n3, n4, n5, n6, n7] rfl HCf.out (by omega) HFb.out).mono ?_
 rintro e w9 ⟨hb9, ⟨hclo, lv, ys, rfl, hlv, hso, hys, hrw⟩ | ⟨hclo, rfl⟩⟩
 case inr =>
  have HM11 := LH (HM10.out.later hb9)
  have hC2 := later_step hC1 hb9
  have HE : Hid (lookE S = 22) := LH (by
   unfold lookE
   rw [← HX.out, if_neg (by simp), if_neg (fun hh => hh HAll.out), if_neg (by rw [HBt.out]; simp), if_pos (by rw [HLe.out, HFr.out]; exact hclo)])
  have HG := LH (fun w' h => HF.out 22 w' HE.out (by decide) h)
  clear hb9 hclo
  go_wp2_with fail
  refine hK _ _ (fun h => nomatch h) ?_
  clear hK K
  refine wpSeg_fl hC2 ?_
  repeat (first | go_big_quiet_step (fail) | quiet_step (fail))
  refine wpQuiet_nil ?_
  clear hC1 hC2
  refine wpSeg_last ?_
  go_wp2_with (refine wpList_store_mem aggSt HM11.out 0 rfl rfl rfl rfl rfl rfl rfl rfl ?_; intro w6 h6 ht6; have H6 := LH h6; clear h6 ht6)
  refine bodyPost_ret (results_sl3 (p := 2) (s := 3) (u := 4) rfl _ _ _ _ _ _ _ rfl (H6.out.exact 0 rfl) Tryz.underlying49 rfl (by kernel_rfl)) rfl ?_
  exact HG.out _ H6.out.below
 have HM11 := LH (HM10.out.later hb9)
 have hC2 := later_step hC1 hb9
 have HE : Hid (lookE S = 0) := LH (by
  unfold lookE
  rw [← HX.out, if_neg (by simp), if_neg (fun hh => hh HAll.out), if_neg (by rw [HBt.out]; simp), if_neg (by rw [HLe.out, HFr.out]; exact fun hh => hh hclo)])
 have HRow11 := LH (RowAt.below HRow10.out hb9)
 have HRt11 := LH (HRt10.out.below hb9 (Nat.le_refl _))
 obtain ⟨va, vc, hv, _⟩ := hlv.cells
 obtain ⟨vl, hvl⟩ : ∃ l, l = ys.length := ⟨_, rfl⟩
 rw [← hvl] at hv
 subst hv
 have HLv := LH hlv
 have HSo := LH hso
 have HYs : Hid (∀ x, x ∈ ys ↔ Rch (okN S (lookL S)) (ptrN S) (rootL S) x) := LH (fun x => by rw [HLe.out, HFr.out]; exact hys x)
 have HRw : Hid (∀ b, rowOf (.slice va vl vc) = some b → w.heap.size ≤ b) := LH (fun b hb => Nat.le_trans HM10.out.below.size (hrw b hb))
 have HLc := LH hlc
 have HRq : Hid (∀ b, rowOf (.slice va vl vc) = some b → q1 < b) := LH (fun b hb => Nat.lt_of_lt_of_le (HM10.out.glt 0 rfl) (hrw b hb))
 clear hb9 hclo hlv hso hys hrw hvl hlc
 go_wp2_with fail
 refine hK _ _ (fun h => nomatch h) ?_
 clear hK K
 refine wpSeg_fl hC2 ?_
 repeat (first | go_big_quiet_step (fail) | quiet_step (fail))
 refine wpQuiet_nil ?_
 clear hC1 hC2
 have c0 := HM11.out.cell 2 0 rfl rfl
 have c1 := HM11.out.cell 1 0 rfl rfl
 have c2 := HM11.out.cell 1 1 rfl rfl
 refine wpSeg_last ?_
 go_wp2_with (first | (refine wpList_load_mem aggSu HM11.out 1 rfl rfl rfl rfl rfl ?_) | (refine wpList_store_mem aggSt HM11.out 0 rfl rfl rfl rfl rfl rfl rfl rfl ?_; intro w6 h6 ht6; have H6 := LH h6; have HT6 := LH ht6; clear h6 ht6))
 refine bodyPost_ret (results_sl3 (p := 2) (s := 3) (u := 4) rfl _ _ _ _ _ _ _ rfl (H6.out.exact 0 rfl) Tryz.underlying49 rfl (by kernel_rfl)) rfl ?_
 refine HY.out g lg lc _ ys _ HE.out H6.out.below ?_ HGg.out ?_ HLg.out HLc.out ?_ HSo.out HYs.out HRw.out
 ·have h1 := HRt11.out
  exact (HT6.out.block g (lt_of_head h1) (by simp; have := HGq.out; omega)).trans h1
 ·rw [HLe.out]
  exact HRow11.out.keep (HT6.out.block lg HRow11.out.lt (by simp; have := HLq.out; omega))
 ·exact HLv.out.keep (fun b hb => HT6.out.block b (HLv.out.lt b hb) (by simp; have := HRq.out b hb; omega))
end Go.Proofs.YtpohaahihdhleaaGreat
namespace Go.Proofs.YtpohaahihdhleaaGreat
end Go.Proofs.YtpohaahihdhleaaGreat
namespace Go.Proofs.YtpohaahihdhleaaGreat
open Go.RowKit Go.Maps Go.Shelf Go.Sort Go.Lib
end Go.Proofs.YtpohaahihdhleaaGreat
namespace Go.Proofs.YtpohaahihdhleaaGreat
open Go.RowKit Go.Maps
end Go.Proofs.YtpohaahihdhleaaGreat
namespace Go.Proofs.YtpohaahihdhleaaGreat
variable {B : Nat} {m : Al}
def Snd (L : List Hd) : Prop := ∀ q, 1 ≤ q → (L.getD q default).k = 3 → ∃ a, 1 ≤ a ∧ a < q ∧ (L.getD a default).k = 2 ∧ (q : Int) < (a : Int) + (L.getD a default).l
end Go.Proofs.YtpohaahihdhleaaGreat
namespace Go.Proofs.YtpohaahihdhleaaGreat
open Go.RowKit
section
variable {U : List Bool} {P : Nat → List Nat} {M : Mk}
end
section
variable {w : World} {A : AF} {n B : Nat} {m : Al} {K : MkF} {M : Mk}
end
section
variable {w : World} {A : AF} {n B : Nat} {m : Al} {K : MkF} {M : Mk}
end
end Go.Proofs.YtpohaahihdhleaaGreat
namespace Go.Proofs.YtpohaahihdhleaaGreat
open Go.RowKit Go.Maps
end Go.Proofs.YtpohaahihdhleaaGreat
namespace Go.Proofs.YtpohaahihdhleaaGreat
open Go.RowKit
section
variable {w wr w' : World} {Q Q' : List Nat} {A : AF} {n N N' : Nat} {m m' : Al} {v : Value} {xs : List Nat} {K : MkF} {M M' : Mk}
end
end Go.Proofs.YtpohaahihdhleaaGreat
namespace Go.Proofs.YtpohaahihdhleaaGreat
open Go.RowKit Go.Maps
set_option maxHeartbeats 1000000 in
theorem rints_same {w : World} (a b : Option Addr) (n ca cb : Nat) (xs : List Nat) (hn : xs.length = n) (ha : Cells w a (xs.map vi)) (hb : Cells w b (xs.map vi)) (hl : n ≤ 1000000000) :
  Calls Tryz.prog 25 #[.slice a n ca, .slice b n cb] w (Gives (.bool true) w) := by
 have HP : Hid (∀ w', Below w.heap.size w w' → Gives (.bool true) w (.returned (.bool true)) w') := LH (fun w' h => ⟨rfl, h⟩)
 generalize Gives (.bool true) w = Post at *
 have HA := LH ha
 have HB := LH hb
 have HN := LH hn
 clear ha hb hn
 go_enter Tryz.func25, Tryz.ntmps25
 go_wp2_with fail
 go_loopw [4, 5] (fun f i wr => ∃ k : Nat, k ≤ n ∧ f = .bool false ∧ i = .int .i64 (k : Int) ∧ Hid (Below w.heap.size w wr)) (fun _ i _ => n - (intOf i).toNat)
 case atStart => exact ⟨0, Nat.zero_le _, rfl, rfl, LH (Below.refl _ _)⟩
 case round =>
  obtain ⟨k, hk, rfl, rfl, HBl⟩ := hrel
  by_cases hlt : k < n
  ·have hlt' : (k : Int) < (n : Int) := by omega
   obtain ⟨b1, o1, rfl, _, hc1⟩ := (HA.out.below HBl.out (Nat.le_refl _)).at (i := k) (by rw [List.length_map, HN.out]; exact hlt)
   obtain ⟨b2, o2, rfl, _, hc2⟩ := (HB.out.below HBl.out (Nat.le_refl _)).at (i := k) (by rw [List.length_map, HN.out]; exact hlt)
   obtain ⟨x, hx⟩ : ∃ x, xs[k]? = some x := ⟨_, List.getElem?_eq_getElem (by rw [HN.out]; exact hlt)⟩
   have c1 := hc1 k (vi x) (by rw [List.getElem?_map, hx]; rfl)
   have c2 := hc2 k (vi x) (by rw [List.getElem?_map, hx]; rfl)
   have r1 := fun x => later_cell c1 x
   have r2 := fun x => later_cell c2 x
   clear hc1 hc2 hx c1 c2
   go_upto_region 6 with fail
   refine wp_region_later (by kernel_rfl) (by kernel_rfl) ?_
   repeat (quiet_step (fail))
   refine wpQuiet_nil ?_
   rintro w1 ⟨x1, hx1⟩
   have HB1 := LH (HBl.out.trans ((show Below wr.heap.size wr w1 by rw [hx1]; exact x1.below).mono HBl.out.size))
   clear hx1 r1 r2
   go_wp2_with fail
   exact ⟨⟨k + 1, by omega, rfl, vint (by omega), HB1⟩, by simp [intOf]; omega⟩
  ·obtain rfl : k = n := by omega
   have hf : decide ((k : Int) < (k : Int)) = false := by simp
   go_wp2_with fail
   exact HP.out _ HBl.out
end Go.Proofs.YtpohaahihdhleaaGreat
namespace Go.Proofs.YtpohaahihdhleaaGreat
open Go.RowKit
end Go.Proofs.YtpohaahihdhleaaGreat
namespace Go.Proofs.YtpohaahihdhleaaGreat
open Go.RowKit Go.Maps
section
variable {P : Program} {C : World → Prop} {ops : Array Oper} {rest : List Oper} {o : Oper} {a : Act} {Q : Act → Prop}
end
section
variable {w : World} {P : Program} {ops : Array Oper} {rest : List Oper} {o : Oper} {act : Act} {Q : Exit → Act → World → Prop}
end
end Go.Proofs.YtpohaahihdhleaaGreat
namespace Go.Proofs.YtpohaahihdhleaaGreat
open Go.RowKit
end Go.Proofs.YtpohaahihdhleaaGreat
namespace Go.Proofs.YtpohaahihdhleaaGreat
open Go.Lib (decDigits itoa nDigits)
end Go.Proofs.YtpohaahihdhleaaGreat
namespace Go.Proofs.YtpohaahihdhleaaGreat
open Go.RowKit
open Go.Lib (decDigits itoa nDigits)
open Go.Lib (decDigits itoa nDigits)
open Go.Lib (decDigits itoa nDigits)
section
variable {P : Program} {w : World} {ops : Array Oper} {rest : List Oper} {o : Oper} {a : Act} {Q : Exit → Act → World → Prop}
end
end Go.Proofs.YtpohaahihdhleaaGreat
namespace Go.Proofs
open Go.Shelf
end Go.Proofs
namespace Go.Proofs.YtpohaahihdhleaaGreat
open Go.RowKit Go.Shelf
end Go.Proofs.YtpohaahihdhleaaGreat
namespace Go.Proofs.YtpohaahihdhleaaGreat
open Go.RowKit
def nlB (wd : Int) (b B : Nat) : Prop := 0 < wd ∧ (b : Int) % wd = 0 ∧ (b : Int) < (B : Int) - 1
instance (wd : Int) (b B : Nat) : Decidable (nlB wd b B) := by unfold nlB; infer_instance
open Go.Lib (decDigits itoa nDigits)
open Go.Lib (decDigits itoa nDigits)
end Go.Proofs.YtpohaahihdhleaaGreat
namespace Go.Proofs.YtpohaahihdhleaaGreat
section
variable {P : Program} {ops : Array Oper} {md : Region.Mode} {C : World → Prop} {Q : Exit → Act → World → Prop} {ex : List Nat}
end
end Go.Proofs.YtpohaahihdhleaaGreat
namespace Go.Proofs.YtpohaahihdhleaaGreat
open Go.RowKit Go.Maps
end Go.Proofs.YtpohaahihdhleaaGreat
namespace Go.Proofs.YtpohaahihdhleaaGreat
variable {B : Nat} {m : Al}
end Go.Proofs.YtpohaahihdhleaaGreat
namespace Go.Proofs.YtpohaahihdhleaaGreat
open Go.RowKit
section
variable {C : World → Prop} {ops : Array Oper} {rest : List Oper} {o : Oper} {a : Act} {Q : Act → Prop}
end
end Go.Proofs.YtpohaahihdhleaaGreat
namespace Go.Proofs.YtpohaahihdhleaaGreat
open Go.RowKit Go.Maps
def AlGoR (w w' : World) (A : AF) (n B : Nat) (m : Al) : Prop := ∃ R', AlAt w' (A.re R') n B m ∧ Touch A.R w w' ∧ ∀ b ∈ R', b ∈ A.R ∨ w.heap.size ≤ b
theorem AlGoR.refl {w : World} {A : AF} {n B : Nat} {m : Al} (h : AlAt w A n B m) : AlGoR w w A n B m := ⟨A.R, h, Touch.refl _ _, fun _ h => .inl h⟩
theorem AlGoR.later {w w1 w2 : World} {A : AF} {n B : Nat} {m : Al} (h : AlGoR w w1 A n B m) (hb : Below w1.heap.size w1 w2) : AlGoR w w2 A n B m := by
 obtain ⟨R', h1, h2, h3⟩ := h
 exact ⟨R', h1.below hb, h2.later hb, h3⟩
theorem AlGoR.trans {w w1 w2 : World} {A : AF} {R1 : List Nat} {n B : Nat} {m : Al} (h1 : Touch A.R w w1) (h2 : ∀ b ∈ R1, b ∈ A.R ∨ w.heap.size ≤ b) (h : AlGoR w1 w2 (A.re R1) n B m) : AlGoR w w2 A n B m := by
 obtain ⟨R', g1, g2, g3⟩ := h
 refine ⟨R', g1, h1.own g2 (fun b hb => (h2 b hb).symm), fun b hb => ?_⟩
 rcases g3 b hb with c | c
 ·exact h2 b c
 ·exact .inr (Nat.le_trans h1.size c)
theorem AlAt.setFreeR {w w' : World} {A : AF} {n n' B : Nat} {m : Al} {S : FL} (h : AlAt w A n B m) (hn : n ≤ n') (hg : FreeGo w w' A.f A.mb n' A.R S) : AlGoR w w' A n' B ⟨m.bm, m.used, S⟩ := by
 obtain ⟨R', g1, g2, g3⟩ := hg
 have hk : ∀ k ∈ A.fix, w'.heap[k]? = w.heap[k]? := fun k hk => g2.block k (h.fixlt hk) (fun hm => h.nR k hm hk)
 refine ⟨R', ⟨(hk A.a (by simp [AF.fix])).trans h.head, (h.man.keep (fun k hk' => hk k (by simp [AF.fix, hk']))).mono hn, h.set.keep (fun k hk' => hk k (by simp [AF.fix, hk'])), g1, h.nd, fun b hb hf => ?_, h.lenU⟩, g2, g3⟩
 rcases g3 b hb with c | c
 ·exact h.nR b c hf
 ·have := h.fixlt hf; omega
set_option maxHeartbeats 2000000 in
set_option maxRecDepth 20000 in
theorem acarveR_any {w : World} {A : AF} {n B : Nat} {m : Al} (h : AlAt w A n B m) (hB : B ≤ 200) (hL : m.fl.upto 900000) (b k : Nat) (hk : k < 32) (hb : 1 ≤ b) (hbB : b < B) (hlen : m.used.length = 512 * B) :
  Calls Tryz.prog 122 #[valloc A, .int .i64 (b : Int), .int .i64 (k : Int)] w fun e w' => e = .returned (.tuple #[]) ∧ AlGoR w w' A n B ⟨m.bm, m.used, m.carved b k⟩ := by
 have HA := LH h
 have HUp := LH hL
 have HCN : Hid (clsCells k ≤ 256) := LH (by
  have := clsWords_pos (k : Int) (by omega)
  unfold clsCells
  exact Nat.div_le_of_le_mul (by omega))
 obtain ⟨N, hN⟩ : ∃ N, N = clsCells k := ⟨_, rfl⟩
 have HAdr : Hid (∀ i : Nat, i < N → cellAt (B : Int) (k : Int) (b : Int) (i : Int) = (cellOf b k i : Nat)) := LH (fun i hi => cellAt_of hk hb hbB (by rw [← hN]; exact hi))
 have HCar : Hid (m.carved b k = m.fl.carve (fun a => m.used.getD a false) (cellOf b k) k N) := LH (by rw [hN]; rfl)
 have HCells := LH (fun w => ccells_any (k : Int) w)
 rw [← hN] at HCN HCells
 clear h hL hN
 go_enter Tryz.func122, Tryz.ntmps122
 go_wp2_with fail
 refine (HCells.out _).mono ?_
 rintro e w1 ⟨rfl, hb1⟩
 have HB1 := LH hb1
 have hN2 := HCN.out
 clear hb1
 go_wp2_with fail
 go_loopw [6] (fun iv wr => ∃ (j : Nat) (T : FL), j ≤ N ∧ iv = .int .i64 ((j : Int) - 1) ∧ Hid (m.carved b k = T.carve (fun a => m.used.getD a false) (cellOf b k) k j) ∧ Hid (T.upto (900000 + (N - j))) ∧ Hid (AlGoR w wr A n B ⟨m.bm, m.used, T⟩)) (fun iv _ => (intOf iv + 1).toNat)
 case atStart => exact ⟨N, m.fl, Nat.le_refl _, vint (by omega), HCar, LH (HUp.out.mono (by omega)), LH ((AlGoR.refl HA.out).later HB1.out)⟩
 case round =>
  clear HB1
  obtain ⟨j, T, hj, rfl, HT, HTu, HGo⟩ := hrel
  cases j with
  | zero =>
   have HFin : Hid (AlGoR w wr A n B ⟨m.bm, m.used, m.carved b k⟩) := LH (by rw [HT.out]; exact HGo.out)
   go_wp2_with fail
   go_end0
   exact ⟨rfl, HFin.out⟩
  | succ i =>
   have hi0 : ((i + 1 : Nat) : Int) - 1 = (i : Int) := by omega
   rw [hi0]
   obtain ⟨R1, ha1, ht1, hr1⟩ := HGo.out
   have HA1 := LH ha1
   have HT1 := LH ht1
   have HR1 := LH hr1
   have c2 := ha1.c2
   clear ha1 ht1 hr1
   have HCs : Hid (T.carve (fun a => m.used.getD a false) (cellOf b k) k (i + 1) = (if m.used.getD (cellOf b k i) false then T else T.pushed k (cellOf b k i)).carve (fun a => m.used.getD a false) (cellOf b k) k i) := LH rfl
   have HAd := LH (caddr_any B (by omega) (k : Int) (b : Int) (i : Int))
   rw [HAdr.out i (by omega)] at HAd
   have HHas := LH (hasI_nat m.used (cellOf b k i))
   generalize cellOf b k i = x at *
   change wr.cell? ⟨A.a, 2, none⟩ = some (.int .i64 (B : Int)) at c2
   go_wp2_with fail
   refine (HAd.out _).mono ?_
   rintro e w2 ⟨rfl, hb2⟩
   have HA2 := LH (HA1.out.below hb2)
   have HB2 := LH hb2
   have c3 := HA2.out.c3
   have c4 := HA2.out.c4
   change w2.cell? ⟨A.a, 3, none⟩ = some (vset A.U) at c3
   change w2.cell? ⟨A.a, 4, none⟩ = some (.pointer (some ⟨A.f, 0, none⟩)) at c4
   clear hb2 c2
   go_wp2_with fail
   refine (shas_any HA2.out.set (x : Int)).mono ?_
   rintro e w3 ⟨rfl, rfl⟩
   dsimp only
   rw [HHas.out]
   cases hu : m.used.getD x false with
   | true =>
    have HNext : Hid (m.carved b k = T.carve (fun a => m.used.getD a false) (cellOf b k) k i) := LH (by rw [HT.out, HCs.out, hu]; rfl)
    clear hu
    go_wp2_with fail
    go_roundw
    case rel => exact ⟨i, T, by omega, vint (by omega), HNext, LH (HTu.out.mono (by omega)), LH (HGo.out.later HB2.out)⟩
    case measure => simp [intOf]
   | false =>
    have HNext : Hid (m.carved b k = (T.pushed k x).carve (fun a => m.used.getD a false) (cellOf b k) k i) := LH (by rw [HT.out, HCs.out, hu]; rfl)
    clear hu
    go_wp2_with fail
    refine (fpush_any HA2.out.free (HTu.out.mono (by omega)) k x hk).mono ?_
    rintro e w4 ⟨rfl, hg4⟩
    have HGo4 : Hid (AlGoR w w4 A n B ⟨m.bm, m.used, T.pushed k x⟩) := LH (AlGoR.trans (HT1.out.later HB2.out) HR1.out (HA2.out.setFreeR (Nat.le_refl _) hg4))
    have HTu4 := LH (FL.pushed_upto HTu.out k x)
    clear hg4
    generalize (if T.has k x = true then (41 : Int) else 0) = er at *
    go_wp2_with fail
    go_roundw
    case rel => exact ⟨i, _, by omega, vint (by omega), HNext, LH (HTu4.out.mono (by omega)), HGo4⟩
    case measure => simp [intOf]
def carveTo (u : List Bool) (L : List Hd) : Nat → FL
 | 0 => FL.empty
 | n + 1 => if (hdGet L ((n + 1 : Nat) : Int)).k = 1 then (carveTo u L n).carve (fun a => u.getD a false) (cellOf (n + 1) (hdGet L ((n + 1 : Nat) : Int)).c.toNat) (hdGet L ((n + 1 : Nat) : Int)).c.toNat (clsCells (hdGet L ((n + 1 : Nat) : Int)).c.toNat) else carveTo u L n
def newUsed (S : Dev) (L : List Hd) : List Bool → List Int → List Bool × Int
 | u, [] => (u, 0)
 | u, x :: xs => if (placedN S L x).isSome = false then (u, 22) else if freshI u x = false then (u, 41) else newUsed S L (addI u x) xs
theorem newUsed_cons (S : Dev) (L : List Hd) (u : List Bool) (x : Int) (xs : List Int) : newUsed S L u (x :: xs) = if (placedN S L x).isSome = false then (u, 22) else if freshI u x = false then (u, 41) else newUsed S L (addI u x) xs := rfl
theorem clsCells_le {k : Nat} (hk : k < 32) : clsCells k ≤ 256 := by
 have := clsWords_pos (k : Int) (by omega)
 unfold clsCells
 exact Nat.div_le_of_le_mul (by omega)
theorem empty_upto : FL.empty.upto 0 := by
 intro i hi
 unfold FL.at FL.empty
 split <;> simp
theorem hd_cls {B : Nat} {m : Bm} (h : BmOk B m) {j : Nat} (h1 : 1 ≤ j) (hj : j < B) (hk : (hdGet m.list (j : Int)).k = 1) : 0 ≤ (hdGet m.list (j : Int)).c ∧ (hdGet m.list (j : Int)).c < 32 := by
 rw [hdGet_at h h1 hj] at hk ⊢
 have hr := of_decide_eq_true (h.right j hj)
 unfold HdRight at hr
 omega
theorem carveTo_upto {B : Nat} {m : Bm} (h : BmOk B m) (u : List Bool) : ∀ n, n < B → (carveTo u m.list n).upto (256 * n)
 | 0, _ => empty_upto
 | n + 1, hn => by
  have ih := carveTo_upto h u n (by omega)
  unfold carveTo
  by_cases c : (hdGet m.list ((n + 1 : Nat) : Int)).k = 1
  ·rw [if_pos c]
   have hc := hd_cls h (by omega) hn c
   exact (FL.carve_upto ih _).mono (by have := clsCells_le (k := (hdGet m.list ((n + 1 : Nat) : Int)).c.toNat) (by omega); omega)
  ·rw [if_neg c]
   exact ih.mono (by omega)
def NewPost (w : World) (X : MF) (n B : Nat) (m : Bm) (xs : List Int) : Ending → World → Prop := fun e w' => Below w.heap.size w w' ∧
  (((newUsed m.dev m.list (List.replicate m.dev.cache.length false) xs).2 = 0 ∧ ∃ A : AF, e = .returned (.tuple #[valloc A, .int .i64 0]) ∧ A.X = X ∧
     AlAt w' A n B ⟨m, (newUsed m.dev m.list (List.replicate m.dev.cache.length false) xs).1, carveTo (newUsed m.dev m.list (List.replicate m.dev.cache.length false) xs).1 m.list (B - 1)⟩ ∧ ∀ k ∈ A.list, k ∈ X.list ∨ w.heap.size ≤ k) ∨
   ((newUsed m.dev m.list (List.replicate m.dev.cache.length false) xs).2 ≠ 0 ∧ e = .returned (.tuple #[.pointer none, .int .i64 (newUsed m.dev m.list (List.replicate m.dev.cache.length false) xs).2])))
set_option maxHeartbeats 8000000 in
set_option maxRecDepth 20000 in
theorem anew_any {w : World} {X : MF} {n B : Nat} {m : Bm} (h : ManAt w X n B m) (hok : BmOk B m) (hB1 : 1 ≤ B) (hB : B ≤ 200) (hlen : m.dev.cache.length = 512 * B) (ua : Option Addr) (ul uc : Nat) (xs : List Int) (hx : xs.length = ul) (hcs : Cells w ua (xs.map (Value.int .i64))) (hul : ul ≤ 1000000) :
  Calls Tryz.prog 70 #[vdev X.F, .pointer (some ⟨X.m, 0, none⟩), .slice ua ul uc] w (NewPost w X n B m xs) := by
 have HM := LH h
 have HOk := LH hok
 have HSm := LH h.dev.small
 have HXm := LH h.mem
 have HX := LH hx
 have HCs := LH hcs
 have HLen := LH hlen
 obtain ⟨u0, hu0⟩ : ∃ u0, u0 = List.replicate m.dev.cache.length false := ⟨_, rfl⟩
 have HU0 : Hid (u0.length = 512 * B) := LH (by rw [hu0, List.length_replicate, hlen])
 have HPost : Hid (∀ A w' u, newUsed m.dev m.list u0 xs = (u, 0) → A.X = X → AlAt w' A n B ⟨m, u, carveTo u m.list (B - 1)⟩ → Below w.heap.size w w' → (∀ k ∈ A.list, k ∈ X.list ∨ w.heap.size ≤ k) → NewPost w X n B m xs (.returned (.tuple #[valloc A, .int .i64 0])) w') := LH (fun A w' u h0 a b c d => by
  unfold NewPost
  rw [← hu0, h0]
  exact ⟨c, .inl ⟨rfl, A, rfl, a, b, d⟩⟩)
 have HPerr : Hid (∀ w' u c, newUsed m.dev m.list u0 xs = (u, c) → c ≠ 0 → Below w.heap.size w w' → NewPost w X n B m xs (.returned (.tuple #[.pointer none, .int .i64 c])) w') := LH (fun w' u c h0 hc hb => by
  unfold NewPost
  rw [← hu0, h0]
  exact ⟨hb, .inr ⟨hc, rfl⟩⟩)
 generalize NewPost w X n B m xs = Post at *
 have hlen1 : 1 ≤ m.dev.cache.length := by omega
 have HL1 := LH hlen1
 have HU0e := LH hu0
 clear h hok hx hcs hlen hu0 hlen1
 go_enter Tryz.func70, Tryz.ntmps70
 go_wp2_with fail
 refine (bgeom_any HM.out).mono ?_
 rintro e w1 ⟨rfl, hb1⟩
 have HM1 := LH (HM.out.below hb1)
 have HB1 := LH hb1
 clear hb1
 go_wp2_with fail
 refine (dlen_any HM1.out.dev).mono ?_
 rintro e w2 ⟨rfl, rfl⟩
 go_wp2_with fail
 refine (snew_any m.dev.cache.length HL1.out HSm.out _).mono ?_
 rintro e w2 ⟨U, rfl, hU2, hb2, hU3⟩
 have HM2 := LH (HM1.out.below hb2)
 have HB2 := LH (HB1.out.trans (hb2.mono HB1.out.size))
 have HU := LH hU2
 have HUn := LH (fun k hk => Nat.le_trans HB1.out.size (hU3 k hk))
 clear hU2 hb2 hU3 HM1
 go_wp2_with fail
 refine (fnew_any _).mono ?_
 rintro e w3 ⟨f, mb, rfl, hf3, hb3, hf4, hf5⟩
 have HM3 := LH (HM2.out.below hb3)
 have HB3 := LH (HB2.out.trans (hb3.mono HB2.out.size))
 have HU3 := LH (HU.out.below hb3)
 have HF := LH hf3
 have HFn : Hid (w2.heap.size ≤ f ∧ w2.heap.size ≤ mb) := LH ⟨hf4, hf5⟩
 have HW2 := LH HB2.out.size
 have HU2m := LH HU.out.mem
 clear hf3 hb3 hf4 hf5 HM2
 go_upto_region 2 with fail
 have hbx := below_alloc w3 (Obj.cells #[.pointer (some ⟨X.m, 0, none⟩), vdev X.F, .int .i64 (B : Int), vset U, .pointer (some ⟨f, 0, none⟩)] 77)
 have hhx := heap_alloc_new w3 (Obj.cells #[.pointer (some ⟨X.m, 0, none⟩), vdev X.F, .int .i64 (B : Int), vset U, .pointer (some ⟨f, 0, none⟩)] 77)
 obtain ⟨A, hA⟩ : ∃ A : AF, A = ⟨w3.heap.size, X, U, f, mb, [f, mb]⟩ := ⟨_, rfl⟩
 have HAA : Hid (A.X = X ∧ ∀ k ∈ A.list, k ∈ X.list ∨ w.heap.size ≤ k) := LH (by
  subst hA
  refine ⟨rfl, fun k hk => ?_⟩
  simp only [AF.list, AF.fix, List.mem_append, List.mem_cons, List.not_mem_nil, or_false] at hk
  have h1 := HW2.out
  have h2 := HB3.out.size
  have h3 := HFn.out
  rcases hk with (rfl | hk | hk) | rfl | rfl
  ·right; exact h2
  ·exact .inl hk
  ·exact .inr (HUn.out k hk)
  ·right; omega
  ·right; omega)
 have HAt : Hid (AlAt (w3.alloc (Obj.cells #[.pointer (some ⟨X.m, 0, none⟩), vdev X.F, .int .i64 (B : Int), vset U, .pointer (some ⟨f, 0, none⟩)] 77)) A n B ⟨m, List.replicate m.dev.cache.length false, FL.empty⟩) := LH (by
  subst hA
  have h1 := HW2.out
  have h2 := HB3.out.size
  have h3 := HFn.out
  have hfm := HF.out.mem
  have hf1 := hfm f (by simp)
  have hf2 := hfm mb (by simp)
  obtain ⟨_, _, _, _, hne⟩ := id HF.out
  have hmbf : f ≠ mb := by obtain ⟨V, hV, _⟩ := id HF.out; exact hV.ne
  obtain ⟨ws, hws⟩ := id HU3.out
  have hune := hws.ne
  have hu1 := HU2m.out U.u (by simp [SetF.list])
  have hu2 := HU2m.out U.b (by simp [SetF.list])
  have hu3 := HUn.out U.u (by simp [SetF.list])
  have hu4 := HUn.out U.b (by simp [SetF.list])
  have hXl : ∀ k, w.heap.size ≤ k → k ∉ X.list := fun k hk hm => by have := HXm.out k hm; omega
  refine ⟨hhx, HM3.out.below hbx, HU3.out.below hbx, (HF.out.below hbx).mono (Nat.zero_le _), ?_, ?_, by simp⟩
  ·show (w3.heap.size :: (X.list ++ [U.u, U.b])).Nodup
   rw [List.nodup_cons, List.nodup_append]
   refine ⟨?_, HM3.out.nd, by simpa using hune, ?_⟩
   ·simp only [List.mem_append, List.mem_cons, List.not_mem_nil, or_false, not_or]
    exact ⟨hXl _ h2, by omega, by omega⟩
   ·intro a ha b hb e
    subst e
    simp only [List.mem_cons, List.not_mem_nil, or_false] at hb
    rcases hb with rfl | rfl
    ·exact hXl _ hu3 ha
    ·exact hXl _ hu4 ha
  ·intro b hb
   show b ∉ w3.heap.size :: (X.list ++ [U.u, U.b])
   simp only [List.mem_cons, List.mem_append, List.not_mem_nil, or_false, not_or] at hb ⊢
   rcases hb with rfl | rfl
   ·exact ⟨by omega, hXl _ (by omega), by omega, by omega⟩
   ·exact ⟨by omega, hXl _ (by omega), by omega, by omega⟩)
 have HB4 := LH (HB3.out.trans (hbx.mono HB3.out.size))
 have HAv : Hid (w3.heap.size = A.a) := LH (by rw [hA])
 have HXe : Hid (A.X = X) := LH HAA.out.1
 generalize w3.alloc _ = w4 at *
 rw [HAv.out]
 have HAr : Hid (∀ b ∈ A.R, w.heap.size ≤ b) := LH (by
  subst hA
  intro b hb
  simp only [List.mem_cons, List.not_mem_nil, or_false] at hb
  have h1 := HB2.out.size
  have h3 := HFn.out
  rcases hb with rfl | rfl <;> omega)
 have HAu : Hid (∀ b ∈ A.U.list, w.heap.size ≤ b) := LH (by subst hA; exact HUn.out)
 rw [← HU0e.out] at HAt
 clear hA hbx hhx HM3 HU3 HF HU2m HUn HFn HW2 HM HXm HB3 HB2 HB1 HU HAv HU0e HL1
 go_wp2_with fail
 go_loopw [27] (fun iv wr => ∃ (i : Nat) (u : List Bool) (R : List Nat), i ≤ ul ∧ iv = .int .i64 (i : Int) ∧ Hid (newUsed m.dev m.list u0 xs = newUsed m.dev m.list u (xs.drop i)) ∧ Hid (u.length = 512 * B) ∧ Hid (AlAt wr (A.re R) n B ⟨m, u, FL.empty⟩) ∧ Hid (Below w.heap.size w wr) ∧ Hid (∀ b ∈ R, w.heap.size ≤ b)) (fun iv _ => ul - (intOf iv).toNat)
 case atStart => exact ⟨0, u0, A.R, Nat.zero_le _, rfl, LH rfl, HU0, HAt, HB4, HAr⟩
 case round =>
  clear HAt HB4 HAr
  obtain ⟨i, u, R, hi, rfl, HNu, HUl, HAt, HBw, HR⟩ := hrel
  by_cases hlt : i < ul
  ·have hlt' : (i : Int) < (ul : Int) := by omega
   have hil : i < xs.length := by rw [HX.out]; exact hlt
   obtain ⟨ub, uo, rfl, hub, hcl⟩ := (HCs.out.below HBw.out (Nat.le_refl _)).atMap (0 : Int) hil
   have e0 := hcl i hil
   obtain ⟨x, hx⟩ : ∃ x, x = xs.getD i 0 := ⟨_, rfl⟩
   have HDr : Hid (xs.drop i = x :: xs.drop (i + 1)) := LH (by
    rw [hx, List.drop_eq_getElem_cons hil, List.getD_eq_getElem?_getD, List.getElem?_eq_getElem hil]; rfl)
   rw [← hx] at e0
   have HNu2 := HNu.out
   rw [HDr.out, newUsed_cons] at HNu2
   have HNu3 := LH HNu2
   clear HNu2 HNu HDr hcl hil hx hub
   go_wp2_with fail
   refine (aplace_any HAt.out (by omega) x).mono ?_
   rintro e w5 ⟨⟨p, d, rfl, _⟩, hb5⟩
   have HA5 := LH (HAt.out.below hb5)
   have HB5 : Hid (Below w.heap.size w w5) := LH (HBw.out.trans (hb5.mono HBw.out.size))
   clear hb5 HAt HBw
   generalize (placedN m.dev m.list x).isSome = bp at *
   have hbx := below_alloc w5 (Obj.cells #[.int .i64 p, .int .i64 d] 211)
   have HA6 := LH (HA5.out.below hbx)
   have HB6 : Hid (Below w.heap.size w _) := LH (HB5.out.trans (hbx.mono HB5.out.size))
   clear hbx HA5 HB5
   cases bp with
   | false =>
    have HE := LH (HPerr.out _ _ _ (by rw [HNu3.out, if_pos rfl]) (by decide) HB6.out)
    clear HNu3 HA6 HB6
    go_wp2_with fail
    exact HE.out
   | true =>
    have HNu4 : Hid (newUsed m.dev m.list u0 xs = if freshI u x = false then (u, 41) else newUsed m.dev m.list (addI u x) (xs.drop (i + 1))) := LH (by rw [HNu3.out, if_neg (by simp)])
    clear HNu3
    have c3 := HA6.out.c3
    change World.cell? _ ⟨A.a, 3, none⟩ = some (vset A.U) at c3
    go_wp2_with fail
    refine (sadd_any HA6.out.set x).mono ?_
    rintro e w7 ⟨rfl, hs7, ht7⟩
    have HB7 : Hid (Below w.heap.size w w7) := LH (HB6.out.trans (ht7.below HB6.out.size HAu.out))
    have hul2 : (addI u x).length = u.length := by
     unfold addI
     split
     ·exact List.length_set
     ·rfl
    obtain ⟨R', hg1, _, hg3⟩ := HA6.out.setUsed hs7 ht7 hul2
    have HA7 : Hid (AlAt w7 (A.re R') n B ⟨m, addI u x, FL.empty⟩) := LH hg1
    have HR7 : Hid (∀ b ∈ R', w.heap.size ≤ b) := LH (fun b hb => (hg3 b hb).elim (HR.out b) (fun c => Nat.le_trans HB6.out.size c))
    have HUl7 : Hid ((addI u x).length = 512 * B) := LH (by rw [hul2, HUl.out])
    clear hs7 ht7 hul2 hg1 hg3 c3 HA6 HB6
    generalize hfr : freshI u x = fr at *
    cases fr with
    | false =>
     have HE := LH (HPerr.out _ _ _ (by rw [HNu4.out, if_pos rfl]) (by decide) HB7.out)
     clear HNu4
     go_wp2_with fail
     exact HE.out
    | true =>
     have HNu5 : Hid (newUsed m.dev m.list u0 xs = newUsed m.dev m.list (addI u x) (xs.drop (i + 1))) := LH (by rw [HNu4.out, if_neg (by simp)])
     clear HNu4 hfr
     go_wp2_with fail
     go_roundw
     case rel => exact ⟨i + 1, _, R', by omega, vint (by omega), HNu5, HUl7, HA7, HB7, HR7⟩
     case measure => simp [intOf]; omega
  ·obtain rfl : i = ul := by omega
   have HNu2 : Hid (newUsed m.dev m.list u0 xs = (u, 0)) := LH (by
    rw [HNu.out, List.drop_of_length_le (by rw [HX.out]; exact Nat.le_refl _)]; rfl)
   clear HNu hlt hi
   have HCt : Hid (carveTo u m.list 0 = FL.empty) := LH rfl
   go_wp2_with fail
   go_loopw [13] (fun bv wr => ∃ (j : Nat) (R : List Nat), j + 1 ≤ B ∧ bv = .int .i64 ((j + 1 : Nat) : Int) ∧ Hid (AlAt wr (A.re R) n B ⟨m, u, carveTo u m.list j⟩) ∧ Hid (Below w.heap.size w wr) ∧ Hid (∀ b ∈ R, w.heap.size ≤ b)) (fun bv _ => B - (intOf bv).toNat)
   case atStart => exact ⟨0, R, by omega, rfl, LH (by rw [HCt.out]; exact HAt.out), HBw, HR⟩
   case round =>
    clear HAt HBw HR HCt
    obtain ⟨j, R, hj1, rfl, HAt, HBw, HR⟩ := hrel
    have c0 := HAt.out.man.c0
    have HMan : Hid (ManAt wr X n B m) := LH (by have := HAt.out.man; rw [show (A.re R).X = X from HXe.out] at this; exact this)
    rw [show (A.re R).X = X from HXe.out] at c0
    go_wp2_with fail
    refine (tlen_any HMan.out.tab).mono ?_
    rintro e w5 ⟨rfl, rfl⟩
    by_cases hlt : j + 1 < B
    ·have hlt' : ((j + 1 : Nat) : Int) < (B : Int) := by omega
     have HGet := LH (tget_any (HMan.out.tab.at (MF.notHot (MF.apart HMan.out.nd).t).1) ((j + 1 : Nat) : Int) (by rw [HMan.out.tab.len]; omega))
     have HCv : Hid (carveTo u m.list (j + 1) = if (hdGet m.list ((j + 1 : Nat) : Int)).k = 1 then (carveTo u m.list j).carve (fun a => u.getD a false) (cellOf (j + 1) (hdGet m.list ((j + 1 : Nat) : Int)).c.toNat) (hdGet m.list ((j + 1 : Nat) : Int)).c.toNat (clsCells (hdGet m.list ((j + 1 : Nat) : Int)).c.toNat) else carveTo u m.list j) := LH rfl
     have HCl := LH (fun (hk : (hdGet m.list ((j + 1 : Nat) : Int)).k = 1) => hd_cls HOk.out (by omega) hlt hk)
     have HUp := LH ((carveTo_upto HOk.out u j (by omega)).mono (show 256 * j ≤ 900000 by omega))
     obtain ⟨J, hJ⟩ : ∃ J, J = j + 1 := ⟨_, rfl⟩
     rw [← hJ] at HGet HCv HCl hlt' hlt ⊢
     have HJ := LH hJ
     clear hJ hj1
     unfold Hd.val at HGet
     generalize hdGet m.list (J : Int) = hd at *
     obtain ⟨k, c, l⟩ := hd
     dsimp only at HGet HCv HCl
     go_wp2_with fail
     refine HGet.out.mono ?_
     rintro e w6 ⟨rfl, hb6⟩
     have hbx := below_alloc w6 (Obj.cells #[.int .i64 k, .int .i64 c, .int .i64 l] 107)
     have HA6 := LH ((HAt.out.below hb6).below hbx)
     have HB6 : Hid (Below w.heap.size w _) := LH ((HBw.out.trans (hb6.mono HBw.out.size)).trans (hbx.mono (Nat.le_trans HBw.out.size hb6.size)))
     clear hb6 hbx HGet HAt HBw HMan c0
     by_cases hk : k = 1
     ·subst hk
      obtain ⟨h1, h2⟩ := HCl.out rfl
      obtain ⟨cc, rfl⟩ := Int.eq_ofNat_of_zero_le h1
      have HCv2 : Hid (carveTo u m.list J = (⟨m, u, carveTo u m.list j⟩ : Al).carved J cc) := LH (by rw [HCv.out, if_pos rfl, HJ.out]; rfl)
      have HCa := LH (acarveR_any HA6.out hB HUp.out J cc (by omega) (by have := HJ.out; omega) hlt HUl.out)
      rw [← HCv2.out] at HCa
      clear HCv HCl HCv2 h1 h2
      go_wp2_with fail
      refine HCa.out.mono ?_
      rintro e w7 ⟨rfl, R', hg1, hg2, hg3⟩
      have HA7 : Hid (AlAt w7 (A.re R') n B ⟨m, u, carveTo u m.list J⟩) := LH hg1
      have HB7 : Hid (Below w.heap.size w w7) := LH (HB6.out.trans (hg2.below HB6.out.size HR.out))
      have HR7 : Hid (∀ b ∈ R', w.heap.size ≤ b) := LH (fun b hb => (hg3 b hb).elim (HR.out b) (fun c => Nat.le_trans HB6.out.size c))
      clear hg1 hg2 hg3 HA6 HB6 HCa
      go_wp2_with fail
      go_roundw
      case rel => exact ⟨J, R', by omega, vint (by omega), HA7, HB7, HR7⟩
      case measure => have hJe := HJ.out; simp [intOf]; omega
     ·have hk1 : ((k : Int) == 1) = false := by simpa using hk
      have HA7 : Hid (AlAt _ (A.re R) n B ⟨m, u, carveTo u m.list J⟩) := LH (by rw [HCv.out, if_neg hk]; exact HA6.out)
      clear HCv HCl HA6
      go_wp2_with fail
      go_roundw
      case rel => exact ⟨J, R, by omega, vint (by omega), HA7, HB6, HR⟩
      case measure => have hJe := HJ.out; simp [intOf]; omega
    ·obtain rfl : B = j + 1 := by omega
     have HFin := LH (HPost.out (A.re R) _ u HNu2.out HXe.out HAt.out HBw.out (fun k hk => (AF.re_list hk).elim (HAA.out.2 k) (fun c => .inr (HR.out k c))))
     clear HAt HBw HR HNu2 HMan c0
     have hlt' : decide (j + 1 < j + 1) = false := by simp
     clear hlt
     go_wp2_with fail
     exact HFin.out
end Go.Proofs.YtpohaahihdhleaaGreat
namespace Go.Proofs.YtpohaahihdhleaaGreat
variable {B : Nat} {m : Al} {bm : Bm}
theorem devWord_is (h : BmOk B bm) {b : Nat} (h1 : 1 ≤ b) (h2 : b < B) : devWord bm.dev b = encN (b : Int) (bm.list.getD b default).k (bm.list.getD b default).c (bm.list.getD b default).l := by
 unfold devWord
 rw [show (256 + (b : Int)) = ((256 + b : Nat) : Int) by omega, peek_in]
 exact h.word b h1 h2
theorem hds_at (f : Nat → Nat) {k q : Nat} (h : q < k) : (hds f k).getD q default = hdF f q := by
 unfold hds
 rw [List.getD_eq_getElem?_getD, List.getElem?_map, List.getElem?_range h]
 rfl
theorem bm_open (h : BmOk B bm) : AllOk (devWord bm.dev) B ∧ ∀ q, 1 ≤ q → (hds (devWord bm.dev) B).getD q default = bm.list.getD q default := by
 refine ⟨fun b h1 h2 => by rw [devWord_is h h1 h2, dec_enc _ _ _ _ (h.right b h2)], fun q h1 => ?_⟩
 by_cases h2 : q < B
 ·rw [hds_at _ h2]
  unfold hdF
  rw [if_neg (by omega), devWord_is h h1 h2, dec_enc _ _ _ _ (h.right q h2)]
 ·rw [List.getD_eq_getElem?_getD, List.getElem?_eq_none (by rw [hds_length]; omega), List.getD_eq_getElem?_getD, List.getElem?_eq_none (by rw [h.lenL]; omega)]
theorem bmOk_open (h : BmOk B bm) : BmOk B (bmOf bm.dev B) := by
 have hq := (bm_open h).2
 unfold bmOf
 refine ⟨hds_length _ _, freeL_len _ _ _, h.clean, fun b hb => ?_, fun b h1 h2 => ?_, fun b => ?_, fun b h1 h2 hk => ?_⟩
 ·dsimp only
  by_cases e : b = 0
  ·subst e
   rw [hds_at _ hb]
   rfl
  ·rw [hq b (by omega)]; exact h.right b hb
 ·dsimp only
  rw [hq b h1]; exact h.word b h1 h2
 ·dsimp only
  rw [freeL_fb]
  unfold freeAt
  constructor
  ·rintro ⟨_, h2, h3, h4⟩
   exact ⟨h2, h3, by simpa using h4⟩
  ·rintro ⟨h2, h3, h4⟩
   exact ⟨h3, h2, h3, by simpa using h4⟩
 ·dsimp only at hk ⊢
  rw [hq b h1] at hk ⊢
  obtain ⟨g1, g2⟩ := h.large b h1 h2 hk
  exact ⟨g1, fun i i1 i2 => by rw [hq _ (by omega)]; exact g2 i i1 i2⟩
theorem snd_open (h : BmOk B bm) (hs : Snd bm.list) : Snd (bmOf bm.dev B).list := by
 have hq := (bm_open h).2
 intro q q1 hk
 rw [show (bmOf bm.dev B).list = hds (devWord bm.dev) B from rfl] at hk ⊢
 rw [hq q q1] at hk
 obtain ⟨a, a1, a2, a3, a4⟩ := hs q q1 hk
 exact ⟨a, a1, a2, by rw [hq a a1]; exact a3, by rw [hq a a1]; exact a4⟩
theorem sound_to (h : BmOk B bm) (hs : Snd bm.list) : ∀ f b, 1 ≤ b → (∀ a, 1 ≤ a → a < b → (bm.list.getD a default).k = 2 → (a : Int) + (bm.list.getD a default).l ≤ (b : Int)) → soundN bm.list f b = 0
 | 0, _, _, _ => rfl
 | f + 1, b, hb, hr => by
  unfold soundN
  by_cases c : bm.list.length ≤ b
  ·rw [if_pos c]
  ·rw [if_neg c]
   have hbB : b < B := by rw [h.lenL] at c; omega
   have hri := of_decide_eq_true (h.right b hbB)
   unfold HdRight at hri
   by_cases h2 : (bm.list.getD b default).k = 2
   ·rw [if_pos h2]
    obtain ⟨g1, g2⟩ := h.large b hb hbB h2
    obtain ⟨l, hl⟩ := Int.eq_ofNat_of_zero_le (show 0 ≤ (bm.list.getD b default).l by omega)
    have hw : wholeN bm.list b = l := by
     refine wholeN_of (by omega) ?_ (by rw [h.lenL]; omega) (fun i i1 i2 => g2 i i1 (by omega))
     have h3 : (bm.list.getD b default).c = 0 := by omega
     generalize bm.list.getD b default = x at *
     obtain ⟨k, c, l'⟩ := x
     dsimp only at h2 h3 hl
     rw [h2, h3, hl]
    rw [hw, if_neg (by omega)]
    refine sound_to h hs f (b + l) (by omega) (fun a a1 a2 hk => ?_)
    by_cases c1 : a < b
    ·have := hr a a1 c1 hk; omega
    ·by_cases c2 : a = b
     ·subst c2; omega
     ·have := g2 (a - b) (by omega) (by omega)
      rw [show b + (a - b) = a by omega] at this
      rw [this] at hk
      exact absurd hk (by simp)
   ·rw [if_neg h2]
    by_cases h3 : (bm.list.getD b default).k = 3
    ·obtain ⟨a, a1, a2, a3, a4⟩ := hs b hb h3
     have := hr a a1 a2 a3
     omega
    ·rw [if_neg h3]
     refine sound_to h hs f (b + 1) (by omega) (fun a a1 a2 hk => ?_)
     by_cases c2 : a = b
     ·subst c2; exact absurd hk h2
     ·have := hr a a1 (by omega) hk; omega
theorem sound_open (h : BmOk B bm) (hs : Snd bm.list) : soundN (hds (devWord bm.dev) B) B 1 = 0 :=
 sound_to (bmOk_open h) (snd_open h hs) B 1 (Nat.le_refl _) (fun a a1 a2 _ => by omega)
structure Like1 (L L' : List Hd) : Prop where
 len : L'.length = L.length
 at_ : ∀ q, 1 ≤ q → L'.getD q default = L.getD q default
theorem Like1.cell {L L' : List Hd} (h : Like1 L L') (k x : Nat) : isCell L' k x ↔ isCell L k x := by
 unfold isCell
 rw [h.len]
 refine and_congr_right fun h1 => ?_
 rw [h.at_ _ (by omega)]
theorem Like1.cont {L L' : List Hd} (h : Like1 L L') {b : Nat} (hb : 1 ≤ b) : ∀ n, contTo L' b n = contTo L b n
 | 0 => rfl
 | n + 1 => by unfold contTo; rw [h.cont hb n, h.at_ _ (by omega)]
theorem Like1.whole {L L' : List Hd} (h : Like1 L L') {b : Nat} (hb : 1 ≤ b) : wholeN L' b = wholeN L b := by
 unfold wholeN
 rw [h.len, h.at_ _ hb, h.cont hb]
theorem Like1.placed {L L' : List Hd} (h : Like1 L L') (S : Dev) (x : Int) : placedN S L' x = placedN S L x := by
 unfold placedN
 rw [h.len]
 by_cases c : x < 512 ∨ 512 * (L.length : Int) ≤ x ∨ (headN S x).code ≠ 0
 ·rw [if_pos c, if_pos c]
 ·rw [if_neg c, if_neg c, h.whole (by omega)]
  simp only [h.cell]
theorem like_open (h : BmOk B bm) : Like1 bm.list (bmOf bm.dev B).list := ⟨by rw [h.lenL]; exact hds_length _ _, (bm_open h).2⟩
def marksOf (u : List Bool) (xs : List Nat) : List Bool := xs.foldl (fun u x => u.set x true) u
theorem marksOf_len : ∀ (xs : List Nat) (u : List Bool), (marksOf u xs).length = u.length
 | [], _ => rfl
 | x :: xs, u => by
  show (marksOf (u.set x true) xs).length = _
  rw [marksOf_len, List.length_set]
theorem getD_set_on {l : List Bool} {a : Nat} (ha : a < l.length) (x : Nat) : (l.set a true).getD x false = if x = a then true else l.getD x false := by
 by_cases e : x = a
 ·subst e
  rw [if_pos rfl, List.getD_eq_getElem?_getD, List.getElem?_set_self ha]
  rfl
 ·rw [if_neg e, List.getD_eq_getElem?_getD, List.getElem?_set_ne (fun h => e h.symm), ← List.getD_eq_getElem?_getD]
theorem newUsed_all {S : Dev} {L : List Hd} : ∀ (xs : List Nat) (u : List Bool), (∀ x ∈ xs, (placedN S L (x : Int)).isSome = true ∧ x < u.length ∧ u.getD x false = false) → xs.Nodup → ∀ ys, newUsed S L u (xs.map (fun x : Nat => (x : Int)) ++ ys) = newUsed S L (marksOf u xs) ys
 | [], u, _, _, ys => rfl
 | x :: xs, u, h, hn, ys => by
  obtain ⟨h1, h2, h3⟩ := h x List.mem_cons_self
  rw [List.map_cons, List.cons_append, newUsed_cons, if_neg (by rw [h1]; simp)]
  have hf : freshI u (x : Int) = true := by
   unfold freshI
   rw [hasI_nat, h3]
   simp [h2]
  rw [if_neg (by rw [hf]; simp), addI_new h2 h3]
  obtain ⟨n1, n2⟩ := List.nodup_cons.1 hn
  rw [newUsed_all xs _ (fun z hz => ?_) n2]
  ·rfl
  ·obtain ⟨g1, g2, g3⟩ := h z (List.mem_cons_of_mem _ hz)
   refine ⟨g1, by rw [List.length_set]; exact g2, ?_⟩
   rw [getD_set_on h2, if_neg (fun e => n1 (by rw [← e]; exact hz))]
   exact g3
end Go.Proofs.YtpohaahihdhleaaGreat
namespace Go.Proofs.YtpohaahihdhleaaGreat
open Go.RowKit
theorem decN_canon {b : Int} {x : Nat} (h : (decN b x).code = 0) : encN b (decN b x).k (decN b x).c (decN b x).l = x ∧ hdRight (decN b x).k (decN b x).c (decN b x).l = true := by
 cases ho : openN x (pl (256 + b)) with
 | none =>
  unfold decN at h
  rw [ho] at h
  simp at h
 | some n =>
  rw [decN_some ho] at h ⊢
  unfold decS at h ⊢
  by_cases h1 : encN b (n % 4 : Nat) (n / 4 % 64 : Nat) (n / 256 % 65536 : Nat) = x
  ·have hr := enc_right ho h1
   rw [if_pos h1, if_pos hr]
   exact ⟨h1, hr⟩
  ·rw [if_neg h1] at h
   simp at h
theorem splice_getDg {α : Type} (l s : List α) (o i : Nat) (d : α) (h : o + s.length ≤ l.length) : (splice l o s).getD i d = if o ≤ i ∧ i < o + s.length then s.getD (i - o) d else l.getD i d := by
 have hl : (l.take o).length = o := by rw [List.length_take]; omega
 unfold splice
 rw [List.getD_eq_getElem?_getD]
 by_cases h1 : i < o
 ·rw [List.getElem?_append_left (by omega), List.getElem?_take, if_pos h1, if_neg (by omega), List.getD_eq_getElem?_getD]
 ·rw [List.getElem?_append_right (by omega), hl]
  by_cases h2 : i < o + s.length
  ·rw [List.getElem?_append_left (by omega), if_pos (by omega), List.getD_eq_getElem?_getD]
  ·rw [List.getElem?_append_right (by omega), List.getElem?_drop, if_neg (by omega), List.getD_eq_getElem?_getD]
   congr 2
   omega
def HdStays (L : List Hd) (x i : Nat) : Prop := 512 ≤ x ∧ x < 512 * L.length ∧ x / 512 ≤ i ∧ i < x / 512 + keepN L (x / 512)
open Classical in
theorem keep1_at (L out : List Hd) (x i : Nat) (h : out.length = L.length) : (keep1 L out x).getD i default = if HdStays L x i then L.getD i default else out.getD i default := by
 unfold keep1
 by_cases c : x < 512 ∨ 512 * L.length ≤ x
 ·rw [if_pos c, if_neg (by rintro ⟨h1, h2, _⟩; omega)]
 ·rw [if_neg c]
  have hb : x / 512 < L.length := by omega
  have hf := keepN_fits hb
  have hl : ((L.drop (x / 512)).take (keepN L (x / 512))).length = keepN L (x / 512) := by rw [List.length_take, List.length_drop]; omega
  rw [splice_getDg _ _ _ _ _ (by rw [hl, h]; exact hf.2), hl]
  by_cases c2 : x / 512 ≤ i ∧ i < x / 512 + keepN L (x / 512)
  ·rw [if_pos c2, if_pos ⟨by omega, by omega, c2.1, c2.2⟩, List.getD_eq_getElem?_getD, List.getElem?_take, if_pos (by omega), List.getElem?_drop, List.getD_eq_getElem?_getD, show x / 512 + (i - x / 512) = i by omega]
  ·rw [if_neg c2, if_neg (fun hh => c2 ⟨hh.2.2.1, hh.2.2.2⟩)]
open Classical in
theorem keepL_at (L : List Hd) (live : List Nat) (i : Nat) : (keepL L live).getD i default = if ∃ x ∈ live, HdStays L x i then L.getD i default else default := by
 have go : ∀ (l : List Nat) (out : List Hd), out.length = L.length → (l.foldl (keep1 L) out).getD i default = if ∃ x ∈ l, HdStays L x i then L.getD i default else out.getD i default := by
  intro l
  induction l with
  | nil => intro out _; simp
  | cons x l ih =>
   intro out h
   show (l.foldl (keep1 L) (keep1 L out x)).getD i default = _
   rw [ih _ (keep1_len L out x h), keep1_at L out x i h]
   by_cases c1 : ∃ y ∈ l, HdStays L y i
   ·rw [if_pos c1, if_pos (by obtain ⟨y, hy, hs⟩ := c1; exact ⟨y, List.mem_cons_of_mem _ hy, hs⟩)]
   ·rw [if_neg c1]
    by_cases c2 : HdStays L x i
    ·rw [if_pos c2, if_pos ⟨x, List.mem_cons_self, c2⟩]
    ·rw [if_neg c2, if_neg (by
      rintro ⟨y, hy, hs⟩
      rcases List.mem_cons.1 hy with rfl | hy
      ·exact c2 hs
      ·exact c1 ⟨y, hy, hs⟩)]
 unfold keepL
 rw [go live _ (by simp)]
 congr 1
 rw [List.getD_eq_getElem?_getD, List.getElem?_replicate]
 split <;> rfl
structure Live (S : Dev) (L : List Hd) (ys : List Nat) : Prop where
 ok : ∀ x ∈ ys, okN S L x
 right : ∀ b, b < L.length → hdRight (L.getD b default).k (L.getD b default).c (L.getD b default).l = true
 zero : L.getD 0 default = default
section
variable {S : Dev} {L : List Hd} {ys : List Nat}
theorem Live.room (h : Live S L ys) {x : Nat} (hx : x ∈ ys) : 512 ≤ x ∧ x < 512 * L.length ∧
  ((keepN L (x / 512) = 1 ∧ (L.getD (x / 512) default).k = 1) ∨ (wholeN L (x / 512) ≠ 0 ∧ keepN L (x / 512) = wholeN L (x / 512))) := by
 have hk := h.ok x hx
 have hlt := okN_lt hk
 obtain ⟨o, ho⟩ := Option.isSome_iff_exists.1 hk
 refine ⟨hlt.1, hlt.2, ?_⟩
 rcases placed_room ho with ⟨k, _, hc, _⟩ | ⟨m, _, _, hm, hw, _⟩
 ·have h1 := isCell_kind hc
  refine .inl ⟨?_, h1⟩
  unfold keepN
  have : wholeN L (x / 512) = 0 := by
   by_cases c : wholeN L (x / 512) = 0
   ·exact c
   ·have := (wholeN_fits c).2.1; omega
  rw [this]; rfl
 ·refine .inr ⟨by omega, ?_⟩
  unfold keepN
  omega
theorem Live.kept (h : Live S L ys) {x : Nat} (hx : x ∈ ys) {i : Nat} (h1 : x / 512 ≤ i) (h2 : i < x / 512 + keepN L (x / 512)) : (keepL L ys).getD i default = L.getD i default := by
 classical
 rw [keepL_at, if_pos ⟨x, hx, (h.room hx).1, (h.room hx).2.1, h1, h2⟩]
theorem Live.kept0 (h : Live S L ys) {x : Nat} (hx : x ∈ ys) : (keepL L ys).getD (x / 512) default = L.getD (x / 512) default := by
 have hr := h.room hx
 have := (keepN_fits (L := L) (b := x / 512) (by omega)).1
 exact h.kept hx (Nat.le_refl _) (by omega)
theorem Live.cases (h : Live S L ys) (i : Nat) : (keepL L ys).getD i default = default ∨ ((keepL L ys).getD i default = L.getD i default ∧ ∃ x ∈ ys, x / 512 ≤ i ∧ i < x / 512 + keepN L (x / 512)) := by
 classical
 rw [keepL_at]
 by_cases c : ∃ x ∈ ys, HdStays L x i
 ·rw [if_pos c]
  obtain ⟨x, hx, hs⟩ := c
  exact .inr ⟨rfl, x, hx, hs.2.2.1, hs.2.2.2⟩
 ·rw [if_neg c]; exact .inl rfl
theorem Live.two (h : Live S L ys) {b : Nat} (hk : ((keepL L ys).getD b default).k = 2) : ∃ x ∈ ys, x / 512 = b ∧ wholeN L b ≠ 0 ∧ keepN L b = wholeN L b := by
 rcases h.cases b with c | ⟨c, x, hx, h1, h2⟩
 ·rw [c] at hk; cases hk
 ·rcases (h.room hx).2.2 with ⟨r1, r2⟩ | ⟨r1, r2⟩
  ·have hb : b = x / 512 := by omega
   rw [c, hb] at hk
   omega
  ·by_cases hb : b = x / 512
   ·exact ⟨x, hx, hb.symm, by rw [hb]; exact r1, by rw [hb]; exact r2⟩
   ·have := (wholeN_fits r1).2.2.2.2 (b - x / 512) (by omega) (by omega)
    rw [show x / 512 + (b - x / 512) = b by omega] at this
    rw [c, this] at hk
    cases hk
theorem Live.three (h : Live S L ys) {b : Nat} (hk : ((keepL L ys).getD b default).k = 3) : ∃ x ∈ ys, x / 512 < b ∧ b < x / 512 + wholeN L (x / 512) ∧ wholeN L (x / 512) ≠ 0 := by
 rcases h.cases b with c | ⟨c, x, hx, h1, h2⟩
 ·rw [c] at hk; cases hk
 ·rcases (h.room hx).2.2 with ⟨r1, r2⟩ | ⟨r1, r2⟩
  ·have hb : b = x / 512 := by omega
   rw [c, hb] at hk
   omega
  ·by_cases hb : b = x / 512
   ·have := (wholeN_fits r1).2.1
    rw [c, hb] at hk
    omega
   ·exact ⟨x, hx, by omega, by omega, r1⟩
theorem Live.whole (h : Live S L ys) {x : Nat} (hx : x ∈ ys) (hw : wholeN L (x / 512) ≠ 0) : wholeN (keepL L ys) (x / 512) = wholeN L (x / 512) := by
 obtain ⟨f1, f2, f3, f4, f5⟩ := wholeN_fits hw
 have hkn : keepN L (x / 512) = wholeN L (x / 512) := by unfold keepN; omega
 refine wholeN_of (by omega) ?_ (by rw [keepL_len]; exact f4) (fun i i1 i2 => ?_)
 ·rw [h.kept0 hx]
  have hr := of_decide_eq_true (h.right (x / 512) f1)
  unfold HdRight at hr
  have h3 : (L.getD (x / 512) default).c = 0 := by omega
  generalize L.getD (x / 512) default = y at *
  obtain ⟨k, c, l⟩ := y
  dsimp only at f2 f3 h3
  rw [f2, h3, f3]
 ·rw [h.kept hx (by omega) (by rw [hkn]; omega)]
  exact f5 i i1 i2
theorem Live.placed (h : Live S L ys) {T : Dev} (hc : ∀ j, 512 ≤ j → T.cache.getD j 0 = S.cache.getD j 0) (hl : T.cache.length = S.cache.length) {x : Nat} (hx : x ∈ ys) : placedN T (keepL L ys) (x : Int) = placedN S L (x : Int) := by
 have hr := h.room hx
 have hp : ∀ i : Nat, peek T.cache ((x : Int) + (i : Int)) = peek S.cache ((x : Int) + (i : Int)) := fun i => by
  rw [show (x : Int) + (i : Int) = ((x + i : Nat) : Int) by omega, peek_in, peek_in]
  exact hc _ (by omega)
 have hh : headN T (x : Int) = headN S (x : Int) := by
  have h0 := hp 0
  simp at h0
  unfold headN
  rw [hl, h0]
 unfold placedN
 rw [hh, keepL_len]
 by_cases c1 : (x : Int) < 512 ∨ 512 * (L.length : Int) ≤ (x : Int) ∨ (headN S (x : Int)).code ≠ 0
 ·rw [if_pos c1, if_pos c1]
 ·rw [if_neg c1, if_neg c1]
  by_cases c2 : small (objSize (headN S (x : Int)).p (headN S (x : Int)).d)
  ·rw [if_pos c2, if_pos c2]
   have hq : isCell (keepL L ys) (ofN (objSize (headN S (x : Int)).p (headN S (x : Int)).d : Nat)) (x : Int).toNat ↔ isCell L (ofN (objSize (headN S (x : Int)).p (headN S (x : Int)).d : Nat)) (x : Int).toNat := by
    rw [Int.toNat_natCast]
    unfold isCell
    rw [keepL_len, h.kept0 hx]
   by_cases c3 : isCell L (ofN (objSize (headN S (x : Int)).p (headN S (x : Int)).d : Nat)) (x : Int).toNat
   ·rw [if_pos c3, if_pos (hq.2 c3)]
   ·rw [if_neg c3, if_neg (fun hh => c3 (hq.1 hh))]
  ·rw [if_neg c2, if_neg c2, Int.toNat_natCast]
   have hob : objBlocks (objSize (headN S (x : Int)).p (headN S (x : Int)).d) = 0 ∨ objBlocks (objSize (headN S (x : Int)).p (headN S (x : Int)).d) ≠ 0 := by omega
   by_cases c3 : wholeN L (x / 512) = 0
   ·have hcase := hr.2.2
    rcases hcase with ⟨r1, r2⟩ | ⟨r1, _⟩
    ·have : wholeN (keepL L ys) (x / 512) = 0 := by
      by_cases c4 : wholeN (keepL L ys) (x / 512) = 0
      ·exact c4
      ·have := (wholeN_fits c4).2.1
       rw [h.kept0 hx] at this
       omega
     rw [this, c3]
    ·exact absurd c3 r1
   ·rw [h.whole hx c3]
theorem Live.bmOk (h : Live S L ys) {T : Dev} {B : Nat} (hL : L.length = B) (hcl : Clean T B) (hw : ∀ b, 1 ≤ b → b < B → T.cache.getD (256 + b) 0 = encN (b : Int) ((keepL L ys).getD b default).k ((keepL L ys).getD b default).c ((keepL L ys).getD b default).l) :
  BmOk B ⟨T, keepL L ys, freeL (freeAt (keepL L ys)) B B⟩ ∧ Snd (keepL L ys) := by
 refine ⟨⟨by rw [keepL_len, hL], freeL_len _ _ _, hcl, fun b hb => ?_, hw, fun b => ?_, fun b h1 h2 hk => ?_⟩, fun b h1 hk => ?_⟩
 ·rcases h.cases b with c | ⟨c, _⟩
  ·dsimp only
   rw [c]; exact right_zero
  ·dsimp only
   rw [c]; exact h.right b (by rw [hL]; exact hb)
 ·dsimp only
  rw [freeL_fb]
  unfold freeAt
  constructor
  ·rintro ⟨_, h2, h3, h4⟩
   exact ⟨h2, h3, by simpa using h4⟩
  ·rintro ⟨h2, h3, h4⟩
   exact ⟨h3, h2, h3, by simpa using h4⟩
 ·dsimp only at hk ⊢
  obtain ⟨x, hx, hb, hw0, hkn⟩ := h.two hk
  obtain ⟨f1, f2, f3, f4, f5⟩ := wholeN_fits hw0
  have hkb : (keepL L ys).getD b default = L.getD b default := by rw [← hb]; exact h.kept0 hx
  rw [hkb]
  refine ⟨by omega, fun i i1 i2 => ?_⟩
  rw [h.kept hx (by omega) (by rw [hb, hkn]; omega)]
  exact f5 i i1 (by omega)
 ·obtain ⟨x, hx, h2, h3, h4⟩ := h.three hk
  have hr := h.room hx
  obtain ⟨f1, f2, f3, f4, f5⟩ := wholeN_fits h4
  refine ⟨x / 512, by omega, h2, ?_, ?_⟩
  ·rw [h.kept0 hx]; exact f2
  ·rw [h.kept0 hx]; omega
end
theorem stores_cache : ∀ (l : List (Nat × Nat)) (S : Dev), (S.stores l).err = 0 → (S.stores l).dev.cache = l.foldl (fun c p => c.set p.1 p.2) S.cache
 | [], S, _ => rfl
 | (i, x) :: l, S, h => by
  rw [stores_cons] at h ⊢
  by_cases he : S.storeE (i : Int) ≠ 0
  ·rw [if_pos he] at h
   exact absurd h he
  ·rw [if_neg he] at h ⊢
   rw [stores_cache l _ h]
   have hc : (S.store (i : Int) x).cache = S.cache.set i x := by
    have he' : S.storeE (i : Int) = 0 := by simpa using he
    unfold Dev.storeE at he'
    unfold Dev.store
    split at he'
    ·simp at he'
    ·rename_i h1
     rw [if_neg h1]
     split at he'
     ·simp at he'
     ·rename_i h2
      rw [if_neg h2]
      simp only [Dev.put, (Dev.step_rest S).2.1, Int.toNat_natCast]
   rw [hc]
   rfl
theorem foldl_set_len (l : List (Nat × Nat)) : ∀ c : List Nat, (l.foldl (fun c p => c.set p.1 p.2) c).length = c.length := by
 induction l with
 | nil => intro c; rfl
 | cons p l ih => intro c; show (l.foldl _ (c.set p.1 p.2)).length = _; rw [ih, List.length_set]
theorem foldl_set_at (G : Nat → Nat) (l : List (Nat × Nat)) (hG : ∀ p ∈ l, p.2 = G p.1) (j : Nat) : ∀ c : List Nat, j < c.length → (l.foldl (fun c p => c.set p.1 p.2) c).getD j 0 = if j ∈ l.map Prod.fst then G j else c.getD j 0 := by
 induction l with
 | nil => intro c _; simp
 | cons p l ih =>
  intro c hj
  show (l.foldl (fun c p => c.set p.1 p.2) (c.set p.1 p.2)).getD j 0 = _
  rw [ih (fun q hq => hG q (List.mem_cons_of_mem _ hq)) _ (by rw [List.length_set]; exact hj)]
  by_cases c1 : j ∈ l.map Prod.fst
  ·rw [if_pos c1, if_pos (by simp at c1 ⊢; exact .inr c1)]
  ·rw [if_neg c1]
   by_cases c2 : j = p.1
   ·subst c2
    rw [if_pos (by simp), getD_setN _ _ _ _ hj, if_pos rfl]
    exact hG p List.mem_cons_self
   ·rw [if_neg (by
     rw [List.map_cons, List.mem_cons]
     rintro (h | h)
     ·exact c2 h
     ·exact c1 h)]
    rw [List.getD_eq_getElem?_getD, List.getElem?_set_ne (fun h => c2 h.symm), ← List.getD_eq_getElem?_getD]
theorem chgL_key {was now : List Hd} {B j : Nat} : j ∈ (chgL was now 1 B).map Prod.fst ↔ ∃ b, 1 ≤ b ∧ b < B ∧ j = 256 + b ∧ was.getD b default ≠ now.getD b default := by
 unfold chgL
 simp only [List.mem_map, List.mem_filter, List.mem_range', decide_eq_true_eq]
 constructor
 ·rintro ⟨p, ⟨b, ⟨⟨i, hi, rfl⟩, hne⟩, rfl⟩, rfl⟩
  exact ⟨1 + 1 * i, by omega, by omega, rfl, hne⟩
 ·rintro ⟨b, h1, h2, rfl, hne⟩
  exact ⟨_, ⟨b, ⟨⟨b - 1, by omega, by omega⟩, hne⟩, rfl⟩, rfl⟩
theorem rewrite_ok {S : Dev} (hi : S.inv) {B : Nat} (hlen : S.cache.length = 512 * B) (hB : 2 ≤ B) (hcl : ∀ b, 1 ≤ b → b < B → S.dirty.getD ((256 + b) / 8) false = false) {was now : List Hd}
  (hw : ∀ b, 1 ≤ b → b < B → S.cache.getD (256 + b) 0 = encN (b : Int) (was.getD b default).k (was.getD b default).c (was.getD b default).l) (he : (S.rewrite was now B).err = 0) :
  Clean (S.rewrite was now B).dev B ∧ (S.rewrite was now B).dev.cache.length = S.cache.length ∧
  (∀ b, 1 ≤ b → b < B → (S.rewrite was now B).dev.cache.getD (256 + b) 0 = encN (b : Int) (now.getD b default).k (now.getD b default).c (now.getD b default).l) ∧
  (∀ j, j < 257 ∨ 256 + B ≤ j → (S.rewrite was now B).dev.cache.getD j 0 = S.cache.getD j 0) := by
 unfold Dev.rewrite at he ⊢
 by_cases hn : chgL was now 1 B = []
 ·rw [if_pos hn]
  refine ⟨⟨hi, by rw [hlen]; omega, hcl⟩, rfl, fun b h1 h2 => ?_, fun j _ => rfl⟩
  have hsame : was.getD b default = now.getD b default := by
   by_cases c : was.getD b default = now.getD b default
   ·exact c
   ·have : 256 + b ∈ (chgL was now 1 B).map Prod.fst := chgL_key.2 ⟨b, h1, h2, rfl, c⟩
    rw [hn] at this
    cases this
  rw [← hsame]
  exact hw b h1 h2
 ·rw [if_neg hn] at he ⊢
  have hs0 : (S.stores (chgL was now 1 B)).err = 0 := by
   by_cases c : (S.stores (chgL was now 1 B)).err = 0
   ·exact c
   ·unfold Done.bind at he
    rw [if_pos c] at he
    exact absurd he c
  have hbd : (S.stores (chgL was now 1 B)).bind (fun S => S.persist 257 ((B : Int) - 1)) = (S.stores (chgL was now 1 B)).dev.persist 257 ((B : Int) - 1) := by
   unfold Done.bind
   rw [if_neg (by rw [hs0]; simp)]
  rw [hbd] at he ⊢
  have hinv : (S.stores (chgL was now 1 B)).dev.inv := stores_inv hi _ (fun p hp => by
   unfold chgL at hp
   obtain ⟨b, _, rfl⟩ := List.mem_map.1 hp
   exact encN_lt _ _ _ _)
  have hca := stores_cache _ _ hs0
  have hcl2 : (S.stores (chgL was now 1 B)).dev.cache.length = S.cache.length := by rw [hca, foldl_set_len]
  have e1 : ((B : Int) - 1) = ((B - 1 : Nat) : Int) := by omega
  have e2 : (257 : Int) = ((257 : Nat) : Int) := rfl
  rw [e1, e2] at he ⊢
  obtain ⟨p1, p2, p3, p4, p5⟩ := Dev.persist_clean hinv 257 (B - 1) (by omega) he
  have hat : ∀ j, j < S.cache.length → ((S.stores (chgL was now 1 B)).dev.persist ((257 : Nat) : Int) ((B - 1 : Nat) : Int)).dev.cache.getD j 0 = if j ∈ (chgL was now 1 B).map Prod.fst then encN ((j - 256 : Nat) : Int) (now.getD (j - 256) default).k (now.getD (j - 256) default).c (now.getD (j - 256) default).l else S.cache.getD j 0 := fun j hj => by
   rw [p1, hca]
   exact foldl_set_at (fun j => encN ((j - 256 : Nat) : Int) (now.getD (j - 256) default).k (now.getD (j - 256) default).c (now.getD (j - 256) default).l) _ (fun p hp => by
    unfold chgL at hp
    obtain ⟨b, _, rfl⟩ := List.mem_map.1 hp
    dsimp only
    rw [show 256 + b - 256 = b by omega]) j _ hj
  refine ⟨⟨Dev.persist_inv hinv _ _, by rw [p1, hcl2, hlen]; omega, fun b h1 h2 => p4 (256 + b) (by omega) (by omega)⟩, by rw [p1, hcl2], fun b h1 h2 => ?_, fun j hj => ?_⟩
  ·have := hat (256 + b) (by rw [hlen]; omega)
   rw [this]
   by_cases c : was.getD b default = now.getD b default
   ·rw [if_neg (fun hh => by
     obtain ⟨b', _, _, e, hne⟩ := chgL_key.1 hh
     obtain rfl : b = b' := by omega
     exact hne c), ← c]
    exact hw b h1 h2
   ·rw [if_pos (chgL_key.2 ⟨b, h1, h2, rfl, c⟩), show 256 + b - 256 = b by omega]
  ·by_cases hjl : j < S.cache.length
   ·have := hat j hjl
    rw [this, if_neg (fun hh => by
     obtain ⟨b', _, _, e, _⟩ := chgL_key.1 hh
     omega)]
   ·have h3 : ((S.stores (chgL was now 1 B)).dev.persist ((257 : Nat) : Int) ((B - 1 : Nat) : Int)).dev.cache.length = S.cache.length := by rw [p1, hcl2]
    rw [getD_zero_of (by rw [h3]; omega), getD_zero_of (by omega)]
theorem lookE_zero {S : Dev} (h : lookE S = 0) : (supR S).2.2 = 0 ∧ AllOk (devWord S) (supR S).1 ∧ (rootsN S).2.2.2 = true ∧ CloOk (okN S (lookL S)) (ptrN S) (rootL S) := by
 unfold lookE at h
 by_cases c1 : (supR S).2.2 ≠ 0
 ·rw [if_pos c1] at h; simp at h
 ·rw [if_neg c1] at h
  by_cases c2 : ¬ AllOk (devWord S) (supR S).1
  ·rw [if_pos c2] at h; simp at h
  ·rw [if_neg c2] at h
   by_cases c3 : (rootsN S).2.2.2 = false
   ·rw [if_pos c3] at h; simp at h
   ·rw [if_neg c3] at h
    by_cases c4 : ¬ CloOk (okN S (lookL S)) (ptrN S) (rootL S)
    ·rw [if_pos c4] at h; simp at h
    ·exact ⟨by simpa using c1, Classical.not_not.1 c2, by simpa using c3, Classical.not_not.1 c4⟩
theorem devWord_at (S : Dev) (b : Nat) : devWord S b = S.cache.getD (256 + b) 0 := by
 unfold devWord
 rw [show (256 : Int) + (b : Int) = ((256 + b : Nat) : Int) by omega, peek_in]
theorem hds_hd {f : Nat → Nat} {B : Nat} {b : Nat} (h1 : 1 ≤ b) (h2 : b < B) : (hds f B).getD b default = ⟨(decN b (f b)).k, (decN b (f b)).c, (decN b (f b)).l⟩ := by
 rw [hds_at _ h2]
 unfold hdF
 rw [if_neg (show ¬ b = 0 by omega)]
theorem word_aux {x : Nat} {i : Int} {d : Dec} {z : Hd} (hz : z = ⟨d.k, d.c, d.l⟩) (h : encN i d.k d.c d.l = x ∧ hdRight d.k d.c d.l = true) : x = encN i z.k z.c z.l ∧ hdRight z.k z.c z.l = true := by
 have e1 : z.k = d.k := by rw [hz]
 have e2 : z.c = d.c := by rw [hz]
 have e3 : z.l = d.l := by rw [hz]
 rw [e1, e2, e3]
 exact ⟨h.1.symm, h.2⟩
theorem hds_word {f : Nat → Nat} {B : Nat} (h : AllOk f B) {b : Nat} (h1 : 1 ≤ b) (h2 : b < B) : f b = encN (b : Int) ((hds f B).getD b default).k ((hds f B).getD b default).c ((hds f B).getD b default).l ∧ hdRight ((hds f B).getD b default).k ((hds f B).getD b default).c ((hds f B).getD b default).l = true :=
 word_aux (hds_hd h1 h2) (decN_canon (h b h1 h2))
theorem look_live {S : Dev} (h : lookE S = 0) {ys : List Nat} (hy : ∀ x ∈ ys, okN S (lookL S) x) : Live S (lookL S) ys := by
 obtain ⟨h1, h2, _, _⟩ := lookE_zero h
 have hs := supR_ok h1
 refine ⟨hy, fun b hb => ?_, ?_⟩
 ·unfold lookL at hb ⊢
  rw [hds_length] at hb
  by_cases c : b = 0
  ·subst c
   rw [hds_at _ hb]
   unfold hdF
   rw [if_pos rfl]
   exact right_zero
  ·exact (hds_word h2 (by omega) hb).2
 ·unfold lookL
  rw [hds_at _ (by omega)]
  unfold hdF
  rw [if_pos rfl]
  rfl
theorem reopen_ok {S T : Dev} {n : Nat} {L K : List Hd} {ys : List Nat} (hn : n = (supR S).1) (hL0 : L = lookL S) (hK : K = keepL L ys) (hT : T = (S.rewrite L K n).dev) (hi : S.inv) (hcl : ∀ l, S.dirty.getD l false = false) (h : lookE S = 0) (hy : ∀ x ∈ ys, okN S L x) (hnd : ys.Nodup) (he : (S.rewrite L K n).err = 0) :
  BmOk n (bmOf T n) ∧ AllOk (devWord T) n ∧ soundN (hds (devWord T) n) n 1 = 0 ∧ T.cache.length = 512 * n ∧
  newUsed T (bmOf T n).list (List.replicate T.cache.length false) (ys.map (fun x : Nat => (x : Int))) = (marksOf (List.replicate T.cache.length false) ys, 0) ∧
  (∀ b, 1 ≤ b → (hds (devWord T) n).getD b default = K.getD b default) := by
 obtain ⟨h1, h2, _, _⟩ := lookE_zero h
 obtain ⟨s1, s2, s3⟩ := supR_ok h1
 rw [← hn] at h2 s1 s2 s3
 have hlv : Live S L ys := by rw [hL0] at hy ⊢; exact look_live h hy
 have hL : L.length = n := by rw [hL0, hn]; unfold lookL; exact hds_length _ _
 have hw : ∀ b, 1 ≤ b → b < n → S.cache.getD (256 + b) 0 = encN (b : Int) (L.getD b default).k (L.getD b default).c (L.getD b default).l := fun b b1 b2 => by
  rw [← devWord_at, hL0]
  unfold lookL
  rw [← hn]
  exact (hds_word h2 b1 b2).1
 obtain ⟨r1, r2, r3, r4⟩ := rewrite_ok hi s3.symm s1 (fun b _ _ => hcl _) hw he
 rw [← hT] at r1 r2 r3 r4
 rw [hK] at r3
 obtain ⟨bm, hb, hs, hdev, hlist⟩ : ∃ bm : Bm, BmOk n bm ∧ Snd bm.list ∧ bm.dev = T ∧ bm.list = keepL L ys := by
  obtain ⟨b1, b2⟩ := hlv.bmOk hL r1 r3
  exact ⟨_, b1, b2, rfl, rfl⟩
 have q1 := bmOk_open hb
 have q2 := bm_open hb
 have q3 := sound_open hb hs
 have hlk := like_open hb
 rw [hdev] at q1 q2 q3 hlk
 rw [hlist] at q2 hlk
 have hTl : T.cache.length = 512 * n := by rw [r2, s3]
 have hpl : ∀ x ∈ ys, (placedN T (bmOf T n).list (x : Int)).isSome = true := fun x hx => by
  rw [hlk.placed T (x : Int), hlv.placed (T := T) (fun j hj => r4 j (.inr (by omega))) r2 hx]
  exact hy x hx
 have hnu := newUsed_all (S := T) (L := (bmOf T n).list) ys (List.replicate T.cache.length false) (fun x hx => ⟨hpl x hx, by
  have hr := hlv.room hx
  rw [List.length_replicate, hTl, ← hL]; exact hr.2.1, by
  rw [List.getD_eq_getElem?_getD, List.getElem?_replicate]; split <;> rfl⟩) hnd []
 rw [List.append_nil] at hnu
 have hend : newUsed T (bmOf T n).list (marksOf (List.replicate T.cache.length false) ys) [] = (marksOf (List.replicate T.cache.length false) ys, 0) := by
  unfold newUsed; rfl
 rw [hend] at hnu
 rw [hK]
 exact ⟨q1, q2.1, q3, hTl, hnu, q2.2⟩
end Go.Proofs.YtpohaahihdhleaaGreat
namespace Go.Proofs.YtpohaahihdhleaaGreat
open Go.RowKit Go.Maps
def RvOpen (S : Dev) (F : Foot) (w : World) : Ending → World → Prop := fun e w' => Touch F.list w w' ∧
  ((lookE S ≠ 0 ∧ e = .returned (.tuple #[.agg stZ, .int .i64 (lookE S)]) ∧ DevAt w' F S) ∨
   (lookE S = 0 ∧ ∃ ys : List Nat, ys.Pairwise (· < ·) ∧ (∀ x, x ∈ ys ↔ Rch (okN S (lookL S)) (ptrN S) (rootL S) x) ∧
     (((S.rewrite (lookL S) (keepL (lookL S) ys) (supR S).1).err ≠ 0 ∧ e = .returned (.tuple #[.agg stZ, .int .i64 (S.rewrite (lookL S) (keepL (lookL S) ys) (supR S).1).err]) ∧ DevAt w' F (S.rewrite (lookL S) (keepL (lookL S) ys) (supR S).1).dev) ∨
      ((S.rewrite (lookL S) (keepL (lookL S) ys) (supR S).1).err = 0 ∧ ∃ (A : AF) (nn g : Nat) (lv : Value), e = .returned (.tuple #[stV (supR S).1 (supR S).2.1 (valloc A) (.pointer (some ⟨g, 0, none⟩)) lv, .int .i64 0]) ∧ A.X.F = F ∧ nn ≤ 1000000 ∧
        AlAt w' A nn (supR S).1 ⟨bmOf (S.rewrite (lookL S) (keepL (lookL S) ys) (supR S).1).dev (supR S).1, marksOf (List.replicate (S.rewrite (lookL S) (keepL (lookL S) ys) (supR S).1).dev.cache.length false) ys, carveTo (marksOf (List.replicate (S.rewrite (lookL S) (keepL (lookL S) ys) (supR S).1).dev.cache.length false) ys) (bmOf (S.rewrite (lookL S) (keepL (lookL S) ys) (supR S).1).dev (supR S).1).list ((supR S).1 - 1)⟩ ∧
        RootsAt w' g F (rootsN S).1 (rootsN S).2.1 (rootsN S).2.2.1 ∧ OwnI w' lv ys ∧ (∀ k ∈ A.list, k ∈ F.list ∨ w.heap.size ≤ k) ∧ (∀ b, rowOf lv = some b → w.heap.size ≤ b) ∧ w.heap.size ≤ g))))
set_option maxHeartbeats 8000000 in
set_option maxRecDepth 20000 in
theorem rvopen_any {w : World} {F : Foot} {S : Dev} (h : DevAt w F S) (hi : S.inv) (hcl : ∀ l, S.dirty.getD l false = false) {N : Nat} (hN : N ≤ 800000000) (ho : S.ok N) (hs2 : S.cache.length ≤ 102400) :
  Calls Tryz.prog 22 #[vdev F] w (RvOpen S F w) := by
 obtain ⟨Post, hPo⟩ : ∃ P, P = RvOpen S F w := ⟨_, rfl⟩
 have HPo := LH hPo
 rw [← hPo]
 clear hPo
 have HD := LH h
 have HI := LH hi
 have HCl := LH hcl
 have HO := LH ho
 have HB0 := LH h.mem
 have hsm := h.small
 have HLk := LH (fun w' (hb : Below w.heap.size w w') => look_any (h.below hb))
 have HM := LH (Mem.one w #[.int .i64 0, .int .u64 0, .int .i64 0, .pointer none, .pointer none, .slice none 0 0] 49)
 clear h hi hcl ho
 go_enter Tryz.func22, Tryz.ntmps22
 go_upto_region 1 with fail
 obtain ⟨q1, hq1⟩ : ∃ q, q = w.heap.size := ⟨_, rfl⟩
 rw [← hq1] at HM ⊢
 have HQ1 := LH hq1
 generalize w.alloc _ = w1 at *
 clear hq1
 have HM1 : Hid (Mem w w1 [⟨q1, 49, [.int .i64 0, .int .u64 0, .int .i64 0, .pointer none, .pointer none, .slice none 0 0], true⟩]) := LH (by simpa using HM.out)
 clear HM
 go_wp2_with fail
 refine (HLk.out w1 HM1.out.below).mono ?_
 rintro e w2 ⟨hb2, ⟨hlk, g, lg, lc, lv, ys, rfl, hrt, hg, hrow, hlg, hlc, hlv, hso, hys, hrw⟩ | ⟨hlk, rfl⟩⟩
 case inr =>
  have HM2 := LH (((HM1.out.later hb2).alloc #[.int .i64 0, .int .u64 0, .int .i64 0, .pointer none, .pointer none, .slice none 0 0] 49).r)
  have HB2 : Hid (Below w.heap.size w (w2.alloc (.cells #[.int .i64 0, .int .u64 0, .int .i64 0, .pointer none, .pointer none, .slice none 0 0] 49))) := LH (((HM1.out.later hb2).alloc #[.int .i64 0, .int .u64 0, .int .i64 0, .pointer none, .pointer none, .slice none 0 0] 49).below)
  obtain ⟨le, hle⟩ : ∃ le, le = lookE S := ⟨_, rfl⟩
  rw [← hle] at hlk ⊢
  have he' : (le != 0) = true := by simpa using hlk
  have HLe := LH hle
  have HNe := LH hlk
  rw [show stZ = #[.int .i64 0, .int .u64 0, .int .i64 0, .pointer none, .pointer none, .slice none 0 0] from rfl]
  clear hb2 hlk hle HLk
  go_upto_region 2 with fail
  generalize w2.alloc _ = w3 at *
  go_wp2_with (refine wpList_store_r aggSt HM2.out 0 rfl rfl rfl rfl rfl rfl rfl rfl ?_; intro w6 h6 ht6; have H6 := LH h6; have HT6 := LH ht6; clear h6 ht6)
  refine bodyPost_ret (results_cell_row2 (p := 2) (u := 3) rfl _ _ _ _ _ _ _ rfl (H6.out.exact 0 rfl) Tryz.underlying49 rfl (by kernel_rfl)) rfl ?_
  rw [HPo.out]
  refine ⟨(Touch.ofBelow HB2.out).own HT6.out (fun k hk => .inl (by simp at hk; subst hk; rw [HQ1.out]; exact Nat.le_refl _)), .inl ⟨by rw [← HLe.out]; exact HNe.out, by rw [← HLe.out]; rfl, (HD.out.below HB2.out).keep (fun k hk => HT6.out.block k (Nat.lt_of_lt_of_le (HB0.out k hk) HB2.out.size) (by simp; rw [HQ1.out]; exact Nat.ne_of_lt (HB0.out k hk)))⟩⟩
 obtain ⟨n, hn⟩ : ∃ n, n = (supR S).1 := ⟨_, rfl⟩
 obtain ⟨id, hid⟩ : ∃ id, id = (supR S).2.1 := ⟨_, rfl⟩
 obtain ⟨h0, _, _, _⟩ := lookE_zero hlk
 have hsz := supR_ok h0
 obtain ⟨L, hL⟩ : ∃ L, L = lookL S := ⟨_, rfl⟩
 have hLl : L.length = n := by rw [hL, hn]; unfold lookL; exact hds_length _ _
 rw [← hn] at hsz hlc ⊢
 rw [← hid]
 rw [← hL] at hrow hys
 obtain ⟨va, vc, hv, hvc, _⟩ := hlv.cells
 obtain ⟨vl, hvl⟩ : ∃ l, l = ys.length := ⟨_, rfl⟩
 rw [← hvl] at hv
 subst hv
 have HM2 := LH ((HM1.out.later hb2).alloc #[.int .i64 (n : Int), vu64 id, .int .i64 (n : Int), .pointer none, .pointer (some ⟨g, 0, none⟩), .slice va vl vc] 49)
 have hba := below_alloc w2 (.cells #[.int .i64 (n : Int), vu64 id, .int .i64 (n : Int), .pointer none, .pointer (some ⟨g, 0, none⟩), .slice va vl vc] 49)
 have HRow := LH (hrow.below hba)
 have HCv := LH (hvc.below hba (Nat.le_refl _))
 have HRt := LH (hrt.below hba (Nat.le_refl _))
 have HLv := LH (hlv.keep (fun b hb => hba.block b (hlv.lt b hb)))
 have HYs := LH hys
 have HSo := LH hso
 have hnd : ys.Nodup := hso.imp (fun h => Nat.ne_of_lt h)
 have hyl : ys.length ≤ 512 * n := by
  refine nodup_len _ _ (fun x hx => ?_) (nodup_count hnd)
  have := (okN_lt ((hys x).1 hx).ok').2
  rw [hLl] at this; exact this
 have HGs : Hid (w.heap.size ≤ g ∧ w.heap.size ≤ lg ∧ (∀ b, rowOf (.slice va vl vc) = some b → w.heap.size ≤ b) ∧ w1.heap.size ≤ g ∧ w1.heap.size ≤ lg) := LH ⟨Nat.le_trans HM1.out.below.size hg, Nat.le_trans HM1.out.below.size hlg, fun b hb => Nat.le_trans HM1.out.below.size (hrw b hb), hg, hlg⟩
 have HLt2 : Hid (g < w2.heap.size ∧ ∀ b, rowOf (.slice va vl vc) = some b → b < w2.heap.size) := LH ⟨lt_of_head hrt, fun b hb => hlv.lt b hb⟩
 have HLt1 : Hid (q1 < w1.heap.size ∧ ∀ b, rowOf (.slice va vl vc) = some b → w1.heap.size ≤ b) := LH ⟨HM1.out.glt 0 rfl, hrw⟩
 have HNd := LH hnd
 have HVl := LH hvl
 have HNn := LH hn
 have HId := LH hid
 have HLL := LH hL
 have HLn := LH hLl
 have HLz := LH hlk
 have HSz := LH hsz
 have hn2 := hsz.1
 have hn256 := hsz.2.1
 have hvl9 : vl ≤ 1000000 := by rw [hvl]; omega
 have hlc2 := hlc
 clear hb2 hrow hvc hrt hlv hys hso hg hlg hrw hnd hyl hvl hn hid hL hLl hlk hsz hba h0 HLk hlc
 unfold stV
 go_upto_region 4 with fail
 obtain ⟨q2, hq2⟩ : ∃ q, q = w2.heap.size := ⟨_, rfl⟩
 rw [← hq2] at HM2 HLt2 ⊢
 generalize w2.alloc _ = w3 at *
 clear hq2
 have HM3 : Hid (Mem w w3 [⟨q1, 49, [.int .i64 0, .int .u64 0, .int .i64 0, .pointer none, .pointer none, .slice none 0 0], true⟩, ⟨q2, 49, [.int .i64 (n : Int), vu64 id, .int .i64 (n : Int), .pointer none, .pointer (some ⟨g, 0, none⟩), .slice va vl vc], true⟩]) := LH (by simpa using HM2.out)
 clear HM2 HM1
 have c2 := HM3.out.cell 1 2 rfl rfl
 have c5 := HM3.out.cell 1 5 rfl rfl
 have r2 := fun x => later_cell c2 x
 have r5 := fun x => later_cell c5 x
 clear c2 c5
 refine wp_region_seg (C := fun w' => ∃ x : Later (w3), w' = x.val) [.fl [0, 1, 2, 3, 4, 5, 6, 7, 8], .sq [9] true, .sq [10, 11] false] (by kernel_rfl) (by kernel_rfl) (by intro c a d v w h; cases d <;> exact h) ?_
 simp only [segs, picks, List.getElem?_cons_succ, List.getElem?_cons_zero]
 have hC1 := later_drew (w3)
 refine wpSeg_fl hC1 ?_
 repeat (first | go_big_quiet_step (fail) | quiet_step (fail))
 refine wpQuiet_nil ?_
 have hbd := later_below hC1
 have HM4 := LH (HM3.out.later hbd)
 have HRow4 := LH (HRow.out.below hbd)
 have HCv4 := LH (HCv.out.below hbd (Nat.le_refl _))
 have HRt4 := LH (HRt.out.below hbd (Nat.le_refl _))
 have HLv4 := LH (HLv.out.keep (fun b hb => hbd.block b (HLv.out.lt b hb)))
 generalize w3.drew = w4 at *
 clear r2 r5 hbd HRow HCv HRt HLv HM3
 refine wpSeg_sq (fun K hK => ?_)
 go_wp2_with fail
 refine (keep_any HLn.out (by omega) (by omega) HRow4.out hlc2 va vl vc ys HVl.out.symm HCv4.out hvl9 (fun x hx => by
  have := (okN_lt ((HYs.out x).1 hx).ok').2
  rw [HLn.out] at this
  omega)).mono ?_
 rintro e w5 ⟨kg, kc, rfl, hkg, hkc, hkrow, hb5⟩
 rw [HLn.out] at hkc ⊢
 have hC2 := later_step hC1 hb5
 have HM5 := LH (HM4.out.later hb5)
 have HRow5 := LH (HRow4.out.below hb5)
 have HRt5 := LH (HRt4.out.below hb5 (Nat.le_refl _))
 have HLv5 := LH (HLv4.out.keep (fun b hb => hb5.block b (HLv4.out.lt b hb)))
 have HCv5 := LH (HCv4.out.below hb5 (Nat.le_refl _))
 have HK := LH hkrow
 have HKg : Hid (w.heap.size ≤ kg) := LH (Nat.le_trans HM4.out.below.size hkg)
 clear hb5 hkrow hkg HM4 HRow4 HRt4 HLv4 HCv4
 go_wp2_with fail
 refine hK _ _ (fun _ => hC2) ?_
 clear hK K
 clear hC1 hC2
 refine wpSeg_last ?_
 go_wp2_with fail
 have HFq : Hid (∀ k, w.heap.size ≤ k → k ∉ F.list) := LH (fun k hk hm => by have := HB0.out k hm; omega)
 refine (rvwrite_any (HD.out.below HM5.out.below) (by omega : N ≤ 900000000) HO.out (was := L) (now := keepL L ys) HLn.out (by rw [keepL_len]; exact HLn.out) (by omega) (by omega) HRow5.out HK.out (HFq.out lg HGs.out.2.1) (HFq.out kg HKg.out)).mono ?_
 rintro e w6 ⟨rfl, hd6, ht6⟩
 have HM6 := LH (HM5.out.r.touch ht6 (fun k hk => HB0.out k hk))
 have HT6 : Hid (Touch F.list w w6) := LH ((Touch.ofBelow HM5.out.below).trans ht6)
 have HD6 := LH hd6
 have HRt6 : Hid (RootsAt w6 g F (rootsN S).1 (rootsN S).2.1 (rootsN S).2.2.1) := LH ((ht6.block g (lt_of_head HRt5.out) (HFq.out g HGs.out.1)).trans HRt5.out)
 have HLv6 := LH (HLv5.out.keep (fun b hb => ht6.block b (HLv5.out.lt b hb) (HFq.out b (HGs.out.2.2.1 b hb))))
 obtain ⟨va', vc', hv', hvc', _⟩ := HLv6.out.cells
 injection hv' with hv1 hv2 hv3
 subst hv1 hv3
 have HCv6 := LH hvc'
 clear hd6 ht6 HM5 HRow5 HRt5 HLv5 HCv5 HK hvc' hv2
 obtain ⟨⟨T, er⟩, hR⟩ : ∃ R, R = S.rewrite L (keepL L ys) n := ⟨_, rfl⟩
 have HR := LH hR
 rw [← hR] at HD6 ⊢
 dsimp only at HD6 ⊢
 clear hR
 by_cases he : er = 0
 case neg =>
  have he' : (er != 0) = true := by simpa using he
  have HNe := LH he
  have HT6o := LH HT6.out
  clear he
  go_wp2_with (refine wpList_store_r aggSt HM6.out 0 rfl rfl rfl rfl rfl rfl rfl rfl ?_; intro w6 h6 ht6; have H6 := LH h6; have HT6' := LH ht6; clear h6 ht6)
  refine bodyPost_ret (results_cell_row2 (p := 2) (u := 3) rfl _ _ _ _ _ _ _ rfl (H6.out.exact 0 rfl) Tryz.underlying49 rfl (by kernel_rfl)) rfl ?_
  rw [HPo.out]
  refine ⟨⟨HT6'.out.os.trans HT6o.out.os, HT6'.out.tape.trans HT6o.out.tape, HT6'.out.output.trans HT6o.out.output, Nat.le_trans HT6o.out.size HT6'.out.size, fun k h1 h2 => (HT6'.out.block k (Nat.lt_of_lt_of_le h1 HT6o.out.size) (by simp; rw [HQ1.out]; exact Nat.ne_of_lt h1)).trans (HT6o.out.block k h1 h2)⟩, .inr ⟨HLz.out, ys, HSo.out, by rw [← HLL.out]; exact HYs.out, .inl ⟨by rw [← HLL.out, ← HNn.out, ← HR.out]; exact HNe.out, by rw [← HLL.out, ← HNn.out, ← HR.out]; rfl, ?_⟩⟩⟩
  rw [← HLL.out, ← HNn.out, ← HR.out]
  exact HD6.out.keep (fun k hk => HT6'.out.block k (Nat.lt_of_lt_of_le (HB0.out k hk) HT6o.out.size) (by simp; rw [HQ1.out]; exact Nat.ne_of_lt (HB0.out k hk)))
 subst he
 obtain ⟨o1, o2, o3, o4, o5, _⟩ := reopen_ok (T := T) (K := keepL L ys) HNn.out HLL.out rfl (by rw [← HR.out]) HI.out HCl.out HLz.out (fun x hx => ((HYs.out x).1 hx).ok') HNd.out (by rw [← HR.out])
 have HO1 := LH o1
 have HO2 := LH o2
 have HO3 := LH o3
 have HO4 := LH o4
 have HO5 := LH o5
 clear o1 o2 o3 o4 o5
 have c2 := HM6.out.cell 1 2 rfl rfl
 go_wp2_with fail
 refine (bopen_any HD6.out n (by omega) (by omega)).mono ?_
 rintro e w7 ⟨hb7, ⟨_, _, X, nn, rfl, hXF, hman, hnn, hXl⟩ | ⟨_, hbad, rfl⟩ | ⟨hbad, rfl⟩⟩
 case inr.inl => exact absurd HO3.out hbad
 case inr.inr => exact absurd HO2.out hbad
 have HM7 := LH (HM6.out.later hb7)
 have HT7 : Hid (Touch F.list w w7) := LH (HT6.out.trans (Touch.ofBelow hb7))
 have HRt7 := LH (HRt6.out.below hb7 (Nat.le_refl _))
 have HLv7 := LH (HLv6.out.keep (fun b hb => hb7.block b (HLv6.out.lt b hb)))
 have HCv7 : Hid (Cells w7 va ((ys.map (fun x : Nat => (x : Int))).map (Value.int .i64))) := LH (by rw [List.map_map]; exact HCv6.out.below hb7 (Nat.le_refl _))
 have HMan := LH hman
 have HXl := LH hXl
 have HXF := LH hXF
 have HNN := LH hnn
 have HS67 : Hid (w6.heap.size ≤ w7.heap.size) := LH hb7.size
 clear hb7 hman hXl hXF hnn c2 HD6 HRt6 HLv6 HCv6
 have c5 := HM7.out.cell 1 5 rfl rfl
 have hAn := anew_any HMan.out HO1.out (by omega) (by have := HSz.out.2.2; omega) HO4.out va vl vc (ys.map (fun x : Nat => (x : Int))) (by rw [List.length_map]; exact HVl.out.symm) HCv7.out hvl9
 rw [HXF.out] at hAn
 have HAn := LH hAn
 clear hAn
 go_wp2_with fail
 refine HAn.out.mono ?_
 rintro e w8 ⟨hb8, ⟨_, A, rfl, hAX, hal, hAl⟩ | ⟨hbad, rfl⟩⟩
 case inr => exact absurd (congrArg Prod.snd HO5.out) hbad
 have HM8 := LH (HM7.out.later hb8)
 have HT8 : Hid (Touch F.list w w8) := LH (HT7.out.trans (Touch.ofBelow hb8))
 have HRt8 := LH (HRt7.out.below hb8 (Nat.le_refl _))
 have HLv8 := LH (HLv7.out.keep (fun b hb => hb8.block b (HLv7.out.lt b hb)))
 have hal2 : AlAt w8 A nn n ⟨bmOf T n, marksOf (List.replicate T.cache.length false) ys, carveTo (marksOf (List.replicate T.cache.length false) ys) (bmOf T n).list (n - 1)⟩ := by
  have h5 := HO5.out
  have := hal
  rw [show (bmOf T n).dev = T from rfl, h5] at this
  exact this
 have HAl := LH hal2
 have HAX := LH hAX
 have HAm : Hid (∀ k ∈ A.list, k ∈ F.list ∨ (w.heap.size ≤ k ∧ k ≠ q1 ∧ k ≠ q2)) := LH (fun k hk => by
  have hq1 := HM6.out.glt 0 rfl
  have hq2 := HM6.out.glt 1 rfl
  have h67 := HS67.out
  have hws := HT6.out.size
  rcases hAl k hk with c | c
  ·rcases HXl.out k c with c | c
   ·exact .inl c
   ·exact .inr ⟨by omega, by omega, by omega⟩
  ·exact .inr ⟨by omega, by omega, by omega⟩)
 have HAm2 : Hid (∀ k, k ∈ F.list → k ≠ q1 ∧ k ≠ q2) := LH (fun k hk => by
  have h1 := HB0.out k hk
  have h2 := HM8.out.gbase 0 rfl
  have h3 := HM8.out.gbase 1 rfl
  exact ⟨by omega, by omega⟩)
 clear hb8 hal hal2 hAX hAl c5 HM7 HT7 HRt7 HLv7 HM6 HT6 HAn HMan HXl
 have c3 := HM8.out.cell 1 3 rfl rfl
 have k3 := HM8.out.frozen 1 3 rfl
 have HM9 : Hid (MemR w.heap.size (w8.setCell ⟨q2, 3, none⟩ (valloc A)) [⟨q1, 49, [.int .i64 0, .int .u64 0, .int .i64 0, .pointer none, .pointer none, .slice none 0 0], true⟩, ⟨q2, 49, [.int .i64 (n : Int), vu64 id, .int .i64 (n : Int), valloc A, .pointer (some ⟨g, 0, none⟩), .slice va vl vc], true⟩]) := LH (by
  have := HM8.out.set 1 3 (valloc A) rfl (by simp)
  simpa using this)
 go_wp2_with (first | (refine wpList_load_r aggSt HM9.out 1 rfl rfl rfl rfl rfl ?_) | (refine wpList_store_r aggSt HM9.out 0 rfl rfl rfl rfl rfl rfl rfl rfl ?_; intro w9 h9 ht9; have H9 := LH h9; have HT9 := LH ht9; clear h9 ht9))
 refine bodyPost_ret (results_cell_row2 (p := 2) (u := 3) rfl _ _ _ _ _ _ _ rfl (H9.out.exact 0 rfl) Tryz.underlying49 rfl (by kernel_rfl)) rfl ?_
 rw [HPo.out]
 have hblk : ∀ k, k < w8.heap.size → k ≠ q1 → k ≠ q2 → w9.heap[k]? = w8.heap[k]? := fun k h1 h2 h3 => (HT9.out.block k (by simp [World.setCell]; exact h1) (by simpa using h2)).trans (heap_setCell_other w8 _ _ _ h3)
 have hq1g := HM8.out.gbase 0 rfl
 have hq2g := HM8.out.gbase 1 rfl
 refine ⟨⟨?_, ?_, ?_, ?_, ?_⟩, .inr ⟨HLz.out, ys, HSo.out, by rw [← HLL.out]; exact HYs.out, .inr ⟨by rw [← HLL.out, ← HNn.out, ← HR.out], A, nn, g, .slice va vl vc, ?_, (by rw [HAX.out]; exact HXF.out), HNN.out, ?_, ?_, ?_, ?_, HGs.out.2.2.1, HGs.out.1⟩⟩⟩
 ·exact HT9.out.os.trans HT8.out.os
 ·exact HT9.out.tape.trans HT8.out.tape
 ·exact HT9.out.output.trans HT8.out.output
 ·have h1 := HT9.out.size
  have h2 := HT8.out.size
  simp [World.setCell] at h1
  omega
 ·intro k h1 h2
  exact (hblk k (Nat.lt_of_lt_of_le h1 HT8.out.size) (by omega) (by omega)).trans (HT8.out.block k h1 h2)
 ·rw [← HNn.out, ← HId.out]
  rfl
 ·rw [← HLL.out, ← HNn.out, ← HR.out]
  refine HAl.out.keep (fun k hk => ?_)
  rcases HAm.out k hk with c | ⟨_, c1, c2⟩
  ·exact hblk k (HAl.out.mem k hk) (HAm2.out k c).1 (HAm2.out k c).2
  ·exact hblk k (HAl.out.mem k hk) c1 c2
 ·have h1 := HLt1.out.1
  have h2 := HLt2.out.1
  have h3 := HGs.out.2.2.2.1
  exact (hblk g (lt_of_head HRt8.out) (by omega) (by omega)).trans HRt8.out
 ·refine HLv8.out.keep (fun b hb => ?_)
  have h1 := HLt1.out.1
  have h2 := HLt2.out.2 b hb
  have h3 := HLt1.out.2 b hb
  exact hblk b (HLv8.out.lt b hb) (by omega) (by omega)
 ·intro k hk
  rcases HAm.out k hk with c | ⟨c, _⟩
  ·exact .inl c
  ·exact .inr c
end Go.Proofs.YtpohaahihdhleaaGreat
