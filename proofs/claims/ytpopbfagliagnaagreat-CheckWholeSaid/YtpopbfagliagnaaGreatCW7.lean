/- Parts of the proof, one behind the other: Yc, Iv, Yd, Ek, El, Em, Ye, Rs, Rt, Ru, Rv, Rw, Ua, Dl, Ub, Yo. -/
import Derived.Test.YtpopbfagliagnaaGreatCW6
import Derived.BigQuiet
import Derived.Deep.CutBlock
import Derived.ChangeKeysEq
import Derived.Laws.StructEq
import Derived.Deep.QuietTactic
set_option linter.unusedVariables false
namespace Go.Proofs.YtpopbfagliagnaaGreat
open Go.RowKit
structure MF where
 m : Nat
 t : Nat
 g : Nat
 c : Nat
 F : Foot
 T : Tri
def MF.list (X : MF) : List Nat := X.m :: X.t :: X.T.p :: X.g :: X.T.s :: X.T.e :: X.F.list
def MF.hot (X : MF) : List Nat := X.g :: X.T.s :: X.T.e :: X.F.list
structure Bm where
 dev : Dev
 list : List Hd
 free : List Bool
structure ManAt (w : World) (X : MF) (n B : Nat) (m : Bm) : Prop where
 head : w.heap[X.m]? = some (.cells #[.pointer (some ⟨X.t, 0, none⟩), .pointer (some ⟨X.T.p, 0, none⟩), .int .i64 (B : Int)] 87 (0, 0))
 tab : TabG w X.t X.g X.c X.F B m.list
 dev : DevAt w X.F m.dev
 ix : IxAt w X.T n m.free
 lenF : m.free.length = B
 nd : X.list.Nodup
theorem ManAt.mem {w : World} {X : MF} {n B : Nat} {m : Bm} (h : ManAt w X n B m) : ∀ k ∈ X.list, k < w.heap.size := by
 intro k hk
 have h1 := h.ix.mem
 simp only [Tri.list, List.mem_cons, List.not_mem_nil, or_false, forall_eq_or_imp, forall_eq] at h1
 simp only [MF.list, List.mem_cons] at hk
 rcases hk with rfl | rfl | rfl | rfl | rfl | rfl | hk
 ·exact (Array.getElem?_eq_some_iff.1 h.head).1
 ·exact h.tab.lt.1
 ·exact h1.1
 ·exact h.tab.lt.2
 ·exact h1.2.1
 ·exact h1.2.2
 ·exact h.dev.mem k hk
theorem ManAt.keep {w w' : World} {X : MF} {n B : Nat} {m : Bm} (h : ManAt w X n B m) (hk : ∀ k ∈ X.list, w'.heap[k]? = w.heap[k]?) : ManAt w' X n B m := by
 have e : ∀ k ∈ X.F.list, k ∈ X.list := fun k hk => by simp only [MF.list, List.mem_cons]; simp [hk]
 have e2 : ∀ k ∈ X.T.list, k ∈ X.list := fun k hk => by
  simp only [Tri.list, List.mem_cons, List.not_mem_nil, or_false] at hk
  simp only [MF.list, List.mem_cons]
  rcases hk with rfl | rfl | rfl <;> simp
 exact ⟨(hk X.m (by simp [MF.list])).trans h.head, h.tab.keep (hk X.t (by simp [MF.list])) (hk X.g (by simp [MF.list])), h.dev.keep (fun k hk' => hk k (e k hk')), h.ix.keep (fun k hk' => hk k (e2 k hk')), h.lenF, h.nd⟩
theorem ManAt.below {w w' : World} {X : MF} {n B : Nat} {m : Bm} (h : ManAt w X n B m) (hb : Below w.heap.size w w') : ManAt w' X n B m := h.keep (fun k hk => hb.block k (h.mem k hk))
theorem ManAt.mono {w : World} {X : MF} {n n' B : Nat} {m : Bm} (h : ManAt w X n B m) (hn : n ≤ n') : ManAt w X n' B m := by
 obtain ⟨M, E, h1, h2⟩ := h.ix
 exact { h with ix := ⟨M, E, h1.mono hn, h2⟩ }
structure MF.Apart (X : MF) : Prop where
 m : X.m ∉ X.hot
 t : X.t ∉ X.hot
 p : X.T.p ∉ X.hot
 g : X.g ∉ X.F.list
 gs : X.g ≠ X.T.s
 ge : X.g ≠ X.T.e
 s : X.T.s ∉ X.F.list
 e : X.T.e ∉ X.F.list
theorem MF.apart {X : MF} (h : X.list.Nodup) : X.Apart := by
 simp only [MF.list, List.nodup_cons, List.mem_cons, not_or] at h
 obtain ⟨⟨m1, m2, m3, m4, m5, m6⟩, ⟨t1, t2, t3, t4, t5⟩, ⟨p1, p2, p3, p4⟩, ⟨g1, g2, g3⟩, ⟨s1, s2⟩, e1, _⟩ := h
 refine ⟨?_, ?_, ?_, g3, g1, g2, s2, e1⟩
 all_goals simp only [MF.hot, List.mem_cons, not_or]
 ·exact ⟨m3, m4, m5, m6⟩
 ·exact ⟨t2, t3, t4, t5⟩
 ·exact ⟨p1, p2, p3, p4⟩
theorem MF.hotF {X : MF} {k : Nat} (h : k ∈ X.F.list) : k ∈ X.hot := by simp only [MF.hot, List.mem_cons]; simp [h]
theorem MF.hot_sub {X : MF} {k : Nat} (h : k ∈ X.hot) : k ∈ X.list := by
 simp only [MF.hot, List.mem_cons] at h
 simp only [MF.list, List.mem_cons]
 rcases h with h | h | h | h <;> simp [h]
theorem ManAt.lt {w : World} {X : MF} {n B : Nat} {m : Bm} (h : ManAt w X n B m) {k : Nat} (hk : w.heap.size ≤ k) : k ∉ X.hot := fun hm => by
 have := h.mem k (MF.hot_sub hm)
 omega
theorem MF.notHot {X : MF} {k : Nat} (h : k ∉ X.hot) : k ≠ X.g ∧ k ≠ X.T.s ∧ k ≠ X.T.e ∧ k ∉ X.F.list := by simpa only [MF.hot, List.mem_cons, not_or] using h
theorem ManAt.put {w w' : World} {X : MF} {n B : Nat} {m : Bm} (h : ManAt w X n B m) {d : Dev} {l : List Hd} (hd : DevAt w' X.F d) (ht : TabG w' X.t X.g X.c X.F B l) (hh : Touch (X.g :: X.F.list) w w') : ManAt w' X n B ⟨d, l, m.free⟩ ∧ Touch X.hot w w' := by
 have ap := MF.apart h.nd
 have h1 := MF.notHot ap.m
 have h2 := MF.notHot ap.p
 have hm := h.mem
 refine ⟨⟨?_, ht, hd, h.ix.keep (fun k hk => ?_), h.lenF, h.nd⟩, hh.wide (fun b hb => ?_)⟩
 ·exact (hh.block X.m (hm _ (by simp [MF.list])) (by simp only [List.mem_cons, not_or]; exact ⟨h1.1, h1.2.2.2⟩)).trans h.head
 ·simp only [Tri.list, List.mem_cons, List.not_mem_nil, or_false] at hk
  rcases hk with rfl | rfl | rfl
  ·exact hh.block _ (hm _ (by simp [MF.list])) (by simp only [List.mem_cons, not_or]; exact ⟨h2.1, h2.2.2.2⟩)
  ·exact hh.block _ (hm _ (by simp [MF.list])) (by simp only [List.mem_cons, not_or]; exact ⟨fun e => ap.gs e.symm, ap.s⟩)
  ·exact hh.block _ (hm _ (by simp [MF.list])) (by simp only [List.mem_cons, not_or]; exact ⟨fun e => ap.ge e.symm, ap.e⟩)
 ·rcases List.mem_cons.1 hb with rfl | hb
  ·simp [MF.hot]
  ·exact MF.hotF hb
theorem ManAt.setIx {w w' : World} {X : MF} {n n' B : Nat} {m : Bm} (h : ManAt w X n B m) {f : List Bool} (hi : IxAt w' X.T n' f) (hf : f.length = B) (hh : Touch [X.T.s, X.T.e] w w') : ManAt w' X n' B ⟨m.dev, m.list, f⟩ ∧ Touch X.hot w w' := by
 have ap := MF.apart h.nd
 have h1 := MF.notHot ap.m
 have h2 := MF.notHot ap.t
 have hm := h.mem
 refine ⟨⟨?_, h.tab.keep ?_ ?_, h.dev.keep (fun k hk => ?_), hi, hf, h.nd⟩, hh.wide (fun b hb => by simp only [List.mem_cons, List.not_mem_nil, or_false] at hb; rcases hb with rfl | rfl <;> simp [MF.hot])⟩
 ·exact (hh.block X.m (hm _ (by simp [MF.list])) (by simp; exact ⟨h1.2.1, h1.2.2.1⟩)).trans h.head
 ·exact hh.block _ (hm _ (by simp [MF.list])) (by simp; exact ⟨h2.2.1, h2.2.2.1⟩)
 ·exact hh.block _ (hm _ (by simp [MF.list])) (by simp; exact ⟨ap.gs, ap.ge⟩)
 ·exact hh.block _ (h.dev.mem k hk) (by simp; exact ⟨fun e => ap.s (e ▸ hk), fun e => ap.e (e ▸ hk)⟩)
def TakenM (w : World) (X : MF) (n B : Nat) (m : Bm) (z : Int) : Ending → World → Prop := fun e w' =>
 e = .returned (.tuple #[.int .i64 (takeR m.free z).2.1, .int .i64 (takeR m.free z).2.2]) ∧ ManAt w' X (n + 1) B ⟨m.dev, m.list, (takeR m.free z).1⟩ ∧ Touch X.hot w w'
theorem mtake_any {w : World} {X : MF} {n B : Nat} {m : Bm} (h : ManAt w X n B m) (hB : B ≤ 1000) (hn : n < 1000000000000) (z : Int) :
  Calls Tryz.prog 334 #[.pointer (some ⟨X.T.p, 0, none⟩), .int .i64 z] w (TakenM w X n B m z) := by
 refine (itake_any h.ix (by rw [h.lenF]; omega) hn z).mono ?_
 rintro e w' ⟨rfl, hi, ht⟩
 exact ⟨rfl, h.setIx hi (by rw [takeR_len, h.lenF]) ht⟩
def GivenM (w : World) (X : MF) (n B : Nat) (m : Bm) (a z : Int) : Ending → World → Prop := fun e w' =>
 e = .returned (.int .i64 (giveR m.free a z).2) ∧ ManAt w' X (n + 1) B ⟨m.dev, m.list, (giveR m.free a z).1⟩ ∧ Touch X.hot w w'
theorem mgive_any {w : World} {X : MF} {n B : Nat} {m : Bm} (h : ManAt w X n B m) (hB : B ≤ 1000) (hn : n < 1000000000000) (a z : Int) :
  Calls Tryz.prog 248 #[.pointer (some ⟨X.T.p, 0, none⟩), .int .i64 a, .int .i64 z] w (GivenM w X n B m a z) := by
 refine (igive_any h.ix (by rw [h.lenF]; omega) hn a z).mono ?_
 rintro e w' ⟨rfl, hi, ht⟩
 exact ⟨rfl, h.setIx hi (by rw [giveR_len, h.lenF]) ht⟩
def PutM (w : World) (X : MF) (n B : Nat) (m : Bm) (b : Int) (l : List Hd) : Ending → World → Prop := fun e w' =>
 e = .returned (.int .i64 (putAll m.dev m.list b l).err) ∧ ManAt w' X n B ⟨(putAll m.dev m.list b l).dev, (putAll m.dev m.list b l).list, m.free⟩ ∧ Touch X.hot w w'
theorem mput_any {w : World} {X : MF} {n B : Nat} {m : Bm} (h : ManAt w X n B m) (hB : B ≤ 1000) {N : Nat} (hN : N ≤ 1000000000) (ho : m.dev.ok N)
  (a : Option Addr) (k cap : Nat) (l : List Hd) (hk : l.length = k) (hc : Cells w a (hdCs l)) (hap : 0 < k → ∀ b o s, a = some ⟨b, o, s⟩ → b ∉ X.hot) (hkm : k ≤ 2 ^ 63 - 1) (b : Int) :
  Calls Tryz.prog 247 #[.pointer (some ⟨X.t, 0, none⟩), .int .i64 b, .slice a k cap] w (PutM w X n B m b l) := by
 have ap := MF.apart h.nd
 have h2 := MF.notHot ap.t
 refine (tput_any h.dev h.tab h2.1 h2.2.2.2 ap.g hN ho hB a k cap l hk hc (fun h0 b o s e hm => ?_) hkm b).mono ?_
 ·have := MF.notHot (hap h0 b o s e)
  rcases List.mem_cons.1 hm with h3 | h3
  ·exact this.1 h3
  ·exact this.2.2.2 h3
 ·rintro e w' ⟨rfl, hd, ht, hh⟩
  exact ⟨rfl, h.put hd ht hh⟩
structure BmR where
 bm : Bm
 b : Int
 err : Int
def Bm.small (m : Bm) (k : Int) : BmR :=
 if hdRight 1 k 0 = false then ⟨m, 0, 1⟩ else
 if (takeR m.free 1).2.2 ≠ 0 then ⟨⟨m.dev, m.list, (takeR m.free 1).1⟩, 0, (takeR m.free 1).2.2⟩ else
 ⟨⟨(putAll m.dev m.list (takeR m.free 1).2.1 [⟨1, k, 0⟩]).dev, (putAll m.dev m.list (takeR m.free 1).2.1 [⟨1, k, 0⟩]).list, (takeR m.free 1).1⟩,
  if (putAll m.dev m.list (takeR m.free 1).2.1 [⟨1, k, 0⟩]).err = 0 then (takeR m.free 1).2.1 else 0, (putAll m.dev m.list (takeR m.free 1).2.1 [⟨1, k, 0⟩]).err⟩
def BmDone (w : World) (X : MF) (n B : Nat) (r : BmR) : Ending → World → Prop := fun e w' =>
 e = .returned (.tuple #[.int .i64 r.b, .int .i64 r.err]) ∧ ManAt w' X n B r.bm ∧ Touch X.hot w w'
theorem ManAt.c0 {w : World} {X : MF} {n B : Nat} {m : Bm} (h : ManAt w X n B m) : w.cell? ⟨X.m, 0, none⟩ = some (.pointer (some ⟨X.t, 0, none⟩)) := cell_of_row _ _ 0 _ _ _ h.head
theorem ManAt.c1 {w : World} {X : MF} {n B : Nat} {m : Bm} (h : ManAt w X n B m) : w.cell? ⟨X.m, 1, none⟩ = some (.pointer (some ⟨X.T.p, 0, none⟩)) := cell_of_row _ _ 1 _ _ _ h.head
theorem ManAt.c2 {w : World} {X : MF} {n B : Nat} {m : Bm} (h : ManAt w X n B m) : w.cell? ⟨X.m, 2, none⟩ = some (.int .i64 (B : Int)) := cell_of_row _ _ 2 _ _ _ h.head
theorem hdCs_single (k c l : Int) : hdCs [⟨k, c, l⟩] = [.int .i64 k, .int .i64 c, .int .i64 l] := rfl
set_option maxHeartbeats 2000000 in
set_option maxRecDepth 20000 in
theorem bsmall_any {w : World} {X : MF} {n B : Nat} {m : Bm} (h : ManAt w X n B m) (hB : B ≤ 1000) (hn : n < 1000000000000) {N : Nat} (hN : N ≤ 1000000000) (ho : m.dev.ok N) (k : Int) :
  Calls Tryz.prog 292 #[.pointer (some ⟨X.m, 0, none⟩), .int .i64 k] w (BmDone w X (n + 1) B (m.small k)) := by
 have HM := LH (Mem.one w #[.int .i64 1, .int .i64 k, .int .i64 0] 103)
 have HA := LH (h.below HM.out.below)
 have HMem := LH (h.mem)
 have HT := LH (Touch.ofBelow (L := X.hot) HM.out.below)
 have HAp := LH (MF.apart h.nd)
 have HV : Hid (m.small k = if hdRight 1 k 0 = false then ⟨m, 0, 1⟩ else
  if (takeR m.free 1).2.2 ≠ 0 then ⟨⟨m.dev, m.list, (takeR m.free 1).1⟩, 0, (takeR m.free 1).2.2⟩ else
  ⟨⟨(putAll m.dev m.list (takeR m.free 1).2.1 [⟨1, k, 0⟩]).dev, (putAll m.dev m.list (takeR m.free 1).2.1 [⟨1, k, 0⟩]).list, (takeR m.free 1).1⟩,
   if (putAll m.dev m.list (takeR m.free 1).2.1 [⟨1, k, 0⟩]).err = 0 then (takeR m.free 1).2.1 else 0, (putAll m.dev m.list (takeR m.free 1).2.1 [⟨1, k, 0⟩]).err⟩) := LH rfl
 generalize hr : m.small k = r at *
 generalize hP : BmDone w X (n + 1) B r = Post
 have HP := LH hP
 clear h hP hr
 obtain ⟨q, hq⟩ : ∃ q, q = w.heap.size := ⟨_, rfl⟩
 have HQ := LH hq
 go_enter Tryz.func292, Tryz.ntmps292
 go_upto_region 2 with fail
 rw [← hq] at HM ⊢
 generalize w.alloc _ = w0 at *
 clear hq
 have d0 := HM.out.cell 0 0 rfl rfl
 have d1 := HM.out.cell 0 1 rfl rfl
 have d2 := HM.out.cell 0 2 rfl rfl
 go_wp2_with fail
 refine (bright_any 1 k 0 _).mono ?_
 rintro e w1 ⟨rfl, hb1⟩
 have HM1 := LH (HM.out.later hb1)
 have HA1 := LH (HA.out.below hb1)
 have HT1 := LH (HT.out.later hb1)
 clear hb1 d0 d1 d2 HM HA HT
 cases hrt : hdRight 1 k 0
 ·have HE : Hid (r = ⟨m, 0, 1⟩) := LH (by rw [HV.out, if_pos hrt])
  clear hrt
  go_wp2_with fail
  rw [← HP.out, HE.out]
  exact ⟨rfl, HA1.out.mono (by omega), HT1.out⟩
 ·have HV2 : Hid (r = if (takeR m.free 1).2.2 ≠ 0 then ⟨⟨m.dev, m.list, (takeR m.free 1).1⟩, 0, (takeR m.free 1).2.2⟩ else
   ⟨⟨(putAll m.dev m.list (takeR m.free 1).2.1 [⟨1, k, 0⟩]).dev, (putAll m.dev m.list (takeR m.free 1).2.1 [⟨1, k, 0⟩]).list, (takeR m.free 1).1⟩,
    if (putAll m.dev m.list (takeR m.free 1).2.1 [⟨1, k, 0⟩]).err = 0 then (takeR m.free 1).2.1 else 0, (putAll m.dev m.list (takeR m.free 1).2.1 [⟨1, k, 0⟩]).err⟩) := LH (by rw [HV.out, if_neg (by rw [hrt]; simp)])
  clear hrt HV
  have c1 := HA1.out.c1
  go_wp2_with fail
  refine (mtake_any HA1.out hB hn 1).mono ?_
  rintro e w2 ⟨rfl, ha2, ht2⟩
  generalize takeR m.free 1 = t at *
  obtain ⟨f2, b2, e2⟩ := t
  dsimp only at ha2 HV2 ⊢
  have hqh : q ∉ X.hot := fun hm => by
   have := HMem.out q (MF.hot_sub hm)
   rw [← HQ.out] at this
   omega
  have HR2 : Hid (RowAt w2 q 103 [.int .i64 1, .int .i64 k, .int .i64 0]) := LH ((HM1.out.at 0 rfl).keep (ht2.block q (HM1.out.glt 0 rfl) hqh))
  have HA2 := LH ha2
  have HT2 := LH (HT1.out.trans ht2)
  clear ha2 ht2 c1 HM1 HA1 HT1
  by_cases he : e2 = 0
  ·subst he
   have HV3 : Hid (r = ⟨⟨(putAll m.dev m.list b2 [⟨1, k, 0⟩]).dev, (putAll m.dev m.list b2 [⟨1, k, 0⟩]).list, f2⟩, if (putAll m.dev m.list b2 [⟨1, k, 0⟩]).err = 0 then b2 else 0, (putAll m.dev m.list b2 [⟨1, k, 0⟩]).err⟩) := LH (by rw [HV2.out, if_neg (by simp)])
   clear HV2
   have d0 := HR2.out.cell (i := 0) rfl
   have d1 := HR2.out.cell (i := 1) rfl
   have d2 := HR2.out.cell (i := 2) rfl
   have c0 := HA2.out.c0
   go_upto_region 7 with fail
   have r0 := fun x => later_cell d0 x
   have r1 := fun x => later_cell d1 x
   have r2 := fun x => later_cell d2 x
   have r3 := fun x => later_cell c0 x
   clear d0 d1 d2 c0
   refine wp_region_seg (C := fun w' => ∃ x : Later (w2), w' = x.val) [.fl [0, 1, 2, 3, 4, 5], .sq [6] true, .sq [7, 8] false] (by kernel_rfl) (by kernel_rfl) (by intro c a d v w h; cases d <;> exact h) ?_
   simp only [segs, picks, List.getElem?_cons_succ, List.getElem?_cons_zero]
   have hC1 := later_drew (w2)
   refine wpSeg_fl hC1 ?_
   repeat (first | go_big_quiet_step (fail) | quiet_step (fail))
   refine wpQuiet_nil ?_
   clear r0 r1 r2 r3
   refine wpSeg_sq (fun K hK => ?_)
   go_wp2_with fail
   have hbn := below_alloc w2.drew (.cells #[.int .i64 1, .int .i64 k, .int .i64 0] 103)
   have hC2 := later_step hC1 hbn
   have HC2 : Hid (Cells (w2.drew.alloc (.cells #[.int .i64 1, .int .i64 k, .int .i64 0] 103)) (some ⟨w2.drew.heap.size, 0, none⟩) (hdCs [⟨1, k, 0⟩])) := LH (by
    rw [hdCs_single]
    exact (RowAt.cells ⟨_, heap_alloc_new _ _, [], rfl⟩))
   clear hbn
   go_wp2_with fail
   refine hK _ _ (fun _ => hC2) ?_
   clear hK K
   refine wpSeg_last ?_
   go_wp2_with fail
   refine (mput_any (HA2.out.below (later_below hC2)) hB hN ho _ 1 1 [⟨1, k, 0⟩] rfl HC2.out (fun _ b o s e hm => ?_) (by omega) b2).mono ?_
   ·cases e
    exact HA2.out.lt (by simp) hm
   rintro e w3 ⟨rfl, ha3, ht3⟩
   dsimp only at ha3 ⊢
   generalize putAll m.dev m.list b2 [⟨1, k, 0⟩] = pr at *
   have HA3 := LH ha3
   have HT3 := LH ((HT2.out.later (later_below hC2)).trans ht3)
   clear ha3 ht3 hC1 hC2
   by_cases hz : pr.err = 0
   ·have HE : Hid (r = ⟨⟨pr.dev, pr.list, f2⟩, b2, 0⟩) := LH (by rw [HV3.out, if_pos hz, hz])
    rw [hz]
    go_wp2_with fail
    rw [← HP.out, HE.out]
    exact ⟨rfl, HA3.out, HT3.out⟩
   ·have HE : Hid (r = ⟨⟨pr.dev, pr.list, f2⟩, 0, pr.err⟩) := LH (by rw [HV3.out, if_neg hz])
    have hz' : (pr.err != 0) = true := by simpa using hz
    generalize pr.err = pe at *
    clear hz
    go_wp2_with fail
    rw [← HP.out, HE.out]
    exact ⟨rfl, HA3.out, HT3.out⟩
  ·have HE : Hid (r = ⟨⟨m.dev, m.list, f2⟩, 0, e2⟩) := LH (by rw [HV2.out, if_pos he])
   have he' : (e2 != 0) = true := by simpa using he
   clear he
   go_wp2_with fail
   rw [← HP.out, HE.out]
   exact ⟨rfl, HA2.out, HT2.out⟩
end Go.Proofs.YtpopbfagliagnaaGreat
namespace Go.Proofs.YtpopbfagliagnaaGreat
theorem splice_getD (l s : List Nat) (o i : Nat) (h : o + s.length ≤ l.length) : (splice l o s).getD i 0 = if o ≤ i ∧ i < o + s.length then s.getD (i - o) 0 else l.getD i 0 := by
 unfold splice
 simp only [List.getD_eq_getElem?_getD]
 by_cases h1 : i < o
 ·rw [if_neg (by omega), List.getElem?_append_left (by simp; omega), List.getElem?_take_of_lt h1]
 ·rw [List.getElem?_append_right (by simp; omega), show (l.take o).length = o by simp; omega]
  by_cases h2 : i < o + s.length
  ·rw [if_pos (by omega), List.getElem?_append_left (by omega)]
  ·rw [if_neg (by omega), List.getElem?_append_right (by omega), List.getElem?_drop, show o + s.length + (i - o - s.length) = i by omega]
theorem seg_getD (l : List Nat) (j i : Nat) (hi : 8 * j ≤ i) (h2 : i < 8 * j + 8) : (seg l j).getD (i - 8 * j) 0 = l.getD i 0 := by
 rw [List.getD_eq_getElem?_getD, seg_at l j (i - 8 * j) (by omega), show 8 * j + (i - 8 * j) = i by omega, ← List.getD_eq_getElem?_getD]
theorem seg_eq_iff (l m : List Nat) (j : Nat) (h1 : 8 * j + 8 ≤ l.length) (h2 : 8 * j + 8 ≤ m.length) : seg l j = seg m j ↔ ∀ i, 8 * j ≤ i → i < 8 * j + 8 → l.getD i 0 = m.getD i 0 := by
 constructor
 ·intro h i hi hi2
  rw [← seg_getD l j i hi hi2, ← seg_getD m j i hi hi2, h]
 ·intro h
  apply List.ext_getElem (by rw [seg_length l j h1, seg_length m j h2])
  intro i hi1 hi2
  rw [seg_length l j h1] at hi1
  have := h (8 * j + i) (by omega) (by omega)
  have e1 := seg_getD l j (8 * j + i) (by omega) (by omega)
  have e2 := seg_getD m j (8 * j + i) (by omega) (by omega)
  rw [show 8 * j + i - 8 * j = i by omega] at e1 e2
  rw [this, ← e2] at e1
  simpa [List.getD_eq_getElem?_getD, seg_length l j h1, seg_length m j h2, hi1] using e1
theorem splice_seg_getD (l s : List Nat) (j i : Nat) (h1 : 8 * j + 8 ≤ l.length) (h2 : 8 * j + 8 ≤ s.length) : (splice l (8 * j) (seg s j)).getD i 0 = if i / 8 = j then s.getD i 0 else l.getD i 0 := by
 have hl := seg_length s j h2
 rw [splice_getD _ _ _ _ (by rw [hl]; exact h1), hl]
 by_cases h : i / 8 = j
 ·rw [if_pos (by omega), if_pos h, seg_getD s j i (by omega) (by omega)]
 ·rw [if_neg (by omega), if_neg h]
theorem getD_setB (l : List Bool) (i j : Nat) (b : Bool) (hi : i < l.length) : (l.set i b).getD j false = if j = i then b else l.getD j false := by
 simp only [List.getD_eq_getElem?_getD]
 by_cases h : j = i
 ·subst h; rw [if_pos rfl, List.getElem?_set_self hi]; rfl
 ·rw [if_neg h, List.getElem?_set_ne (Ne.symm h)]
theorem getD_setN (l : List Nat) (i j x : Nat) (hi : i < l.length) : (l.set i x).getD j 0 = if j = i then x else l.getD j 0 := by
 simp only [List.getD_eq_getElem?_getD]
 by_cases h : j = i
 ·subst h; rw [if_pos rfl, List.getElem?_set_self hi]; rfl
 ·rw [if_neg h, List.getElem?_set_ne (Ne.symm h)]
structure Dev.inv (S : Dev) : Prop where
 wf : S.wf
 sound : ∀ j, S.dirty.getD (j / 8) false = false → S.lasting.getD j 0 = S.cache.getD j 0
 pend : ∀ l, S.pending.getD l false = true → S.dirty.getD l false = true
theorem Dev.step_wf {S : Dev} (h : S.wf) : S.step.wf := by
 unfold Dev.step
 split
 ·exact ⟨h.lenL, h.lenF, h.lenP, h.lenD, h.small, h.u64L, h.u64C, h.u64F⟩
 ·exact ⟨h.lenL, h.lenF, h.lenP, h.lenD, h.small, h.u64L, h.u64C, h.u64F⟩
theorem Dev.step_inv {S : Dev} (h : S.inv) : S.step.inv := by
 obtain ⟨e1, e2, e3, e4, e5⟩ := S.step_rest
 exact ⟨Dev.step_wf h.wf, by rw [e1, e2, e4]; exact h.sound, by rw [e5, e4]; exact h.pend⟩
theorem fresh_inv {ws : List Nat} {m : Nat} (h8 : ws.length = 8 * m) (hs : ws.length ≤ 1000000) (hu : ∀ z ∈ ws, z < 18446744073709551616) : (freshDev ws m).inv := by
 refine ⟨⟨rfl, by simp [freshDev], by simp [freshDev], by simpa [freshDev] using h8, hs, hu, hu, ?_⟩, fun j _ => rfl, fun l hl => ?_⟩
 ·intro z hz
  simp [freshDev] at hz
  omega
 ·exfalso
  simp [freshDev, List.getD_eq_getElem?_getD, List.getElem?_replicate] at hl
  split at hl <;> simp at hl
theorem Dev.put_inv {S : Dev} (h : S.inv) (i x : Nat) (hi : i < S.cache.length) (hx : x < 18446744073709551616) : (S.put i x).inv := by
 have hw := h.wf
 have hD := hw.lenD
 have hl : i / 8 < S.dirty.length := by omega
 refine ⟨⟨by simp [Dev.put, hw.lenL], by simp [Dev.put, hw.lenF], by simp [Dev.put, hw.lenP], by simp [Dev.put, hD], by simp [Dev.put, hw.small], hw.u64L, set_lt hw.u64C _ _ hx, hw.u64F⟩, fun j hj => ?_, fun l hl2 => ?_⟩
 ·simp only [Dev.put] at hj ⊢
  rw [getD_setB _ _ _ _ hl] at hj
  rw [getD_setN _ _ _ _ hi]
  split at hj
  ·cases hj
  ·rw [if_neg (by rintro rfl; simp at *)]
   exact h.sound j hj
 ·simp only [Dev.put] at hl2 ⊢
  rw [getD_setB _ _ _ _ hl]
  split
  ·rfl
  ·exact h.pend l hl2
theorem Dev.store_inv {S : Dev} (h : S.inv) (i : Int) (x : Nat) (hx : x < 18446744073709551616) : (S.store i x).inv := by
 unfold Dev.store
 split
 ·exact h
 ·split
  ·exact Dev.step_inv h
  ·exact Dev.put_inv (Dev.step_inv h) _ _ (by rw [(Dev.step_rest S).2.1]; omega) hx
theorem Dev.hold_inv {S : Dev} (h : S.inv) (j : Nat) (hj : j < S.dirty.length) : (S.hold j).inv := by
 have hw := h.wf
 have hD := hw.lenD
 unfold Dev.hold
 split
 ·rename_i hd
  have hs := seg_length S.cache j (by omega)
  refine ⟨⟨hw.lenL, by rw [length_splice _ _ _ (by rw [hs, hw.lenF]; omega)]; exact hw.lenF, by simp [hw.lenP], hD, hw.small, hw.u64L, hw.u64C, splice_lt _ hw.u64F (seg_lt _ hw.u64C)⟩, h.sound, fun l hl => ?_⟩
  dsimp only at hl ⊢
  rw [getD_setB _ _ _ _ (by rw [hw.lenP]; exact hj)] at hl
  split at hl
  ·rename_i e; rw [e]; exact hd
  ·exact h.pend l hl
 ·exact h
theorem Dev.flush_inv {S : Dev} (h : S.inv) (j : Int) : (S.flush j).inv := by
 unfold Dev.flush
 split
 ·exact h
 ·split
  ·exact Dev.step_inv h
  ·exact Dev.hold_inv (Dev.step_inv h) _ (by rw [(Dev.step_rest S).2.2.2.1]; omega)
theorem Dev.flushRun_inv {S : Dev} (h : S.inv) (a m : Nat) : (S.flushRun a m).dev.inv := by
 induction m with
 | zero => exact h
 | succ m ih =>
  unfold Dev.flushRun
  split
  ·exact ih
  ·exact Dev.flush_inv ih _
structure FenceAt (S : Dev) (k : Nat) (T : Dev) : Prop where
 cache : T.cache = S.cache
 flushed : T.flushed = S.flushed
 lenD : T.dirty.length = S.dirty.length
 lenP : T.pending.length = S.pending.length
 lenL : T.lasting.length = S.lasting.length
 pending : ∀ l, T.pending.getD l false = if l < k then false else S.pending.getD l false
 dirty : ∀ l, T.dirty.getD l false = if l < k ∧ S.pending.getD l false = true then !decide (seg S.flushed l = seg S.cache l) else S.dirty.getD l false
 lasting : ∀ j, T.lasting.getD j 0 = if j / 8 < k ∧ S.pending.getD (j / 8) false = true then S.flushed.getD j 0 else S.lasting.getD j 0
 u64 : ∀ z ∈ T.lasting, z < 18446744073709551616
theorem fenceTo_at {S : Dev} (h : S.wf) : ∀ k, k ≤ S.dirty.length → FenceAt S k (S.fenceTo k)
 | 0, _ => ⟨rfl, rfl, rfl, rfl, rfl, by simp [Dev.fenceTo], by simp [Dev.fenceTo], by simp [Dev.fenceTo], h.u64L⟩
 | k + 1, hk => by
  have i := fenceTo_at h k (by omega)
  have hD := h.lenD
  have hP := h.lenP
  have hL := h.lenL
  have hF := h.lenF
  unfold Dev.fenceTo
  generalize S.fenceTo k = T at *
  have hp : T.pending.getD k false = S.pending.getD k false := by rw [i.pending k, if_neg (by omega)]
  unfold Dev.settle
  rw [hp]
  cases hq : S.pending.getD k false
  ·simp only [Bool.false_eq_true, if_false]
   refine ⟨i.cache, i.flushed, i.lenD, i.lenP, i.lenL, fun l => ?_, fun l => ?_, fun j => ?_, i.u64⟩
   ·rw [i.pending l]
    by_cases e : l = k
    ·subst e; rw [if_neg (by omega), if_pos (by omega), hq]
    ·by_cases h1 : l < k
     ·rw [if_pos h1, if_pos (by omega)]
     ·rw [if_neg h1, if_neg (by omega)]
   ·rw [i.dirty l]
    by_cases e : l = k
    ·subst e; rw [if_neg (by omega), if_neg (by rw [hq]; simp)]
    ·by_cases h1 : l < k ∧ S.pending.getD l false = true
     ·rw [if_pos h1, if_pos ⟨by omega, h1.2⟩]
     ·rw [if_neg h1, if_neg (fun h2 => h1 ⟨by omega, h2.2⟩)]
   ·rw [i.lasting j]
    by_cases e : j / 8 = k
    ·rw [if_neg (by omega), if_neg (by rw [e, hq]; simp)]
    ·by_cases h1 : j / 8 < k ∧ S.pending.getD (j / 8) false = true
     ·rw [if_pos h1, if_pos ⟨by omega, h1.2⟩]
     ·rw [if_neg h1, if_neg (fun h2 => h1 ⟨by omega, h2.2⟩)]
  ·simp only [if_true]
   rw [i.flushed, i.cache]
   have hs := seg_length S.flushed k (by omega)
   have hlT : 8 * k + 8 ≤ T.lasting.length := by rw [i.lenL]; omega
   refine ⟨rfl, rfl, by simp [i.lenD], by simp [i.lenP], by rw [length_splice _ _ _ (by rw [hs]; exact hlT)]; exact i.lenL, fun l => ?_, fun l => ?_, fun j => ?_, splice_lt _ i.u64 (seg_lt _ h.u64F)⟩
   ·dsimp only
    rw [getD_setB _ _ _ _ (by rw [i.lenP]; omega), i.pending l]
    by_cases e : l = k
    ·subst e; rw [if_pos rfl, if_pos (by omega)]
    ·rw [if_neg e]
     by_cases h1 : l < k
     ·rw [if_pos h1, if_pos (by omega)]
     ·rw [if_neg h1, if_neg (by omega)]
   ·dsimp only
    rw [getD_setB _ _ _ _ (by rw [i.lenD]; omega), i.dirty l]
    by_cases e : l = k
    ·subst e; rw [if_pos rfl, if_pos ⟨by omega, hq⟩]
    ·rw [if_neg e]
     by_cases h1 : l < k ∧ S.pending.getD l false = true
     ·rw [if_pos h1, if_pos ⟨by omega, h1.2⟩]
     ·rw [if_neg h1, if_neg (fun h2 => h1 ⟨by omega, h2.2⟩)]
   ·dsimp only
    rw [splice_seg_getD _ _ _ _ hlT (by omega), i.lasting j]
    by_cases e : j / 8 = k
    ·rw [if_pos e, if_pos ⟨by omega, by rw [e]; exact hq⟩]
    ·rw [if_neg e]
     by_cases h1 : j / 8 < k ∧ S.pending.getD (j / 8) false = true
     ·rw [if_pos h1, if_pos ⟨by omega, h1.2⟩]
     ·rw [if_neg h1, if_neg (fun h2 => h1 ⟨by omega, h2.2⟩)]
theorem getD_false_of {l : List Bool} {i : Nat} (h : l.length ≤ i) : l.getD i false = false := by simp [List.getD_eq_getElem?_getD, List.getElem?_eq_none h]
theorem getD_zero_of {l : List Nat} {i : Nat} (h : l.length ≤ i) : l.getD i 0 = 0 := by simp [List.getD_eq_getElem?_getD, List.getElem?_eq_none h]
theorem Dev.fence_at {S : Dev} (h : S.wf) (hs : S.stop = false) : FenceAt S S.dirty.length S.fence := by
 unfold Dev.fence
 rw [hs]
 simp only [Bool.false_eq_true, if_false]
 obtain ⟨e1, e2, e3, e4, e5⟩ := S.step_rest
 have i := fenceTo_at (Dev.step_wf h) S.dirty.length (by rw [e4]; exact Nat.le_refl _)
 exact ⟨by rw [← e2]; exact i.cache, by rw [← e3]; exact i.flushed, by rw [← e4]; exact e4 ▸ i.lenD, by rw [← e5]; exact i.lenP, by rw [← e1]; exact i.lenL, by have := i.pending; rwa [e5] at this, by have := i.dirty; rwa [e5, e3, e2, e4] at this, by have := i.lasting; rwa [e5, e3, e1] at this, i.u64⟩
theorem Dev.fence_inv {S : Dev} (h : S.inv) : S.fence.inv := by
 by_cases hs : S.stop = true
 ·unfold Dev.fence; rw [hs]; exact Dev.step_inv h
 ·have i := Dev.fence_at h.wf (by simpa using hs)
  have hw := h.wf
  have hD := hw.lenD
  generalize S.fence = T at *
  refine ⟨⟨by rw [i.lenL, i.cache]; exact hw.lenL, by rw [i.flushed, i.cache]; exact hw.lenF, by rw [i.lenP, i.lenD]; exact hw.lenP, by rw [i.cache, i.lenD]; exact hD, by rw [i.cache]; exact hw.small, i.u64, by rw [i.cache]; exact hw.u64C, by rw [i.flushed]; exact hw.u64F⟩, fun j hj => ?_, fun l hl => ?_⟩
  ·rw [i.lasting j, i.cache]
   rw [i.dirty (j / 8)] at hj
   by_cases h1 : j / 8 < S.dirty.length ∧ S.pending.getD (j / 8) false = true
   ·rw [if_pos h1]
    rw [if_pos h1] at hj
    have : seg S.flushed (j / 8) = seg S.cache (j / 8) := by simpa using hj
    exact (seg_eq_iff _ _ _ (by rw [hw.lenF]; omega) (by omega)).1 this j (by omega) (by omega)
   ·rw [if_neg h1]
    rw [if_neg h1] at hj
    exact h.sound j hj
  ·rw [i.pending l] at hl
   by_cases h1 : l < S.dirty.length
   ·rw [if_pos h1] at hl; cases hl
   ·rw [getD_false_of (by rw [hw.lenP]; omega)] at hl
    simp at hl
theorem Dev.persist_inv {S : Dev} (h : S.inv) (p n : Int) : (S.persist p n).dev.inv := by
 unfold Dev.persist
 split
 ·exact h
 ·split
  ·unfold Dev.persistN
   split
   ·exact Dev.flushRun_inv h _ _
   ·exact Dev.fence_inv (Dev.flushRun_inv h _ _)
  ·exact Dev.fence_inv h
theorem settle_steps (S : Dev) (j : Nat) : (S.settle j).steps = S.steps ∧ (S.settle j).fuse = S.fuse := by
 unfold Dev.settle; split <;> exact ⟨rfl, rfl⟩
theorem fenceTo_steps (S : Dev) (k : Nat) : (S.fenceTo k).steps = S.steps ∧ (S.fenceTo k).fuse = S.fuse := by
 induction k with
 | zero => exact ⟨rfl, rfl⟩
 | succ k ih => have h := settle_steps (S.fenceTo k) k; exact ⟨h.1.trans ih.1, h.2.trans ih.2⟩
theorem Dev.fence_ok {S : Dev} {N : Nat} (h : S.ok N) : S.fence.ok (N + 1) := by
 unfold Dev.fence
 split
 ·exact Dev.step_ok h
 ·have := Dev.step_ok h
  have e := fenceTo_steps S.step S.dirty.length
  unfold Dev.ok at *
  rw [e.1, e.2]
  exact this
theorem Dev.persist_ok {S : Dev} (hw : S.wf) {N : Nat} (h : S.ok N) (p n : Int) : (S.persist p n).dev.ok (N + 200000) := by
 have hD := hw.lenD
 have hs := hw.small
 unfold Dev.persist
 split
 ·exact h.mono (by omega)
 ·split
  ·unfold Dev.persistN
   have hM : (((p : Int) + (n : Int) - 1) / 8 - (p : Int) / 8 + 1).toNat ≤ 150000 := by omega
   split
   ·exact (Dev.flushRun_ok h _ _).mono (by omega)
   ·exact (Dev.fence_ok (Dev.flushRun_ok h _ _)).mono (by omega)
  ·exact (Dev.fence_ok h).mono (by omega)
theorem settle_live {S : Dev} (h : S.live) (j : Nat) : (S.settle j).live := by
 unfold Dev.settle; split <;> exact h
theorem fenceTo_live {S : Dev} (h : S.live) (k : Nat) : (S.fenceTo k).live := by
 induction k with
 | zero => exact h
 | succ k ih => exact settle_live ih k
theorem Dev.live.fence {S : Dev} (h : S.live) : S.fence.live := by
 unfold Dev.fence
 rw [h.stop]
 exact fenceTo_live h.step _
theorem Dev.live.persist_live {S : Dev} (h : S.live) (p n : Nat) (hn : 0 < n) (hd : S.cache.length = 8 * S.dirty.length) (hp : p + n ≤ S.cache.length) : (S.persist p n).dev.live := by
 unfold Dev.persist
 rw [if_neg (by omega), if_pos (by omega)]
 unfold Dev.persistN
 obtain ⟨i1, i2, i3, i4⟩ := h.flushRun ((p : Int) / 8).toNat (((p : Int) + (n : Int) - 1) / 8 - (p : Int) / 8 + 1).toNat (by omega)
 rw [if_neg (by rw [i1]; simp)]
 exact i2.fence
theorem Dev.flushRun_held {S : Dev} (h : S.inv) (a : Nat) : ∀ m, (S.flushRun a m).err = 0 → (S.flushRun a m).dev.cache = S.cache ∧ (S.flushRun a m).dev.dirty = S.dirty ∧ (0 < m → a + m ≤ S.dirty.length) ∧
  ∀ l, a ≤ l → l < a + m → S.dirty.getD l false = true → (S.flushRun a m).dev.pending.getD l false = true ∧ seg (S.flushRun a m).dev.flushed l = seg S.cache l
 | 0, _ => ⟨rfl, rfl, fun h => absurd h (Nat.lt_irrefl _), fun l h1 h2 => by omega⟩
 | m + 1, he => by
  have hinv := Dev.flushRun_inv h a m
  unfold Dev.flushRun at he ⊢
  by_cases h0 : (S.flushRun a m).err ≠ 0
  ·rw [if_pos h0] at he
   exact absurd he h0
  ·rw [if_neg h0] at he ⊢
   obtain ⟨i1, i2, i3, i4⟩ := Dev.flushRun_held h a m (by simpa using h0)
   generalize (S.flushRun a m).dev = T at *
   dsimp only at he ⊢
   unfold Dev.flushE at he
   unfold Dev.flush
   by_cases c1 : ((a + m : Nat) : Int) < 0 ∨ (T.dirty.length : Int) ≤ ((a + m : Nat) : Int)
   ·rw [if_pos c1] at he; simp at he
   rw [if_neg c1] at he ⊢
   cases c2 : T.stop
   ·simp only [Bool.false_eq_true, if_false]
    obtain ⟨e1, e2, e3, e4, e5⟩ := T.step_rest
    rw [show ((a + m : Nat) : Int).toNat = a + m by omega]
    have hw := Dev.step_wf hinv.wf
    have hD := hw.lenD
    have hdl : T.dirty.length = S.dirty.length := by rw [i2]
    have hj : a + m < T.step.dirty.length := by rw [e4]; omega
    rw [← e4] at i2
    rw [← e2] at i1
    rw [← e5, ← e3] at i4
    generalize T.step = U at *
    refine ⟨by rw [(Dev.hold_len U _).1, i1], by rw [(Dev.hold_len U _).2, i2], fun _ => by rw [← i2]; omega, fun l h1 h2 hd => ?_⟩
    unfold Dev.hold
    by_cases hl : l = a + m
    ·subst hl
     rw [if_pos (by rw [i2]; exact hd)]
     dsimp only
     refine ⟨by rw [getD_setB _ _ _ _ (by rw [hw.lenP]; exact hj), if_pos rfl], ?_⟩
     rw [seg_splice _ _ _ (seg_length _ _ (by omega)) (by rw [hw.lenF]; omega), i1]
    ·have := i4 l h1 (by omega) hd
     have hll : l < U.dirty.length := by
      rcases Nat.lt_or_ge l U.dirty.length with h | h
      ·exact h
      ·rw [← i2, getD_false_of h] at hd; cases hd
     split
     ·dsimp only
      refine ⟨by rw [getD_setB _ _ _ _ (by rw [hw.lenP]; exact hj), if_neg hl]; exact this.1, ?_⟩
      rw [← this.2]
      have hs := seg_length U.cache (a + m) (by omega)
      refine (seg_eq_iff _ _ _ (by rw [length_splice _ _ _ (by rw [hs, hw.lenF]; omega), hw.lenF]; omega) (by rw [hw.lenF]; omega)).2 (fun i h3 h4 => ?_)
      rw [splice_seg_getD _ _ _ _ (by rw [hw.lenF]; omega) (by omega), if_neg (by omega)]
     ·exact this
   ·rw [c2] at he
    simp at he
theorem Dev.persist_clean {S : Dev} (h : S.inv) (p n : Nat) (hn : 0 < n) (he : (S.persist p n).err = 0) : (S.persist p n).dev.cache = S.cache ∧ p + n ≤ S.cache.length ∧ (S.persist p n).dev.dirty.length = S.dirty.length ∧
  (∀ j, p ≤ j → j < p + n → (S.persist p n).dev.dirty.getD (j / 8) false = false) ∧ ∀ l, S.dirty.getD l false = false → (S.persist p n).dev.dirty.getD l false = false := by
 unfold Dev.persist at he ⊢
 by_cases c1 : (p : Int) < 0 ∨ (n : Int) < 0 ∨ (S.cache.length : Int) < (p : Int) ∨ (S.cache.length : Int) - (p : Int) < (n : Int)
 ·rw [if_pos c1] at he; simp at he
 rw [if_neg c1, if_pos (by omega)] at he ⊢
 unfold Dev.persistN at he ⊢
 generalize hA : ((p : Int) / 8).toNat = A at *
 generalize hM : (((p : Int) + (n : Int) - 1) / 8 - (p : Int) / 8 + 1).toNat = M at *
 by_cases c2 : (S.flushRun A M).err ≠ 0
 ·rw [if_pos c2] at he; exact absurd he c2
 rw [if_neg c2] at he ⊢
 obtain ⟨i1, i2, i3, i4⟩ := Dev.flushRun_held h A M (by simpa using c2)
 have hinv := Dev.flushRun_inv h A M
 generalize (S.flushRun A M).dev = T at *
 dsimp only at he ⊢
 unfold Dev.fenceE at he
 cases c3 : T.stop
 ·have f := Dev.fence_at hinv.wf c3
  refine ⟨f.cache.trans i1, by omega, by rw [f.lenD, i2], fun j h1 h2 => ?_, fun l hl => ?_⟩
  ·rw [f.dirty, i2, i1]
   cases hd : S.dirty.getD (j / 8) false
   ·rw [if_neg]
    rintro ⟨_, hp⟩
    have := hinv.pend _ hp
    rw [i2, hd] at this
    cases this
   ·have := i4 (j / 8) (by omega) (by omega) hd
    have hl : j / 8 < S.dirty.length := by
     rcases Nat.lt_or_ge (j / 8) S.dirty.length with h | h
     ·exact h
     ·rw [getD_false_of h] at hd; cases hd
    rw [if_pos ⟨hl, this.1⟩, this.2]
    simp
  ·rw [f.dirty, i2, if_neg]
   ·exact hl
   ·rintro ⟨_, hp⟩
    have := hinv.pend _ hp
    rw [i2, hl] at this
    cases this
 ·rw [c3] at he
  simp at he
end Go.Proofs.YtpopbfagliagnaaGreat
namespace Go.Proofs.YtpopbfagliagnaaGreat
open Go.RowKit
section
variable {P : Program} {C : World → Prop} {ops : Array Oper} {rest : List Oper} {o : Oper} {a : Act} {Q : Act → Prop}
theorem wpQuiet_slice_from {x lo : Operand} {t e : TypeId} {z : Value} {size bytes : Nat} (E : Elem P t e z size bytes) {ad : Option Addr} {n cap : Nat} {k : IntKind} {L : Int} (l : Nat)
  (hL : L = (l : Int)) (hl : l ≤ n) (hn : n ≤ cap)
  (hgd : o.guard = none) (ho : o.op = .slice t x (some lo) none none) (hx : a.eval x = .slice ad n cap) (hlo : a.eval lo = .int k L)
  (hK : wpQuiet P ops C Q rest (a.put o.dst (.slice (if cap = l then ad else ad.map (·.add (l * size))) (n - l) (cap - l)))) :
  wpQuiet P ops C Q (o :: rest) a := by
 subst hL
 have hw : Region.wanted o (yielded ops a.tmps) = true := by simp [Region.wanted, hgd]
 unfold wpQuiet
 rw [if_pos hw]
 refine ⟨_, fun w hC => ?_, hK⟩
 have hr := run_slice_any (w := w) E ad n cap l n (some (.int k l)) none (by
  have : (0 : Int) ≤ (l : Int) ∧ (l : Int) ≤ (n : Int) := by omega
  simp [Instr.sliceBounds, Instr.sliceBound, asIntOf, hl])
 unfold Oper.quietAt
 simp only [execOp, ho, hx, hlo, Option.map_some, Option.map_none]
 simp [hr, Result.andThen, Oper.quietUpon]
end
theorem takeR_err {l : List Bool} {z : Int} (h : (takeR l z).2.2 ≠ 0) : (takeR l z).1 = l := by
 unfold takeR at h ⊢
 by_cases c : z < 1
 ·rw [if_pos c]
 ·rw [if_neg c] at h ⊢
  cases hp : pick z.toNat (runsOf l) with
  | none => rfl
  | some x => rw [hp] at h; exact absurd rfl h
theorem takeR_fit {l : List Bool} {z : Nat} (hz : 1 ≤ z) (h : (takeR l z).2.2 = 0) : ∃ a k : Nat, takeR l z = (setTo l a false z, (a : Int), 0) ∧ IsRun (fb l) a k ∧ z ≤ k ∧ a + z ≤ l.length := by
 cases hp : pick z (runsOf l) with
 | none => rw [takeR_none hz hp] at h; simp at h
 | some x =>
  obtain ⟨hr, hk⟩ := pick_run hp
  have := runEnds hr
  exact ⟨x.1, x.2, takeR_some hz hp, hr, hk, by omega⟩
def Bm.large (m : Bm) (n : Int) : BmR :=
 if n < 1 ∨ 256 ≤ n then ⟨m, 0, 1⟩ else
 if (takeR m.free n).2.2 ≠ 0 then ⟨⟨m.dev, m.list, (takeR m.free n).1⟩, 0, (takeR m.free n).2.2⟩ else
 if (putAll m.dev m.list ((takeR m.free n).2.1 + 1) ((hdRun n.toNat n.toNat).drop 1)).err ≠ 0 then
  ⟨⟨(putAll m.dev m.list ((takeR m.free n).2.1 + 1) ((hdRun n.toNat n.toNat).drop 1)).dev, (putAll m.dev m.list ((takeR m.free n).2.1 + 1) ((hdRun n.toNat n.toNat).drop 1)).list, (takeR m.free n).1⟩, 0,
   (putAll m.dev m.list ((takeR m.free n).2.1 + 1) ((hdRun n.toNat n.toNat).drop 1)).err⟩ else
 ⟨⟨(putAll (putAll m.dev m.list ((takeR m.free n).2.1 + 1) ((hdRun n.toNat n.toNat).drop 1)).dev (putAll m.dev m.list ((takeR m.free n).2.1 + 1) ((hdRun n.toNat n.toNat).drop 1)).list (takeR m.free n).2.1 [⟨2, 0, n⟩]).dev,
  (putAll (putAll m.dev m.list ((takeR m.free n).2.1 + 1) ((hdRun n.toNat n.toNat).drop 1)).dev (putAll m.dev m.list ((takeR m.free n).2.1 + 1) ((hdRun n.toNat n.toNat).drop 1)).list (takeR m.free n).2.1 [⟨2, 0, n⟩]).list, (takeR m.free n).1⟩,
  if (putAll (putAll m.dev m.list ((takeR m.free n).2.1 + 1) ((hdRun n.toNat n.toNat).drop 1)).dev (putAll m.dev m.list ((takeR m.free n).2.1 + 1) ((hdRun n.toNat n.toNat).drop 1)).list (takeR m.free n).2.1 [⟨2, 0, n⟩]).err = 0 then (takeR m.free n).2.1 else 0,
  (putAll (putAll m.dev m.list ((takeR m.free n).2.1 + 1) ((hdRun n.toNat n.toNat).drop 1)).dev (putAll m.dev m.list ((takeR m.free n).2.1 + 1) ((hdRun n.toNat n.toNat).drop 1)).list (takeR m.free n).2.1 [⟨2, 0, n⟩]).err⟩
theorem putAll_none (S : Dev) {L : List Hd} {b : Int} (h1 : 1 ≤ b) (h2 : b ≤ (L.length : Int)) : putAll S L b [] = ⟨S, L, 0⟩ := by
 unfold putAll
 rw [if_neg, if_pos (show ([] : List Hd).length = 0 from rfl)]
 rintro (h | h | h | h)
 ·omega
 ·omega
 ·simp at h; omega
 ·exact h (fun i hi => absurd hi (Nat.not_lt_zero _))
theorem putTo_inv {S : Dev} (h : S.inv) (L : List Hd) (b : Nat) (l : List Hd) : ∀ i, (putTo S L b l i).dev.inv
 | 0 => h
 | i + 1 => by
  have := putTo_inv h L b l i
  unfold putTo putStep
  split
  ·exact this
  ·exact Dev.store_inv this _ _ (encN_lt _ _ _ _)
theorem putAll_inv {S : Dev} (h : S.inv) (L : List Hd) (b : Int) (l : List Hd) : (putAll S L b l).dev.inv := by
 unfold putAll
 split
 ·exact h
 ·split
  ·exact h
  ·unfold putIn
   split
   ·exact putTo_inv h _ _ _ _
   ·exact Dev.persist_inv (putTo_inv h _ _ _ _) _ _
theorem putAll_len (S : Dev) (L : List Hd) (b : Int) (l : List Hd) : (putAll S L b l).list.length = L.length := by
 unfold putAll
 split
 ·rfl
 ·split
  ·rfl
  ·unfold putIn
   split
   ·exact putTo_len _ _ _ _ _
   ·exact putTo_len _ _ _ _ _
theorem putAll_ok {S : Dev} {N : Nat} (hw : S.inv) (h : S.ok N) (L : List Hd) (b : Int) (l : List Hd) : (putAll S L b l).dev.ok (N + l.length + 200000) := by
 unfold putAll
 split
 ·exact h.mono (by omega)
 ·split
  ·exact h.mono (by omega)
  ·unfold putIn
   have ho := putTo_ok h L b.toNat l l.length
   split
   ·exact ho.mono (by omega)
   ·exact Dev.persist_ok (putTo_inv hw L b.toNat l l.length).wf ho _ _
set_option maxHeartbeats 4000000 in
set_option maxRecDepth 20000 in
theorem blarge_any {w : World} {X : MF} {n B : Nat} {m : Bm} (h : ManAt w X n B m) (hB : B ≤ 1000) (hn : n < 1000000000000) {N : Nat} (hN : N ≤ 999000000) (ho : m.dev.ok N) (hi : m.dev.inv) (z : Int) :
  Calls Tryz.prog 290 #[.pointer (some ⟨X.m, 0, none⟩), .int .i64 z] w (BmDone w X (n + 1) B (m.large z)) := by
 generalize hr : m.large z = r
 generalize hP : BmDone w X (n + 1) B r = Post
 have HP := LH hP
 have HV := LH hr.symm
 have HA := LH h
 have HLB : Hid (m.list.length = B) := LH h.tab.len
 have HLF : Hid (m.free.length = B) := LH h.lenF
 clear h hP hr
 by_cases hz : z < 1 ∨ 256 ≤ z
 ·have HE : Hid (r = ⟨m, 0, 1⟩) := LH (by rw [HV.out]; unfold Bm.large; rw [if_pos hz])
  have hz' : z < 1 ∨ (1 ≤ z ∧ 256 ≤ z) := by omega
  clear hz
  rcases hz' with hz | ⟨hz1, hz⟩
  all_goals
   go_enter Tryz.func290, Tryz.ntmps290
   go_wp2_with fail
   rw [← HP.out, HE.out]
   exact ⟨rfl, HA.out.mono (by omega), Touch.refl _ _⟩
 obtain ⟨k, rfl⟩ := Int.eq_ofNat_of_zero_le (show 0 ≤ z by omega)
 have hk1 : 1 ≤ k := by omega
 have hk2 : k < 256 := by omega
 have q1 : decide ((k : Int) < 1) = false := by simp; omega
 have q2 : decide (256 ≤ (k : Int)) = false := by simp; omega
 have HV2 : Hid (r = if (takeR m.free k).2.2 ≠ 0 then ⟨⟨m.dev, m.list, (takeR m.free k).1⟩, 0, (takeR m.free k).2.2⟩ else
   (fun r1 : PutR => if r1.err ≠ 0 then ⟨⟨r1.dev, r1.list, (takeR m.free k).1⟩, 0, r1.err⟩ else
    (fun r2 : PutR => ⟨⟨r2.dev, r2.list, (takeR m.free k).1⟩, if r2.err = 0 then (takeR m.free k).2.1 else 0, r2.err⟩) (putAll r1.dev r1.list (takeR m.free k).2.1 [⟨2, 0, (k : Int)⟩]))
   (putAll m.dev m.list ((takeR m.free k).2.1 + 1) ((hdRun k k).drop 1))) := LH (by rw [HV.out]; unfold Bm.large; rw [if_neg hz]; rfl)
 have HFit := LH (takeR_fit (l := m.free) hk1)
 clear HV hz
 have c1 := HA.out.c1
 go_enter Tryz.func290, Tryz.ntmps290
 go_wp2_with fail
 refine (mtake_any HA.out hB hn k).mono ?_
 rintro e w2 ⟨rfl, ha2, ht2⟩
 generalize takeR m.free k = t at *
 obtain ⟨f2, b2, e2⟩ := t
 dsimp only at ha2 HV2 HFit ⊢
 have HA2 := LH ha2
 have HT2 := LH ht2
 clear ha2 ht2 c1
 by_cases he : e2 = 0
 case neg =>
  have HE : Hid (r = ⟨⟨m.dev, m.list, f2⟩, 0, e2⟩) := LH (by rw [HV2.out, if_pos he])
  have he' : (e2 != 0) = true := by simpa using he
  clear he
  go_wp2_with fail
  rw [← HP.out, HE.out]
  exact ⟨rfl, HA2.out, HT2.out⟩
 subst he
 obtain ⟨a, c, hta, _, _, hfit⟩ := HFit.out rfl
 obtain rfl : b2 = (a : Int) := congrArg (fun t => t.2.1) hta
 have hfit' : a + k ≤ B := by rw [← HLF.out]; exact hfit
 clear hta hfit HFit
 obtain ⟨r1, hr1⟩ : ∃ r1, r1 = putAll m.dev m.list ((a : Int) + 1) ((hdRun k k).drop 1) := ⟨_, rfl⟩
 rw [← hr1] at HV2
 have HR1 := LH hr1
 have HOk1 : Hid (r1.dev.ok (N + k + 200000)) := LH (by
  have := putAll_ok hi ho m.list ((a : Int) + 1) ((hdRun k k).drop 1)
  rw [← hr1] at this
  exact this.mono (by rw [List.length_drop, hdRun_len]; omega))
 have HV3 : Hid (r = if r1.err ≠ 0 then ⟨⟨r1.dev, r1.list, f2⟩, 0, r1.err⟩ else
   ⟨⟨(putAll r1.dev r1.list (a : Int) [⟨2, 0, (k : Int)⟩]).dev, (putAll r1.dev r1.list (a : Int) [⟨2, 0, (k : Int)⟩]).list, f2⟩, if (putAll r1.dev r1.list (a : Int) [⟨2, 0, (k : Int)⟩]).err = 0 then (a : Int) else 0, (putAll r1.dev r1.list (a : Int) [⟨2, 0, (k : Int)⟩]).err⟩) := LH (by rw [HV2.out, if_neg (by simp)])
 clear hr1 HV2
 go_wp2_with fail
 refine (brun_any k (by omega) _).mono ?_
 rintro e w3 ⟨v, rfl, ho3, hb3⟩
 have HA3 := LH (HA2.out.below hb3)
 have HT3 := LH (HT2.out.later hb3)
 obtain ⟨g, cc, rfl, hcc, _, hgb⟩ := owned_some ho3 (by omega)
 have HR3 := LH (owned_row ho3)
 have HGn : Hid (g ∉ X.hot) := LH (HA2.out.lt (by
  rcases ho3.2 with ⟨hv, _⟩ | ⟨g', _, _, hv, hb', _⟩
  ·cases hv
  ·cases hv; exact hb'))
 clear ho3 hb3 hgb HA2 HT2
 go_upto_if 32 with fail
 go_cut [] from 11 (fun wc => r1.err = 0 ∧ ManAt wc X (n + 1) B ⟨r1.dev, r1.list, f2⟩ ∧ Touch X.hot w wc ∧ RowAt wc g 103 (hdCs (hdRun k k)))
 case first =>
  by_cases hk : k = 1
  ·have q3 : decide (1 < (k : Int)) = false := by simp; omega
   have q3n : decide (1 < k) = false := by simp; omega
   have q3p : ¬ 1 < k := by omega
   have q3i : ¬ 1 < (k : Int) := by omega
   have HE : Hid (r1 = ⟨m.dev, m.list, 0⟩) := LH (by
    rw [HR1.out, List.drop_of_length_le (by rw [hdRun_len]; omega)]
    exact putAll_none _ (by omega) (by rw [HLB.out]; omega))
   clear hk
   go_wp2_with fail
   go_meet
   case rel => rw [HE.out]; exact ⟨rfl, HA3.out, HT3.out, HR3.out⟩
  ·have q3 : 1 < (k : Int) := by omega
   have q3n : 1 < k := by omega
   have c0 := HA3.out.c0
   go_upto_region 8 with fail
   have r0 := fun x => later_cell c0 x
   clear c0
   have hw1 : IntKind.i64.wrap ((a : Int) + 1) = (a : Int) + 1 := IntWalk.i64_in _ (by omega)
   refine wp_region_seg (C := fun w' => ∃ x : Later (w3), w' = x.val) [.fl [0, 1, 2, 3, 4, 5, 6, 7], .sq [8, 9] false] (by kernel_rfl) (by kernel_rfl) (by intro c a d v w h; cases d <;> exact h) ?_
   simp only [segs, picks, List.getElem?_cons_succ, List.getElem?_cons_zero]
   have hC1 := later_drew w3
   refine wpSeg_fl hC1 ?_
   repeat (first | (refine wpQuiet_slice_from elHd (ad := some ⟨g, 0, none⟩) (n := k) (cap := cc) 1 rfl (by omega) hcc rfl rfl rfl rfl ?_) | go_big_quiet_step (fail) | quiet_step (fail))
   refine wpQuiet_nil ?_
   have HCs : Hid (Cells w3.drew (if cc = 1 then some ⟨g, 0, none⟩ else (some (⟨g, 0, none⟩ : Addr)).map (·.add (1 * 3))) (hdCs ((hdRun k k).drop 1))) := LH (by
    have h1 := (Cells.below HR3.out.cells (later_below hC1) (Nat.le_refl _)).shift (1 * 3) (cc = 1) (fun h => by omega)
    have h2 : (hdCs (hdRun k k)).drop (1 * 3) = hdCs ((hdRun k k).drop 1) := by
     have e : hdRun k k = (hdRun k k).take 1 ++ (hdRun k k).drop 1 := (List.take_append_drop _ _).symm
     have hl : (hdCs ((hdRun k k).take 1)).length = 1 * 3 := by rw [hdCs_length, List.length_take, hdRun_len, Nat.min_eq_left (by omega)]
     conv => lhs; rw [e]
     rw [hdCs_append, ← hl, List.drop_left]
    rw [h2] at h1
    exact h1)
   have HAd : Hid (∀ b o s, (if cc = 1 then some (⟨g, 0, none⟩ : Addr) else (some (⟨g, 0, none⟩ : Addr)).map (·.add (1 * 3))) = some ⟨b, o, s⟩ → b = g) := LH (by
    intro b o s h
    split at h
    ·cases h; rfl
    ·simp only [Option.map_some, add_none] at h; cases h; rfl)
   generalize (if cc = 1 then some (⟨g, 0, none⟩ : Addr) else (some (⟨g, 0, none⟩ : Addr)).map (·.add (1 * 3))) = ad at *
   refine wpSeg_last ?_
   go_wp2_with fail
   refine (mput_any (HA3.out.below (later_below hC1)) hB (by omega) ho ad (k - 1) (cc - 1) ((hdRun k k).drop 1) (by rw [List.length_drop, hdRun_len]) HCs.out (fun _ b o s e => by rw [HAd.out b o s e]; exact HGn.out) (by omega) ((a : Int) + 1)).mono ?_
   rintro e w4 ⟨rfl, ha4, ht4⟩
   dsimp only at ha4 ⊢
   rw [← HR1.out] at ha4 ⊢
   have HA4 := LH ha4
   have HT4 := LH ((HT3.out.later (later_below hC1)).trans ht4)
   have HR4 := LH ((HR3.out.keep ((later_below hC1).block g HR3.out.lt)).keep (ht4.block g (Nat.lt_of_lt_of_le HR3.out.lt (later_below hC1).size) HGn.out))
   clear ha4 ht4 hC1 HCs HAd r0
   obtain ⟨e1, he1⟩ : ∃ e1, e1 = r1.err := ⟨_, rfl⟩
   rw [← he1]
   by_cases hz : e1 = 0
   ·subst hz
    have HE1 := LH he1
    clear he1
    go_wp2_with fail
    go_meet
    case rel => exact ⟨HE1.out.symm, HA4.out, HT4.out, HR4.out⟩
   ·have hz' : (e1 != 0) = true := by simpa using hz
    have HE : Hid (r = ⟨⟨r1.dev, r1.list, f2⟩, 0, e1⟩) := LH (by rw [HV3.out, if_pos (by rw [← he1]; exact hz), ← he1])
    clear he1 hz
    go_wp2_with fail
    rw [← HP.out, HE.out]
    exact ⟨rfl, HA4.out, HT4.out⟩
 case rest =>
  obtain ⟨he1, ha4, ht4, hr4⟩ := hcut
  have HV4 : Hid (r = ⟨⟨(putAll r1.dev r1.list (a : Int) [⟨2, 0, (k : Int)⟩]).dev, (putAll r1.dev r1.list (a : Int) [⟨2, 0, (k : Int)⟩]).list, f2⟩, if (putAll r1.dev r1.list (a : Int) [⟨2, 0, (k : Int)⟩]).err = 0 then (a : Int) else 0, (putAll r1.dev r1.list (a : Int) [⟨2, 0, (k : Int)⟩]).err⟩) := LH (by rw [HV3.out, if_neg (by rw [he1]; simp)])
  have HA4 := LH ha4
  have HT4 := LH ht4
  have hg0 : (hdRun k k).getD 0 default = ⟨2, 0, (k : Int)⟩ := by rw [hdRun_getD k k 0 hk1, if_pos rfl]
  have hg := hdCs_at (hdRun k k) 0 (by rw [hdRun_len]; omega)
  rw [hg0] at hg
  have d0 : wc.cell? ⟨g, 0, none⟩ = some (.int .i64 2) := hr4.cell (hg 0 _ rfl)
  have d1 : wc.cell? ⟨g, 1, none⟩ = some (.int .i64 0) := hr4.cell (hg 1 _ rfl)
  have d2 : wc.cell? ⟨g, 2, none⟩ = some (.int .i64 (k : Int)) := hr4.cell (hg 2 _ rfl)
  have c0 := HA4.out.c0
  clear he1 ha4 ht4 hr4 hg0 hg HV3 HA3 HT3 HR3
  go_upto_region 11 with fail
  have r0 := fun x => later_cell d0 x
  have r1' := fun x => later_cell d1 x
  have r2 := fun x => later_cell d2 x
  have r3 := fun x => later_cell c0 x
  clear d0 d1 d2 c0
  have hk0 : 0 < (k : Int) := by omega
  refine wp_region_seg (C := fun w' => ∃ x : Later (wc), w' = x.val) [.fl [0, 1, 2, 3, 4, 5, 6, 7], .sq [8] true, .sq [9, 10] false] (by kernel_rfl) (by kernel_rfl) (by intro c a d v w h; cases d <;> exact h) ?_
  simp only [segs, picks, List.getElem?_cons_succ, List.getElem?_cons_zero]
  have hC1 := later_drew (wc)
  refine wpSeg_fl hC1 ?_
  repeat (first | go_big_quiet_step (fail) | quiet_step (fail))
  refine wpQuiet_nil ?_
  clear r0 r1' r2 r3
  refine wpSeg_sq (fun K hK => ?_)
  go_wp2_with fail
  have hbn := below_alloc wc.drew (.cells #[.int .i64 2, .int .i64 0, .int .i64 (k : Int)] 103)
  have hC2 := later_step hC1 hbn
  have HC2 : Hid (Cells (wc.drew.alloc (.cells #[.int .i64 2, .int .i64 0, .int .i64 (k : Int)] 103)) (some ⟨wc.drew.heap.size, 0, none⟩) (hdCs [⟨2, 0, (k : Int)⟩])) := LH (by
   rw [hdCs_single]
   exact (RowAt.cells ⟨_, heap_alloc_new _ _, [], rfl⟩))
  clear hbn
  go_wp2_with fail
  refine hK _ _ (fun _ => hC2) ?_
  clear hK K
  refine wpSeg_last ?_
  go_wp2_with fail
  refine (mput_any (HA4.out.below (later_below hC2)) hB (N := N + k + 200000) (by omega) HOk1.out _ 1 1 [⟨2, 0, (k : Int)⟩] rfl HC2.out (fun _ b o s e hm => ?_) (by omega) (a : Int)).mono ?_
  ·cases e
   exact HA4.out.lt (by simp) hm
  rintro e w5 ⟨rfl, ha5, ht5⟩
  dsimp only at ha5 ⊢
  generalize putAll r1.dev r1.list (a : Int) [⟨2, 0, (k : Int)⟩] = pr at *
  have HA5 := LH ha5
  have HT5 := LH ((HT4.out.later (later_below hC2)).trans ht5)
  clear ha5 ht5 hC1 hC2
  by_cases hz : pr.err = 0
  ·have HE : Hid (r = ⟨⟨pr.dev, pr.list, f2⟩, (a : Int), 0⟩) := LH (by rw [HV4.out, if_pos hz, hz])
   rw [hz]
   go_wp2_with fail
   rw [← HP.out, HE.out]
   exact ⟨rfl, HA5.out, HT5.out⟩
  ·have HE : Hid (r = ⟨⟨pr.dev, pr.list, f2⟩, 0, pr.err⟩) := LH (by rw [HV4.out, if_neg hz])
   have hz' : (pr.err != 0) = true := by simpa using hz
   generalize pr.err = pe at *
   clear hz
   go_wp2_with fail
   rw [← HP.out, HE.out]
   exact ⟨rfl, HA5.out, HT5.out⟩
end Go.Proofs.YtpopbfagliagnaaGreat
namespace Go.Proofs.YtpopbfagliagnaaGreat
open Go.RowKit Go.Maps
section
variable {P : Program} {C : World → Prop} {ops : Array Oper} {rest : List Oper} {o : Oper} {a : Act} {Q : Act → Prop}
theorem wpQuiet_slice_to {x hi : Operand} {t e : TypeId} {z : Value} {size bytes : Nat} (E : Elem P t e z size bytes) {ad : Option Addr} {n cap : Nat} {k : IntKind} {H : Int} (h : Nat)
  (hH : H = (h : Int)) (hh : h ≤ n) (hn : n ≤ cap)
  (hgd : o.guard = none) (ho : o.op = .slice t x none (some hi) none) (hx : a.eval x = .slice ad n cap) (hhi : a.eval hi = .int k H)
  (hK : wpQuiet P ops C Q rest (a.put o.dst (.slice ad h cap))) :
  wpQuiet P ops C Q (o :: rest) a := by
 subst hH
 have hw : Region.wanted o (yielded ops a.tmps) = true := by simp [Region.wanted, hgd]
 unfold wpQuiet
 rw [if_pos hw]
 refine ⟨_, fun w hC => ?_, hK⟩
 have hr := run_slice_any (w := w) E ad n cap 0 h none (some (.int k h)) (by
  have : (0 : Int) ≤ (h : Int) ∧ (h : Int) ≤ (cap : Int) := by omega
  simp [Instr.sliceBounds, Instr.sliceBound, asIntOf, Nat.le_trans hh hn])
 unfold Oper.quietAt
 simp only [execOp, ho, hx, hhi, Option.map_some, Option.map_none]
 have e : (if cap = 0 then ad else ad.map (·.add (0 * size))) = ad := by
  split
  ·rfl
  ·cases ad <;> simp [Addr.add]
 simp only [e, Nat.sub_zero] at hr
 simp [hr, Result.andThen, Oper.quietUpon]
end
theorem OwnI.cells2 {w : World} {v : Value} {xs : List Nat} (h : OwnI w v xs) : ∃ a c, v = .slice a xs.length c ∧ Cells w a (xs.map vi) ∧ xs.length ≤ c ∧ c ≤ maxLen ∧ (a = none → c = 0) := by
 obtain ⟨a, c, e, h1, h2, h3⟩ := h.cells
 refine ⟨a, c, e, h1, h2, h3, fun ha => ?_⟩
 subst ha
 rcases h with h | ⟨p, h, _⟩
 ·rcases h.2 with ⟨h, _⟩ | ⟨g, cap, cur, h, _⟩
  ·rw [h] at e
   exact (congrArg (fun v => match v with | .slice _ _ c => c | _ => 0) e).symm
  ·rw [h] at e; cases e
 ·rw [h] at e; cases e
theorem step_c {w wd w1 : World} {f mb n n' : Nat} {R : List Nat} {V : Nat → Value} {S : FL} {m k : Nat} {v : Value} {o : Option Value} {xs : List Nat} (hi : FreeIn w f mb n V S) (hm : m < 4) (hk : k < 32)
  (h1 : f ∈ R) (h2 : mb ∈ R) (h3 : ∀ b ∈ R, b < w.heap.size) {M : Lit → Option Value} (hM : ∀ m k : Nat, m < 4 → k < 32 → (M (pairKey m k)).getD (.slice none 0 0) = V (slotI m k))
  (hd : Below w.heap.size w wd) (hw : VMap Tryz.prog 336 w1 mb n' (putL M (pairKey m k) o)) (ho : o.getD (.slice none 0 0) = v) (hg : wd.grownBy w1 (some mb)) (hv : OwnI wd v xs) (hrow : ∀ b, rowOf v = some b → rowOf (V (slotI m k)) = some b ∨ w.heap.size ≤ b) :
  Step1 w w1 f mb n' V S (S.setC m k xs) (slotI m k) v xs := by
 have hfl := h3 f h1
 have hsl : slotI m k < 160 := by unfold slotI; omega
 have hb : ∀ b, b < w.heap.size → b ≠ mb → w1.heap[b]? = w.heap[b]? := fun b hb hn => (hg.block b (Nat.lt_of_lt_of_le hb hd.size) (fun e => hn (by simpa using e))).trans (hd.block b hb)
 have hne : ∀ b, rowOf v = some b → b ≠ mb := fun b hr e => by
  subst e
  rcases hrow b hr with c | c
  ·exact (hi.neF _ hsl).2 c
  ·have := h3 b h2; omega
 refine ⟨?_, ⟨_, hw, fun m' k' hm' hk' => ?_⟩, hv.keep (fun b hb' => hg.block b (hv.lt b hb') (fun e => hne b hb' (by simpa using e))), hrow, fun b hbl h5 h6 h7 => hb b hbl h6, Nat.le_trans hd.size hg.size, fun j hj => ?_⟩
 ·rw [hb f hfl hi.ne, hi.head]
  have : (List.range 32).map (fun j => if j = slotI m k then v else V j) = (List.range 32).map V := List.map_congr_left (fun j hj => by
   have := List.mem_range.1 hj
   rw [if_neg (by unfold slotI; omega)])
  rw [this]
 ·by_cases e : m' = m ∧ k' = k
  ·obtain ⟨rfl, rfl⟩ := e
   rw [putL_same, if_pos rfl, ho]
  ·rw [putL_other _ (fun c => e (by
    have := key_inj (wf_small m' (by omega)) (wf_small k' (by omega)) (wf_small m (by omega)) (wf_small k (by omega)) c
    omega)), hM m' k' hm' hk', if_neg (by unfold slotI; omega)]
 ·unfold FL.at
  simp only [FL.setC_g, FL.setC_c]
  by_cases e : j < 32
  ·rw [if_pos e, if_pos e, if_neg (by unfold slotI; omega)]
  ·rw [if_neg e, if_neg e]
   by_cases e2 : (j - 32) / 32 = m ∧ (j - 32) % 32 = k
   ·rw [if_pos e2, if_pos (by unfold slotI; omega)]
   ·rw [if_neg e2, if_neg (by unfold slotI; omega)]
theorem FL.setC_same (S : FL) (m k : Nat) : S.setC m k (S.c m k) = S := by
 refine FL.ext' (fun j => rfl) (fun i j => ?_)
 rw [FL.setC_c]
 split
 ·rename_i e; obtain ⟨rfl, rfl⟩ := e; rfl
 ·rfl
theorem FL.taken_none {S : FL} {m k : Nat} (h : S.cell m k = none) : S.taken m k = S := by
 unfold FL.taken
 rw [FL.fill_none h, (FL.cell_none h).2]
 have := S.setC_same m k
 rw [(FL.cell_none h).2] at this
 exact this
def TookI (w : World) (f mb n : Nat) (R : List Nat) (S : FL) (m k : Nat) : Ending → World → Prop := fun e w' =>
 e = .returned (.tuple #[.int .i64 ((S.cell m k).getD 0 : Nat), .int .i64 (if (S.cell m k).isSome then 0 else 4)]) ∧ FreeGo w w' f mb n R (S.taken m k)
theorem fright_any (m k : Nat) (hm : m < 4) (hk : k < 32) (w : World) : Calls Tryz.prog 250 #[.int .i64 (m : Int), .int .i64 (k : Int)] w (Same1 (.bool true) w) := by
 go_enter Tryz.func250, Tryz.ntmps250
 go_wp2_with fail
 refine (cright_any _ _).mono ?_
 rintro e w1 ⟨rfl, rfl⟩
 rw [decide_eq_true (show (0 : Int) ≤ (k : Int) ∧ (k : Int) < 32 by omega)]
 go_wp2_with fail
 go_ret
 exact ⟨rfl, rfl⟩
theorem FreeIn.below {w w' : World} {f mb n : Nat} {R : List Nat} {V : Nat → Value} {S : FL} (hi : FreeIn w f mb n V S)
  (h1 : f ∈ R) (h2 : mb ∈ R) (h3 : ∀ b ∈ R, b < w.heap.size) (h4 : ∀ j, j < 160 → ∀ b, rowOf (V j) = some b → b ∈ R) (hb : Below w.heap.size w w') : FreeIn w' f mb n V S := by
 have hk : ∀ k ∈ R, w'.heap[k]? = w.heap[k]? := fun k hk => hb.block k (h3 k hk)
 obtain ⟨M, hm, hv⟩ := hi.map
 exact ⟨(hk f h1).trans hi.head, ⟨M, hm.block (hk mb h2), hv⟩, fun i hi' => (hi.rows i hi').keep fun b hb => hk b (h4 i hi' b hb), hi.apart, hi.neF, hi.ne⟩
theorem index_int (b off l c i : Nat) (h : i < l) (W : World) : (Instr.indexAt 47 (.slice (some ⟨b, off, none⟩) l c) (.int .i64 (i : Int))).run Tryz.prog W = .ok (.pointer (some ⟨b, off + i, none⟩)) W := by
 have h2 : (sizeOf (Tryz.prog.elem 47)).run Tryz.prog W = .ok 1 W := by
  have e : Tryz.prog.elem 47 = 3 := by kernel_rfl
  rw [e]; exact Tryz.sizeOf3 W
 rw [run_indexAt_slice _ _ _ _ _ _ _ (by kernel_rfl), if_pos (by omega), h2]
 simp [Result.andThen, add_none]
theorem FreeGo.own {w w0 w' : World} {f mb n q : Nat} {R : List Nat} {S : FL} (h : FreeGo w0 w' f mb n R S) (_hq : q = w.heap.size) (hb : Below w.heap.size w w0) : FreeGo w w' f mb n R S := by
 obtain ⟨R', h1, h2, h3⟩ := h
 exact ⟨R', h1, (Touch.ofBelow hb).trans h2, fun b hb' => (h3 b hb').imp id (fun c => Nat.le_trans hb.size c)⟩
set_option maxHeartbeats 4000000 in
set_option maxRecDepth 20000 in
theorem ftake_any {w : World} {f mb n : Nat} {R : List Nat} {S : FL} (h : FreeAt w f mb n R S) (hL : S.upto 1000000) (hn : n < 1000000000000) (m k : Nat) (hm4 : m < 4) (hk : k < 32) :
  Calls Tryz.prog 291 #[vfree f, .int .i64 (m : Int), .int .i64 (k : Int)] w (TookI w f mb (n + 2) R S m k) := by
 have HMem := LH (Mem.one w #[.int .i64 (m : Int), .int .i64 (k : Int)] 336)
 have HF0 := LH (h.below HMem.out.below)
 have HRlt := LH h.mem
 have HUp := LH hL
 have HPost : Hid (∀ w', (TookI w f mb (n + 2) R S m k (.returned (.tuple #[.int .i64 ((S.cell m k).getD 0 : Nat), .int .i64 (if (S.cell m k).isSome then 0 else 4)])) w' ↔ FreeGo w w' f mb (n + 2) R (S.taken m k))) := LH (fun w' => ⟨fun h => h.2, fun h => ⟨rfl, h⟩⟩)
 generalize TookI w f mb (n + 2) R S m k = Post at *
 clear h hL
 go_enter Tryz.func291, Tryz.ntmps291
 go_wp2_with fail
 refine (fright_any m k hm4 hk _).mono ?_
 rintro e w1 ⟨rfl, rfl⟩
 go_upto_region 4 with fail
 have HW0 := LH (below_alloc w (Obj.cells #[.int .i64 (m : Int), .int .i64 (k : Int)] 336))
 generalize hw0 : w.alloc _ = w0 at *
 obtain ⟨q, hq⟩ : ∃ q, q = w.heap.size := ⟨_, rfl⟩
 rw [← hq] at HMem HRlt ⊢
 have HQ := LH hq
 clear hq hw0
 have d0 := HMem.out.cell 0 0 rfl rfl
 have d1 := HMem.out.cell 0 1 rfl rfl
 have HQl := LH (HMem.out.glt 0 rfl)
 obtain ⟨V, hi, h1, h2, h3, h4⟩ := HF0.out
 have HI := LH hi
 have HR1 := LH h1
 have HR2 := LH h2
 have HR3 := LH h3
 have HR4 := LH h4
 have c32 := hi.m
 clear hi h1 h2 h3 h4
 have r0 := fun x => later_cell d0 x
 have r1 := fun x => later_cell d1 x
 have r2 := fun x => later_cell c32 x
 obtain ⟨ac, cc, ec, hcc, hcl, _, hcn⟩ := (HI.out.rows (slotI m k) (by unfold slotI; omega)).cells2
 rw [S.at_c m hk] at ec hcc hcl
 have HCc := LH hcc
 have HEc := LH ec
 clear hcc d0 d1 c32 ec
 obtain ⟨lc, hlc⟩ : ∃ lc, lc = (S.c m k).length := ⟨_, rfl⟩
 rw [← hlc] at HEc hcl
 have HLc := LH hlc
 clear hlc
 have hkey := key_slot (m : Int) (k : Int) (wf_small m (by omega)) (wf_small k (by omega))
 refine wp_region_seg (C := fun w' => ∃ x : Later (w0), w' = x.val) [.fl [0, 1, 2, 3, 4], .sq [5, 6, 7] false] (by kernel_rfl) (by kernel_rfl) (by intro c a d v w h; cases d <;> exact h) ?_
 simp only [segs, picks, List.getElem?_cons_succ, List.getElem?_cons_zero]
 have hC1 := later_drew (w0)
 refine wpSeg_fl hC1 ?_
 repeat (first | go_big_quiet_step (fail) | quiet_step (fail))
 refine wpQuiet_nil ?_
 have HD1 : Hid (Below w0.heap.size w0 w0.drew) := LH (later_below hC1)
 generalize w0.drew = wd at *
 have HId := LH (HI.out.below HR1.out HR2.out HR3.out HR4.out HD1.out)
 obtain ⟨M, hm, hv⟩ := HId.out.map
 have HM := LH hm
 have HVi := LH ((hv m k hm4 hk).trans HEc.out)
 clear hm hv
 refine wpSeg_last ?_
 go_upto_if 26 with (refine wpList_vlook rfl _ _ 332 rfl 336 47 keyed_slot Tryz.underlying332 _ (zero_ints _) mb n M rfl HM.out _ _ rfl hkey ?_; rw [HVi.out])
 go_cut [9, 10] from 27 (fun _ _ wc => Hid (FreeGo w0 wc f mb (n + 1) R (S.fill m k)))
 case first =>
  by_cases hz : lc = 0
  case neg =>
   have hz' : ((lc : Int) == 0) = false := by simpa using hz
   have HGo : Hid (FreeGo w0 wd f mb (n + 1) R (S.fill m k)) := LH (by
    have : S.fill m k = S := by unfold FL.fill; rw [if_neg]; intro e; have := HLc.out; rw [e] at this; exact hz (by simpa using this)
    rw [this]
    exact ((FreeGo.refl HF0.out).later HD1.out).mono (by omega))
   clear hz
   go_wp2_with fail
   go_meet
   case rel => exact HGo
  case pos =>
  subst hz
  have HC0 : Hid (S.c m k = []) := LH (List.length_eq_zero_iff.1 HLc.out.symm)
  obtain ⟨ag, cg, eg, hcg, hgl, _, hgn⟩ := (HId.out.rows k (by omega)).cells2
  rw [S.at_g hk] at eg hcg hgl
  have HOg : Hid (OwnI wd (V k) (S.g k)) := LH (by have := HId.out.rows k (by omega); rwa [S.at_g hk] at this)
  have HEg := LH eg
  have HCg := LH hcg
  have ck := HId.out.g hk
  rw [eg] at ck
  have HLg : Hid ((S.g k).length ≤ 1000000) := LH (by have := HUp.out k (by omega); rwa [S.at_g hk] at this)
  obtain ⟨lg, hlg⟩ : ∃ lg, lg = (S.g k).length := ⟨_, rfl⟩
  rw [← hlg] at ck HLg hgl HEg
  have HLge := LH hlg
  have hlgm := HLg.out
  clear hcg eg hlg
  obtain ⟨mn, hmn⟩ : ∃ mn, mn = min lg 4 := ⟨_, rfl⟩
  have hmn1 : min (lg : Int) 4 = (mn : Int) := by omega
  have hmn2 : (if (4 : Int) < (lg : Int) then 4 else (lg : Int)) = (mn : Int) := by split <;> omega
  have hmn3 : mn ≤ lg := by omega
  have HMn := LH hmn
  clear hmn
  obtain ⟨fr, hfr⟩ : ∃ fr : Nat, fr = lg - mn := ⟨_, rfl⟩
  have hfr1 : (lg : Int) - (mn : Int) = (fr : Int) := by omega
  have hfr2 : fr ≤ lg := by omega
  have HFr := LH hfr
  clear hfr
  go_upto_region 7 with fail
  have HMd := LH (HMem.out.later HD1.out)
  have d0 := HMd.out.cell 0 0 rfl rfl
  have d1 := HMd.out.cell 0 1 rfl rfl
  have c32 := HId.out.m
  have r0 := fun x => later_cell d0 x
  have r1 := fun x => later_cell d1 x
  have r2 := fun x => later_cell c32 x
  have r3 := fun x => later_cell ck x
  clear d0 d1 c32
  refine wp_region_seg (C := fun w' => ∃ x : Later (wd), w' = x.val) [.fl [0, 1, 2, 3, 4, 5, 6, 7, 8, 9, 10, 11, 12], .sq [13] true, .sq [14] false] (by kernel_rfl) (by kernel_rfl) (by intro c a d v w h; cases d <;> exact h) ?_
  simp only [segs, picks, List.getElem?_cons_succ, List.getElem?_cons_zero]
  have hC2 := later_drew (wd)
  refine wpSeg_fl hC2 ?_
  repeat (first | (refine wpQuiet_slice_from el_int (ad := ag) (n := lg) (cap := cg) fr rfl hfr2 hgl rfl rfl rfl rfl ?_) | go_big_quiet_step (fail) | quiet_step (fail))
  refine wpQuiet_nil ?_
  clear r0 r1 r2 r3
  obtain ⟨sa, hsa⟩ : ∃ sa, sa = (if cg = fr then ag else ag.map (·.add (fr * 1))) := ⟨_, rfl⟩
  rw [← hsa]
  obtain ⟨sl, hsl⟩ : ∃ sl, sl = lg - fr := ⟨_, rfl⟩
  rw [← hsl]
  obtain ⟨sc, hsc⟩ : ∃ sc, sc = cg - fr := ⟨_, rfl⟩
  rw [← hsc]
  have HD2 : Hid (Below wd.heap.size wd wd.drew) := LH (later_below hC2)
  have HCl : Hid (Calls Tryz.prog 221 #[.slice sa sl sc] wd.drew (NewI wd.drew ((S.g k).drop fr))) := LH (by
   refine cloneI_any _ _ _ _ (by rw [List.length_drop, ← HLge.out, hsl]) ?_ (by rw [List.length_drop, ← HLge.out]; omega) (fun h => ?_)
   ·rw [List.map_drop, hsa, Nat.mul_one]
    exact (HCg.out.below HD2.out (Nat.le_refl _)).shift fr _ (fun e => by rw [List.length_map, ← HLge.out]; omega)
   ·by_cases e : cg = fr
    ·omega
    ·rw [hsa, if_neg e] at h
     cases ag with
     | none => have := hgn rfl; omega
     | some d => cases h)
  generalize wd.drew = we at *
  clear hsa hsl hsc
  refine wpSeg_sq (fun K hK => ?_)
  go_wp2_with fail
  refine HCl.out.mono ?_
  rintro e w3 ⟨v3, rfl, ho3, hr3, hb3⟩
  have HO3 := LH ho3
  have HR3' := LH hr3
  have HB3 : Hid (Below wd.heap.size wd w3) := LH (HD2.out.trans (hb3.mono HD2.out.size))
  have HWe := LH HD2.out.size
  have hC3 := later_step hC2 hb3
  clear ho3 hr3 hb3
  go_wp2_with fail
  refine hK _ _ (fun _ => hC3) ?_
  clear hK K
  have HI3 := LH (HI.out.below HR1.out HR2.out HR3.out HR4.out (HD1.out.trans (HB3.out.mono HD1.out.size)))
  obtain ⟨M3, hm3, hv3⟩ := HI3.out.map
  have HM3 := LH hm3
  have HV3 := LH hv3
  have HNm : Hid (n < maxLen) := LH (by unfold maxLen; omega)
  clear hm3 hv3
  refine wpSeg_last ?_
  go_wp2_with (refine wpList_vstore rfl _ _ _ 332 rfl 336 47 keyed_slot Tryz.underlying332 mb n M3 rfl HM3.out HNm.out _ _ _ rfl rfl hkey ?_; intro w4 hm4' hg4; have HM4 := LH hm4'; have HG4 := LH hg4; clear hm4' hg4)
  have HFV0 : Hid (FreeV w0 f mb n V R S) := LH ⟨HI.out, HR1.out, HR2.out, HR3.out, HR4.out⟩
  have HB03 : Hid (Below w0.heap.size w0 w3) := LH (HD1.out.trans (HB3.out.mono HD1.out.size))
  have hr03 : ∀ b, rowOf v3 = some b → rowOf (V (slotI m k)) = some b ∨ w0.heap.size ≤ b := fun b hb => .inr (Nat.le_trans (Nat.le_trans HD1.out.size HWe.out) (HR3'.out b hb))
  have hst1 := step_c (o := some v3) HI.out hm4 hk HR1.out HR2.out HR3.out HV3.out HB03.out HM4.out rfl HG4.out HO3.out hr03
  have hos1 : w4.os = w0.os ∧ w4.tape = w0.tape ∧ w4.output = w0.output := ⟨HG4.out.os.trans HB03.out.os, HG4.out.tape.trans HB03.out.tape, HG4.out.output.trans HB03.out.output⟩
  have hsl : slotI m k < 160 := by unfold slotI; omega
  have HFV4 := LH (HFV0.out.step hsl hst1)
  have HT4 := LH (hst1.touch HFV0.out hsl hos1)
  have HVk : Hid ((if k = slotI m k then v3 else V k) = .slice ag lg cg) := LH (by rw [if_neg (by unfold slotI; omega)]; exact HEg.out)
  have HOk : Hid (OwnI w4 (.slice ag lg cg) (S.g k)) := LH (by
   have := HFV4.out.inn.rows k (by omega)
   rw [FL.at_g _ hk] at this
   rw [← HVk.out]; exact this)
  have ck4 : w4.cell? ⟨f, k, none⟩ = some (.slice ag lg cg) := (HFV4.out.inn.g hk).trans (congrArg some HVk.out)
  clear hst1 hos1 hr03 hC3 hC2 ck
  go_upto_region 8 with fail
  have r0 := fun x => later_cell ck4 x
  clear ck4
  refine wp_region_seg (C := fun w' => ∃ x : Later (w4), w' = x.val) [.fl [0, 1, 2, 3, 4, 5, 6, 7, 8, 9, 10, 11], .sq [12, 13] false] (by kernel_rfl) (by kernel_rfl) (by intro c a d v w h; cases d <;> exact h) ?_
  simp only [segs, picks, List.getElem?_cons_succ, List.getElem?_cons_zero]
  have hC5 := later_drew (w4)
  refine wpSeg_fl hC5 ?_
  repeat (first | (refine wpQuiet_slice_to el_int (ad := ag) (n := lg) (cap := cg) fr rfl hfr2 hgl rfl rfl rfl rfl ?_) | go_big_quiet_step (fail) | quiet_step (fail))
  refine wpQuiet_nil ?_
  clear r0
  have HD5 : Hid (Below w4.heap.size w4 w4.drew) := LH (later_below hC5)
  have HF5 : Hid (w4.drew.heap[f]? = w4.heap[f]?) := LH (HD5.out.block f (HFV4.out.lt f HFV4.out.f))
  have hst2 := step_g HFV4.out.inn hk HFV4.out.f HFV4.out.mb HFV4.out.lt HD5.out (grown_self _ _) ((HOk.out.keep (fun b hb => HD5.out.block b (HOk.out.lt b hb))).cutN HLge.out hfr2) (fun b hb => .inl (by
   rw [rowOf_cut ag fr lg cg] at hb
   exact (congrArg rowOf HVk.out).trans hb))
  have HGo : Hid (FreeGo w0 (w4.drew.setCell ⟨f, k, none⟩ (.slice ag fr cg)) f mb (n + 1) R (S.fill m k)) := LH (by
   have e : S.fill m k = (S.setC m k ((S.g k).drop fr)).setG k ((S.g k).take fr) := by
    unfold FL.fill
    rw [if_pos HC0.out, ← HLge.out, ← HMn.out, ← HFr.out]
    rfl
   rw [e]
   exact FreeGo.more HT4.out.1 HT4.out.2 HFV4.out (by omega) hst2 ⟨HD5.out.os, HD5.out.tape, HD5.out.output⟩)
  have fr5 : w4.drew.frozen? ⟨f, k, none⟩ = false := frozen_of_row _ _ _ _ _ (HF5.out.trans HFV4.out.inn.head)
  have ck5 : w4.drew.cell? ⟨f, k, none⟩ = some (.slice ag lg cg) := (cell_of_row _ _ k _ _ _ (HF5.out.trans HFV4.out.inn.head)).trans ((HFV4.out.inn.lt hk).trans (congrArg some HVk.out))
  clear hst2
  refine wpSeg_last ?_
  go_wp2_with fail
  go_meet
  case rel => exact HGo
 case rest =>
  have HGo := hcut
  have HRow0 := LH (HMem.out.at 0 rfl)
  clear hcut HMem HEc HCc HLc hcl hcn
  obtain ⟨T, hT⟩ : ∃ T, T = S.fill m k := ⟨_, rfl⟩
  have HCell : Hid (S.cell m k = (T.c m k).getLast? ∧ S.taken m k = T.setC m k (T.c m k).dropLast) := LH (by subst hT; exact ⟨rfl, rfl⟩)
  rw [← hT] at HGo
  have HTu : Hid ((T.c m k).length ≤ 1000000) := LH (by
   rw [hT]
   unfold FL.fill
   have h1 := HUp.out k (by omega)
   have h2 := HUp.out (slotI m k) (by unfold slotI; omega)
   rw [S.at_g hk] at h1
   rw [S.at_c m hk] at h2
   split
   ·rw [FL.setC_c, if_pos ⟨rfl, rfl⟩, List.length_drop]; omega
   ·exact h2)
  clear hT
  obtain ⟨R1, hfa, ht1, hr1⟩ := HGo.out
  obtain ⟨V1, hfv⟩ := hfa.v
  have HFV := LH hfv
  have HT1 := LH ht1
  have HR1' := LH hr1
  have HRow : Hid (RowAt wc q 336 [.int .i64 (m : Int), .int .i64 (k : Int)]) := LH (HRow0.out.keep (ht1.block q HQl.out (fun hm => Nat.lt_irrefl _ (HRlt.out q hm))))
  clear hfa hfv ht1 hr1 HGo
  have d0 := HRow.out.cell (i := 0) rfl
  have d1 := HRow.out.cell (i := 1) rfl
  have c32 := HFV.out.inn.m
  have r0 := fun x => later_cell d0 x
  have r1 := fun x => later_cell d1 x
  have r2 := fun x => later_cell c32 x
  obtain ⟨ao, co, eo, hco, hol, _, _⟩ := (HFV.out.inn.rows (slotI m k) (by unfold slotI; omega)).cells2
  rw [T.at_c m hk] at eo hco hol
  have HCo := LH hco
  have HEo := LH eo
  clear hco d0 d1 c32 eo
  obtain ⟨lo, hlo⟩ : ∃ lo, lo = (T.c m k).length := ⟨_, rfl⟩
  rw [← hlo] at HEo hol HTu
  have HLo := LH hlo
  have hlom := HTu.out
  clear hlo
  go_upto_region 9 with fail
  refine wp_region_seg (C := fun w' => ∃ x : Later (wc), w' = x.val) [.fl [0, 1, 2, 3, 4], .sq [5, 6] false] (by kernel_rfl) (by kernel_rfl) (by intro c a d v w h; cases d <;> exact h) ?_
  simp only [segs, picks, List.getElem?_cons_succ, List.getElem?_cons_zero]
  have hC1 := later_drew (wc)
  refine wpSeg_fl hC1 ?_
  repeat (first | go_big_quiet_step (fail) | quiet_step (fail))
  refine wpQuiet_nil ?_
  have HD6 : Hid (Below wc.heap.size wc wc.drew) := LH (later_below hC1)
  generalize wc.drew = wd at *
  have HFd := LH (HFV.out.below HD6.out)
  obtain ⟨M, hm, hv⟩ := HFd.out.inn.map
  have HM := LH hm
  have HV := LH hv
  have HVi := LH ((hv m k hm4 hk).trans HEo.out)
  clear hm hv
  by_cases hz : lo = 0
  ·subst hz
   have HE : Hid (S.cell m k = none ∧ S.taken m k = T) := LH (by
    have h0 : T.c m k = [] := List.length_eq_zero_iff.1 HLo.out.symm
    refine ⟨by rw [HCell.out.1, h0]; rfl, ?_⟩
    rw [HCell.out.2]
    have := T.setC_same m k
    rw [h0] at this ⊢
    exact this)
   clear hol hlom
   refine wpSeg_last ?_
   go_wp2_with (refine wpList_vlook rfl _ _ 332 rfl 336 47 keyed_slot Tryz.underlying332 _ (zero_ints _) mb (n + 1) M rfl HM.out _ _ rfl hkey ?_; rw [HVi.out])
   have hp := (HPost.out wd).2 (by
    rw [HE.out.2]
    refine FreeGo.own ?_ HQ.out HW0.out
    exact ⟨R1, (HFd.out.at).mono (by omega), HT1.out.later HD6.out, HR1'.out⟩)
   rw [HE.out.1] at hp
   exact hp
  obtain ⟨lm, hlm⟩ : ∃ lm, lo = lm + 1 := ⟨lo - 1, by omega⟩
  have hz1 : (lo : Int) - 1 = (lm : Int) := by omega
  have hz2 : ((lo : Int) == 0) = false := by simp; omega
  have hlm1 : lm ≤ lo := by omega
  have hlt1 : lm < lo := by omega
  have HLm := LH hlm
  clear hlm
  clear hz
  obtain ⟨x, hx⟩ : ∃ x, (T.c m k)[lm]? = some x := ⟨_, List.getElem?_eq_getElem (by have := HLo.out; omega)⟩
  have HX := LH hx
  clear hx
  refine wpSeg_last ?_
  go_wp2_with (refine wpList_vlook rfl _ _ 332 rfl 336 47 keyed_slot Tryz.underlying332 _ (zero_ints _) mb (n + 1) M rfl HM.out _ _ rfl hkey ?_; rw [HVi.out])
  go_upto_region 12 with fail
  clear r0 r1 r2
  have HRowd := LH (HRow.out.keep (HD6.out.block q HRow.out.lt))
  have d0 := HRowd.out.cell (i := 0) rfl
  have d1 := HRowd.out.cell (i := 1) rfl
  have c32 := HFd.out.inn.m
  have r0 := fun x => later_cell d0 x
  have r1 := fun x => later_cell d1 x
  have r2 := fun x => later_cell c32 x
  clear d0 d1 c32
  refine wp_region_seg (C := fun w' => ∃ x : Later (wd), w' = x.val) [.fl [0, 1, 2, 3, 4, 5, 6, 7, 8, 9], .sq [10] false] (by kernel_rfl) (by kernel_rfl) (by intro c a d v w h; cases d <;> exact h) ?_
  simp only [segs, picks, List.getElem?_cons_succ, List.getElem?_cons_zero]
  have hC7 := later_drew (wd)
  refine wpSeg_fl hC7 ?_
  repeat (first | (refine wpQuiet_slice_to el_int (ad := ao) (n := lo) (cap := co) lm hz1 hlm1 hol rfl rfl rfl rfl ?_) | go_big_quiet_step (fail) | quiet_step (fail))
  refine wpQuiet_nil ?_
  clear r0 r1 r2
  have HD7 : Hid (Below wd.heap.size wd wd.drew) := LH (later_below hC7)
  generalize wd.drew = we at *
  have HFe := LH (HFd.out.below HD7.out)
  obtain ⟨M2, hm2, hv2⟩ := HFe.out.inn.map
  have HM2 := LH hm2
  have HV2 := LH hv2
  have HNm : Hid (n + 1 < maxLen) := LH (by unfold maxLen; omega)
  clear hm2 hv2
  refine wpSeg_last ?_
  go_wp2_with (refine wpList_vstore rfl _ _ _ 332 rfl 336 47 keyed_slot Tryz.underlying332 mb (n + 1) M2 rfl HM2.out HNm.out _ _ _ rfl rfl hkey ?_; intro w8 hm8 hg8; have HM8 := LH hm8; have HG8 := LH hg8; clear hm8 hg8)
  have hsl : slotI m k < 160 := by unfold slotI; omega
  have HOe : Hid (OwnI we (.slice ao lo co) (T.c m k)) := LH (by
   have := HFe.out.inn.rows (slotI m k) hsl
   rw [T.at_c m hk, HEo.out] at this
   exact this)
  have HO8 : Hid (OwnI w8 (.slice ao lo co) (T.c m k)) := LH (HOe.out.keep (fun b hb => HG8.out.block b (HOe.out.lt b hb) (fun e => by
   have h1 := (HFe.out.inn.neF (slotI m k) hsl).2
   rw [HEo.out] at h1
   exact h1 (by rw [hb]; exact e))))
  have hcx : ∃ b off, ao = some ⟨b, off, none⟩ ∧ w8.cell? ⟨b, off + lm, none⟩ = some (.int .i64 (x : Int)) := by
   obtain ⟨a', c', e', hc', _⟩ := HO8.out.cells
   injection e' with e1 e2 e3
   subst e1
   rcases hc' with h | ⟨b, off, e, h⟩
   ·exfalso
    have := congrArg List.length h
    rw [List.length_map, ← HLo.out] at this
    simp at this; omega
   ·exact ⟨b, off, e, h lm _ (by rw [List.getElem?_map, HX.out]; rfl)⟩
  obtain ⟨b, off, rfl, hcx⟩ := hcx
  have hst := step_c (o := some (.slice (some ⟨b, off, none⟩) lm co)) HFe.out.inn hm4 hk HFe.out.f HFe.out.mb HFe.out.lt HV2.out (Below.refl _ _) HM8.out rfl HG8.out (HOe.out.cutN HLo.out hlm1) (fun b' hb => .inl (by
   rw [HEo.out]
   exact (rowOf_cut _ _ _ _).trans hb))
  have hgo := FreeGo.more (((HT1.out.later HD6.out).later HD7.out)) HR1'.out HFe.out hsl hst ⟨HG8.out.os, HG8.out.tape, HG8.out.output⟩
  have HFin : Hid (S.cell m k = some x ∧ FreeGo w w8 f mb (n + 2) R (S.taken m k)) := LH (by
   refine ⟨by rw [HCell.out.1, List.getLast?_eq_getElem?, ← HLo.out, HLm.out]; exact HX.out, ?_⟩
   rw [HCell.out.2, show (T.c m k).dropLast = (T.c m k).take lm by rw [List.dropLast_eq_take, ← HLo.out, HLm.out]; rfl]
   exact hgo.own HQ.out HW0.out)
  clear hst hgo
  have hix := index_int b off lo co lm hlt1
  go_wp2_with fail
  rw [hix]
  go_wp2_with fail
  have hp := (HPost.out w8).2 HFin.out.2
  rw [HFin.out.1] at hp
  exact hp
def FL.drainTo (S : FL) (m i : Nat) : FL := ⟨fun k => if k < i then S.g k ++ S.c m k else S.g k, fun j k => if j = m ∧ k < i then [] else S.c j k⟩
theorem FL.drainTo_zero (S : FL) (m : Nat) : S.drainTo m 0 = S := FL.ext' (fun k => by unfold FL.drainTo; simp) (fun j k => by unfold FL.drainTo; simp)
theorem FL.drainTo_succ (S : FL) (m i : Nat) : S.drainTo m (i + 1) = ((S.drainTo m i).setG i ((S.drainTo m i).g i ++ (S.drainTo m i).c m i)).setC m i [] := by
 refine FL.ext' (fun k => ?_) (fun j k => ?_)
 ·rw [FL.setC_g, FL.setG_g]
  unfold FL.drainTo
  dsimp only
  by_cases e : k = i
  ·subst e; simp
  ·rw [if_neg e]
   by_cases h : k < i
   ·rw [if_pos h, if_pos (by omega)]
   ·rw [if_neg h, if_neg (by omega)]
 ·rw [FL.setC_c]
  unfold FL.drainTo
  dsimp only
  by_cases e : j = m ∧ k = i
  ·rw [if_pos e, if_pos (by omega)]
  ·rw [if_neg e, FL.setG_c]
   dsimp only
   by_cases h : j = m ∧ k < i
   ·rw [if_pos h, if_pos (by omega)]
   ·rw [if_neg h, if_neg (by omega)]
theorem FL.drainTo_lens {S : FL} {N : Nat} (h : S.upto N) {m i : Nat} (hm : m < 4) (hi : i < 32) : ((S.drainTo m i).g i).length ≤ N ∧ ((S.drainTo m i).c m i).length ≤ N := by
 have h1 := h i (by omega)
 have h2 := h (slotI m i) (by unfold slotI; omega)
 rw [S.at_g hi] at h1
 rw [S.at_c m hi] at h2
 unfold FL.drainTo
 simp
 exact ⟨h1, h2⟩
set_option maxHeartbeats 4000000 in
set_option maxRecDepth 20000 in
theorem fdrain_any {w : World} {f mb n : Nat} {R : List Nat} {S : FL} (h : FreeAt w f mb n R S) (hL : S.upto 1000000) (hn : n < 1000000000000) (m : Nat) (hm4 : m < 4) :
  Calls Tryz.prog 337 #[vfree f, .int .i64 (m : Int)] w fun e w' => e = .returned (.tuple #[]) ∧ FreeGo w w' f mb n R (S.drain m) := by
 have HF := LH h
 have HUp := LH hL
 clear h hL
 go_enter Tryz.func337, Tryz.ntmps337
 go_wp2_with fail
 go_loopw [6] (fun iv wr => ∃ i : Nat, i ≤ 32 ∧ iv = .int .i64 (i : Int) ∧ Hid (FreeGo w wr f mb n R (S.drainTo m i))) (fun iv _ => 32 - (intOf iv).toNat)
 case atStart => exact ⟨0, by omega, rfl, LH (by rw [FL.drainTo_zero]; exact FreeGo.refl HF.out)⟩
 case round =>
  obtain ⟨i, hi32, rfl, HGo⟩ := hrel
  by_cases hlt : i < 32
  case neg =>
   obtain rfl : i = 32 := by omega
   go_wp2_with fail
   go_end0
   exact ⟨rfl, HGo.out⟩
  obtain ⟨R1, hfa, ht1, hr1⟩ := HGo.out
  obtain ⟨V, hfv⟩ := hfa.v
  have HT1 := LH ht1
  have HR1 := LH hr1
  have HMem := LH (Mem.one wr #[.int .i64 (m : Int), .int .i64 (i : Int)] 336)
  have HFV := LH (hfv.below HMem.out.below)
  have HFVr := LH hfv.lt
  have HW0 := LH HMem.out.below
  have HStep : Hid (S.drainTo m (i + 1) = ((S.drainTo m i).setG i ((S.drainTo m i).g i ++ (S.drainTo m i).c m i)).setC m i []) := LH (FL.drainTo_succ S m i)
  have HLens := LH (FL.drainTo_lens HUp.out hm4 hlt)
  generalize S.drainTo m i = T at *
  clear hfa ht1 hr1
  go_upto_region 4 with fail
  obtain ⟨q, hq⟩ : ∃ q, q = wr.heap.size := ⟨_, rfl⟩
  have hqf : q ∉ (rowOf (V i)).toList := fun hm => by
   have h1 := hfv.lt q (hfv.rows i (by omega) q (by simpa using hm))
   rw [hq] at h1
   exact Nat.lt_irrefl _ h1
  clear hfv
  rw [← hq] at HMem ⊢
  have HQ := LH hq
  clear hq
  generalize wr.alloc _ = w0 at *
  have hfn : f ∉ (rowOf (V i)).toList := fun hm => (HFV.out.inn.neF i (by omega)).1 (by simpa using hm)
  have d0 := HMem.out.cell 0 0 rfl rfl
  have d1 := HMem.out.cell 0 1 rfl rfl
  obtain ⟨ac, cc, ec, hcc, hcl, _, hcn⟩ := (HFV.out.inn.rows (slotI m i) (by unfold slotI; omega)).cells2
  rw [T.at_c m hlt] at ec hcc hcl
  have HEc := LH ec
  have HCc := LH hcc
  have hkey := key_slot (m : Int) (i : Int) (wf_small m (by omega)) (wf_small i (by omega))
  have r0 := fun x => near_cell (L := (rowOf (V i)).toList) d0 hqf x
  have r1 := fun x => near_cell (L := (rowOf (V i)).toList) d1 hqf x
  have r2 := fun x => near_cell (L := (rowOf (V i)).toList) HFV.out.inn.m hfn x
  have r3 := fun x => near_cell (L := (rowOf (V i)).toList) (HFV.out.inn.g hlt) hfn x
  have HTn : Hid (Touch (rowOf (V i)).toList w0 w0.drew) := LH (Touch.ofBelow (later_below (later_drew w0)))
  have HD1 : Hid (Below w0.heap.size w0 w0.drew) := LH (later_below (later_drew w0))
  have hC1 := near_of HTn.out
  clear hcc ec hqf hfn d0 d1
  obtain ⟨lc, hlc⟩ : ∃ lc, lc = (T.c m i).length := ⟨_, rfl⟩
  rw [← hlc] at HEc hcl
  have HLc := LH hlc
  clear hlc
  refine wp_region_seg (C := fun w' => ∃ x : Near (rowOf (V i)).toList w0, w' = x.val) [.fl [0, 1, 2, 3, 4, 5, 6, 7, 8, 9, 10, 11, 12, 15, 16], .sq [13] true, .sq [14] true, .sq [17, 18] false] (by kernel_rfl) (by kernel_rfl) (by intro c a d v w h; cases d <;> exact h) ?_
  simp only [segs, picks, List.getElem?_cons_succ, List.getElem?_cons_zero]
  refine wpSeg_fl hC1 ?_
  repeat (first | go_big_quiet_step (fail) | quiet_step (fail))
  refine wpQuiet_nil ?_
  clear r0 r1 r2 r3
  generalize w0.drew = wd at *
  have HFd := LH (HFV.out.below HD1.out)
  obtain ⟨M, hm, hv⟩ := HFd.out.inn.map
  have HM := LH hm
  have HVi := LH ((hv m i hm4 hlt).trans HEc.out)
  clear hm hv
  refine wpSeg_sq (fun K hK => ?_)
  go_wp2_with (refine wpList_vlook rfl _ _ 332 rfl 336 47 keyed_slot Tryz.underlying332 _ (zero_ints _) mb n M rfl HM.out _ _ rfl hkey ?_; rw [HVi.out])
  go_wp2_with fail
  refine hK _ _ (fun _ => hC1) ?_
  clear hK K
  have HOd : Hid (OwnI wd (V i) (T.g i)) := LH (by
   have := HFd.out.inn.rows i (by omega)
   rwa [T.at_g hlt] at this)
  have HCd : Hid (Cells wd ac ((T.c m i).map vi)) := LH (HCc.out.below HD1.out (Nat.le_refl _))
  have HN1 : Hid ((T.g i).length + lc ≤ 1000000000000) := LH (by have := HLens.out; have := HLc.out; omega)
  refine wpSeg_sq (fun K hK => ?_)
  go_wp2_with (refine wpList_append_ownI (m := lc) HOd.out HCd.out HLc.out.symm HN1.out rfl rfl rfl rfl ?_; intro v' w1 ho hg hr; have HO1 := LH ho; have HG1 := LH hg; have HR := LH hr; clear ho hg hr)
  have HTn1 : Hid (Touch (rowOf (V i)).toList w0 w1) := LH (HTn.out.trans (grown_touchO HG1.out))
  have hC3 := near_of HTn1.out
  go_wp2_with fail
  refine hK _ _ (fun _ => hC3) ?_
  clear hK K
  have hst := step_g HFV.out.inn hlt HFV.out.f HFV.out.mb HFV.out.lt HD1.out HG1.out HO1.out (fun b hb => by
   rcases HR.out b hb with c | c
   ·exact .inl c
   ·exact .inr (by rw [c]; exact HD1.out.size))
  have hos : (w1.setCell ⟨f, i, none⟩ v').os = w0.os ∧ (w1.setCell ⟨f, i, none⟩ v').tape = w0.tape ∧ (w1.setCell ⟨f, i, none⟩ v').output = w0.output := ⟨HG1.out.os.trans HD1.out.os, HG1.out.tape.trans HD1.out.tape, HG1.out.output.trans HD1.out.output⟩
  have HFV2 := LH (HFV.out.step (by omega) hst)
  have HT2 := LH (hst.touch HFV.out (by omega) hos)
  have HF1 : Hid (w1.heap[f]? = some (.cells ((List.range 32).map V ++ [Value.map (some mb)]).toArray 334 (0, 0))) := LH (by
   have := (HG1.out.block f (Nat.lt_of_lt_of_le (HFV.out.lt f HFV.out.f) HD1.out.size) (fun e => (HFV.out.inn.neF i (by omega)).1 e.symm)).trans (HD1.out.block f (HFV.out.lt f HFV.out.f))
   exact this.trans HFV.out.inn.head)
  have fr : w1.frozen? ⟨f, i, none⟩ = false := frozen_of_row _ _ _ _ _ HF1.out
  have ck1 : w1.cell? ⟨f, i, none⟩ = some (V i) := (cell_of_row _ _ i _ _ _ HF1.out).trans (HFV.out.inn.lt hlt)
  have HRow2 : Hid (RowAt (w1.setCell ⟨f, i, none⟩ v') q 336 [.int .i64 (m : Int), .int .i64 (i : Int)]) := LH ((HMem.out.at 0 rfl).keep (HT2.out.1.block q (HMem.out.glt 0 rfl) (fun hm => by
   have h1 := HFVr.out q hm
   rw [HQ.out] at h1
   exact Nat.lt_irrefl _ h1)))
  obtain ⟨a', c', e', _⟩ := HO1.out.cells
  obtain ⟨l', hl'⟩ : ∃ l', l' = (T.g i ++ T.c m i).length := ⟨_, rfl⟩
  rw [← hl'] at e'
  subst e'
  clear hst hl' hos
  refine wpSeg_last ?_
  go_wp2_with fail
  generalize w1.setCell _ _ = w2 at *
  have hsl : slotI m i < 160 := by unfold slotI; omega
  go_upto_region 5 with fail
  have d0 := HRow2.out.cell (i := 0) rfl
  have d1 := HRow2.out.cell (i := 1) rfl
  have c32 := HFV2.out.inn.m
  have r0 := fun x => later_cell d0 x
  have r1 := fun x => later_cell d1 x
  have r2 := fun x => later_cell c32 x
  clear d0 d1 c32 hC1 hC3
  refine wp_region_seg (C := fun w' => ∃ x : Later (w2), w' = x.val) [.fl [0, 1, 2, 3, 4], .sq [5] false] (by kernel_rfl) (by kernel_rfl) (by intro c a d v w h; cases d <;> exact h) ?_
  simp only [segs, picks, List.getElem?_cons_succ, List.getElem?_cons_zero]
  have hC5 := later_drew (w2)
  refine wpSeg_fl hC5 ?_
  repeat (first | go_big_quiet_step (fail) | quiet_step (fail))
  refine wpQuiet_nil ?_
  clear r0 r1 r2
  have HD5 : Hid (Below w2.heap.size w2 w2.drew) := LH (later_below hC5)
  generalize w2.drew = w3 at *
  have HFV3 := LH (HFV2.out.below HD5.out)
  obtain ⟨M3, hm3, hv3⟩ := HFV3.out.inn.map
  have HM3 := LH hm3
  have HV3 := LH hv3
  clear hm3 hv3
  refine wpSeg_last ?_
  go_wp2_with (refine wpList_vdelete rfl _ _ 332 336 rfl 47 keyed_slot Tryz.underlying332 mb n M3 rfl HM3.out _ _ rfl hkey ?_; intro w4 hm4' hg4; have HM4 := LH hm4'; have HG4 := LH hg4; clear hm4' hg4)
  have hst := step_c (o := none) HFV3.out.inn hm4 hlt HFV3.out.f HFV3.out.mb HFV3.out.lt HV3.out (Below.refl _ _) HM4.out rfl HG4.out (OwnI.nil _) (fun b hb => by cases hb)
  have HNext : Hid (FreeGo w w4 f mb n R (S.drainTo m (i + 1))) := LH (by
   have e : S.drainTo m (i + 1) = (T.setG i (T.g i ++ T.c m i)).setC m i [] := HStep.out
   rw [e]
   have h1 := FreeGo.more (HT2.out.1.later HD5.out) HT2.out.2 HFV3.out hsl hst ⟨HG4.out.os, HG4.out.tape, HG4.out.output⟩
   exact FreeGo.trans (HT1.out.later HW0.out) (fun b hb => HR1.out b hb) (h1))
  clear hst
  go_wp2_with fail
  go_roundw
  case rel => exact ⟨i + 1, by omega, vint (by omega), HNext⟩
  case measure => simp [intOf]; omega
end Go.Proofs.YtpopbfagliagnaaGreat
namespace Go.Proofs.YtpopbfagliagnaaGreat
open Go.RowKit
def relN (h : Hd) : Int := if h.k = 1 then 1 else h.l
def Bm.release (m : Bm) (b : Int) : BmR :=
 if (hdGet m.list b).k ≠ 1 ∧ (hdGet m.list b).k ≠ 2 then ⟨m, 0, 42⟩ else
 (fun r1 : PutR => if r1.err ≠ 0 then ⟨⟨r1.dev, r1.list, m.free⟩, 0, r1.err⟩ else
  (fun r2 : PutR => if r2.err ≠ 0 then ⟨⟨r2.dev, r2.list, m.free⟩, 0, r2.err⟩ else ⟨⟨r2.dev, r2.list, (giveR m.free b (relN (hdGet m.list b))).1⟩, 0, (giveR m.free b (relN (hdGet m.list b))).2⟩)
   (putAll r1.dev r1.list (b + 1) (List.replicate (relN (hdGet m.list b) - 1).toNat ⟨0, 0, 0⟩)))
  (putAll m.dev m.list b [⟨0, 0, 0⟩])
def BmDone1 (w : World) (X : MF) (n B : Nat) (r : BmR) : Ending → World → Prop := fun e w' => e = .returned (.int .i64 r.err) ∧ ManAt w' X n B r.bm ∧ Touch X.hot w w'
theorem hdGet_in {l : List Hd} {b : Int} (h : (hdGet l b).k ≠ 0) : 1 ≤ b ∧ b < l.length := by
 unfold hdGet at h
 by_cases c : b < 1 ∨ (l.length : Int) ≤ b
 ·rw [if_pos c] at h; exact absurd rfl h
 ·omega
theorem hdCs_zeros (n : Nat) : hdCs (List.replicate n ⟨0, 0, 0⟩) = List.replicate (n * 3) (.int .i64 0) := by
 induction n with
 | zero => rfl
 | succ n ih =>
  rw [List.replicate_succ, show (⟨0, 0, 0⟩ : Hd) :: List.replicate n ⟨0, 0, 0⟩ = [⟨0, 0, 0⟩] ++ List.replicate n ⟨0, 0, 0⟩ from rfl, hdCs_append, ih, show (n + 1) * 3 = 3 + n * 3 by omega, ← List.replicate_append_replicate]
  rfl
set_option maxHeartbeats 4000000 in
set_option maxRecDepth 20000 in
theorem brelease_any {w : World} {X : MF} {n B : Nat} {m : Bm} (h : ManAt w X n B m) (hB : B ≤ 1000) (hn : n < 1000000000000) {N : Nat} (hN : N ≤ 999000000) (ho : m.dev.ok N) (hi : m.dev.inv) (hl : ∀ i, (m.list.getD i default).l ≤ 100000) (b : Int) :
  Calls Tryz.prog 168 #[.pointer (some ⟨X.m, 0, none⟩), .int .i64 b] w (BmDone1 w X (n + 1) B (m.release b)) := by
 generalize hr : m.release b = r
 generalize hP : BmDone1 w X (n + 1) B r = Post
 have HP := LH hP
 have HA := LH h
 have HLB : Hid (m.list.length = B) := LH h.tab.len
 have HLF : Hid (m.free.length = B) := LH h.lenF
 have HV : Hid (r = if (hdGet m.list b).k ≠ 1 ∧ (hdGet m.list b).k ≠ 2 then ⟨m, 0, 42⟩ else
  (fun r1 : PutR => if r1.err ≠ 0 then ⟨⟨r1.dev, r1.list, m.free⟩, 0, r1.err⟩ else
  (fun r2 : PutR => if r2.err ≠ 0 then ⟨⟨r2.dev, r2.list, m.free⟩, 0, r2.err⟩ else ⟨⟨r2.dev, r2.list, (giveR m.free b (relN (hdGet m.list b))).1⟩, 0, (giveR m.free b (relN (hdGet m.list b))).2⟩)
   (putAll r1.dev r1.list (b + 1) (List.replicate (relN (hdGet m.list b) - 1).toNat ⟨0, 0, 0⟩)))
  (putAll m.dev m.list b [⟨0, 0, 0⟩])) := LH (by rw [← hr]; rfl)
 have HIn := LH (hdGet_in (l := m.list) (b := b))
 have HZ : Hid ((hdGet m.list b).l ≤ 100000) := LH (by
  unfold hdGet
  split
  ·simp
  ·exact hl _)
 have c0 := h.c0
 have HTg := LH (fun W (h : ManAt W X n B m) => tget_any (h.tab.at (fun e => (MF.notHot (MF.apart h.nd).t).1 e)) b (by rw [h.tab.len]; exact hB))
 clear h hP hr
 obtain ⟨k, c, z, he⟩ : ∃ k c z, hdGet m.list b = ⟨k, c, z⟩ := ⟨_, _, _, rfl⟩
 rw [he] at HV HIn HZ HTg
 unfold Hd.val at HTg
 dsimp only at HV HIn HZ HTg
 clear he
 go_enter Tryz.func168, Tryz.ntmps168
 go_wp2_with fail
 refine (HTg.out _ HA.out).mono ?_
 rintro e w1 ⟨rfl, hb1⟩
 have HA1 := LH (HA.out.below hb1)
 have HT1 := LH (Touch.ofBelow (L := X.hot) hb1)
 clear hb1 c0 HTg HA
 have HM := LH (Mem.one w1 #[.int .i64 k, .int .i64 c, .int .i64 z] 103)
 have HA2 := LH (HA1.out.below HM.out.below)
 have HT2 := LH (HT1.out.later HM.out.below)
 clear HA1 HT1
 go_upto_region 2 with fail
 obtain ⟨q, hq⟩ : ∃ q, q = w1.heap.size := ⟨_, rfl⟩
 rw [← hq] at HM ⊢
 generalize w1.alloc _ = w2 at *
 clear hq
 have d0 := HM.out.cell 0 0 rfl rfl
 have d2 := HM.out.cell 0 2 rfl rfl
 by_cases hk : k ≠ 1 ∧ k ≠ 2
 ·have HE : Hid (r = ⟨m, 0, 42⟩) := LH (by rw [HV.out, if_pos hk])
  have q1 : (k == 1) = false := by simpa using hk.1
  have q2 : (k == 2) = false := by simpa using hk.2
  clear hk
  go_wp2_with fail
  rw [← HP.out, HE.out]
  exact ⟨rfl, HA2.out.mono (by omega), HT2.out⟩
 have hb := HIn.out (by omega)
 rw [HLB.out] at hb
 obtain ⟨b, rfl⟩ := Int.eq_ofNat_of_zero_le (show 0 ≤ b by omega)
 obtain ⟨z', hz'⟩ : ∃ z', z' = relN ⟨k, c, z⟩ := ⟨_, rfl⟩
 have hzk : (k = 1 ∧ z' = 1) ∨ (k = 2 ∧ z' = z) := by
  rw [hz']; unfold relN
  by_cases h1 : k = 1
  ·exact .inl ⟨h1, by rw [if_pos h1]⟩
  ·exact .inr ⟨by omega, by rw [if_neg h1]⟩
 rw [← hz'] at HV
 have HV2 : Hid (r = (fun r1 : PutR => if r1.err ≠ 0 then ⟨⟨r1.dev, r1.list, m.free⟩, 0, r1.err⟩ else
  (fun r2 : PutR => if r2.err ≠ 0 then ⟨⟨r2.dev, r2.list, m.free⟩, 0, r2.err⟩ else ⟨⟨r2.dev, r2.list, (giveR m.free (b : Int) z').1⟩, 0, (giveR m.free (b : Int) z').2⟩)
   (putAll r1.dev r1.list ((b : Int) + 1) (List.replicate (z' - 1).toNat ⟨0, 0, 0⟩)))
  (putAll m.dev m.list (b : Int) [⟨0, 0, 0⟩])) := LH (by rw [HV.out, if_neg hk])
 have hzz := HZ.out
 have hzm : z' ≤ 100000 := by rcases hzk with ⟨_, h⟩ | ⟨_, h⟩ <;> omega
 have hb1 : 1 ≤ b := by omega
 have hb2 : b < B := by omega
 clear HV HIn hb hk hz'
 go_upto_block 0 with fail
 go_cut [6] from 9 (fun v wc => v = .int .i64 z' ∧ wc = w2)
 case first =>
  rcases hzk with ⟨rfl, rfl⟩ | ⟨rfl, rfl⟩
  ·go_wp2_with fail
   go_meet
   case rel => exact ⟨rfl, rfl⟩
  ·go_wp2_with fail
   go_meet
   case rel => exact ⟨rfl, rfl⟩
 case rest =>
  obtain ⟨rfl, rfl⟩ := hcut
  clear d0 d2 hzk
  have c0 := HA2.out.c0
  have hbn := below_alloc wc (.cells #[.int .i64 0, .int .i64 0, .int .i64 0] 103)
  have HC2 : Hid (Cells (wc.alloc (.cells #[.int .i64 0, .int .i64 0, .int .i64 0] 103)) (some ⟨wc.heap.size, 0, none⟩) (hdCs [⟨0, 0, 0⟩])) := LH (by
   rw [hdCs_single]
   exact (RowAt.cells ⟨_, heap_alloc_new _ _, [], rfl⟩))
  have HPut := LH (mput_any (HA2.out.below hbn) hB (by omega) ho (some ⟨wc.heap.size, 0, none⟩) 1 1 [⟨0, 0, 0⟩] rfl HC2.out (fun _ b o s e hm => by
   cases e
   exact HA2.out.lt (Nat.le_refl _) hm) (by omega) (b : Int))
  have HTa := LH (HT2.out.later hbn)
  clear hbn HC2
  go_wp2_with fail
  refine HPut.out.mono ?_
  rintro e w3 ⟨rfl, ha3, ht3⟩
  dsimp only at ha3 ⊢
  obtain ⟨r1, hr1⟩ : ∃ r1, r1 = putAll m.dev m.list (b : Int) [⟨0, 0, 0⟩] := ⟨_, rfl⟩
  rw [← hr1] at HV2 ha3 ⊢
  have HLen1 : Hid (r1.list.length = B) := LH (by rw [hr1, putAll_len]; exact HLB.out)
  have HOk1 : Hid (r1.dev.ok (N + 1 + 200000)) := LH (by have := putAll_ok hi ho m.list (b : Int) [⟨0, 0, 0⟩]; rw [← hr1] at this; exact this)
  have HV3 : Hid (r = if r1.err ≠ 0 then ⟨⟨r1.dev, r1.list, m.free⟩, 0, r1.err⟩ else
   (fun r2 : PutR => if r2.err ≠ 0 then ⟨⟨r2.dev, r2.list, m.free⟩, 0, r2.err⟩ else ⟨⟨r2.dev, r2.list, (giveR m.free (b : Int) z').1⟩, 0, (giveR m.free (b : Int) z').2⟩)
    (putAll r1.dev r1.list ((b : Int) + 1) (List.replicate (z' - 1).toNat ⟨0, 0, 0⟩))) := LH HV2.out
  have HA3 := LH ha3
  have HT3 := LH (HTa.out.trans ht3)
  clear ha3 ht3 HV2 HPut HTa HT2 HA2 c0 hr1
  obtain ⟨e1, he1⟩ : ∃ e1, e1 = r1.err := ⟨_, rfl⟩
  rw [← he1] at HV3 ⊢
  clear he1
  by_cases hz : e1 = 0
  case neg =>
   have hz' : (e1 != 0) = true := by simpa using hz
   have HE : Hid (r = ⟨⟨r1.dev, r1.list, m.free⟩, 0, e1⟩) := LH (by rw [HV3.out, if_pos hz])
   clear hz
   go_wp2_with fail
   rw [← HP.out, HE.out]
   exact ⟨rfl, HA3.out.mono (by omega), HT3.out⟩
  subst hz
  obtain ⟨r2, hr2⟩ : ∃ r2, r2 = putAll r1.dev r1.list ((b : Int) + 1) (List.replicate (z' - 1).toNat ⟨0, 0, 0⟩) := ⟨_, rfl⟩
  have HV4 : Hid (r = if r2.err ≠ 0 then ⟨⟨r2.dev, r2.list, m.free⟩, 0, r2.err⟩ else ⟨⟨r2.dev, r2.list, (giveR m.free (b : Int) z').1⟩, 0, (giveR m.free (b : Int) z').2⟩) := LH (by rw [HV3.out, if_neg (by simp), ← hr2])
  have HR2 := LH hr2
  clear HV3 hr2
  go_upto_if 35 with fail
  go_cut [] from 9 (fun wd => r2.err = 0 ∧ ManAt wd X n B ⟨r2.dev, r2.list, m.free⟩ ∧ Touch X.hot w wd)
  case first =>
   by_cases hz1 : z' ≤ 1
   ·have HE : Hid (r2 = ⟨r1.dev, r1.list, 0⟩) := LH (by
     rw [HR2.out, show (z' - 1).toNat = 0 by omega]
     exact putAll_none _ (by omega) (by rw [HLen1.out]; omega))
    have q3 : decide (1 < z') = false := by simp; omega
    have q3p : ¬ 1 < z' := by omega
    go_wp2_with fail
    go_meet
    case rel => rw [HE.out]; exact ⟨rfl, HA3.out, HT3.out⟩
   ·obtain ⟨y, hy⟩ : ∃ y : Nat, y = (z' - 1).toNat := ⟨_, rfl⟩
    have hy1 : 1 ≤ y := by omega
    have hy9 : y ≤ 100000 := by omega
    have HY : Hid (z' - 1 = (y : Int)) := LH (by omega)
    rw [← hy] at HR2
    have q3p : 1 < z' := by omega
    clear hy hz1
    have c0 := HA3.out.c0
    go_upto_region 12 with fail
    have r0 := fun x => later_cell c0 x
    clear c0
    have hw1 : IntKind.i64.wrap ((b : Int) + 1) = (b : Int) + 1 := IntWalk.i64_in _ (by omega)
    have hw2 : IntKind.i64.wrap (z' - 1) = (y : Int) := by rw [IntWalk.i64_in _ (by omega)]; exact HY.out
    refine wp_region_seg (C := fun w' => ∃ x : Later (w3), w' = x.val) [.fl [0, 1, 2, 3, 4, 5, 6, 7], .sq [8] true, .sq [9, 10] false] (by kernel_rfl) (by kernel_rfl) (by intro c a d v w h; cases d <;> exact h) ?_
    simp only [segs, picks, List.getElem?_cons_succ, List.getElem?_cons_zero]
    have hC1 := later_drew (w3)
    refine wpSeg_fl hC1 ?_
    repeat (first | go_big_quiet_step (fail) | quiet_step (fail))
    refine wpQuiet_nil ?_
    clear r0
    have HA3d := LH (HA3.out.below (later_below hC1))
    have HT3d := LH (HT3.out.later (later_below hC1))
    generalize w3.drew = w3d at *
    refine wpSeg_sq (fun K hK => ?_)
    go_wp2_with (at_make; refine wpList_make_rows elHd w3d.heap.size y (z := .int .i64 0) (by intro i hi; simp at hi; rcases i with _ | _ | _ | i <;> first | rfl | omega) (by omega) (by omega) (by omega) (by decide) (Nat.le_refl _) rfl rfl rfl rfl ?_; intro w4 hown hgrow; have HO4 := LH hown; have HG4 := LH hgrow; clear hown hgrow)
    have HB4 := LH (below_grown HG4.out (Nat.le_refl _))
    have hC2 := later_step hC1 HB4.out
    go_wp2_with fail
    refine hK _ _ (fun _ => hC2) ?_
    clear hK K
    refine wpSeg_last ?_
    go_wp2_with fail
    refine (mput_any (HA3d.out.below HB4.out) hB (N := N + 1 + 200000) (by omega) HOk1.out _ y y (List.replicate y ⟨0, 0, 0⟩) (by simp) (by rw [hdCs_zeros]; exact Cells.owned2 HO4.out) (fun _ b o s e hm => ?_) (by omega) ((b : Int) + 1)).mono ?_
    ·cases e
     exact HA3d.out.lt (Nat.le_refl _) hm
    rintro e w5 ⟨rfl, ha5, ht5⟩
    dsimp only at ha5 ⊢
    rw [← HR2.out] at ha5 ⊢
    have HA5 := LH ha5
    have HT5 := LH ((HT3d.out.later HB4.out).trans ht5)
    clear ha5 ht5 hC1 hC2
    obtain ⟨e2, he2⟩ : ∃ e2, e2 = r2.err := ⟨_, rfl⟩
    rw [← he2] at HV4 ⊢
    have HE2 := LH he2
    clear he2
    by_cases hz : e2 = 0
    ·subst hz
     go_wp2_with fail
     go_meet
     case rel => exact ⟨HE2.out.symm, HA5.out, HT5.out⟩
    ·have hz' : (e2 != 0) = true := by simpa using hz
     have HE : Hid (r = ⟨⟨r2.dev, r2.list, m.free⟩, 0, e2⟩) := LH (by rw [HV4.out, if_pos hz])
     clear hz
     go_wp2_with fail
     rw [← HP.out, HE.out]
     exact ⟨rfl, HA5.out.mono (by omega), HT5.out⟩
  case rest =>
   obtain ⟨he2, ha5, ht5⟩ := hcut
   have HE : Hid (r = ⟨⟨r2.dev, r2.list, (giveR m.free (b : Int) z').1⟩, 0, (giveR m.free (b : Int) z').2⟩) := LH (by rw [HV4.out, if_neg (by rw [he2]; simp)])
   have HA5 := LH ha5
   have HT5 := LH ht5
   have c1 := HA5.out.c1
   clear he2 ha5 ht5 HV4
   go_wp2_with fail
   refine (mgive_any HA5.out hB hn (b : Int) z').mono ?_
   rintro e w6 ⟨rfl, ha6, ht6⟩
   have HA6 := LH ha6
   have HT6 := LH (HT5.out.trans ht6)
   clear ha6 ht6
   go_wp2_with fail
   rw [← HP.out, HE.out]
   exact ⟨rfl, HA6.out, HT6.out⟩
theorem aggGe : Agg Tryz.prog 44 #[.int .i64 0] := ⟨⟨_, Tryz.underlying44, rfl⟩, by kernel_rfl⟩
set_option maxHeartbeats 1000000 in
theorem bgeom_any {w : World} {X : MF} {n B : Nat} {m : Bm} (h : ManAt w X n B m) :
  Calls Tryz.prog 86 #[.pointer (some ⟨X.m, 0, none⟩)] w fun e w' => e = .returned (vgeom (B : Int)) ∧ Below w.heap.size w w' := by
 have HM := LH (Mem.one w #[.int .i64 0] 44)
 have c2 := (h.below HM.out.below).c2
 clear h
 unfold vgeom
 go_enter Tryz.func86, Tryz.ntmps86
 go_upto_region 1 with fail
 generalize w.alloc _ = w0 at *
 obtain ⟨q, hq⟩ : ∃ q, q = w.heap.size := ⟨_, rfl⟩
 rw [← hq] at HM ⊢
 have HQ := LH hq
 clear hq
 go_wp2_with (refine wpList_store_mem aggGe HM.out 0 rfl rfl rfl rfl rfl rfl rfl rfl ?_; intro w9 h9 _; have H9 := LH h9; clear h9)
 refine bodyPost_ret (results_cell_row rfl _ _ _ _ _ _ _ rfl (H9.out.exact 0 rfl) Tryz.underlying44 rfl (by kernel_rfl)) rfl ⟨rfl, H9.out.below⟩
def Dev.ref (S : Dev) : RDev := ⟨S.cache, S.lasting, S.flushed, S.dirty, S.pending, S.steps, if S.armed = true then S.fuse else -1, S.dead⟩
structure Dev.fit (S : Dev) (N : Nat) : Prop where
 wf : S.wf
 ok : S.ok N
 arm : S.armed = true → 0 ≤ S.fuse
theorem Dev.fit.mono {S : Dev} {N M : Nat} (h : S.fit N) (hM : N ≤ M) : S.fit M := ⟨h.wf, h.ok.mono hM, h.arm⟩
theorem Dev.fit_fuse {S : Dev} {N : Nat} (h : S.fit N) : -1 ≤ S.ref.fuse ∧ S.ref.fuse < 9223372036854775808 := by
 unfold Dev.ref
 dsimp only
 have := h.ok
 unfold Dev.ok at this
 split
 ·rename_i c; have := h.arm c; omega
 ·omega
theorem Dev.step_fit {S : Dev} {N : Nat} (h : S.fit N) : S.step.fit (N + 1) := by
 refine ⟨Dev.step_wf h.wf, Dev.step_ok h.ok, ?_⟩
 unfold Dev.step
 have ha := h.arm
 have hst : S.stop = false → S.armed = true → ¬ S.fuse = 0 := fun h1 h2 => by unfold Dev.stop at h1; simp [h2] at h1; exact h1.2
 cases hs : S.stop
 ·intro c
  have c1 := ha c
  have c2 := hst hs c
  simp at c1 c2 ⊢
  omega
 ·exact ha
def RIn (v : Value) (b : Nat) : Prop := ∃ cs, v = .agg cs ∧ ∃ (i : Nat) (x : Addr) (n c : Nat), cs[i]? = some (.slice (some x) n c) ∧ x.block = b
theorem rin8 {an al aw ad ap : Option Addr} {n1 c1 n2 c2 n3 c3 n4 c4 n5 c5 : Nat} {k1 k2 : IntKind} {i1 i2 : Int} {b1 : Bool} {b : Nat} :
  RIn (.agg #[.slice an n1 c1, .slice al n2 c2, .slice aw n3 c3, .slice ad n4 c4, .slice ap n5 c5, .int k1 i1, .int k2 i2, .bool b1]) b ↔ ∃ a ∈ [an, al, aw, ad, ap], ∃ x, a = some x ∧ x.block = b := by
 constructor
 ·rintro ⟨cs, hcs, i, x, n, c, hi, hb⟩
  simp only [Value.agg.injEq] at hcs
  subst hcs
  rcases i with _ | _ | _ | _ | _ | _ | _ | _ | i
  all_goals first
   | (simp only [List.getElem?_toArray, List.getElem?_cons_zero, List.getElem?_cons_succ, Option.some.injEq, Value.slice.injEq] at hi; exact ⟨_, by simp, x, hi.1, hb⟩)
   | simp at hi
 ·rintro ⟨a, ha, x, rfl, hb⟩
  simp only [List.mem_cons, List.not_mem_nil, or_false] at ha
  rcases ha with rfl | rfl | rfl | rfl | rfl
  ·exact ⟨_, rfl, 0, x, _, _, rfl, hb⟩
  ·exact ⟨_, rfl, 1, x, _, _, rfl, hb⟩
  ·exact ⟨_, rfl, 2, x, _, _, rfl, hb⟩
  ·exact ⟨_, rfl, 3, x, _, _, rfl, hb⟩
  ·exact ⟨_, rfl, 4, x, _, _, rfl, hb⟩
theorem RAt.touch {w w' : World} {v : Value} {m : Nat} {R : RDev} (h : RAt w v m R) {L : List Nat} (ht : Touch L w w') (hL : m = 0 ∨ ∀ b, RIn v b → b ∉ L) : RAt w' v m R := by
 obtain ⟨an, cn, al, cl, aw, cw, ad, cd, ap, cp, rfl, h1, h2, h3, h4, h5⟩ := h.ex
 have key : ∀ (a : Option Addr) (vs : List Value), a ∈ [an, al, aw, ad, ap] → (m = 0 → vs = []) → Cells w a vs → Cells w' a vs := by
  intro a vs ha h0 hc
  rcases hc with hc | ⟨b, off, rfl, hc⟩
  ·exact .inl hc
  ·rcases hL with hm | hL
   ·exact .inl (h0 hm)
   ·exact .inr ⟨b, off, rfl, fun i v hi => cell_of_touch ht (hL b (rin8.2 ⟨_, ha, _, rfl, rfl⟩)) (hc i v hi)⟩
 have z : ∀ l : List Nat, l.length = 8 * m → m = 0 → l.map vu64 = [] := fun l hl hm => by subst hm; simp at hl; simp [hl]
 have z2 : ∀ l : List Bool, l.length = m → m = 0 → l.map Value.bool = [] := fun l hl hm => by subst hm; simp at hl; simp [hl]
 exact { h with ex := ⟨an, cn, al, cl, aw, cw, ad, cd, ap, cp, rfl, key _ _ (by simp) (z _ h.lenN) h1, key _ _ (by simp) (z _ h.lenL) h2, key _ _ (by simp) (z _ h.lenW) h3, key _ _ (by simp) (z2 _ h.lenD) h4, key _ _ (by simp) (z2 _ h.lenP) h5⟩ }
structure ROpen (w : World) (S : Dev) (an al aw ad ap : Option Addr) (m : Nat) (sv fz : Int) (dd : Bool) : Prop where
 k1 : Cells w an (S.cache.map vu64)
 k2 : Cells w al (S.lasting.map vu64)
 k3 : Cells w aw (S.flushed.map vu64)
 k4 : Cells w ad (S.dirty.map Value.bool)
 k5 : Cells w ap (S.pending.map Value.bool)
 hm : m = S.dirty.length
 hs : sv = S.steps
 hf : fz = S.ref.fuse
 hd : dd = S.dead
 cl : S.cache.length = 8 * m
theorem ropen {w : World} {v : Value} {S : Dev} (h : RAt w v S.dirty.length S.ref) {N : Nat} (hf : S.fit N) :
  ∃ an cn al cl aw cw ad cd ap cp m sv fz dd, v = .agg #[.slice an m cn, .slice al m cl, .slice aw m cw, .slice ad m cd, .slice ap m cp, .int .i64 sv, .int .i64 fz, .bool dd] ∧ ROpen w S an al aw ad ap m sv fz dd ∧ S.dirty.length = m ∧ m ≤ 125000 ∧ (0 ≤ sv ∧ sv ≤ N) ∧ (-1 ≤ fz ∧ fz < 9223372036854775808) := by
 obtain ⟨an, cn, al, cl, aw, cw, ad, cd, ap, cp, rfl, k1, k2, k3, k4, k5⟩ := h.ex
 have h1 := hf.ok
 unfold Dev.ok at h1
 have h2 := hf.wf.small
 have h3 := hf.wf.lenD
 exact ⟨an, cn, al, cl, aw, cw, ad, cd, ap, cp, _, _, _, _, rfl, ⟨k1, k2, k3, k4, k5, rfl, rfl, rfl, rfl, h3⟩, rfl, by omega, ⟨h1.1, h1.2.1⟩, Dev.fit_fuse hf⟩
theorem Dev.hold_wf {S : Dev} (h : S.wf) (j : Nat) (hj : j < S.dirty.length) : (S.hold j).wf := by
 have hs := seg_length S.cache j (by have := h.lenD; omega)
 unfold Dev.hold
 split
 ·exact ⟨h.lenL, by show (splice _ _ _).length = _; rw [length_splice _ _ _ (by rw [hs, h.lenF, h.lenD]; omega)]; exact h.lenF, by simp [h.lenP], h.lenD, h.small, h.u64L, h.u64C, splice_lt _ h.u64F (seg_lt _ h.u64C)⟩
 ·exact h
theorem Dev.flush_fit {S : Dev} {N : Nat} (h : S.fit N) (j : Int) : (S.flush j).fit (N + 1) := by
 have h1 := Dev.step_fit h
 unfold Dev.flush
 split
 ·exact h.mono (by omega)
 ·split
  ·exact h1
  ·rename_i c _
   have e4 := S.step_rest.2.2.2.1
   refine ⟨Dev.hold_wf h1.wf _ (by rw [e4]; omega), ?_, ?_⟩
   ·have := Dev.hold_same S.step j.toNat
    unfold Dev.ok
    rw [this.1, this.2]
    exact h1.ok
   ·unfold Dev.hold
    split <;> exact h1.arm
theorem Dev.flush_dl (S : Dev) (j : Int) : (S.flush j).dirty.length = S.dirty.length := by rw [(Dev.flush_len S j).2]
theorem run_eqItems_ints {P : Program} {e : TypeId} {k : IntKind} (he : P.underlying e = some (.int k)) (d : Nat) (w : World) (xs ys : List Int) :
  ∀ is : List Nat, (∀ i ∈ is, i < xs.length ∧ i < ys.length) → ∃ b, (Op.eqItems (d + 1) e 1 (xs.map (Value.int k)).toArray (ys.map (Value.int k)).toArray is).run P w = .ok b w ∧ (b = true ↔ ∀ i ∈ is, xs[i]? = ys[i]?)
 | [], _ => ⟨true, by simp [Op.eqItems], by simp⟩
 | i :: is, h => by
  obtain ⟨h1, h2⟩ := h i (by simp)
  obtain ⟨b, hb, hiff⟩ := run_eqItems_ints he d w xs ys is (fun j hj => h j (by simp [hj]))
  have hagg : (isAgg e).run P w = .ok false w := by unfold isAgg; rw [Sem.run_bind, run_underlying he w]; simp
  have hp : ∀ (zs : List Int) (hz : i < zs.length), (part e (zs.map (Value.int k)).toArray (i * 1)).run P w = .ok (.int k zs[i]) w := fun zs hz => by
   simp [part, hagg, hz]
  simp only [Op.eqItems, Sem.run_bind, hp xs h1, hp ys h2, Result.andThen_ok]
  rw [run_equalIn_int w d e k k _ _ he]
  simp only [Result.andThen_ok]
  by_cases hab : xs[i] = ys[i]
  ·have : (xs[i] == ys[i]) = true := by simpa using hab
   simp only [this, Bool.not_true, Bool.false_eq_true, if_false]
   refine ⟨b, hb, ?_⟩
   rw [hiff]
   simp [h1, h2, hab]
  ·have : (xs[i] == ys[i]) = false := by simpa using hab
   simp only [this, Bool.not_false, if_true, Sem.run_pure]
   refine ⟨false, rfl, ?_⟩
   simp [h1, h2, hab]
theorem flushRun_fit {S : Dev} {N : Nat} (h : S.fit N) (a : Nat) : ∀ k, (S.flushRun a k).dev.fit (N + k)
 | 0 => h
 | k + 1 => by
  rw [Dev.flushRun]
  split
  ·exact (flushRun_fit h a k).mono (by omega)
  ·exact Dev.flush_fit (flushRun_fit h a k) _
theorem flushRun_dl (S : Dev) (a : Nat) : ∀ k, (S.flushRun a k).dev.dirty.length = S.dirty.length
 | 0 => rfl
 | k + 1 => by
  rw [Dev.flushRun]
  split
  ·exact flushRun_dl S a k
  ·dsimp only; rw [Dev.flush_dl]; exact flushRun_dl S a k
set_option maxHeartbeats 1000000 in
theorem dlasting_any {w : World} {F : Foot} {S : Dev} (h : DevAt w F S) (i : Int) :
  Calls Tryz.prog 109 #[vdev F, .int .i64 i] w fun e w' => e = .returned (vu64 (peek S.lasting i)) ∧ w = w' := by
 have c1 : w.cell? ⟨F.d, 0, none⟩ = some (.slice (some ⟨F.l, 0, none⟩) S.cache.length F.cl) := cell_of_row _ _ 0 _ _ _ h.head
 have hll := h.lenL
 have HR := LH h.lasting
 by_cases h0 : i < 0
 ·have HP : Hid (peek S.lasting i = 0) := LH (by unfold peek; rw [if_neg (by omega)])
  clear h hll
  go_enter Tryz.func109, Tryz.ntmps109
  go_wp2_with fail
  go_ret
  exact ⟨ret_int (by rw [HP.out]; rfl), rfl⟩
 obtain ⟨j, rfl⟩ := Int.eq_ofNat_of_zero_le (show 0 ≤ i by omega)
 by_cases h1 : j < S.cache.length
 ·have h1' : decide ((S.cache.length : Int) ≤ (j : Int)) = false := by simp; omega
  have h1n : decide (S.cache.length ≤ j) = false := by simp; omega
  have HP : Hid (peek S.lasting (j : Int) = S.lasting.getD j 0) := LH (by unfold peek; rw [if_pos (by omega)]; rfl)
  have d0 : w.cell? ⟨F.l, j, none⟩ = some (vu64 (S.lasting.getD j 0)) := HR.out.cell (by simp [show j < S.lasting.length by omega])
  clear h hll
  generalize S.lasting.getD j 0 = y at *
  go_enter Tryz.func109, Tryz.ntmps109
  go_wp2_with fail
  go_ret
  exact ⟨by rw [HP.out]; rfl, rfl⟩
 ·have h1' : (S.cache.length : Int) ≤ (j : Int) := by omega
  have h1n : S.cache.length ≤ j := by omega
  have HP : Hid (peek S.lasting (j : Int) = 0) := LH (by unfold peek; rw [if_pos (by omega)]; show S.lasting.getD j 0 = 0; exact getD_zero_of (by omega))
  clear h hll
  go_enter Tryz.func109, Tryz.ntmps109
  go_wp2_with fail
  go_ret
  exact ⟨ret_int (by rw [HP.out]; rfl), rfl⟩
end Go.Proofs.YtpopbfagliagnaaGreat
namespace Go.Proofs.YtpopbfagliagnaaGreat
theorem nat_ext {a b : List Nat} (hl : a.length = b.length) (h : ∀ i, a.getD i 0 = b.getD i 0) : a = b := by
 apply List.ext_getElem hl
 intro i h1 h2
 have := h i
 simpa [h1, h2] using this
theorem bool_ext {a b : List Bool} (hl : a.length = b.length) (h : ∀ i, a.getD i false = b.getD i false) : a = b := by
 apply List.ext_getElem hl
 intro i h1 h2
 have := h i
 simpa [h1, h2] using this
end Go.Proofs.YtpopbfagliagnaaGreat
