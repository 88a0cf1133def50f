/- Parts of the proof, one behind the other: Yb, Yc, Iv, Yd, Ek, El, Em, Ye, Rs, Rt, Ru, Rv, Rw, Ua, Dl, Ub, Yo, Lp, Yp, Yq, Yr, Eb, Oh, Ob, Oc, Od, Kp, Zg, Ec, Ed, Ee. -/
import Derived.Test.YtpopbfagliagnaaGreatCH5
import Derived.BigQuiet
import Derived.Deep.CutBlock
import Derived.ChangeKeysEq
import Derived.Laws.StructEq
import Derived.Deep.QuietTactic
set_option linter.unusedVariables false
namespace Go.Proofs.YtpopbfagliagnaaGreat
open Go.RowKit
theorem contTo_no {l : List Hd} {b i n : Nat} (h1 : 1 ≤ i) (h2 : i < n) (h : l.getD (b + i) default ≠ ⟨3, 0, i⟩) : contTo l b n = false := by
 cases hq : contTo l b n with
 | false => rfl
 | true => exact absurd (contTo_at hq i h1 h2) h
def WholePost (l : List Hd) (b : Nat) (w : World) : Ending → World → Prop := fun e w' => e = .returned (.tuple #[.int .i64 ((wholeN l b : Nat) : Int), .bool (decide (wholeN l b ≠ 0))]) ∧ Below w.heap.size w w'
theorem whole_none {l : List Hd} {b : Nat} {w w' : World} (h : wholeN l b = 0) (hb : Below w.heap.size w w') : WholePost l b w (.returned (.tuple #[.int .i64 0, .bool false])) w' := by
 unfold WholePost; rw [h]; exact ⟨rfl, hb⟩
theorem whole_some {l : List Hd} {b : Nat} {w w' : World} {z : Int} (h : (wholeN l b : Int) = z) (hz : 1 ≤ z) (hb : Below w.heap.size w w') : WholePost l b w (.returned (.tuple #[.int .i64 z, .bool true])) w' := by
 unfold WholePost
 rw [h, decide_eq_true (by omega : wholeN l b ≠ 0)]; exact ⟨rfl, hb⟩
set_option maxHeartbeats 2000000 in
set_option maxRecDepth 20000 in
theorem bwhole_any (a : Option Addr) (n cap : Nat) (l : List Hd) (hn : l.length = n) (w : World) (hc : Cells w a (hdCs l)) (hl : n ≤ 1000) (b : Nat) (hb : b < n) :
  Calls Tryz.prog 184 #[.slice a n cap, .int .i64 (b : Int)] w (WholePost l b w) := by
 have hbl : b < l.length := by rw [hn]; exact hb
 obtain ⟨k, c, z, he⟩ := hdGetD l b
 have HW : Hid (wholeN l b = if k ≠ 2 ∨ z < 1 ∨ (n : Int) - b < z then 0 else if contTo l b z.toNat then z.toNat else 0) := LH (by
  unfold wholeN
  rw [he, hn]
  dsimp only
  by_cases h1 : k ≠ 2 ∨ z < 1 ∨ (n : Int) - b < z
  ·rw [if_pos (.inr h1), if_pos h1]
  ·rw [if_neg h1, if_neg (by rintro (h | h); omega; exact h1 h)])
 obtain ⟨b1, o1, rfl, d0, d1, d2⟩ := hd_cells hc hbl he
 have HC := LH hc
 have HN := LH hn
 have H0 : Hid (wholeN l b = 0 → ∀ w', Below w.heap.size w w' → WholePost l b w (.returned (.tuple #[.int .i64 0, .bool false])) w') := LH (fun h w' => whole_none h)
 have H1 : Hid ((wholeN l b : Int) = z → 1 ≤ z → ∀ w', Below w.heap.size w w' → WholePost l b w (.returned (.tuple #[.int .i64 z, .bool true])) w') := LH (fun h hz w' => whole_some h hz)
 generalize WholePost l b w = Post at *
 clear hc hn he d1
 have hbn : (b : Int) < (n : Int) := by omega
 by_cases hk : k = 2
 case neg =>
  have HE := LH (H0.out (by rw [HW.out, if_pos (.inl hk)]))
  have hk' : (k != 2) = true := by simpa using hk
  clear hk
  go_enter Tryz.func184, Tryz.ntmps184
  go_wp2_with fail
  exact HE.out _ (Below.refl _ _)
 subst hk
 by_cases hz : z < 1
 ·have HE := LH (H0.out (by rw [HW.out, if_pos (.inr (.inl hz))]))
  go_enter Tryz.func184, Tryz.ntmps184
  go_wp2_with fail
  exact HE.out _ (Below.refl _ _)
 by_cases hz2 : (n : Int) - b < z
 ·have HE := LH (H0.out (by rw [HW.out, if_pos (.inr (.inr hz2))]))
  have hw1 : IntKind.i64.wrap ((n : Int) - (b : Int)) = (n : Int) - (b : Int) := IntWalk.i64_in _ (by omega)
  go_enter Tryz.func184, Tryz.ntmps184
  go_wp2_with fail
  exact HE.out _ (Below.refl _ _)
 obtain ⟨m, rfl⟩ := Int.eq_ofNat_of_zero_le (show 0 ≤ z by omega)
 have hm1 : 1 ≤ m := by omega
 have hmn : b + m ≤ n := by omega
 have HW2 : Hid (wholeN l b = if contTo l b m then m else 0) := LH (by rw [HW.out, if_neg (by rintro (h | h | h); exact h rfl; omega; omega)]; rfl)
 have hw1 : IntKind.i64.wrap ((n : Int) - (b : Int)) = (n : Int) - (b : Int) := IntWalk.i64_in _ (by omega)
 clear HW hz hz2
 go_enter Tryz.func184, Tryz.ntmps184
 go_wp2_with fail
 go_loopw [7] (fun i wr => ∃ j : Nat, 1 ≤ j ∧ j ≤ m ∧ i = .int .i64 (j : Int) ∧ contTo l b j = true ∧ Below w.heap.size w wr) (fun i _ => m - (intOf i).toNat)
 case atStart => exact ⟨1, Nat.le_refl _, hm1, rfl, by simp [contTo], Below.refl _ _⟩
 case round =>
  obtain ⟨j, hj1, hjm, rfl, hco, hbe⟩ := hrel
  have HCo := LH hco
  have HB := LH hbe
  clear hco hbe
  by_cases hlt : j < m
  ·have hlt' : (j : Int) < (m : Int) := by omega
   have hin : b + j < n := by omega
   have hin' : (b : Int) + (j : Int) < (n : Int) := by omega
   obtain ⟨k2, c2, z2, he2⟩ := hdGetD l (b + j)
   obtain ⟨b2, o2, hee, e0, e1, e2⟩ := hd_cells (HC.out.below HB.out (Nat.le_refl _)) (by rw [HN.out]; exact hin) he2
   cases hee
   have hto : ((b : Int) + (j : Int)).toNat = b + j := by omega
   have HE2 := LH he2
   clear he2
   by_cases hq : (⟨k2, c2, z2⟩ : Hd) = ⟨3, 0, (j : Int)⟩
   ·have heq : ∀ w', (Op.equalIn 10000 103 (.agg #[.int .i64 k2, .int .i64 c2, .int .i64 z2]) (.agg #[.int .i64 3, .int .i64 0, .int .i64 (j : Int)])).run Tryz.prog w' = .ok true w' := fun w' => equalBh w' _ _ _ _ _ _ _ (by rw [← hd_beq]; simp [hq])
    have hgd := gsBh
    have HCo2 : Hid (contTo l b (j + 1) = true) := LH (by rw [contTo, HCo.out, HE2.out, hq]; simp)
    clear hq
    go_wp2_with fail
    exact ⟨⟨j + 1, by omega, by omega, vint (by omega), HCo2.out, HB.out⟩, by simp [intOf]; omega⟩
   ·have heq : ∀ w', (Op.equalIn 10000 103 (.agg #[.int .i64 k2, .int .i64 c2, .int .i64 z2]) (.agg #[.int .i64 3, .int .i64 0, .int .i64 (j : Int)])).run Tryz.prog w' = .ok false w' := fun w' => equalBh w' _ _ _ _ _ _ _ (by rw [← hd_beq]; simp [hq])
    have hgd := gsBh
    have HE := LH (H0.out (by rw [HW2.out, contTo_no hj1 hlt (by rw [HE2.out]; exact hq)]; rfl))
    clear hq
    go_wp2_with fail
    exact HE.out _ HB.out
  ·obtain rfl : j = m := by omega
   have hlt' : decide ((j : Int) < (j : Int)) = false := by simp
   have HE := LH (H1.out (by rw [HW2.out, HCo.out, if_pos rfl]) (by omega))
   go_wp2_with fail
   exact HE.out _ HB.out
theorem wholeN_le (l : List Hd) (b : Nat) (h : wholeN l b ≠ 0) : b + wholeN l b ≤ l.length := by
 unfold wholeN at h ⊢
 by_cases hc : l.length ≤ b ∨ (l.getD b default).k ≠ 2 ∨ (l.getD b default).l < 1 ∨ (l.length : Int) - b < (l.getD b default).l
 ·rw [if_pos hc] at h; exact absurd rfl h
 ·rw [if_neg hc] at h ⊢
  by_cases hd : contTo l b (l.getD b default).l.toNat = true
  ·rw [if_pos hd]; omega
  ·rw [if_neg hd] at h; exact absurd rfl h
def SoundPost (l : List Hd) (w : World) : Ending → World → Prop := fun e w' => e = .returned (.tuple #[.int .i64 ((soundN l l.length 1 : Nat) : Int), .bool (decide (soundN l l.length 1 = 0))]) ∧ Below w.heap.size w w'
set_option maxHeartbeats 2000000 in
set_option maxRecDepth 20000 in
theorem bsound_any (a : Option Addr) (n cap : Nat) (l : List Hd) (hn : l.length = n) (w : World) (hc : Cells w a (hdCs l)) (hl : n ≤ 1000) :
  Calls Tryz.prog 137 #[.slice a n cap] w (SoundPost l w) := by
 have HC := LH hc
 have HN := LH hn
 have H0 : Hid (soundN l n 1 = 0 → ∀ w', Below w.heap.size w w' → SoundPost l w (.returned (.tuple #[.int .i64 0, .bool true])) w') := LH (fun h w' hb => by
  unfold SoundPost; rw [hn, h]; exact ⟨rfl, hb⟩)
 have H1 : Hid (∀ b : Nat, soundN l n 1 = b → b ≠ 0 → ∀ w', Below w.heap.size w w' → SoundPost l w (.returned (.tuple #[.int .i64 (b : Int), .bool false])) w') := LH (fun b h hne w' hb => by
  unfold SoundPost; rw [hn, h, decide_eq_false hne]; exact ⟨rfl, hb⟩)
 generalize SoundPost l w = Post at *
 clear hc hn
 go_enter Tryz.func137, Tryz.ntmps137
 go_wp2_with fail
 go_loopw [4] (fun i wr => ∃ b f : Nat, 1 ≤ b ∧ b ≤ n + 1 ∧ n ≤ b + f - 1 ∧ i = .int .i64 (b : Int) ∧ soundN l n 1 = soundN l f b ∧ Below w.heap.size w wr) (fun i _ => n + 1 - (intOf i).toNat)
 case atStart => exact ⟨1, n, Nat.le_refl _, by omega, by omega, rfl, rfl, Below.refl _ _⟩
 case round =>
  obtain ⟨b, f, hb1, hbn, hf, rfl, hs, hbe⟩ := hrel
  have HS := LH hs
  have HB := LH hbe
  clear hs hbe
  by_cases hlt : b < n
  ·have hlt' : (b : Int) < (n : Int) := by omega
   obtain ⟨g, rfl⟩ : ∃ g, f = g + 1 := ⟨f - 1, by omega⟩
   obtain ⟨k, c, z, he⟩ := hdGetD l b
   have HC1 := LH (HC.out.below HB.out (Nat.le_refl _))
   have HS2 : Hid (soundN l n 1 = if k = 2 then (if wholeN l b = 0 then b else soundN l g (b + wholeN l b)) else if k = 3 then b else soundN l g (b + 1)) := LH (by
    rw [HS.out, soundN, if_neg (by rw [HN.out]; omega), he])
   have HWh := LH (bwhole_any a n cap l HN.out wr HC1.out hl b hlt)
   have HLe := LH (wholeN_le l b)
   obtain ⟨b1, o1, rfl, d0, d1, d2⟩ := hd_cells HC1.out (by rw [HN.out]; exact hlt) he
   clear he d1 d2
   by_cases h2 : k = 2
   ·subst h2
    have h2' : ((2 : Int) == 2) = true := rfl
    go_wp2_with fail
    refine HWh.out.mono ?_
    rintro e w1 ⟨rfl, hb1⟩
    have HB1 := LH (HB.out.trans (hb1.mono HB.out.size))
    clear hb1
    obtain ⟨q, hq⟩ : ∃ q, q = wholeN l b := ⟨_, rfl⟩
    rw [← hq] at HS2 HLe ⊢
    by_cases hz : q = 0
    ·have hz' : decide (q ≠ 0) = false := by simpa using hz
     have HE := LH (H1.out b (by rw [HS2.out]; simp [hz]) (by omega))
     rw [hz']
     clear hz hq hz'
     go_wp2_with fail
     exact HE.out _ HB1.out
    ·have hz' : decide (q ≠ 0) = true := by simpa using hz
     have hle := HLe.out hz
     rw [HN.out] at hle
     have HS3 : Hid (soundN l n 1 = soundN l g (b + q)) := LH (by rw [HS2.out]; simp [hz])
     rw [hz']
     clear hq hz'
     have hw1 : IntKind.i64.wrap ((q : Int) - 1) = (q : Int) - 1 := IntWalk.i64_in _ (by omega)
     have hw2 : IntKind.i64.wrap ((b : Int) + ((q : Int) - 1)) = (b : Int) + ((q : Int) - 1) := IntWalk.i64_in _ (by omega)
     have hw3 : IntKind.i64.wrap ((b : Int) + ((q : Int) - 1) + 1) = (b : Int) + ((q : Int) - 1) + 1 := IntWalk.i64_in _ (by omega)
     go_wp2_with fail
     exact ⟨⟨b + q, g, by omega, by omega, by omega, vint (by omega), HS3.out, HB1.out⟩, by simp [intOf]; omega⟩
   ·have h2' : (k == 2) = false := by simpa using h2
    by_cases h3 : k = 3
    ·subst h3
     have HE := LH (H1.out b (by rw [HS2.out]; simp) (by omega))
     clear h2
     go_wp2_with fail
     exact HE.out _ HB.out
    ·have h3' : (k == 3) = false := by simpa using h3
     have HS3 : Hid (soundN l n 1 = soundN l g (b + 1)) := LH (by rw [HS2.out]; simp [h2, h3])
     clear h2 h3
     go_wp2_with fail
     exact ⟨⟨b + 1, g, by omega, by omega, by omega, vint (by omega), HS3.out, HB.out⟩, by simp [intOf]; omega⟩
  ·have hlt' : decide ((b : Int) < (n : Int)) = false := by simp; omega
   have HE := LH (H0.out (by
    rw [HS.out]
    cases f with
    | zero => rfl
    | succ f => rw [soundN, if_pos (by rw [HN.out]; omega)]))
   go_wp2_with fail
   exact HE.out _ HB.out
set_option maxHeartbeats 1000000 in
theorem tall_any {w : World} {p g c B : Nat} {F : Foot} {l : List Hd} (h : TabG w p g c F B l) (hB : B ≤ 1000) :
  Calls Tryz.prog 36 #[.pointer (some ⟨p, 0, none⟩)] w fun e w' => ∃ q k, e = .returned (.slice (some ⟨q, 0, none⟩) B k) ∧ w.heap.size ≤ q ∧ B ≤ k ∧ RowAt w' q 103 (hdCs l) ∧ Below w.heap.size w w' := by
 have hb := below_alloc w (.cells #[] 103)
 have ho := World.ownsRow_lit (base := w.heap.size) (e := 103) (size := 3) w #[] 0 (Nat.le_refl _) (by unfold maxLen; omega) rfl
 have HC := LH (h.row.cells.below hb (Nat.le_refl _))
 have c2 : (w.alloc (.cells #[] 103)).cell? ⟨p, 2, none⟩ = some (.slice (some ⟨g, 0, none⟩) B c) := by rw [hb.cell (p := ⟨p, 2, none⟩) h.lt.1]; exact cell_of_row _ _ 2 _ _ _ h.head
 have HL : Hid ((hdCs l).length = B * 3) := LH (by rw [hdCs_length, h.len, Nat.mul_comm])
 have HO := LH ho
 have HB := LH hb
 have hone : Hid (∀ u ∈ hdCs l, u.oneCell' = true) := LH (hdCs_one l)
 have hbase := LH hb.size
 have hn9 : 0 + B < 1000000000000 := by omega
 clear hb ho h
 go_enter Tryz.func36, Tryz.ntmps36
 go_wp2_with (at_builtin; refine wpList_append_cells elHd HO.out HC.out HL.out hone.out hn9 (by decide) hbase.out rfl rfl rfl rfl ?_; intro v2 w2 ho2 hg2 hv2; have HO2 := LH ho2; have HG2 := LH hg2; have HV2 := LH hv2; clear ho2 hg2 hv2)
 go_ret
 have h2 := HO2.out
 rw [Nat.zero_add] at h2
 obtain ⟨q, k, rfl, h3, h4, h5, h6⟩ := owned_new h2 (fun e => by have := (HV2.out e).1; simp at this)
 exact ⟨q, k, rfl, h3, h4, by simpa using h6, below_grownBy HB.out HO.out HG2.out (Nat.le_refl _) (Nat.le_refl _)⟩
structure MF where
 m : Nat
 t : Nat
 g : Nat
 c : Nat
 F : Foot
 T : Tri
def MF.list (X : MF) : List Nat := X.m :: X.t :: X.T.p :: X.g :: X.T.s :: X.T.e :: X.F.list
def MF.hot (X : MF) : List Nat := X.g :: X.T.s :: X.T.e :: X.F.list
structure Bm where
 dev : Dev
 list : List Hd
 free : List Bool
structure ManAt (w : World) (X : MF) (n B : Nat) (m : Bm) : Prop where
 head : w.heap[X.m]? = some (.cells #[.pointer (some ⟨X.t, 0, none⟩), .pointer (some ⟨X.T.p, 0, none⟩), .int .i64 (B : Int)] 87 (0, 0))
 tab : TabG w X.t X.g X.c X.F B m.list
 dev : DevAt w X.F m.dev
 ix : IxAt w X.T n m.free
 lenF : m.free.length = B
 nd : X.list.Nodup
theorem ManAt.mem {w : World} {X : MF} {n B : Nat} {m : Bm} (h : ManAt w X n B m) : ∀ k ∈ X.list, k < w.heap.size := by
 intro k hk
 have h1 := h.ix.mem
 simp only [Tri.list, List.mem_cons, List.not_mem_nil, or_false, forall_eq_or_imp, forall_eq] at h1
 simp only [MF.list, List.mem_cons] at hk
 rcases hk with rfl | rfl | rfl | rfl | rfl | rfl | hk
 ·exact (Array.getElem?_eq_some_iff.1 h.head).1
 ·exact h.tab.lt.1
 ·exact h1.1
 ·exact h.tab.lt.2
 ·exact h1.2.1
 ·exact h1.2.2
 ·exact h.dev.mem k hk
theorem ManAt.keep {w w' : World} {X : MF} {n B : Nat} {m : Bm} (h : ManAt w X n B m) (hk : ∀ k ∈ X.list, w'.heap[k]? = w.heap[k]?) : ManAt w' X n B m := by
 have e : ∀ k ∈ X.F.list, k ∈ X.list := fun k hk => by simp only [MF.list, List.mem_cons]; simp [hk]
 have e2 : ∀ k ∈ X.T.list, k ∈ X.list := fun k hk => by
  simp only [Tri.list, List.mem_cons, List.not_mem_nil, or_false] at hk
  simp only [MF.list, List.mem_cons]
  rcases hk with rfl | rfl | rfl <;> simp
 exact ⟨(hk X.m (by simp [MF.list])).trans h.head, h.tab.keep (hk X.t (by simp [MF.list])) (hk X.g (by simp [MF.list])), h.dev.keep (fun k hk' => hk k (e k hk')), h.ix.keep (fun k hk' => hk k (e2 k hk')), h.lenF, h.nd⟩
theorem ManAt.below {w w' : World} {X : MF} {n B : Nat} {m : Bm} (h : ManAt w X n B m) (hb : Below w.heap.size w w') : ManAt w' X n B m := h.keep (fun k hk => hb.block k (h.mem k hk))
structure MF.Apart (X : MF) : Prop where
 m : X.m ∉ X.hot
 t : X.t ∉ X.hot
 p : X.T.p ∉ X.hot
 g : X.g ∉ X.F.list
 gs : X.g ≠ X.T.s
 ge : X.g ≠ X.T.e
 s : X.T.s ∉ X.F.list
 e : X.T.e ∉ X.F.list
theorem MF.apart {X : MF} (h : X.list.Nodup) : X.Apart := by
 simp only [MF.list, List.nodup_cons, List.mem_cons, not_or] at h
 obtain ⟨⟨m1, m2, m3, m4, m5, m6⟩, ⟨t1, t2, t3, t4, t5⟩, ⟨p1, p2, p3, p4⟩, ⟨g1, g2, g3⟩, ⟨s1, s2⟩, e1, _⟩ := h
 refine ⟨?_, ?_, ?_, g3, g1, g2, s2, e1⟩
 all_goals simp only [MF.hot, List.mem_cons, not_or]
 ·exact ⟨m3, m4, m5, m6⟩
 ·exact ⟨t2, t3, t4, t5⟩
 ·exact ⟨p1, p2, p3, p4⟩
theorem MF.notHot {X : MF} {k : Nat} (h : k ∉ X.hot) : k ≠ X.g ∧ k ≠ X.T.s ∧ k ≠ X.T.e ∧ k ∉ X.F.list := by simpa only [MF.hot, List.mem_cons, not_or] using h
theorem ManAt.c0 {w : World} {X : MF} {n B : Nat} {m : Bm} (h : ManAt w X n B m) : w.cell? ⟨X.m, 0, none⟩ = some (.pointer (some ⟨X.t, 0, none⟩)) := cell_of_row _ _ 0 _ _ _ h.head
theorem ManAt.c1 {w : World} {X : MF} {n B : Nat} {m : Bm} (h : ManAt w X n B m) : w.cell? ⟨X.m, 1, none⟩ = some (.pointer (some ⟨X.T.p, 0, none⟩)) := cell_of_row _ _ 1 _ _ _ h.head
theorem ManAt.c2 {w : World} {X : MF} {n B : Nat} {m : Bm} (h : ManAt w X n B m) : w.cell? ⟨X.m, 2, none⟩ = some (.int .i64 (B : Int)) := cell_of_row _ _ 2 _ _ _ h.head
end Go.Proofs.YtpopbfagliagnaaGreat
namespace Go.Proofs.YtpopbfagliagnaaGreat
theorem splice_getD (l s : List Nat) (o i : Nat) (h : o + s.length ≤ l.length) : (splice l o s).getD i 0 = if o ≤ i ∧ i < o + s.length then s.getD (i - o) 0 else l.getD i 0 := by
 unfold splice
 simp only [List.getD_eq_getElem?_getD]
 by_cases h1 : i < o
 ·rw [if_neg (by omega), List.getElem?_append_left (by simp; omega), List.getElem?_take_of_lt h1]
 ·rw [List.getElem?_append_right (by simp; omega), show (l.take o).length = o by simp; omega]
  by_cases h2 : i < o + s.length
  ·rw [if_pos (by omega), List.getElem?_append_left (by omega)]
  ·rw [if_neg (by omega), List.getElem?_append_right (by omega), List.getElem?_drop, show o + s.length + (i - o - s.length) = i by omega]
theorem seg_getD (l : List Nat) (j i : Nat) (hi : 8 * j ≤ i) (h2 : i < 8 * j + 8) : (seg l j).getD (i - 8 * j) 0 = l.getD i 0 := by
 rw [List.getD_eq_getElem?_getD, seg_at l j (i - 8 * j) (by omega), show 8 * j + (i - 8 * j) = i by omega, ← List.getD_eq_getElem?_getD]
theorem seg_eq_iff (l m : List Nat) (j : Nat) (h1 : 8 * j + 8 ≤ l.length) (h2 : 8 * j + 8 ≤ m.length) : seg l j = seg m j ↔ ∀ i, 8 * j ≤ i → i < 8 * j + 8 → l.getD i 0 = m.getD i 0 := by
 constructor
 ·intro h i hi hi2
  rw [← seg_getD l j i hi hi2, ← seg_getD m j i hi hi2, h]
 ·intro h
  apply List.ext_getElem (by rw [seg_length l j h1, seg_length m j h2])
  intro i hi1 hi2
  rw [seg_length l j h1] at hi1
  have := h (8 * j + i) (by omega) (by omega)
  have e1 := seg_getD l j (8 * j + i) (by omega) (by omega)
  have e2 := seg_getD m j (8 * j + i) (by omega) (by omega)
  rw [show 8 * j + i - 8 * j = i by omega] at e1 e2
  rw [this, ← e2] at e1
  simpa [List.getD_eq_getElem?_getD, seg_length l j h1, seg_length m j h2, hi1] using e1
theorem splice_seg_getD (l s : List Nat) (j i : Nat) (h1 : 8 * j + 8 ≤ l.length) (h2 : 8 * j + 8 ≤ s.length) : (splice l (8 * j) (seg s j)).getD i 0 = if i / 8 = j then s.getD i 0 else l.getD i 0 := by
 have hl := seg_length s j h2
 rw [splice_getD _ _ _ _ (by rw [hl]; exact h1), hl]
 by_cases h : i / 8 = j
 ·rw [if_pos (by omega), if_pos h, seg_getD s j i (by omega) (by omega)]
 ·rw [if_neg (by omega), if_neg h]
theorem getD_setB (l : List Bool) (i j : Nat) (b : Bool) (hi : i < l.length) : (l.set i b).getD j false = if j = i then b else l.getD j false := by
 simp only [List.getD_eq_getElem?_getD]
 by_cases h : j = i
 ·subst h; rw [if_pos rfl, List.getElem?_set_self hi]; rfl
 ·rw [if_neg h, List.getElem?_set_ne (Ne.symm h)]
theorem getD_setN (l : List Nat) (i j x : Nat) (hi : i < l.length) : (l.set i x).getD j 0 = if j = i then x else l.getD j 0 := by
 simp only [List.getD_eq_getElem?_getD]
 by_cases h : j = i
 ·subst h; rw [if_pos rfl, List.getElem?_set_self hi]; rfl
 ·rw [if_neg h, List.getElem?_set_ne (Ne.symm h)]
structure Dev.inv (S : Dev) : Prop where
 wf : S.wf
 sound : ∀ j, S.dirty.getD (j / 8) false = false → S.lasting.getD j 0 = S.cache.getD j 0
 pend : ∀ l, S.pending.getD l false = true → S.dirty.getD l false = true
theorem Dev.step_wf {S : Dev} (h : S.wf) : S.step.wf := by
 unfold Dev.step
 split
 ·exact ⟨h.lenL, h.lenF, h.lenP, h.lenD, h.small, h.u64L, h.u64C, h.u64F⟩
 ·exact ⟨h.lenL, h.lenF, h.lenP, h.lenD, h.small, h.u64L, h.u64C, h.u64F⟩
theorem Dev.step_inv {S : Dev} (h : S.inv) : S.step.inv := by
 obtain ⟨e1, e2, e3, e4, e5⟩ := S.step_rest
 exact ⟨Dev.step_wf h.wf, by rw [e1, e2, e4]; exact h.sound, by rw [e5, e4]; exact h.pend⟩
theorem fresh_inv {ws : List Nat} {m : Nat} (h8 : ws.length = 8 * m) (hs : ws.length ≤ 1000000) (hu : ∀ z ∈ ws, z < 18446744073709551616) : (freshDev ws m).inv := by
 refine ⟨⟨rfl, by simp [freshDev], by simp [freshDev], by simpa [freshDev] using h8, hs, hu, hu, ?_⟩, fun j _ => rfl, fun l hl => ?_⟩
 ·intro z hz
  simp [freshDev] at hz
  omega
 ·exfalso
  simp [freshDev, List.getD_eq_getElem?_getD, List.getElem?_replicate] at hl
  split at hl <;> simp at hl
theorem Dev.put_inv {S : Dev} (h : S.inv) (i x : Nat) (hi : i < S.cache.length) (hx : x < 18446744073709551616) : (S.put i x).inv := by
 have hw := h.wf
 have hD := hw.lenD
 have hl : i / 8 < S.dirty.length := by omega
 refine ⟨⟨by simp [Dev.put, hw.lenL], by simp [Dev.put, hw.lenF], by simp [Dev.put, hw.lenP], by simp [Dev.put, hD], by simp [Dev.put, hw.small], hw.u64L, set_lt hw.u64C _ _ hx, hw.u64F⟩, fun j hj => ?_, fun l hl2 => ?_⟩
 ·simp only [Dev.put] at hj ⊢
  rw [getD_setB _ _ _ _ hl] at hj
  rw [getD_setN _ _ _ _ hi]
  split at hj
  ·cases hj
  ·rw [if_neg (by rintro rfl; simp at *)]
   exact h.sound j hj
 ·simp only [Dev.put] at hl2 ⊢
  rw [getD_setB _ _ _ _ hl]
  split
  ·rfl
  ·exact h.pend l hl2
theorem Dev.store_inv {S : Dev} (h : S.inv) (i : Int) (x : Nat) (hx : x < 18446744073709551616) : (S.store i x).inv := by
 unfold Dev.store
 split
 ·exact h
 ·split
  ·exact Dev.step_inv h
  ·exact Dev.put_inv (Dev.step_inv h) _ _ (by rw [(Dev.step_rest S).2.1]; omega) hx
theorem Dev.hold_inv {S : Dev} (h : S.inv) (j : Nat) (hj : j < S.dirty.length) : (S.hold j).inv := by
 have hw := h.wf
 have hD := hw.lenD
 unfold Dev.hold
 split
 ·rename_i hd
  have hs := seg_length S.cache j (by omega)
  refine ⟨⟨hw.lenL, by rw [length_splice _ _ _ (by rw [hs, hw.lenF]; omega)]; exact hw.lenF, by simp [hw.lenP], hD, hw.small, hw.u64L, hw.u64C, splice_lt _ hw.u64F (seg_lt _ hw.u64C)⟩, h.sound, fun l hl => ?_⟩
  dsimp only at hl ⊢
  rw [getD_setB _ _ _ _ (by rw [hw.lenP]; exact hj)] at hl
  split at hl
  ·rename_i e; rw [e]; exact hd
  ·exact h.pend l hl
 ·exact h
theorem Dev.flush_inv {S : Dev} (h : S.inv) (j : Int) : (S.flush j).inv := by
 unfold Dev.flush
 split
 ·exact h
 ·split
  ·exact Dev.step_inv h
  ·exact Dev.hold_inv (Dev.step_inv h) _ (by rw [(Dev.step_rest S).2.2.2.1]; omega)
theorem Dev.flushRun_inv {S : Dev} (h : S.inv) (a m : Nat) : (S.flushRun a m).dev.inv := by
 induction m with
 | zero => exact h
 | succ m ih =>
  unfold Dev.flushRun
  split
  ·exact ih
  ·exact Dev.flush_inv ih _
structure FenceAt (S : Dev) (k : Nat) (T : Dev) : Prop where
 cache : T.cache = S.cache
 flushed : T.flushed = S.flushed
 lenD : T.dirty.length = S.dirty.length
 lenP : T.pending.length = S.pending.length
 lenL : T.lasting.length = S.lasting.length
 pending : ∀ l, T.pending.getD l false = if l < k then false else S.pending.getD l false
 dirty : ∀ l, T.dirty.getD l false = if l < k ∧ S.pending.getD l false = true then !decide (seg S.flushed l = seg S.cache l) else S.dirty.getD l false
 lasting : ∀ j, T.lasting.getD j 0 = if j / 8 < k ∧ S.pending.getD (j / 8) false = true then S.flushed.getD j 0 else S.lasting.getD j 0
 u64 : ∀ z ∈ T.lasting, z < 18446744073709551616
theorem fenceTo_at {S : Dev} (h : S.wf) : ∀ k, k ≤ S.dirty.length → FenceAt S k (S.fenceTo k)
 | 0, _ => ⟨rfl, rfl, rfl, rfl, rfl, by simp [Dev.fenceTo], by simp [Dev.fenceTo], by simp [Dev.fenceTo], h.u64L⟩
 | k + 1, hk => by
  have i := fenceTo_at h k (by omega)
  have hD := h.lenD
  have hP := h.lenP
  have hL := h.lenL
  have hF := h.lenF
  unfold Dev.fenceTo
  generalize S.fenceTo k = T at *
  have hp : T.pending.getD k false = S.pending.getD k false := by rw [i.pending k, if_neg (by omega)]
  unfold Dev.settle
  rw [hp]
  cases hq : S.pending.getD k false
  ·simp only [Bool.false_eq_true, if_false]
   refine ⟨i.cache, i.flushed, i.lenD, i.lenP, i.lenL, fun l => ?_, fun l => ?_, fun j => ?_, i.u64⟩
   ·rw [i.pending l]
    by_cases e : l = k
    ·subst e; rw [if_neg (by omega), if_pos (by omega), hq]
    ·by_cases h1 : l < k
     ·rw [if_pos h1, if_pos (by omega)]
     ·rw [if_neg h1, if_neg (by omega)]
   ·rw [i.dirty l]
    by_cases e : l = k
    ·subst e; rw [if_neg (by omega), if_neg (by rw [hq]; simp)]
    ·by_cases h1 : l < k ∧ S.pending.getD l false = true
     ·rw [if_pos h1, if_pos ⟨by omega, h1.2⟩]
     ·rw [if_neg h1, if_neg (fun h2 => h1 ⟨by omega, h2.2⟩)]
   ·rw [i.lasting j]
    by_cases e : j / 8 = k
    ·rw [if_neg (by omega), if_neg (by rw [e, hq]; simp)]
    ·by_cases h1 : j / 8 < k ∧ S.pending.getD (j / 8) false = true
     ·rw [if_pos h1, if_pos ⟨by omega, h1.2⟩]
     ·rw [if_neg h1, if_neg (fun h2 => h1 ⟨by omega, h2.2⟩)]
  ·simp only [if_true]
   rw [i.flushed, i.cache]
   have hs := seg_length S.flushed k (by omega)
   have hlT : 8 * k + 8 ≤ T.lasting.length := by rw [i.lenL]; omega
   refine ⟨rfl, rfl, by simp [i.lenD], by simp [i.lenP], by rw [length_splice _ _ _ (by rw [hs]; exact hlT)]; exact i.lenL, fun l => ?_, fun l => ?_, fun j => ?_, splice_lt _ i.u64 (seg_lt _ h.u64F)⟩
   ·dsimp only
    rw [getD_setB _ _ _ _ (by rw [i.lenP]; omega), i.pending l]
    by_cases e : l = k
    ·subst e; rw [if_pos rfl, if_pos (by omega)]
    ·rw [if_neg e]
     by_cases h1 : l < k
     ·rw [if_pos h1, if_pos (by omega)]
     ·rw [if_neg h1, if_neg (by omega)]
   ·dsimp only
    rw [getD_setB _ _ _ _ (by rw [i.lenD]; omega), i.dirty l]
    by_cases e : l = k
    ·subst e; rw [if_pos rfl, if_pos ⟨by omega, hq⟩]
    ·rw [if_neg e]
     by_cases h1 : l < k ∧ S.pending.getD l false = true
     ·rw [if_pos h1, if_pos ⟨by omega, h1.2⟩]
     ·rw [if_neg h1, if_neg (fun h2 => h1 ⟨by omega, h2.2⟩)]
   ·dsimp only
    rw [splice_seg_getD _ _ _ _ hlT (by omega), i.lasting j]
    by_cases e : j / 8 = k
    ·rw [if_pos e, if_pos ⟨by omega, by rw [e]; exact hq⟩]
    ·rw [if_neg e]
     by_cases h1 : j / 8 < k ∧ S.pending.getD (j / 8) false = true
     ·rw [if_pos h1, if_pos ⟨by omega, h1.2⟩]
     ·rw [if_neg h1, if_neg (fun h2 => h1 ⟨by omega, h2.2⟩)]
theorem getD_false_of {l : List Bool} {i : Nat} (h : l.length ≤ i) : l.getD i false = false := by simp [List.getD_eq_getElem?_getD, List.getElem?_eq_none h]
theorem getD_zero_of {l : List Nat} {i : Nat} (h : l.length ≤ i) : l.getD i 0 = 0 := by simp [List.getD_eq_getElem?_getD, List.getElem?_eq_none h]
theorem Dev.fence_at {S : Dev} (h : S.wf) (hs : S.stop = false) : FenceAt S S.dirty.length S.fence := by
 unfold Dev.fence
 rw [hs]
 simp only [Bool.false_eq_true, if_false]
 obtain ⟨e1, e2, e3, e4, e5⟩ := S.step_rest
 have i := fenceTo_at (Dev.step_wf h) S.dirty.length (by rw [e4]; exact Nat.le_refl _)
 exact ⟨by rw [← e2]; exact i.cache, by rw [← e3]; exact i.flushed, by rw [← e4]; exact e4 ▸ i.lenD, by rw [← e5]; exact i.lenP, by rw [← e1]; exact i.lenL, by have := i.pending; rwa [e5] at this, by have := i.dirty; rwa [e5, e3, e2, e4] at this, by have := i.lasting; rwa [e5, e3, e1] at this, i.u64⟩
theorem Dev.fence_inv {S : Dev} (h : S.inv) : S.fence.inv := by
 by_cases hs : S.stop = true
 ·unfold Dev.fence; rw [hs]; exact Dev.step_inv h
 ·have i := Dev.fence_at h.wf (by simpa using hs)
  have hw := h.wf
  have hD := hw.lenD
  generalize S.fence = T at *
  refine ⟨⟨by rw [i.lenL, i.cache]; exact hw.lenL, by rw [i.flushed, i.cache]; exact hw.lenF, by rw [i.lenP, i.lenD]; exact hw.lenP, by rw [i.cache, i.lenD]; exact hD, by rw [i.cache]; exact hw.small, i.u64, by rw [i.cache]; exact hw.u64C, by rw [i.flushed]; exact hw.u64F⟩, fun j hj => ?_, fun l hl => ?_⟩
  ·rw [i.lasting j, i.cache]
   rw [i.dirty (j / 8)] at hj
   by_cases h1 : j / 8 < S.dirty.length ∧ S.pending.getD (j / 8) false = true
   ·rw [if_pos h1]
    rw [if_pos h1] at hj
    have : seg S.flushed (j / 8) = seg S.cache (j / 8) := by simpa using hj
    exact (seg_eq_iff _ _ _ (by rw [hw.lenF]; omega) (by omega)).1 this j (by omega) (by omega)
   ·rw [if_neg h1]
    rw [if_neg h1] at hj
    exact h.sound j hj
  ·rw [i.pending l] at hl
   by_cases h1 : l < S.dirty.length
   ·rw [if_pos h1] at hl; cases hl
   ·rw [getD_false_of (by rw [hw.lenP]; omega)] at hl
    simp at hl
theorem Dev.persist_inv {S : Dev} (h : S.inv) (p n : Int) : (S.persist p n).dev.inv := by
 unfold Dev.persist
 split
 ·exact h
 ·split
  ·unfold Dev.persistN
   split
   ·exact Dev.flushRun_inv h _ _
   ·exact Dev.fence_inv (Dev.flushRun_inv h _ _)
  ·exact Dev.fence_inv h
theorem settle_steps (S : Dev) (j : Nat) : (S.settle j).steps = S.steps ∧ (S.settle j).fuse = S.fuse := by
 unfold Dev.settle; split <;> exact ⟨rfl, rfl⟩
theorem fenceTo_steps (S : Dev) (k : Nat) : (S.fenceTo k).steps = S.steps ∧ (S.fenceTo k).fuse = S.fuse := by
 induction k with
 | zero => exact ⟨rfl, rfl⟩
 | succ k ih => have h := settle_steps (S.fenceTo k) k; exact ⟨h.1.trans ih.1, h.2.trans ih.2⟩
theorem Dev.fence_ok {S : Dev} {N : Nat} (h : S.ok N) : S.fence.ok (N + 1) := by
 unfold Dev.fence
 split
 ·exact Dev.step_ok h
 ·have := Dev.step_ok h
  have e := fenceTo_steps S.step S.dirty.length
  unfold Dev.ok at *
  rw [e.1, e.2]
  exact this
theorem Dev.persist_ok {S : Dev} (hw : S.wf) {N : Nat} (h : S.ok N) (p n : Int) : (S.persist p n).dev.ok (N + 200000) := by
 have hD := hw.lenD
 have hs := hw.small
 unfold Dev.persist
 split
 ·exact h.mono (by omega)
 ·split
  ·unfold Dev.persistN
   have hM : (((p : Int) + (n : Int) - 1) / 8 - (p : Int) / 8 + 1).toNat ≤ 150000 := by omega
   split
   ·exact (Dev.flushRun_ok h _ _).mono (by omega)
   ·exact (Dev.fence_ok (Dev.flushRun_ok h _ _)).mono (by omega)
  ·exact (Dev.fence_ok h).mono (by omega)
theorem settle_live {S : Dev} (h : S.live) (j : Nat) : (S.settle j).live := by
 unfold Dev.settle; split <;> exact h
theorem fenceTo_live {S : Dev} (h : S.live) (k : Nat) : (S.fenceTo k).live := by
 induction k with
 | zero => exact h
 | succ k ih => exact settle_live ih k
theorem Dev.live.fence {S : Dev} (h : S.live) : S.fence.live := by
 unfold Dev.fence
 rw [h.stop]
 exact fenceTo_live h.step _
theorem Dev.live.persist_live {S : Dev} (h : S.live) (p n : Nat) (hn : 0 < n) (hd : S.cache.length = 8 * S.dirty.length) (hp : p + n ≤ S.cache.length) : (S.persist p n).dev.live := by
 unfold Dev.persist
 rw [if_neg (by omega), if_pos (by omega)]
 unfold Dev.persistN
 obtain ⟨i1, i2, i3, i4⟩ := h.flushRun ((p : Int) / 8).toNat (((p : Int) + (n : Int) - 1) / 8 - (p : Int) / 8 + 1).toNat (by omega)
 rw [if_neg (by rw [i1]; simp)]
 exact i2.fence
theorem Dev.flushRun_held {S : Dev} (h : S.inv) (a : Nat) : ∀ m, (S.flushRun a m).err = 0 → (S.flushRun a m).dev.cache = S.cache ∧ (S.flushRun a m).dev.dirty = S.dirty ∧ (0 < m → a + m ≤ S.dirty.length) ∧
  ∀ l, a ≤ l → l < a + m → S.dirty.getD l false = true → (S.flushRun a m).dev.pending.getD l false = true ∧ seg (S.flushRun a m).dev.flushed l = seg S.cache l
 | 0, _ => ⟨rfl, rfl, fun h => absurd h (Nat.lt_irrefl _), fun l h1 h2 => by omega⟩
 | m + 1, he => by
  have hinv := Dev.flushRun_inv h a m
  unfold Dev.flushRun at he ⊢
  by_cases h0 : (S.flushRun a m).err ≠ 0
  ·rw [if_pos h0] at he
   exact absurd he h0
  ·rw [if_neg h0] at he ⊢
   obtain ⟨i1, i2, i3, i4⟩ := Dev.flushRun_held h a m (by simpa using h0)
   generalize (S.flushRun a m).dev = T at *
   dsimp only at he ⊢
   unfold Dev.flushE at he
   unfold Dev.flush
   by_cases c1 : ((a + m : Nat) : Int) < 0 ∨ (T.dirty.length : Int) ≤ ((a + m : Nat) : Int)
   ·rw [if_pos c1] at he; simp at he
   rw [if_neg c1] at he ⊢
   cases c2 : T.stop
   ·simp only [Bool.false_eq_true, if_false]
    obtain ⟨e1, e2, e3, e4, e5⟩ := T.step_rest
    rw [show ((a + m : Nat) : Int).toNat = a + m by omega]
    have hw := Dev.step_wf hinv.wf
    have hD := hw.lenD
    have hdl : T.dirty.length = S.dirty.length := by rw [i2]
    have hj : a + m < T.step.dirty.length := by rw [e4]; omega
    rw [← e4] at i2
    rw [← e2] at i1
    rw [← e5, ← e3] at i4
    generalize T.step = U at *
    refine ⟨by rw [(Dev.hold_len U _).1, i1], by rw [(Dev.hold_len U _).2, i2], fun _ => by rw [← i2]; omega, fun l h1 h2 hd => ?_⟩
    unfold Dev.hold
    by_cases hl : l = a + m
    ·subst hl
     rw [if_pos (by rw [i2]; exact hd)]
     dsimp only
     refine ⟨by rw [getD_setB _ _ _ _ (by rw [hw.lenP]; exact hj), if_pos rfl], ?_⟩
     rw [seg_splice _ _ _ (seg_length _ _ (by omega)) (by rw [hw.lenF]; omega), i1]
    ·have := i4 l h1 (by omega) hd
     have hll : l < U.dirty.length := by
      rcases Nat.lt_or_ge l U.dirty.length with h | h
      ·exact h
      ·rw [← i2, getD_false_of h] at hd; cases hd
     split
     ·dsimp only
      refine ⟨by rw [getD_setB _ _ _ _ (by rw [hw.lenP]; exact hj), if_neg hl]; exact this.1, ?_⟩
      rw [← this.2]
      have hs := seg_length U.cache (a + m) (by omega)
      refine (seg_eq_iff _ _ _ (by rw [length_splice _ _ _ (by rw [hs, hw.lenF]; omega), hw.lenF]; omega) (by rw [hw.lenF]; omega)).2 (fun i h3 h4 => ?_)
      rw [splice_seg_getD _ _ _ _ (by rw [hw.lenF]; omega) (by omega), if_neg (by omega)]
     ·exact this
   ·rw [c2] at he
    simp at he
theorem Dev.persist_clean {S : Dev} (h : S.inv) (p n : Nat) (hn : 0 < n) (he : (S.persist p n).err = 0) : (S.persist p n).dev.cache = S.cache ∧ p + n ≤ S.cache.length ∧ (S.persist p n).dev.dirty.length = S.dirty.length ∧
  (∀ j, p ≤ j → j < p + n → (S.persist p n).dev.dirty.getD (j / 8) false = false) ∧ ∀ l, S.dirty.getD l false = false → (S.persist p n).dev.dirty.getD l false = false := by
 unfold Dev.persist at he ⊢
 by_cases c1 : (p : Int) < 0 ∨ (n : Int) < 0 ∨ (S.cache.length : Int) < (p : Int) ∨ (S.cache.length : Int) - (p : Int) < (n : Int)
 ·rw [if_pos c1] at he; simp at he
 rw [if_neg c1, if_pos (by omega)] at he ⊢
 unfold Dev.persistN at he ⊢
 generalize hA : ((p : Int) / 8).toNat = A at *
 generalize hM : (((p : Int) + (n : Int) - 1) / 8 - (p : Int) / 8 + 1).toNat = M at *
 by_cases c2 : (S.flushRun A M).err ≠ 0
 ·rw [if_pos c2] at he; exact absurd he c2
 rw [if_neg c2] at he ⊢
 obtain ⟨i1, i2, i3, i4⟩ := Dev.flushRun_held h A M (by simpa using c2)
 have hinv := Dev.flushRun_inv h A M
 generalize (S.flushRun A M).dev = T at *
 dsimp only at he ⊢
 unfold Dev.fenceE at he
 cases c3 : T.stop
 ·have f := Dev.fence_at hinv.wf c3
  refine ⟨f.cache.trans i1, by omega, by rw [f.lenD, i2], fun j h1 h2 => ?_, fun l hl => ?_⟩
  ·rw [f.dirty, i2, i1]
   cases hd : S.dirty.getD (j / 8) false
   ·rw [if_neg]
    rintro ⟨_, hp⟩
    have := hinv.pend _ hp
    rw [i2, hd] at this
    cases this
   ·have := i4 (j / 8) (by omega) (by omega) hd
    have hl : j / 8 < S.dirty.length := by
     rcases Nat.lt_or_ge (j / 8) S.dirty.length with h | h
     ·exact h
     ·rw [getD_false_of h] at hd; cases hd
    rw [if_pos ⟨hl, this.1⟩, this.2]
    simp
  ·rw [f.dirty, i2, if_neg]
   ·exact hl
   ·rintro ⟨_, hp⟩
    have := hinv.pend _ hp
    rw [i2, hl] at this
    cases this
 ·rw [c3] at he
  simp at he
end Go.Proofs.YtpopbfagliagnaaGreat
namespace Go.Proofs.YtpopbfagliagnaaGreat
open Go.RowKit
section
variable {P : Program} {C : World → Prop} {ops : Array Oper} {rest : List Oper} {o : Oper} {a : Act} {Q : Act → Prop}
end
end Go.Proofs.YtpopbfagliagnaaGreat
namespace Go.Proofs.YtpopbfagliagnaaGreat
open Go.RowKit Go.Maps
section
variable {P : Program} {C : World → Prop} {ops : Array Oper} {rest : List Oper} {o : Oper} {a : Act} {Q : Act → Prop}
end
theorem OwnI.cells2 {w : World} {v : Value} {xs : List Nat} (h : OwnI w v xs) : ∃ a c, v = .slice a xs.length c ∧ Cells w a (xs.map vi) ∧ xs.length ≤ c ∧ c ≤ maxLen ∧ (a = none → c = 0) := by
 obtain ⟨a, c, e, h1, h2, h3⟩ := h.cells
 refine ⟨a, c, e, h1, h2, h3, fun ha => ?_⟩
 subst ha
 rcases h with h | ⟨p, h, _⟩
 ·rcases h.2 with ⟨h, _⟩ | ⟨g, cap, cur, h, _⟩
  ·rw [h] at e
   exact (congrArg (fun v => match v with | .slice _ _ c => c | _ => 0) e).symm
  ·rw [h] at e; cases e
 ·rw [h] at e; cases e
end Go.Proofs.YtpopbfagliagnaaGreat
namespace Go.Proofs.YtpopbfagliagnaaGreat
open Go.RowKit
theorem aggGe : Agg Tryz.prog 44 #[.int .i64 0] := ⟨⟨_, Tryz.underlying44, rfl⟩, by kernel_rfl⟩
set_option maxHeartbeats 1000000 in
theorem bgeom_any {w : World} {X : MF} {n B : Nat} {m : Bm} (h : ManAt w X n B m) :
  Calls Tryz.prog 86 #[.pointer (some ⟨X.m, 0, none⟩)] w fun e w' => e = .returned (vgeom (B : Int)) ∧ Below w.heap.size w w' := by
 have HM := LH (Mem.one w #[.int .i64 0] 44)
 have c2 := (h.below HM.out.below).c2
 clear h
 unfold vgeom
 go_enter Tryz.func86, Tryz.ntmps86
 go_upto_region 1 with fail
 generalize w.alloc _ = w0 at *
 obtain ⟨q, hq⟩ : ∃ q, q = w.heap.size := ⟨_, rfl⟩
 rw [← hq] at HM ⊢
 have HQ := LH hq
 clear hq
 go_wp2_with (refine wpList_store_mem aggGe HM.out 0 rfl rfl rfl rfl rfl rfl rfl rfl ?_; intro w9 h9 _; have H9 := LH h9; clear h9)
 refine bodyPost_ret (results_cell_row rfl _ _ _ _ _ _ _ rfl (H9.out.exact 0 rfl) Tryz.underlying44 rfl (by kernel_rfl)) rfl ⟨rfl, H9.out.below⟩
structure RStep where
 steps : Int
 fuse : Int
 dead : Bool
 ok : Bool
def rstepF (steps fuse : Int) (dead : Bool) : RStep := if dead = true ∨ fuse = 0 then ⟨steps, fuse, true, false⟩ else ⟨steps + 1, if 0 < fuse then fuse - 1 else fuse, dead, true⟩
set_option maxHeartbeats 1000000 in
set_option maxRecDepth 20000 in
theorem rstep_any (an al aw ad ap : Option Addr) (m cn cl cw cd cp : Nat) (steps fuse : Int) (dead : Bool) (w : World) (hs : 0 ≤ steps ∧ steps < 4611686018427387904) (hf : -1 ≤ fuse ∧ fuse < 9223372036854775808) :
  Calls Tryz.prog 132 #[.agg #[.slice an m cn, .slice al m cl, .slice aw m cw, .slice ad m cd, .slice ap m cp, .int .i64 steps, .int .i64 fuse, .bool dead]] w fun e w' =>
   e = .returned (.tuple #[.agg #[.slice an m cn, .slice al m cl, .slice aw m cw, .slice ad m cd, .slice ap m cp, .int .i64 (rstepF steps fuse dead).steps, .int .i64 (rstepF steps fuse dead).fuse, .bool (rstepF steps fuse dead).dead], .bool (rstepF steps fuse dead).ok]) ∧ Below w.heap.size w w' := by
 have HM := LH (Mem.two w #[.slice an m cn, .slice al m cl, .slice aw m cw, .slice ad m cd, .slice ap m cp, .int .i64 steps, .int .i64 fuse, .bool dead] 38 zeroD 38)
 have HF : Hid (rstepF steps fuse dead = if dead = true ∨ fuse = 0 then ⟨steps, fuse, true, false⟩ else ⟨steps + 1, if 0 < fuse then fuse - 1 else fuse, dead, true⟩) := LH rfl
 generalize rstepF steps fuse dead = R at *
 go_enter Tryz.func132, Tryz.ntmps132
 go_upto_region 1 with fail
 unfold zeroD at HM
 generalize (w.alloc _).alloc _ = w0 at *
 obtain ⟨q, hq⟩ : ∃ q, q = w.heap.size := ⟨_, rfl⟩
 rw [← hq] at HM ⊢
 have HQ := LH hq
 clear hq
 have c5 := HM.out.cell 0 5 rfl rfl
 have c6 := HM.out.cell 0 6 rfl rfl
 have c7 := HM.out.cell 0 7 rfl rfl
 have f5 := HM.out.frozen 0 5 rfl
 have f6 := HM.out.frozen 0 6 rfl
 have f7 := HM.out.frozen 0 7 rfl
 by_cases hst : dead = true ∨ fuse = 0
 ·have HV : Hid (R = ⟨steps, fuse, true, false⟩) := LH (by rw [HF.out, if_pos hst])
  have HM2 := LH (HM.out.set 0 7 (.bool true) rfl (by simp))
  cases dead
  ·obtain rfl : fuse = 0 := by simpa using hst
   clear hst
   go_wp2_with (first | (refine wpList_load_mem aggRd HM2.out 0 rfl rfl rfl rfl rfl ?_) | (refine wpList_store_mem aggRd HM2.out 1 rfl rfl rfl rfl rfl rfl rfl rfl ?_; intro w9 h9 _; have H9 := LH h9; clear h9))
   refine bodyPost_ret (results_cell_row2 (p := 2) (u := 3) rfl _ _ _ _ _ _ _ rfl (H9.out.exact 1 rfl) Tryz.underlying38 rfl (by kernel_rfl)) rfl ⟨by rw [HV.out]; rfl, H9.out.below⟩
  ·clear hst
   go_wp2_with (first | (refine wpList_load_mem aggRd HM2.out 0 rfl rfl rfl rfl rfl ?_) | (refine wpList_store_mem aggRd HM2.out 1 rfl rfl rfl rfl rfl rfl rfl rfl ?_; intro w9 h9 _; have H9 := LH h9; clear h9))
   refine bodyPost_ret (results_cell_row2 (p := 2) (u := 3) rfl _ _ _ _ _ _ _ rfl (H9.out.exact 1 rfl) Tryz.underlying38 rfl (by kernel_rfl)) rfl ⟨by rw [HV.out]; rfl, H9.out.below⟩
 ·obtain rfl : dead = false := by cases dead <;> simp_all
  have hne : ¬ fuse = 0 := by simpa using hst
  have hne2 : (fuse == 0) = false := by simpa using hne
  by_cases h0 : 0 < fuse
  ·have HV : Hid (R = ⟨steps + 1, fuse - 1, false, true⟩) := LH (by rw [HF.out, if_neg hst, if_pos h0])
   have HM2 := LH ((HM.out.set 0 6 (.int .i64 (fuse - 1)) rfl (by simp)).set 0 5 (.int .i64 (steps + 1)) rfl (by simp))
   clear hst hne
   go_wp2_with (first | (refine wpList_load_mem aggRd HM2.out 0 rfl rfl rfl rfl rfl ?_) | (refine wpList_store_mem aggRd HM2.out 1 rfl rfl rfl rfl rfl rfl rfl rfl ?_; intro w9 h9 _; have H9 := LH h9; clear h9))
   refine bodyPost_ret (results_cell_row2 (p := 2) (u := 3) rfl _ _ _ _ _ _ _ rfl (H9.out.exact 1 rfl) Tryz.underlying38 rfl (by kernel_rfl)) rfl ⟨by rw [HV.out]; rfl, H9.out.below⟩
  ·have HV : Hid (R = ⟨steps + 1, fuse, false, true⟩) := LH (by rw [HF.out, if_neg hst, if_neg h0])
   have HM2 := LH (HM.out.set 0 5 (.int .i64 (steps + 1)) rfl (by simp))
   clear hst hne
   go_wp2_with (first | (refine wpList_load_mem aggRd HM2.out 0 rfl rfl rfl rfl rfl ?_) | (refine wpList_store_mem aggRd HM2.out 1 rfl rfl rfl rfl rfl rfl rfl rfl ?_; intro w9 h9 _; have H9 := LH h9; clear h9))
   refine bodyPost_ret (results_cell_row2 (p := 2) (u := 3) rfl _ _ _ _ _ _ _ rfl (H9.out.exact 1 rfl) Tryz.underlying38 rfl (by kernel_rfl)) rfl ⟨by rw [HV.out]; rfl, H9.out.below⟩
set_option maxHeartbeats 400000 in
theorem rlines_any (a : Option Addr) (n cap : Nat) (ls : List Nat) (w : World) (hc : Cells w a (ls.map vu64)) (hl : ls.length = 8 * n) (hn : n ≤ 1000000) :
  Calls Tryz.prog 133 #[.slice a n cap] w (Copied 188 n (ls.map vu64) w) := by
 have hb := below_alloc w (.cells #[] 188)
 have ho := World.ownsRow_lit (base := w.heap.size) (e := 188) (size := 8) w #[] 0 (Nat.le_refl _) (by unfold maxLen; omega) rfl
 have HC := LH (hc.below hb (Nat.le_refl _))
 have HL : Hid ((ls.map vu64).length = n * 8) := LH (by rw [List.length_map, hl, Nat.mul_comm])
 have HO := LH ho
 have HB := LH hb
 have hone : Hid (∀ u ∈ ls.map vu64, u.oneCell' = true) := LH (one_cells _)
 have hbase := LH hb.size
 have hn9 : 0 + n < 1000000000000 := by omega
 clear hb ho hc hl
 go_enter Tryz.func133, Tryz.ntmps133
 go_wp2_with (at_builtin; refine wpList_append_cells elLine HO.out HC.out HL.out hone.out hn9 (by decide) hbase.out rfl rfl rfl rfl ?_; intro v2 w2 ho2 hg2 hv2; have HO2 := LH ho2; have HG2 := LH hg2; have HV2 := LH hv2; clear ho2 hg2 hv2)
 go_ret
 have h2 := HO2.out
 rw [Nat.zero_add] at h2
 obtain ⟨g, c, rfl, h3, h4, h5, h6⟩ := owned_new h2 (fun e => by have := (HV2.out e).1; simp at this)
 exact ⟨g, c, rfl, h3, h4, h5, by simpa using h6, below_grownBy HB.out HO.out HG2.out (Nat.le_refl _) (Nat.le_refl _)⟩
theorem bone_cells (bs : List Bool) : ∀ u ∈ bs.map Value.bool, u.oneCell' = true := by
 intro u hu
 simp only [List.mem_map] at hu
 obtain ⟨b, _, rfl⟩ := hu
 rfl
set_option maxHeartbeats 400000 in
theorem rflags_any (a : Option Addr) (n cap : Nat) (bs : List Bool) (w : World) (hc : Cells w a (bs.map Value.bool)) (hl : bs.length = n) (hn : n ≤ 1000000) :
  Calls Tryz.prog 134 #[.slice a n cap] w (Copied 4 n (bs.map Value.bool) w) := by
 have hb := below_alloc w (.cells #[] 4)
 have ho := World.ownsRow_lit (base := w.heap.size) (e := 4) (size := 1) w #[] 0 (Nat.le_refl _) (by unfold maxLen; omega) rfl
 have HC := LH (hc.below hb (Nat.le_refl _))
 have HL : Hid ((bs.map Value.bool).length = n * 1) := LH (by rw [List.length_map, hl, Nat.mul_one])
 have HO := LH ho
 have HB := LH hb
 have hone : Hid (∀ u ∈ bs.map Value.bool, u.oneCell' = true) := LH (bone_cells _)
 have hbase := LH hb.size
 have hn9 : 0 + n < 1000000000000 := by omega
 clear hb ho hc hl
 go_enter Tryz.func134, Tryz.ntmps134
 go_wp2_with (at_builtin; refine wpList_append_cells elBool HO.out HC.out HL.out hone.out hn9 (by decide) hbase.out rfl rfl rfl rfl ?_; intro v2 w2 ho2 hg2 hv2; have HO2 := LH ho2; have HG2 := LH hg2; have HV2 := LH hv2; clear ho2 hg2 hv2)
 go_ret
 have h2 := HO2.out
 rw [Nat.zero_add] at h2
 obtain ⟨g, c, rfl, h3, h4, h5, h6⟩ := owned_new h2 (fun e => by have := (HV2.out e).1; simp at this)
 exact ⟨g, c, rfl, h3, h4, h5, by simpa using h6, below_grownBy HB.out HO.out HG2.out (Nat.le_refl _) (Nat.le_refl _)⟩
def Dev.ref (S : Dev) : RDev := ⟨S.cache, S.lasting, S.flushed, S.dirty, S.pending, S.steps, if S.armed = true then S.fuse else -1, S.dead⟩
structure Dev.fit (S : Dev) (N : Nat) : Prop where
 wf : S.wf
 ok : S.ok N
 arm : S.armed = true → 0 ≤ S.fuse
theorem Dev.fit.mono {S : Dev} {N M : Nat} (h : S.fit N) (hM : N ≤ M) : S.fit M := ⟨h.wf, h.ok.mono hM, h.arm⟩
theorem Dev.fit_fuse {S : Dev} {N : Nat} (h : S.fit N) : -1 ≤ S.ref.fuse ∧ S.ref.fuse < 9223372036854775808 := by
 unfold Dev.ref
 dsimp only
 have := h.ok
 unfold Dev.ok at this
 split
 ·rename_i c; have := h.arm c; omega
 ·omega
theorem rstep_ref {S : Dev} {N : Nat} (h : S.fit N) : (rstepF S.steps S.ref.fuse S.dead).steps = S.step.steps ∧ (rstepF S.steps S.ref.fuse S.dead).fuse = S.step.ref.fuse ∧ (rstepF S.steps S.ref.fuse S.dead).dead = S.step.dead ∧ (rstepF S.steps S.ref.fuse S.dead).ok = !S.stop := by
 unfold rstepF Dev.step Dev.stop Dev.ref
 dsimp only
 have ha := h.arm
 cases hd : S.dead
 ·cases hr : S.armed
  ·simp [hr]
  ·by_cases h0 : S.fuse = 0
   ·simp [h0, hr]
   ·have := ha hr
    have h1 : 0 < S.fuse := by omega
    simp [h0, h1, hr]
 ·simp
theorem Dev.step_fit {S : Dev} {N : Nat} (h : S.fit N) : S.step.fit (N + 1) := by
 refine ⟨Dev.step_wf h.wf, Dev.step_ok h.ok, ?_⟩
 unfold Dev.step
 have ha := h.arm
 have hst : S.stop = false → S.armed = true → ¬ S.fuse = 0 := fun h1 h2 => by unfold Dev.stop at h1; simp [h2] at h1; exact h1.2
 cases hs : S.stop
 ·intro c
  have c1 := ha c
  have c2 := hst hs c
  simp at c1 c2 ⊢
  omega
 ·exact ha
theorem Dev.store_dl (S : Dev) (i : Int) (x : Nat) : (S.store i x).dirty.length = S.dirty.length := by
 obtain ⟨e1, e2, e3, e4, e5⟩ := S.step_rest
 unfold Dev.store
 split
 ·rfl
 ·split
  ·rw [e4]
  ·simp [Dev.put, e4]
theorem Dev.store_fit {S : Dev} {N : Nat} (h : S.fit N) (i : Int) (x : Nat) (hx : x < 18446744073709551616) : (S.store i x).fit (N + 1) := by
 have h1 := Dev.step_fit h
 unfold Dev.store
 split
 ·exact h.mono (by omega)
 ·split
  ·exact h1
  ·have hw := h1.wf
   refine ⟨⟨?_, ?_, ?_, ?_, ?_, hw.u64L, ?_, hw.u64F⟩, h1.ok, h1.arm⟩
   ·simp [Dev.put, hw.lenL]
   ·simp [Dev.put, hw.lenF]
   ·simp [Dev.put, hw.lenP]
   ·simp [Dev.put, hw.lenD]
   ·simp [Dev.put, hw.small]
   ·exact set_lt hw.u64C _ _ hx
def RIn (v : Value) (b : Nat) : Prop := ∃ cs, v = .agg cs ∧ ∃ (i : Nat) (x : Addr) (n c : Nat), cs[i]? = some (.slice (some x) n c) ∧ x.block = b
theorem rin8 {an al aw ad ap : Option Addr} {n1 c1 n2 c2 n3 c3 n4 c4 n5 c5 : Nat} {k1 k2 : IntKind} {i1 i2 : Int} {b1 : Bool} {b : Nat} :
  RIn (.agg #[.slice an n1 c1, .slice al n2 c2, .slice aw n3 c3, .slice ad n4 c4, .slice ap n5 c5, .int k1 i1, .int k2 i2, .bool b1]) b ↔ ∃ a ∈ [an, al, aw, ad, ap], ∃ x, a = some x ∧ x.block = b := by
 constructor
 ·rintro ⟨cs, hcs, i, x, n, c, hi, hb⟩
  simp only [Value.agg.injEq] at hcs
  subst hcs
  rcases i with _ | _ | _ | _ | _ | _ | _ | _ | i
  all_goals first
   | (simp only [List.getElem?_toArray, List.getElem?_cons_zero, List.getElem?_cons_succ, Option.some.injEq, Value.slice.injEq] at hi; exact ⟨_, by simp, x, hi.1, hb⟩)
   | simp at hi
 ·rintro ⟨a, ha, x, rfl, hb⟩
  simp only [List.mem_cons, List.not_mem_nil, or_false] at ha
  rcases ha with rfl | rfl | rfl | rfl | rfl
  ·exact ⟨_, rfl, 0, x, _, _, rfl, hb⟩
  ·exact ⟨_, rfl, 1, x, _, _, rfl, hb⟩
  ·exact ⟨_, rfl, 2, x, _, _, rfl, hb⟩
  ·exact ⟨_, rfl, 3, x, _, _, rfl, hb⟩
  ·exact ⟨_, rfl, 4, x, _, _, rfl, hb⟩
theorem rin_mk {an al aw ad ap an' al' aw' ad' ap' : Option Addr} {n1 c1 n2 c2 n3 c3 n4 c4 n5 c5 n1' c1' n2' c2' n3' c3' n4' c4' n5' c5' B : Nat} {i1 i2 i1' i2' : Int} {b1 b1' : Bool}
  (h : ∀ a ∈ [an', al', aw', ad', ap'], a ∈ [an, al, aw, ad, ap] ∨ ∃ g o, a = some ⟨g, o, none⟩ ∧ B ≤ g) :
  ∀ b, RIn (.agg #[.slice an' n1' c1', .slice al' n2' c2', .slice aw' n3' c3', .slice ad' n4' c4', .slice ap' n5' c5', .int .i64 i1', .int .i64 i2', .bool b1']) b →
   RIn (.agg #[.slice an n1 c1, .slice al n2 c2, .slice aw n3 c3, .slice ad n4 c4, .slice ap n5 c5, .int .i64 i1, .int .i64 i2, .bool b1]) b ∨ B ≤ b := by
 intro b hb
 rw [rin8] at hb ⊢
 obtain ⟨a, ha, x, rfl, hx⟩ := hb
 rcases h _ ha with h | ⟨g, o', h, hg⟩
 ·exact .inl ⟨_, h, x, rfl, hx⟩
 ·cases h
  exact .inr (by dsimp only at hx; omega)
def RDone (m : Nat) (S : Dev) (code : Int) (v : Value) (w : World) : Ending → World → Prop := fun e w' => ∃ v', e = .returned (.tuple #[v', .int .i64 code]) ∧ RAt w' v' m S.ref ∧ (∀ b, RIn v' b → RIn v b ∨ w.heap.size ≤ b) ∧ Below w.heap.size w w'
theorem RAt.touch {w w' : World} {v : Value} {m : Nat} {R : RDev} (h : RAt w v m R) {L : List Nat} (ht : Touch L w w') (hL : m = 0 ∨ ∀ b, RIn v b → b ∉ L) : RAt w' v m R := by
 obtain ⟨an, cn, al, cl, aw, cw, ad, cd, ap, cp, rfl, h1, h2, h3, h4, h5⟩ := h.ex
 have key : ∀ (a : Option Addr) (vs : List Value), a ∈ [an, al, aw, ad, ap] → (m = 0 → vs = []) → Cells w a vs → Cells w' a vs := by
  intro a vs ha h0 hc
  rcases hc with hc | ⟨b, off, rfl, hc⟩
  ·exact .inl hc
  ·rcases hL with hm | hL
   ·exact .inl (h0 hm)
   ·exact .inr ⟨b, off, rfl, fun i v hi => cell_of_touch ht (hL b (rin8.2 ⟨_, ha, _, rfl, rfl⟩)) (hc i v hi)⟩
 have z : ∀ l : List Nat, l.length = 8 * m → m = 0 → l.map vu64 = [] := fun l hl hm => by subst hm; simp at hl; simp [hl]
 have z2 : ∀ l : List Bool, l.length = m → m = 0 → l.map Value.bool = [] := fun l hl hm => by subst hm; simp at hl; simp [hl]
 exact { h with ex := ⟨an, cn, al, cl, aw, cw, ad, cd, ap, cp, rfl, key _ _ (by simp) (z _ h.lenN) h1, key _ _ (by simp) (z _ h.lenL) h2, key _ _ (by simp) (z _ h.lenW) h3, key _ _ (by simp) (z2 _ h.lenD) h4, key _ _ (by simp) (z2 _ h.lenP) h5⟩ }
theorem RAt.old {w : World} {v : Value} {m : Nat} {R : RDev} (h : RAt w v m R) : m = 0 ∨ ∀ b, RIn v b → b < w.heap.size := by
 by_cases hm : m = 0
 ·exact .inl hm
 refine .inr fun b hb => ?_
 obtain ⟨an, cn, al, cl, aw, cw, ad, cd, ap, cp, rfl, h1, h2, h3, h4, h5⟩ := h.ex
 rw [rin8] at hb
 obtain ⟨a, ha, x, rfl, rfl⟩ := hb
 have key : ∀ vs : List Value, vs ≠ [] → Cells w (some x) vs → x.block < w.heap.size := by
  intro vs hne hc
  rcases hc with hc | ⟨b', off, he, hc⟩
  ·exact absurd hc hne
  ·cases he
   cases vs with
   | nil => exact absurd rfl hne
   | cons x xs => exact World.block_lt_of_cell? _ _ (hc 0 x rfl)
 have z : ∀ l : List Nat, l.length = 8 * m → l.map vu64 ≠ [] := fun l hl h => by simp at h; subst h; simp at hl; omega
 have z2 : ∀ l : List Bool, l.length = m → l.map Value.bool ≠ [] := fun l hl h => by simp at h; subst h; simp at hl; omega
 simp only [List.mem_cons, List.not_mem_nil, or_false] at ha
 rcases ha with rfl | rfl | rfl | rfl | rfl
 ·exact key _ (z _ h.lenN) h1
 ·exact key _ (z _ h.lenL) h2
 ·exact key _ (z _ h.lenW) h3
 ·exact key _ (z2 _ h.lenD) h4
 ·exact key _ (z2 _ h.lenP) h5
theorem rat_mk {w W : World} (hb : Below w.heap.size w W) {S : Dev} (hw : S.wf) {m : Nat} (hm : m = S.dirty.length) {an al aw ad ap : Option Addr} {cn cl cw cd cp : Nat} {st fz : Int} {dd : Bool} (hs : st = S.steps) (hf : fz = S.ref.fuse) (hd : dd = S.dead)
  (k1 : Cells W an (S.cache.map vu64)) (k2 : Cells W al (S.lasting.map vu64)) (k3 : Cells W aw (S.flushed.map vu64)) (k4 : Cells W ad (S.dirty.map Value.bool)) (k5 : Cells W ap (S.pending.map Value.bool)) :
  RAt W (.agg #[.slice an m cn, .slice al m cl, .slice aw m cw, .slice ad m cd, .slice ap m cp, .int .i64 st, .int .i64 fz, .bool dd]) m S.ref := by
 subst hm hs hf hd
 exact ⟨⟨_, _, _, _, _, _, _, _, _, _, rfl, k1, k2, k3, k4, k5⟩, hw.lenD, by show S.lasting.length = _; rw [hw.lenL, hw.lenD], by show S.flushed.length = _; rw [hw.lenF, hw.lenD], rfl, hw.lenP, hw.u64C, hw.u64L, hw.u64F⟩
set_option maxHeartbeats 4000000 in
set_option maxRecDepth 100000 in
theorem rstore_any {w : World} {v : Value} {S : Dev} (h : RAt w v S.dirty.length S.ref) {N : Nat} (hN : N < 1000000000000) (hf : S.fit N) (i : Int) (x : Nat) (hx : x < 18446744073709551616) (hi : -9223372036854775808 ≤ i ∧ i ≤ 9223372036854775807) :
  Calls Tryz.prog 48 #[v, .int .i64 i, vu64 x] w (RDone S.dirty.length (S.store i x) (S.storeE i) v w) := by
 obtain ⟨an, cn, al, cl, aw, cw, ad, cd, ap, cp, hv, k1, k2, k3, k4, k5⟩ := h.ex
 obtain ⟨m, hm⟩ : ∃ m, m = S.dirty.length := ⟨_, rfl⟩
 have hsm := hf.wf.small
 have hld := hf.wf.lenD
 have hst0 := hf.ok
 unfold Dev.ok at hst0
 have hfz := Dev.fit_fuse hf
 have HRS := LH (rstep_ref hf)
 have HSF := LH (Dev.step_fit hf)
 have HDF := LH hf
 rw [← hm] at hv
 subst hv
 rw [← hm]
 have HSt : Hid (S.store i x = if i < 0 ∨ (S.cache.length : Int) ≤ i then S else if S.stop then S.step else S.step.put i.toNat x) := LH rfl
 have HSE : Hid (S.storeE i = if i < 0 ∨ (S.cache.length : Int) ≤ i then 2 else if S.stop then 3 else 0) := LH rfl
 generalize hPo : RDone m (S.store i x) (S.storeE i) _ w = Post
 have HPo := LH hPo
 rw [← hm] at hld
 have HMm := LH hm
 have hcl : S.cache.length = 8 * m := hld
 have HCL := LH hcl
 have hm8 : m ≤ 125000 := by omega
 have e1 : S.ref.steps = S.steps := rfl
 have e2 : S.ref.dead = S.dead := rfl
 have e3 : S.ref.now = S.cache := rfl
 have e4 : S.ref.last = S.lasting := rfl
 have e5 : S.ref.wait = S.flushed := rfl
 have e6 : S.ref.dirty = S.dirty := rfl
 have e7 : S.ref.pending = S.pending := rfl
 rw [e3] at k1
 rw [e4] at k2
 rw [e5] at k3
 rw [e6] at k4
 rw [e7] at k5
 rw [e1, e2]
 clear e1 e2 e3 e4 e5 e6 e7 hPo hm hcl hld hsm hf h
 generalize hsv : S.steps = sv at *
 generalize hfv : S.ref.fuse = fz at *
 generalize hdv : S.dead = dd at *
 have HV := LH (And.intro hsv (And.intro hfv hdv))
 have K1 := LH k1
 have K2 := LH k2
 have K3 := LH k3
 have K4 := LH k4
 have K5 := LH k5
 clear k1 k2 k3 k4 k5
 clear hsv hfv hdv
 have HM := LH (Mem.two w #[.slice an m cn, .slice al m cl, .slice aw m cw, .slice ad m cd, .slice ap m cp, .int .i64 sv, .int .i64 fz, .bool dd] 38 zeroD 38)
 unfold zeroD at HM
 go_enter Tryz.func48, Tryz.ntmps48
 go_upto_region 1 with fail
 generalize (w.alloc _).alloc _ = w0 at *
 obtain ⟨q, hq⟩ : ∃ q, q = w.heap.size := ⟨_, rfl⟩
 rw [← hq] at HM ⊢
 have HQ := LH hq
 clear hq
 have c0 := HM.out.cell 0 0 rfl rfl
 by_cases h0 : i < 0 ∨ (S.cache.length : Int) ≤ i
 ·have hbad : Hid (S.store i x = S ∧ S.storeE i = 2) := LH (by rw [HSt.out, HSE.out, if_pos h0, if_pos h0]; exact ⟨rfl, rfl⟩)
  have h0' : i < 0 ∨ 8 * (m : Int) ≤ i := by have := HCL.out; omega
  clear h0
  by_cases h1 : i < 0
  ·go_wp2_with (first | (refine wpList_load_mem aggRd HM.out 0 rfl rfl rfl rfl rfl ?_) | (refine wpList_store_mem aggRd HM.out 1 rfl rfl rfl rfl rfl rfl rfl rfl ?_; intro w9 h9 _; have H9 := LH h9; clear h9))
   refine bodyPost_ret (results_cell_row2 (p := 6) (u := 7) rfl _ _ _ _ _ _ _ rfl (H9.out.exact 1 rfl) Tryz.underlying38 rfl (by kernel_rfl)) rfl ?_
   rw [← HPo.out, hbad.out.1, hbad.out.2]
   exact ⟨_, rfl, rat_mk H9.out.below HDF.out.wf HMm.out HV.out.1.symm HV.out.2.1.symm HV.out.2.2.symm (K1.out.below H9.out.below (Nat.le_refl _)) (K2.out.below H9.out.below (Nat.le_refl _)) (K3.out.below H9.out.below (Nat.le_refl _)) (K4.out.below H9.out.below (Nat.le_refl _)) (K5.out.below H9.out.below (Nat.le_refl _)), rin_mk (fun a ha => .inl ha), H9.out.below⟩
  ·have h2 : 8 * (m : Int) ≤ i := by omega
   clear h0'
   go_wp2_with (first | (refine wpList_load_mem aggRd HM.out 0 rfl rfl rfl rfl rfl ?_) | (refine wpList_store_mem aggRd HM.out 1 rfl rfl rfl rfl rfl rfl rfl rfl ?_; intro w9 h9 _; have H9 := LH h9; clear h9))
   refine bodyPost_ret (results_cell_row2 (p := 6) (u := 7) rfl _ _ _ _ _ _ _ rfl (H9.out.exact 1 rfl) Tryz.underlying38 rfl (by kernel_rfl)) rfl ?_
   rw [← HPo.out, hbad.out.1, hbad.out.2]
   exact ⟨_, rfl, rat_mk H9.out.below HDF.out.wf HMm.out HV.out.1.symm HV.out.2.1.symm HV.out.2.2.symm (K1.out.below H9.out.below (Nat.le_refl _)) (K2.out.below H9.out.below (Nat.le_refl _)) (K3.out.below H9.out.below (Nat.le_refl _)) (K4.out.below H9.out.below (Nat.le_refl _)) (K5.out.below H9.out.below (Nat.le_refl _)), rin_mk (fun a ha => .inl ha), H9.out.below⟩
 obtain ⟨j, rfl⟩ := Int.eq_ofNat_of_zero_le (show 0 ≤ i by omega)
 have hjm : (j : Int) < 8 * (m : Int) := by have := HCL.out; omega
 have hStop : Hid (S.store (j : Int) x = (if S.stop then S.step else S.step.put j x) ∧ S.storeE (j : Int) = if S.stop then 3 else 0) := LH (by rw [HSt.out, HSE.out, if_neg h0, if_neg h0]; exact ⟨rfl, rfl⟩)
 clear h0
 go_upto_region 3 with fail
 go_wp2_with (refine wpList_load_mem aggRd HM.out 0 rfl rfl rfl rfl rfl ?_)
 refine (rstep_any an al aw ad ap m cn cl cw cd cp sv fz dd _ (by omega) hfz).mono ?_
 rintro e w1 ⟨rfl, hb1⟩
 rw [HRS.out.1, HRS.out.2.1, HRS.out.2.2.1, HRS.out.2.2.2]
 have HM1 := LH (HM.out.later hb1)
 clear hb1 HM c0
 obtain ⟨r1, r2, r3, r4, r5⟩ := S.step_rest
 have HSr := LH (S.step_rest)
 clear r1 r2 r3 r4 r5
 generalize hsv : S.step.steps = sv1 at *
 generalize hfv : S.step.ref.fuse = fz1 at *
 generalize hdv : S.step.dead = dd1 at *
 have HV1 := LH (And.intro hsv (And.intro hfv hdv))
 clear hsv hfv hdv
 generalize hstop : S.stop = st at *
 have HStp := LH hstop
 clear hstop
 go_upto_region 4 with (refine wpList_store_mem aggRd HM1.out 0 rfl rfl rfl rfl rfl rfl rfl rfl ?_; intro w2 h2 _; have HM2 := LH h2; clear h2)
 clear HM1
 cases st
 case true =>
  go_wp2_with (first | (refine wpList_load_mem aggRd HM2.out 0 rfl rfl rfl rfl rfl ?_) | (refine wpList_store_mem aggRd HM2.out 1 rfl rfl rfl rfl rfl rfl rfl rfl ?_; intro w9 h9 _; have H9 := LH h9; clear h9))
  refine bodyPost_ret (results_cell_row2 (p := 6) (u := 7) rfl _ _ _ _ _ _ _ rfl (H9.out.exact 1 rfl) Tryz.underlying38 rfl (by kernel_rfl)) rfl ?_
  rw [← HPo.out, hStop.out.1, hStop.out.2, if_pos trivial, if_pos trivial]
  obtain ⟨r1, r2, r3, r4, r5⟩ := HSr.out
  refine ⟨_, rfl, rat_mk H9.out.below HSF.out.wf (by rw [r4]; exact HMm.out) HV1.out.1.symm HV1.out.2.1.symm HV1.out.2.2.symm ?_ ?_ ?_ ?_ ?_, rin_mk (fun a ha => .inl ha), H9.out.below⟩
  ·rw [r2]; exact K1.out.below H9.out.below (Nat.le_refl _)
  ·rw [r1]; exact K2.out.below H9.out.below (Nat.le_refl _)
  ·rw [r3]; exact K3.out.below H9.out.below (Nat.le_refl _)
  ·rw [r4]; exact K4.out.below H9.out.below (Nat.le_refl _)
  ·rw [r5]; exact K5.out.below H9.out.below (Nat.le_refl _)
 case false =>
  have c0 := HM2.out.cell 0 0 rfl rfl
  have c3 := HM2.out.cell 0 3 rfl rfl
  go_upto_region 6 with fail
  have r0 := fun x => later_cell c0 x
  have r3 := fun x => later_cell c3 x
  refine wp_region_seg (C := fun w' => ∃ x : Later (w2), w' = x.val) [.fl [0, 1, 3, 4], .sq [2] true, .fl [6], .sq [5] true, .sq [7, 8, 9] false] (by kernel_rfl) (by kernel_rfl) (by intro c a d v w h; cases d <;> exact h) ?_
  simp only [segs, picks, List.getElem?_cons_succ, List.getElem?_cons_zero]
  have hC1 := later_drew (w2)
  refine wpSeg_fl hC1 ?_
  repeat (first | go_big_quiet_step (fail) | quiet_step (fail))
  refine wpQuiet_nil ?_
  refine wpSeg_sq (fun K hK => ?_)
  go_wp2_with fail
  have HM3 := LH (HM2.out.later (later_below hC1))
  refine (rlines_any an m cn S.cache _ (K1.out.below HM3.out.below (Nat.le_refl _)) HCL.out (by omega)).mono ?_
  rintro e w3 ⟨g1, cg1, rfl, hg1, hc1, hm1, hr1, hb3⟩
  have hC2 := later_step hC1 hb3
  have HM4 := LH (HM3.out.row hb3 hr1 hg1)
  clear hr1 hb3 HM3
  go_wp2_with fail
  refine hK _ _ (fun _ => hC2) ?_
  clear hK K
  refine wpSeg_fl hC2 ?_
  repeat (first | go_big_quiet_step (fail) | quiet_step (fail))
  refine wpQuiet_nil ?_
  refine wpSeg_sq (fun K hK => ?_)
  go_wp2_with fail
  refine (rflags_any ad m cd S.dirty _ (K4.out.below HM4.out.below (Nat.le_refl _)) HMm.out.symm (by omega)).mono ?_
  rintro e w4 ⟨g2, cg2, rfl, hg2, hc2, hm2, hr2, hb4⟩
  have hC3 := later_step hC2 hb4
  have HM5 := LH (HM4.out.row hb4 hr2 hg2)
  clear hr2 hb4 HM4
  go_wp2_with fail
  refine hK _ _ (fun _ => hC3) ?_
  clear hK K
  refine wpSeg_last ?_
  have f0 := HM5.out.frozen 0 0 rfl
  have f3 := HM5.out.frozen 0 3 rfl
  have c0' := HM5.out.cell 0 0 rfl rfl
  have c3' := HM5.out.cell 0 3 rfl rfl
  go_upto_region 7 with fail
  have HM6 := LH ((HM5.out.set 0 0 (.slice (some ⟨g1, 0, none⟩) m cg1) rfl (by simp)).set 0 3 (.slice (some ⟨g2, 0, none⟩) m cg2) rfl (by simp))
  clear HM5 HM2 hC1 hC2 hC3 r0 r3 c0 c3 f0 f3 c0' c3'
  generalize (w4.setCell _ _).setCell _ _ = w5 at *
  have c0 := HM6.out.cell 0 0 rfl rfl
  have c3 := HM6.out.cell 0 3 rfl rfl
  have hlt : j / 8 * 8 + j % 8 < (S.cache.map vu64).length := by rw [List.length_map, HCL.out]; omega
  have hlt2 : j / 8 < (S.dirty.map Value.bool).length := by rw [List.length_map, ← HMm.out]; omega
  have d1 := HM6.out.cell 2 (j / 8 * 8 + j % 8) rfl (List.getElem?_eq_getElem hlt)
  have f1 := HM6.out.frozen 2 (j / 8 * 8 + j % 8) rfl
  have HM7 := LH ((HM6.out.set 2 (j / 8 * 8 + j % 8) (vu64 x) rfl hlt).set 3 (j / 8) (.bool true) rfl hlt2)
  have HM7a := LH (HM6.out.set 2 (j / 8 * 8 + j % 8) (vu64 x) rfl hlt)
  generalize (S.cache.map vu64)[j / 8 * 8 + j % 8] = old at d1
  clear hlt
  have hq3 : 0 ≤ (j : Int) / 8 := by omega
  have hq4 : ((j : Int) / 8).toNat = j / 8 := by omega
  have hq5 : (j : Int) / 8 < (m : Int) := by omega
  have hq5n : j / 8 < m := by omega
  have hq6 : 0 ≤ (j : Int) % 8 := by omega
  have hq7 : ((j : Int) % 8).toNat = j % 8 := by omega
  have hq8 : (j : Int) % 8 < 8 := by omega
  have hq9 : j % 8 < 8 := by omega
  have hq2 : (j : Int).tmod 8 = (j : Int) % 8 := Int.tmod_eq_emod_of_nonneg (by omega)
  have hq1 : IntKind.i64.wrap ((j : Int) / 8) = (j : Int) / 8 := IntWalk.i64_in _ (by omega)
  go_upto_region 8 with fail
  clear d1 f1 c0 c3 HM6
  generalize w5.setCell _ _ = w6 at *
  have c3 := HM7a.out.cell 0 3 rfl rfl
  have d1 := HM7a.out.cell 3 (j / 8) rfl (List.getElem?_eq_getElem hlt2)
  have f1 := HM7a.out.frozen 3 (j / 8) rfl
  generalize (S.dirty.map Value.bool)[j / 8] = old2 at d1
  clear hlt2
  go_wp2_with (first | (refine wpList_load_mem aggRd HM7.out 0 rfl rfl rfl rfl rfl ?_) | (refine wpList_store_mem aggRd HM7.out 1 rfl rfl rfl rfl rfl rfl rfl rfl ?_; intro w9 h9 _; have H9 := LH h9; clear h9))
  refine bodyPost_ret (results_cell_row2 (p := 6) (u := 7) rfl _ _ _ _ _ _ _ rfl (H9.out.exact 1 rfl) Tryz.underlying38 rfl (by kernel_rfl)) rfl ?_
  rw [← HPo.out, hStop.out.1, hStop.out.2, if_neg (by simp), if_neg (by simp)]
  obtain ⟨r1, r2, r3, r4, r5⟩ := HSr.out
  have hwf : (S.step.put j x).wf := by
   have hw := HSF.out.wf
   refine ⟨?_, ?_, ?_, ?_, ?_, hw.u64L, ?_, hw.u64F⟩
   ·simp [Dev.put, hw.lenL]
   ·simp [Dev.put, hw.lenF]
   ·simp [Dev.put, hw.lenP]
   ·simp [Dev.put, hw.lenD]
   ·simp [Dev.put, hw.small]
   ·exact set_lt hw.u64C _ _ hx
  refine ⟨_, rfl, rat_mk H9.out.below hwf (by simp [Dev.put, r4]; exact HMm.out) HV1.out.1.symm HV1.out.2.1.symm HV1.out.2.2.symm ?_ ?_ ?_ ?_ ?_, rin_mk (by have q1 := H9.out.gbase 2 rfl; have q2 := H9.out.gbase 3 rfl; intro a ha; simp only [List.mem_cons, List.not_mem_nil, or_false] at ha ⊢; rcases ha with rfl | rfl | rfl | rfl | rfl <;> first | exact .inr ⟨_, _, rfl, q1⟩ | exact .inr ⟨_, _, rfl, q2⟩ | simp), H9.out.below⟩
  ·have h := (H9.out.at 2 rfl).cells
   rw [show (S.step.put j x).cache = S.cache.set j x by simp [Dev.put, r2], map_set_u64]
   rwa [show j / 8 * 8 + j % 8 = j by omega] at h
  ·rw [show (S.step.put j x).lasting = S.lasting by simp [Dev.put, r1]]; exact K2.out.below H9.out.below (Nat.le_refl _)
  ·rw [show (S.step.put j x).flushed = S.flushed by simp [Dev.put, r3]]; exact K3.out.below H9.out.below (Nat.le_refl _)
  ·have h := (H9.out.at 3 rfl).cells
   rw [show (S.step.put j x).dirty = S.dirty.set (j / 8) true by simp [Dev.put, r4], map_set_bool]
   exact h
  ·rw [show (S.step.put j x).pending = S.pending by simp [Dev.put, r5]]; exact K5.out.below H9.out.below (Nat.le_refl _)
theorem rstore_m {w : World} {v : Value} {S : Dev} {m : Nat} (hm : S.dirty.length = m) (h : RAt w v m S.ref) {N : Nat} (hN : N < 1000000000000) (hf : S.fit N) (i : Int) (x : Nat) (hx : x < 18446744073709551616) (hi : -9223372036854775808 ≤ i ∧ i ≤ 9223372036854775807) :
  Calls Tryz.prog 48 #[v, .int .i64 i, vu64 x] w (RDone m (S.store i x) (S.storeE i) v w) := by
 subst hm; exact rstore_any h hN hf i x hx hi
set_option maxHeartbeats 1000000 in
theorem dlasting_any {w : World} {F : Foot} {S : Dev} (h : DevAt w F S) (i : Int) :
  Calls Tryz.prog 109 #[vdev F, .int .i64 i] w fun e w' => e = .returned (vu64 (peek S.lasting i)) ∧ w = w' := by
 have c1 : w.cell? ⟨F.d, 0, none⟩ = some (.slice (some ⟨F.l, 0, none⟩) S.cache.length F.cl) := cell_of_row _ _ 0 _ _ _ h.head
 have hll := h.lenL
 have HR := LH h.lasting
 by_cases h0 : i < 0
 ·have HP : Hid (peek S.lasting i = 0) := LH (by unfold peek; rw [if_neg (by omega)])
  clear h hll
  go_enter Tryz.func109, Tryz.ntmps109
  go_wp2_with fail
  go_ret
  exact ⟨ret_int (by rw [HP.out]; rfl), rfl⟩
 obtain ⟨j, rfl⟩ := Int.eq_ofNat_of_zero_le (show 0 ≤ i by omega)
 by_cases h1 : j < S.cache.length
 ·have h1' : decide ((S.cache.length : Int) ≤ (j : Int)) = false := by simp; omega
  have h1n : decide (S.cache.length ≤ j) = false := by simp; omega
  have HP : Hid (peek S.lasting (j : Int) = S.lasting.getD j 0) := LH (by unfold peek; rw [if_pos (by omega)]; rfl)
  have d0 : w.cell? ⟨F.l, j, none⟩ = some (vu64 (S.lasting.getD j 0)) := HR.out.cell (by simp [show j < S.lasting.length by omega])
  clear h hll
  generalize S.lasting.getD j 0 = y at *
  go_enter Tryz.func109, Tryz.ntmps109
  go_wp2_with fail
  go_ret
  exact ⟨by rw [HP.out]; rfl, rfl⟩
 ·have h1' : (S.cache.length : Int) ≤ (j : Int) := by omega
  have h1n : S.cache.length ≤ j := by omega
  have HP : Hid (peek S.lasting (j : Int) = 0) := LH (by unfold peek; rw [if_pos (by omega)]; show S.lasting.getD j 0 = 0; exact getD_zero_of (by omega))
  clear h hll
  go_enter Tryz.func109, Tryz.ntmps109
  go_wp2_with fail
  go_ret
  exact ⟨ret_int (by rw [HP.out]; rfl), rfl⟩
end Go.Proofs.YtpopbfagliagnaaGreat
namespace Go.Proofs.YtpopbfagliagnaaGreat
theorem nat_ext {a b : List Nat} (hl : a.length = b.length) (h : ∀ i, a.getD i 0 = b.getD i 0) : a = b := by
 apply List.ext_getElem hl
 intro i h1 h2
 have := h i
 simpa [h1, h2] using this
theorem bool_ext {a b : List Bool} (hl : a.length = b.length) (h : ∀ i, a.getD i false = b.getD i false) : a = b := by
 apply List.ext_getElem hl
 intro i h1 h2
 have := h i
 simpa [h1, h2] using this
structure Clean (S : Dev) (B : Nat) : Prop where
 inv : S.inv
 fits : 256 + B ≤ S.cache.length
 clean : ∀ b, 1 ≤ b → b < B → S.dirty.getD ((256 + b) / 8) false = false
theorem fmtTo_inv {S : Dev} (h : S.inv) (k : Nat) : (S.fmtTo k).inv := by
 induction k with
 | zero => exact h
 | succ k ih =>
  unfold Dev.fmtTo
  split
  ·exact h
  ·exact Dev.store_inv ih _ _ (encN_lt _ _ _ _)
theorem fmt_clean {S : Dev} (h : S.inv) (hv : S.live) (ho : S.ok 100) {B : Nat} (hB2 : 2 ≤ B) (hlen : 256 + B ≤ S.cache.length) : Clean (S.fmt B) B := by
 obtain ⟨p1, p2, p3, p5, p4⟩ := fmtTo_props hv ho B hlen
 have he := (p1.persist 257 (B - 1) (by omega) (by rw [p3, p5]; exact h.wf.lenD) (by rw [p3]; omega)).1
 unfold Dev.fmt
 rw [show ((B : Int) - 1) = ((B - 1 : Nat) : Int) by omega]
 rw [show ((257 : Nat) : Int) = 257 from rfl] at he
 have hi := fmtTo_inv h B
 obtain ⟨q1, q2, q3, q4, q5⟩ := Dev.persist_clean hi 257 (B - 1) (by omega) he
 rw [show ((257 : Nat) : Int) = 257 from rfl] at q1 q4
 exact ⟨Dev.persist_inv hi _ _, by rw [q1, p3]; exact hlen, fun b h1 h2 => q4 (256 + b) (by omega) (by omega)⟩
section
variable {S : Dev} {i : Nat} {V : Nat → Prop}
end
structure BmOk (B : Nat) (m : Bm) : Prop where
 lenL : m.list.length = B
 lenF : m.free.length = B
 clean : Clean m.dev B
 right : ∀ b, b < B → hdRight (m.list.getD b default).k (m.list.getD b default).c (m.list.getD b default).l = true
 word : ∀ b, 1 ≤ b → b < B → m.dev.cache.getD (256 + b) 0 = encN (b : Int) (m.list.getD b default).k (m.list.getD b default).c (m.list.getD b default).l
 free : ∀ b, fb m.free b = true ↔ 1 ≤ b ∧ b < B ∧ (m.list.getD b default).k = 0
 large : ∀ b, 1 ≤ b → b < B → (m.list.getD b default).k = 2 → (b : Int) + (m.list.getD b default).l ≤ B ∧ ∀ i : Nat, 1 ≤ i → (i : Int) < (m.list.getD b default).l → m.list.getD (b + i) default = ⟨3, 0, i⟩
variable {B : Nat} {m : Bm}
variable {B : Nat} {m : Bm}
variable {B : Nat} {m : Bm}
theorem hdGet_at (h : BmOk B m) {a : Nat} (a1 : 1 ≤ a) (a2 : a < B) : hdGet m.list (a : Int) = m.list.getD a default := by unfold hdGet; rw [if_neg (by rw [h.lenL]; omega)]; rfl
end Go.Proofs.YtpopbfagliagnaaGreat
namespace Go.Proofs.YtpopbfagliagnaaGreat
open Go.RowKit
abbrev vob (p d : Int) : Value := .agg #[.int .i64 p, .int .i64 d]
def obN (p d : Int) : Nat := (165 + 256 * p + 16384 * d).toNat
def oencN (a p d : Int) : Nat := if objSize p d = 0 then 0 else sealN (obN p d) (pl a)
theorem obj_small {p d : Int} (h : objSize p d ≠ 0) : (0 ≤ p ∧ p < 64) ∧ (0 ≤ d ∧ d ≤ 16384) := by
 unfold objSize at h
 split at h
 ·exact absurd rfl h
 ·omega
theorem obN_lt {p d : Int} (h : objSize p d ≠ 0) : obN p d < 4294967296 := by
 have := obj_small h
 unfold obN
 omega
theorem oencN_lt (a p d : Int) : oencN a p d < 18446744073709551616 := by
 unfold oencN
 split
 ·decide
 ·rename_i h; exact sealN_lt _ _ (obN_lt h)
set_option maxHeartbeats 1000000 in
theorem oencode_any (a p d : Int) (w : World) : Calls Tryz.prog 258 #[vob p d, .int .i64 a] w fun e w' => e = .returned (vu64 (oencN a p d)) ∧ Below w.heap.size w w' := by
 have hb := below_alloc w (Obj.cells #[Value.int .i64 p, Value.int .i64 d] 169)
 have hg := heap_alloc_new w (Obj.cells #[Value.int .i64 p, Value.int .i64 d] 169)
 go_enter Tryz.func258, Tryz.ntmps258
 go_wp2_with fail
 generalize w.alloc (Obj.cells #[Value.int .i64 p, Value.int .i64 d] 169) = w0 at *
 refine (osize_any p d w0).mono ?_
 rintro e w1 ⟨rfl, hb1⟩
 have hgl : w.heap.size < w0.heap.size := (Array.getElem?_eq_some_iff.1 hg).1
 have hbb := hb.trans (hb1.mono hb.size)
 have hg1 : w1.heap[w.heap.size]? = _ := (hb1.block _ hgl).trans hg
 have c0 : w1.cell? ⟨w.heap.size, 0, none⟩ = some (.int .i64 p) := cell_of_row _ _ 0 _ _ _ hg1
 have c1 : w1.cell? ⟨w.heap.size, 1, none⟩ = some (.int .i64 d) := cell_of_row _ _ 1 _ _ _ hg1
 clear hb hb1 hg hgl hg1
 by_cases hr : objSize p d = 0
 ·have HE : Hid (oencN a p d = 0) := LH (by unfold oencN; rw [if_pos hr])
  rw [hr]
  clear hr
  go_wp2_with fail
  go_ret
  exact ⟨ret_int (by rw [HE.out]; rfl), hbb⟩
 ·have HE : Hid (oencN a p d = sealN (obN p d) (pl a)) := LH (by unfold oencN; rw [if_neg hr])
  have hn := obN_lt hr
  obtain ⟨⟨p0, p1⟩, d0, d1⟩ := obj_small hr
  have HN : Hid (obN p d = (165 + p.toNat * 256 + d.toNat * 16384)) := LH (by unfold obN; omega)
  have hz : (((objSize p d : Nat) : Int) == 0) = false := by simp; omega
  generalize objSize p d = sz at *
  clear hr
  obtain ⟨p, rfl⟩ := Int.eq_ofNat_of_zero_le p0
  obtain ⟨d, rfl⟩ := Int.eq_ofNat_of_zero_le d0
  simp only [Int.toNat_natCast] at HN
  have P1 : Hid (Calls Tryz.prog 272 #[vu64 165, .int .i64 8, .int .i64 6, vu64 p] w1 fun e w' => e = .returned (vu64 (165 + p * 256)) ∧ w1 = w') := LH (put_any 165 8 6 p (by omega) (by omega) (by decide) (by decide) w1)
  have P2 : Hid (Calls Tryz.prog 272 #[vu64 (165 + p * 256), .int .i64 14, .int .i64 15, vu64 d] w1 fun e w' => e = .returned (vu64 (165 + p * 256 + d * 16384)) ∧ w1 = w') := LH (put_any (165 + p * 256) 14 15 d (by omega) (by omega) (by decide) (by decide) w1)
  go_wp2_with fail
  refine P1.out.mono ?_
  rintro e w2 ⟨rfl, rfl⟩
  go_wp2_with fail
  refine P2.out.mono ?_
  rintro e w2 ⟨rfl, rfl⟩
  rw [← HN.out]
  generalize obN (p : Int) (d : Int) = n at *
  clear P1 P2
  go_wp2_with fail
  refine (seal_any n _ hn _).mono ?_
  rintro e w2 ⟨rfl, hb2⟩
  rw [← HE.out]
  go_wp2_with fail
  go_ret
  exact ⟨rfl, hbb.trans (hb2.mono hbb.size)⟩
theorem aggOb : Agg Tryz.prog 169 #[.int .i64 0, .int .i64 0] := ⟨⟨_, Tryz.underlying169, rfl⟩, by kernel_rfl⟩
structure Odec where
 p : Int
 d : Int
 code : Int
def odecS (a : Int) (x n : Nat) : Odec := if oencN a (n / 256 % 64 : Nat) (n / 16384 % 32768 : Nat) = x then ⟨(n / 256 % 64 : Nat), (n / 16384 % 32768 : Nat), 0⟩ else ⟨0, 0, 26⟩
def odecN (a : Int) (x : Nat) : Odec := ((openN x (pl a)).map (odecS a x)).getD ⟨0, 0, 25⟩
def Odec.val (o : Odec) : Value := .tuple #[vob o.p o.d, .int .i64 o.code]
theorem odecN_none {a : Int} {x : Nat} (h : openN x (pl a) = none) : (odecN a x).val = .tuple #[vob 0 0, .int .i64 25] := by unfold odecN; rw [h]; rfl
theorem odecN_some {a : Int} {x n : Nat} (h : openN x (pl a) = some n) : odecN a x = odecS a x n := by unfold odecN; rw [h]; rfl
theorem odecN_ok {a : Int} {x n : Nat} (h : openN x (pl a) = some n) (he : oencN a (n / 256 % 64 : Nat) (n / 16384 % 32768 : Nat) = x) :
  (odecN a x).val = .tuple #[vob (n / 256 % 64 : Nat) (n / 16384 % 32768 : Nat), .int .i64 0] := by
 rw [odecN_some h, odecS, if_pos he]; rfl
theorem odecN_bad {a : Int} {x n : Nat} (h : openN x (pl a) = some n) (he : oencN a (n / 256 % 64 : Nat) (n / 16384 % 32768 : Nat) ≠ x) :
  (odecN a x).val = .tuple #[vob 0 0, .int .i64 26] := by
 rw [odecN_some h, odecS, if_neg he]; rfl
set_option maxHeartbeats 1000000 in
theorem odecode_any (a : Int) (x : Nat) (hx : x < 18446744073709551616) (w : World) :
  Calls Tryz.prog 181 #[.int .i64 a, vu64 x] w fun e w' => e = .returned (odecN a x).val ∧ Below w.heap.size w w' := by
 have hbA := below_alloc w (Obj.cells #[Value.int .i64 0, Value.int .i64 0] 169)
 have hg := heap_alloc_new w (Obj.cells #[Value.int .i64 0, Value.int .i64 0] 169)
 go_enter Tryz.func181, Tryz.ntmps181
 go_wp2_with fail
 generalize w.alloc (Obj.cells #[Value.int .i64 0, Value.int .i64 0] 169) = w0 at *
 refine (open_any x _ hx w0).mono ?_
 rintro e w1 ⟨rfl, hbo⟩
 have hgl : w.heap.size < w0.heap.size := (Array.getElem?_eq_some_iff.1 hg).1
 have hbb := hbA.trans (hbo.mono hbA.size)
 have hg1 : w1.heap[w.heap.size]? = _ := (hbo.block _ hgl).trans hg
 clear hbA hbo hg hgl
 cases ho : openN x (pl a) with
 | none =>
  have HV := LH (odecN_none ho)
  clear ho
  simp only [openV]
  go_wp2_with (refine wpList_store_row (cs := #[.int .i64 0, .int .i64 0]) aggOb hg1 rfl rfl (by simp [Value.oneCell']) rfl rfl rfl rfl ?_; intro w2 hg2 hgr2 hs2)
  refine bodyPost_ret (results_cell_row2 (p := 4) (u := 5) rfl _ _ _ _ _ _ _ rfl hg2 Tryz.underlying169 rfl (by kernel_rfl)) rfl ⟨by rw [HV.out]; rfl, ?_⟩
  exact hbb.grown hgr2 hbb.size (fun k e => by cases e; omega)
 | some n =>
  obtain ⟨hn, -⟩ := openN_some ho
  have HK := LH (odecN_ok ho)
  have HL := LH (odecN_bad ho)
  clear ho
  simp only [openV]
  have G1 : Hid (∀ w, Calls Tryz.prog 224 #[vu64 n, .int .i64 8, .int .i64 6] w fun e w' => e = .returned (vu64 (n / 256 % 64)) ∧ w = w') := LH (fun w => get_any n 8 6 (by omega) (by decide) (by decide) (by decide) w)
  have G2 : Hid (∀ w, Calls Tryz.prog 224 #[vu64 n, .int .i64 14, .int .i64 15] w fun e w' => e = .returned (vu64 (n / 16384 % 32768)) ∧ w = w') := LH (fun w => get_any n 14 15 (by omega) (by decide) (by decide) (by decide) w)
  have h64 : n / 256 % 64 < 64 := by omega
  have h6 : n / 16384 % 32768 < 32768 := by omega
  generalize n / 256 % 64 = k at *
  generalize n / 16384 % 32768 = l at *
  go_wp2_with fail
  refine (G1.out _).mono ?_
  rintro e w2 ⟨rfl, rfl⟩
  go_wp2_with fail
  refine (G2.out _).mono ?_
  rintro e w2 ⟨rfl, rfl⟩
  clear G1 G2
  go_wp2_with fail
  have hb1 := below_alloc w1 (Obj.cells #[Value.int .i64 (k : Int), Value.int .i64 (l : Int)] 169)
  have hg2 := heap_alloc_new w1 (Obj.cells #[Value.int .i64 (k : Int), Value.int .i64 (l : Int)] 169)
  generalize w1.alloc (Obj.cells #[Value.int .i64 (k : Int), Value.int .i64 (l : Int)] 169) = w2 at *
  refine (oencode_any a k l w2).mono ?_
  rintro e w3 ⟨rfl, hb3⟩
  have hgl : w.heap.size < w1.heap.size := (Array.getElem?_eq_some_iff.1 hg1).1
  have hgl2 : w1.heap.size < w2.heap.size := (Array.getElem?_eq_some_iff.1 hg2).1
  have hb3' := hbb.trans ((hb1.trans (hb3.mono hb1.size)).mono hbb.size)
  have hg3 : w3.heap[w.heap.size]? = _ := (hb3.block _ (by omega)).trans ((hb1.block _ hgl).trans hg1)
  have hg4 : w3.heap[w1.heap.size]? = _ := (hb3.block _ hgl2).trans hg2
  have he := oencN_lt a k l
  clear hb1 hb3 hg1 hg2 hbb
  generalize oencN a k l = y at *
  by_cases hyx : y = x
  ·have HV := LH (HK.out hyx)
   subst hyx
   have d0 : w3.cell? ⟨w1.heap.size, 0, none⟩ = some (.int .i64 k) := cell_of_row _ _ 0 _ _ _ hg4
   have d1 : w3.cell? ⟨w1.heap.size, 1, none⟩ = some (.int .i64 l) := cell_of_row _ _ 1 _ _ _ hg4
   go_wp2_with (refine wpList_store_row (cs := #[.int .i64 k, .int .i64 l]) aggOb hg3 rfl rfl (by simp [Value.oneCell']) rfl rfl rfl rfl ?_; intro w4 hg5 hgr4 hs4)
   refine bodyPost_ret (results_cell_row2 (p := 4) (u := 5) rfl _ _ _ _ _ _ _ rfl hg5 Tryz.underlying169 rfl (by kernel_rfl)) rfl ⟨by rw [HV.out]; rfl, ?_⟩
   exact hb3'.grown hgr4 hb3'.size (fun k e => by cases e; omega)
  ·have HV := LH (HL.out hyx)
   have hne : ¬ ((y : Int) = (x : Int)) := by omega
   clear hyx
   go_wp2_with (refine wpList_store_row (cs := #[.int .i64 0, .int .i64 0]) aggOb hg3 rfl rfl (by simp [Value.oneCell']) rfl rfl rfl rfl ?_; intro w4 hg5 hgr4 hs4)
   refine bodyPost_ret (results_cell_row2 (p := 4) (u := 5) rfl _ _ _ _ _ _ _ rfl hg5 Tryz.underlying169 rfl (by kernel_rfl)) rfl ⟨by rw [HV.out]; rfl, ?_⟩
   exact hb3'.grown hgr4 hb3'.size (fun k e => by cases e; omega)
theorem odec_size {a : Int} {x : Nat} (h : (odecN a x).code = 0) : objSize (odecN a x).p (odecN a x).d ≠ 0 ∧ oencN a (odecN a x).p (odecN a x).d = x := by
 unfold odecN at h ⊢
 cases ho : openN x (pl a) with
 | none => rw [ho] at h; simp at h
 | some n =>
  rw [ho] at h
  simp only [Option.map_some, Option.getD_some] at h ⊢
  obtain ⟨h1, h2⟩ := openN_some ho
  unfold odecS at h ⊢
  split
  ·rename_i he
   dsimp only
   refine ⟨fun hs => ?_, he⟩
   unfold oencN at he
   rw [if_pos hs] at he
   subst he
   simp at h2
   subst h2
   revert hs
   decide
  ·rename_i he
   rw [if_neg he] at h
   simp at h
def headN (S : Dev) (a : Int) : Odec :=
 if a < 0 ∨ (S.cache.length : Int) ≤ a then ⟨0, 0, 22⟩ else
  if (odecN a (peek S.cache a)).code ≠ 0 ∨ (S.cache.length : Int) - a < (objSize (odecN a (peek S.cache a)).p (odecN a (peek S.cache a)).d : Nat) then ⟨0, 0, 22⟩ else ⟨(odecN a (peek S.cache a)).p, (odecN a (peek S.cache a)).d, 0⟩
theorem headN_code (S : Dev) (a : Int) : ((headN S a).code = 0 ∧ 0 ≤ a ∧ a < S.cache.length ∧ objSize (headN S a).p (headN S a).d ≠ 0 ∧ a + (objSize (headN S a).p (headN S a).d : Nat) ≤ S.cache.length ∧ oencN a (headN S a).p (headN S a).d = peek S.cache a) ∨ headN S a = ⟨0, 0, 22⟩ := by
 have hz := odec_size (a := a) (x := peek S.cache a)
 unfold headN
 generalize odecN a (peek S.cache a) = x at *
 obtain ⟨p, d, c⟩ := x
 dsimp only at hz ⊢
 split
 ·exact .inr rfl
 ·split
  ·exact .inr rfl
  ·rename_i h1 h2
   have hc : c = 0 := Decidable.byContradiction fun h => h2 (.inl h)
   have := hz hc
   generalize oencN a p d = y at *
   generalize objSize p d = s at *
   exact .inl ⟨rfl, by omega, by omega, this.1, by omega, this.2⟩
set_option maxHeartbeats 2000000 in
set_option maxRecDepth 20000 in
theorem ohead_any {w : World} {F : Foot} {S : Dev} (h : DevAt w F S) (a : Int) :
  Calls Tryz.prog 84 #[vdev F, .int .i64 a] w fun e w' => e = .returned (headN S a).val ∧ Below w.heap.size w w' := by
 have hbA := below_alloc w (Obj.cells #[Value.int .i64 0, Value.int .i64 0] 169)
 have hg := heap_alloc_new w (Obj.cells #[Value.int .i64 0, Value.int .i64 0] 169)
 have hd := h.below hbA
 have hsm := h.small
 have HE : Hid (∀ x : Odec, x = ⟨0, 0, 22⟩ → x.val = .tuple #[vob 0 0, .int .i64 22]) := LH (by rintro x rfl; rfl)
 have HB := LH hbA
 have HD := LH hd
 clear hbA hd h
 by_cases h0 : a < 0
 ·have HV : Hid (headN S a = ⟨0, 0, 22⟩) := LH (by unfold headN; rw [if_pos (.inl h0)])
  go_enter Tryz.func84, Tryz.ntmps84
  go_wp2_with (refine wpList_store_row (cs := #[.int .i64 0, .int .i64 0]) aggOb hg rfl rfl (by simp [Value.oneCell']) rfl rfl rfl rfl ?_; intro w4 hg5 hgr4 hs4)
  refine bodyPost_ret (results_cell_row2 (p := 4) (u := 5) rfl _ _ _ _ _ _ _ rfl hg5 Tryz.underlying169 rfl (by kernel_rfl)) rfl ⟨by rw [HE.out _ HV.out]; rfl, ?_⟩
  exact HB.out.grown hgr4 HB.out.size (fun k e => by cases e; omega)
 by_cases h1 : (S.cache.length : Int) ≤ a
 ·have HV : Hid (headN S a = ⟨0, 0, 22⟩) := LH (by unfold headN; rw [if_pos (.inr h1)])
  go_enter Tryz.func84, Tryz.ntmps84
  go_wp2_with fail
  refine (dlen_any HD.out).mono ?_
  rintro e w1 ⟨rfl, rfl⟩
  go_wp2_with (refine wpList_store_row (cs := #[.int .i64 0, .int .i64 0]) aggOb hg rfl rfl (by simp [Value.oneCell']) rfl rfl rfl rfl ?_; intro w4 hg5 hgr4 hs4)
  refine bodyPost_ret (results_cell_row2 (p := 4) (u := 5) rfl _ _ _ _ _ _ _ rfl hg5 Tryz.underlying169 rfl (by kernel_rfl)) rfl ⟨by rw [HE.out _ HV.out]; rfl, ?_⟩
  exact HB.out.grown hgr4 HB.out.size (fun k e => by cases e; omega)
 have HV0 : Hid (headN S a = if (odecN a (peek S.cache a)).code ≠ 0 ∨ (S.cache.length : Int) - a < (objSize (odecN a (peek S.cache a)).p (odecN a (peek S.cache a)).d : Nat) then ⟨0, 0, 22⟩ else ⟨(odecN a (peek S.cache a)).p, (odecN a (peek S.cache a)).d, 0⟩) := LH (by unfold headN; rw [if_neg (by omega)])
 go_enter Tryz.func84, Tryz.ntmps84
 go_wp2_with fail
 refine (dlen_any HD.out).mono ?_
 rintro e w1 ⟨rfl, rfl⟩
 go_wp2_with fail
 refine (dget_any HD.out a).mono ?_
 rintro e w1 ⟨rfl, rfl⟩
 have hpk := peek_lt HD.out.u64C a
 generalize w.alloc (Obj.cells #[Value.int .i64 0, Value.int .i64 0] 169) = w0 at *
 go_wp2_with fail
 refine (odecode_any a _ hpk _).mono ?_
 rintro e w1 ⟨rfl, hb1⟩
 have hg0 : w.heap.size < w0.heap.size := (Array.getElem?_eq_some_iff.1 hg).1
 have hg1 : w1.heap[w.heap.size]? = _ := (hb1.block _ hg0).trans hg
 have HB1 := LH (HB.out.trans (hb1.mono HB.out.size))
 have HD1 := LH (HD.out.below hb1)
 clear hb1 hg HB HD hpk
 generalize odecN a (peek S.cache a) = x at *
 obtain ⟨p, d, c⟩ := x
 unfold Odec.val
 dsimp only at HV0 ⊢
 have hbx := below_alloc w1 (Obj.cells #[Value.int .i64 p, Value.int .i64 d] 169)
 have hg2 := (hbx.block w.heap.size (by have := HB1.out.size; exact (Array.getElem?_eq_some_iff.1 hg1).1)).trans hg1
 have HB2 := LH (HB1.out.trans (hbx.mono HB1.out.size))
 have HD2 := LH (HD1.out.below hbx)
 have e0 : (w1.alloc (Obj.cells #[Value.int .i64 p, Value.int .i64 d] 169)).cell? ⟨w1.heap.size, 0, none⟩ = some (.int .i64 p) := cell_alloc_new _ _ _ 0 _ rfl
 have e1 : (w1.alloc (Obj.cells #[Value.int .i64 p, Value.int .i64 d] 169)).cell? ⟨w1.heap.size, 1, none⟩ = some (.int .i64 d) := cell_alloc_new _ _ _ 1 _ rfl
 clear hbx hg1 HB1 HD1
 by_cases hc : c = 0
 ·subst hc
  go_wp2_with fail
  refine (osize_any p d _).mono ?_
  rintro e w2 ⟨rfl, hb2⟩
  generalize w1.alloc (Obj.cells #[Value.int .i64 p, Value.int .i64 d] 169) = w1' at *
  have hg3 : w2.heap[w.heap.size]? = _ := (hb2.block _ (Array.getElem?_eq_some_iff.1 hg2).1).trans hg2
  have HB3 := LH (HB2.out.trans (hb2.mono HB2.out.size))
  have HD3 := LH (HD2.out.below hb2)
  have f0 := below_cells hb2 e0 (Nat.le_refl _)
  have f1 := below_cells hb2 e1 (Nat.le_refl _)
  clear hb2 HB2 HD2 hg2 e0 e1
  go_wp2_with fail
  refine (dlen_any HD3.out).mono ?_
  rintro e w3 ⟨rfl, rfl⟩
  have hw1 : IntKind.i64.wrap ((S.cache.length : Int) - a) = (S.cache.length : Int) - a := IntWalk.i64_in _ (by omega)
  by_cases hs : (S.cache.length : Int) - a < (objSize p d : Nat)
  ·have HV : Hid (headN S a = ⟨0, 0, 22⟩) := LH (by rw [HV0.out, if_pos (.inr hs)])
   go_wp2_with (refine wpList_store_row (cs := #[.int .i64 0, .int .i64 0]) aggOb hg3 rfl rfl (by simp [Value.oneCell']) rfl rfl rfl rfl ?_; intro w4 hg5 hgr4 hs4)
   refine bodyPost_ret (results_cell_row2 (p := 4) (u := 5) rfl _ _ _ _ _ _ _ rfl hg5 Tryz.underlying169 rfl (by kernel_rfl)) rfl ⟨by rw [HE.out _ HV.out]; rfl, ?_⟩
   exact HB3.out.grown hgr4 HB3.out.size (fun k e => by cases e; omega)
  ·have HV : Hid (headN S a = ⟨p, d, 0⟩) := LH (by rw [HV0.out, if_neg (fun h => h.elim (fun h => h rfl) hs)])
   go_wp2_with (refine wpList_store_row (cs := #[.int .i64 p, .int .i64 d]) aggOb hg3 rfl rfl (by simp [Value.oneCell']) rfl rfl rfl rfl ?_; intro w4 hg5 hgr4 hs4)
   refine bodyPost_ret (results_cell_row2 (p := 4) (u := 5) rfl _ _ _ _ _ _ _ rfl hg5 Tryz.underlying169 rfl (by kernel_rfl)) rfl ⟨by rw [HV.out]; rfl, ?_⟩
   exact HB3.out.grown hgr4 HB3.out.size (fun k e => by cases e; omega)
 ·have HV : Hid (headN S a = ⟨0, 0, 22⟩) := LH (by rw [HV0.out, if_pos (.inl hc)])
  have hc1 : (c != 0) = true := by simpa using hc
  clear hc
  go_wp2_with (refine wpList_store_row (cs := #[.int .i64 0, .int .i64 0]) aggOb hg2 rfl rfl (by simp [Value.oneCell']) rfl rfl rfl rfl ?_; intro w4 hg5 hgr4 hs4)
  refine bodyPost_ret (results_cell_row2 (p := 4) (u := 5) rfl _ _ _ _ _ _ _ rfl hg5 Tryz.underlying169 rfl (by kernel_rfl)) rfl ⟨by rw [HE.out _ HV.out]; rfl, ?_⟩
  exact HB2.out.grown hgr4 HB2.out.size (fun k e => by cases e; omega)
def Dev.lastsTo (S : Dev) (a : Int) (k : Nat) : Prop := ∀ i : Nat, i < k → peek S.lasting (a + (i : Int)) = peek S.cache (a + (i : Int))
instance (S : Dev) (a : Int) (k : Nat) : Decidable (S.lastsTo a k) := Nat.decidableBallLT k _
end Go.Proofs.YtpopbfagliagnaaGreat
namespace Go.Proofs.YtpopbfagliagnaaGreat
end Go.Proofs.YtpopbfagliagnaaGreat
namespace Go.Proofs.YtpopbfagliagnaaGreat
open Go.RowKit
structure AF where
 a : Nat
 X : MF
 U : SetF
 f : Nat
 mb : Nat
 R : List Nat
def AF.fix (A : AF) : List Nat := A.a :: (A.X.list ++ A.U.list)
def AF.list (A : AF) : List Nat := A.fix ++ A.R
structure Al where
 bm : Bm
 used : List Bool
 fl : FL
def alV (A : AF) (B : Nat) : Array Value := #[.pointer (some ⟨A.X.m, 0, none⟩), vdev A.X.F, .int .i64 (B : Int), vset A.U, .pointer (some ⟨A.f, 0, none⟩)]
abbrev valloc (A : AF) : Value := .pointer (some ⟨A.a, 0, none⟩)
structure AlAt (w : World) (A : AF) (n B : Nat) (m : Al) : Prop where
 head : w.heap[A.a]? = some (.cells (alV A B) 77 (0, 0))
 man : ManAt w A.X n B m.bm
 set : SetAt w A.U m.used
 free : FreeAt w A.f A.mb n A.R m.fl
 nd : A.fix.Nodup
 nR : ∀ b ∈ A.R, b ∉ A.fix
 lenU : m.used.length = m.bm.dev.cache.length
theorem AlAt.mem {w : World} {A : AF} {n B : Nat} {m : Al} (h : AlAt w A n B m) : ∀ k ∈ A.list, k < w.heap.size := by
 intro k hk
 simp only [AF.list, AF.fix, List.mem_append, List.mem_cons] at hk
 rcases hk with (rfl | hk | hk) | hk
 ·exact (Array.getElem?_eq_some_iff.1 h.head).1
 ·exact h.man.mem k hk
 ·exact h.set.mem k hk
 ·exact h.free.mem k hk
theorem AlAt.keep {w w' : World} {A : AF} {n B : Nat} {m : Al} (h : AlAt w A n B m) (hk : ∀ k ∈ A.list, w'.heap[k]? = w.heap[k]?) : AlAt w' A n B m :=
 ⟨(hk A.a (by simp [AF.list, AF.fix])).trans h.head, h.man.keep (fun k h => hk k (by simp [AF.list, AF.fix, h])), h.set.keep (fun k h => hk k (by simp [AF.list, AF.fix, h])), h.free.keep (fun k h => hk k (by simp [AF.list, h])), h.nd, h.nR, h.lenU⟩
theorem AlAt.below {w w' : World} {A : AF} {n B : Nat} {m : Al} (h : AlAt w A n B m) (hb : Below w.heap.size w w') : AlAt w' A n B m := h.keep (fun k hk => hb.block k (h.mem k hk))
theorem AlAt.c0 {w : World} {A : AF} {n B : Nat} {m : Al} (h : AlAt w A n B m) : w.cell? ⟨A.a, 0, none⟩ = some (.pointer (some ⟨A.X.m, 0, none⟩)) := cell_of_row _ _ 0 _ _ _ h.head
theorem AlAt.c1 {w : World} {A : AF} {n B : Nat} {m : Al} (h : AlAt w A n B m) : w.cell? ⟨A.a, 1, none⟩ = some (vdev A.X.F) := cell_of_row _ _ 1 _ _ _ h.head
theorem AlAt.c2 {w : World} {A : AF} {n B : Nat} {m : Al} (h : AlAt w A n B m) : w.cell? ⟨A.a, 2, none⟩ = some (.int .i64 (B : Int)) := cell_of_row _ _ 2 _ _ _ h.head
theorem AlAt.c3 {w : World} {A : AF} {n B : Nat} {m : Al} (h : AlAt w A n B m) : w.cell? ⟨A.a, 3, none⟩ = some (vset A.U) := cell_of_row _ _ 3 _ _ _ h.head
theorem AlAt.c4 {w : World} {A : AF} {n B : Nat} {m : Al} (h : AlAt w A n B m) : w.cell? ⟨A.a, 4, none⟩ = some (.pointer (some ⟨A.f, 0, none⟩)) := cell_of_row _ _ 4 _ _ _ h.head
set_option maxHeartbeats 400000 in
theorem tlen_any {w : World} {p g c B : Nat} {F : Foot} {l : List Hd} (h : TabG w p g c F B l) :
  Calls Tryz.prog 67 #[.pointer (some ⟨p, 0, none⟩)] w fun e w' => e = .returned (.int .i64 (B : Int)) ∧ w = w' := by
 have c2 : w.cell? ⟨p, 2, none⟩ = some (.slice (some ⟨g, 0, none⟩) B c) := cell_of_row _ _ 2 _ _ _ h.head
 clear h
 go_enter Tryz.func67, Tryz.ntmps67
 go_wp2_with fail
 go_ret
 exact ⟨rfl, rfl⟩
def NewAl (w : World) (X : MF) (n B : Nat) (m : Bm) : Ending → World → Prop := fun e w' => ∃ A : AF, e = .returned (.tuple #[valloc A, .int .i64 0]) ∧ A.X = X ∧ AlAt w' A n B ⟨m, List.replicate m.dev.cache.length false, FL.empty⟩ ∧ Below w.heap.size w w' ∧ ∀ k ∈ A.list, k ∈ X.list ∨ w.heap.size ≤ k
set_option maxHeartbeats 4000000 in
set_option maxRecDepth 20000 in
theorem anew_free {w : World} {X : MF} {n B : Nat} {m : Bm} (h : ManAt w X n B m) (hB : B ≤ 1000) (hlen : 1 ≤ m.dev.cache.length) (hno : ∀ b : Nat, b < B → (hdGet m.list (b : Int)).k ≠ 1) :
  Calls Tryz.prog 118 #[vdev X.F, .pointer (some ⟨X.m, 0, none⟩), .slice none 0 0] w (NewAl w X n B m) := by
 have HM := LH h
 have HSm := LH h.dev.small
 have HNo := LH hno
 have HXm := LH h.mem
 have HPost : Hid (∀ A w', A.X = X → AlAt w' A n B ⟨m, List.replicate m.dev.cache.length false, FL.empty⟩ → Below w.heap.size w w' → (∀ k ∈ A.list, k ∈ X.list ∨ w.heap.size ≤ k) → NewAl w X n B m (.returned (.tuple #[valloc A, .int .i64 0])) w') := LH (fun A w' a b c d => ⟨A, rfl, a, b, c, d⟩)
 generalize NewAl w X n B m = Post at *
 clear h hno
 go_enter Tryz.func118, Tryz.ntmps118
 go_wp2_with fail
 refine (bgeom_any HM.out).mono ?_
 rintro e w1 ⟨rfl, hb1⟩
 have HM1 := LH (HM.out.below hb1)
 have HB1 := LH hb1
 clear hb1
 go_wp2_with fail
 refine (dlen_any HM1.out.dev).mono ?_
 rintro e w2 ⟨rfl, rfl⟩
 go_wp2_with fail
 refine (snew_any m.dev.cache.length hlen HSm.out _).mono ?_
 rintro e w2 ⟨U, rfl, hU2, hb2, hU3⟩
 have HM2 := LH (HM1.out.below hb2)
 have HB2 := LH (HB1.out.trans (hb2.mono HB1.out.size))
 have HU := LH hU2
 have HUn := LH (fun k hk => Nat.le_trans HB1.out.size (hU3 k hk))
 clear hU2 hb2 hU3 HM1
 go_wp2_with fail
 refine (fnew_any _).mono ?_
 rintro e w3 ⟨f, mb, rfl, hf3, hb3, hf4, hf5⟩
 have HM3 := LH (HM2.out.below hb3)
 have HB3 := LH (HB2.out.trans (hb3.mono HB2.out.size))
 have HU3 := LH (HU.out.below hb3)
 have HF := LH hf3
 have HFn : Hid (w2.heap.size ≤ f ∧ w2.heap.size ≤ mb) := LH ⟨hf4, hf5⟩
 have HW2 := LH HB2.out.size
 have HU2m := LH HU.out.mem
 clear hf3 hb3 hf4 hf5 HM2
 go_upto_region 2 with fail
 have hbx := below_alloc w3 (Obj.cells #[.pointer (some ⟨X.m, 0, none⟩), vdev X.F, .int .i64 (B : Int), vset U, .pointer (some ⟨f, 0, none⟩)] 77)
 have hhx := heap_alloc_new w3 (Obj.cells #[.pointer (some ⟨X.m, 0, none⟩), vdev X.F, .int .i64 (B : Int), vset U, .pointer (some ⟨f, 0, none⟩)] 77)
 obtain ⟨A, hA⟩ : ∃ A : AF, A = ⟨w3.heap.size, X, U, f, mb, [f, mb]⟩ := ⟨_, rfl⟩
 have HAA : Hid (A.X = X ∧ ∀ k ∈ A.list, k ∈ X.list ∨ w.heap.size ≤ k) := LH (by
  subst hA
  refine ⟨rfl, fun k hk => ?_⟩
  simp only [AF.list, AF.fix, List.mem_append, List.mem_cons, List.not_mem_nil, or_false] at hk
  have h1 := HW2.out
  have h2 := HB3.out.size
  have h3 := HFn.out
  rcases hk with (rfl | hk | hk) | rfl | rfl
  ·right; exact h2
  ·exact .inl hk
  ·exact .inr (HUn.out k hk)
  ·right; omega
  ·right; omega)
 have HAt : Hid (AlAt (w3.alloc (Obj.cells #[.pointer (some ⟨X.m, 0, none⟩), vdev X.F, .int .i64 (B : Int), vset U, .pointer (some ⟨f, 0, none⟩)] 77)) A n B ⟨m, List.replicate m.dev.cache.length false, FL.empty⟩) := LH (by
  subst hA
  have h1 := HW2.out
  have h2 := HB3.out.size
  have h3 := HFn.out
  have hfm := HF.out.mem
  have hf1 := hfm f (by simp)
  have hf2 := hfm mb (by simp)
  obtain ⟨_, _, _, _, hne⟩ := id HF.out
  have hmbf : f ≠ mb := by obtain ⟨V, hV, _⟩ := id HF.out; exact hV.ne
  obtain ⟨ws, hws⟩ := id HU3.out
  have hune := hws.ne
  have hu1 := HU2m.out U.u (by simp [SetF.list])
  have hu2 := HU2m.out U.b (by simp [SetF.list])
  have hu3 := HUn.out U.u (by simp [SetF.list])
  have hu4 := HUn.out U.b (by simp [SetF.list])
  have hXl : ∀ k, w.heap.size ≤ k → k ∉ X.list := fun k hk hm => by have := HXm.out k hm; omega
  refine ⟨hhx, HM3.out.below hbx, HU3.out.below hbx, (HF.out.below hbx).mono (Nat.zero_le _), ?_, ?_, by simp⟩
  ·show (w3.heap.size :: (X.list ++ [U.u, U.b])).Nodup
   rw [List.nodup_cons, List.nodup_append]
   refine ⟨?_, HM3.out.nd, by simpa using hune, ?_⟩
   ·simp only [List.mem_append, List.mem_cons, List.not_mem_nil, or_false, not_or]
    exact ⟨hXl _ h2, by omega, by omega⟩
   ·intro a ha b hb e
    subst e
    simp only [List.mem_cons, List.not_mem_nil, or_false] at hb
    rcases hb with rfl | rfl
    ·exact hXl _ hu3 ha
    ·exact hXl _ hu4 ha
  ·intro b hb
   show b ∉ w3.heap.size :: (X.list ++ [U.u, U.b])
   simp only [List.mem_cons, List.mem_append, List.not_mem_nil, or_false, not_or] at hb ⊢
   rcases hb with rfl | rfl
   ·exact ⟨by omega, hXl _ (by omega), by omega, by omega⟩
   ·exact ⟨by omega, hXl _ (by omega), by omega, by omega⟩)
 have HB4 := LH (HB3.out.trans (hbx.mono HB3.out.size))
 have HAv : Hid (w3.heap.size = A.a) := LH (by rw [hA])
 have HXe : Hid (A.X = X) := LH HAA.out.1
 generalize w3.alloc _ = w4 at *
 rw [HAv.out]
 clear hA hbx hhx HM3 HU3 HF HU2m HUn HFn HW2 HM HXm HB3 HB2 HB1 HU HAv
 go_wp2_with fail
 go_loop [27] (fun i => i = .int .i64 0) (fun _ => 0)
 case atStart => rfl
 case round =>
  subst hrel
  go_wp2_with fail
  go_loopw [13] (fun bv wr => ∃ j : Nat, 1 ≤ j ∧ bv = .int .i64 (j : Int) ∧ Hid (AlAt wr A n B ⟨m, List.replicate m.dev.cache.length false, FL.empty⟩) ∧ Hid (Below w.heap.size w wr)) (fun bv _ => B - (intOf bv).toNat)
  case atStart => exact ⟨1, Nat.le_refl _, rfl, HAt, HB4⟩
  case round =>
   clear HAt HB4
   obtain ⟨j, hj1, rfl, HAt, HBw⟩ := hrel
   have c0 := HAt.out.man.c0
   rw [HXe.out] at c0
   have HMan : Hid (ManAt wr X n B m) := LH (by have := HAt.out.man; rw [HXe.out] at this; exact this)
   go_wp2_with fail
   refine (tlen_any HMan.out.tab).mono ?_
   rintro e w5 ⟨rfl, rfl⟩
   by_cases hlt : j < B
   ·have HNk := LH (HNo.out j hlt)
    go_wp2_with fail
    refine (tget_any (HMan.out.tab.at (MF.notHot (MF.apart HMan.out.nd).t).1) (j : Int) (by rw [HMan.out.tab.len]; exact hB)).mono ?_
    rintro e w6 ⟨rfl, hb6⟩
    generalize hdGet m.list (j : Int) = hd at *
    obtain ⟨k, c, l⟩ := hd
    have hk1 : ((k : Int) == 1) = false := by simpa using HNk.out
    unfold Hd.val
    have hbx := below_alloc w6 (Obj.cells #[.int .i64 k, .int .i64 c, .int .i64 l] 103)
    have HA6 := LH ((HAt.out.below hb6).below hbx)
    have HB6 := LH ((HBw.out.trans (hb6.mono HBw.out.size)).trans (hbx.mono (Nat.le_trans HBw.out.size hb6.size)))
    clear hb6 hbx
    go_wp2_with fail
    go_roundw
    case rel => exact ⟨j + 1, by omega, vint (by omega), HA6, HB6⟩
    case measure => simp [intOf]; omega
   ·have hlt' : decide (j < B) = false := by simp; omega
    go_wp2_with fail
    exact HPost.out A _ HXe.out HAt.out HBw.out HAA.out.2
end Go.Proofs.YtpopbfagliagnaaGreat
namespace Go.Proofs.YtpopbfagliagnaaGreat
def isCell (L : List Hd) (k a : Nat) : Prop :=
 512 ≤ a ∧ a < 512 * L.length ∧ L.getD (a / 512) default = ⟨1, k, 0⟩ ∧ a % 512 % clsWords k = 0 ∧ a % 512 / clsWords k < clsCells k
instance (L : List Hd) (k a : Nat) : Decidable (isCell L k a) := by unfold isCell; infer_instance
def placedN (S : Dev) (L : List Hd) (a : Int) : Option Odec :=
 if a < 512 ∨ 512 * (L.length : Int) ≤ a ∨ (headN S a).code ≠ 0 then none
 else if small (objSize (headN S a).p (headN S a).d) then (if isCell L (ofN (objSize (headN S a).p (headN S a).d : Nat)) a.toNat then some (headN S a) else none)
 else if a.toNat % 512 = 0 ∧ wholeN L (a.toNat / 512) = objBlocks (objSize (headN S a).p (headN S a).d) then some (headN S a) else none
theorem placed_head {S : Dev} {L : List Hd} {a : Int} {o : Odec} (h : placedN S L a = some o) : headN S a = o ∧ o.code = 0 ∧ 512 ≤ a ∧ a < 512 * (L.length : Int) := by
 unfold placedN at h
 split at h
 ·cases h
 ·rename_i h0
  have hc : (headN S a).code = 0 := Decidable.byContradiction fun h => h0 (.inr (.inr h))
  split at h
  ·split at h
   ·cases h; exact ⟨rfl, hc, by omega, by omega⟩
   ·cases h
  ·split at h
   ·cases h; exact ⟨rfl, hc, by omega, by omega⟩
   ·cases h
def roomN (p d : Int) : Nat := if small (objSize p d) then clsWords (ofN (objSize p d : Nat) : Nat) else 512 * objBlocks (objSize p d)
theorem ofN_lt {n : Nat} (h : small n) : ofN (n : Int) < 32 := by
 unfold small at h
 obtain ⟨h1, h2⟩ := h
 unfold ofN
 have : (sizesL.findIdx fun s : Nat => decide ((n : Int) ≤ (s : Int))) < sizesL.length := by
  rw [List.findIdx_lt_length]
  refine ⟨256, by decide, ?_⟩
  simp; omega
 exact this
theorem ofN_fits {n : Nat} (h : small n) : n ≤ clsWords (ofN (n : Int) : Nat) := by
 have hl := ofN_lt h
 rw [clsWords_nat _ hl]
 have hl' : ofN (n : Int) < sizesL.length := hl
 have : decide ((n : Int) ≤ ((sizesL[ofN (n : Int)]'hl' : Nat) : Int)) = true := List.findIdx_getElem (w := hl')
 rw [List.getD_eq_getElem?_getD, List.getElem?_eq_getElem hl']
 simpa using this
theorem room_fits {p d : Int} (h : objSize p d ≠ 0) : objSize p d ≤ roomN p d := by
 unfold roomN
 by_cases hs : small (objSize p d)
 ·rw [if_pos hs]; exact ofN_fits hs
 ·rw [if_neg hs]
  unfold objBlocks
  rw [if_neg hs]; omega
theorem cell_in {k x : Nat} (hk : k < 32) (h1 : x % clsWords k = 0) (h2 : x / clsWords k < clsCells k) : x + clsWords k ≤ 512 := by
 have hp := clsWords_pos (k : Int) (by omega)
 unfold clsCells at h2
 generalize clsWords (k : Int) = W at *
 have e := Nat.div_add_mod x W
 have h3 := Nat.div_mul_le_self 512 W
 have h4 : (x / W + 1) * W ≤ 512 / W * W := Nat.mul_le_mul_right _ h2
 rw [Nat.add_mul, Nat.one_mul, Nat.mul_comm] at h4
 omega
theorem wholeN_fits {L : List Hd} {b : Nat} (h : wholeN L b ≠ 0) : b < L.length ∧ (L.getD b default).k = 2 ∧ ((wholeN L b : Nat) : Int) = (L.getD b default).l ∧ b + wholeN L b ≤ L.length ∧ ∀ i, 1 ≤ i → i < wholeN L b → L.getD (b + i) default = ⟨3, 0, i⟩ := by
 unfold wholeN at h ⊢
 by_cases c1 : L.length ≤ b ∨ (L.getD b default).k ≠ 2 ∨ (L.getD b default).l < 1 ∨ (L.length : Int) - b < (L.getD b default).l
 ·rw [if_pos c1] at h; exact absurd rfl h
 ·rw [if_neg c1] at h ⊢
  by_cases c2 : contTo L b (L.getD b default).l.toNat = true
  ·rw [if_pos c2] at h ⊢
   exact ⟨by omega, by omega, by omega, by omega, fun i h1 h2 => contTo_at c2 i h1 h2⟩
  ·rw [if_neg c2] at h; exact absurd rfl h
inductive RoomAt (L : List Hd) (a n : Nat) : Prop
 | cell (k : Nat) (hk : k < 32) (hc : isCell L k a) (hn : n = clsWords k)
 | run (m : Nat) (hb : a % 512 = 0) (h1 : 512 ≤ a) (hm : 1 ≤ m) (hw : wholeN L (a / 512) = m) (hn : n = 512 * m)
theorem placed_room {S : Dev} {L : List Hd} {a : Nat} {o : Odec} (h : placedN S L (a : Int) = some o) : RoomAt L a (roomN o.p o.d) := by
 obtain ⟨hh, _, h1, h2⟩ := placed_head h
 unfold placedN at h
 rw [hh] at h
 split at h
 ·cases h
 ·unfold roomN
  by_cases hs : small (objSize o.p o.d)
  ·rw [if_pos hs] at h ⊢
   split at h
   ·next hc => exact .cell _ (ofN_lt hs) hc rfl
   ·cases h
  ·rw [if_neg hs] at h ⊢
   split at h
   ·next hc =>
    refine .run _ hc.1 (by omega) ?_ hc.2 rfl
    have hw := hc.2
    unfold objBlocks
    rw [if_neg hs]
    have h0 : objSize o.p o.d ≠ 0 := by
     have := headN_code S (a : Int)
     rw [hh] at this
     rcases this with this | this
     ·exact this.2.2.2.1
     ·rename_i hb
      rw [this] at hb
      exact absurd (.inr (.inr (by simp))) hb
    omega
   ·cases h
theorem RoomAt.pos {L : List Hd} {a n : Nat} (h : RoomAt L a n) : 2 ≤ n ∧ 512 ≤ a ∧ a + n ≤ 512 * L.length := by
 rcases h with ⟨k, hk, hc, rfl⟩ | ⟨m, hb, h1, hm, hw, rfl⟩
 ·have hp := clsWords_pos (k : Int) (by omega)
  obtain ⟨c1, c2, c3, c4, c5⟩ := hc
  have := cell_in hk c4 c5
  exact ⟨hp, c1, by omega⟩
 ·have hf := wholeN_fits (L := L) (b := a / 512) (by omega)
  refine ⟨by omega, h1, ?_⟩
  have := hf.2.2.2.1
  rw [hw] at this
  omega
structure AlOk (B : Nat) (m : Al) : Prop where
 bm : BmOk B m.bm
 live : m.bm.dev.live
 len : m.bm.dev.cache.length = 512 * B
 lenU : m.used.length = 512 * B
 placed : ∀ a : Nat, m.used.getD a false = true → (placedN m.bm.dev m.bm.list (a : Int)).isSome = true
 cells : ∀ k a : Nat, k < 32 → m.fl.cnt k a = if isCell m.bm.list k a ∧ m.used.getD a false = false then 1 else 0
theorem isCell_kind {L : List Hd} {k a : Nat} (h : isCell L k a) : (L.getD (a / 512) default).k = 1 := by rw [h.2.2.1]
theorem wholeN_of {L : List Hd} {b m : Nat} (hm : 1 ≤ m) (h : L.getD b default = ⟨2, 0, m⟩) (hf : b + m ≤ L.length) (hc : ∀ i, 1 ≤ i → i < m → L.getD (b + i) default = ⟨3, 0, i⟩) : wholeN L b = m := by
 unfold wholeN
 rw [h]
 dsimp only
 rw [if_neg (by omega), Int.toNat_natCast, if_pos (contTo_of hc)]
def cellOf (b k i : Nat) : Nat := 512 * b + i * clsWords k
variable {B : Nat} {m : Al}
theorem AlOk.used_kind (h : AlOk B m) {a : Nat} (hu : m.used.getD a false = true) : 512 ≤ a ∧ a / 512 < B ∧ (m.bm.list.getD (a / 512) default).k ≠ 0 := by
 have hp := h.placed a hu
 obtain ⟨o, ho⟩ := Option.isSome_iff_exists.1 hp
 have hr := placed_room ho
 obtain ⟨p1, p2, p3⟩ := hr.pos
 rw [h.bm.lenL] at p3
 refine ⟨p2, by omega, ?_⟩
 rcases hr with ⟨k, hk, hc, _⟩ | ⟨x, hb, h1, hx, hw, _⟩
 ·rw [isCell_kind hc]; decide
 ·have := wholeN_fits (L := m.bm.list) (b := a / 512) (by omega)
  rw [this.2.1]; decide
theorem cellOf_at {b k i : Nat} (hk : k < 32) (hi : i < clsCells k) : cellOf b k i / 512 = b ∧ cellOf b k i % 512 = i * clsWords k ∧ (i * clsWords k) % clsWords k = 0 ∧ (i * clsWords k) / clsWords k = i := by
 have hp := clsWords_pos (k : Int) (by omega)
 have h1 : (i * clsWords (k : Int)) % clsWords k = 0 := Nat.mul_mod_left _ _
 have h2 : (i * clsWords (k : Int)) / clsWords k = i := Nat.mul_div_cancel _ (by omega)
 have := cell_in hk h1 (by rw [h2]; exact hi)
 unfold cellOf
 exact ⟨by omega, by omega, h1, h2⟩
theorem isCell_of {L : List Hd} {b k x : Nat} (hk : k < 32) (hb : 1 ≤ b) (hbL : b < L.length) (hL : L.getD b default = ⟨1, k, 0⟩) : isCell L k x ∧ x / 512 = b ↔ ∃ i, i < clsCells k ∧ x = cellOf b k i := by
 constructor
 ·rintro ⟨⟨c1, c2, c3, c4, c5⟩, e⟩
  refine ⟨x % 512 / clsWords k, c5, ?_⟩
  unfold cellOf
  have := Nat.div_add_mod (x % 512) (clsWords k)
  rw [c4, Nat.mul_comm] at this
  omega
 ·rintro ⟨i, hi, rfl⟩
  obtain ⟨e1, e2, e3, e4⟩ := cellOf_at (b := b) hk hi
  exact ⟨⟨by omega, by omega, by rw [e1]; exact hL, by rw [e2]; exact e3, by rw [e2, e4]; exact hi⟩, e1⟩
variable {B : Nat} {m : Al}
end Go.Proofs.YtpopbfagliagnaaGreat
