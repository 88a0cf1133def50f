/- Parts of the proof, one behind the other: Pu, Va, Vb, Vc, Vd, Ve, Im, Io, Ip, Ix, Iy, Iz. -/
import Derived.Test.YtpopbfagliagnaaGreatCF4
import Derived.Deep.Cut
import Derived.Maps.OwnOps
import Derived.Maps.RangeWalk
import Derived.Maps.OwnSet
import Derived.Maps.Views
import Derived.WideKeyEntry
import Derived.Carry
set_option linter.unusedVariables false
namespace Go.Proofs.YtpopbfagliagnaaGreat
open Go.RowKit
theorem Touch.wide {L M : List Nat} {w w' : World} (h : Touch L w w') (hs : ∀ b ∈ L, b ∈ M) : Touch M w w' := ⟨h.os, h.tape, h.output, h.size, fun k hk hn => h.block k hk (fun hm => hn (hs k hm))⟩
structure TabG (w : World) (p g c : Nat) (F : Foot) (B : Nat) (l : List Hd) : Prop where
 head : w.heap[p]? = some (.cells #[vdev F, .int .i64 (B : Int), .slice (some ⟨g, 0, none⟩) B c] 223 (0, 0))
 len : l.length = B
 cap : B ≤ c
 row : RowAt w g 103 (hdCs l)
theorem TabG.at {w : World} {p g c B : Nat} {F : Foot} {l : List Hd} (h : TabG w p g c F B l) (hne : p ≠ g) : TabAt w p F B l := ⟨g, c, by rw [h.len]; exact h.head, by rw [h.len]; exact h.cap, h.row, hne⟩
theorem TabG.keep {w w' : World} {p g c B : Nat} {F : Foot} {l : List Hd} (h : TabG w p g c F B l) (h1 : w'.heap[p]? = w.heap[p]?) (h2 : w'.heap[g]? = w.heap[g]?) : TabG w' p g c F B l :=
 ⟨h1.trans h.head, h.len, h.cap, h.row.keep h2⟩
theorem TabG.lt {w : World} {p g c B : Nat} {F : Foot} {l : List Hd} (h : TabG w p g c F B l) : p < w.heap.size ∧ g < w.heap.size := ⟨(Array.getElem?_eq_some_iff.1 h.head).1, h.row.lt⟩
theorem TabG.touch {w w' : World} {p g c B : Nat} {F : Foot} {l : List Hd} (h : TabG w p g c F B l) {L : List Nat} (ht : Touch L w w') (h1 : p ∉ L) (h2 : g ∉ L) : TabG w' p g c F B l :=
 h.keep (ht.block p h.lt.1 h1) (ht.block g h.lt.2 h2)
def OpenPostG (f : Nat → Nat) (F : Foot) (B : Nat) (w : World) : Ending → World → Prop := fun en w' => Below w.heap.size w w' ∧
  ((AllOk f B ∧ ∃ p g c, en = .returned (.tuple #[.pointer (some ⟨p, 0, none⟩), .int .i64 0]) ∧ w.heap.size ≤ p ∧ w.heap.size ≤ g ∧ p ≠ g ∧ TabG w' p g c F B (hds f B)) ∨
   (∃ b : Nat, 1 ≤ b ∧ b < B ∧ AllOk f b ∧ (decN b (f b)).code ≠ 0 ∧ en = .returned (.tuple #[.pointer none, .int .i64 21])))
set_option maxHeartbeats 1000000 in
set_option maxRecDepth 100000 in
theorem open_tabG {w : World} {F : Foot} {S : Dev} (h : DevAt w F S) (B : Nat) (hB1 : 1 ≤ B) (hB : B ≤ 1000) :
  Calls Tryz.prog 207 #[vdev F, vgeom B] w (OpenPostG (devWord S) F B w) := by
 have hbx := below_alloc w (.cells #[.int .i64 (B : Int)] 44)
 have HD := LH (h.below hbx)
 have HB := LH hbx
 have hcx : (w.alloc (.cells #[.int .i64 (B : Int)] 44)).cell? ⟨w.heap.size, 0, none⟩ = some (.int .i64 (B : Int)) := cell_alloc_new _ _ _ 0 _ rfl
 generalize hP : OpenPostG (devWord S) F B w = Post
 have HPE := LH hP
 clear h hP hbx
 go_enter Tryz.func207, Tryz.ntmps207
 go_wp2_with fail
 refine (read_any HD.out B hB1 hB).mono ?_
 rintro e w1 ⟨hb1, ⟨hok, g, c, rfl, hg, hgc, hr⟩ | ⟨b, hb0, hbB, hok, hbad, rfl⟩⟩
 ·have hcx1 : w1.cell? ⟨w.heap.size, 0, none⟩ = some (.int .i64 (B : Int)) := below_cells hb1 hcx (Nat.le_refl _)
  have HB1 := LH (HB.out.trans (hb1.mono HB.out.size))
  have HOK := LH hok
  have HR := LH hr
  have hgl := hr.lt
  clear hcx hok hr hb1 HD
  go_wp2_with fail
  rw [← HPE.out]
  refine ⟨HB1.out.alloc HB1.out.size _, .inl ⟨HOK.out, w1.heap.size, g, c, rfl, HB1.out.size, by simp at hg; omega, by omega, ⟨?_, hds_length _ _, hgc, HR.out.keep (Below.heap_alloc _ _ _ hgl)⟩⟩⟩
  rw [heap_alloc_new]
 ·have HB1 := LH (HB.out.trans (hb1.mono HB.out.size))
  have HOK := LH hok
  have HBad := LH hbad
  clear hok hbad hb1 HD
  go_wp2_with fail
  rw [← HPE.out]
  exact ⟨HB1.out, .inr ⟨b, hb0, hbB, HOK.out, HBad.out, rfl⟩⟩
theorem hdCs_set (l : List Hd) (i : Nat) (h : Hd) (hi : i < l.length) : splice (hdCs l) (i * 3) h.cs = hdCs (l.set i h) := by
 have e : l = l.take i ++ l[i] :: l.drop (i + 1) := by rw [List.getElem_cons_drop, List.take_append_drop]
 have h1 : (l.take i).length = i := by simp; omega
 have h2 : l.set i h = l.take i ++ h :: l.drop (i + 1) := List.set_eq_take_append_cons_drop ▸ by rw [if_pos hi]
 rw [h2]
 conv => lhs; rw [e]
 have h3 : (hdCs (l.take i)).length = i * 3 := by rw [hdCs_length, h1]; omega
 unfold splice
 rw [show l.take i ++ l[i] :: l.drop (i + 1) = l.take i ++ ([l[i]] ++ l.drop (i + 1)) by simp, hdCs_append, hdCs_append]
 rw [show l.take i ++ h :: l.drop (i + 1) = l.take i ++ ([h] ++ l.drop (i + 1)) by simp, hdCs_append, hdCs_append]
 have h4 : (hdCs [l[i]]).length = 3 := by simp [hdCs, Hd.cs]
 have h5 : h.cs.length = 3 := by simp [Hd.cs]
 rw [List.take_append_of_le_length (by omega), List.take_of_length_le (by omega), List.drop_append, List.drop_of_length_le (by omega), h3, h5, show i * 3 + 3 - i * 3 = 3 by omega,
  List.drop_append, List.drop_of_length_le (by omega), h4]
 simp [hdCs]
structure PutR where
 dev : Dev
 list : List Hd
 err : Int
def putStep (r : PutR) (b : Nat) (h : Hd) : PutR :=
 if r.err ≠ 0 then r else
  ⟨r.dev.store (256 + (b : Int)) (encN b h.k h.c h.l), if r.dev.storeE (256 + (b : Int)) = 0 then r.list.set b h else r.list, r.dev.storeE (256 + (b : Int))⟩
def putTo (S : Dev) (L : List Hd) (b : Nat) (l : List Hd) : Nat → PutR
 | 0 => ⟨S, L, 0⟩
 | i + 1 => putStep (putTo S L b l i) (b + i) (l.getD i default)
def allRight (l : List Hd) (k : Nat) : Prop := ∀ i, i < k → hdRight (l.getD i default).k (l.getD i default).c (l.getD i default).l = true
instance (l : List Hd) (k : Nat) : Decidable (allRight l k) := Nat.decidableBallLT k _
def putIn (S : Dev) (L : List Hd) (b : Nat) (l : List Hd) : PutR :=
 if (putTo S L b l l.length).err ≠ 0 then putTo S L b l l.length else
  ⟨((putTo S L b l l.length).dev.persist (256 + (b : Int)) l.length).dev, (putTo S L b l l.length).list, ((putTo S L b l l.length).dev.persist (256 + (b : Int)) l.length).err⟩
def putAll (S : Dev) (L : List Hd) (b : Int) (l : List Hd) : PutR :=
 if b < 1 ∨ (L.length : Int) < b ∨ (L.length : Int) - b < (l.length : Int) ∨ ¬ allRight l l.length then ⟨S, L, 1⟩
 else if l.length = 0 then ⟨S, L, 0⟩ else putIn S L b.toNat l
theorem putTo_stays (S : Dev) (L : List Hd) (b : Nat) (l : List Hd) (i : Nat) (h : (putTo S L b l i).err ≠ 0) : ∀ k, i ≤ k → putTo S L b l k = putTo S L b l i
  | 0, hk => by obtain rfl : i = 0 := by omega
                rfl
  | k + 1, hk => by
    by_cases e : i = k + 1
    · rw [e]
    · have := putTo_stays S L b l i h k (by omega)
      rw [putTo, this, putStep, if_pos h]
theorem putTo_len (S : Dev) (L : List Hd) (b : Nat) (l : List Hd) : ∀ i, (putTo S L b l i).list.length = L.length
 | 0 => rfl
 | i + 1 => by
  have := putTo_len S L b l i
  unfold putTo putStep
  split
  ·exact this
  ·dsimp only
   split
   ·rw [List.length_set]; exact this
   ·exact this
theorem putTo_ok {S : Dev} {N : Nat} (h : S.ok N) (L : List Hd) (b : Nat) (l : List Hd) : ∀ i, (putTo S L b l i).dev.ok (N + i)
 | 0 => h
 | i + 1 => by
  have := putTo_ok h L b l i
  unfold putTo putStep
  split
  ·exact this.mono (by omega)
  ·exact Dev.store_okN this _ _
theorem putAll_in (S : Dev) {L : List Hd} {b : Nat} {l : List Hd} (h1 : 1 ≤ b) (h2 : b + l.length ≤ L.length) (h3 : allRight l l.length) : putAll S L b l = if l.length = 0 then ⟨S, L, 0⟩ else putIn S L b l := by
 unfold putAll
 rw [if_neg]
 ·rfl
 ·rintro (h | h | h | h)
  ·omega
  ·omega
  ·omega
  ·exact h h3
set_option maxHeartbeats 2000000 in
set_option maxRecDepth 100000 in
theorem tput_any {w : World} {p g c B : Nat} {F : Foot} {S : Dev} {L : List Hd} (h : DevAt w F S) (ht : TabG w p g c F B L) (hpg : p ≠ g) (hpF : p ∉ F.list) (hgF : g ∉ F.list) {N : Nat} (hN : N ≤ 1000000000) (ho : S.ok N) (hB : B ≤ 1000)
  (a : Option Addr) (n cap : Nat) (l : List Hd) (hn : l.length = n) (hc : Cells w a (hdCs l)) (hap : 0 < n → ∀ b o s, a = some ⟨b, o, s⟩ → b ∉ g :: F.list) (hnm : n ≤ 2 ^ 63 - 1) (b : Int) :
  Calls Tryz.prog 247 #[.pointer (some ⟨p, 0, none⟩), .int .i64 b, .slice a n cap] w fun e w' => e = .returned (.int .i64 (putAll S L b l).err) ∧ DevAt w' F (putAll S L b l).dev ∧ TabG w' p g c F B (putAll S L b l).list ∧ Touch (g :: F.list) w w' := by
 have c2 : w.cell? ⟨p, 2, none⟩ = some (.slice (some ⟨g, 0, none⟩) B c) := cell_of_row _ _ 2 _ _ _ ht.head
 have HD := LH h
 have HT := LH ht
 have HLB := LH ht.len
 have HN := LH hn
 have HC := LH hc
 have HAP := LH hap
 clear hn hc hap
 clear h ht
 by_cases h1 : b < 1
 ·have HE : Hid (putAll S L b l = ⟨S, L, 1⟩) := LH (by unfold putAll; rw [if_pos (.inl h1)])
  go_enter Tryz.func247, Tryz.ntmps247
  go_wp2_with fail
  go_ret
  rw [HE.out]
  exact ⟨rfl, HD.out, HT.out, Touch.refl _ _⟩
 by_cases h2 : (B : Int) < b
 ·have HE : Hid (putAll S L b l = ⟨S, L, 1⟩) := LH (by unfold putAll; rw [if_pos (.inr (.inl (by rw [HLB.out]; exact h2)))])
  go_enter Tryz.func247, Tryz.ntmps247
  go_wp2_with fail
  go_ret
  rw [HE.out]
  exact ⟨rfl, HD.out, HT.out, Touch.refl _ _⟩
 obtain ⟨j, rfl⟩ := Int.eq_ofNat_of_zero_le (show 0 ≤ b by omega)
 by_cases h3 : (B : Int) - (j : Int) < (n : Int)
 ·have HE : Hid (putAll S L j l = ⟨S, L, 1⟩) := LH (by unfold putAll; rw [if_pos (.inr (.inr (.inl (by rw [HLB.out, HN.out]; exact h3))))])
  have hw1 : IntKind.i64.wrap ((B : Int) - (j : Int)) = (B : Int) - (j : Int) := IntWalk.i64_in _ (by omega)
  go_enter Tryz.func247, Tryz.ntmps247
  go_wp2_with fail
  go_ret
  rw [HE.out]
  exact ⟨rfl, HD.out, HT.out, Touch.refl _ _⟩
 have hj1 : 1 ≤ j := by omega
 have hjn : j + n ≤ B := by omega
 have hw1 : IntKind.i64.wrap ((B : Int) - (j : Int)) = (B : Int) - (j : Int) := IntWalk.i64_in _ (by omega)
 have hn3 : n ≤ 1000 := by omega
 clear hnm
 go_enter Tryz.func247, Tryz.ntmps247
 go_wp2_with fail
 go_loopw [37] (fun i wr => ∃ k : Nat, k ≤ n ∧ i = .int .i64 k ∧ allRight l k ∧ Below w.heap.size w wr) (fun i _ => n - (intOf i).toNat)
 case atStart => exact ⟨0, Nat.zero_le _, rfl, fun i hi => absurd hi (Nat.not_lt_zero _), Below.refl _ _⟩
 case round =>
  obtain ⟨k, hk, rfl, har, hb⟩ := hrel
  have HAR := LH har
  have HB := LH hb
  clear har hb
  by_cases hlt : k < n
  ·have hlt' : (k : Int) < (n : Int) := by omega
   have HAS : Hid (hdRight (l.getD k default).k (l.getD k default).c (l.getD k default).l = true → allRight l (k + 1)) := LH (fun hr i hi => by
    by_cases e : i = k
    ·subst e; exact hr
    ·exact HAR.out i (by omega))
   have HNA : Hid (hdRight (l.getD k default).k (l.getD k default).c (l.getD k default).l ≠ true → ¬ allRight l l.length) := LH (fun hr h => hr (h k (by rw [HN.out]; exact hlt)))
   obtain ⟨x, y, z, he⟩ : ∃ x y z, l.getD k default = ⟨x, y, z⟩ := ⟨_, _, _, rfl⟩
   rw [he] at HAS HNA
   obtain ⟨b1, o1, rfl, d0, d1, d2⟩ := hd_cells (HC.out.below HB.out (Nat.le_refl _)) (by rw [HN.out]; exact hlt) he
   clear he
   go_wp2_with fail
   refine (bright_any x y z _).mono ?_
   rintro e w1 ⟨rfl, hb1⟩
   have HB1 := LH ((HB.out.alloc HB.out.size _).trans (hb1.mono (by simp; have := HB.out.size; omega)))
   clear hb1
   cases hrt : hdRight x y z
   ·have HE : Hid (putAll S L j l = ⟨S, L, 1⟩) := LH (by unfold putAll; rw [if_pos (.inr (.inr (.inr (HNA.out (by rw [hrt]; simp)))))])
    clear hrt
    go_wp2_with fail
    go_ret
    rw [HE.out]
    exact ⟨rfl, HD.out.below HB1.out, HT.out.keep (HB1.out.block p HT.out.lt.1) (HB1.out.block g HT.out.lt.2), Touch.ofBelow HB1.out⟩
   ·have HAR1 := LH (HAS.out hrt)
    clear hrt
    go_wp2_with fail
    exact ⟨⟨k + 1, by omega, vint (by omega), HAR1.out, HB1.out⟩, by simp [intOf]; omega⟩
  ·obtain rfl : k = n := by omega
   have hlt' : decide ((k : Int) < (k : Int)) = false := by simp
   have HAR2 : Hid (allRight l l.length) := LH (by rw [HN.out]; exact HAR.out)
   by_cases hk0 : k = 0
   ·subst hk0
    have HE : Hid (putAll S L j l = ⟨S, L, 0⟩) := LH (by rw [putAll_in S hj1 (by rw [HLB.out, HN.out]; exact hjn) HAR2.out, if_pos HN.out])
    go_wp2_with fail
    go_ret
    rw [HE.out]
    exact ⟨rfl, HD.out.below HB.out, HT.out.keep (HB.out.block p HT.out.lt.1) (HB.out.block g HT.out.lt.2), Touch.ofBelow HB.out⟩
   have HE : Hid (putAll S L j l = putIn S L j l) := LH (by rw [putAll_in S hj1 (by rw [HLB.out, HN.out]; exact hjn) HAR2.out, if_neg (by rw [HN.out]; exact hk0)])
   have hk0' : ((k : Int) == 0) = false := by simp; omega
   have hmemF : ∀ q ∈ F.list, q < w.heap.size := HD.out.mem
   have hltT := HT.out.lt
   have HMF := LH hmemF
   clear hmemF
   go_wp2_with fail
   go_loopw [50] (fun i wr => ∃ m : Nat, m ≤ k ∧ i = .int .i64 m ∧ (putTo S L j l m).err = 0 ∧ DevAt wr F (putTo S L j l m).dev ∧ TabG wr p g c F B (putTo S L j l m).list ∧ Touch (g :: F.list) w wr) (fun i _ => k - (intOf i).toNat)
   case atStart => exact ⟨0, Nat.zero_le _, rfl, rfl, HD.out.below HB.out, HT.out.keep (HB.out.block p HT.out.lt.1) (HB.out.block g HT.out.lt.2), Touch.ofBelow HB.out⟩
   case round =>
    obtain ⟨m, hm, rfl, he0, hd0, ht0, htt⟩ := hrel
    have HOk := LH (putTo_ok ho L j l m)
    have HST : Hid (putTo S L j l (m + 1) = putStep (putTo S L j l m) (j + m) (l.getD m default)) := LH rfl
    have HLn := LH (putTo_len S L j l m)
    have HFin : Hid (putIn S L j l = if (putTo S L j l k).err ≠ 0 then putTo S L j l k else ⟨((putTo S L j l k).dev.persist (256 + (j : Int)) k).dev, (putTo S L j l k).list, ((putTo S L j l k).dev.persist (256 + (j : Int)) k).err⟩) := LH (by unfold putIn; rw [HN.out])
    have HStay := LH (putTo_stays S L j l (m + 1))
    have c0 : wr.cell? ⟨p, 0, none⟩ = some (vdev F) := cell_of_row _ _ 0 _ _ _ ht0.head
    have c1 : wr.cell? ⟨p, 1, none⟩ = some (.int .i64 (B : Int)) := cell_of_row _ _ 1 _ _ _ ht0.head
    have c2r : wr.cell? ⟨p, 2, none⟩ = some (.slice (some ⟨g, 0, none⟩) B c) := cell_of_row _ _ 2 _ _ _ ht0.head
    have hpl := ht0.lt
    generalize hR : putTo S L j l m = R at *
    have HRR := LH hR
    clear hR
    have HE0 := LH he0
    have HD0 := LH hd0
    have HT0 := LH ht0
    have HTT := LH htt
    clear he0 hd0 ht0 htt
    by_cases hmk : m < k
    ·have hmk' : (m : Int) < (k : Int) := by omega
     obtain ⟨x, y, z, he⟩ : ∃ x y z, l.getD m default = ⟨x, y, z⟩ := ⟨_, _, _, rfl⟩
     rw [he] at HST
     obtain ⟨b1, o1, rfl, d0, d1, d2⟩ := hd_cells HC.out (by rw [HN.out]; exact hmk) he
     have hnb : b1 ∉ g :: F.list := HAP.out (by omega) _ _ _ rfl
     have f0 := cell_of_touch HTT.out hnb d0
     have f1 := cell_of_touch HTT.out hnb d1
     have f2 := cell_of_touch HTT.out hnb d2
     clear he d0 d1 d2 hnb
     go_upto_region 14 with fail
     have hbx := below_alloc wr (.cells #[.int .i64 x, .int .i64 y, .int .i64 z] 103)
     have hqr : RowAt (wr.alloc (.cells #[.int .i64 x, .int .i64 y, .int .i64 z] 103)) wr.heap.size 103 [.int .i64 x, .int .i64 y, .int .i64 z] := ⟨_, heap_alloc_new _ _, [], rfl⟩
     have HD1 := LH (HD0.out.below hbx)
     have HT1 : Hid (TabG (wr.alloc (.cells #[.int .i64 x, .int .i64 y, .int .i64 z] 103)) p g c F B R.list) := LH (HT0.out.keep (hbx.block p HT0.out.lt.1) (hbx.block g HT0.out.lt.2))
     have HTT1 : Hid (Touch (g :: F.list) w (wr.alloc (.cells #[.int .i64 x, .int .i64 y, .int .i64 z] 103))) := LH (HTT.out.trans (Touch.ofBelow hbx))
     have k0 := below_cells hbx c0 (Nat.le_refl _)
     have k1 := below_cells hbx c1 (Nat.le_refl _)
     have HQR := LH hqr
     have hqF : wr.heap.size ∉ F.list := fun hm => by have := HD0.out.mem _ hm; omega
     have hqg : wr.heap.size ≠ g := by omega
     clear hbx hqr HD0 HT0 HTT c0 c1 c2r hpl f0 f1 f2
     generalize wr.alloc (.cells #[.int .i64 x, .int .i64 y, .int .i64 z] 103) = w1 at *
     generalize wr.heap.size = q at *
     have r0 := fun x => later_cell k0 x
     have r1 := fun x => later_cell k1 x
     have r2 := fun x => later_cell (HQR.out.cell (i := 0) rfl) x
     have r3 := fun x => later_cell (HQR.out.cell (i := 1) rfl) x
     have r4 := fun x => later_cell (HQR.out.cell (i := 2) rfl) x
     clear k0 k1
     have hw2 : IntKind.i64.wrap ((j : Int) + (m : Int)) = (j : Int) + (m : Int) := IntWalk.i64_in _ (by omega)
     refine wp_region_seg (C := fun w' => ∃ x : Later (w1), w' = x.val) [.fl [0, 1, 2, 3, 4, 5, 6, 7, 8, 9, 10, 12, 13, 14, 15], .sq [11] true, .sq [16] true, .sq [17, 18] false] (by kernel_rfl) (by kernel_rfl) (by intro c a d v w h; cases d <;> exact h) ?_
     simp only [segs, picks, List.getElem?_cons_succ, List.getElem?_cons_zero]
     have hC1 := later_drew (w1)
     refine wpSeg_fl hC1 ?_
     repeat (first | go_big_quiet_step (fail) | quiet_step (fail))
     refine wpQuiet_nil ?_
     refine wpSeg_sq (fun K hK => ?_)
     go_wp2_with fail
     refine (gheader_any _ _ _ (by omega)).mono ?_
     rintro e w2 ⟨rfl, hb2⟩
     have HH : Hid (hdAt (B : Int) ((j : Int) + (m : Int)) = 256 + ((j + m : Nat) : Int)) := LH (by unfold hdAt; rw [if_neg (by omega)]; omega)
     rw [HH.out]
     have hC2 := later_step hC1 hb2
     clear hb2
     go_wp2_with fail
     refine hK _ _ (fun _ => hC2) ?_
     clear hK K
     refine wpSeg_sq (fun K hK => ?_)
     go_wp2_with fail
     refine (bencode_any _ x y z (by omega) (by omega) _).mono ?_
     rintro e w3 ⟨rfl, hb3⟩
     have hC3 := later_step hC2 hb3
     clear hb3
     have HJM : Hid ((j : Int) + (m : Int) = ((j + m : Nat) : Int)) := LH (by omega)
     rw [HJM.out]
     go_wp2_with fail
     refine hK _ _ (fun _ => hC3) ?_
     clear hK K
     refine wpSeg_last ?_
     go_wp2_with fail
     have HD3 := LH (HD1.out.below (later_below hC3))
     refine (store_any HD3.out (N := N + m) (by omega) HOk.out _ _ (encN_lt _ _ _ _)).mono ?_
     rintro e w4 ⟨rfl, hd4, ht4⟩
     have HPS : Hid (putTo S L j l (m + 1) = ⟨R.dev.store (256 + ((j : Int) + (m : Int))) (encN ((j : Int) + (m : Int)) x y z), if R.dev.storeE (256 + ((j : Int) + (m : Int))) = 0 then R.list.set (j + m) ⟨x, y, z⟩ else R.list, R.dev.storeE (256 + ((j : Int) + (m : Int)))⟩) := LH (by
      rw [HST.out, putStep, if_neg (by rw [HE0.out]; simp)]; simp only [Int.natCast_add])
     generalize R.dev.store (256 + ((j : Int) + (m : Int))) (encN ((j : Int) + (m : Int)) x y z) = S4 at *
     generalize R.dev.storeE (256 + ((j : Int) + (m : Int))) = E4 at *
     have HT4 : Hid (TabG w4 p g c F B R.list) := LH ((HT1.out.keep ((later_below hC3).block p HT1.out.lt.1) ((later_below hC3).block g HT1.out.lt.2)).touch ht4 hpF hgF)
     have HTT4 : Hid (Touch (g :: F.list) w w4) := LH (HTT1.out.trans ((Touch.ofBelow (later_below hC3)).trans (ht4.wide (fun b hb => List.mem_cons_of_mem _ hb))))
     have HQ4 := LH ((HQR.out.keep ((later_below hC3).block q HQR.out.lt)).keep (ht4.block q (HQR.out.keep ((later_below hC3).block q HQR.out.lt)).lt hqF))
     have HD4 := LH hd4
     clear hd4 ht4 HD3 HT1 HTT1 HQR HD1 hC3 hC2 hC1 r0 r1 r2 r3 r4
     by_cases hz : E4 = 0
     ·subst hz
      have HPT : Hid (putTo S L j l (m + 1) = ⟨S4, R.list.set (j + m) ⟨x, y, z⟩, 0⟩) := LH (by rw [HPS.out, if_pos rfl])
      go_upto_region 17 with fail
      have r0 : ∀ y : Later w4, y.val.cell? ⟨p, 2, none⟩ = some (.slice (some ⟨g, 0, none⟩) B c) := later_cell (cell_of_row _ _ 2 _ _ _ HT4.out.head)
      have r2 := fun x => later_cell (HQ4.out.cell (i := 0) rfl) x
      have r3 := fun x => later_cell (HQ4.out.cell (i := 1) rfl) x
      have r4 := fun x => later_cell (HQ4.out.cell (i := 2) rfl) x
      have hjm : (j : Int) + (m : Int) < (B : Int) := by omega
      have hjm0 : ¬ (j : Int) + (m : Int) < 0 := by omega
      have HR5 : Hid (RowAt w4.drew g 103 (hdCs R.list)) := LH (HT4.out.row.keep rfl)
      have HFit : Hid ((j + m) * 3 + #[Value.int .i64 x, .int .i64 y, .int .i64 z].size ≤ (hdCs R.list).length) := LH (by rw [hdCs_length, HT4.out.len]; simp; omega)
      refine wp_region_seg (C := fun w' => ∃ x : Later (w4), w' = x.val) [.fl [0, 1, 2, 3, 4, 5, 6, 7], .sq [8, 9] false] (by kernel_rfl) (by kernel_rfl) (by intro c a d v w h; cases d <;> exact h) ?_
      simp only [segs, picks, List.getElem?_cons_succ, List.getElem?_cons_zero]
      have hC5 := later_drew (w4)
      refine wpSeg_fl hC5 ?_
      repeat (first | go_big_quiet_step (fail) | quiet_step (fail))
      refine wpQuiet_nil ?_
      refine wpSeg_last ?_
      go_wp2_with (refine wpList_store_part aggHd (g := g) (off := (j + m) * 3) (cs := #[.int .i64 x, .int .i64 y, .int .i64 z]) HR5.out rfl HFit.out (by intro u hu; simp at hu; rcases hu with rfl | rfl | rfl <;> rfl) rfl rfl rfl rfl ?_; intro w5 hr5 ht5; have HR6 := LH hr5; have HT6 := LH ht5; clear hr5 ht5)
      have HT5d : Touch [g] w4 w5 := (Touch.ofBelow (later_below hC5)).trans HT6.out
      refine ⟨⟨m + 1, by omega, vint (by omega), by rw [HPT.out], ?_, ?_, ?_⟩, by simp [intOf]; omega⟩
      ·rw [HPT.out]
       exact HD4.out.keep (fun b hb => HT5d.block b (HD4.out.mem b hb) (by simp; rintro rfl; exact hgF hb))
      ·rw [HPT.out]
       refine ⟨(HT5d.block p HT4.out.lt.1 (by simpa using hpg)).trans HT4.out.head, by rw [List.length_set]; exact HT4.out.len, HT4.out.cap, ?_⟩
       have := HR6.out
       rw [← hdCs_set R.list (j + m) ⟨x, y, z⟩ (by rw [HT4.out.len]; omega)]
       exact this
      ·exact HTT4.out.trans (HT5d.wide (by simp))
     ·have hz1 : (E4 != 0) = true := by simpa using hz
      have HPT : Hid (putAll S L j l = ⟨S4, R.list, E4⟩) := LH (by
       have h1 := HPS.out
       rw [if_neg hz] at h1
       have h2 := HStay.out (by rw [h1]; exact hz) k hmk
       rw [HE.out, HFin.out, h2, h1, if_pos hz])
      go_wp2_with fail
      go_ret
      rw [HPT.out]
      exact ⟨rfl, HD4.out, HT4.out, HTT4.out⟩
    ·obtain rfl : m = k := by omega
     have hlt2 : decide ((m : Int) < (m : Int)) = false := by simp
     go_upto_region 19 with fail
     have r0 := fun x => later_cell c0 x
     have r1 := fun x => later_cell c1 x
     have HPF : Hid (putAll S L j l = ⟨(R.dev.persist (256 + (j : Int)) (m : Int)).dev, R.list, (R.dev.persist (256 + (j : Int)) (m : Int)).err⟩) := LH (by rw [HE.out, HFin.out, HRR.out, if_neg (by rw [HE0.out]; simp)])
     refine wp_region_seg (C := fun w' => ∃ x : Later (wr), w' = x.val) [.fl [0, 1, 2, 3, 4, 5, 6, 7, 8, 10, 11], .sq [9] true, .sq [12, 13] false] (by kernel_rfl) (by kernel_rfl) (by intro c a d v w h; cases d <;> exact h) ?_
     simp only [segs, picks, List.getElem?_cons_succ, List.getElem?_cons_zero]
     have hC1 := later_drew (wr)
     refine wpSeg_fl hC1 ?_
     repeat (first | go_big_quiet_step (fail) | quiet_step (fail))
     refine wpQuiet_nil ?_
     refine wpSeg_sq (fun K hK => ?_)
     go_wp2_with fail
     refine (gheader_any _ _ _ (by omega)).mono ?_
     rintro e w2 ⟨rfl, hb2⟩
     have HH : Hid (hdAt (B : Int) (j : Int) = 256 + (j : Int)) := LH (by unfold hdAt; rw [if_neg (by omega)])
     rw [HH.out]
     have hC2 := later_step hC1 hb2
     clear hb2
     go_wp2_with fail
     refine hK _ _ (fun _ => hC2) ?_
     clear hK K
     refine wpSeg_last ?_
     go_wp2_with fail
     refine (persist_any (HD0.out.below (later_below hC2)) (N := N + m) (by omega) HOk.out _ _ (by omega) (by omega)).mono ?_
     rintro e w3 ⟨rfl, hd3, ht3⟩
     have HD3 := LH hd3
     have HT3 : Hid (TabG w3 p g c F B R.list) := LH ((HT0.out.keep ((later_below hC2).block p HT0.out.lt.1) ((later_below hC2).block g HT0.out.lt.2)).touch ht3 hpF hgF)
     have HTT3 : Hid (Touch (g :: F.list) w w3) := LH (HTT.out.trans ((Touch.ofBelow (later_below hC2)).trans (ht3.wide (fun b hb => List.mem_cons_of_mem _ hb))))
     clear hd3 ht3
     go_wp2_with fail
     go_ret
     rw [HPF.out]
     exact ⟨rfl, HD3.out, HT3.out, HTT3.out⟩
end Go.Proofs.YtpopbfagliagnaaGreat
namespace Go.Proofs.YtpopbfagliagnaaGreat
def IsRun (f : Nat → Bool) (s n : Nat) : Prop :=
 1 ≤ n ∧ (∀ b, s ≤ b → b < s + n → f b = true) ∧ (∀ b, b + 1 = s → f b = false) ∧ f (s + n) = false
theorem IsRun.meet {f : Nat → Bool} {s n s' n' b : Nat} (h : IsRun f s n) (h' : IsRun f s' n') (h1 : s ≤ b) (h2 : b < s + n) (h3 : s' ≤ b) (h4 : b < s' + n') : s = s' ∧ n = n' := by
 obtain ⟨hn, ha, hb, hc⟩ := h
 obtain ⟨hn', ha', hb', hc'⟩ := h'
 have es : s = s' := by
  rcases Nat.lt_trichotomy s s' with hlt | he | hlt
  ·have x := hb' (s' - 1) (by omega)
   have y := ha (s' - 1) (by omega) (by omega)
   rw [x] at y; cases y
  ·exact he
  ·have x := hb (s - 1) (by omega)
   have y := ha' (s - 1) (by omega) (by omega)
   rw [x] at y; cases y
 subst es
 refine ⟨rfl, ?_⟩
 rcases Nat.lt_trichotomy n n' with hlt | he | hlt
 ·have y := ha' (s + n) (by omega) (by omega)
  rw [hc] at y; cases y
 ·exact he
 ·have y := ha (s + n') (by omega) (by omega)
  rw [hc'] at y; cases y
theorem IsRun.one {f : Nat → Bool} {s n n' : Nat} (h : IsRun f s n) (h' : IsRun f s n') : n = n' :=
 (h.meet h' (b := s) (Nat.le_refl _) (by have := h.1; omega) (Nat.le_refl _) (by have := h'.1; omega)).2
theorem IsRun.back {f : Nat → Bool} {s n s' n' : Nat} (h : IsRun f s n) (h' : IsRun f s' n') (he : s + n = s' + n') : s = s' ∧ n = n' :=
 h.meet h' (b := s + n - 1) (by have := h.1; omega) (by have := h.1; omega) (by have := h'.1; omega) (by have := h'.1; omega)
theorem run_start (f : Nat → Bool) : ∀ b, f b = true → ∃ s, s ≤ b ∧ (∀ x, s ≤ x → x ≤ b → f x = true) ∧ ∀ x, x + 1 = s → f x = false
 | 0, h => ⟨0, Nat.le_refl _, fun x _ hx => by rw [show x = 0 by omega]; exact h, fun x hx => by omega⟩
 | b + 1, h => by
  cases hb : f b with
  | false => exact ⟨b + 1, Nat.le_refl _, fun x h1 h2 => by rw [show x = b + 1 by omega]; exact h, fun x hx => by rw [show x = b by omega]; exact hb⟩
  | true =>
   obtain ⟨s, h1, h2, h3⟩ := run_start f b hb
   refine ⟨s, by omega, fun x hx hx' => ?_, h3⟩
   by_cases hxe : x = b + 1
   ·rw [hxe]; exact h
   ·exact h2 x hx (by omega)
theorem run_end (f : Nat → Bool) (L : Nat) (hL : f L = false) : ∀ k b, b + k = L → f b = true → ∃ e, b < e ∧ (∀ x, b ≤ x → x < e → f x = true) ∧ f e = false
 | 0, b, hb, h => by rw [show b = L by omega, hL] at h; cases h
 | k + 1, b, hb, h => by
  cases hn : f (b + 1) with
  | false => exact ⟨b + 1, by omega, fun x h1 h2 => by rw [show x = b by omega]; exact h, hn⟩
  | true =>
   obtain ⟨e, h1, h2, h3⟩ := run_end f L hL k (b + 1) (by omega) hn
   refine ⟨e, by omega, fun x hx hx' => ?_, h3⟩
   by_cases hxe : x = b
   ·rw [hxe]; exact h
   ·exact h2 x (by omega) hx'
theorem has_run {f : Nat → Bool} {L b : Nat} (hL : ∀ x, L ≤ x → f x = false) (h : f b = true) : ∃ s n, IsRun f s n ∧ s ≤ b ∧ b < s + n := by
 have hb : b < L := by
  rcases Nat.lt_or_ge b L with h1 | h1
  ·exact h1
  ·rw [hL b h1] at h; cases h
 obtain ⟨s, h1, h2, h3⟩ := run_start f b h
 obtain ⟨e, h4, h5, h6⟩ := run_end f L (hL L (Nat.le_refl _)) (L - b) b (by omega) h
 refine ⟨s, e - s, ⟨by omega, fun x hx hx' => ?_, h3, by rw [show s + (e - s) = e by omega]; exact h6⟩, h1, by omega⟩
 rcases Nat.lt_or_ge b x with hbx | hbx
 ·exact h5 x (by omega) (by omega)
 ·exact h2 x hx hbx
theorem give_run {f f' : Nat → Bool} {a m s0 e0 : Nat} (hm : 1 ≤ m) (h0 : ∀ b, a ≤ b → b < a + m → f b = false)
  (hin : ∀ b, a ≤ b → b < a + m → f' b = true) (hout : ∀ b, b < a ∨ a + m ≤ b → f' b = f b)
  (hs : s0 = a ∧ (∀ b, b + 1 = a → f b = false) ∨ s0 < a ∧ IsRun f s0 (a - s0))
  (he : e0 = a + m ∧ f (a + m) = false ∨ a + m < e0 ∧ IsRun f (a + m) (e0 - (a + m))) (s n : Nat) :
  IsRun f' s n ↔ (s = s0 ∧ n = e0 - s0) ∨ (IsRun f s n ∧ s + n ≠ a ∧ s ≠ a + m) := by
 have hs0 : s0 ≤ a := by rcases hs with ⟨h, _⟩ | ⟨h, _⟩ <;> omega
 have he0 : a + m ≤ e0 := by rcases he with ⟨h, _⟩ | ⟨h, _⟩ <;> omega
 have hfe : f e0 = false := by
  rcases he with ⟨h, h'⟩ | ⟨h, _, _, _, h'⟩
  ·rw [h]; exact h'
  ·rw [show e0 = a + m + (e0 - (a + m)) by omega]; exact h'
 have hfs : ∀ b, b + 1 = s0 → f b = false := by
  rcases hs with ⟨h, h'⟩ | ⟨h, _, _, h', _⟩
  ·rw [h]; exact h'
  ·exact h'
 have hnew : IsRun f' s0 (e0 - s0) := by
  refine ⟨by omega, fun b h1 h2 => ?_, fun b hb => by rw [hout b (by omega)]; exact hfs b hb, by rw [show s0 + (e0 - s0) = e0 by omega, hout e0 (by omega)]; exact hfe⟩
  rcases Nat.lt_or_ge b a with h3 | h3
  ·rw [hout b (by omega)]
   rcases hs with ⟨h, _⟩ | ⟨h, _, h', _⟩
   ·omega
   ·exact h' b h1 (by omega)
  ·rcases Nat.lt_or_ge b (a + m) with h4 | h4
   ·exact hin b h3 h4
   ·rw [hout b (by omega)]
    rcases he with ⟨h, _⟩ | ⟨h, _, h', _⟩
    ·omega
    ·exact h' b h4 (by omega)
 have hold : ∀ s n, IsRun f s n → s + n ≤ a ∨ a + m ≤ s := by
  intro s n ⟨h1, h2, _, _⟩
  rcases Nat.lt_or_ge a (s + n) with h5 | h5
  ·rcases Nat.lt_or_ge s (a + m) with h6 | h6
   ·by_cases h7 : a ≤ s
    ·have := h2 s (Nat.le_refl _) (by omega); rw [h0 s h7 h6] at this; cases this
    ·have := h2 a (by omega) h5; rw [h0 a (Nat.le_refl _) (by omega)] at this; cases this
   ·exact .inr h6
  ·exact .inl h5
 constructor
 ·intro h
  by_cases hc : s < e0 ∧ s0 < s + n
  ·left
   have hb : ∃ b, s ≤ b ∧ b < s + n ∧ s0 ≤ b ∧ b < s0 + (e0 - s0) := by
    have := h.1
    by_cases hx : s0 ≤ s
    ·exact ⟨s, by omega, by omega, hx, by omega⟩
    ·exact ⟨s0, by omega, by omega, by omega, by omega⟩
   obtain ⟨b, h1, h2, h3, h4⟩ := hb
   exact h.meet hnew h1 h2 h3 h4
  ·right
   obtain ⟨h1, h2, h3, h4⟩ := h
   have hne : s ≠ e0 := by
    rintro rfl
    have := h2 _ (Nat.le_refl _) (by omega); rw [hout _ (by omega), hfe] at this; cases this
   have hne' : s + n ≠ s0 := by
    intro e
    have := h2 (s0 - 1) (by omega) (by omega); rw [hout _ (by omega), hfs (s0 - 1) (by omega)] at this; cases this
   have hfar : e0 < s ∨ s + n < s0 := by omega
   refine ⟨⟨h1, fun b hb hb' => by rw [← hout b (by omega)]; exact h2 b hb hb', fun b hb => by rw [← hout b (by omega)]; exact h3 b hb, by rw [← hout _ (by omega)]; exact h4⟩, by omega, by omega⟩
 ·rintro (⟨rfl, rfl⟩ | ⟨h, h1, h2⟩)
  ·exact hnew
  ·have ho := hold s n h
   obtain ⟨h3, h4, h5, h6⟩ := h
   refine ⟨h3, fun b hb hb' => by rw [hout b (by omega)]; exact h4 b hb hb', fun b hb => by rw [hout b (by omega)]; exact h5 b hb, ?_⟩
   rw [hout _ (by omega)]; exact h6
theorem take_run {f f' : Nat → Bool} {a k m : Nat} (hr : IsRun f a k) (hm : 1 ≤ m) (hk : m ≤ k)
  (hin : ∀ b, a ≤ b → b < a + m → f' b = false) (hout : ∀ b, b < a ∨ a + m ≤ b → f' b = f b) (s n : Nat) :
  IsRun f' s n ↔ (m < k ∧ s = a + m ∧ n = k - m) ∨ (IsRun f s n ∧ s ≠ a) := by
 have hold : ∀ s n, IsRun f s n → s ≠ a → s + n < a ∨ a + k < s := by
  intro s n h hs
  rcases Nat.lt_or_ge (s + n) a with h1 | h1
  ·exact .inl h1
  ·rcases Nat.lt_or_ge (a + k) s with h2 | h2
   ·exact .inr h2
   ·exfalso
    have hn := h.1
    have hk1 := hr.1
    by_cases e1 : s + n = a
    ·have := h.2.1 (a - 1) (by omega) (by omega); rw [hr.2.2.1 (a - 1) (by omega)] at this; cases this
    ·by_cases e2 : s = a + k
     ·have := h.2.1 s (by omega) (by omega); rw [e2, hr.2.2.2] at this; cases this
     ·by_cases h3 : a ≤ s
      ·exact hs (h.meet hr (b := s) (by omega) (by omega) h3 (by omega)).1
      ·exact hs (h.meet hr (b := a) (by omega) (by omega) (by omega) (by omega)).1
 constructor
 ·intro h
  obtain ⟨h1, h2, h3, h4⟩ := h
  have hno : ∀ b, s ≤ b → b < s + n → b < a ∨ a + m ≤ b := by
   intro b hb hb'
   rcases Nat.lt_or_ge b a with h5 | h5
   ·exact .inl h5
   ·rcases Nat.lt_or_ge b (a + m) with h6 | h6
    ·have := h2 b hb hb'; rw [hin b h5 h6] at this; cases this
    ·exact .inr h6
  by_cases hs : s < a
  ·right
   have hle : s + n ≤ a := by
    rcases Nat.lt_or_ge a (s + n) with h5 | h5
    ·have := hno a (by omega) h5; omega
    ·exact h5
   have hlt : s + n ≠ a := by
    intro e
    have x := h2 (a - 1) (by omega) (by omega)
    rw [hout _ (by omega), hr.2.2.1 (a - 1) (by omega)] at x; cases x
   exact ⟨⟨h1, fun b hb hb' => by rw [← hout b (by omega)]; exact h2 b hb hb', fun b hb => by rw [← hout b (by omega)]; exact h3 b hb, by rw [← hout _ (by omega)]; exact h4⟩, by omega⟩
  ·have hge : a + m ≤ s := by have := hno s (Nat.le_refl _) (by omega); omega
   by_cases he : s = a + m
   ·left
    have hmk : m < k := by
     rcases Nat.lt_or_ge m k with h5 | h5
     ·exact h5
     ·have e : m = k := by omega
      have x := h2 s (Nat.le_refl _) (by omega)
      rw [hout s (by omega), he, e, hr.2.2.2] at x; cases x
    have hnew : IsRun f' (a + m) (k - m) := by
     refine ⟨by omega, fun b hb hb' => by rw [hout b (by omega)]; exact hr.2.1 b (by omega) (by omega), fun b hb => hin b (by omega) (by omega), by rw [show a + m + (k - m) = a + k by omega, hout _ (by omega)]; exact hr.2.2.2⟩
    subst he
    exact ⟨hmk, rfl, IsRun.one ⟨h1, h2, h3, h4⟩ hnew⟩
   ·right
    refine ⟨⟨h1, fun b hb hb' => by rw [← hout b (by omega)]; exact h2 b hb hb', fun b hb => by rw [← hout b (by omega)]; exact h3 b hb, by rw [← hout _ (by omega)]; exact h4⟩, by omega⟩
 ·rintro (⟨h1, rfl, rfl⟩ | ⟨h, hs⟩)
  ·exact ⟨by omega, fun b hb hb' => by rw [hout b (by omega)]; exact hr.2.1 b (by omega) (by omega), fun b hb => hin b (by omega) (by omega), by rw [show a + m + (k - m) = a + k by omega, hout _ (by omega)]; exact hr.2.2.2⟩
  ·have ho := hold s n h hs
   have hk1 := hr.1
   obtain ⟨h3, h4, h5, h6⟩ := h
   exact ⟨h3, fun b hb hb' => by rw [hout b (by omega)]; exact h4 b hb hb', fun b hb => by rw [hout b (by omega)]; exact h5 b hb, by rw [hout _ (by omega)]; exact h6⟩
def cutAt (f : Nat → Bool) (L b : Nat) : Bool := decide (b < L) && f b
def runsTo (f : Nat → Bool) : Nat → List (Nat × Nat)
 | 0 => []
 | b + 1 => if f b then
   if 0 < b ∧ f (b - 1) = true then
    match (runsTo f b).getLast? with
    | none => []
    | some x => (runsTo f b).dropLast ++ [(x.1, x.2 + 1)]
   else runsTo f b ++ [(b, 1)]
  else runsTo f b
def Rising (l : List (Nat × Nat)) : Prop := l.Pairwise fun x y => x.1 < y.1
structure IsRuns (f : Nat → Bool) (l : List (Nat × Nat)) : Prop where
 rising : Rising l
 mem : ∀ s n, (s, n) ∈ l ↔ IsRun f s n
theorem isRuns_congr {f g : Nat → Bool} {l : List (Nat × Nat)} (h : IsRuns f l) (hfg : ∀ b, f b = g b) : IsRuns g l := by
 have : f = g := funext hfg
 rw [← this]; exact h
theorem runsTo_step {f f' : Nat → Bool} {l : List (Nat × Nat)} {L : Nat} (h : IsRuns f l) (h0 : ∀ b, L ≤ b → f b = false)
  (hin : f' L = true) (hout : ∀ b, b ≠ L → f' b = f b) :
  IsRuns f' (if 0 < L ∧ f (L - 1) = true then
    match l.getLast? with
    | none => []
    | some x => l.dropLast ++ [(x.1, x.2 + 1)]
   else l ++ [(L, 1)]) := by
 have hlt : ∀ s n, (s, n) ∈ l → s < L := by
  intro s n hm
  have hr := (h.mem s n).1 hm
  rcases Nat.lt_or_ge s L with h1 | h1
  ·exact h1
  ·have := hr.2.1 s (Nat.le_refl _) (by have := hr.1; omega); rw [h0 s h1] at this; cases this
 split
 ·rename_i hc
  obtain ⟨s0, n0, hr0, hs0, he0⟩ := has_run h0 hc.2
  have hend : s0 + n0 = L := by
   rcases Nat.lt_or_ge L (s0 + n0) with h1 | h1
   ·have := hr0.2.1 L (by omega) h1; rw [h0 L (Nat.le_refl _)] at this; cases this
   ·omega
  have hm0 := (h.mem s0 n0).2 hr0
  obtain ⟨q, x, hq⟩ : ∃ q x, l = q ++ [x] := by
   rcases List.eq_nil_or_concat l with e | ⟨q, x, e⟩
   ·rw [e] at hm0; exact absurd hm0 (by simp)
   ·exact ⟨q, x, by rw [e]; simp⟩
  have hx : x = (s0, n0) := by
   rw [hq] at hm0
   rcases List.mem_append.1 hm0 with h1 | h1
   ·exfalso
    have hp := h.rising
    unfold Rising at hp
    rw [hq] at hp
    have h2 : s0 < x.1 := (List.pairwise_append.1 hp).2.2 _ h1 x (by simp)
    have hxm : (x.1, x.2) ∈ l := by rw [hq]; simp
    have h3 := hlt _ _ hxm
    have hrx := (h.mem _ _).1 hxm
    have := hrx.1
    have := (hr0.meet hrx (b := x.1) (by omega) (by omega) (Nat.le_refl _) (by omega)).1
    omega
   ·exact (List.mem_singleton.1 h1).symm
  subst hx
  have hG := fun s n => give_run (f := f) (f' := f') (a := L) (m := 1) (s0 := s0) (e0 := L + 1) (Nat.le_refl _) (fun b h1 _ => h0 b h1)
   (fun b h1 h2 => by rw [show b = L by omega]; exact hin) (fun b hb => hout b (by omega)) (.inr ⟨by omega, by rw [show L - s0 = n0 by omega]; exact hr0⟩) (.inl ⟨rfl, h0 _ (by omega)⟩) s n
  rw [hq, List.getLast?_concat]
  simp only [List.dropLast_concat]
  have hp := h.rising
  unfold Rising at hp
  rw [hq] at hp
  constructor
  ·exact List.pairwise_append.2 ⟨(List.pairwise_append.1 hp).1, by simp, fun y hy z hz => by
    rw [List.mem_singleton.1 hz]; exact (List.pairwise_append.1 hp).2.2 y hy (s0, n0) (by simp)⟩
  ·intro s n
   rw [hG s n]
   constructor
   ·intro hm
    rcases List.mem_append.1 hm with h1 | h1
    ·right
     have hr := (h.mem s n).1 (by rw [hq]; simp [h1])
     have h2 : s < s0 := (List.pairwise_append.1 hp).2.2 _ h1 (s0, n0) (by simp)
     refine ⟨hr, ?_, by omega⟩
     intro e
     have := (hr.back hr0 (by omega)).1
     omega
    ·left
     have := List.mem_singleton.1 h1
     injection this with e1 e2
     omega
   ·rintro (⟨rfl, rfl⟩ | ⟨hr, h1, _⟩)
    ·exact List.mem_append.2 (.inr (by rw [show L + 1 - s = n0 + 1 by omega]; simp))
    ·have hm := (h.mem s n).2 hr
     rw [hq] at hm
     rcases List.mem_append.1 hm with h2 | h2
     ·exact List.mem_append.2 (.inl h2)
     ·have := List.mem_singleton.1 h2
      injection this with e1 e2
      omega
 ·rename_i hc
  have hfl : ∀ b, b + 1 = L → f b = false := by
   intro b hb
   cases hv : f b with
   | false => rfl
   | true => exact absurd ⟨by omega, by rw [show L - 1 = b by omega]; exact hv⟩ hc
  have hG := fun s n => give_run (f := f) (f' := f') (a := L) (m := 1) (s0 := L) (e0 := L + 1) (Nat.le_refl _) (fun b h1 _ => h0 b h1)
   (fun b h1 h2 => by rw [show b = L by omega]; exact hin) (fun b hb => hout b (by omega)) (.inl ⟨rfl, hfl⟩) (.inl ⟨rfl, h0 _ (by omega)⟩) s n
  constructor
  ·exact List.pairwise_append.2 ⟨h.rising, by simp, fun y hy z hz => by
    rw [List.mem_singleton.1 hz]; exact hlt y.1 y.2 hy⟩
  ·intro s n
   rw [hG s n]
   constructor
   ·intro hm
    rcases List.mem_append.1 hm with h1 | h1
    ·right
     have hr := (h.mem s n).1 h1
     refine ⟨hr, ?_, by have := hlt s n h1; omega⟩
     intro e
     have hn := hr.1
     have := hr.2.1 (L - 1) (by omega) (by omega)
     rw [hfl (L - 1) (by omega)] at this; cases this
    ·left
     have := List.mem_singleton.1 h1
     injection this with e1 e2
     omega
   ·rintro (⟨rfl, rfl⟩ | ⟨hr, _, _⟩)
    ·exact List.mem_append.2 (.inr (by rw [show s + 1 - s = 1 by omega]; simp))
    ·exact List.mem_append.2 (.inl ((h.mem s n).2 hr))
theorem runsTo_is (f : Nat → Bool) : ∀ L, IsRuns (cutAt f L) (runsTo f L)
 | 0 => ⟨List.Pairwise.nil, fun s n => ⟨fun h => absurd h (by simp [runsTo]), fun h => by
   have := h.2.1 s (Nat.le_refl _) (by have := h.1; omega); simp [cutAt] at this⟩⟩
 | L + 1 => by
  have ih := runsTo_is f L
  unfold runsTo
  cases hf : f L with
  | false =>
   simp only [Bool.false_eq_true, if_false]
   refine isRuns_congr ih fun b => ?_
   unfold cutAt
   by_cases hb : b < L
   ·simp [hb, Nat.lt_succ_of_lt hb]
   ·by_cases he : b = L
    ·subst he; simp [hf]
    ·rw [decide_eq_false hb, decide_eq_false (by omega)]
  | true =>
   simp only [if_true]
   have hst := runsTo_step (f' := cutAt f (L + 1)) (L := L) ih (fun b hb => by unfold cutAt; rw [decide_eq_false (by omega)]; rfl) (by unfold cutAt; simp [hf]) (fun b hb => by
    unfold cutAt
    by_cases h1 : b < L
    ·simp [h1, Nat.lt_succ_of_lt h1]
    ·rw [decide_eq_false h1, decide_eq_false (by omega)])
   have hc : (0 < L ∧ cutAt f L (L - 1) = true) ↔ (0 < L ∧ f (L - 1) = true) := by
    unfold cutAt
    constructor
    ·rintro ⟨h1, h2⟩; exact ⟨h1, by simpa [show L - 1 < L by omega] using h2⟩
    ·rintro ⟨h1, h2⟩; exact ⟨h1, by simpa [show L - 1 < L by omega] using h2⟩
   simp only [hc] at hst
   exact hst
theorem rising_ext : ∀ {l r : List (Nat × Nat)}, Rising l → Rising r → (∀ x, x ∈ l ↔ x ∈ r) → l = r
 | [], [], _, _, _ => rfl
 | [], b :: r, _, _, h => absurd ((h b).2 (by simp)) (by simp)
 | a :: l, [], _, _, h => absurd ((h a).1 (by simp)) (by simp)
 | a :: l, b :: r, hl, hr, h => by
  have hl' := List.pairwise_cons.1 hl
  have hr' := List.pairwise_cons.1 hr
  have hab : a = b := by
   rcases List.mem_cons.1 ((h a).1 (by simp)) with e | e
   ·exact e
   ·rcases List.mem_cons.1 ((h b).2 (by simp)) with e' | e'
    ·exact e'.symm
    ·have := hr'.1 a e; have := hl'.1 b e'; omega
  subst hab
  congr 1
  refine rising_ext hl'.2 hr'.2 fun x => ⟨fun hx => ?_, fun hx => ?_⟩
  ·rcases List.mem_cons.1 ((h x).1 (by simp [hx])) with e | e
   ·have := hl'.1 x hx; rw [e] at this; omega
   ·exact e
  ·rcases List.mem_cons.1 ((h x).2 (by simp [hx])) with e | e
   ·have := hr'.1 x hx; rw [e] at this; omega
   ·exact e
theorem rising_nodup {l : List (Nat × Nat)} (h : Rising l) : l.Nodup :=
 List.Pairwise.imp (fun {x y} hxy e => by rw [e] at hxy; omega) h
def sumOf (l : List (Nat × Nat)) : Nat := (l.map (·.2)).sum
def longOf (l : List (Nat × Nat)) : Nat := (l.map (·.2)).foldl max 0
theorem sum_perm {a b : List (Nat × Nat)} (h : a.Perm b) : sumOf a = sumOf b := (h.map _).sum_nat
theorem sum_add (l : List (Nat × Nat)) (x : Nat × Nat) : sumOf (l ++ [x]) = sumOf l + x.2 := by simp [sumOf]
def Best (n : Nat) (A : Nat → Nat → Prop) : Option (Nat × Nat) → Prop
 | none => ∀ s k, A s k → k < n
 | some x => A x.1 x.2 ∧ n ≤ x.2 ∧ ∀ s k, A s k → n ≤ k → x.2 < k ∨ (x.2 = k ∧ x.1 ≤ s)
theorem best_one {n : Nat} {A : Nat → Nat → Prop} : ∀ {o o' : Option (Nat × Nat)}, Best n A o → Best n A o' → o = o'
 | none, none, _, _ => rfl
 | none, some x, h, h' => absurd (h _ _ h'.1) (by have := h'.2.1; omega)
 | some x, none, h, h' => absurd (h' _ _ h.1) (by have := h.2.1; omega)
 | some (a, b), some (a', b'), h, h' => by
  have h1 := h.2.2 _ _ h'.1 h'.2.1
  have h2 := h'.2.2 _ _ h.1 h.2.1
  simp only at h1 h2
  have e1 : a = a' := by omega
  have e2 : b = b' := by omega
  rw [e1, e2]
def better (n : Nat) (o : Option (Nat × Nat)) (s k : Nat) : Bool :=
 decide (n ≤ k) && match o with
  | none => true
  | some x => decide (k < x.2) || (decide (k = x.2) && decide (s < x.1))
theorem best_step {n : Nat} {A A' : Nat → Nat → Prop} {o : Option (Nat × Nat)} {s0 k0 : Nat} (h : Best n A o) (hA : ∀ s k, A' s k ↔ A s k ∨ (s = s0 ∧ k = k0)) :
  Best n A' (if better n o s0 k0 then some (s0, k0) else o) := by
 cases o with
 | none =>
  by_cases hn : n ≤ k0
  ·rw [if_pos (by simp [better, hn])]
   refine ⟨(hA s0 k0).2 (.inr ⟨rfl, rfl⟩), hn, fun s k hk hnk => ?_⟩
   rcases (hA s k).1 hk with h1 | ⟨rfl, rfl⟩
   ·have := h s k h1; omega
   ·exact .inr ⟨rfl, Nat.le_refl _⟩
  ·rw [if_neg (by simp [better, hn])]
   intro s k hk
   rcases (hA s k).1 hk with h1 | ⟨rfl, rfl⟩
   ·exact h s k h1
   ·omega
 | some x =>
  obtain ⟨h1, h2, h3⟩ := h
  by_cases hb : better n (some x) s0 k0 = true
  ·rw [if_pos hb]
   simp [better] at hb
   refine ⟨(hA s0 k0).2 (.inr ⟨rfl, rfl⟩), hb.1, fun s k hk hnk => ?_⟩
   rcases (hA s k).1 hk with h4 | ⟨rfl, rfl⟩
   ·have := h3 s k h4 hnk; simp only; omega
   ·exact .inr ⟨rfl, Nat.le_refl _⟩
  ·rw [if_neg hb]
   simp [better] at hb
   refine ⟨(hA _ _).2 (.inl h1), h2, fun s k hk hnk => ?_⟩
   rcases (hA s k).1 hk with h4 | ⟨rfl, rfl⟩
   ·exact h3 s k h4 hnk
   ·have := hb hnk; omega
def shorter (n : Nat) (o : Option (Nat × Nat)) (k : Nat) : Bool :=
 decide (n ≤ k) && match o with
  | none => true
  | some y => decide (k < y.2)
theorem best_rising {n : Nat} {l : List (Nat × Nat)} {x : Nat × Nat} {o : Option (Nat × Nat)} (h : Best n (fun s k => (s, k) ∈ l) o) (hr : ∀ y ∈ l, y.1 < x.1) :
  better n o x.1 x.2 = shorter n o x.2 := by
 cases o with
 | none => rfl
 | some y =>
  have := hr _ h.1
  simp only at this
  simp only [better, shorter]
  rw [decide_eq_false (show ¬ x.1 < y.1 by omega)]; simp
def pickGo (n : Nat) : Option (Nat × Nat) → List (Nat × Nat) → Option (Nat × Nat)
 | o, [] => o
 | o, x :: l => pickGo n (if shorter n o x.2 then some x else o) l
theorem pickGo_best (n : Nat) : ∀ (l done : List (Nat × Nat)) (o : Option (Nat × Nat)), Rising (done ++ l) → Best n (fun s k => (s, k) ∈ done) o → Best n (fun s k => (s, k) ∈ done ++ l) (pickGo n o l)
 | [], done, o, _, h => by rw [List.append_nil]; exact h
 | x :: l, done, o, hr, h => by
  have hlt : ∀ y ∈ done, y.1 < x.1 := fun y hy => (List.pairwise_append.1 hr).2.2 y hy x (by simp)
  have hb := best_rising h hlt
  have hs := best_step (A' := fun s k => (s, k) ∈ done ++ [x]) (s0 := x.1) (k0 := x.2) h (fun s k => by
   rw [List.mem_append, List.mem_singleton, Prod.ext_iff])
  rw [hb] at hs
  have := pickGo_best n l (done ++ [x]) _ (by rw [List.append_assoc]; exact hr) hs
  rw [List.append_assoc] at this
  exact this
def pick (n : Nat) (l : List (Nat × Nat)) : Option (Nat × Nat) := pickGo n none l
theorem pick_best {n : Nat} {l : List (Nat × Nat)} (h : Rising l) : Best n (fun s k => (s, k) ∈ l) (pick n l) :=
 pickGo_best n l [] none h (fun _ _ hm => absurd hm (by simp))
def fb (l : List Bool) (b : Nat) : Bool := l.getD b false
theorem fb_far (l : List Bool) (b : Nat) (h : l.length ≤ b) : fb l b = false := by
 unfold fb; rw [List.getD_eq_getElem?_getD, List.getElem?_eq_none h]; rfl
def setTo (l : List Bool) (a : Nat) (v : Bool) : Nat → List Bool
 | 0 => l
 | m + 1 => (setTo l a v m).set (a + m) v
theorem setTo_length (l : List Bool) (a : Nat) (v : Bool) : ∀ m, (setTo l a v m).length = l.length
 | 0 => rfl
 | m + 1 => by rw [setTo, List.length_set, setTo_length l a v m]
theorem setTo_fb (l : List Bool) (a : Nat) (v : Bool) : ∀ m, a + m ≤ l.length → ∀ b, fb (setTo l a v m) b = if a ≤ b ∧ b < a + m then v else fb l b
 | 0, _, b => by rw [if_neg (by omega)]; rfl
 | m + 1, h, b => by
  have ih := setTo_fb l a v m (by omega) b
  unfold fb at ih ⊢
  rw [setTo, List.getD_eq_getElem?_getD, List.getElem?_set]
  by_cases hb : a + m = b
  ·rw [if_pos hb, if_pos (by rw [setTo_length]; omega), if_pos (by omega)]; rfl
  ·rw [if_neg hb, ← List.getD_eq_getElem?_getD, ih]
   by_cases h1 : a ≤ b ∧ b < a + m
   ·rw [if_pos h1, if_pos (by omega)]
   ·rw [if_neg h1, if_neg (by omega)]
def runsOf (l : List Bool) : List (Nat × Nat) := runsTo (fb l) l.length
theorem runsOf_is (l : List Bool) : IsRuns (fb l) (runsOf l) :=
 isRuns_congr (runsTo_is (fb l) l.length) fun b => by
  unfold cutAt
  by_cases h : b < l.length
  ·simp [h]
  ·rw [decide_eq_false h, fb_far l b (by omega)]; rfl
def anyFree (l : List Bool) (a : Nat) : Nat → Bool
 | 0 => false
 | m + 1 => anyFree l a m || fb l (a + m)
theorem anyFree_false {l : List Bool} {a : Nat} : ∀ {m : Nat}, anyFree l a m = false → ∀ b, a ≤ b → b < a + m → fb l b = false
 | 0, _, b, h1, h2 => by omega
 | m + 1, h, b, h1, h2 => by
  rw [anyFree, Bool.or_eq_false_iff] at h
  by_cases hb : b = a + m
  ·rw [hb]; exact h.2
  ·exact anyFree_false h.1 b h1 (by omega)
theorem anyFree_true {l : List Bool} {a : Nat} : ∀ {m : Nat}, anyFree l a m = true → ∃ b, a ≤ b ∧ b < a + m ∧ fb l b = true
 | 0, h => by cases h
 | m + 1, h => by
  rw [anyFree, Bool.or_eq_true_iff] at h
  rcases h with h | h
  ·obtain ⟨b, h1, h2, h3⟩ := anyFree_true h; exact ⟨b, h1, by omega, h3⟩
  ·exact ⟨a + m, by omega, by omega, h⟩
theorem anyFree_one {l : List Bool} {a b : Nat} : ∀ {m : Nat}, a ≤ b → b < a + m → fb l b = true → anyFree l a m = true
 | 0, h1, h2, _ => by omega
 | m + 1, h1, h2, h3 => by
  rw [anyFree, Bool.or_eq_true_iff]
  by_cases hb : b = a + m
  ·right; rw [← hb]; exact h3
  ·left; exact anyFree_one h1 (by omega) h3
def giveR (l : List Bool) (a m : Int) : List Bool × Int :=
 if a < 1 ∨ m < 1 ∨ (l.length : Int) ≤ a ∨ (l.length : Int) - a < m then (l, 1)
 else if anyFree l a.toNat m.toNat then (l, 41)
 else (setTo l a.toNat true m.toNat, 0)
def takeR (l : List Bool) (n : Int) : List Bool × Int × Int :=
 if n < 1 then (l, 0, 1) else match pick n.toNat (runsOf l) with
  | none => (l, 0, 4)
  | some x => (setTo l x.1 false n.toNat, (x.1 : Int), 0)
theorem runEnds {l : List Bool} {s n : Nat} (h : IsRun (fb l) s n) : s + n ≤ l.length := by
 rcases Nat.lt_or_ge l.length (s + n) with h1 | h1
 ·have := h.2.1 (s + n - 1) (by have := h.1; omega) (by have := h.1; omega)
  rw [fb_far l _ (by omega)] at this; cases this
 ·exact h1
theorem pick_run {l : List Bool} {n : Nat} {x : Nat × Nat} (h : pick n (runsOf l) = some x) : IsRun (fb l) x.1 x.2 ∧ n ≤ x.2 := by
 have hb := pick_best (n := n) (runsOf_is l).rising
 rw [h] at hb
 exact ⟨((runsOf_is l).mem _ _).1 hb.1, hb.2.1⟩
theorem give_runs {l : List Bool} {a m s0 e0 : Nat} (hm : 1 ≤ m) (ha : a + m ≤ l.length) (h0 : anyFree l a m = false)
  (hs : s0 = a ∧ (∀ b, b + 1 = a → fb l b = false) ∨ s0 < a ∧ IsRun (fb l) s0 (a - s0))
  (he : e0 = a + m ∧ fb l (a + m) = false ∨ a + m < e0 ∧ IsRun (fb l) (a + m) (e0 - (a + m))) (s n : Nat) :
  IsRun (fb (setTo l a true m)) s n ↔ (s = s0 ∧ n = e0 - s0) ∨ (IsRun (fb l) s n ∧ s + n ≠ a ∧ s ≠ a + m) :=
 give_run hm (anyFree_false h0) (fun b h1 h2 => by rw [setTo_fb l a true m ha, if_pos ⟨h1, h2⟩]) (fun b h1 => by rw [setTo_fb l a true m ha, if_neg (by omega)]) hs he s n
theorem take_runs {l : List Bool} {a k m : Nat} (hr : IsRun (fb l) a k) (hm : 1 ≤ m) (hk : m ≤ k) (s n : Nat) :
  IsRun (fb (setTo l a false m)) s n ↔ (m < k ∧ s = a + m ∧ n = k - m) ∨ (IsRun (fb l) s n ∧ s ≠ a) := by
 have ha : a + m ≤ l.length := by have := runEnds hr; omega
 exact take_run hr hm hk (fun b h1 h2 => by rw [setTo_fb l a false m ha, if_pos ⟨h1, h2⟩]) (fun b h1 => by rw [setTo_fb l a false m ha, if_neg (by omega)]) s n
def MOf (l : List Bool) (M : Int → Option Int) : Prop := ∀ s c : Int, M s = some c ↔ 0 ≤ s ∧ 0 ≤ c ∧ IsRun (fb l) s.toNat c.toNat
def EOf (l : List Bool) (E : Int → Option Int) : Prop := ∀ e s : Int, E e = some s ↔ 0 ≤ s ∧ s ≤ e ∧ IsRun (fb l) s.toNat (e - s).toNat
theorem mof_nil {l : List Bool} (h : ∀ b, fb l b = false) : MOf l fun _ => none := fun s c => ⟨fun e => (by cases e), fun ⟨_, h1, hr⟩ => by
 have := hr.2.1 s.toNat (Nat.le_refl _) (by have := hr.1; omega); rw [h] at this; cases this⟩
theorem eof_nil {l : List Bool} (h : ∀ b, fb l b = false) : EOf l fun _ => none := fun e s => ⟨fun e => (by cases e), fun ⟨_, h1, hr⟩ => by
 have := hr.2.1 s.toNat (Nat.le_refl _) (by have := hr.1; omega); rw [h] at this; cases this⟩
section
variable {l : List Bool} {M E : Int → Option Int} {a m s0 e0 : Nat}
theorem give_M (hM : MOf l M) (hm : 1 ≤ m) (ha : a + m ≤ l.length) (h0 : anyFree l a m = false)
  (hs : s0 = a ∧ (∀ b, b + 1 = a → fb l b = false) ∨ s0 < a ∧ IsRun (fb l) s0 (a - s0))
  (he : e0 = a + m ∧ fb l (a + m) = false ∨ a + m < e0 ∧ IsRun (fb l) (a + m) (e0 - (a + m))) {M' : Int → Option Int}
  (hnew : M' s0 = some ((e0 : Int) - s0)) (hgone : ∀ s, s ≠ (s0 : Int) → (s = (a : Int) + m ∨ M s = some ((a : Int) - s)) → M' s = none)
  (hold : ∀ s, s ≠ (s0 : Int) → s ≠ (a : Int) + m → M s ≠ some ((a : Int) - s) → M' s = M s) : MOf (setTo l a true m) M' := by
 have hs0 : s0 ≤ a := by rcases hs with ⟨h, _⟩ | ⟨h, _⟩ <;> omega
 have he0 : a + m ≤ e0 := by rcases he with ⟨h, _⟩ | ⟨h, _⟩ <;> omega
 intro s c
 have hG := give_runs hm ha h0 hs he s.toNat c.toNat
 by_cases h1 : s = (s0 : Int)
 ·rw [h1, hnew]
  constructor
  ·intro e
   have e' : (e0 : Int) - s0 = c := by injection e
   refine ⟨by omega, by omega, ?_⟩
   rw [← h1, hG]; left; constructor <;> omega
  ·rintro ⟨_, hc, hr⟩
   rw [← h1, hG] at hr
   rcases hr with ⟨_, h2⟩ | ⟨hr, h2, h3⟩
   ·congr 1; omega
   ·exfalso
    rcases hs with ⟨e, _⟩ | ⟨hlt, hr0⟩
    ·have := hr.2.1 s.toNat (Nat.le_refl _) (by have := hr.1; omega)
     rw [anyFree_false h0 s.toNat (by omega) (by omega)] at this; cases this
    ·have := hr.one (n' := a - s0) (by rw [show s.toNat = s0 by omega]; exact hr0); omega
 ·by_cases h2 : s = (a : Int) + m ∨ M s = some ((a : Int) - s)
  ·rw [hgone s h1 h2]
   refine ⟨fun e => (by cases e), ?_⟩
   rintro ⟨hs1, hc, hr⟩
   rw [hG] at hr
   exfalso
   rcases hr with ⟨h3, _⟩ | ⟨hr, h3, h4⟩
   ·omega
   ·rcases h2 with h2 | h2
    ·omega
    ·obtain ⟨h5, h6, hr'⟩ := (hM _ _).1 h2
     have := hr.one hr'; omega
  ·rw [hold s h1 (fun e => h2 (.inl e)) (fun e => h2 (.inr e)), hM s c]
   constructor
   ·rintro ⟨h3, h4, hr⟩
    refine ⟨h3, h4, hG.2 (.inr ⟨hr, fun e => h2 (.inr ((hM _ _).2 ⟨h3, by omega, ?_⟩)), fun e => h2 (.inl (by omega))⟩)⟩
    rw [show ((a : Int) - s).toNat = c.toNat by omega]; exact hr
   ·rintro ⟨h3, h4, hr⟩
    rcases hG.1 hr with ⟨h5, _⟩ | ⟨hr', _⟩
    ·omega
    ·exact ⟨h3, h4, hr'⟩
theorem give_E (hE : EOf l E) (hm : 1 ≤ m) (ha : a + m ≤ l.length) (h0 : anyFree l a m = false)
  (hs : s0 = a ∧ (∀ b, b + 1 = a → fb l b = false) ∨ s0 < a ∧ IsRun (fb l) s0 (a - s0))
  (he : e0 = a + m ∧ fb l (a + m) = false ∨ a + m < e0 ∧ IsRun (fb l) (a + m) (e0 - (a + m))) {E' : Int → Option Int}
  (hnew : E' e0 = some (s0 : Int)) (hgone : ∀ e, e ≠ (e0 : Int) → (e = (a : Int) ∨ E e = some ((a : Int) + m)) → E' e = none)
  (hold : ∀ e, e ≠ (e0 : Int) → e ≠ (a : Int) → E e ≠ some ((a : Int) + m) → E' e = E e) : EOf (setTo l a true m) E' := by
 have hs0 : s0 ≤ a := by rcases hs with ⟨h, _⟩ | ⟨h, _⟩ <;> omega
 have he0 : a + m ≤ e0 := by rcases he with ⟨h, _⟩ | ⟨h, _⟩ <;> omega
 intro e s
 have hG := give_runs hm ha h0 hs he s.toNat (e - s).toNat
 by_cases h1 : e = (e0 : Int)
 ·rw [h1, hnew]
  constructor
  ·intro x
   have x' : (s0 : Int) = s := by injection x
   refine ⟨by omega, by omega, ?_⟩
   rw [← h1, hG]; left; constructor <;> omega
  ·rintro ⟨hs1, hc, hr⟩
   rw [← h1, hG] at hr
   rcases hr with ⟨h2, _⟩ | ⟨hr, h2, h3⟩
   ·congr 1; omega
   ·exfalso
    rcases he with ⟨x, hf⟩ | ⟨hlt, hr0⟩
    ·have hx := hr.2.1 (s.toNat + (e - s).toNat - 1) (by have := hr.1; omega) (by have := hr.1; omega)
     rw [anyFree_false h0 _ (by have := hr.1; omega) (by have := hr.1; omega)] at hx; cases hx
    ·have := (hr.back hr0 (by omega)).1; omega
 ·by_cases h2 : e = (a : Int) ∨ E e = some ((a : Int) + m)
  ·rw [hgone e h1 h2]
   refine ⟨fun x => (by cases x), ?_⟩
   rintro ⟨hs1, hc, hr⟩
   rw [hG] at hr
   exfalso
   rcases hr with ⟨h3, h4⟩ | ⟨hr, h3, h4⟩
   ·omega
   ·rcases h2 with h2 | h2
    ·omega
    ·obtain ⟨h5, h6, hr'⟩ := (hE _ _).1 h2
     have := (hr.back hr' (by omega)).1; omega
  ·rw [hold e h1 (fun x => h2 (.inl x)) (fun x => h2 (.inr x)), hE e s]
   constructor
   ·rintro ⟨h3, h4, hr⟩
    refine ⟨h3, h4, hG.2 (.inr ⟨hr, fun x => h2 (.inl (by omega)), fun x => h2 (.inr ((hE _ _).2 ⟨by omega, by omega, ?_⟩))⟩)⟩
    rw [show ((a : Int) + m).toNat = s.toNat by omega, show (e - ((a : Int) + m)).toNat = (e - s).toNat by omega]; exact hr
   ·rintro ⟨h3, h4, hr⟩
    rcases hG.1 hr with ⟨h5, h6⟩ | ⟨hr', _⟩
    ·omega
    ·exact ⟨h3, h4, hr'⟩
end
section
variable {l : List Bool} {M E : Int → Option Int} {a k m : Nat}
theorem take_M (hM : MOf l M) (hr : IsRun (fb l) a k) (hm : 1 ≤ m) (hk : m ≤ k) {M' : Int → Option Int}
  (hnew : M' ((a : Int) + m) = if m < k then some ((k : Int) - m) else M ((a : Int) + m)) (hgone : M' a = none)
  (hold : ∀ s, s ≠ (a : Int) → s ≠ (a : Int) + m → M' s = M s) : MOf (setTo l a false m) M' := by
 intro s c
 have hT := take_runs hr hm hk s.toNat c.toNat
 have hin : m < k → ∀ n, ¬ IsRun (fb l) (a + m) n := by
  intro hlt n hn
  have := (hn.meet hr (b := a + m) (Nat.le_refl _) (by have := hn.1; omega) (by omega) (by omega)).1
  omega
 by_cases h1 : s = (a : Int)
 ·rw [h1, hgone]
  refine ⟨fun x => (by cases x), ?_⟩
  rintro ⟨_, hc, hr'⟩
  rw [← h1, hT] at hr'
  rcases hr' with ⟨_, h2, _⟩ | ⟨_, h2⟩ <;> omega
 ·by_cases h2 : s = (a : Int) + m
  ·rw [h2, hnew]
   by_cases h3 : m < k
   ·rw [if_pos h3]
    constructor
    ·intro x
     have x' : (k : Int) - m = c := by injection x
     refine ⟨by omega, by omega, ?_⟩
     rw [← h2, hT]; left; refine ⟨h3, by omega, by omega⟩
    ·rintro ⟨_, hc, hr'⟩
     rw [← h2, hT] at hr'
     rcases hr' with ⟨_, _, h4⟩ | ⟨hr', _⟩
     ·congr 1; omega
     ·exact absurd (show IsRun (fb l) (a + m) c.toNat by rw [show a + m = s.toNat by omega]; exact hr') (hin h3 _)
   ·rw [if_neg h3, ← h2, hM s c, hT]
    constructor
    ·rintro ⟨h4, h5, h6⟩; exact ⟨h4, h5, .inr ⟨h6, by omega⟩⟩
    ·rintro ⟨h4, h5, h6 | h6⟩
     ·omega
     ·exact ⟨h4, h5, h6.1⟩
  ·rw [hold s h1 h2, hM s c, hT]
   constructor
   ·rintro ⟨h4, h5, h6⟩; exact ⟨h4, h5, .inr ⟨h6, by omega⟩⟩
   ·rintro ⟨h4, h5, h6 | h6⟩
    ·omega
    ·exact ⟨h4, h5, h6.1⟩
theorem take_E (hE : EOf l E) (hr : IsRun (fb l) a k) (hm : 1 ≤ m) (hk : m ≤ k) {E' : Int → Option Int}
  (hnew : E' ((a : Int) + k) = if m < k then some ((a : Int) + m) else none)
  (hold : ∀ e, e ≠ (a : Int) + k → E' e = E e) : EOf (setTo l a false m) E' := by
 intro e s
 have hT := take_runs hr hm hk s.toNat (e - s).toNat
 by_cases h1 : e = (a : Int) + k
 ·rw [h1, hnew]
  by_cases h3 : m < k
  ·rw [if_pos h3]
   constructor
   ·intro x
    have x' : (a : Int) + m = s := by injection x
    refine ⟨by omega, by omega, ?_⟩
    rw [← h1, hT]; left; refine ⟨h3, by omega, by omega⟩
   ·rintro ⟨h4, h5, hr'⟩
    rw [← h1, hT] at hr'
    rcases hr' with ⟨_, h6, _⟩ | ⟨hr', h6⟩
    ·congr 1; omega
    ·have := (hr'.back hr (by omega)).1; omega
  ·rw [if_neg h3]
   refine ⟨fun x => (by cases x), ?_⟩
   rintro ⟨h4, h5, hr'⟩
   rw [← h1, hT] at hr'
   rcases hr' with ⟨h6, _⟩ | ⟨hr', h6⟩
   ·omega
   ·have := (hr'.back hr (by omega)).1; omega
 ·rw [hold e h1, hE e s, hT]
  constructor
  ·rintro ⟨h4, h5, h6⟩
   refine ⟨h4, h5, .inr ⟨h6, fun x => ?_⟩⟩
   have := h6.one (n' := k) (by rw [x]; exact hr); omega
  ·rintro ⟨h4, h5, h6 | h6⟩
   ·omega
   ·exact ⟨h4, h5, h6.1⟩
end
end Go.Proofs.YtpopbfagliagnaaGreat
namespace Go.Proofs.YtpopbfagliagnaaGreat
open Go.Maps Go.ChangeMaps
structure Tells (D : DataW Unit) (M : Int → Option Int) : Prop where
 isMap : IsMap D
 has : ∀ x, has D (.int .i64 x) = (M x).isSome
 val : ∀ x c, M x = some c → ∀ z, D.atKey (.int .i64 x) z = .lit (.int .i64 c)
theorem Tells.get {D : DataW Unit} {M : Int → Option Int} (h : Tells D M) (x : Int) : D.atKey (.int .i64 x) (.lit (.int .i64 0)) = .lit (.int .i64 ((M x).getD 0)) := by
 cases hm : M x with
 | none => rw [atKey_of_not_has (by rw [h.has, hm]; rfl)]; rfl
 | some c => rw [h.val x c hm]; rfl
theorem key_wf {x : Int} (_hw : (Lit.int .i64 x).wf = true) : WideAt.IsKeyLit (.int .i64 x) := by
 trivial
theorem tells_nil : Tells (.map []) fun _ => none := ⟨isMap_empty, fun _ => rfl, fun _ _ h => by cases h⟩
theorem Tells.put {D : DataW Unit} {M : Int → Option Int} (h : Tells D M) {x : Int} (hw : (Lit.int .i64 x).wf = true) (c : Int) :
  Tells (D.put (.int .i64 x) (.lit (.int .i64 c))) fun y => if y = x then some c else M y := by
 refine ⟨h.isMap.put _ _, fun y => ?_, fun y d hy z => ?_⟩
 ·by_cases e : y = x
  ·subst e; rw [has_put_same h.isMap (key_wf hw), if_pos rfl]; rfl
  ·rw [has_put_other (by simpa using e), if_neg e, h.has]
 ·by_cases e : y = x
  ·subst e; rw [if_pos rfl] at hy; cases hy; rw [atKey_put_same h.isMap (key_wf hw)]
  ·rw [if_neg e] at hy; rw [atKey_put_other (by simpa using e), h.val y d hy]
theorem Tells.del {D : DataW Unit} {M : Int → Option Int} (h : Tells D M) (x : Int) : Tells (D.del (.int .i64 x)) fun y => if y = x then none else M y := by
 refine ⟨h.isMap.del _, fun y => ?_, fun y d hy z => ?_⟩
 ·by_cases e : y = x
  ·subst e; rw [has_del_same, if_pos rfl]; rfl
  ·rw [has_del_other (by simpa using e), if_neg e, h.has]
 ·by_cases e : y = x
  ·rw [if_pos e] at hy; cases hy
  ·rw [if_neg e] at hy; rw [atKey_del_other (by simpa using e), h.val y d hy]
def IMap (P : Program) (k : TypeId) (w : World) (b n : Nat) (M : Int → Option Int) : Prop :=
 ∃ D : DataW Unit, w.ownsMap P k (plainElem P k) b n D ∧ Tells D M
section
variable {P : Program} {k t : TypeId} {w : World} {b n : Nat} {M : Int → Option Int} {ops : Array Oper} {rest : List Oper} {o : Oper} {a : Act} {Q : Exit → Act → World → Prop}
theorem IMap.kept {w' : World} {row : Option Nat} (h : IMap P k w b n M) (hg : w.grownBy w' row) (hne : some b ≠ row) : IMap P k w' b n M := by
 obtain ⟨D, ho, ht⟩ := h; exact ⟨D, ho.kept hg hne, ht⟩
theorem IMap.alloc (h : IMap P k w b n M) (ob : Obj) : IMap P k (w.alloc ob) b n M := by
 obtain ⟨D, ho, ht⟩ := h; exact ⟨D, ho.alloc ob, ht⟩
theorem IMap.mono {n' : Nat} (h : IMap P k w b n M) (hn : n ≤ n') : IMap P k w b n' M := by
 obtain ⟨D, ho, ht⟩ := h; exact ⟨D, ho.mono hn, ht⟩
theorem IMap.lt (h : IMap P k w b n M) : b < w.heap.size := by obtain ⟨D, ho, _⟩ := h; exact ho.lt
theorem IMap.made (w : World) (P : Program) (k : TypeId) : IMap P k (w.alloc (.map #[] 0)) w.heap.size 0 fun _ => none :=
 ⟨.map [], World.ownsMap_made w P k _, tells_nil⟩
theorem IMap.block (h : IMap P k w b n M) {w' : World} (he : w'.heap[b]? = w.heap[b]?) : IMap P k w' b n M := by
 obtain ⟨D, ⟨es, clock, hb, F, hs, hD⟩, ht⟩ := h; exact ⟨D, ⟨es, clock, he.trans hb, F, hs, hD⟩, ht⟩
theorem IMap.wf (h : IMap P k w b n M) (hk : P.underlying k = some (.int .i64)) {x c : Int} (hm : M x = some c) : (Lit.int .i64 x).wf = true := by
 obtain ⟨D, ⟨es, clock, _, F, _, rfl⟩, ht⟩ := h
 have hh := ht.has x
 rw [hm] at hh
 obtain ⟨p, hp, hpk⟩ := List.any_eq_true.1 hh
 have hx := WideAt.sameKey_eq hpk
 obtain ⟨e, he, rfl⟩ := List.mem_map.1 (mem_sorted.1 hp)
 obtain ⟨y, hy⟩ := F.reads e he
 rw [Go.WideElems.rg_of hy] at hx
 obtain ⟨z, _, hz, hw⟩ := keyOf_int_inv hk (Go.WideElems.rd_key hy)
 rw [hz] at hx
 injection hx with _ h2
 rw [← h2]; exact hw
theorem wpList_ilook_ok (hg : o.guard = none) (m x : Operand) (t : TypeId) (hop : o.op = Op.lookup t m x true)
  (k : TypeId) (hk : P.underlying k = some (.int .i64)) (ht : P.underlying t = some (.map k k)) (hz : (zeroValue k).run P w = .ok (.int .i64 0) w) (b n : Nat) (M : Int → Option Int)
  (hm : a.eval m = .map (some b)) (hown : IMap P k w b n M) (y : Int) (hx : a.eval x = .int .i64 y) (hw : (Lit.int .i64 y).wf = true)
  (hK : wpList P ops Q rest (a.put o.dst (.tuple #[.int .i64 ((M y).getD 0), .bool (M y).isSome])) w) :
  wpList P ops Q (o :: rest) a w := by
 obtain ⟨D, ho, hT⟩ := hown
 refine wpList_lookup_own_ok_int w hg m x t hop k k .i64 (int_keyed hk) ht hk hz b n D hm ho _ _ hx (keyOf_int_mk hk hw) fun c hat _ => ?_
 rw [hT.get y] at hat
 have e : (M y).getD 0 = c := by injection hat with h1; injection h1
 rw [← e, hT.has y]
 exact hK
theorem wpList_ilook (hg : o.guard = none) (m x : Operand) (t : TypeId) (hop : o.op = Op.lookup t m x false)
  (k : TypeId) (hk : P.underlying k = some (.int .i64)) (ht : P.underlying t = some (.map k k)) (hz : (zeroValue k).run P w = .ok (.int .i64 0) w) (b n : Nat) (M : Int → Option Int)
  (hm : a.eval m = .map (some b)) (hown : IMap P k w b n M) (y : Int) (hx : a.eval x = .int .i64 y) (hw : (Lit.int .i64 y).wf = true)
  (hK : wpList P ops Q rest (a.put o.dst (.int .i64 ((M y).getD 0))) w) :
  wpList P ops Q (o :: rest) a w := by
 obtain ⟨D, ho, hT⟩ := hown
 refine wpList_lookup_own_int w hg m x t hop k k .i64 (int_keyed hk) ht hk hz b n D hm ho _ _ hx (keyOf_int_mk hk hw) fun c hat _ => ?_
 rw [hT.get y] at hat
 have e : (M y).getD 0 = c := by injection hat with h1; injection h1
 rw [← e]
 exact hK
theorem wpList_idelete (hg : o.guard = none) (m x : Operand) (t k : TypeId) (hop : o.op = Op.call { callee := Callee.builtin Builtin.delete, args := #[m, x], argTypes := #[t, k] })
  (hk : P.underlying k = some (.int .i64)) (ht : P.underlying t = some (.map k k)) (b n : Nat) (M : Int → Option Int)
  (hm : a.eval m = .map (some b)) (hown : IMap P k w b n M) (y : Int) (hx : a.eval x = .int .i64 y) (hw : (Lit.int .i64 y).wf = true)
  (hK : ∀ w', IMap P k w' b n (fun z => if z = y then none else M z) → w.grownBy w' (some b) → wpList P ops Q rest (a.put o.dst (.tuple #[])) w') :
  wpList P ops Q (o :: rest) a w := by
 obtain ⟨D, ho, hT⟩ := hown
 exact wpList_delete_own w hg m x t k hop k (int_keyed hk) ht (plainElem P k) b n D hm ho _ _ hx (keyOf_int_mk hk hw) fun w' h1 h2 => hK w' ⟨_, h1, hT.del y⟩ h2.grown
def IRange (P : Program) (k : TypeId) (w : World) (b r n : Nat) (M : Int → Option Int) (L : Int → Bool) (cnt : Nat) : Prop :=
 ∃ (D : DataW Unit) (left : Lit → Bool), w.ranges P k (plainElem P k) b r n D left cnt ∧ Tells D M ∧ ∀ x, left (.int .i64 x) = L x
theorem IRange.left_eq {L : Int → Bool} {cnt r : Nat} (h : IRange P k w b r n M L cnt) : w.rangeLeft b r = cnt := by
 obtain ⟨D, left, h1, _⟩ := h; exact h1.left_eq
theorem IRange.kept {L : Int → Bool} {cnt r : Nat} {w' : World} {row : Option Nat} (h : IRange P k w b r n M L cnt) (hg : w.grownBy w' row) (h1 : some b ≠ row) (h2 : some r ≠ row) : IRange P k w' b r n M L cnt := by
 obtain ⟨D, left, h3, h4, h5⟩ := h; exact ⟨D, left, h3.kept hg h1 h2, h4, h5⟩
theorem wpList_irange (hg : o.guard = none) (m : Operand) (t : TypeId) (hop : o.op = Op.range t m) (k : TypeId) (hk : P.underlying k = some (.int .i64)) (ht : P.underlying t = some (.map k k)) (b n : Nat) (M : Int → Option Int)
  (hm : a.eval m = .map (some b)) (hown : IMap P k w b n M)
  (hK : ∀ w' cnt, IRange P k w' b w.heap.size n M (fun x => (M x).isSome) cnt → w.grownBy w' none → w'.heap.size = w.heap.size + 1 → wpList P ops Q rest (a.put o.dst (.pointer (some ⟨w.heap.size, 0, none⟩))) w') :
  wpList P ops Q (o :: rest) a w := by
 obtain ⟨D, ho, hT⟩ := hown
 exact wpList_range_own w hg m t hop k k (int_keyed hk) ht (plainElem P k) b n D hm ho fun w' h1 h2 h3 => hK w' _ ⟨D, _, h1, hT, hT.has⟩ h2 h3
theorem wpList_inext (hg : o.guard = none) (it : Operand) (hop : o.op = Op.next it false) (k : TypeId) (hk : P.underlying k = some (.int .i64))
  (b r n : Nat) (M : Int → Option Int) (L : Int → Bool) (cnt : Nat) (hit : a.eval it = .pointer (some ⟨r, 0, none⟩)) (h : IRange P k w b r n M L cnt)
  (hDone : (∀ x, L x = false) → wpList P ops Q rest (a.put o.dst (.tuple #[.bool false])) w)
  (hMore : ∀ (x c : Int) (w' : World) (cnt' : Nat), (Lit.int .i64 x).wf = true → (Lit.int .i64 c).wf = true → L x = true → M x = some c → IRange P k w' b r n M (fun z => L z && !decide (z = x)) cnt' → cnt' < cnt →
   w.grownBy w' (some r) → w'.heap.size = w.heap.size → (Instr.entry (.pointer (some ⟨r, 0, none⟩))).run P w' = .ok (.tuple #[.int .i64 x, .int .i64 c]) w' → wpList P ops Q rest (a.put o.dst (.tuple #[.bool true, .int .i64 x, .int .i64 c])) w') :
  wpList P ops Q (o :: rest) a w := by
 obtain ⟨D, left, h1, hT, hL⟩ := h
 refine wpList_next_ranges_ii w hg it hop k k .i64 .i64 (int_keyed hk) hk hk b r n D left cnt hit h1 (fun _ h0 => hDone fun x => by rw [← hL, h0]) ?_
 intro x c w' cnt' hwx hwc hlx hat hrg hlt hgr hsz hen
 have hhas : has D (.int .i64 x) = true := has_true_of_atKey hat
 rw [hT.has] at hhas
 have hM : M x = some c := by
  cases hm : M x with
  | none => rw [hm] at hhas; cases hhas
  | some c' =>
   have e := hat (.lit (.int .i64 0))
   rw [hT.val x c' hm] at e
   have : c' = c := by injection e with h1; injection h1
   rw [this]
 refine hMore x c w' cnt' hwx hwc (by rw [← hL]; exact hlx) hM ⟨D, _, hrg, hT, fun z => ?_⟩ hlt hgr hsz hen
 simp only [hL]
 congr 2
 by_cases e : z = x
 ·subst e; rw [WideAt.sameKey_self (key_wf hwx)]; simp
 ·rw [Maps.sameKey_ne (by simpa using e)]; simp [e]
end
end Go.Proofs.YtpopbfagliagnaaGreat
namespace Go.Proofs.YtpopbfagliagnaaGreat
open Go.Maps Go.ChangeMaps Go.MapKept Go.WideElems
section
variable {P : Program} {k t : TypeId} {w : World} {b n : Nat} {M : Int → Option Int}
theorem entry_store_at {es : Array MapEntry} {clock j : Nat} {e0 : MapEntry} (hb : w.heap[b]? = some (.map es clock)) (hn : (es.toList.map (·.born)).Nodup) (hj : es.toList[j]? = some e0) (val : Value) :
  (Instr.entryStore t (.map (some b)) (goInt e0.born) val).run P w = .ok () (setBlock w b (.map (es.modify j fun e => { e with val := val }) clock)) := by
 have hidx : es.findIdx? (fun e => ((e.born : Nat) : Int) == ((e0.born : Nat) : Int)) = some j := by
  rw [findIdx_arr]; exact findIdx_born hn hj
 simp [Instr.entryStore, MapKept.run_getObj_map hb, asInt, asIntOf, goInt, hidx, MapKept.run_setObj_map _ hb, Result.andThen, setBlock]
theorem imap_entry (h : IMap P k w b n M) (hk : P.underlying k = some (.int .i64)) (ht : P.underlying t = some (.map k k)) (hz : ∀ u : World, (zeroValue k).run P u = .ok (.int .i64 0) u) (hn : n < maxLen) {y : Int} (hw : (Lit.int .i64 y).wf = true) :
  ∃ (v0 : Value) (st : Nat) (es1 : Array MapEntry) (clock1 : Nat), (Instr.mapEntry t (.map (some b)) (.int .i64 y)).run P w = .ok (.tuple #[v0, goInt st]) (setBlock w b (.map es1 clock1)) ∧
   ∀ (w2 : World) (c : Int), (Lit.int .i64 c).wf = true → w2.heap[b]? = some (.map es1 clock1) → ∃ es' clock', (Instr.entryStore t (.map (some b)) (goInt st) (.int .i64 c)).run P w2 = .ok () (setBlock w2 b (.map es' clock')) ∧
    IMap P k (setBlock w2 b (.map es' clock')) b (n + 1) (fun z => if z = y then some c else M z) := by
 have K := int_keyed hk
 obtain ⟨D, ho, hT⟩ := h
 have hup : ∀ c : Int, (Lit.int .i64 c).wf = true → ∃ w', (Instr.mapUpdate t (.map (some b)) (.int .i64 y) (.int .i64 c)).run P w = .ok () w' ∧ IMap P k w' b (n + 1) (fun z => if z = y then some c else M z) := fun c hc => by
  obtain ⟨w', h1, h2, _⟩ := ho.update K ht hn (keyOf_int_mk hk hw) (plainElem_int hk hc)
  exact ⟨w', h1, _, h2, hT.put hw c⟩
 have hmove : ∀ (w2 : World) (c : Int) (es' : Array MapEntry) (clock' : Nat) (e2 : Array MapEntry) (c2 : Nat), (Lit.int .i64 c).wf = true → w2.heap[b]? = some (.map e2 c2) →
   (Instr.mapUpdate t (.map (some b)) (.int .i64 y) (.int .i64 c)).run P w = .ok () (setBlock w b (.map es' clock')) → IMap P k (setBlock w2 b (.map es' clock')) b (n + 1) (fun z => if z = y then some c else M z) := by
  intro w2 c es' clock' e2 c2 hc h2 hrun
  obtain ⟨w', h3, h4⟩ := hup c hc
  rw [hrun] at h3
  injection h3 with _ h5
  rw [← h5] at h4
  obtain ⟨es, clock, hb, _⟩ := ho
  exact h4.block ((heap_setBlock_same h2 _).trans (heap_setBlock_same hb _).symm)
 obtain ⟨es, clock, hb, F, _, _⟩ := ho
 obtain ⟨s1, s2, _⟩ := F.stamped
 have hkey := keyOf_int_mk (k := k) hk hw
 rcases K.find w hkey es.toList F.keys with ⟨h1, h2⟩ | ⟨j, e0, h1, h2, h3⟩
 ·have hlast : (es.push ⟨.int .i64 y, .int .i64 0, clock⟩).toList[es.size]? = some ⟨.int .i64 y, .int .i64 0, clock⟩ := by simp
  have hnd : ((es.push ⟨.int .i64 y, .int .i64 0, clock⟩).toList.map (·.born)).Nodup := by
   rw [Array.toList_push, List.map_append]
   refine List.nodup_append.2 ⟨s2, by simp, fun a ha c hc e => ?_⟩
   obtain ⟨x, hx, rfl⟩ := List.mem_map.1 ha
   have := s1 x hx
   simp at hc; omega
  refine ⟨.int .i64 0, clock, _, clock + 1, ?_, fun w2 c hc hw2 => ⟨_, _, entry_store_at hw2 hnd hlast _, hmove w2 c _ _ _ _ hc hw2 ?_⟩⟩
  ·simp [Instr.mapEntry, run_underlying ht, MapKept.run_getObj_map hb, K.check w false hkey, h1, hz, MapKept.run_setObj_map _ hb, Result.andThen, setBlock]
  ·have hmod : (es.push ⟨.int .i64 y, .int .i64 0, clock⟩).modify es.size (fun e => { e with val := .int .i64 c }) = es.push ⟨.int .i64 y, .int .i64 c, clock⟩ := by
    apply Array.ext'
    rw [Array.toList_modify, Array.toList_push, Array.toList_push, ← Array.length_toList, modify_last]
   rw [hmod]
   simp [Instr.mapUpdate, run_underlying ht, MapKept.run_getObj_map hb, K.check w false hkey, h1, MapKept.run_setObj_map _ hb, Result.andThen, setBlock]
 ·have hj : es[j]? = some e0 := by simpa using h2
  have hsame : es.modify j (fun e => { e with key := .int .i64 y }) = es := by
   apply Array.ext'
   rw [Array.toList_modify, modify_eq_set _ _ _ _ h2, show ({ e0 with key := .int .i64 y } : MapEntry) = e0 by rw [← h3]]
   exact set_self _ _ _ h2
  refine ⟨e0.val, e0.born, es, clock, ?_, fun w2 c hc hw2 => ⟨_, _, entry_store_at hw2 s2 h2 _, hmove w2 c _ _ _ _ hc hw2 ?_⟩⟩
  ·simp [Instr.mapEntry, run_underlying ht, MapKept.run_getObj_map hb, K.check w false hkey, h1, hj, h3, K.stays w hkey, hsame, MapKept.run_setObj_map _ hb, Result.andThen, setBlock]
  ·have hmod : es.modify j (fun e => { e with val := .int .i64 c }) = es.modify j (fun e' => { e' with key := .int .i64 y, val := .int .i64 c }) := by
    apply Array.ext'
    rw [Array.toList_modify, Array.toList_modify, modify_eq_set _ _ _ _ h2, modify_eq_set _ _ _ _ h2, ← h3]
   rw [hmod]
   simp [Instr.mapUpdate, run_underlying ht, MapKept.run_getObj_map hb, K.check w false hkey, h1, hj, h3, K.stays w hkey, MapKept.run_setObj_map _ hb, Result.andThen, setBlock]
end
def Pend (P : Program) (k t : TypeId) (w : World) (b n : Nat) (M : Int → Option Int) (y : Int) (st : Nat) : Prop :=
 ∃ (es1 : Array MapEntry) (clock1 : Nat), w.heap[b]? = some (.map es1 clock1) ∧
  ∀ (w2 : World) (c : Int), (Lit.int .i64 c).wf = true → w2.heap[b]? = some (.map es1 clock1) → ∃ es' clock', (Instr.entryStore t (.map (some b)) (goInt st) (.int .i64 c)).run P w2 = .ok () (setBlock w2 b (.map es' clock')) ∧
   IMap P k (setBlock w2 b (.map es' clock')) b (n + 1) (fun z => if z = y then some c else M z)
section
variable {P : Program} {k t : TypeId} {w : World} {b n : Nat} {M : Int → Option Int} {ops : Array Oper} {rest : List Oper} {o : Oper} {a : Act} {Q : Exit → Act → World → Prop} {y : Int} {st : Nat}
theorem grown_setBlock (w : World) (b : Nat) (x : Obj) : w.grownBy (setBlock w b x) (some b) :=
 ⟨rfl, rfl, rfl, by simp [setBlock], fun i hi hne => by
  have : i ≠ b := fun e => hne (by rw [e])
  simp [setBlock, Ne.symm this]⟩
theorem wpList_ientry (hg : o.guard = none) (m x : Operand) (t : TypeId) (hop : o.op = Op.mapEntry t m x)
  (k : TypeId) (hk : P.underlying k = some (.int .i64)) (ht : P.underlying t = some (.map k k)) (hz : ∀ u : World, (zeroValue k).run P u = .ok (.int .i64 0) u) (b n : Nat) (M : Int → Option Int)
  (hm : a.eval m = .map (some b)) (hown : IMap P k w b n M) (hn : n < maxLen) (y : Int) (hx : a.eval x = .int .i64 y) (hw : (Lit.int .i64 y).wf = true)
  (hK : ∀ w' v0 st, Pend P k t w' b n M y st → w.grownBy w' (some b) → wpList P ops Q rest (a.put o.dst (.tuple #[v0, goInt st])) w') :
  wpList P ops Q (o :: rest) a w := by
 refine wpList_plain hg fun K' hK' => ?_
 have hlt := hown.lt
 obtain ⟨v0, st, es1, clock1, h1, h2⟩ := imap_entry hown hk ht hz hn hw
 unfold Oper.wp
 simp [execOp, hop, hm, hx, h1, Result.andThen]
 exact hK' _ _ (hK _ v0 st ⟨es1, clock1, by simp [setBlock, hlt], h2⟩ (grown_setBlock _ _ _))
theorem wpList_ientryStore (hg : o.guard = none) (m s x : Operand) (t : TypeId) (hop : o.op = Op.entryStore t m s x)
  (k : TypeId) (b n : Nat) (M : Int → Option Int) (y : Int) (st : Nat) (c : Int)
  (hm : a.eval m = .map (some b)) (hs : a.eval s = goInt st) (hx : a.eval x = .int .i64 c) (hp : Pend P k t w b n M y st) (hc : (Lit.int .i64 c).wf = true)
  (hK : ∀ w', IMap P k w' b (n + 1) (fun z => if z = y then some c else M z) → w.grownBy w' (some b) → wpList P ops Q rest (a.put o.dst undef) w') :
  wpList P ops Q (o :: rest) a w := by
 refine wpList_plain hg fun K' hK' => ?_
 obtain ⟨es1, clock1, h1, h2⟩ := hp
 obtain ⟨es', clock', h3, h4⟩ := h2 w c hc h1
 unfold Oper.wp
 simp [execOp, hop, hm, hs, hx, h3, Result.andThen]
 exact hK' _ _ (hK _ h4 (grown_setBlock _ _ _))
end
end Go.Proofs.YtpopbfagliagnaaGreat
namespace Go.Proofs.YtpopbfagliagnaaGreat
open Go.RowKit Go.Maps
structure Tri where
 p : Nat
 s : Nat
 e : Nat
def Tri.list (T : Tri) : List Nat := [T.p, T.s, T.e]
structure MapsAt (w : World) (T : Tri) (n lim : Nat) (M E : Int → Option Int) : Prop where
 head : w.heap[T.p]? = some (.cells #[.map (some T.s), .map (some T.e), .int .i64 (lim : Int)] 322 (0, 0))
 byS : IMap Tryz.prog 3 w T.s n M
 byE : IMap Tryz.prog 3 w T.e n E
 ne1 : T.p ≠ T.s
 ne2 : T.p ≠ T.e
 ne3 : T.s ≠ T.e
theorem MapsAt.row {w : World} {T : Tri} {n lim : Nat} {M E : Int → Option Int} (h : MapsAt w T n lim M E) : RowAt w T.p 322 [.map (some T.s), .map (some T.e), .int .i64 (lim : Int)] := ⟨_, h.head, [], rfl⟩
theorem MapsAt.keep {w w' : World} {T : Tri} {n lim : Nat} {M E : Int → Option Int} (h : MapsAt w T n lim M E) (hk : ∀ k ∈ T.list, w'.heap[k]? = w.heap[k]?) : MapsAt w' T n lim M E := by
 have h1 := hk T.p (by simp [Tri.list])
 have h2 := hk T.s (by simp [Tri.list])
 have h3 := hk T.e (by simp [Tri.list])
 exact ⟨h1.trans h.head, h.byS.block h2, h.byE.block h3, h.ne1, h.ne2, h.ne3⟩
theorem MapsAt.mem {w : World} {T : Tri} {n lim : Nat} {M E : Int → Option Int} (h : MapsAt w T n lim M E) : ∀ k ∈ T.list, k < w.heap.size := by
 have h1 := h.row.lt
 have h2 := h.byS.lt
 have h3 := h.byE.lt
 simp only [Tri.list, List.mem_cons, List.not_mem_nil, or_false, forall_eq_or_imp, forall_eq]
 exact ⟨h1, h2, h3⟩
theorem MapsAt.below {w w' : World} {T : Tri} {n lim : Nat} {M E : Int → Option Int} (h : MapsAt w T n lim M E) (hb : Below w.heap.size w w') : MapsAt w' T n lim M E := h.keep (fun k hk => hb.block k (h.mem k hk))
theorem MapsAt.mono {w : World} {T : Tri} {n m lim : Nat} {M E : Int → Option Int} (h : MapsAt w T n lim M E) (hn : n ≤ m) : MapsAt w T m lim M E := ⟨h.head, h.byS.mono hn, h.byE.mono hn, h.ne1, h.ne2, h.ne3⟩
def IxAt (w : World) (T : Tri) (n : Nat) (l : List Bool) : Prop := ∃ M E, MapsAt w T n l.length M E ∧ MOf l M ∧ EOf l E
theorem IxAt.below {w w' : World} {T : Tri} {n : Nat} {l : List Bool} (h : IxAt w T n l) (hb : Below w.heap.size w w') : IxAt w' T n l := by
 obtain ⟨M, E, h1, h2⟩ := h; exact ⟨M, E, h1.below hb, h2⟩
theorem IxAt.keep {w w' : World} {T : Tri} {n : Nat} {l : List Bool} (h : IxAt w T n l) (hk : ∀ k ∈ T.list, w'.heap[k]? = w.heap[k]?) : IxAt w' T n l := by
 obtain ⟨M, E, h1, h2⟩ := h; exact ⟨M, E, h1.keep hk, h2⟩
theorem IxAt.mem {w : World} {T : Tri} {n : Nat} {l : List Bool} (h : IxAt w T n l) : ∀ k ∈ T.list, k < w.heap.size := by
 obtain ⟨M, E, h1, h2⟩ := h; exact h1.mem
theorem MOf.bounds {l : List Bool} {M : Int → Option Int} (h : MOf l M) {s c : Int} (hm : M s = some c) : 0 ≤ s ∧ 1 ≤ c ∧ s + c ≤ l.length := by
 obtain ⟨h1, h2, h3⟩ := (h s c).1 hm
 have := runEnds h3
 have := h3.1
 omega
def hasB (l : List Bool) (b : Int) : Bool := decide (0 ≤ b) && fb l b.toNat
theorem hasB_hit {l : List Bool} {M : Int → Option Int} (h : MOf l M) {s c b : Int} (hm : M s = some c) (h1 : s ≤ b) (h2 : b < s + c) : hasB l b = true := by
 obtain ⟨h3, h4, h5⟩ := (h s c).1 hm
 have := h5.2.1 b.toNat (by omega) (by omega)
 unfold hasB
 rw [this]
 simp; omega
theorem hasB_miss {l : List Bool} {M : Int → Option Int} (h : MOf l M) {b : Int} (hn : ∀ s c, M s = some c → ¬ (s ≤ b ∧ b < s + c)) : hasB l b = false := by
 unfold hasB
 by_cases hb : 0 ≤ b
 ·cases hf : fb l b.toNat with
  | false => simp
  | true =>
   obtain ⟨s, n, h1, h2, h3⟩ := has_run (f := fb l) (L := l.length) (fun x hx => fb_far l x hx) hf
   exact absurd ⟨by omega, by omega⟩ (hn s n ((h s n).2 ⟨by omega, by omega, by simpa using h1⟩))
 ·simp [hb]
theorem grown_one {w w' : World} {r B : Nat} (h : w.grownBy w' (some r)) (hr : B ≤ r) (hB : B ≤ w.heap.size) : Below B w w' :=
 ⟨h.os, h.tape, h.output, h.size, fun k hk => h.block k (by omega) (by simp; omega)⟩
theorem grown_touch {w w' : World} {r : Nat} {L : List Nat} (h : w.grownBy w' (some r)) (hr : r ∈ L) : Touch L w w' :=
 ⟨h.os, h.tape, h.output, h.size, fun k hk hn => h.block k hk (by simp; intro e; exact hn (by rw [e]; exact hr))⟩
theorem grown_none {w w' : World} (h : w.grownBy w' none) : Below w.heap.size w w' :=
 ⟨h.os, h.tape, h.output, h.size, fun k hk => h.block k hk (by simp)⟩
set_option maxHeartbeats 1000000 in
theorem has_any {w : World} {T : Tri} {n : Nat} {l : List Bool} (h : IxAt w T n l) (hl : l.length ≤ 1000000000000) (b : Int) :
  Calls Tryz.prog 300 #[.pointer (some ⟨T.p, 0, none⟩), .int .i64 b] w fun e w' => e = .returned (.bool (hasB l b)) ∧ Below w.heap.size w w' := by
 obtain ⟨M, E, hA, hMO, _⟩ := h
 have e0 : w.cell? ⟨T.p, 0, none⟩ = some (.map (some T.s)) := hA.row.cell rfl
 have HS := LH hA.byS
 have HMO := LH hMO
 have HL := LH hl
 clear hA hMO hl
 go_enter Tryz.func300, Tryz.ntmps300
 go_wp2_with (at_range; refine wpList_irange rfl _ 248 rfl 3 Tryz.underlying3 Tryz.underlying248 T.s n M rfl HS.out ?_; intro w0 cnt0 hr0 hg0 hs0)
 have HR0 := LH hr0
 have HB0 := LH (grown_none hg0)
 clear hr0 hg0 hs0
 go_frame
 go_loopw [5] (fun _ wr => ∃ (L : Int → Bool) (cnt : Nat), IRange Tryz.prog 3 wr T.s w.heap.size n M L cnt ∧ Below w.heap.size w wr ∧ ∀ s c, M s = some c → L s = false → ¬ (s ≤ b ∧ b < s + c)) (fun _ wr => wr.rangeLeft T.s w.heap.size)
 case atStart => exact ⟨_, _, HR0.out, HB0.out, fun s c h1 h2 => by rw [h1] at h2; cases h2⟩
 case round =>
  obtain ⟨L, cnt, hr, hb, hun⟩ := hrel
  have HR := LH hr
  have HB := LH hb
  have HU := LH hun
  clear hr hb hun
  go_wp2_with (at_next; refine wpList_inext rfl _ rfl 3 Tryz.underlying3 T.s w.heap.size n M _ _ rfl HR.out ?_ ?_)
  ·intro h0
   have hres : hasB l b = false := hasB_miss HMO.out (fun s c hm => HU.out s c hm (h0 s))
   clear h0
   go_wp2_with fail
   go_ret
   rw [hres]
   exact ⟨rfl, HB.out⟩
  ·intro x c w1 cnt1 hwx hwc hL hMx hr1 hlt hg1 hs1 hen
   obtain ⟨g1, g2, g3⟩ := HMO.out.bounds hMx
   have g4 := HL.out
   have HR1 := LH hr1
   have HB1 : Hid (Below w.heap.size w w1) := LH (HB.out.trans (grown_one hg1 (Nat.le_refl _) HB.out.size))
   have HMx := LH hMx
   have HLt := LH hlt
   clear hL hMx hr1 hlt hg1 hs1 hwx hwc
   by_cases hit : x ≤ b ∧ b < x + c
   ·obtain ⟨h1, h2⟩ := hit
    have hres : hasB l b = true := hasB_hit HMO.out HMx.out h1 h2
    have HRes := LH hres
    clear hres
    go_wp2_with fail
    go_ret
    rw [HRes.out]
    exact ⟨rfl, HB1.out⟩
   ·have hit' : b < x ∨ (x ≤ b ∧ x + c ≤ b) := by omega
    have HU1 : Hid (∀ s d, M s = some d → (L s && !decide (s = x)) = false → ¬ (s ≤ b ∧ b < s + d)) := LH (by
     intro s d hm hls
     by_cases e : s = x
     ·subst e
      rw [HMx.out] at hm
      cases hm
      exact hit
     ·simp [e] at hls
      exact HU.out s d hm hls)
    clear hit
    rcases hit' with h1 | ⟨h1, h2⟩
    all_goals
     go_wp2_with fail
     go_roundw
     case rel => exact ⟨_, _, HR1.out, HB1.out, HU1.out⟩
     case measure => rw [HR1.out.left_eq, HR.out.left_eq]; exact HLt.out
def mdel (M : Int → Option Int) (y : Int) : Int → Option Int := fun z => if z = y then none else M z
def mput (M : Int → Option Int) (y c : Int) : Int → Option Int := fun z => if z = y then some c else M z
theorem i64wf {x : Int} (h1 : -9223372036854775808 ≤ x) (h2 : x < 9223372036854775808) : (Lit.int .i64 x).wf = true := by
 simp [Lit.wf, IntKind.min, IntKind.max, IntKind.bits, IntKind.signed]
 omega
set_option maxHeartbeats 1000000 in
theorem drop_any {w : World} {T : Tri} {n lim : Nat} {M E : Int → Option Int} (h : MapsAt w T n lim M E) {s c : Int} (hm : M s = some c) (h1 : 0 ≤ s) (h2 : 0 ≤ c) (h3 : s + c ≤ 1000000000000) :
  Calls Tryz.prog 301 #[.pointer (some ⟨T.p, 0, none⟩), .int .i64 s] w fun e w' => e = .returned (.tuple #[]) ∧ MapsAt w' T n lim (mdel M s) (mdel E (s + c)) ∧ Touch [T.s, T.e] w w' := by
 have e0 : w.cell? ⟨T.p, 0, none⟩ = some (.map (some T.s)) := h.row.cell rfl
 have e1 : w.cell? ⟨T.p, 1, none⟩ = some (.map (some T.e)) := h.row.cell rfl
 have hnp : T.p ∉ [T.s, T.e] := by have := h.ne1; have := h.ne2; simp; omega
 have r0 := fun x => near_cell (L := [T.s, T.e]) e0 hnp x
 have r1 := fun x => near_cell (L := [T.s, T.e]) e1 hnp x
 have HM := LH hm
 have HA := LH h
 have HNp := LH hnp
 have HN3 := LH h.ne3
 have HW := LH (i64wf (x := s) (by omega) (by omega))
 have HW2 := LH (i64wf (x := s + c) (by omega) (by omega))
 clear hm h e0 e1 hnp
 go_enter Tryz.func301, Tryz.ntmps301
 go_wp2_with fail
 have HC0 : ∃ x : Near [T.s, T.e] w, w.drew = x.val := near_of (Touch.ofBelow (later_below (later_drew w)))
 refine wp_region_seg (C := fun w' => ∃ x : Near [T.s, T.e] w, w' = x.val) [.fl [0, 1, 2, 3, 4, 5, 6, 7, 8, 9], .sq [10] true, .fl [11], .sq [12] false] (by kernel_rfl) (by kernel_rfl) (by intro c a d v w h; cases d <;> exact h) ?_
 simp only [segs, picks, List.getElem?_cons_succ, List.getElem?_cons_zero]
 refine wpSeg_fl HC0 ?_
 repeat (first | go_big_quiet_step (fail) | quiet_step (fail))
 refine wpQuiet_nil ?_
 have HA0 := LH (HA.out.below (later_below (later_drew w)))
 have HT0 := LH (Touch.ofBelow (L := [T.s, T.e]) (later_below (later_drew w)))
 generalize w.drew = w0 at *
 refine wpSeg_sq (fun K hK => ?_)
 go_wp2_with (refine wpList_ilook rfl _ _ 248 rfl 3 Tryz.underlying3 Tryz.underlying248 (by kernel_rfl) T.s n M rfl HA0.out.byS s rfl HW.out ?_; rw [HM.out, Option.getD_some])
 go_wp2_with fail
 refine hK _ _ (fun _ => HC0) ?_
 clear hK K
 refine wpSeg_fl HC0 ?_
 repeat (first | go_big_quiet_step (fail) | quiet_step (fail))
 refine wpQuiet_nil ?_
 refine wpSeg_last ?_
 go_wp2_with (first | (refine wpList_idelete rfl _ _ 248 3 rfl Tryz.underlying3 Tryz.underlying248 T.e n E rfl HA0.out.byE (s + c) rfl HW2.out ?_; intro w2 hE2 hg2; have HE2 := LH hE2; have HG2 := LH hg2; have HT2 : Hid (Touch [T.s, T.e] w w2) := LH (HT0.out.trans (grown_touch hg2 (by simp))); have HS2 := LH (HA0.out.byS.kept hg2 (by simp; exact HN3.out)); have e0 : w2.cell? ⟨T.p, 0, none⟩ = some (.map (some T.s)) := cell_of_row _ _ 0 _ _ _ ((HT2.out.block T.p (HA.out.row.lt) HNp.out).trans HA.out.head); clear hE2 hg2 HC0 r0 r1) | (refine wpList_idelete rfl _ _ 248 3 rfl Tryz.underlying3 Tryz.underlying248 T.s n M rfl HS2.out s rfl HW.out ?_; intro w3 hS3 hg3; have HS3 := LH hS3; have HG3 := LH hg3; clear hS3 hg3))
 go_end0
 have ht : Touch [T.s] w2 w3 := grown_touch HG3.out (by simp)
 refine ⟨rfl, ⟨?_, HS3.out, HE2.out.kept HG3.out (by simp; exact fun e => HN3.out e.symm), HA.out.ne1, HA.out.ne2, HA.out.ne3⟩, HT2.out.trans (grown_touch HG3.out (by simp))⟩
 exact (ht.block T.p (Nat.lt_of_lt_of_le HA.out.row.lt HT2.out.size) (by have := HNp.out; simp at this ⊢; exact this.1)).trans ((HT2.out.block T.p (HA.out.row.lt) HNp.out).trans HA.out.head)
set_option maxHeartbeats 1000000 in
theorem add_any {w : World} {T : Tri} {n lim : Nat} {M E : Int → Option Int} (h : MapsAt w T n lim M E) (hn : n < 1000000000000) {s c : Int} (h1 : 0 ≤ s) (h2 : 0 ≤ c) (h3 : s + c ≤ 1000000000000) :
  Calls Tryz.prog 302 #[.pointer (some ⟨T.p, 0, none⟩), .int .i64 s, .int .i64 c] w fun e w' => e = .returned (.tuple #[]) ∧ MapsAt w' T (n + 1) lim (mput M s c) (mput E (s + c) s) ∧ Touch [T.s, T.e] w w' := by
 have e0 : w.cell? ⟨T.p, 0, none⟩ = some (.map (some T.s)) := h.row.cell rfl
 have e1 : w.cell? ⟨T.p, 1, none⟩ = some (.map (some T.e)) := h.row.cell rfl
 have hnp : T.p ∉ [T.s, T.e] := by have := h.ne1; have := h.ne2; simp; omega
 have r0 := fun x => near_cell (L := [T.s, T.e]) e0 hnp x
 have r1 := fun x => near_cell (L := [T.s, T.e]) e1 hnp x
 have HA := LH h
 have HNp := LH hnp
 have HN3 := LH h.ne3
 have HW := LH (i64wf (x := s) (by omega) (by omega))
 have HWc := LH (i64wf (x := c) (by omega) (by omega))
 have HW2 := LH (i64wf (x := s + c) (by omega) (by omega))
 have HNm : Hid (n < maxLen) := LH (by unfold maxLen; omega)
 clear h e0 e1 hnp
 go_enter Tryz.func302, Tryz.ntmps302
 go_wp2_with fail
 have HC0 : ∃ x : Near [T.s, T.e] w, w.drew = x.val := near_of (Touch.ofBelow (later_below (later_drew w)))
 refine wp_region_seg (C := fun w' => ∃ x : Near [T.s, T.e] w, w' = x.val) [.fl [0, 1, 2, 3, 4, 5, 6, 7, 8, 9, 10, 11, 12, 13], .sq [14] true, .fl [15], .sq [16] true, .sq [17] true, .fl [18], .sq [19] false] (by kernel_rfl) (by kernel_rfl) (by intro c a d v w h; cases d <;> exact h) ?_
 simp only [segs, picks, List.getElem?_cons_succ, List.getElem?_cons_zero]
 refine wpSeg_fl HC0 ?_
 repeat (first | go_big_quiet_step (fail) | quiet_step (fail))
 refine wpQuiet_nil ?_
 have HA0 := LH (HA.out.below (later_below (later_drew w)))
 have HT0 := LH (Touch.ofBelow (L := [T.s, T.e]) (later_below (later_drew w)))
 generalize w.drew = w0 at *
 refine wpSeg_sq (fun K hK => ?_)
 go_wp2_with (refine wpList_ientry rfl _ _ 248 rfl 3 Tryz.underlying3 Tryz.underlying248 (fun _ => by kernel_rfl) T.s n M rfl HA0.out.byS HNm.out s rfl HW.out ?_; intro w1 v1 st1 hp1 hg1; have HP1 := LH hp1; have HT1 : Hid (Touch [T.s, T.e] w w1) := LH (HT0.out.trans (grown_touch hg1 (by simp))); have HE1 := LH (HA0.out.byE.kept hg1 (by simp; exact fun e => HN3.out e.symm)); have hC1 := near_of HT1.out; clear hp1 hg1; unfold goInt)
 go_wp2_with fail
 refine hK _ _ (fun _ => hC1) ?_
 clear hK K
 refine wpSeg_fl hC1 ?_
 repeat (first | go_big_quiet_step (fail) | quiet_step (fail))
 refine wpQuiet_nil ?_
 refine wpSeg_sq (fun K hK => ?_)
 go_wp2_with (refine wpList_ientryStore rfl _ _ _ 248 rfl 3 T.s n M s st1 c rfl rfl rfl HP1.out HWc.out ?_; intro w2 hs2 hg2; have HS2 := LH hs2; have HT2 : Hid (Touch [T.s, T.e] w w2) := LH (HT1.out.trans (grown_touch hg2 (by simp))); have HE2 := LH (HE1.out.kept hg2 (by simp; exact fun e => HN3.out e.symm)); have hC2 := near_of HT2.out; clear hs2 hg2 hC1)
 go_wp2_with fail
 refine hK _ _ (fun _ => hC2) ?_
 clear hK K
 refine wpSeg_sq (fun K hK => ?_)
 go_wp2_with (refine wpList_ientry rfl _ _ 248 rfl 3 Tryz.underlying3 Tryz.underlying248 (fun _ => by kernel_rfl) T.e n E rfl HE2.out HNm.out (s + c) rfl HW2.out ?_; intro w3 v3 st3 hp3 hg3; have HP3 := LH hp3; have HT3 : Hid (Touch [T.s, T.e] w w3) := LH (HT2.out.trans (grown_touch hg3 (by simp))); have HS3 := LH (HS2.out.kept hg3 (by simp; exact HN3.out)); have hC3 := near_of HT3.out; clear hp3 hg3; unfold goInt)
 go_wp2_with fail
 refine hK _ _ (fun _ => hC3) ?_
 clear hK K
 refine wpSeg_fl hC3 ?_
 repeat (first | go_big_quiet_step (fail) | quiet_step (fail))
 refine wpQuiet_nil ?_
 refine wpSeg_last ?_
 go_wp2_with (refine wpList_ientryStore rfl _ _ _ 248 rfl 3 T.e n E (s + c) st3 s rfl rfl rfl HP3.out HW.out ?_; intro w4 he4 hg4; have HE4 := LH he4; have HT4 : Hid (Touch [T.s, T.e] w w4) := LH (HT3.out.trans (grown_touch hg4 (by simp))); have HS4 := LH (HS3.out.kept hg4 (by simp; exact HN3.out)); clear he4 hg4)
 go_end0
 exact ⟨rfl, ⟨(HT4.out.block T.p (HA.out.row.lt) HNp.out).trans HA.out.head, HS4.out, HE4.out, HA.out.ne1, HA.out.ne2, HA.out.ne3⟩, HT4.out⟩
theorem made_ix (w : World) (m : Nat) : IxAt (((w.alloc (.map #[] 0)).alloc (.map #[] 0)).alloc (.cells #[.map (some w.heap.size), .map (some (w.heap.size + 1)), .int .i64 (m : Int)] 322)) ⟨w.heap.size + 1 + 1, w.heap.size, w.heap.size + 1⟩ 0 (List.replicate m false) ∧
  Below w.heap.size w (((w.alloc (.map #[] 0)).alloc (.map #[] 0)).alloc (.cells #[.map (some w.heap.size), .map (some (w.heap.size + 1)), .int .i64 (m : Int)] 322)) := by
 have hfb : ∀ b, fb (List.replicate m false) b = false := fun b => by unfold fb; simp [List.getD_eq_getElem?_getD, List.getElem?_replicate]; split <;> rfl
 refine ⟨⟨fun _ => none, fun _ => none, ⟨?_, ((IMap.made w Tryz.prog 3).alloc _).alloc _, ?_, by simp; omega, by simp, by simp⟩, mof_nil hfb, eof_nil hfb⟩, ((Below.refl _ _).alloc (Nat.le_refl _) _).alloc (by simp) _ |>.alloc (by simp; omega) _⟩
 ·have := heap_alloc_new ((w.alloc (.map #[] 0)).alloc (.map #[] 0)) (.cells #[.map (some w.heap.size), .map (some (w.heap.size + 1)), .int .i64 (m : Int)] 322)
  rw [List.length_replicate]
  simpa using this
 ·have := (IMap.made (w.alloc (.map #[] 0)) Tryz.prog 3).alloc (.cells #[.map (some w.heap.size), .map (some (w.heap.size + 1)), .int .i64 (m : Int)] 322)
  simpa using this
set_option maxHeartbeats 1000000 in
theorem inew_any (k : Int) (w : World) (hk : k ≤ 1000000000000) :
  Calls Tryz.prog 277 #[.int .i64 k] w fun e w' => ∃ T : Tri, e = .returned (.pointer (some ⟨T.p, 0, none⟩)) ∧ (∀ b ∈ T.list, w.heap.size ≤ b) ∧ IxAt w' T 0 (List.replicate k.toNat false) ∧ Below w.heap.size w w' := by
 have hmm := @run_makeMap Tryz.prog
 by_cases h0 : k < 0
 ·have h1 := LH (made_ix w 0)
  have h2 : Hid (k.toNat = 0) := LH (by omega)
  have hmx : max k 0 = 0 := by omega
  go_enter Tryz.func277, Tryz.ntmps277
  go_wp2_with fail
  go_ret
  refine ⟨⟨w.heap.size + 1 + 1, w.heap.size, w.heap.size + 1⟩, rfl, by simp [Tri.list]; omega, ?_, h1.out.2⟩
  rw [h2.out]; exact h1.out.1
 ·obtain ⟨m, rfl⟩ := Int.eq_ofNat_of_zero_le (show 0 ≤ k by omega)
  have h1 := LH (made_ix w m)
  have hmx : max (m : Int) 0 = (m : Int) := by omega
  go_enter Tryz.func277, Tryz.ntmps277
  go_wp2_with fail
  go_ret
  refine ⟨⟨w.heap.size + 1 + 1, w.heap.size, w.heap.size + 1⟩, rfl, by simp [Tri.list]; omega, ?_, h1.out.2⟩
  exact h1.out.1
structure Part (l : List Bool) (M : Int → Option Int) (L : Int → Bool) (done rest : List Sp) : Prop where
 perm : (done ++ rest).Perm (runsOf l)
 left : ∀ s n : Nat, (s, n) ∈ rest ↔ L s = true ∧ M s = some (n : Int)
theorem Part.start {l : List Bool} {M : Int → Option Int} (h : MOf l M) : Part l M (fun x => (M x).isSome) [] (runsOf l) := by
 refine ⟨List.Perm.refl _, fun s n => ?_⟩
 rw [(runsOf_is l).mem]
 constructor
 ·intro hr
  have hm := (h (s : Int) (n : Int)).2 ⟨by omega, by omega, by simpa using hr⟩
  exact ⟨by rw [hm]; rfl, hm⟩
 ·rintro ⟨_, h1⟩
  simpa using ((h _ _).1 h1).2.2
theorem Part.step {l : List Bool} {M : Int → Option Int} {L : Int → Bool} {done rest : List Sp} (h : Part l M L done rest) (hM : MOf l M) {x c : Int} (hx : L x = true) (hm : M x = some c) :
  ∃ s k : Nat, x = s ∧ c = k ∧ (s, k) ∈ rest ∧ Part l M (fun z => L z && !decide (z = x)) (done ++ [(s, k)]) (rest.erase (s, k)) := by
 obtain ⟨h1, h2, h3⟩ := (hM _ _).1 hm
 obtain ⟨s, rfl⟩ := Int.eq_ofNat_of_zero_le h1
 obtain ⟨k, rfl⟩ := Int.eq_ofNat_of_zero_le h2
 have hin : (s, k) ∈ rest := (h.left s k).2 ⟨hx, hm⟩
 have hnd : rest.Nodup := by
  have := (h.perm.nodup_iff).2 (rising_nodup (runsOf_is l).rising)
  exact (List.nodup_append.1 this).2.1
 refine ⟨s, k, rfl, rfl, hin, ?_, fun a n => ?_⟩
 ·refine List.Perm.trans ?_ h.perm
  rw [List.append_assoc]
  exact List.Perm.append_left _ (List.perm_cons_erase hin).symm
 ·rw [hnd.mem_erase_iff, h.left]
  constructor
  ·rintro ⟨h4, h5, h6⟩
   refine ⟨?_, h6⟩
   rw [h5]
   by_cases e : (a : Int) = (s : Int)
   ·exfalso
    rw [e, hm] at h6
    have : a = s := by omega
    have : k = n := by injection h6 with h7; omega
    exact h4 (by subst this; simp; omega)
   ·simp [e]
  ·rintro ⟨h4, h5⟩
   simp at h4
   exact ⟨fun e => h4.2 (by cases e; rfl), h4.1, h5⟩
theorem Part.finish {l : List Bool} {M : Int → Option Int} {L : Int → Bool} {done rest : List Sp} (h : Part l M L done rest) (h0 : ∀ x, L x = false) : done.Perm (runsOf l) := by
 have : rest = [] := List.eq_nil_iff_forall_not_mem.2 fun x hx => by
  have := ((h.left x.1 x.2).1 hx).1
  rw [h0] at this; cases this
 have h1 := h.perm
 rw [this, List.append_nil] at h1
 exact h1
end Go.Proofs.YtpopbfagliagnaaGreat
