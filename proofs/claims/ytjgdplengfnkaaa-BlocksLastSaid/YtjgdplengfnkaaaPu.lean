/- blocks: Put. -/
import Derived.Test.YtjgdplengfnkaaaSa
import Derived.Test.YtjgdplengfnkaaaFm
import Derived.Test.YtjgdplengfnkaaaMx
import Derived.Deep.Cut
namespace Go.Proofs.Ytjgdplengfnkaaa
open Go.RowKit

theorem Touch.wide {L M : List Nat} {w w' : World} (h : Touch L w w') (hs : ∀ b ∈ L, b ∈ M) : Touch M w w' := ⟨h.os, h.tape, h.output, h.size, fun k hk hn => h.block k hk (fun hm => hn (hs k hm))⟩

/-- A table of headers in memory, its row in block g. -/
structure TabG (w : World) (p g c : Nat) (F : Foot) (B : Nat) (l : List Hd) : Prop where
  head : w.heap[p]? = some (.cells #[vdev F, .int .i64 (B : Int), .slice (some ⟨g, 0, none⟩) B c] 121 (0, 0))
  len : l.length = B
  cap : B ≤ c
  row : RowAt w g 48 (hdCs l)
theorem TabAt.g {w : World} {p B : Nat} {F : Foot} {l : List Hd} (h : TabAt w p F B l) (hl : l.length = B) : ∃ g c, TabG w p g c F B l ∧ p ≠ g := by
  obtain ⟨g, c, h1, h2, h3, h4⟩ := h.ex
  rw [hl] at h1 h2
  exact ⟨g, c, ⟨h1, hl, h2, h3⟩, h4⟩
theorem TabG.at {w : World} {p g c B : Nat} {F : Foot} {l : List Hd} (h : TabG w p g c F B l) (hne : p ≠ g) : TabAt w p F B l := ⟨g, c, by rw [h.len]; exact h.head, by rw [h.len]; exact h.cap, h.row, hne⟩
theorem TabG.keep {w w' : World} {p g c B : Nat} {F : Foot} {l : List Hd} (h : TabG w p g c F B l) (h1 : w'.heap[p]? = w.heap[p]?) (h2 : w'.heap[g]? = w.heap[g]?) : TabG w' p g c F B l :=
  ⟨h1.trans h.head, h.len, h.cap, h.row.keep h2⟩
theorem TabG.lt {w : World} {p g c B : Nat} {F : Foot} {l : List Hd} (h : TabG w p g c F B l) : p < w.heap.size ∧ g < w.heap.size := ⟨(Array.getElem?_eq_some_iff.1 h.head).1, h.row.lt⟩
theorem TabG.touch {w w' : World} {p g c B : Nat} {F : Foot} {l : List Hd} (h : TabG w p g c F B l) {L : List Nat} (ht : Touch L w w') (h1 : p ∉ L) (h2 : g ∉ L) : TabG w' p g c F B l :=
  h.keep (ht.block p h.lt.1 h1) (ht.block g h.lt.2 h2)

/-- What opening answers, its row told. -/
def OpenPostG (f : Nat → Nat) (F : Foot) (B : Nat) (w : World) : Ending → World → Prop := fun en w' => Below w.heap.size w w' ∧
  ((AllOk f B ∧ ∃ p g c, en = .returned (.tuple #[.pointer (some ⟨p, 0, none⟩), .int .i64 0]) ∧ w.heap.size ≤ p ∧ w.heap.size ≤ g ∧ p ≠ g ∧ TabG w' p g c F B (hds f B)) ∨
   (∃ b : Nat, 1 ≤ b ∧ b < B ∧ AllOk f b ∧ (decN b (f b)).code ≠ 0 ∧ en = .returned (.tuple #[.pointer none, .int .i64 21])))

set_option maxHeartbeats 1000000 in
set_option maxRecDepth 100000 in
theorem open_tabG {w : World} {F : Foot} {S : Dev} (h : DevAt w F S) (B : Nat) (hB1 : 1 ≤ B) (hB : B ≤ 1000) :
    Calls Try.prog 13 #[vdev F, vgeom B] w (OpenPostG (devWord S) F B w) := by
  have hbx := below_alloc w (.cells #[.int .i64 (B : Int)] 25)
  have HD := Lib.hid (h.below hbx)
  have HB := Lib.hid hbx
  have hcx : (w.alloc (.cells #[.int .i64 (B : Int)] 25)).cell? ⟨w.heap.size, 0, none⟩ = some (.int .i64 (B : Int)) := cell_alloc_new _ _ _ 0 _ rfl
  generalize hP : OpenPostG (devWord S) F B w = Post
  have HPE := Lib.hid hP
  clear h hP hbx
  go_enter Try.func13, Try.ntmps13
  go_wp2_with fail
  refine (read_any HD.out B hB1 hB).mono ?_
  rintro e w1 ⟨hb1, ⟨hok, g, c, rfl, hg, hgc, hr⟩ | ⟨b, hb0, hbB, hok, hbad, rfl⟩⟩
  · have hcx1 : w1.cell? ⟨w.heap.size, 0, none⟩ = some (.int .i64 (B : Int)) := below_cells hb1 hcx (Nat.le_refl _)
    have HB1 := Lib.hid (HB.out.trans (hb1.mono HB.out.size))
    have HOK := Lib.hid hok
    have HR := Lib.hid hr
    have hgl := hr.lt
    clear hcx hok hr hb1 HD
    go_wp2_with fail
    rw [← HPE.out]
    refine ⟨HB1.out.alloc HB1.out.size _, .inl ⟨HOK.out, w1.heap.size, g, c, rfl, HB1.out.size, by simp at hg; omega, by omega, ⟨?_, hds_length _ _, hgc, HR.out.keep (Below.heap_alloc _ _ _ hgl)⟩⟩⟩
    rw [heap_alloc_new]
  · have HB1 := Lib.hid (HB.out.trans (hb1.mono HB.out.size))
    have HOK := Lib.hid hok
    have HBad := Lib.hid hbad
    clear hok hbad hb1 HD
    go_wp2_with fail
    rw [← HPE.out]
    exact ⟨HB1.out, .inr ⟨b, hb0, hbB, HOK.out, HBad.out, rfl⟩⟩

theorem hdCs_set (l : List Hd) (i : Nat) (h : Hd) (hi : i < l.length) : splice (hdCs l) (i * 3) h.cs = hdCs (l.set i h) := by
  have e : l = l.take i ++ l[i] :: l.drop (i + 1) := by rw [List.getElem_cons_drop, List.take_append_drop]
  have h1 : (l.take i).length = i := by simp; omega
  have h2 : l.set i h = l.take i ++ h :: l.drop (i + 1) := List.set_eq_take_append_cons_drop ▸ by rw [if_pos hi]
  rw [h2]
  conv => lhs; rw [e]
  have h3 : (hdCs (l.take i)).length = i * 3 := by rw [hdCs_length, h1]; omega
  unfold splice
  rw [show l.take i ++ l[i] :: l.drop (i + 1) = l.take i ++ ([l[i]] ++ l.drop (i + 1)) by simp, hdCs_append, hdCs_append]
  rw [show l.take i ++ h :: l.drop (i + 1) = l.take i ++ ([h] ++ l.drop (i + 1)) by simp, hdCs_append, hdCs_append]
  have h4 : (hdCs [l[i]]).length = 3 := by simp [hdCs, Hd.cs]
  have h5 : h.cs.length = 3 := by simp [Hd.cs]
  rw [List.take_append_of_le_length (by omega), List.take_of_length_le (by omega), List.drop_append, List.drop_of_length_le (by omega), h3, h5, show i * 3 + 3 - i * 3 = 3 by omega,
    List.drop_append, List.drop_of_length_le (by omega), h4]
  simp [hdCs]

/-- What putting answers: the device, the headers, the error's number. -/
structure PutR where
  dev : Dev
  list : List Hd
  err : Int
def putStep (r : PutR) (b : Nat) (h : Hd) : PutR :=
  if r.err ≠ 0 then r else
    ⟨r.dev.store (256 + (b : Int)) (encN b h.k h.c h.l), if r.dev.storeE (256 + (b : Int)) = 0 then r.list.set b h else r.list, r.dev.storeE (256 + (b : Int))⟩
def putTo (S : Dev) (L : List Hd) (b : Nat) (l : List Hd) : Nat → PutR
  | 0 => ⟨S, L, 0⟩
  | i + 1 => putStep (putTo S L b l i) (b + i) (l.getD i default)
def allRight (l : List Hd) (k : Nat) : Prop := ∀ i, i < k → hdRight (l.getD i default).k (l.getD i default).c (l.getD i default).l = true
instance (l : List Hd) (k : Nat) : Decidable (allRight l k) := Nat.decidableBallLT k _
def putIn (S : Dev) (L : List Hd) (b : Nat) (l : List Hd) : PutR :=
  if (putTo S L b l l.length).err ≠ 0 then putTo S L b l l.length else
    ⟨((putTo S L b l l.length).dev.persist (256 + (b : Int)) l.length).dev, (putTo S L b l l.length).list, ((putTo S L b l l.length).dev.persist (256 + (b : Int)) l.length).err⟩
def putAll (S : Dev) (L : List Hd) (b : Int) (l : List Hd) : PutR :=
  if b < 1 ∨ (L.length : Int) < b ∨ (L.length : Int) - b < (l.length : Int) ∨ ¬ allRight l l.length then ⟨S, L, 1⟩
  else if l.length = 0 then ⟨S, L, 0⟩ else putIn S L b.toNat l

theorem putTo_stays (S : Dev) (L : List Hd) (b : Nat) (l : List Hd) (i : Nat) (h : (putTo S L b l i).err ≠ 0) : ∀ k, i ≤ k → putTo S L b l k = putTo S L b l i
  | 0, hk => by obtain rfl : i = 0 := by omega
                rfl
  | k + 1, hk => by
    by_cases e : i = k + 1
    · rw [e]
    · have := putTo_stays S L b l i h k (by omega)
      rw [putTo, this, putStep, if_pos h]
theorem putTo_len (S : Dev) (L : List Hd) (b : Nat) (l : List Hd) : ∀ i, (putTo S L b l i).list.length = L.length
  | 0 => rfl
  | i + 1 => by
    have := putTo_len S L b l i
    unfold putTo putStep
    split
    · exact this
    · dsimp only
      split
      · rw [List.length_set]; exact this
      · exact this
theorem putTo_ok {S : Dev} {N : Nat} (h : S.ok N) (L : List Hd) (b : Nat) (l : List Hd) : ∀ i, (putTo S L b l i).dev.ok (N + i)
  | 0 => h
  | i + 1 => by
    have := putTo_ok h L b l i
    unfold putTo putStep
    split
    · exact this.mono (by omega)
    · exact Dev.store_okN this _ _

theorem putAll_in (S : Dev) {L : List Hd} {b : Nat} {l : List Hd} (h1 : 1 ≤ b) (h2 : b + l.length ≤ L.length) (h3 : allRight l l.length) : putAll S L b l = if l.length = 0 then ⟨S, L, 0⟩ else putIn S L b l := by
  unfold putAll
  rw [if_neg]
  · rfl
  · rintro (h | h | h | h)
    · omega
    · omega
    · omega
    · exact h h3

set_option maxHeartbeats 2000000 in
set_option maxRecDepth 100000 in
theorem tput_any {w : World} {p g c B : Nat} {F : Foot} {S : Dev} {L : List Hd} (h : DevAt w F S) (ht : TabG w p g c F B L) (hpg : p ≠ g) (hpF : p ∉ F.list) (hgF : g ∉ F.list) {N : Nat} (hN : N ≤ 1000000000) (ho : S.ok N) (hB : B ≤ 1000)
    (a : Option Addr) (n cap : Nat) (l : List Hd) (hn : l.length = n) (hc : Cells w a (hdCs l)) (hap : 0 < n → ∀ b o s, a = some ⟨b, o, s⟩ → b ∉ g :: F.list) (hnm : n ≤ 2 ^ 63 - 1) (b : Int) :
    Calls Try.prog 29 #[.pointer (some ⟨p, 0, none⟩), .int .i64 b, .slice a n cap] w fun e w' => e = .returned (.int .i64 (putAll S L b l).err) ∧ DevAt w' F (putAll S L b l).dev ∧ TabG w' p g c F B (putAll S L b l).list ∧ Touch (g :: F.list) w w' := by
  have c2 : w.cell? ⟨p, 2, none⟩ = some (.slice (some ⟨g, 0, none⟩) B c) := cell_of_row _ _ 2 _ _ _ ht.head
  have HD := Lib.hid h
  have HT := Lib.hid ht
  have HLB := Lib.hid ht.len
  have HN := Lib.hid hn
  have HC := Lib.hid hc
  have HAP := Lib.hid hap
  clear hn hc hap
  clear h ht
  by_cases h1 : b < 1
  · have HE : Hid (putAll S L b l = ⟨S, L, 1⟩) := Lib.hid (by unfold putAll; rw [if_pos (.inl h1)])
    go_enter Try.func29, Try.ntmps29
    go_wp2_with fail
    go_ret
    rw [HE.out]
    exact ⟨rfl, HD.out, HT.out, Touch.refl _ _⟩
  by_cases h2 : (B : Int) < b
  · have HE : Hid (putAll S L b l = ⟨S, L, 1⟩) := Lib.hid (by unfold putAll; rw [if_pos (.inr (.inl (by rw [HLB.out]; exact h2)))])
    go_enter Try.func29, Try.ntmps29
    go_wp2_with fail
    go_ret
    rw [HE.out]
    exact ⟨rfl, HD.out, HT.out, Touch.refl _ _⟩
  obtain ⟨j, rfl⟩ := Int.eq_ofNat_of_zero_le (show 0 ≤ b by omega)
  by_cases h3 : (B : Int) - (j : Int) < (n : Int)
  · have HE : Hid (putAll S L j l = ⟨S, L, 1⟩) := Lib.hid (by unfold putAll; rw [if_pos (.inr (.inr (.inl (by rw [HLB.out, HN.out]; exact h3))))])
    have hw1 : IntKind.i64.wrap ((B : Int) - (j : Int)) = (B : Int) - (j : Int) := IntWalk.i64_in _ (by omega)
    go_enter Try.func29, Try.ntmps29
    go_wp2_with fail
    go_ret
    rw [HE.out]
    exact ⟨rfl, HD.out, HT.out, Touch.refl _ _⟩
  have hj1 : 1 ≤ j := by omega
  have hjn : j + n ≤ B := by omega
  have hw1 : IntKind.i64.wrap ((B : Int) - (j : Int)) = (B : Int) - (j : Int) := IntWalk.i64_in _ (by omega)
  have hn3 : n ≤ 1000 := by omega
  clear hnm
  go_enter Try.func29, Try.ntmps29
  go_wp2_with fail
  go_loopw [37] (fun i wr => ∃ k : Nat, k ≤ n ∧ i = .int .i64 k ∧ allRight l k ∧ Below w.heap.size w wr) (fun i _ => n - (intOf i).toNat)
  case atStart => exact ⟨0, Nat.zero_le _, rfl, fun i hi => absurd hi (Nat.not_lt_zero _), Below.refl _ _⟩
  case round =>
    obtain ⟨k, hk, rfl, har, hb⟩ := hrel
    have HAR := Lib.hid har
    have HB := Lib.hid hb
    clear har hb
    by_cases hlt : k < n
    · have hlt' : (k : Int) < (n : Int) := by omega
      have HAS : Hid (hdRight (l.getD k default).k (l.getD k default).c (l.getD k default).l = true → allRight l (k + 1)) := Lib.hid (fun hr i hi => by
        by_cases e : i = k
        · subst e; exact hr
        · exact HAR.out i (by omega))
      have HNA : Hid (hdRight (l.getD k default).k (l.getD k default).c (l.getD k default).l ≠ true → ¬ allRight l l.length) := Lib.hid (fun hr h => hr (h k (by rw [HN.out]; exact hlt)))
      obtain ⟨x, y, z, he⟩ : ∃ x y z, l.getD k default = ⟨x, y, z⟩ := ⟨_, _, _, rfl⟩
      rw [he] at HAS HNA
      obtain ⟨b1, o1, rfl, d0, d1, d2⟩ := hd_cells (HC.out.below HB.out (Nat.le_refl _)) (by rw [HN.out]; exact hlt) he
      clear he
      go_wp2_with fail
      refine (bright_any x y z _).mono ?_
      rintro e w1 ⟨rfl, hb1⟩
      have HB1 := Lib.hid ((HB.out.alloc HB.out.size _).trans (hb1.mono (by simp; have := HB.out.size; omega)))
      clear hb1
      cases hrt : hdRight x y z
      · have HE : Hid (putAll S L j l = ⟨S, L, 1⟩) := Lib.hid (by unfold putAll; rw [if_pos (.inr (.inr (.inr (HNA.out (by rw [hrt]; simp)))))])
        clear hrt
        go_wp2_with fail
        go_ret
        rw [HE.out]
        exact ⟨rfl, HD.out.below HB1.out, HT.out.keep (HB1.out.block p HT.out.lt.1) (HB1.out.block g HT.out.lt.2), Touch.ofBelow HB1.out⟩
      · have HAR1 := Lib.hid (HAS.out hrt)
        clear hrt
        go_wp2_with fail
        exact ⟨⟨k + 1, by omega, vint (by omega), HAR1.out, HB1.out⟩, by simp [intOf]; omega⟩
    · obtain rfl : k = n := by omega
      have hlt' : decide ((k : Int) < (k : Int)) = false := by simp
      have HAR2 : Hid (allRight l l.length) := Lib.hid (by rw [HN.out]; exact HAR.out)
      by_cases hk0 : k = 0
      · subst hk0
        have HE : Hid (putAll S L j l = ⟨S, L, 0⟩) := Lib.hid (by rw [putAll_in S hj1 (by rw [HLB.out, HN.out]; exact hjn) HAR2.out, if_pos HN.out])
        go_wp2_with fail
        go_ret
        rw [HE.out]
        exact ⟨rfl, HD.out.below HB.out, HT.out.keep (HB.out.block p HT.out.lt.1) (HB.out.block g HT.out.lt.2), Touch.ofBelow HB.out⟩
      have HE : Hid (putAll S L j l = putIn S L j l) := Lib.hid (by rw [putAll_in S hj1 (by rw [HLB.out, HN.out]; exact hjn) HAR2.out, if_neg (by rw [HN.out]; exact hk0)])
      have hk0' : ((k : Int) == 0) = false := by simp; omega
      have hmemF : ∀ q ∈ F.list, q < w.heap.size := HD.out.mem
      have hltT := HT.out.lt
      have HMF := Lib.hid hmemF
      clear hmemF
      go_wp2_with fail
      go_loopw [50] (fun i wr => ∃ m : Nat, m ≤ k ∧ i = .int .i64 m ∧ (putTo S L j l m).err = 0 ∧ DevAt wr F (putTo S L j l m).dev ∧ TabG wr p g c F B (putTo S L j l m).list ∧ Touch (g :: F.list) w wr) (fun i _ => k - (intOf i).toNat)
      case atStart => exact ⟨0, Nat.zero_le _, rfl, rfl, HD.out.below HB.out, HT.out.keep (HB.out.block p HT.out.lt.1) (HB.out.block g HT.out.lt.2), Touch.ofBelow HB.out⟩
      case round =>
        obtain ⟨m, hm, rfl, he0, hd0, ht0, htt⟩ := hrel
        have HOk := Lib.hid (putTo_ok ho L j l m)
        have HST : Hid (putTo S L j l (m + 1) = putStep (putTo S L j l m) (j + m) (l.getD m default)) := Lib.hid rfl
        have HLn := Lib.hid (putTo_len S L j l m)
        have HFin : Hid (putIn S L j l = if (putTo S L j l k).err ≠ 0 then putTo S L j l k else ⟨((putTo S L j l k).dev.persist (256 + (j : Int)) k).dev, (putTo S L j l k).list, ((putTo S L j l k).dev.persist (256 + (j : Int)) k).err⟩) := Lib.hid (by unfold putIn; rw [HN.out])
        have HStay := Lib.hid (putTo_stays S L j l (m + 1))
        have c0 : wr.cell? ⟨p, 0, none⟩ = some (vdev F) := cell_of_row _ _ 0 _ _ _ ht0.head
        have c1 : wr.cell? ⟨p, 1, none⟩ = some (.int .i64 (B : Int)) := cell_of_row _ _ 1 _ _ _ ht0.head
        have c2r : wr.cell? ⟨p, 2, none⟩ = some (.slice (some ⟨g, 0, none⟩) B c) := cell_of_row _ _ 2 _ _ _ ht0.head
        have hpl := ht0.lt
        generalize hR : putTo S L j l m = R at *
        have HRR := Lib.hid hR
        clear hR
        have HE0 := Lib.hid he0
        have HD0 := Lib.hid hd0
        have HT0 := Lib.hid ht0
        have HTT := Lib.hid htt
        clear he0 hd0 ht0 htt
        by_cases hmk : m < k
        · have hmk' : (m : Int) < (k : Int) := by omega
          obtain ⟨x, y, z, he⟩ : ∃ x y z, l.getD m default = ⟨x, y, z⟩ := ⟨_, _, _, rfl⟩
          rw [he] at HST
          obtain ⟨b1, o1, rfl, d0, d1, d2⟩ := hd_cells HC.out (by rw [HN.out]; exact hmk) he
          have hnb : b1 ∉ g :: F.list := HAP.out (by omega) _ _ _ rfl
          have f0 := cell_of_touch HTT.out hnb d0
          have f1 := cell_of_touch HTT.out hnb d1
          have f2 := cell_of_touch HTT.out hnb d2
          clear he d0 d1 d2 hnb
          go_upto_region 14 with fail
          have hbx := below_alloc wr (.cells #[.int .i64 x, .int .i64 y, .int .i64 z] 48)
          have hqr : RowAt (wr.alloc (.cells #[.int .i64 x, .int .i64 y, .int .i64 z] 48)) wr.heap.size 48 [.int .i64 x, .int .i64 y, .int .i64 z] := ⟨_, heap_alloc_new _ _, [], rfl⟩
          have HD1 := Lib.hid (HD0.out.below hbx)
          have HT1 : Hid (TabG (wr.alloc (.cells #[.int .i64 x, .int .i64 y, .int .i64 z] 48)) p g c F B R.list) := Lib.hid (HT0.out.keep (hbx.block p HT0.out.lt.1) (hbx.block g HT0.out.lt.2))
          have HTT1 : Hid (Touch (g :: F.list) w (wr.alloc (.cells #[.int .i64 x, .int .i64 y, .int .i64 z] 48))) := Lib.hid (HTT.out.trans (Touch.ofBelow hbx))
          have k0 := below_cells hbx c0 (Nat.le_refl _)
          have k1 := below_cells hbx c1 (Nat.le_refl _)
          have HQR := Lib.hid hqr
          have hqF : wr.heap.size ∉ F.list := fun hm => by have := HD0.out.mem _ hm; omega
          have hqg : wr.heap.size ≠ g := by omega
          clear hbx hqr HD0 HT0 HTT c0 c1 c2r hpl f0 f1 f2
          generalize wr.alloc (.cells #[.int .i64 x, .int .i64 y, .int .i64 z] 48) = w1 at *
          generalize wr.heap.size = q at *
          have r0 := fun x => later_cell k0 x
          have r1 := fun x => later_cell k1 x
          have r2 := fun x => later_cell (HQR.out.cell (i := 0) rfl) x
          have r3 := fun x => later_cell (HQR.out.cell (i := 1) rfl) x
          have r4 := fun x => later_cell (HQR.out.cell (i := 2) rfl) x
          clear k0 k1
          have hw2 : IntKind.i64.wrap ((j : Int) + (m : Int)) = (j : Int) + (m : Int) := IntWalk.i64_in _ (by omega)
          refine wp_region_seg (C := fun w' => ∃ x : Later (w1), w' = x.val) [.fl [0, 1, 2, 3, 4, 5, 6, 7, 8, 9, 10, 12, 13, 14, 15], .sq [11] true, .sq [16] true, .sq [17, 18] false] (by kernel_rfl) (by kernel_rfl) (by intro c a d v w h; cases d <;> exact h) ?_
          simp only [segs, picks, List.getElem?_cons_succ, List.getElem?_cons_zero]
          have hC1 := later_drew (w1)
          refine wpSeg_fl hC1 ?_
          repeat (quiet_step (fail))
          refine wpQuiet_nil ?_
          refine wpSeg_sq (fun K hK => ?_)
          go_wp2_with fail
          refine (gheader_any _ _ _ (by omega)).mono ?_
          rintro e w2 ⟨rfl, hb2⟩
          have HH : Hid (hdAt (B : Int) ((j : Int) + (m : Int)) = 256 + ((j + m : Nat) : Int)) := Lib.hid (by unfold hdAt; rw [if_neg (by omega)]; omega)
          rw [HH.out]
          have hC2 := later_step hC1 hb2
          clear hb2
          go_wp2_with fail
          refine hK _ _ (fun _ => hC2) ?_
          clear hK K
          refine wpSeg_sq (fun K hK => ?_)
          go_wp2_with fail
          refine (bencode_any _ x y z (by omega) (by omega) _).mono ?_
          rintro e w3 ⟨rfl, hb3⟩
          have hC3 := later_step hC2 hb3
          clear hb3
          have HJM : Hid ((j : Int) + (m : Int) = ((j + m : Nat) : Int)) := Lib.hid (by omega)
          rw [HJM.out]
          go_wp2_with fail
          refine hK _ _ (fun _ => hC3) ?_
          clear hK K
          refine wpSeg_last ?_
          go_wp2_with fail
          have HD3 := Lib.hid (HD1.out.below (later_below hC3))
          refine (store_any HD3.out (N := N + m) (by omega) HOk.out _ _ (encN_lt _ _ _ _)).mono ?_
          rintro e w4 ⟨rfl, hd4, ht4⟩
          have HPS : Hid (putTo S L j l (m + 1) = ⟨R.dev.store (256 + ((j : Int) + (m : Int))) (encN ((j : Int) + (m : Int)) x y z), if R.dev.storeE (256 + ((j : Int) + (m : Int))) = 0 then R.list.set (j + m) ⟨x, y, z⟩ else R.list, R.dev.storeE (256 + ((j : Int) + (m : Int)))⟩) := Lib.hid (by
            rw [HST.out, putStep, if_neg (by rw [HE0.out]; simp)]; simp only [Int.natCast_add])
          generalize R.dev.store (256 + ((j : Int) + (m : Int))) (encN ((j : Int) + (m : Int)) x y z) = S4 at *
          generalize R.dev.storeE (256 + ((j : Int) + (m : Int))) = E4 at *
          have HT4 : Hid (TabG w4 p g c F B R.list) := Lib.hid ((HT1.out.keep ((later_below hC3).block p HT1.out.lt.1) ((later_below hC3).block g HT1.out.lt.2)).touch ht4 hpF hgF)
          have HTT4 : Hid (Touch (g :: F.list) w w4) := Lib.hid (HTT1.out.trans ((Touch.ofBelow (later_below hC3)).trans (ht4.wide (fun b hb => List.mem_cons_of_mem _ hb))))
          have HQ4 := Lib.hid ((HQR.out.keep ((later_below hC3).block q HQR.out.lt)).keep (ht4.block q (HQR.out.keep ((later_below hC3).block q HQR.out.lt)).lt hqF))
          have HD4 := Lib.hid hd4
          clear hd4 ht4 HD3 HT1 HTT1 HQR HD1 hC3 hC2 hC1 r0 r1 r2 r3 r4
          by_cases hz : E4 = 0
          · subst hz
            have HPT : Hid (putTo S L j l (m + 1) = ⟨S4, R.list.set (j + m) ⟨x, y, z⟩, 0⟩) := Lib.hid (by rw [HPS.out, if_pos rfl])
            go_upto_region 17 with fail
            have r0 : ∀ y : Later w4, y.val.cell? ⟨p, 2, none⟩ = some (.slice (some ⟨g, 0, none⟩) B c) := later_cell (cell_of_row _ _ 2 _ _ _ HT4.out.head)
            have r2 := fun x => later_cell (HQ4.out.cell (i := 0) rfl) x
            have r3 := fun x => later_cell (HQ4.out.cell (i := 1) rfl) x
            have r4 := fun x => later_cell (HQ4.out.cell (i := 2) rfl) x
            have hjm : (j : Int) + (m : Int) < (B : Int) := by omega
            have hjm0 : ¬ (j : Int) + (m : Int) < 0 := by omega
            have HR5 : Hid (RowAt w4.drew g 48 (hdCs R.list)) := Lib.hid (HT4.out.row.keep rfl)
            have HFit : Hid ((j + m) * 3 + #[Value.int .i64 x, .int .i64 y, .int .i64 z].size ≤ (hdCs R.list).length) := Lib.hid (by rw [hdCs_length, HT4.out.len]; simp; omega)
            refine wp_region_seg (C := fun w' => ∃ x : Later (w4), w' = x.val) [.fl [0, 1, 2, 3, 4, 5, 6, 7], .sq [8, 9] false] (by kernel_rfl) (by kernel_rfl) (by intro c a d v w h; cases d <;> exact h) ?_
            simp only [segs, picks, List.getElem?_cons_succ, List.getElem?_cons_zero]
            have hC5 := later_drew (w4)
            refine wpSeg_fl hC5 ?_
            repeat (quiet_step (fail))
            refine wpQuiet_nil ?_
            refine wpSeg_last ?_
            go_wp2_with (refine wpList_store_part aggHd (g := g) (off := (j + m) * 3) (cs := #[.int .i64 x, .int .i64 y, .int .i64 z]) HR5.out rfl HFit.out (by intro u hu; simp at hu; rcases hu with rfl | rfl | rfl <;> rfl) rfl rfl rfl rfl ?_; intro w5 hr5 ht5; have HR6 := Lib.hid hr5; have HT6 := Lib.hid ht5; clear hr5 ht5)
            have HT5d : Touch [g] w4 w5 := (Touch.ofBelow (later_below hC5)).trans HT6.out
            refine ⟨⟨m + 1, by omega, vint (by omega), by rw [HPT.out], ?_, ?_, ?_⟩, by simp [intOf]; omega⟩
            · rw [HPT.out]
              exact HD4.out.keep (fun b hb => HT5d.block b (HD4.out.mem b hb) (by simp; rintro rfl; exact hgF hb))
            · rw [HPT.out]
              refine ⟨(HT5d.block p HT4.out.lt.1 (by simpa using hpg)).trans HT4.out.head, by rw [List.length_set]; exact HT4.out.len, HT4.out.cap, ?_⟩
              have := HR6.out
              rw [← hdCs_set R.list (j + m) ⟨x, y, z⟩ (by rw [HT4.out.len]; omega)]
              exact this
            · exact HTT4.out.trans (HT5d.wide (by simp))
          · have hz1 : (E4 != 0) = true := by simpa using hz
            have HPT : Hid (putAll S L j l = ⟨S4, R.list, E4⟩) := Lib.hid (by
              have h1 := HPS.out
              rw [if_neg hz] at h1
              have h2 := HStay.out (by rw [h1]; exact hz) k hmk
              rw [HE.out, HFin.out, h2, h1, if_pos hz])
            go_wp2_with fail
            go_ret
            rw [HPT.out]
            exact ⟨rfl, HD4.out, HT4.out, HTT4.out⟩
        · obtain rfl : m = k := by omega
          have hlt2 : decide ((m : Int) < (m : Int)) = false := by simp
          go_upto_region 19 with fail
          have r0 := fun x => later_cell c0 x
          have r1 := fun x => later_cell c1 x
          have HPF : Hid (putAll S L j l = ⟨(R.dev.persist (256 + (j : Int)) (m : Int)).dev, R.list, (R.dev.persist (256 + (j : Int)) (m : Int)).err⟩) := Lib.hid (by rw [HE.out, HFin.out, HRR.out, if_neg (by rw [HE0.out]; simp)])
          refine wp_region_seg (C := fun w' => ∃ x : Later (wr), w' = x.val) [.fl [0, 1, 2, 3, 4, 5, 6, 7, 8, 10, 11], .sq [9] true, .sq [12, 13] false] (by kernel_rfl) (by kernel_rfl) (by intro c a d v w h; cases d <;> exact h) ?_
          simp only [segs, picks, List.getElem?_cons_succ, List.getElem?_cons_zero]
          have hC1 := later_drew (wr)
          refine wpSeg_fl hC1 ?_
          repeat (quiet_step (fail))
          refine wpQuiet_nil ?_
          refine wpSeg_sq (fun K hK => ?_)
          go_wp2_with fail
          refine (gheader_any _ _ _ (by omega)).mono ?_
          rintro e w2 ⟨rfl, hb2⟩
          have HH : Hid (hdAt (B : Int) (j : Int) = 256 + (j : Int)) := Lib.hid (by unfold hdAt; rw [if_neg (by omega)])
          rw [HH.out]
          have hC2 := later_step hC1 hb2
          clear hb2
          go_wp2_with fail
          refine hK _ _ (fun _ => hC2) ?_
          clear hK K
          refine wpSeg_last ?_
          go_wp2_with fail
          refine (persist_any (HD0.out.below (later_below hC2)) (N := N + m) (by omega) HOk.out _ _ (by omega) (by omega)).mono ?_
          rintro e w3 ⟨rfl, hd3, ht3⟩
          have HD3 := Lib.hid hd3
          have HT3 : Hid (TabG w3 p g c F B R.list) := Lib.hid ((HT0.out.keep ((later_below hC2).block p HT0.out.lt.1) ((later_below hC2).block g HT0.out.lt.2)).touch ht3 hpF hgF)
          have HTT3 : Hid (Touch (g :: F.list) w w3) := Lib.hid (HTT.out.trans ((Touch.ofBelow (later_below hC2)).trans (ht3.wide (fun b hb => List.mem_cons_of_mem _ hb))))
          clear hd3 ht3
          go_wp2_with fail
          go_ret
          rw [HPF.out]
          exact ⟨rfl, HD3.out, HT3.out, HTT3.out⟩

end Go.Proofs.Ytjgdplengfnkaaa
