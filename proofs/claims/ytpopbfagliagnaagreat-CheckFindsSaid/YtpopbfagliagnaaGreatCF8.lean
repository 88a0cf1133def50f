/- Parts of the proof, one behind the other: Eb, Oh, Ob, Oc, Od, Kp, Zg, Ec, Ed, Ee, Zq, En. -/
import Derived.Test.YtpopbfagliagnaaGreatCF7
import Derived.Deep.Cut
set_option linter.unusedVariables false
namespace Go.Proofs.YtpopbfagliagnaaGreat
theorem putTo_live {S : Dev} (h : S.live) (L : List Hd) (b : Nat) (l : List Hd) : ∀ i, (putTo S L b l i).dev.live
 | 0 => h
 | i + 1 => by
  have hst : putTo S L b l (i + 1) = putStep (putTo S L b l i) (b + i) (l.getD i default) := rfl
  rw [hst]
  unfold putStep
  split
  ·exact putTo_live h L b l i
  ·exact (putTo_live h L b l i).store _ _
theorem putAll_live {S : Dev} (h : S.live) (hS : S.inv) {L : List Hd} {k : Nat} {l : List Hd} (hk1 : 1 ≤ k) (hkB : k + l.length ≤ L.length) (hr : allRight l l.length) (hf : 256 + L.length ≤ S.cache.length) :
  (putAll S L (k : Int) l).err = 0 ∧ (putAll S L (k : Int) l).dev.live := by
 have hl : (putAll S L (k : Int) l).dev.live := by
  rw [putAll_in S hk1 hkB hr]
  by_cases hl : l.length = 0
  ·rw [if_pos hl]; exact h
  ·rw [if_neg hl]
   unfold putIn
   by_cases c : (putTo S L k l l.length).err ≠ 0
   ·rw [if_pos c]; exact putTo_live h L k l _
   ·rw [if_neg c]
    have e : (256 : Int) + (k : Int) = ((256 + k : Nat) : Int) := by omega
    rw [e]
    exact (putTo_live h L k l _).persist_live _ _ (by omega) (putTo_inv hS L k l _).wf.lenD (by rw [putTo_clen]; omega)
 refine ⟨?_, hl⟩
 rcases putAll_dead hS hk1 hkB hr hf with h1 | h1
 ·exact h1
 ·rw [hl.1] at h1; cases h1
structure Far (B : Nat) (S T : Dev) : Prop where
 len : T.cache.length = S.cache.length
 word : ∀ j, ¬ (256 < j ∧ j < 256 + B) → T.cache.getD j 0 = S.cache.getD j 0
theorem Far.refl (B : Nat) (S : Dev) : Far B S S := ⟨rfl, fun _ _ => rfl⟩
theorem Far.trans {B : Nat} {S T U : Dev} (h : Far B S T) (k : Far B T U) : Far B S U := ⟨k.len.trans h.len, fun j hj => (k.word j hj).trans (h.word j hj)⟩
theorem put_far {S : Dev} {B : Nat} (h : Clean S B) {L : List Hd} (hL : L.length = B) {b : Int} {l : List Hd} (he : (putAll S L b l).err = 0) : Far B S (putAll S L b l).dev := by
 refine ⟨putAll_clen h.inv _ _ _, ?_⟩
 unfold putAll at he ⊢
 by_cases c1 : b < 1 ∨ (L.length : Int) < b ∨ (L.length : Int) - b < (l.length : Int) ∨ ¬ allRight l l.length
 ·rw [if_pos c1] at he; simp at he
 rw [if_neg c1] at he ⊢
 obtain ⟨k, rfl⟩ := Int.eq_ofNat_of_zero_le (show 0 ≤ b by omega)
 by_cases c2 : l.length = 0
 ·rw [if_pos c2]; exact fun _ _ => rfl
 rw [if_neg c2] at he ⊢
 rw [show ((k : Nat) : Int).toNat = k from rfl] at he ⊢
 unfold putIn at he ⊢
 by_cases c3 : (putTo S L k l l.length).err ≠ 0
 ·rw [if_pos c3] at he; exact absurd he c3
 rw [if_neg c3] at he ⊢
 have t := putTo_at h.inv L k l l.length (by simpa using c3)
 generalize (putTo S L k l l.length).dev = T at *
 dsimp only at he ⊢
 rw [show (256 + (k : Int)) = ((256 + k : Nat) : Int) by omega] at he ⊢
 obtain ⟨q1, _⟩ := Dev.persist_clean t.inv (256 + k) l.length (by omega) he
 intro j hj
 rw [q1, t.cache, if_neg (by omega)]
variable {B : Nat} {m : Bm}
theorem live_alive {S : Dev} (h : S.live) (hd : S.dead = true) : False := by rw [h.1] at hd; cases hd
theorem small_live (h : BmOk B m) (hv : m.dev.live) (k : Nat) (hk : k < 32) :
  (m.small (k : Int) = ⟨m, 0, 4⟩ ∧ pick 1 (runsOf m.free) = none) ∨
  ∃ b : Nat, (m.small (k : Int)).b = (b : Int) ∧ (m.small (k : Int)).err = 0 ∧ 1 ≤ b ∧ b < B ∧ fb m.free b = true ∧ BmOk B (m.small (k : Int)).bm ∧ (m.small (k : Int)).bm.dev.live ∧ Far B m.dev (m.small (k : Int)).bm.dev ∧
   (∀ q, (m.small (k : Int)).bm.list.getD q default = if q = b then ⟨1, k, 0⟩ else m.list.getD q default) ∧ (m.small (k : Int)).bm.free = setTo m.free b false 1 ∧ pick 1 (runsOf m.free) ≠ none := by
 have hr : hdRight 1 (k : Int) 0 = true := decide_eq_true (.inr (.inl ⟨rfl, ⟨by omega, by omega⟩, rfl⟩))
 have hd := (small_done h (k : Int)).2
 unfold Bm.small at hd ⊢
 rw [if_neg (by rw [hr]; simp)] at hd ⊢
 cases hp : pick 1 (runsOf m.free) with
 | none =>
  have ht := takeR_none (l := m.free) (m := 1) (Nat.le_refl _) hp
  rw [show ((1 : Nat) : Int) = 1 from rfl] at ht
  rw [ht] at hd ⊢
  exact .inl ⟨rfl, rfl⟩
 | some x =>
  right
  have ht := takeR_some (l := m.free) (m := 1) (Nat.le_refl _) hp
  rw [show ((1 : Nat) : Int) = 1 from rfl] at ht
  rw [ht] at hd ⊢
  rw [if_neg (by simp)] at hd ⊢
  dsimp only at hd ⊢
  obtain ⟨hrun, hc⟩ := pick_run hp
  obtain ⟨a, c⟩ := x
  dsimp only at *
  have hfa := run_free hrun hc a (Nat.le_refl _) (by omega)
  obtain ⟨a1, a2, a3⟩ := (h.free a).1 hfa
  have hone : allRight [(⟨1, k, 0⟩ : Hd)] [(⟨1, k, 0⟩ : Hd)].length := allRight_one hr
  obtain ⟨he, hl⟩ := putAll_live hv h.clean.inv (L := m.list) (k := a) (l := [⟨1, k, 0⟩]) a1 (by rw [h.lenL]; simp; omega) hone (by rw [h.lenL]; exact h.clean.fits)
  obtain ⟨_, hls⟩ := h.w.put (k := a) (l := [⟨1, k, 0⟩]) a1 (by simp; omega) hone he
  refine ⟨a, by rw [if_pos he], he, a1, a2, hfa, hd.resolve_left (fun hd => live_alive hl hd), hl, put_far h.clean h.lenL he, fun q => ?_, rfl, by simp⟩
  rw [hls q]
  by_cases e : q = a
  ·subst e; rw [if_pos (by simp), if_pos rfl]; simp
  ·rw [if_neg (by simp; omega), if_neg e]
theorem large_live (h : BmOk B m) (hv : m.dev.live) (n : Nat) (h1 : 1 ≤ n) (h2 : n < 256) :
  (m.large (n : Int) = ⟨m, 0, 4⟩ ∧ pick n (runsOf m.free) = none) ∨
  ∃ b : Nat, (m.large (n : Int)).b = (b : Int) ∧ (m.large (n : Int)).err = 0 ∧ 1 ≤ b ∧ b + n ≤ B ∧ (∀ q, b ≤ q → q < b + n → fb m.free q = true) ∧ BmOk B (m.large (n : Int)).bm ∧ (m.large (n : Int)).bm.dev.live ∧ Far B m.dev (m.large (n : Int)).bm.dev ∧
   (∀ q, (m.large (n : Int)).bm.list.getD q default = if q = b then ⟨2, 0, n⟩ else if b ≤ q ∧ q < b + n then ⟨3, 0, ((q - b : Nat) : Int)⟩ else m.list.getD q default) ∧ (m.large (n : Int)).bm.free = setTo m.free b false n ∧ pick n (runsOf m.free) ≠ none := by
 have hd := (large_done h (n : Int)).2
 unfold Bm.large at hd ⊢
 rw [if_neg (by omega)] at hd ⊢
 rw [show ((n : Int)).toNat = n from rfl] at hd ⊢
 cases hp : pick n (runsOf m.free) with
 | none =>
  have ht := takeR_none (l := m.free) (m := n) h1 hp
  rw [ht] at hd ⊢
  exact .inl ⟨rfl, rfl⟩
 | some x =>
  right
  have ht := takeR_some (l := m.free) (m := n) h1 hp
  rw [ht] at hd ⊢
  rw [if_neg (by simp)] at hd ⊢
  dsimp only at hd ⊢
  obtain ⟨hrun, hc⟩ := pick_run hp
  have hrl := runEnds hrun
  obtain ⟨a, c⟩ := x
  dsimp only at *
  have hfr := run_free hrun hc
  have a1 := ((h.free a).1 (hfr a (Nat.le_refl _) (by omega))).1
  have haB : a + n ≤ B := by rw [← h.lenF]; omega
  obtain ⟨hlen, htl⟩ := run_tail n
  have hr1 : allRight ((hdRun n n).drop 1) ((hdRun n n).drop 1).length := by
   intro i hi
   rw [hlen] at hi
   rw [htl i hi]
   exact decide_eq_true (.inr (.inr ⟨.inr rfl, rfl, by dsimp only; omega⟩))
  have e1 : (a : Int) + 1 = ((a + 1 : Nat) : Int) := by omega
  obtain ⟨he1, hl1⟩ := putAll_live hv h.clean.inv (L := m.list) (k := a + 1) (l := (hdRun n n).drop 1) (by omega) (by rw [h.lenL, hlen]; omega) hr1 (by rw [h.lenL]; exact h.clean.fits)
  obtain ⟨hw1, hls1⟩ := h.w.put (k := a + 1) (l := (hdRun n n).drop 1) (by omega) (by rw [hlen]; omega) hr1 he1
  have hf1 := put_far h.clean h.lenL he1
  rw [← e1] at he1 hl1 hw1 hls1 hf1
  generalize putAll m.dev m.list ((a : Int) + 1) ((hdRun n n).drop 1) = r1 at *
  rw [if_neg (by rw [he1]; simp)] at hd ⊢
  dsimp only at hd ⊢
  have hone : allRight [(⟨2, 0, (n : Int)⟩ : Hd)] [(⟨2, 0, (n : Int)⟩ : Hd)].length := allRight_one (decide_eq_true (.inr (.inr ⟨.inl rfl, rfl, by dsimp only; omega⟩)))
  obtain ⟨he, hl⟩ := putAll_live hl1 hw1.clean.inv (L := r1.list) (k := a) (l := [⟨2, 0, (n : Int)⟩]) a1 (by rw [hw1.lenL]; simp; omega) hone (by rw [hw1.lenL]; exact hw1.clean.fits)
  obtain ⟨_, hls⟩ := hw1.put (k := a) (l := [⟨2, 0, (n : Int)⟩]) a1 (by simp; omega) hone he
  refine ⟨a, by rw [if_pos he], he, a1, haB, hfr, hd.resolve_left (fun hd => live_alive hl hd), hl, hf1.trans (put_far hw1.clean hw1.lenL he), fun q => ?_, rfl, by simp⟩
  rw [hls q]
  by_cases e : q = a
  ·subst e; rw [if_pos (by simp), if_pos rfl]; simp
  ·rw [if_neg (by simp; omega), if_neg e, hls1 q, hlen]
   by_cases c2 : a ≤ q ∧ q < a + n
   ·rw [if_pos (by omega), if_pos c2, htl _ (by omega), show q - (a + 1) + 1 = q - a by omega]
   ·rw [if_neg (by omega), if_neg c2]
theorem rel_many (h : BmOk B m) {a : Nat} (a1 : 1 ≤ a) (a2 : a < B) (hk : (m.list.getD a default).k = 1 ∨ (m.list.getD a default).k = 2) :
  ∃ n : Nat, 1 ≤ n ∧ relN (m.list.getD a default) = (n : Int) ∧ a + n ≤ B ∧ ∀ i : Nat, 1 ≤ i → i < n → m.list.getD (a + i) default = ⟨3, 0, i⟩ := by
 have hri := of_decide_eq_true (h.right a a2)
 unfold HdRight at hri
 unfold relN
 by_cases h1 : (m.list.getD a default).k = 1
 ·exact ⟨1, Nat.le_refl _, by rw [if_pos h1]; rfl, by omega, fun i i1 i2 => by omega⟩
 ·have h2 : (m.list.getD a default).k = 2 := by omega
  obtain ⟨g1, g2⟩ := h.large a a1 a2 h2
  exact ⟨(m.list.getD a default).l.toNat, by omega, by rw [if_neg h1]; omega, by omega, fun i i1 i2 => g2 i i1 (by omega)⟩
theorem hdGet_at (h : BmOk B m) {a : Nat} (a1 : 1 ≤ a) (a2 : a < B) : hdGet m.list (a : Int) = m.list.getD a default := by unfold hdGet; rw [if_neg (by rw [h.lenL]; omega)]; rfl
theorem release_live (h : BmOk B m) (hv : m.dev.live) {a : Nat} (a1 : 1 ≤ a) (a2 : a < B) (hk : (m.list.getD a default).k = 1 ∨ (m.list.getD a default).k = 2) (n : Nat) (hn : relN (m.list.getD a default) = (n : Int)) :
  (m.release (a : Int)).err = 0 ∧ BmOk B (m.release (a : Int)).bm ∧ (m.release (a : Int)).bm.dev.live ∧ Far B m.dev (m.release (a : Int)).bm.dev ∧
   (∀ q, (m.release (a : Int)).bm.list.getD q default = if a ≤ q ∧ q < a + n then ⟨0, 0, 0⟩ else m.list.getD q default) ∧ (m.release (a : Int)).bm.free = setTo m.free a true n := by
 have hd := (release_done h (a : Int)).2
 obtain ⟨n', n1, hn', haB, hcont⟩ := rel_many h a1 a2 hk
 obtain rfl : n' = n := by omega
 have hg := hdGet_at h a1 a2
 unfold Bm.release at hd ⊢
 rw [hg] at hd ⊢
 rw [if_neg (by omega)] at hd ⊢
 rw [hn, show ((n' : Int) - 1).toNat = n' - 1 by omega] at hd ⊢
 dsimp only at hd ⊢
 have hz : ∀ k, allRight (List.replicate k (⟨0, 0, 0⟩ : Hd)) (List.replicate k (⟨0, 0, 0⟩ : Hd)).length := by
  intro k i hi
  have : (List.replicate k (⟨0, 0, 0⟩ : Hd)).getD i default = ⟨0, 0, 0⟩ := by
   simp only [List.getD_eq_getElem?_getD, List.getElem?_replicate]
   split <;> rfl
  rw [this]; exact decide_eq_true (.inl ⟨rfl, rfl, rfl⟩)
 obtain ⟨he1, hl1⟩ := putAll_live hv h.clean.inv (L := m.list) (k := a) (l := [⟨0, 0, 0⟩]) a1 (by rw [h.lenL]; simp; omega) (hz 1) (by rw [h.lenL]; exact h.clean.fits)
 obtain ⟨hw1, hls1⟩ := h.w.put (k := a) (l := [⟨0, 0, 0⟩]) a1 (by simp; omega) (hz 1) he1
 have hf1 := put_far h.clean h.lenL he1
 generalize putAll m.dev m.list (a : Int) [⟨0, 0, 0⟩] = r1 at *
 rw [if_neg (by rw [he1]; simp)] at hd ⊢
 have e1 : (a : Int) + 1 = ((a + 1 : Nat) : Int) := by omega
 obtain ⟨he2, hl2⟩ := putAll_live hl1 hw1.clean.inv (L := r1.list) (k := a + 1) (l := List.replicate (n' - 1) ⟨0, 0, 0⟩) (by omega) (by rw [hw1.lenL, List.length_replicate]; omega) (hz _) (by rw [hw1.lenL]; exact hw1.clean.fits)
 obtain ⟨hw2, hls2⟩ := hw1.put (k := a + 1) (l := List.replicate (n' - 1) ⟨0, 0, 0⟩) (by omega) (by rw [List.length_replicate]; omega) (hz _) he2
 have hf2 := put_far hw1.clean hw1.lenL he2
 rw [← e1] at he2 hl2 hls2 hf2
 generalize putAll r1.dev r1.list ((a : Int) + 1) (List.replicate (n' - 1) ⟨0, 0, 0⟩) = r2 at *
 rw [if_neg (by rw [he2]; simp)] at hd ⊢
 dsimp only at hd ⊢
 have hnz : ∀ i : Nat, i < n' → (m.list.getD (a + i) default).k ≠ 0 := by
  intro i hi
  by_cases i0 : i = 0
  ·subst i0; rw [Nat.add_zero]; omega
  ·rw [hcont i (by omega) hi]; show (3 : Int) ≠ 0; decide
 have hnf : anyFree m.free a n' = false := anyFree_none (fun q q1 q2 => fb_no (fun hq => by
  have := ((h.free q).1 hq).2.2
  exact hnz (q - a) (by omega) (by rw [show a + (q - a) = q by omega]; exact this)))
 have hgo : giveR m.free (a : Int) (n' : Int) = (setTo m.free a true n', 0) := giveR_ok ⟨a1, n1, by rw [h.lenF]; exact haB⟩ hnf
 rw [hgo] at hd ⊢
 refine ⟨rfl, hd.resolve_left (fun hd => live_alive hl2 hd), hl2, hf1.trans hf2, fun q => ?_, rfl⟩
 rw [hls2 q, List.length_replicate, hls1 q]
 by_cases c : a ≤ q ∧ q < a + n'
 ·rw [if_pos c]
  by_cases c1 : a + 1 ≤ q ∧ q < a + 1 + (n' - 1)
  ·rw [if_pos c1]
   simp only [List.getD_eq_getElem?_getD, List.getElem?_replicate]
   split <;> rfl
  ·rw [if_neg c1, if_pos (by simp; omega)]
   have : q - a = 0 := by omega
   rw [this]; rfl
 ·rw [if_neg c, if_neg (by omega), if_neg (by simp; omega)]
end Go.Proofs.YtpopbfagliagnaaGreat
namespace Go.Proofs.YtpopbfagliagnaaGreat
open Go.RowKit
abbrev vob (p d : Int) : Value := .agg #[.int .i64 p, .int .i64 d]
def obN (p d : Int) : Nat := (165 + 256 * p + 16384 * d).toNat
def oencN (a p d : Int) : Nat := if objSize p d = 0 then 0 else sealN (obN p d) (pl a)
theorem obj_small {p d : Int} (h : objSize p d ≠ 0) : (0 ≤ p ∧ p < 64) ∧ (0 ≤ d ∧ d ≤ 16384) := by
 unfold objSize at h
 split at h
 ·exact absurd rfl h
 ·omega
theorem obN_lt {p d : Int} (h : objSize p d ≠ 0) : obN p d < 4294967296 := by
 have := obj_small h
 unfold obN
 omega
theorem oencN_lt (a p d : Int) : oencN a p d < 18446744073709551616 := by
 unfold oencN
 split
 ·decide
 ·rename_i h; exact sealN_lt _ _ (obN_lt h)
set_option maxHeartbeats 1000000 in
theorem oencode_any (a p d : Int) (w : World) : Calls Tryz.prog 258 #[vob p d, .int .i64 a] w fun e w' => e = .returned (vu64 (oencN a p d)) ∧ Below w.heap.size w w' := by
 have hb := below_alloc w (Obj.cells #[Value.int .i64 p, Value.int .i64 d] 169)
 have hg := heap_alloc_new w (Obj.cells #[Value.int .i64 p, Value.int .i64 d] 169)
 go_enter Tryz.func258, Tryz.ntmps258
 go_wp2_with fail
 generalize w.alloc (Obj.cells #[Value.int .i64 p, Value.int .i64 d] 169) = w0 at *
 refine (osize_any p d w0).mono ?_
 rintro e w1 ⟨rfl, hb1⟩
 have hgl : w.heap.size < w0.heap.size := (Array.getElem?_eq_some_iff.1 hg).1
 have hbb := hb.trans (hb1.mono hb.size)
 have hg1 : w1.heap[w.heap.size]? = _ := (hb1.block _ hgl).trans hg
 have c0 : w1.cell? ⟨w.heap.size, 0, none⟩ = some (.int .i64 p) := cell_of_row _ _ 0 _ _ _ hg1
 have c1 : w1.cell? ⟨w.heap.size, 1, none⟩ = some (.int .i64 d) := cell_of_row _ _ 1 _ _ _ hg1
 clear hb hb1 hg hgl hg1
 by_cases hr : objSize p d = 0
 ·have HE : Hid (oencN a p d = 0) := LH (by unfold oencN; rw [if_pos hr])
  rw [hr]
  clear hr
  go_wp2_with fail
  go_ret
  exact ⟨ret_int (by rw [HE.out]; rfl), hbb⟩
 ·have HE : Hid (oencN a p d = sealN (obN p d) (pl a)) := LH (by unfold oencN; rw [if_neg hr])
  have hn := obN_lt hr
  obtain ⟨⟨p0, p1⟩, d0, d1⟩ := obj_small hr
  have HN : Hid (obN p d = (165 + p.toNat * 256 + d.toNat * 16384)) := LH (by unfold obN; omega)
  have hz : (((objSize p d : Nat) : Int) == 0) = false := by simp; omega
  generalize objSize p d = sz at *
  clear hr
  obtain ⟨p, rfl⟩ := Int.eq_ofNat_of_zero_le p0
  obtain ⟨d, rfl⟩ := Int.eq_ofNat_of_zero_le d0
  simp only [Int.toNat_natCast] at HN
  have P1 : Hid (Calls Tryz.prog 272 #[vu64 165, .int .i64 8, .int .i64 6, vu64 p] w1 fun e w' => e = .returned (vu64 (165 + p * 256)) ∧ w1 = w') := LH (put_any 165 8 6 p (by omega) (by omega) (by decide) (by decide) w1)
  have P2 : Hid (Calls Tryz.prog 272 #[vu64 (165 + p * 256), .int .i64 14, .int .i64 15, vu64 d] w1 fun e w' => e = .returned (vu64 (165 + p * 256 + d * 16384)) ∧ w1 = w') := LH (put_any (165 + p * 256) 14 15 d (by omega) (by omega) (by decide) (by decide) w1)
  go_wp2_with fail
  refine P1.out.mono ?_
  rintro e w2 ⟨rfl, rfl⟩
  go_wp2_with fail
  refine P2.out.mono ?_
  rintro e w2 ⟨rfl, rfl⟩
  rw [← HN.out]
  generalize obN (p : Int) (d : Int) = n at *
  clear P1 P2
  go_wp2_with fail
  refine (seal_any n _ hn _).mono ?_
  rintro e w2 ⟨rfl, hb2⟩
  rw [← HE.out]
  go_wp2_with fail
  go_ret
  exact ⟨rfl, hbb.trans (hb2.mono hbb.size)⟩
theorem aggOb : Agg Tryz.prog 169 #[.int .i64 0, .int .i64 0] := ⟨⟨_, Tryz.underlying169, rfl⟩, by kernel_rfl⟩
structure Odec where
 p : Int
 d : Int
 code : Int
def odecS (a : Int) (x n : Nat) : Odec := if oencN a (n / 256 % 64 : Nat) (n / 16384 % 32768 : Nat) = x then ⟨(n / 256 % 64 : Nat), (n / 16384 % 32768 : Nat), 0⟩ else ⟨0, 0, 26⟩
def odecN (a : Int) (x : Nat) : Odec := ((openN x (pl a)).map (odecS a x)).getD ⟨0, 0, 25⟩
def Odec.val (o : Odec) : Value := .tuple #[vob o.p o.d, .int .i64 o.code]
theorem odecN_none {a : Int} {x : Nat} (h : openN x (pl a) = none) : (odecN a x).val = .tuple #[vob 0 0, .int .i64 25] := by unfold odecN; rw [h]; rfl
theorem odecN_some {a : Int} {x n : Nat} (h : openN x (pl a) = some n) : odecN a x = odecS a x n := by unfold odecN; rw [h]; rfl
theorem odecN_ok {a : Int} {x n : Nat} (h : openN x (pl a) = some n) (he : oencN a (n / 256 % 64 : Nat) (n / 16384 % 32768 : Nat) = x) :
  (odecN a x).val = .tuple #[vob (n / 256 % 64 : Nat) (n / 16384 % 32768 : Nat), .int .i64 0] := by
 rw [odecN_some h, odecS, if_pos he]; rfl
theorem odecN_bad {a : Int} {x n : Nat} (h : openN x (pl a) = some n) (he : oencN a (n / 256 % 64 : Nat) (n / 16384 % 32768 : Nat) ≠ x) :
  (odecN a x).val = .tuple #[vob 0 0, .int .i64 26] := by
 rw [odecN_some h, odecS, if_neg he]; rfl
set_option maxHeartbeats 1000000 in
theorem odecode_any (a : Int) (x : Nat) (hx : x < 18446744073709551616) (w : World) :
  Calls Tryz.prog 181 #[.int .i64 a, vu64 x] w fun e w' => e = .returned (odecN a x).val ∧ Below w.heap.size w w' := by
 have hbA := below_alloc w (Obj.cells #[Value.int .i64 0, Value.int .i64 0] 169)
 have hg := heap_alloc_new w (Obj.cells #[Value.int .i64 0, Value.int .i64 0] 169)
 go_enter Tryz.func181, Tryz.ntmps181
 go_wp2_with fail
 generalize w.alloc (Obj.cells #[Value.int .i64 0, Value.int .i64 0] 169) = w0 at *
 refine (open_any x _ hx w0).mono ?_
 rintro e w1 ⟨rfl, hbo⟩
 have hgl : w.heap.size < w0.heap.size := (Array.getElem?_eq_some_iff.1 hg).1
 have hbb := hbA.trans (hbo.mono hbA.size)
 have hg1 : w1.heap[w.heap.size]? = _ := (hbo.block _ hgl).trans hg
 clear hbA hbo hg hgl
 cases ho : openN x (pl a) with
 | none =>
  have HV := LH (odecN_none ho)
  clear ho
  simp only [openV]
  go_wp2_with (refine wpList_store_row (cs := #[.int .i64 0, .int .i64 0]) aggOb hg1 rfl rfl (by simp [Value.oneCell']) rfl rfl rfl rfl ?_; intro w2 hg2 hgr2 hs2)
  refine bodyPost_ret (results_cell_row2 (p := 4) (u := 5) rfl _ _ _ _ _ _ _ rfl hg2 Tryz.underlying169 rfl (by kernel_rfl)) rfl ⟨by rw [HV.out]; rfl, ?_⟩
  exact hbb.grown hgr2 hbb.size (fun k e => by cases e; omega)
 | some n =>
  obtain ⟨hn, -⟩ := openN_some ho
  have HK := LH (odecN_ok ho)
  have HL := LH (odecN_bad ho)
  clear ho
  simp only [openV]
  have G1 : Hid (∀ w, Calls Tryz.prog 224 #[vu64 n, .int .i64 8, .int .i64 6] w fun e w' => e = .returned (vu64 (n / 256 % 64)) ∧ w = w') := LH (fun w => get_any n 8 6 (by omega) (by decide) (by decide) (by decide) w)
  have G2 : Hid (∀ w, Calls Tryz.prog 224 #[vu64 n, .int .i64 14, .int .i64 15] w fun e w' => e = .returned (vu64 (n / 16384 % 32768)) ∧ w = w') := LH (fun w => get_any n 14 15 (by omega) (by decide) (by decide) (by decide) w)
  have h64 : n / 256 % 64 < 64 := by omega
  have h6 : n / 16384 % 32768 < 32768 := by omega
  generalize n / 256 % 64 = k at *
  generalize n / 16384 % 32768 = l at *
  go_wp2_with fail
  refine (G1.out _).mono ?_
  rintro e w2 ⟨rfl, rfl⟩
  go_wp2_with fail
  refine (G2.out _).mono ?_
  rintro e w2 ⟨rfl, rfl⟩
  clear G1 G2
  go_wp2_with fail
  have hb1 := below_alloc w1 (Obj.cells #[Value.int .i64 (k : Int), Value.int .i64 (l : Int)] 169)
  have hg2 := heap_alloc_new w1 (Obj.cells #[Value.int .i64 (k : Int), Value.int .i64 (l : Int)] 169)
  generalize w1.alloc (Obj.cells #[Value.int .i64 (k : Int), Value.int .i64 (l : Int)] 169) = w2 at *
  refine (oencode_any a k l w2).mono ?_
  rintro e w3 ⟨rfl, hb3⟩
  have hgl : w.heap.size < w1.heap.size := (Array.getElem?_eq_some_iff.1 hg1).1
  have hgl2 : w1.heap.size < w2.heap.size := (Array.getElem?_eq_some_iff.1 hg2).1
  have hb3' := hbb.trans ((hb1.trans (hb3.mono hb1.size)).mono hbb.size)
  have hg3 : w3.heap[w.heap.size]? = _ := (hb3.block _ (by omega)).trans ((hb1.block _ hgl).trans hg1)
  have hg4 : w3.heap[w1.heap.size]? = _ := (hb3.block _ hgl2).trans hg2
  have he := oencN_lt a k l
  clear hb1 hb3 hg1 hg2 hbb
  generalize oencN a k l = y at *
  by_cases hyx : y = x
  ·have HV := LH (HK.out hyx)
   subst hyx
   have d0 : w3.cell? ⟨w1.heap.size, 0, none⟩ = some (.int .i64 k) := cell_of_row _ _ 0 _ _ _ hg4
   have d1 : w3.cell? ⟨w1.heap.size, 1, none⟩ = some (.int .i64 l) := cell_of_row _ _ 1 _ _ _ hg4
   go_wp2_with (refine wpList_store_row (cs := #[.int .i64 k, .int .i64 l]) aggOb hg3 rfl rfl (by simp [Value.oneCell']) rfl rfl rfl rfl ?_; intro w4 hg5 hgr4 hs4)
   refine bodyPost_ret (results_cell_row2 (p := 4) (u := 5) rfl _ _ _ _ _ _ _ rfl hg5 Tryz.underlying169 rfl (by kernel_rfl)) rfl ⟨by rw [HV.out]; rfl, ?_⟩
   exact hb3'.grown hgr4 hb3'.size (fun k e => by cases e; omega)
  ·have HV := LH (HL.out hyx)
   have hne : ¬ ((y : Int) = (x : Int)) := by omega
   clear hyx
   go_wp2_with (refine wpList_store_row (cs := #[.int .i64 0, .int .i64 0]) aggOb hg3 rfl rfl (by simp [Value.oneCell']) rfl rfl rfl rfl ?_; intro w4 hg5 hgr4 hs4)
   refine bodyPost_ret (results_cell_row2 (p := 4) (u := 5) rfl _ _ _ _ _ _ _ rfl hg5 Tryz.underlying169 rfl (by kernel_rfl)) rfl ⟨by rw [HV.out]; rfl, ?_⟩
   exact hb3'.grown hgr4 hb3'.size (fun k e => by cases e; omega)
theorem odec_size {a : Int} {x : Nat} (h : (odecN a x).code = 0) : objSize (odecN a x).p (odecN a x).d ≠ 0 ∧ oencN a (odecN a x).p (odecN a x).d = x := by
 unfold odecN at h ⊢
 cases ho : openN x (pl a) with
 | none => rw [ho] at h; simp at h
 | some n =>
  rw [ho] at h
  simp only [Option.map_some, Option.getD_some] at h ⊢
  obtain ⟨h1, h2⟩ := openN_some ho
  unfold odecS at h ⊢
  split
  ·rename_i he
   dsimp only
   refine ⟨fun hs => ?_, he⟩
   unfold oencN at he
   rw [if_pos hs] at he
   subst he
   simp at h2
   subst h2
   revert hs
   decide
  ·rename_i he
   rw [if_neg he] at h
   simp at h
def headN (S : Dev) (a : Int) : Odec :=
 if a < 0 ∨ (S.cache.length : Int) ≤ a then ⟨0, 0, 22⟩ else
  if (odecN a (peek S.cache a)).code ≠ 0 ∨ (S.cache.length : Int) - a < (objSize (odecN a (peek S.cache a)).p (odecN a (peek S.cache a)).d : Nat) then ⟨0, 0, 22⟩ else ⟨(odecN a (peek S.cache a)).p, (odecN a (peek S.cache a)).d, 0⟩
theorem headN_code (S : Dev) (a : Int) : ((headN S a).code = 0 ∧ 0 ≤ a ∧ a < S.cache.length ∧ objSize (headN S a).p (headN S a).d ≠ 0 ∧ a + (objSize (headN S a).p (headN S a).d : Nat) ≤ S.cache.length ∧ oencN a (headN S a).p (headN S a).d = peek S.cache a) ∨ headN S a = ⟨0, 0, 22⟩ := by
 have hz := odec_size (a := a) (x := peek S.cache a)
 unfold headN
 generalize odecN a (peek S.cache a) = x at *
 obtain ⟨p, d, c⟩ := x
 dsimp only at hz ⊢
 split
 ·exact .inr rfl
 ·split
  ·exact .inr rfl
  ·rename_i h1 h2
   have hc : c = 0 := Decidable.byContradiction fun h => h2 (.inl h)
   have := hz hc
   generalize oencN a p d = y at *
   generalize objSize p d = s at *
   exact .inl ⟨rfl, by omega, by omega, this.1, by omega, this.2⟩
set_option maxHeartbeats 2000000 in
set_option maxRecDepth 20000 in
theorem ohead_any {w : World} {F : Foot} {S : Dev} (h : DevAt w F S) (a : Int) :
  Calls Tryz.prog 84 #[vdev F, .int .i64 a] w fun e w' => e = .returned (headN S a).val ∧ Below w.heap.size w w' := by
 have hbA := below_alloc w (Obj.cells #[Value.int .i64 0, Value.int .i64 0] 169)
 have hg := heap_alloc_new w (Obj.cells #[Value.int .i64 0, Value.int .i64 0] 169)
 have hd := h.below hbA
 have hsm := h.small
 have HE : Hid (∀ x : Odec, x = ⟨0, 0, 22⟩ → x.val = .tuple #[vob 0 0, .int .i64 22]) := LH (by rintro x rfl; rfl)
 have HB := LH hbA
 have HD := LH hd
 clear hbA hd h
 by_cases h0 : a < 0
 ·have HV : Hid (headN S a = ⟨0, 0, 22⟩) := LH (by unfold headN; rw [if_pos (.inl h0)])
  go_enter Tryz.func84, Tryz.ntmps84
  go_wp2_with (refine wpList_store_row (cs := #[.int .i64 0, .int .i64 0]) aggOb hg rfl rfl (by simp [Value.oneCell']) rfl rfl rfl rfl ?_; intro w4 hg5 hgr4 hs4)
  refine bodyPost_ret (results_cell_row2 (p := 4) (u := 5) rfl _ _ _ _ _ _ _ rfl hg5 Tryz.underlying169 rfl (by kernel_rfl)) rfl ⟨by rw [HE.out _ HV.out]; rfl, ?_⟩
  exact HB.out.grown hgr4 HB.out.size (fun k e => by cases e; omega)
 by_cases h1 : (S.cache.length : Int) ≤ a
 ·have HV : Hid (headN S a = ⟨0, 0, 22⟩) := LH (by unfold headN; rw [if_pos (.inr h1)])
  go_enter Tryz.func84, Tryz.ntmps84
  go_wp2_with fail
  refine (dlen_any HD.out).mono ?_
  rintro e w1 ⟨rfl, rfl⟩
  go_wp2_with (refine wpList_store_row (cs := #[.int .i64 0, .int .i64 0]) aggOb hg rfl rfl (by simp [Value.oneCell']) rfl rfl rfl rfl ?_; intro w4 hg5 hgr4 hs4)
  refine bodyPost_ret (results_cell_row2 (p := 4) (u := 5) rfl _ _ _ _ _ _ _ rfl hg5 Tryz.underlying169 rfl (by kernel_rfl)) rfl ⟨by rw [HE.out _ HV.out]; rfl, ?_⟩
  exact HB.out.grown hgr4 HB.out.size (fun k e => by cases e; omega)
 have HV0 : Hid (headN S a = if (odecN a (peek S.cache a)).code ≠ 0 ∨ (S.cache.length : Int) - a < (objSize (odecN a (peek S.cache a)).p (odecN a (peek S.cache a)).d : Nat) then ⟨0, 0, 22⟩ else ⟨(odecN a (peek S.cache a)).p, (odecN a (peek S.cache a)).d, 0⟩) := LH (by unfold headN; rw [if_neg (by omega)])
 go_enter Tryz.func84, Tryz.ntmps84
 go_wp2_with fail
 refine (dlen_any HD.out).mono ?_
 rintro e w1 ⟨rfl, rfl⟩
 go_wp2_with fail
 refine (dget_any HD.out a).mono ?_
 rintro e w1 ⟨rfl, rfl⟩
 have hpk := peek_lt HD.out.u64C a
 generalize w.alloc (Obj.cells #[Value.int .i64 0, Value.int .i64 0] 169) = w0 at *
 go_wp2_with fail
 refine (odecode_any a _ hpk _).mono ?_
 rintro e w1 ⟨rfl, hb1⟩
 have hg0 : w.heap.size < w0.heap.size := (Array.getElem?_eq_some_iff.1 hg).1
 have hg1 : w1.heap[w.heap.size]? = _ := (hb1.block _ hg0).trans hg
 have HB1 := LH (HB.out.trans (hb1.mono HB.out.size))
 have HD1 := LH (HD.out.below hb1)
 clear hb1 hg HB HD hpk
 generalize odecN a (peek S.cache a) = x at *
 obtain ⟨p, d, c⟩ := x
 unfold Odec.val
 dsimp only at HV0 ⊢
 have hbx := below_alloc w1 (Obj.cells #[Value.int .i64 p, Value.int .i64 d] 169)
 have hg2 := (hbx.block w.heap.size (by have := HB1.out.size; exact (Array.getElem?_eq_some_iff.1 hg1).1)).trans hg1
 have HB2 := LH (HB1.out.trans (hbx.mono HB1.out.size))
 have HD2 := LH (HD1.out.below hbx)
 have e0 : (w1.alloc (Obj.cells #[Value.int .i64 p, Value.int .i64 d] 169)).cell? ⟨w1.heap.size, 0, none⟩ = some (.int .i64 p) := cell_alloc_new _ _ _ 0 _ rfl
 have e1 : (w1.alloc (Obj.cells #[Value.int .i64 p, Value.int .i64 d] 169)).cell? ⟨w1.heap.size, 1, none⟩ = some (.int .i64 d) := cell_alloc_new _ _ _ 1 _ rfl
 clear hbx hg1 HB1 HD1
 by_cases hc : c = 0
 ·subst hc
  go_wp2_with fail
  refine (osize_any p d _).mono ?_
  rintro e w2 ⟨rfl, hb2⟩
  generalize w1.alloc (Obj.cells #[Value.int .i64 p, Value.int .i64 d] 169) = w1' at *
  have hg3 : w2.heap[w.heap.size]? = _ := (hb2.block _ (Array.getElem?_eq_some_iff.1 hg2).1).trans hg2
  have HB3 := LH (HB2.out.trans (hb2.mono HB2.out.size))
  have HD3 := LH (HD2.out.below hb2)
  have f0 := below_cells hb2 e0 (Nat.le_refl _)
  have f1 := below_cells hb2 e1 (Nat.le_refl _)
  clear hb2 HB2 HD2 hg2 e0 e1
  go_wp2_with fail
  refine (dlen_any HD3.out).mono ?_
  rintro e w3 ⟨rfl, rfl⟩
  have hw1 : IntKind.i64.wrap ((S.cache.length : Int) - a) = (S.cache.length : Int) - a := IntWalk.i64_in _ (by omega)
  by_cases hs : (S.cache.length : Int) - a < (objSize p d : Nat)
  ·have HV : Hid (headN S a = ⟨0, 0, 22⟩) := LH (by rw [HV0.out, if_pos (.inr hs)])
   go_wp2_with (refine wpList_store_row (cs := #[.int .i64 0, .int .i64 0]) aggOb hg3 rfl rfl (by simp [Value.oneCell']) rfl rfl rfl rfl ?_; intro w4 hg5 hgr4 hs4)
   refine bodyPost_ret (results_cell_row2 (p := 4) (u := 5) rfl _ _ _ _ _ _ _ rfl hg5 Tryz.underlying169 rfl (by kernel_rfl)) rfl ⟨by rw [HE.out _ HV.out]; rfl, ?_⟩
   exact HB3.out.grown hgr4 HB3.out.size (fun k e => by cases e; omega)
  ·have HV : Hid (headN S a = ⟨p, d, 0⟩) := LH (by rw [HV0.out, if_neg (fun h => h.elim (fun h => h rfl) hs)])
   go_wp2_with (refine wpList_store_row (cs := #[.int .i64 p, .int .i64 d]) aggOb hg3 rfl rfl (by simp [Value.oneCell']) rfl rfl rfl rfl ?_; intro w4 hg5 hgr4 hs4)
   refine bodyPost_ret (results_cell_row2 (p := 4) (u := 5) rfl _ _ _ _ _ _ _ rfl hg5 Tryz.underlying169 rfl (by kernel_rfl)) rfl ⟨by rw [HV.out]; rfl, ?_⟩
   exact HB3.out.grown hgr4 HB3.out.size (fun k e => by cases e; omega)
 ·have HV : Hid (headN S a = ⟨0, 0, 22⟩) := LH (by rw [HV0.out, if_pos (.inl hc)])
  have hc1 : (c != 0) = true := by simpa using hc
  clear hc
  go_wp2_with (refine wpList_store_row (cs := #[.int .i64 0, .int .i64 0]) aggOb hg2 rfl rfl (by simp [Value.oneCell']) rfl rfl rfl rfl ?_; intro w4 hg5 hgr4 hs4)
  refine bodyPost_ret (results_cell_row2 (p := 4) (u := 5) rfl _ _ _ _ _ _ _ rfl hg5 Tryz.underlying169 rfl (by kernel_rfl)) rfl ⟨by rw [HE.out _ HV.out]; rfl, ?_⟩
  exact HB2.out.grown hgr4 HB2.out.size (fun k e => by cases e; omega)
def zeroTo (S : Dev) (a : Nat) : Nat → Done
 | 0 => ⟨S, 0⟩
 | k + 1 => if (zeroTo S a k).err ≠ 0 then zeroTo S a k else ⟨(zeroTo S a k).dev.store ((a + 1 + k : Nat) : Int) 0, (zeroTo S a k).dev.storeE ((a + 1 + k : Nat) : Int)⟩
def Dev.initN (S : Dev) (a : Nat) (n : Nat) (x : Nat) : Done :=
 if (zeroTo S a (n - 1)).err ≠ 0 then zeroTo S a (n - 1) else ⟨(zeroTo S a (n - 1)).dev.store (a : Int) x, (zeroTo S a (n - 1)).dev.storeE (a : Int)⟩
def Dev.init (S : Dev) (a p d : Int) : Done :=
 if objSize p d = 0 then ⟨S, 5⟩ else if a < 0 ∨ (S.cache.length : Int) ≤ a ∨ (S.cache.length : Int) - a < (objSize p d : Nat) then ⟨S, 2⟩ else S.initN a.toNat (objSize p d) (oencN a p d)
theorem zeroTo_stays (S : Dev) (a m : Nat) : ∀ k, m ≤ k → (zeroTo S a m).err ≠ 0 → zeroTo S a k = zeroTo S a m := by
  intro k
  induction k with
  | zero => intro h _; obtain rfl : m = 0 := by omega
            rfl
  | succ k ih =>
    intro hk hne
    by_cases e : m = k + 1
    · rw [e]
    · have := ih (by omega) hne
      rw [zeroTo, this, if_pos hne]
theorem zeroTo_ok {S : Dev} {N : Nat} (h : S.ok N) (a k : Nat) : (zeroTo S a k).dev.ok (N + k) := by
 induction k with
 | zero => exact h
 | succ k ih =>
  unfold zeroTo
  split
  ·exact ih.mono (by omega)
  ·exact Dev.store_okN ih _ _
set_option maxHeartbeats 2000000 in
set_option maxRecDepth 20000 in
theorem oinit_any {w : World} {F : Foot} {S : Dev} (h : DevAt w F S) {N : Nat} (hN : N ≤ 100000000000) (ho : S.ok N) (a p d : Int) :
  Calls Tryz.prog 234 #[vdev F, .int .i64 a, vob p d] w fun e w' => e = .returned (.int .i64 (S.init a p d).err) ∧ DevAt w' F (S.init a p d).dev ∧ Touch F.list w w' := by
 have hbx := below_alloc w (Obj.cells #[Value.int .i64 p, Value.int .i64 d] 169)
 have e0 : (w.alloc (Obj.cells #[Value.int .i64 p, Value.int .i64 d] 169)).cell? ⟨w.heap.size, 0, none⟩ = some (.int .i64 p) := cell_alloc_new _ _ _ 0 _ rfl
 have e1 : (w.alloc (Obj.cells #[Value.int .i64 p, Value.int .i64 d] 169)).cell? ⟨w.heap.size, 1, none⟩ = some (.int .i64 d) := cell_alloc_new _ _ _ 1 _ rfl
 have HI : Hid (S.init a p d = if objSize p d = 0 then ⟨S, 5⟩ else if a < 0 ∨ (S.cache.length : Int) ≤ a ∨ (S.cache.length : Int) - a < (objSize p d : Nat) then ⟨S, 2⟩ else S.initN a.toNat (objSize p d) (oencN a p d)) := LH rfl
 have HMem := LH h.mem
 have HD0 := LH (h.below hbx)
 have HT0 : Hid (Touch F.list w (w.alloc (Obj.cells #[Value.int .i64 p, Value.int .i64 d] 169))) := LH (Touch.ofBelow hbx)
 have hsm := h.small
 have hsz := objSize_le p d
 clear hbx h
 generalize S.init a p d = R at *
 go_enter Tryz.func234, Tryz.ntmps234
 go_wp2_with fail
 refine (osize_any p d _).mono ?_
 rintro e w1 ⟨rfl, hb1⟩
 generalize w.alloc (Obj.cells #[Value.int .i64 p, Value.int .i64 d] 169) = w0 at *
 have f0 := below_cells hb1 e0 (Nat.le_refl _)
 have f1 := below_cells hb1 e1 (Nat.le_refl _)
 have HD1 := LH (HD0.out.below hb1)
 have HT1 : Hid (Touch F.list w w1) := LH (HT0.out.trans (Touch.ofBelow hb1))
 obtain ⟨q, hq⟩ : ∃ q, q = w.heap.size := ⟨_, rfl⟩
 rw [← hq] at f0 f1 ⊢
 have hqF : q ∉ F.list := fun hm => by have := HMem.out q hm; omega
 clear hb1 HD0 HT0 e0 e1 hq
 have HEn : Hid (oencN a p d < 18446744073709551616) := LH (oencN_lt a p d)
 generalize hs : objSize p d = n at *
 have HS := LH hs
 clear hs
 by_cases hn0 : n = 0
 ·subst hn0
  have HV : Hid (R = ⟨S, 5⟩) := LH (by rw [HI.out, if_pos rfl])
  go_wp2_with fail
  go_ret
  rw [HV.out]
  exact ⟨rfl, HD1.out, HT1.out⟩
 have hn0' : ((n : Int) == 0) = false := by simp; omega
 by_cases h0 : a < 0
 ·have HV : Hid (R = ⟨S, 2⟩) := LH (by rw [HI.out, if_neg hn0, if_pos (.inl h0)])
  go_wp2_with fail
  go_ret
  rw [HV.out]
  exact ⟨rfl, HD1.out, HT1.out⟩
 by_cases h1 : (S.cache.length : Int) ≤ a
 ·have HV : Hid (R = ⟨S, 2⟩) := LH (by rw [HI.out, if_neg hn0, if_pos (.inr (.inl h1))])
  go_wp2_with fail
  refine (dlen_any HD1.out).mono ?_
  rintro e w2 ⟨rfl, rfl⟩
  go_wp2_with fail
  go_ret
  rw [HV.out]
  exact ⟨rfl, HD1.out, HT1.out⟩
 obtain ⟨j, rfl⟩ := Int.eq_ofNat_of_zero_le (show 0 ≤ a by omega)
 have h0d : decide ((j : Int) < 0) = false := by simp
 have h1d : decide ((S.cache.length : Int) ≤ (j : Int)) = false := by simpa using h1
 have hw1 : IntKind.i64.wrap ((S.cache.length : Int) - (j : Int)) = (S.cache.length : Int) - (j : Int) := IntWalk.i64_in _ (by omega)
 have hjl : (j : Int) < (S.cache.length : Int) := by omega
 have h1n : decide (S.cache.length ≤ j) = false := by simp; omega
 clear h0 h1
 go_wp2_with fail
 refine (dlen_any HD1.out).mono ?_
 rintro e w2 ⟨rfl, rfl⟩
 go_wp2_with fail
 refine (dlen_any HD1.out).mono ?_
 rintro e w2 ⟨rfl, rfl⟩
 by_cases h2 : (S.cache.length : Int) - (j : Int) < (n : Int)
 ·have HV : Hid (R = ⟨S, 2⟩) := LH (by rw [HI.out, if_neg hn0, if_pos (.inr (.inr h2))])
  go_wp2_with fail
  go_ret
  rw [HV.out]
  exact ⟨rfl, HD1.out, HT1.out⟩
 have HV : Hid (R = S.initN j n (oencN (j : Int) p d)) := LH (by rw [HI.out, if_neg hn0, if_neg (by omega)]; rfl)
 have h2d : decide ((S.cache.length : Int) - (j : Int) < (n : Int)) = false := by simpa using h2
 have hjn : (j : Int) + (n : Int) ≤ (S.cache.length : Int) := by omega
 clear HI h2
 go_wp2_with fail
 go_loopw [8] (fun i wr => ∃ k : Nat, k + 1 ≤ n ∧ i = .int .i64 ((k : Int) + 1) ∧ (zeroTo S j k).err = 0 ∧ DevAt wr F (zeroTo S j k).dev ∧ Touch F.list w wr ∧ wr.cell? ⟨q, 0, none⟩ = some (.int .i64 p) ∧ wr.cell? ⟨q, 1, none⟩ = some (.int .i64 d)) (fun i _ => n - (intOf i).toNat)
 case atStart => exact ⟨0, by omega, rfl, rfl, HD1.out, HT1.out, f0, f1⟩
 case round =>
  obtain ⟨k, hk, rfl, he, hd, ht, g0, g1⟩ := hrel
  have HOk := LH (zeroTo_ok ho j k)
  have HStay := LH (zeroTo_stays S j (k + 1) (n - 1))
  have HZ : Hid (zeroTo S j (k + 1) = if (zeroTo S j k).err ≠ 0 then zeroTo S j k else ⟨(zeroTo S j k).dev.store ((j + 1 + k : Nat) : Int) 0, (zeroTo S j k).dev.storeE ((j + 1 + k : Nat) : Int)⟩) := LH rfl
  have HIn : Hid (S.initN j n (oencN (j : Int) p d) = if (zeroTo S j (n - 1)).err ≠ 0 then zeroTo S j (n - 1) else ⟨(zeroTo S j (n - 1)).dev.store (j : Int) (oencN (j : Int) p d), (zeroTo S j (n - 1)).dev.storeE (j : Int)⟩) := LH rfl
  have HZK : Hid (k + 1 = n → zeroTo S j (n - 1) = zeroTo S j k) := LH (fun h => by rw [← h]; rfl)
  generalize zeroTo S j k = Z at *
  have HE := LH he
  have HD := LH hd
  have HT := LH ht
  clear he hd ht f0 f1
  by_cases hlt : (k : Int) + 1 < (n : Int)
  ·have hw2 : IntKind.i64.wrap ((j : Int) + ((k : Int) + 1)) = (j : Int) + ((k : Int) + 1) := IntWalk.i64_in _ (by omega)
   go_wp2_with fail
   refine (store_any HD.out (N := N + k) (by omega) HOk.out _ 0 (by decide)).mono ?_
   rintro e w2 ⟨rfl, hd2, ht2⟩
   have hc : ((j + 1 + k : Nat) : Int) = (j : Int) + ((k : Int) + 1) := by omega
   have HZ2 : Hid (zeroTo S j (k + 1) = ⟨Z.dev.store ((j : Int) + ((k : Int) + 1)) 0, Z.dev.storeE ((j : Int) + ((k : Int) + 1))⟩) := LH (by rw [HZ.out, if_neg (by rw [HE.out]; simp), hc])
   clear hc
   generalize Z.dev.store ((j : Int) + ((k : Int) + 1)) 0 = S2 at *
   generalize Z.dev.storeE ((j : Int) + ((k : Int) + 1)) = E2 at *
   have i0 := cell_of_touch ht2 (p := ⟨q, 0, none⟩) hqF g0
   have i1 := cell_of_touch ht2 (p := ⟨q, 1, none⟩) hqF g1
   have HD2 := LH hd2
   have HT2 : Hid (Touch F.list w w2) := LH (HT.out.trans ht2)
   clear hd2 ht2 g0 g1 HT HD
   by_cases hz : E2 = 0
   ·subst hz
    go_wp2_with fail
    exact ⟨⟨k + 1, by omega, vint (by omega), by rw [HZ2.out], by rw [HZ2.out]; exact HD2.out, HT2.out, i0, i1⟩, by simp [intOf]; omega⟩
   ·have hz1 : (E2 != 0) = true := by simpa using hz
    have HR : Hid (R = ⟨S2, E2⟩) := LH (by
     have h1 := HStay.out (by omega) (by rw [HZ2.out]; exact hz)
     rw [HV.out, HIn.out, h1, HZ2.out, if_pos hz])
    clear hz
    go_wp2_with fail
    go_ret
    rw [HR.out]
    exact ⟨rfl, HD2.out, HT2.out⟩
  ·have hkn : k + 1 = n := by omega
   have HR : Hid (R = ⟨Z.dev.store (j : Int) (oencN (j : Int) p d), Z.dev.storeE (j : Int)⟩) := LH (by rw [HV.out, HIn.out, HZK.out hkn, if_neg (by rw [HE.out]; simp)])
   clear hkn
   go_wp2_with fail
   refine (oencode_any _ p d _).mono ?_
   rintro e w2 ⟨rfl, hb2⟩
   have HD2 := LH (HD.out.below hb2)
   have HT2 : Hid (Touch F.list w w2) := LH (HT.out.trans (Touch.ofBelow hb2))
   clear hb2 HD HT
   go_wp2_with fail
   refine (store_any HD2.out (N := N + k) (by omega) HOk.out _ _ HEn.out).mono ?_
   rintro e w3 ⟨rfl, hd3, ht3⟩
   have HD3 := LH hd3
   have HT3 : Hid (Touch F.list w w3) := LH (HT2.out.trans ht3)
   clear hd3 ht3
   go_wp2_with fail
   go_ret
   rw [HR.out]
   exact ⟨rfl, HD3.out, HT3.out⟩
def Dev.lastsTo (S : Dev) (a : Int) (k : Nat) : Prop := ∀ i : Nat, i < k → peek S.lasting (a + (i : Int)) = peek S.cache (a + (i : Int))
instance (S : Dev) (a : Int) (k : Nat) : Decidable (S.lastsTo a k) := Nat.decidableBallLT k _
end Go.Proofs.YtpopbfagliagnaaGreat
namespace Go.Proofs.YtpopbfagliagnaaGreat
theorem odec_enc {a p d : Int} (h : objSize p d ≠ 0) : odecN a (oencN a p d) = ⟨p, d, 0⟩ := by
 obtain ⟨⟨p0, p1⟩, d0, d1⟩ := obj_small h
 have hlt := obN_lt h
 have hn2 : ((obN p d : Nat) : Int) = 165 + 256 * p + 16384 * d := by unfold obN; omega
 have he : oencN a p d = sealN (obN p d) (pl a) := by unfold oencN; rw [if_neg h]
 generalize obN p d = n at *
 have ho : openN (oencN a p d) (pl a) = some n := by
  unfold openN; rw [he, sealN_mod n _ hlt, if_pos rfl]
 have e2 : ((n / 256 % 64 : Nat) : Int) = p := by omega
 have e3 : ((n / 16384 % 32768 : Nat) : Int) = d := by omega
 rw [odecN_some ho]
 unfold odecS
 rw [e2, e3, if_pos rfl]
structure Kept (S : Dev) (a : Nat) (p d : Int) (ws : List Nat) : Prop where
 live : S.live
 inv : S.inv
 size : objSize p d = ws.length + 1
 fits : a + 1 + ws.length ≤ S.cache.length
 head : S.cache.getD a 0 = oencN (a : Int) p d
 words : ∀ j, j < ws.length → S.cache.getD (a + 1 + j) 0 = ws.getD j 0
theorem Kept.headN {S : Dev} {a : Nat} {p d : Int} {ws : List Nat} (h : Kept S a p d ws) : headN S a = ⟨p, d, 0⟩ := by
 have hs := h.size
 have hf := h.fits
 have hne : objSize p d ≠ 0 := by omega
 have hd := odec_enc (a := (a : Int)) hne
 unfold Go.Proofs.YtpopbfagliagnaaGreat.headN
 rw [if_neg (by omega)]
 have hp : peek S.cache (a : Int) = oencN (a : Int) p d := by rw [peek_in]; exact h.head
 rw [hp, hd]
 dsimp only
 rw [if_neg (by rw [hs]; intro h; rcases h with h | h; exact h rfl; omega)]
theorem zeroTo_live {S : Dev} (h : S.live) (hi : S.inv) (a : Nat) : ∀ k, a + 1 + k ≤ S.cache.length → (zeroTo S a k).err = 0 ∧ (zeroTo S a k).dev.live ∧ (zeroTo S a k).dev.inv ∧ (zeroTo S a k).dev.cache.length = S.cache.length ∧
  ∀ j, (zeroTo S a k).dev.cache.getD j 0 = if a + 1 ≤ j ∧ j < a + 1 + k then 0 else S.cache.getD j 0
 | 0, _ => ⟨rfl, h, hi, rfl, fun j => by rw [if_neg (by omega)]; rfl⟩
 | k + 1, hk => by
  obtain ⟨i1, i2, i3, i4, i5⟩ := zeroTo_live h hi a k (by omega)
  have hst : zeroTo S a (k + 1) = ⟨(zeroTo S a k).dev.store ((a + 1 + k : Nat) : Int) 0, (zeroTo S a k).dev.storeE ((a + 1 + k : Nat) : Int)⟩ := by
   rw [zeroTo, if_neg (by rw [i1]; simp)]
  rw [hst]
  generalize (zeroTo S a k).dev = T at *
  obtain ⟨s1, s2⟩ := i2.store_ok (a + 1 + k) 0 (by omega)
  refine ⟨s1, i2.store _ _, Dev.store_inv i3 _ _ (by decide), by rw [s2]; simp [i4], fun j => ?_⟩
  rw [s2, getD_setN _ _ _ _ (by omega), i5 j]
  by_cases e : j = a + 1 + k
  ·subst e; rw [if_pos rfl, if_pos (by omega)]
  ·rw [if_neg e]
   by_cases c : a + 1 ≤ j ∧ j < a + 1 + k
   ·rw [if_pos c, if_pos (by omega)]
   ·rw [if_neg c, if_neg (by omega)]
theorem init_kept {S : Dev} (h : S.live) (hi : S.inv) (a : Nat) (p d : Int) (hs : objSize p d ≠ 0) (hf : a + objSize p d ≤ S.cache.length) :
  (S.init a p d).err = 0 ∧ Kept (S.init a p d).dev a p d (List.replicate (objSize p d - 1) 0) := by
 have hE : S.init a p d = S.initN a (objSize p d) (oencN a p d) := by unfold Dev.init; rw [if_neg hs, if_neg (by omega)]; rfl
 rw [hE]
 obtain ⟨i1, i2, i3, i4, i5⟩ := zeroTo_live h hi a (objSize p d - 1) (by omega)
 have hlt := oencN_lt (a : Int) p d
 have hI : S.initN a (objSize p d) (oencN a p d) = ⟨(zeroTo S a (objSize p d - 1)).dev.store (a : Int) (oencN a p d), (zeroTo S a (objSize p d - 1)).dev.storeE (a : Int)⟩ := by unfold Dev.initN; rw [if_neg (by rw [i1]; simp)]
 rw [hI]
 generalize (zeroTo S a (objSize p d - 1)).dev = T at *
 generalize hx : oencN (a : Int) p d = x at *
 obtain ⟨s1, s2⟩ := i2.store_ok a x (by omega)
 refine ⟨s1, ⟨i2.store _ _, Dev.store_inv i3 _ _ hlt, by simp; omega, by rw [s2]; simp; omega, ?_, fun j hj => ?_⟩⟩
 ·rw [s2, getD_setN _ _ _ _ (by omega), if_pos rfl, hx]
 ·simp at hj
  rw [s2, getD_setN _ _ _ _ (by omega), if_neg (by omega), i5, if_pos (by omega)]
  simp [List.getD_eq_getElem?_getD, hj]
theorem init_ok {S : Dev} {N : Nat} (h : S.ok N) (a p d : Int) : (S.init a p d).dev.ok (N + 20000) := by
 unfold Dev.init
 split
 ·exact h.mono (by omega)
 ·split
  ·exact h.mono (by omega)
  ·have hs := objSize_le p d
   unfold Dev.initN
   split
   ·exact (zeroTo_ok h _ _).mono (by omega)
   ·exact (Dev.store_okN (zeroTo_ok h _ _) _ _).mono (by omega)
end Go.Proofs.YtpopbfagliagnaaGreat
namespace Go.Proofs.YtpopbfagliagnaaGreat
open Go.RowKit
structure AF where
 a : Nat
 X : MF
 U : SetF
 f : Nat
 mb : Nat
 R : List Nat
def AF.fix (A : AF) : List Nat := A.a :: (A.X.list ++ A.U.list)
def AF.list (A : AF) : List Nat := A.fix ++ A.R
def AF.hot (A : AF) : List Nat := A.X.hot ++ (A.U.list ++ A.R)
structure Al where
 bm : Bm
 used : List Bool
 fl : FL
def alV (A : AF) (B : Nat) : Array Value := #[.pointer (some ⟨A.X.m, 0, none⟩), vdev A.X.F, .int .i64 (B : Int), vset A.U, .pointer (some ⟨A.f, 0, none⟩)]
abbrev valloc (A : AF) : Value := .pointer (some ⟨A.a, 0, none⟩)
structure AlAt (w : World) (A : AF) (n B : Nat) (m : Al) : Prop where
 head : w.heap[A.a]? = some (.cells (alV A B) 77 (0, 0))
 man : ManAt w A.X n B m.bm
 set : SetAt w A.U m.used
 free : FreeAt w A.f A.mb n A.R m.fl
 nd : A.fix.Nodup
 nR : ∀ b ∈ A.R, b ∉ A.fix
 lenU : m.used.length = m.bm.dev.cache.length
theorem AlAt.mem {w : World} {A : AF} {n B : Nat} {m : Al} (h : AlAt w A n B m) : ∀ k ∈ A.list, k < w.heap.size := by
 intro k hk
 simp only [AF.list, AF.fix, List.mem_append, List.mem_cons] at hk
 rcases hk with (rfl | hk | hk) | hk
 ·exact (Array.getElem?_eq_some_iff.1 h.head).1
 ·exact h.man.mem k hk
 ·exact h.set.mem k hk
 ·exact h.free.mem k hk
theorem AlAt.keep {w w' : World} {A : AF} {n B : Nat} {m : Al} (h : AlAt w A n B m) (hk : ∀ k ∈ A.list, w'.heap[k]? = w.heap[k]?) : AlAt w' A n B m :=
 ⟨(hk A.a (by simp [AF.list, AF.fix])).trans h.head, h.man.keep (fun k h => hk k (by simp [AF.list, AF.fix, h])), h.set.keep (fun k h => hk k (by simp [AF.list, AF.fix, h])), h.free.keep (fun k h => hk k (by simp [AF.list, h])), h.nd, h.nR, h.lenU⟩
theorem AlAt.below {w w' : World} {A : AF} {n B : Nat} {m : Al} (h : AlAt w A n B m) (hb : Below w.heap.size w w') : AlAt w' A n B m := h.keep (fun k hk => hb.block k (h.mem k hk))
theorem AlAt.c0 {w : World} {A : AF} {n B : Nat} {m : Al} (h : AlAt w A n B m) : w.cell? ⟨A.a, 0, none⟩ = some (.pointer (some ⟨A.X.m, 0, none⟩)) := cell_of_row _ _ 0 _ _ _ h.head
theorem AlAt.c1 {w : World} {A : AF} {n B : Nat} {m : Al} (h : AlAt w A n B m) : w.cell? ⟨A.a, 1, none⟩ = some (vdev A.X.F) := cell_of_row _ _ 1 _ _ _ h.head
theorem AlAt.c2 {w : World} {A : AF} {n B : Nat} {m : Al} (h : AlAt w A n B m) : w.cell? ⟨A.a, 2, none⟩ = some (.int .i64 (B : Int)) := cell_of_row _ _ 2 _ _ _ h.head
theorem AlAt.c3 {w : World} {A : AF} {n B : Nat} {m : Al} (h : AlAt w A n B m) : w.cell? ⟨A.a, 3, none⟩ = some (vset A.U) := cell_of_row _ _ 3 _ _ _ h.head
theorem AlAt.c4 {w : World} {A : AF} {n B : Nat} {m : Al} (h : AlAt w A n B m) : w.cell? ⟨A.a, 4, none⟩ = some (.pointer (some ⟨A.f, 0, none⟩)) := cell_of_row _ _ 4 _ _ _ h.head
set_option maxHeartbeats 400000 in
theorem tlen_any {w : World} {p g c B : Nat} {F : Foot} {l : List Hd} (h : TabG w p g c F B l) :
  Calls Tryz.prog 67 #[.pointer (some ⟨p, 0, none⟩)] w fun e w' => e = .returned (.int .i64 (B : Int)) ∧ w = w' := by
 have c2 : w.cell? ⟨p, 2, none⟩ = some (.slice (some ⟨g, 0, none⟩) B c) := cell_of_row _ _ 2 _ _ _ h.head
 clear h
 go_enter Tryz.func67, Tryz.ntmps67
 go_wp2_with fail
 go_ret
 exact ⟨rfl, rfl⟩
def NewAl (w : World) (X : MF) (n B : Nat) (m : Bm) : Ending → World → Prop := fun e w' => ∃ A : AF, e = .returned (.tuple #[valloc A, .int .i64 0]) ∧ A.X = X ∧ AlAt w' A n B ⟨m, List.replicate m.dev.cache.length false, FL.empty⟩ ∧ Below w.heap.size w w' ∧ ∀ k ∈ A.list, k ∈ X.list ∨ w.heap.size ≤ k
set_option maxHeartbeats 4000000 in
set_option maxRecDepth 20000 in
theorem anew_free {w : World} {X : MF} {n B : Nat} {m : Bm} (h : ManAt w X n B m) (hB : B ≤ 1000) (hlen : 1 ≤ m.dev.cache.length) (hno : ∀ b : Nat, b < B → (hdGet m.list (b : Int)).k ≠ 1) :
  Calls Tryz.prog 118 #[vdev X.F, .pointer (some ⟨X.m, 0, none⟩), .slice none 0 0] w (NewAl w X n B m) := by
 have HM := LH h
 have HSm := LH h.dev.small
 have HNo := LH hno
 have HXm := LH h.mem
 have HPost : Hid (∀ A w', A.X = X → AlAt w' A n B ⟨m, List.replicate m.dev.cache.length false, FL.empty⟩ → Below w.heap.size w w' → (∀ k ∈ A.list, k ∈ X.list ∨ w.heap.size ≤ k) → NewAl w X n B m (.returned (.tuple #[valloc A, .int .i64 0])) w') := LH (fun A w' a b c d => ⟨A, rfl, a, b, c, d⟩)
 generalize NewAl w X n B m = Post at *
 clear h hno
 go_enter Tryz.func118, Tryz.ntmps118
 go_wp2_with fail
 refine (bgeom_any HM.out).mono ?_
 rintro e w1 ⟨rfl, hb1⟩
 have HM1 := LH (HM.out.below hb1)
 have HB1 := LH hb1
 clear hb1
 go_wp2_with fail
 refine (dlen_any HM1.out.dev).mono ?_
 rintro e w2 ⟨rfl, rfl⟩
 go_wp2_with fail
 refine (snew_any m.dev.cache.length hlen HSm.out _).mono ?_
 rintro e w2 ⟨U, rfl, hU2, hb2, hU3⟩
 have HM2 := LH (HM1.out.below hb2)
 have HB2 := LH (HB1.out.trans (hb2.mono HB1.out.size))
 have HU := LH hU2
 have HUn := LH (fun k hk => Nat.le_trans HB1.out.size (hU3 k hk))
 clear hU2 hb2 hU3 HM1
 go_wp2_with fail
 refine (fnew_any _).mono ?_
 rintro e w3 ⟨f, mb, rfl, hf3, hb3, hf4, hf5⟩
 have HM3 := LH (HM2.out.below hb3)
 have HB3 := LH (HB2.out.trans (hb3.mono HB2.out.size))
 have HU3 := LH (HU.out.below hb3)
 have HF := LH hf3
 have HFn : Hid (w2.heap.size ≤ f ∧ w2.heap.size ≤ mb) := LH ⟨hf4, hf5⟩
 have HW2 := LH HB2.out.size
 have HU2m := LH HU.out.mem
 clear hf3 hb3 hf4 hf5 HM2
 go_upto_region 2 with fail
 have hbx := below_alloc w3 (Obj.cells #[.pointer (some ⟨X.m, 0, none⟩), vdev X.F, .int .i64 (B : Int), vset U, .pointer (some ⟨f, 0, none⟩)] 77)
 have hhx := heap_alloc_new w3 (Obj.cells #[.pointer (some ⟨X.m, 0, none⟩), vdev X.F, .int .i64 (B : Int), vset U, .pointer (some ⟨f, 0, none⟩)] 77)
 obtain ⟨A, hA⟩ : ∃ A : AF, A = ⟨w3.heap.size, X, U, f, mb, [f, mb]⟩ := ⟨_, rfl⟩
 have HAA : Hid (A.X = X ∧ ∀ k ∈ A.list, k ∈ X.list ∨ w.heap.size ≤ k) := LH (by
  subst hA
  refine ⟨rfl, fun k hk => ?_⟩
  simp only [AF.list, AF.fix, List.mem_append, List.mem_cons, List.not_mem_nil, or_false] at hk
  have h1 := HW2.out
  have h2 := HB3.out.size
  have h3 := HFn.out
  rcases hk with (rfl | hk | hk) | rfl | rfl
  ·right; exact h2
  ·exact .inl hk
  ·exact .inr (HUn.out k hk)
  ·right; omega
  ·right; omega)
 have HAt : Hid (AlAt (w3.alloc (Obj.cells #[.pointer (some ⟨X.m, 0, none⟩), vdev X.F, .int .i64 (B : Int), vset U, .pointer (some ⟨f, 0, none⟩)] 77)) A n B ⟨m, List.replicate m.dev.cache.length false, FL.empty⟩) := LH (by
  subst hA
  have h1 := HW2.out
  have h2 := HB3.out.size
  have h3 := HFn.out
  have hfm := HF.out.mem
  have hf1 := hfm f (by simp)
  have hf2 := hfm mb (by simp)
  obtain ⟨_, _, _, _, hne⟩ := id HF.out
  have hmbf : f ≠ mb := by obtain ⟨V, hV, _⟩ := id HF.out; exact hV.ne
  obtain ⟨ws, hws⟩ := id HU3.out
  have hune := hws.ne
  have hu1 := HU2m.out U.u (by simp [SetF.list])
  have hu2 := HU2m.out U.b (by simp [SetF.list])
  have hu3 := HUn.out U.u (by simp [SetF.list])
  have hu4 := HUn.out U.b (by simp [SetF.list])
  have hXl : ∀ k, w.heap.size ≤ k → k ∉ X.list := fun k hk hm => by have := HXm.out k hm; omega
  refine ⟨hhx, HM3.out.below hbx, HU3.out.below hbx, (HF.out.below hbx).mono (Nat.zero_le _), ?_, ?_, by simp⟩
  ·show (w3.heap.size :: (X.list ++ [U.u, U.b])).Nodup
   rw [List.nodup_cons, List.nodup_append]
   refine ⟨?_, HM3.out.nd, by simpa using hune, ?_⟩
   ·simp only [List.mem_append, List.mem_cons, List.not_mem_nil, or_false, not_or]
    exact ⟨hXl _ h2, by omega, by omega⟩
   ·intro a ha b hb e
    subst e
    simp only [List.mem_cons, List.not_mem_nil, or_false] at hb
    rcases hb with rfl | rfl
    ·exact hXl _ hu3 ha
    ·exact hXl _ hu4 ha
  ·intro b hb
   show b ∉ w3.heap.size :: (X.list ++ [U.u, U.b])
   simp only [List.mem_cons, List.mem_append, List.not_mem_nil, or_false, not_or] at hb ⊢
   rcases hb with rfl | rfl
   ·exact ⟨by omega, hXl _ (by omega), by omega, by omega⟩
   ·exact ⟨by omega, hXl _ (by omega), by omega, by omega⟩)
 have HB4 := LH (HB3.out.trans (hbx.mono HB3.out.size))
 have HAv : Hid (w3.heap.size = A.a) := LH (by rw [hA])
 have HXe : Hid (A.X = X) := LH HAA.out.1
 generalize w3.alloc _ = w4 at *
 rw [HAv.out]
 clear hA hbx hhx HM3 HU3 HF HU2m HUn HFn HW2 HM HXm HB3 HB2 HB1 HU HAv
 go_wp2_with fail
 go_loop [27] (fun i => i = .int .i64 0) (fun _ => 0)
 case atStart => rfl
 case round =>
  subst hrel
  go_wp2_with fail
  go_loopw [13] (fun bv wr => ∃ j : Nat, 1 ≤ j ∧ bv = .int .i64 (j : Int) ∧ Hid (AlAt wr A n B ⟨m, List.replicate m.dev.cache.length false, FL.empty⟩) ∧ Hid (Below w.heap.size w wr)) (fun bv _ => B - (intOf bv).toNat)
  case atStart => exact ⟨1, Nat.le_refl _, rfl, HAt, HB4⟩
  case round =>
   clear HAt HB4
   obtain ⟨j, hj1, rfl, HAt, HBw⟩ := hrel
   have c0 := HAt.out.man.c0
   rw [HXe.out] at c0
   have HMan : Hid (ManAt wr X n B m) := LH (by have := HAt.out.man; rw [HXe.out] at this; exact this)
   go_wp2_with fail
   refine (tlen_any HMan.out.tab).mono ?_
   rintro e w5 ⟨rfl, rfl⟩
   by_cases hlt : j < B
   ·have HNk := LH (HNo.out j hlt)
    go_wp2_with fail
    refine (tget_any (HMan.out.tab.at (MF.notHot (MF.apart HMan.out.nd).t).1) (j : Int) (by rw [HMan.out.tab.len]; exact hB)).mono ?_
    rintro e w6 ⟨rfl, hb6⟩
    generalize hdGet m.list (j : Int) = hd at *
    obtain ⟨k, c, l⟩ := hd
    have hk1 : ((k : Int) == 1) = false := by simpa using HNk.out
    unfold Hd.val
    have hbx := below_alloc w6 (Obj.cells #[.int .i64 k, .int .i64 c, .int .i64 l] 103)
    have HA6 := LH ((HAt.out.below hb6).below hbx)
    have HB6 := LH ((HBw.out.trans (hb6.mono HBw.out.size)).trans (hbx.mono (Nat.le_trans HBw.out.size hb6.size)))
    clear hb6 hbx
    go_wp2_with fail
    go_roundw
    case rel => exact ⟨j + 1, by omega, vint (by omega), HA6, HB6⟩
    case measure => simp [intOf]; omega
   ·have hlt' : decide (j < B) = false := by simp; omega
    go_wp2_with fail
    exact HPost.out A _ HXe.out HAt.out HBw.out HAA.out.2
end Go.Proofs.YtpopbfagliagnaaGreat
namespace Go.Proofs.YtpopbfagliagnaaGreat
def isCell (L : List Hd) (k a : Nat) : Prop :=
 512 ≤ a ∧ a < 512 * L.length ∧ L.getD (a / 512) default = ⟨1, k, 0⟩ ∧ a % 512 % clsWords k = 0 ∧ a % 512 / clsWords k < clsCells k
instance (L : List Hd) (k a : Nat) : Decidable (isCell L k a) := by unfold isCell; infer_instance
def placedN (S : Dev) (L : List Hd) (a : Int) : Option Odec :=
 if a < 512 ∨ 512 * (L.length : Int) ≤ a ∨ (headN S a).code ≠ 0 then none
 else if small (objSize (headN S a).p (headN S a).d) then (if isCell L (ofN (objSize (headN S a).p (headN S a).d : Nat)) a.toNat then some (headN S a) else none)
 else if a.toNat % 512 = 0 ∧ wholeN L (a.toNat / 512) = objBlocks (objSize (headN S a).p (headN S a).d) then some (headN S a) else none
theorem placed_head {S : Dev} {L : List Hd} {a : Int} {o : Odec} (h : placedN S L a = some o) : headN S a = o ∧ o.code = 0 ∧ 512 ≤ a ∧ a < 512 * (L.length : Int) := by
 unfold placedN at h
 split at h
 ·cases h
 ·rename_i h0
  have hc : (headN S a).code = 0 := Decidable.byContradiction fun h => h0 (.inr (.inr h))
  split at h
  ·split at h
   ·cases h; exact ⟨rfl, hc, by omega, by omega⟩
   ·cases h
  ·split at h
   ·cases h; exact ⟨rfl, hc, by omega, by omega⟩
   ·cases h
def roomN (p d : Int) : Nat := if small (objSize p d) then clsWords (ofN (objSize p d : Nat) : Nat) else 512 * objBlocks (objSize p d)
theorem ofN_lt {n : Nat} (h : small n) : ofN (n : Int) < 32 := by
 unfold small at h
 obtain ⟨h1, h2⟩ := h
 unfold ofN
 have : (sizesL.findIdx fun s : Nat => decide ((n : Int) ≤ (s : Int))) < sizesL.length := by
  rw [List.findIdx_lt_length]
  refine ⟨256, by decide, ?_⟩
  simp; omega
 exact this
theorem ofN_fits {n : Nat} (h : small n) : n ≤ clsWords (ofN (n : Int) : Nat) := by
 have hl := ofN_lt h
 rw [clsWords_nat _ hl]
 have hl' : ofN (n : Int) < sizesL.length := hl
 have : decide ((n : Int) ≤ ((sizesL[ofN (n : Int)]'hl' : Nat) : Int)) = true := List.findIdx_getElem (w := hl')
 rw [List.getD_eq_getElem?_getD, List.getElem?_eq_getElem hl']
 simpa using this
theorem room_fits {p d : Int} (h : objSize p d ≠ 0) : objSize p d ≤ roomN p d := by
 unfold roomN
 by_cases hs : small (objSize p d)
 ·rw [if_pos hs]; exact ofN_fits hs
 ·rw [if_neg hs]
  unfold objBlocks
  rw [if_neg hs]; omega
theorem cell_in {k x : Nat} (hk : k < 32) (h1 : x % clsWords k = 0) (h2 : x / clsWords k < clsCells k) : x + clsWords k ≤ 512 := by
 have hp := clsWords_pos (k : Int) (by omega)
 unfold clsCells at h2
 generalize clsWords (k : Int) = W at *
 have e := Nat.div_add_mod x W
 have h3 := Nat.div_mul_le_self 512 W
 have h4 : (x / W + 1) * W ≤ 512 / W * W := Nat.mul_le_mul_right _ h2
 rw [Nat.add_mul, Nat.one_mul, Nat.mul_comm] at h4
 omega
theorem wholeN_fits {L : List Hd} {b : Nat} (h : wholeN L b ≠ 0) : b < L.length ∧ (L.getD b default).k = 2 ∧ ((wholeN L b : Nat) : Int) = (L.getD b default).l ∧ b + wholeN L b ≤ L.length ∧ ∀ i, 1 ≤ i → i < wholeN L b → L.getD (b + i) default = ⟨3, 0, i⟩ := by
 unfold wholeN at h ⊢
 by_cases c1 : L.length ≤ b ∨ (L.getD b default).k ≠ 2 ∨ (L.getD b default).l < 1 ∨ (L.length : Int) - b < (L.getD b default).l
 ·rw [if_pos c1] at h; exact absurd rfl h
 ·rw [if_neg c1] at h ⊢
  by_cases c2 : contTo L b (L.getD b default).l.toNat = true
  ·rw [if_pos c2] at h ⊢
   exact ⟨by omega, by omega, by omega, by omega, fun i h1 h2 => contTo_at c2 i h1 h2⟩
  ·rw [if_neg c2] at h; exact absurd rfl h
inductive RoomAt (L : List Hd) (a n : Nat) : Prop
 | cell (k : Nat) (hk : k < 32) (hc : isCell L k a) (hn : n = clsWords k)
 | run (m : Nat) (hb : a % 512 = 0) (h1 : 512 ≤ a) (hm : 1 ≤ m) (hw : wholeN L (a / 512) = m) (hn : n = 512 * m)
theorem placed_room {S : Dev} {L : List Hd} {a : Nat} {o : Odec} (h : placedN S L (a : Int) = some o) : RoomAt L a (roomN o.p o.d) := by
 obtain ⟨hh, _, h1, h2⟩ := placed_head h
 unfold placedN at h
 rw [hh] at h
 split at h
 ·cases h
 ·unfold roomN
  by_cases hs : small (objSize o.p o.d)
  ·rw [if_pos hs] at h ⊢
   split at h
   ·next hc => exact .cell _ (ofN_lt hs) hc rfl
   ·cases h
  ·rw [if_neg hs] at h ⊢
   split at h
   ·next hc =>
    refine .run _ hc.1 (by omega) ?_ hc.2 rfl
    have hw := hc.2
    unfold objBlocks
    rw [if_neg hs]
    have h0 : objSize o.p o.d ≠ 0 := by
     have := headN_code S (a : Int)
     rw [hh] at this
     rcases this with this | this
     ·exact this.2.2.2.1
     ·rename_i hb
      rw [this] at hb
      exact absurd (.inr (.inr (by simp))) hb
    omega
   ·cases h
theorem RoomAt.pos {L : List Hd} {a n : Nat} (h : RoomAt L a n) : 2 ≤ n ∧ 512 ≤ a ∧ a + n ≤ 512 * L.length := by
 rcases h with ⟨k, hk, hc, rfl⟩ | ⟨m, hb, h1, hm, hw, rfl⟩
 ·have hp := clsWords_pos (k : Int) (by omega)
  obtain ⟨c1, c2, c3, c4, c5⟩ := hc
  have := cell_in hk c4 c5
  exact ⟨hp, c1, by omega⟩
 ·have hf := wholeN_fits (L := L) (b := a / 512) (by omega)
  refine ⟨by omega, h1, ?_⟩
  have := hf.2.2.2.1
  rw [hw] at this
  omega
theorem RoomAt.apart {L : List Hd} {a n b m : Nat} (h : RoomAt L a n) (k : RoomAt L b m) (hab : a < b) : a + n ≤ b := by
 rcases h with ⟨i, hi, hc, rfl⟩ | ⟨x, hb, h1, hx, hw, rfl⟩
 ·obtain ⟨c1, c2, c3, c4, c5⟩ := hc
  have hf := cell_in hi c4 c5
  by_cases e : a / 512 = b / 512
  ·rcases k with ⟨j, hj, hd, rfl⟩ | ⟨y, hb', _, hy, hw', rfl⟩
   ·obtain ⟨d1, d2, d3, d4, d5⟩ := hd
    rw [← e, c3] at d3
    have hij : i = j := by
     have := congrArg Hd.c d3
     simp at this
     omega
    subst hij
    have hp := clsWords_pos (i : Int) (by omega)
    generalize clsWords (i : Int) = W at *
    have e1 := Nat.div_add_mod (a % 512) W
    have e2 := Nat.div_add_mod (b % 512) W
    have hlt : (a % 512) / W < (b % 512) / W := by
     apply Classical.byContradiction
     intro c
     have : W * ((b % 512) / W) ≤ W * ((a % 512) / W) := Nat.mul_le_mul_left _ (by omega)
     omega
    have : W * ((a % 512) / W + 1) ≤ W * ((b % 512) / W) := Nat.mul_le_mul_left _ hlt
    rw [Nat.mul_add, Nat.mul_one] at this
    omega
   ·have hf' := wholeN_fits (L := L) (b := b / 512) (by omega)
    rw [← e, c3] at hf'
    exact absurd hf'.2.1 (by simp)
  ·omega
 ·have hf := wholeN_fits (L := L) (b := a / 512) (by omega)
  rw [hw] at hf
  obtain ⟨g1, g2, g3, g4, g5⟩ := hf
  by_cases e : b / 512 < a / 512 + x
  ·exfalso
   by_cases e0 : b / 512 = a / 512
   ·rcases k with ⟨j, hj, hd, rfl⟩ | ⟨y, hb', _, hy, hw', rfl⟩
    ·obtain ⟨d1, d2, d3, d4, d5⟩ := hd
     rw [e0] at d3
     rw [d3] at g2
     exact absurd g2 (by simp)
    ·omega
   ·have := g5 (b / 512 - a / 512) (by omega) (by omega)
    rw [show a / 512 + (b / 512 - a / 512) = b / 512 by omega] at this
    rcases k with ⟨j, hj, hd, rfl⟩ | ⟨y, hb', _, hy, hw', rfl⟩
    ·obtain ⟨d1, d2, d3, d4, d5⟩ := hd
     rw [d3] at this
     have := congrArg Hd.k this
     exact absurd this (by simp)
    ·have hf' := wholeN_fits (L := L) (b := b / 512) (by omega)
     rw [this] at hf'
     exact absurd hf'.2.1 (by simp)
  ·omega
structure AlOk (B : Nat) (m : Al) : Prop where
 bm : BmOk B m.bm
 live : m.bm.dev.live
 len : m.bm.dev.cache.length = 512 * B
 lenU : m.used.length = 512 * B
 placed : ∀ a : Nat, m.used.getD a false = true → (placedN m.bm.dev m.bm.list (a : Int)).isSome = true
 cells : ∀ k a : Nat, k < 32 → m.fl.cnt k a = if isCell m.bm.list k a ∧ m.used.getD a false = false then 1 else 0
structure Grew (L L' : List Hd) : Prop where
 len : L'.length = L.length
 same : ∀ q, (L.getD q default).k ≠ 0 → L'.getD q default = L.getD q default
theorem Grew.refl (L : List Hd) : Grew L L := ⟨rfl, fun _ _ => rfl⟩
theorem isCell_kind {L : List Hd} {k a : Nat} (h : isCell L k a) : (L.getD (a / 512) default).k = 1 := by rw [h.2.2.1]
theorem Grew.cell {L L' : List Hd} (h : Grew L L') {k a : Nat} (hc : isCell L k a) : isCell L' k a := by
 have := h.same _ (by rw [isCell_kind hc]; decide)
 obtain ⟨c1, c2, c3, c4, c5⟩ := hc
 exact ⟨c1, by rw [h.len]; exact c2, by rw [this]; exact c3, c4, c5⟩
theorem wholeN_of {L : List Hd} {b m : Nat} (hm : 1 ≤ m) (h : L.getD b default = ⟨2, 0, m⟩) (hf : b + m ≤ L.length) (hc : ∀ i, 1 ≤ i → i < m → L.getD (b + i) default = ⟨3, 0, i⟩) : wholeN L b = m := by
 unfold wholeN
 rw [h]
 dsimp only
 rw [if_neg (by omega), Int.toNat_natCast, if_pos (contTo_of hc)]
theorem Grew.whole {L L' : List Hd} (h : Grew L L') {b m : Nat} (hm : 1 ≤ m) (hw : wholeN L b = m) : wholeN L' b = m := by
 have hf := wholeN_fits (L := L) (b := b) (by omega)
 rw [hw] at hf
 obtain ⟨f1, f2, f3, f4, f5⟩ := hf
 have hb := h.same b (by rw [f2]; decide)
 unfold wholeN
 rw [hb, h.len, if_neg (by omega), if_pos]
 ·omega
 ·refine contTo_of fun i h1 h2 => ?_
  have := f5 i h1 (by omega)
  rw [h.same _ (by rw [this]; simp), this]
theorem headN_same {S T : Dev} {a : Int} (hl : T.cache.length = S.cache.length) (hw : peek T.cache a = peek S.cache a) : headN T a = headN S a := by
 unfold headN; rw [hl, hw]
theorem placed_keep {S T : Dev} {L L' : List Hd} {a : Nat} {o : Odec} (h : placedN S L (a : Int) = some o) (hl : T.cache.length = S.cache.length) (hw : T.cache.getD a 0 = S.cache.getD a 0) (hg : Grew L L') : placedN T L' (a : Int) = some o := by
 have hh : headN T (a : Int) = headN S (a : Int) := headN_same hl (by rw [peek_in, peek_in]; exact hw)
 obtain ⟨e1, e0, h1, h2⟩ := placed_head h
 unfold placedN at h ⊢
 rw [e1, Int.toNat_natCast] at h
 rw [hh, e1, hg.len, Int.toNat_natCast]
 split at h
 ·cases h
 ·rename_i h0
  rw [if_neg h0]
  by_cases hs : small (objSize o.p o.d)
  ·rw [if_pos hs] at h ⊢
   split at h
   ·next hc => rw [if_pos (hg.cell hc)]
   ·cases h
  ·rw [if_neg hs] at h ⊢
   split at h
   ·next hc =>
    have hnz : 1 ≤ objBlocks (objSize o.p o.d) := by
     unfold objBlocks
     rw [if_neg hs]
     have := headN_code S (a : Int)
     rw [e1] at this
     rcases this with this | this
     ·have := this.2.2.2.1; omega
     ·rw [this] at e0; cases e0
    rw [if_pos ⟨hc.1, hg.whole hnz hc.2⟩]
   ·cases h
structure AlR where
 al : Al
 a : Int
 err : Int
def Al.take (m : Al) (bm : Bm) (f : FL) (mu k : Nat) : AlR :=
 if (f.cell mu k).isSome then ⟨⟨bm, m.used, f.taken mu k⟩, ((f.cell mu k).getD 0 : Nat), 0⟩ else ⟨⟨bm, m.used, f⟩, 0, 4⟩
def FL.owner (S : FL) (k : Nat) : Option Nat := if S.c 0 k ≠ [] then some 0 else if S.c 1 k ≠ [] then some 1 else if S.c 2 k ≠ [] then some 2 else if S.c 3 k ≠ [] then some 3 else none
def cellOf (b k i : Nat) : Nat := 512 * b + i * clsWords k
def Al.carved (m : Al) (b k : Nat) : FL := m.fl.carve (fun a => m.used.getD a false) (cellOf b k) k (clsCells k)
def Al.steal (m : Al) (bm : Bm) (mu k : Nat) : AlR :=
 match m.fl.owner k with
 | some i => m.take bm (m.fl.drain i) mu k
 | none => ⟨⟨bm, m.used, m.fl⟩, 0, 4⟩
def Al.roomS (m : Al) (mu k : Nat) : AlR :=
 if (m.fl.cell mu k).isSome then m.take m.bm m.fl mu k
 else if (m.bm.small k).err = 0 then m.take (m.bm.small k).bm (m.carved (m.bm.small k).b.toNat k) mu k
 else if (m.bm.small k).err ≠ 4 then ⟨⟨(m.bm.small k).bm, m.used, m.fl⟩, 0, (m.bm.small k).err⟩
 else m.steal (m.bm.small k).bm mu k
def Al.roomL (m : Al) (n : Nat) : AlR :=
 if (m.bm.large n).err ≠ 0 then ⟨⟨(m.bm.large n).bm, m.used, m.fl⟩, 0, (m.bm.large n).err⟩
 else ⟨⟨(m.bm.large n).bm, m.used, m.fl⟩, 512 * (m.bm.large n).b, 0⟩
def Al.room (m : Al) (mu : Nat) (n : Nat) : AlR := if small n then m.roomS mu (ofN n) else m.roomL (objBlocks n)
def Al.made (m : Al) (a p d : Int) : AlR :=
 if (m.bm.dev.init a p d).err ≠ 0 then ⟨⟨⟨(m.bm.dev.init a p d).dev, m.bm.list, m.bm.free⟩, m.used, m.fl⟩, 0, (m.bm.dev.init a p d).err⟩
 else ⟨⟨⟨(m.bm.dev.init a p d).dev, m.bm.list, m.bm.free⟩, addI m.used a, m.fl⟩, a, 0⟩
def Al.alloc (m : Al) (mu p d : Int) : AlR :=
 if mu < 0 ∨ 4 ≤ mu then ⟨m, 0, 1⟩
 else if objSize p d = 0 ∨ 512 * ((m.bm.list.length : Int) - 1) < (objSize p d : Nat) then ⟨m, 0, 5⟩
 else if (m.room mu.toNat (objSize p d)).err ≠ 0 then ⟨(m.room mu.toNat (objSize p d)).al, 0, (m.room mu.toNat (objSize p d)).err⟩
 else (m.room mu.toNat (objSize p d)).al.made (m.room mu.toNat (objSize p d)).a p d
structure Found (B : Nat) (m : Al) (n : Nat) (r : AlR) (a : Nat) : Prop where
 at_ : r.a = (a : Int)
 err : r.err = 0
 bm : BmOk B r.al.bm
 live : r.al.bm.dev.live
 far : Far B m.bm.dev r.al.bm.dev
 grew : Grew m.bm.list r.al.bm.list
 used : r.al.used = m.used
 new : m.used.getD a false = false
 cells : ∀ k x : Nat, k < 32 → r.al.fl.cnt k x = if isCell r.al.bm.list k x ∧ m.used.getD x false = false ∧ x ≠ a then 1 else 0
 where_ : if small n then isCell r.al.bm.list (ofN (n : Int)) a else (a % 512 = 0 ∧ 512 ≤ a ∧ a < 512 * B ∧ wholeN r.al.bm.list (a / 512) = objBlocks n)
structure NoRoom (m : Al) (n : Nat) : Prop where
 cell : small n → pick 1 (runsOf m.bm.free) = none ∧ ∀ x, m.fl.cnt (ofN (n : Int)) x = 0
 run : ¬ small n → pick (objBlocks n) (runsOf m.bm.free) = none
variable {B : Nat} {m : Al}
theorem AlOk.used_kind (h : AlOk B m) {a : Nat} (hu : m.used.getD a false = true) : 512 ≤ a ∧ a / 512 < B ∧ (m.bm.list.getD (a / 512) default).k ≠ 0 := by
 have hp := h.placed a hu
 obtain ⟨o, ho⟩ := Option.isSome_iff_exists.1 hp
 have hr := placed_room ho
 obtain ⟨p1, p2, p3⟩ := hr.pos
 rw [h.bm.lenL] at p3
 refine ⟨p2, by omega, ?_⟩
 rcases hr with ⟨k, hk, hc, _⟩ | ⟨x, hb, h1, hx, hw, _⟩
 ·rw [isCell_kind hc]; decide
 ·have := wholeN_fits (L := m.bm.list) (b := a / 512) (by omega)
  rw [this.2.1]; decide
theorem take_found (h : AlOk B m) {mu k : Nat} (hmu : mu < 4) (hk : k < 32) {bm : Bm} {f : FL} (hb : BmOk B bm) (hv : bm.dev.live) (hf : Far B m.bm.dev bm.dev) (hg : Grew m.bm.list bm.list)
  (hc : ∀ j x : Nat, j < 32 → f.cnt j x = if isCell bm.list j x ∧ m.used.getD x false = false then 1 else 0) {x : Nat} (hx : f.cell mu k = some x) :
  m.take bm f mu k = ⟨⟨bm, m.used, f.taken mu k⟩, (x : Int), 0⟩ ∧ isCell bm.list k x ∧ m.used.getD x false = false ∧
  ∀ j y : Nat, j < 32 → (f.taken mu k).cnt j y = if isCell bm.list j y ∧ m.used.getD y false = false ∧ y ≠ x then 1 else 0 := by
 have ht := FL.taken_cnt hmu hx
 have h1 := ht k x
 rw [if_pos ⟨rfl, rfl⟩, hc k x hk] at h1
 have hcx : isCell bm.list k x ∧ m.used.getD x false = false := by
  apply Classical.byContradiction
  intro c
  rw [if_neg c] at h1
  omega
 refine ⟨by unfold Al.take; rw [hx]; rfl, hcx.1, hcx.2, fun j y hj => ?_⟩
 have h2 := ht j y
 rw [hc j y hj] at h2
 by_cases e : y = x
 ·subst e
  rw [if_neg (c := isCell bm.list j y ∧ _) (fun c => c.2.2 rfl)]
  by_cases ej : j = k
  ·subst ej
   rw [if_pos hcx, if_pos ⟨rfl, rfl⟩] at h2
   omega
  ·rw [if_neg (c := j = k ∧ y = y) (fun c => ej c.1), if_neg] at h2
   ·omega
   ·rintro ⟨c, _⟩
    have e1 := hcx.1.2.2.1
    rw [c.2.2.1] at e1
    have := congrArg Hd.c e1
    simp at this
    omega
 ·rw [if_neg (c := j = k ∧ y = x) (fun c => e c.2), Nat.add_zero] at h2
  rw [← h2]
  simp only [ne_eq, e, not_false_eq_true, and_true]
theorem carve_c {used : Nat → Bool} {at_ : Nat → Nat} {k : Nat} : ∀ {n : Nat} {S : FL}, (S.carve used at_ k n).c = S.c
 | 0, _ => rfl
 | n + 1, S => by
  unfold FL.carve
  rw [carve_c]
  split
  ·rfl
  ·unfold FL.pushed
   split
   ·rfl
   ·rfl
theorem cellOf_inj {b k : Nat} (hk : k < 32) : ∀ i j, cellOf b k i = cellOf b k j → i = j := by
 intro i j h
 have hp := clsWords_pos (k : Int) (by omega)
 unfold cellOf at h
 have : i * clsWords (k : Int) = j * clsWords (k : Int) := by omega
 exact Nat.eq_of_mul_eq_mul_right (by omega) this
theorem cellOf_at {b k i : Nat} (hk : k < 32) (hi : i < clsCells k) : cellOf b k i / 512 = b ∧ cellOf b k i % 512 = i * clsWords k ∧ (i * clsWords k) % clsWords k = 0 ∧ (i * clsWords k) / clsWords k = i := by
 have hp := clsWords_pos (k : Int) (by omega)
 have h1 : (i * clsWords (k : Int)) % clsWords k = 0 := Nat.mul_mod_left _ _
 have h2 : (i * clsWords (k : Int)) / clsWords k = i := Nat.mul_div_cancel _ (by omega)
 have := cell_in hk h1 (by rw [h2]; exact hi)
 unfold cellOf
 exact ⟨by omega, by omega, h1, h2⟩
theorem isCell_of {L : List Hd} {b k x : Nat} (hk : k < 32) (hb : 1 ≤ b) (hbL : b < L.length) (hL : L.getD b default = ⟨1, k, 0⟩) : isCell L k x ∧ x / 512 = b ↔ ∃ i, i < clsCells k ∧ x = cellOf b k i := by
 constructor
 ·rintro ⟨⟨c1, c2, c3, c4, c5⟩, e⟩
  refine ⟨x % 512 / clsWords k, c5, ?_⟩
  unfold cellOf
  have := Nat.div_add_mod (x % 512) (clsWords k)
  rw [c4, Nat.mul_comm] at this
  omega
 ·rintro ⟨i, hi, rfl⟩
  obtain ⟨e1, e2, e3, e4⟩ := cellOf_at (b := b) hk hi
  exact ⟨⟨by omega, by omega, by rw [e1]; exact hL, by rw [e2]; exact e3, by rw [e2, e4]; exact hi⟩, e1⟩
theorem clsCells_two {k : Nat} (hk : k < 32) : 2 ≤ clsCells k := by
 have h1 := clsWords_pos (k : Int) (by omega)
 have h2 := clsWords_le (k : Int)
 unfold clsCells
 rw [Nat.le_div_iff_mul_le (by omega)]
 omega
theorem carved_cells (h : AlOk B m) {b k : Nat} (hk : k < 32) (hb : 1 ≤ b) (hbB : b < B) (hz : (m.bm.list.getD b default).k = 0) {L : List Hd} (hlen : L.length = B) (hL : ∀ q, L.getD q default = if q = b then ⟨1, k, 0⟩ else m.bm.list.getD q default) :
  ∀ j x : Nat, j < 32 → (m.carved b k).cnt j x = if isCell L j x ∧ m.used.getD x false = false then 1 else 0 := by
 have hno : ∀ x, x / 512 = b → m.used.getD x false = false := by
  intro x hx
  cases hu : m.used.getD x false with
  | false => rfl
  | true => have := (h.used_kind hu).2.2; rw [hx] at this; exact absurd hz this
 have hnc : ∀ j x, x / 512 = b → ¬ isCell m.bm.list j x := fun j x hx c => by
  have := isCell_kind c; rw [hx, hz] at this; cases this
 have hLb : L.getD b default = ⟨1, k, 0⟩ := by rw [hL b, if_pos rfl]
 intro j x hj
 unfold Al.carved
 rw [FL.carve_cnt (cellOf_inj hk) (fun i hi => by
  rw [h.cells k _ hk, if_neg]
  rintro ⟨c, _⟩
  exact hnc k _ (cellOf_at hk hi).1 c) j x, h.cells j x hj]
 by_cases e : x / 512 = b
 ·rw [if_neg (fun c => hnc j x e c.1), Nat.zero_add]
  have key := isCell_of (x := x) hk hb (by rw [hlen]; exact hbB) hLb
  by_cases ej : j = k
  ·subst ej
   by_cases c : ∃ i, i < clsCells j ∧ x = cellOf b j i
   ·rw [if_pos ⟨rfl, hno x e, c⟩, if_pos ⟨(key.2 c).1, hno x e⟩]
   ·rw [if_neg (fun h => c h.2.2), if_neg (fun h => c (key.1 ⟨h.1, e⟩))]
  ·rw [if_neg (fun h => ej h.1), if_neg]
   rintro ⟨⟨_, _, c3, _⟩, _⟩
   rw [e, hLb] at c3
   have := congrArg Hd.c c3
   simp at this
   omega
 ·have hc : isCell L j x ↔ isCell m.bm.list j x := by
   unfold isCell
   rw [hL (x / 512), if_neg e, hlen, h.bm.lenL]
  have hn : ¬ (j = k ∧ m.used.getD x false = false ∧ ∃ i, i < clsCells k ∧ x = cellOf b k i) := by
   rintro ⟨_, _, i, hi, rfl⟩
   exact e (cellOf_at hk hi).1
  rw [if_neg hn, Nat.add_zero]
  simp only [hc]
theorem roomS_found (h : AlOk B m) {mu n : Nat} (hmu : mu < 4) (hs : small n) :
  (∃ a, Found B m n (m.room mu n) a) ∨ (m.room mu n = ⟨m, 0, 4⟩ ∧ NoRoom m n) := by
 have hk := ofN_lt hs
 unfold Al.room
 rw [if_pos hs]
 generalize hke : ofN (n : Int) = k at *
 unfold Al.roomS
 cases hc : m.fl.cell mu k with
 | some x =>
  rw [if_pos (by rfl)]
  obtain ⟨t1, t2, t3, t4⟩ := take_found h hmu hk h.bm h.live (Far.refl _ _) (Grew.refl _) h.cells hc
  rw [t1]
  exact .inl ⟨x, rfl, rfl, h.bm, h.live, Far.refl _ _, Grew.refl _, rfl, t3, t4, by rw [if_pos hs, hke]; exact t2⟩
 | none =>
  rw [if_neg (by simp)]
  rcases small_live h.bm h.live k hk with ⟨e, hp⟩ | ⟨b, s1, s2, s3, s4, s5, s6, s7, s8, s9, s10, s11⟩
  ·rw [e]
   rw [if_neg (by simp), if_neg (by simp)]
   obtain ⟨g0, c0⟩ := FL.cell_none hc
   unfold Al.steal
   cases ho : m.fl.owner k with
   | none =>
    refine .inr ⟨rfl, fun _ => ⟨hp, fun x => ?_⟩, fun h => absurd hs h⟩
    rw [hke]
    unfold FL.owner at ho
    repeat' split at ho
    all_goals try cases ho
    rename_i h0 h1 h2 h3
    simp only [ne_eq, Decidable.not_not] at h0 h1 h2 h3
    unfold FL.cnt
    rw [g0, h0, h1, h2, h3]
    simp
   | some i =>
    have hi : i < 4 ∧ m.fl.c i k ≠ [] := by
     unfold FL.owner at ho
     repeat' split at ho
     all_goals cases ho
     all_goals exact ⟨by omega, by assumption⟩
    have hcd : ∀ j x : Nat, j < 32 → (m.fl.drain i).cnt j x = if isCell m.bm.list j x ∧ m.used.getD x false = false then 1 else 0 := fun j x hj => by
     rw [FL.drain_cnt _ hi.1 hj]; exact h.cells j x hj
    cases hcx : (m.fl.drain i).cell mu k with
    | none =>
     exfalso
     have := (FL.cell_none hcx).1
     unfold FL.drain at this
     dsimp only at this
     rw [if_pos hk] at this
     exact hi.2 (List.append_eq_nil_iff.1 this).2
    | some x =>
     obtain ⟨t1, t2, t3, t4⟩ := take_found h hmu hk h.bm h.live (Far.refl _ _) (Grew.refl _) hcd hcx
     dsimp only
     rw [t1]
     exact .inl ⟨x, rfl, rfl, h.bm, h.live, Far.refl _ _, Grew.refl _, rfl, t3, t4, by rw [if_pos hs, hke]; exact t2⟩
  ·rw [if_pos s2, s1, Int.toNat_natCast]
   have hz := ((h.bm.free b).1 s5).2.2
   have hcd := carved_cells h hk s3 s4 hz s6.lenL s9
   have hg : Grew m.bm.list (m.bm.small (k : Int)).bm.list := ⟨by rw [s6.lenL, h.bm.lenL], fun q hq => by
    rw [s9 q, if_neg]
    intro e
    rw [e] at hq
    exact hq hz⟩
   cases hcx : (m.carved b k).cell mu k with
   | none =>
    exfalso
    obtain ⟨g1, g2⟩ := FL.cell_none hcx
    have hb : isCell (m.bm.small (k : Int)).bm.list k (cellOf b k 0) := ((isCell_of (x := cellOf b k 0) hk s3 (by rw [s6.lenL]; exact s4) (by rw [s9 b, if_pos rfl])).2 ⟨0, by have := clsCells_two hk; omega, rfl⟩).1
    have hu : m.used.getD (cellOf b k 0) false = false := by
     cases hu : m.used.getD (cellOf b k 0) false with
     | false => rfl
     | true =>
      have := (h.used_kind hu).2.2
      rw [(cellOf_at hk (by have := clsCells_two hk; omega)).1] at this
      exact absurd hz this
    have h1 := hcd k (cellOf b k 0) hk
    rw [if_pos ⟨hb, hu⟩] at h1
    have h0 := h.cells k (cellOf b k 0) hk
    rw [if_neg (fun c => by
     have := isCell_kind c.1
     rw [(cellOf_at hk (by have := clsCells_two hk; omega)).1, hz] at this
     cases this)] at h0
    have hce : (m.carved b k).c = m.fl.c := carve_c
    unfold FL.cnt at h1 h0
    rw [g1, hce] at h1
    simp only [List.count_nil] at h1
    omega
   | some x =>
    obtain ⟨t1, t2, t3, t4⟩ := take_found h hmu hk s6 s7 s8 hg hcd hcx
    rw [t1]
    exact .inl ⟨x, rfl, rfl, s6, s7, s8, hg, rfl, t3, t4, by rw [if_pos hs, hke]; exact t2⟩
theorem roomL_found (h : AlOk B m) (hB : B ≤ 200) {mu n : Nat} (hs : ¬ small n) (h1 : 1 ≤ n) (hn : n ≤ 16448) :
  (∃ a, Found B m n (m.room mu n) a) ∨ (m.room mu n = ⟨m, 0, 4⟩ ∧ NoRoom m n) := by
 unfold Al.room
 rw [if_neg hs]
 have hnb : 1 ≤ objBlocks n ∧ objBlocks n < 256 := by
  unfold objBlocks
  rw [if_neg hs]
  omega
 unfold Al.roomL
 rcases large_live h.bm h.live (objBlocks n) hnb.1 hnb.2 with ⟨e, hp⟩ | ⟨b, s1, s2, s3, s4, s5, s6, s7, s8, s9, s10, s11⟩
 ·rw [e, if_pos (by simp)]
  exact .inr ⟨rfl, fun h => absurd h hs, fun _ => hp⟩
 ·rw [if_neg (by rw [s2]; simp), s1]
  have hfk : ∀ q, b ≤ q → q < b + objBlocks n → (m.bm.list.getD q default).k = 0 := fun q h1 h2 => ((h.bm.free q).1 (s5 q h1 h2)).2.2
  have hg : Grew m.bm.list (m.bm.large (objBlocks n : Nat)).bm.list := ⟨by rw [s6.lenL, h.bm.lenL], fun q hq => by
   rw [s9 q, if_neg, if_neg]
   ·intro c; exact hq (hfk q c.1 c.2)
   ·intro e; exact hq (hfk q (by omega) (by omega))⟩
  have hLb := s9 b
  rw [if_pos rfl] at hLb
  refine .inl ⟨512 * b, by dsimp only; omega, rfl, s6, s7, s8, hg, rfl, ?_, fun k x hk => ?_, ?_⟩
  ·cases hu : m.used.getD (512 * b) false with
   | false => rfl
   | true =>
    have := (h.used_kind hu).2.2
    rw [show 512 * b / 512 = b by omega] at this
    exact absurd (hfk b (Nat.le_refl _) (by omega)) this
  ·dsimp only
   rw [h.cells k x hk]
   have hc : isCell (m.bm.large (objBlocks n : Nat)).bm.list k x ↔ isCell m.bm.list k x := by
    constructor
    ·intro c
     have c3 := c.2.2.1
     rw [s9 (x / 512)] at c3
     by_cases e : x / 512 = b
     ·rw [if_pos e] at c3; exact absurd (congrArg Hd.k c3) (by simp)
     ·rw [if_neg e] at c3
      by_cases e2 : b ≤ x / 512 ∧ x / 512 < b + objBlocks n
      ·rw [if_pos e2] at c3; exact absurd (congrArg Hd.k c3) (by simp)
      ·rw [if_neg e2] at c3
       obtain ⟨c1, c2, _, c4, c5⟩ := c
       exact ⟨c1, by rw [← hg.len]; exact c2, c3, c4, c5⟩
    ·exact hg.cell
   simp only [hc]
   by_cases e : x = 512 * b
   ·subst e
    have : ¬ isCell m.bm.list k (512 * b) := fun c => by
     have := isCell_kind c
     rw [show 512 * b / 512 = b by omega, hfk b (Nat.le_refl _) (by omega)] at this
     cases this
    rw [if_neg (fun c => this c.1), if_neg (fun c => this c.1)]
   ·simp only [e, ne_eq, not_false_eq_true, and_true]
  ·rw [if_neg hs]
   refine ⟨by omega, by omega, by omega, ?_⟩
   rw [show 512 * b / 512 = b by omega]
   refine wholeN_of hnb.1 hLb (by rw [s6.lenL]; omega) fun i i1 i2 => ?_
   rw [s9 (b + i), if_neg (by omega), if_pos (by omega), show b + i - b = i by omega]
theorem store_dirty {S : Dev} (i : Nat) (x l : Nat) (h : l ≠ i / 8) : (S.store (i : Int) x).dirty.getD l false = S.dirty.getD l false := by
 obtain ⟨_, _, _, e4, _⟩ := S.step_rest
 unfold Dev.store
 split
 ·rfl
 ·split
  ·rw [e4]
  ·show (S.step.dirty.set ((i : Int).toNat / 8) true).getD l false = _
   rw [e4, List.getD_eq_getElem?_getD, List.getElem?_set_ne (by rw [Int.toNat_natCast]; exact fun e => h e.symm), ← List.getD_eq_getElem?_getD]
theorem zeroTo_dirty {S : Dev} (a l : Nat) (h : l < a / 8) : ∀ k, (zeroTo S a k).dev.dirty.getD l false = S.dirty.getD l false
 | 0 => rfl
 | k + 1 => by
  unfold zeroTo
  split
  ·exact zeroTo_dirty a l h k
  ·dsimp only
   rw [store_dirty _ _ _ (by omega)]
   exact zeroTo_dirty a l h k
theorem init_rest {S : Dev} (h : S.live) (hi : S.inv) (a : Nat) (p d : Int) (hs : objSize p d ≠ 0) (hf : a + objSize p d ≤ S.cache.length) :
  (S.init a p d).dev.cache.length = S.cache.length ∧ (∀ j, ¬ (a ≤ j ∧ j < a + objSize p d) → (S.init a p d).dev.cache.getD j 0 = S.cache.getD j 0) ∧ ∀ l, l < a / 8 → (S.init a p d).dev.dirty.getD l false = S.dirty.getD l false := by
 have hE : S.init a p d = S.initN a (objSize p d) (oencN a p d) := by unfold Dev.init; rw [if_neg hs, if_neg (by omega)]; rfl
 rw [hE]
 obtain ⟨i1, i2, i3, i4, i5⟩ := zeroTo_live h hi a (objSize p d - 1) (by omega)
 have hI : S.initN a (objSize p d) (oencN a p d) = ⟨(zeroTo S a (objSize p d - 1)).dev.store (a : Int) (oencN a p d), (zeroTo S a (objSize p d - 1)).dev.storeE (a : Int)⟩ := by unfold Dev.initN; rw [if_neg (by rw [i1]; simp)]
 rw [hI]
 have hzd := fun l hl => zeroTo_dirty (S := S) a l hl (objSize p d - 1)
 generalize (zeroTo S a (objSize p d - 1)).dev = T at *
 obtain ⟨s1, s2⟩ := i2.store_ok a (oencN (a : Int) p d) (by omega)
 refine ⟨by dsimp only; rw [s2]; simp [i4], fun j hj => ?_, fun l hl => ?_⟩
 ·dsimp only
  rw [s2, getD_setN _ _ _ _ (by omega), if_neg (by omega), i5 j, if_neg (by omega)]
 ·dsimp only
  rw [store_dirty _ _ _ (by omega)]; exact hzd l hl
theorem BmOk.words {B : Nat} {m : Bm} (h : BmOk B m) (hB : B ≤ 200) {T : Dev} (hi : T.inv) (hl : T.cache.length = m.dev.cache.length) (hw : ∀ j, j < 512 → T.cache.getD j 0 = m.dev.cache.getD j 0) (hd : ∀ l, l < 64 → T.dirty.getD l false = m.dev.dirty.getD l false) : BmOk B ⟨T, m.list, m.free⟩ := by
 refine ⟨h.lenL, h.lenF, ⟨hi, by rw [hl]; exact h.clean.fits, fun b h1 h2 => ?_⟩, h.right, fun b h1 h2 => ?_, h.free, h.large⟩
 ·rw [hd _ (by omega)]; exact h.clean.clean b h1 h2
 ·dsimp only
  rw [hw _ (by omega)]; exact h.word b h1 h2
structure Made (B : Nat) (m m' : Al) (a : Nat) (p d : Int) : Prop where
 ok : AlOk B m'
 new : m.used.getD a false = false
 used : m'.used = m.used.set a true
 lo : 512 ≤ a
 placed : placedN m'.bm.dev m'.bm.list (a : Int) = some ⟨p, d, 0⟩
 size : objSize p d ≠ 0
 zero : ∀ i, 1 ≤ i → i < objSize p d → m'.bm.dev.cache.getD (a + i) 0 = 0
 old : ∀ j, 512 ≤ j → ¬ (a ≤ j ∧ j < a + objSize p d) → m'.bm.dev.cache.getD j 0 = m.bm.dev.cache.getD j 0
 grew : Grew m.bm.list m'.bm.list
variable {B : Nat} {m : Al}
theorem addI_new {l : List Bool} {a : Nat} (ha : a < l.length) (h : l.getD a false = false) : addI l (a : Int) = l.set a true := by
 unfold addI freshI
 rw [hasI_nat, h, if_pos]
 ·rfl
 ·simp; omega
theorem Found.apart {n a : Nat} {r : AlR} (h : AlOk B m) (hB : B ≤ 200) (hf : Found B m n r a) {L : List Hd} (hL : L = r.al.bm.list) {k : Nat} (hn : n ≤ k) (hr : RoomAt L a k) {x : Nat} (hu : m.used.getD x false = true) : x < a ∨ a + n ≤ x := by
 subst hL
 obtain ⟨o, ho⟩ := Option.isSome_iff_exists.1 (h.placed x hu)
 have hx := placed_room (placed_keep ho hf.far.len (hf.far.word x (by have := (h.used_kind hu).1; omega)) hf.grew)
 by_cases e : x < a
 ·exact .inl e
 ·by_cases e2 : x = a
  ·subst e2; rw [hf.new] at hu; cases hu
  ·have := hr.apart hx (by omega)
   omega
theorem Found.room {n a : Nat} {r : AlR} (h : AlOk B m) (hf : Found B m n r a) (hn : n ≠ 0) : ∃ k, n ≤ k ∧ RoomAt r.al.bm.list a k := by
 have hw := hf.where_
 by_cases hs : small n
 ·rw [if_pos hs] at hw
  exact ⟨_, ofN_fits hs, .cell _ (ofN_lt hs) hw rfl⟩
 ·rw [if_neg hs] at hw
  obtain ⟨h1, h2, h3, h4⟩ := hw
  refine ⟨512 * objBlocks n, ?_, .run _ h1 h2 ?_ h4 rfl⟩
  ·unfold objBlocks; rw [if_neg hs]; omega
  ·unfold objBlocks; rw [if_neg hs]; omega
theorem made_done (h : AlOk B m) (hB : B ≤ 200) {a : Nat} {p d : Int} {r : AlR} (hs : objSize p d ≠ 0) (hf : Found B m (objSize p d) r a) :
  ∃ m', r.al.made r.a p d = ⟨m', (a : Int), 0⟩ ∧ Made B m m' a p d := by
 obtain ⟨rm, hrk, hra⟩ := hf.room h hs
 obtain ⟨q1, q2, q3⟩ := hra.pos
 have hlenL := hf.bm.lenL
 rw [hlenL] at q3
 have hlen : r.al.bm.dev.cache.length = 512 * B := by rw [hf.far.len, h.len]
 have hinv := hf.bm.clean.inv
 obtain ⟨k1, k2⟩ := init_kept hf.live hinv a p d hs (by omega)
 obtain ⟨r1, r2, r3⟩ := init_rest hf.live hinv a p d hs (by omega)
 have hha := hf.at_
 have hnew := hf.new
 have hadd : addI r.al.used (a : Int) = m.used.set a true := by rw [hf.used]; exact addI_new (by rw [h.lenU]; omega) hnew
 refine ⟨⟨⟨(r.al.bm.dev.init a p d).dev, r.al.bm.list, r.al.bm.free⟩, m.used.set a true, r.al.fl⟩, ?_, ?_⟩
 ·unfold Al.made
  rw [hha, if_neg (by rw [k1]; simp), hadd]
 have hbm := hf.bm.words hB k2.inv r1 (fun j hj => r2 j (by omega)) (fun l hl => r3 l (by omega))
 have hhd := k2.headN
 have hpl : placedN (r.al.bm.dev.init a p d).dev r.al.bm.list (a : Int) = some ⟨p, d, 0⟩ := by
  unfold placedN
  rw [hhd, hlenL, if_neg (by dsimp only; omega)]
  dsimp only
  have hw := hf.where_
  by_cases hsm : small (objSize p d)
  ·rw [if_pos hsm] at hw
   rw [if_pos hsm, if_pos (by rw [Int.toNat_natCast]; exact hw)]
  ·rw [if_neg hsm] at hw
   rw [if_neg hsm, if_pos (by rw [Int.toNat_natCast]; exact ⟨hw.1, hw.2.2.2⟩)]
 have hgd : ∀ x, (m.used.set a true).getD x false = if x = a then true else m.used.getD x false := fun x => getD_set_bool _ _ _ _ (by rw [h.lenU]; omega)
 refine ⟨⟨hbm, k2.live, by dsimp only; rw [r1, hlen], by simp [h.lenU], fun x hx => ?_, fun k x hk => ?_⟩, hnew, rfl, q2, hpl, hs, fun i i1 i2 => ?_, fun j j1 j2 => ?_, hf.grew⟩
 ·dsimp only at hx ⊢
  rw [hgd] at hx
  by_cases e : x = a
  ·subst e; rw [hpl]; rfl
  ·rw [if_neg e] at hx
   obtain ⟨o, ho⟩ := Option.isSome_iff_exists.1 (h.placed x hx)
   have hap := hf.apart h hB rfl hrk hra hx
   have hx5 := h.used_kind hx
   have := placed_keep (T := (r.al.bm.dev.init a p d).dev) ho (by rw [r1, hlen, h.len]) (by rw [r2 x (by omega), hf.far.word x (by omega)]) hf.grew
   rw [this]; rfl
 ·dsimp only
  rw [hf.cells k x hk, hgd]
  by_cases e : x = a
  ·subst e; simp
  ·simp [e]
 ·have := k2.words (i - 1) (by simp; omega)
  dsimp only
  rw [show a + 1 + (i - 1) = a + i by omega] at this
  rw [this]
  simp only [List.getD_eq_getElem?_getD, List.getElem?_replicate]
  split <;> rfl
 ·dsimp only
  rw [r2 j j2, hf.far.word j (by omega)]
theorem alloc_done (h : AlOk B m) (hB : B ≤ 200) {mu p d : Int} (h0 : 0 ≤ mu) (h4 : mu < 4) (hs : objSize p d ≠ 0) (hm : (objSize p d : Int) ≤ 512 * ((B : Int) - 1)) :
  (∃ m' a, m.alloc mu p d = ⟨m', ((a : Nat) : Int), 0⟩ ∧ Made B m m' a p d) ∨ (m.alloc mu p d = ⟨m, 0, 4⟩ ∧ NoRoom m (objSize p d)) := by
 unfold Al.alloc
 rw [if_neg (by omega), h.bm.lenL, if_neg (by omega)]
 have hr : (∃ a, Found B m (objSize p d) (m.room mu.toNat (objSize p d)) a) ∨ (m.room mu.toNat (objSize p d) = ⟨m, 0, 4⟩ ∧ NoRoom m (objSize p d)) := by
  by_cases hsm : small (objSize p d)
  ·exact roomS_found h (by omega) hsm
  ·exact roomL_found h hB hsm (by omega) (objSize_le _ _)
 rcases hr with ⟨a, hf⟩ | ⟨e, hn⟩
 ·left
  rw [if_neg (by rw [hf.err]; simp)]
  obtain ⟨m', e, hm'⟩ := made_done h hB hs hf
  exact ⟨m', a, e, hm'⟩
 ·right
  rw [e, if_pos (by simp)]
  exact ⟨rfl, hn⟩
theorem Made.others {m' : Al} {a : Nat} {p d : Int} (h : AlOk B m) (hm : Made B m m' a p d) {x : Nat} (hu : m.used.getD x false = true) : m'.used.getD x false = true ∧ placedN m'.bm.dev m'.bm.list (x : Int) = placedN m.bm.dev m.bm.list (x : Int) := by
 have hxa : x ≠ a := fun e => by subst e; rw [hm.new] at hu; cases hu
 have hal : a < m.used.length := by
  have h1 := placed_room hm.placed
  have := h1.pos.2.2
  rw [hm.ok.bm.lenL] at this
  have := h1.pos.1
  rw [h.lenU]; omega
 have hux : m'.used.getD x false = true := by rw [hm.used, getD_set_bool _ _ _ _ hal, if_neg hxa]; exact hu
 refine ⟨hux, ?_⟩
 obtain ⟨o, ho⟩ := Option.isSome_iff_exists.1 (h.placed x hu)
 obtain ⟨o', ho'⟩ := Option.isSome_iff_exists.1 (hm.ok.placed x hux)
 have r1 := placed_room ho'
 have r2 := placed_room hm.placed
 have hf := room_fits hm.size
 have hap : x < a ∨ a + objSize p d ≤ x := by
  by_cases e : x < a
  ·exact .inl e
  ·have := r2.apart r1 (by omega)
   dsimp only at this
   omega
 have := placed_keep (T := m'.bm.dev) (L' := m'.bm.list) ho (by rw [hm.ok.len, h.len]) (hm.old x (h.used_kind hu).1 (by omega)) hm.grew
 rw [ho, this]
end Go.Proofs.YtpopbfagliagnaaGreat
namespace Go.Proofs.YtpopbfagliagnaaGreat
open Go.RowKit
def blockOf (B a : Int) : Int := if a < 0 ∨ B * 512 ≤ a then -1 else a / 512
set_option maxHeartbeats 1000000 in
theorem gblockOf_any (B : Nat) (hB : B ≤ 1000) (a : Int) (w : World) : Calls Tryz.prog 169 #[vgeom (B : Int), .int .i64 a] w fun e w' => e = .returned (.int .i64 (blockOf (B : Int) a)) ∧ Below w.heap.size w w' := by
 have HB := LH (below_alloc w (Obj.cells #[.int .i64 (B : Int)] 44))
 have c0 : (w.alloc (Obj.cells #[.int .i64 (B : Int)] 44)).cell? ⟨w.heap.size, 0, none⟩ = some (.int .i64 (B : Int)) := cell_alloc_new _ _ _ 0 _ rfl
 by_cases h1 : a < 0
 ·have HE : Hid (blockOf (B : Int) a = -1) := LH (by unfold blockOf; rw [if_pos (.inl h1)])
  go_enter Tryz.func169, Tryz.ntmps169
  go_wp2_with fail
  go_ret
  exact ⟨ret_int HE.out.symm, HB.out⟩
 by_cases h2 : (B : Int) * 512 ≤ a
 ·have HE : Hid (blockOf (B : Int) a = -1) := LH (by unfold blockOf; rw [if_pos (.inr h2)])
  go_enter Tryz.func169, Tryz.ntmps169
  go_wp2_with fail
  refine (gwords_any _ _ (by omega) (by omega)).mono ?_
  rintro e w1 ⟨rfl, hb1⟩
  have HB1 := LH (HB.out.trans (hb1.mono HB.out.size))
  clear hb1
  go_wp2_with fail
  go_ret
  exact ⟨ret_int HE.out.symm, HB1.out⟩
 have HE : Hid (blockOf (B : Int) a = a / 512) := LH (by unfold blockOf; rw [if_neg (by omega)])
 have h3 : 0 ≤ a := by omega
 have h4 : a < (B : Int) * 512 := by omega
 go_enter Tryz.func169, Tryz.ntmps169
 go_wp2_with fail
 refine (gwords_any _ _ (by omega) (by omega)).mono ?_
 rintro e w1 ⟨rfl, hb1⟩
 have HB1 := LH (HB.out.trans (hb1.mono HB.out.size))
 clear hb1
 go_wp2_with fail
 go_ret
 exact ⟨ret_int HE.out.symm, HB1.out⟩
def firstOf (B b : Int) : Int := if b < 0 ∨ B ≤ b then -1 else b * 512
set_option maxHeartbeats 1000000 in
theorem gfirst_any (B : Nat) (hB : B ≤ 1000) (b : Int) (w : World) : Calls Tryz.prog 185 #[vgeom (B : Int), .int .i64 b] w fun e w' => e = .returned (.int .i64 (firstOf (B : Int) b)) ∧ Below w.heap.size w w' := by
 by_cases h1 : b < 0
 ·have HE : Hid (firstOf (B : Int) b = -1) := LH (by unfold firstOf; rw [if_pos (.inl h1)])
  go_enter Tryz.func185, Tryz.ntmps185
  go_wp2_with fail
  go_ret
  exact ⟨ret_int HE.out.symm, below_alloc _ _⟩
 by_cases h2 : (B : Int) ≤ b
 ·have HE : Hid (firstOf (B : Int) b = -1) := LH (by unfold firstOf; rw [if_pos (.inr h2)])
  go_enter Tryz.func185, Tryz.ntmps185
  go_wp2_with fail
  go_ret
  exact ⟨ret_int HE.out.symm, below_alloc _ _⟩
 have HE : Hid (firstOf (B : Int) b = b * 512) := LH (by unfold firstOf; rw [if_neg (by omega)])
 have h3 : 0 ≤ b := by omega
 have h4 : b < (B : Int) := by omega
 go_enter Tryz.func185, Tryz.ntmps185
 go_wp2_with fail
 go_ret
 exact ⟨ret_int HE.out.symm, below_alloc _ _⟩
set_option maxHeartbeats 1000000 in
theorem gdata_any (B : Nat) (hB : B ≤ 1000) (a : Int) (w : World) : Calls Tryz.prog 260 #[vgeom (B : Int), .int .i64 a] w fun e w' => e = .returned (.bool (decide (1 ≤ blockOf (B : Int) a))) ∧ Below w.heap.size w w' := by
 have HB := LH (below_alloc w (Obj.cells #[.int .i64 (B : Int)] 44))
 go_enter Tryz.func260, Tryz.ntmps260
 go_wp2_with fail
 refine (gblockOf_any B hB a _).mono ?_
 rintro e w1 ⟨rfl, hb1⟩
 have HB1 := LH (HB.out.trans (hb1.mono HB.out.size))
 clear hb1
 go_wp2_with fail
 go_ret
 exact ⟨rfl, HB1.out⟩
set_option maxHeartbeats 1000000 in
theorem gmost_any (B : Nat) (hB1 : 1 ≤ B) (hB : B ≤ 1000) (w : World) : Calls Tryz.prog 232 #[vgeom (B : Int)] w fun e w' => e = .returned (.int .i64 (((B : Int) - 1) * 512)) ∧ Below w.heap.size w w' := by
 by_cases hB2 : B = 1
 ·subst hB2
  go_enter Tryz.func232, Tryz.ntmps232
  go_wp2_with fail
  go_ret
  exact ⟨rfl, below_alloc _ _⟩
 ·have h3 : 2 ≤ B := by omega
  have h1 : max (0 : Int) ((B : Int) - 1) = (B : Int) - 1 := by omega
  have h2 : (if (0 : Int) < (B : Int) - 1 then (B : Int) - 1 else 0) = (B : Int) - 1 := by split <;> omega
  go_enter Tryz.func232, Tryz.ntmps232
  go_wp2_with fail
  go_ret
  exact ⟨rfl, below_alloc _ _⟩
def cellAt (B k b i : Int) : Int :=
 if ¬ (0 ≤ k ∧ k < 32) ∨ b < 1 ∨ B ≤ b ∨ i < 0 ∨ (clsCells k : Int) ≤ i then -1 else b * 512 + i * (clsWords k : Int)
set_option maxHeartbeats 4000000 in
set_option maxRecDepth 20000 in
theorem caddr_any (B : Nat) (hB : B ≤ 1000) (k b i : Int) (w : World) : Calls Tryz.prog 262 #[vgeom (B : Int), .int .i64 k, .agg #[.int .i64 b, .int .i64 i]] w fun e w' => e = .returned (.int .i64 (cellAt (B : Int) k b i)) ∧ Below w.heap.size w w' := by
 have HM := LH (Mem.two w #[.int .i64 (B : Int)] 44 #[.int .i64 b, .int .i64 i] 289)
 have HP : Hid (∀ (x : Int) (w' : World), x = cellAt (B : Int) k b i → Below w.heap.size w w' → (fun e w' => e = Ending.returned (.int .i64 (cellAt (B : Int) k b i)) ∧ Below w.heap.size w w') (.returned (.int .i64 x)) w') := LH (fun x w' h1 h2 => by subst h1; exact ⟨rfl, h2⟩)
 generalize (fun e w' => e = Ending.returned (.int .i64 (cellAt (B : Int) k b i)) ∧ Below w.heap.size w w') = Post at *
 have HC : Hid (cellAt (B : Int) k b i = if ¬ (0 ≤ k ∧ k < 32) ∨ b < 1 ∨ (B : Int) ≤ b ∨ i < 0 ∨ (clsCells k : Int) ≤ i then -1 else b * 512 + i * (clsWords k : Int)) := LH rfl
 have hcl : clsCells k ≤ 512 := Nat.div_le_self _ _
 have hwl := clsWords_le k
 generalize cellAt (B : Int) k b i = x at *
 go_enter Tryz.func262, Tryz.ntmps262
 go_upto_region 1 with fail
 generalize (w.alloc _).alloc _ = w0 at *
 obtain ⟨q, hq⟩ : ∃ q, q = w.heap.size := ⟨_, rfl⟩
 rw [← hq] at HM ⊢
 clear hq
 have c0 := HM.out.cell 0 0 rfl rfl
 have c1 := HM.out.cell 1 0 rfl rfl
 have c2 := HM.out.cell 1 1 rfl rfl
 have r0 := fun x => later_cell c0 x
 have r1 := fun x => later_cell c1 x
 have r2 := fun x => later_cell c2 x
 have hpos := fun h => clsWords_pos k h
 by_cases hk : 0 ≤ k ∧ k < 32
 case neg =>
  have HE : Hid (-1 = x) := LH (by rw [HC.out, if_pos (.inl hk)])
  have HK : Hid (decide (0 ≤ k ∧ k < 32) = false) := LH (by simpa using hk)
  have HR : Hid (∀ x : Later w0, Calls Tryz.prog 220 #[.int .i64 k] x.val fun e w' => e = .returned (.bool false) ∧ Below x.val.heap.size x.val w') := LH (fun x => (cright_any k x.val).mono (by rintro e w' ⟨rfl, rfl⟩; rw [HK.out]; exact ⟨rfl, Below.refl _ _⟩))
  clear hk hpos
  refine wp_region_later (by kernel_rfl) (by kernel_rfl) ?_
  repeat (quiet_step ((rename_i x; exact calls_later (HR.out x))))
  refine wpQuiet_nil ?_
  rintro w5 ⟨x5, hx5⟩
  have HM5 := LH (HM.out.later (W' := w5) (by rw [hx5]; exact x5.below))
  clear hx5 c0 c1 c2 r0 r1 r2 HM
  go_wp2_with fail
  exact HP.out _ _ HE.out HM5.out.below
 have HR : Hid (∀ x : Later w0, Calls Tryz.prog 220 #[.int .i64 k] x.val fun e w' => e = .returned (.bool true) ∧ Below x.val.heap.size x.val w') := LH (fun x => (cright_any k x.val).mono (by rintro e w' ⟨rfl, rfl⟩; rw [decide_eq_true hk]; exact ⟨rfl, Below.refl _ _⟩))
 have hp2 := hpos hk
 clear hpos
 by_cases hout : b < 1 ∨ (B : Int) ≤ b ∨ i < 0
 ·have HE : Hid (-1 = x) := LH (by rw [HC.out, if_pos (by rcases hout with h | h | h; exact .inr (.inl h); exact .inr (.inr (.inl h)); exact .inr (.inr (.inr (.inl h))))])
  have hc : b < 1 ∨ (1 ≤ b ∧ (B : Int) ≤ b) ∨ (1 ≤ b ∧ b < (B : Int) ∧ i < 0) := by omega
  clear hout hk
  rcases hc with h1 | ⟨h1, h2⟩ | ⟨h1, h2, h3⟩
  all_goals
   refine wp_region_later (by kernel_rfl) (by kernel_rfl) ?_
   repeat (quiet_step ((rename_i x; exact calls_later (HR.out x))))
   refine wpQuiet_nil ?_
   rintro w5 ⟨x5, hx5⟩
   have HM5 := LH (HM.out.later (W' := w5) (by rw [hx5]; exact x5.below))
   clear hx5 c0 c1 c2 r0 r1 r2 HM
   go_wp2_with fail
   exact HP.out _ _ HE.out HM5.out.below
 have h1 : 1 ≤ b := by omega
 have h2 : b < (B : Int) := by omega
 have h3 : 0 ≤ i := by omega
 clear hout
 obtain ⟨cn, hcn⟩ : ∃ cn, cn = clsCells k := ⟨_, rfl⟩
 have HCl : Hid (∀ x : Later w0, Calls Tryz.prog 279 #[.int .i64 k] x.val fun e w' => e = .returned (.int .i64 (cn : Int)) ∧ Below x.val.heap.size x.val w') := LH (fun x => by rw [hcn]; exact ccells_any k x.val)
 rw [← hcn] at HC hcl
 clear hcn
 by_cases h4 : (cn : Int) ≤ i
 ·have HE : Hid (-1 = x) := LH (by rw [HC.out, if_pos (.inr (.inr (.inr (.inr h4))))])
  clear hk
  refine wp_region_later (by kernel_rfl) (by kernel_rfl) ?_
  repeat (quiet_step ((rename_i x; first | (go_at_call 220; exact calls_later (HR.out x)) | (go_at_call 279; exact calls_later (HCl.out x)))))
  refine wpQuiet_nil ?_
  rintro w5 ⟨x5, hx5⟩
  have HM5 := LH (HM.out.later (W' := w5) (by rw [hx5]; exact x5.below))
  clear hx5 c0 c1 c2 r0 r1 r2 HM
  go_wp2_with fail
  exact HP.out _ _ HE.out HM5.out.below
 ·have h5 : i < (cn : Int) := by omega
  have HE : Hid (x = b * 512 + i * (clsWords k : Int)) := LH (by rw [HC.out, if_neg (by rintro (h | h | h | h | h); exact h hk; omega; omega; omega; exact h4 h)])
  clear h4
  refine wp_region_later (by kernel_rfl) (by kernel_rfl) ?_
  repeat (quiet_step ((rename_i x; first | (go_at_call 220; exact calls_later (HR.out x)) | (go_at_call 279; exact calls_later (HCl.out x)))))
  refine wpQuiet_nil ?_
  rintro w5 ⟨x5, hx5⟩
  have HM5 := LH (HM.out.later (W' := w5) (by rw [hx5]; exact x5.below))
  clear hx5 c0 c1 c2 r0 r1 r2 HM
  go_wp2_with fail
  have c0 := HM5.out.cell 0 0 rfl rfl
  have c1 := HM5.out.cell 1 0 rfl rfl
  have c2 := HM5.out.cell 1 1 rfl rfl
  have r0 := fun x => later_cell c0 x
  have r1 := fun x => later_cell c1 x
  have r2 := fun x => later_cell c2 x
  obtain ⟨wn, hwn⟩ : ∃ wn, wn = clsWords k := ⟨_, rfl⟩
  have HFi : Hid (∀ x : Later w5, Calls Tryz.prog 185 #[vgeom (B : Int), .int .i64 b] x.val fun e w' => e = .returned (.int .i64 (b * 512)) ∧ Below x.val.heap.size x.val w') := LH (fun x => by
   have := gfirst_any B hB b x.val
   rw [show firstOf (B : Int) b = b * 512 by unfold firstOf; rw [if_neg (by omega)]] at this
   exact this)
  have HWo : Hid (∀ x : Later w5, Calls Tryz.prog 261 #[.int .i64 k] x.val fun e w' => e = .returned (.int .i64 (wn : Int)) ∧ Below x.val.heap.size x.val w') := LH (fun x => by rw [hwn]; exact cwords_any k x.val)
  rw [← hwn] at HE hwl hp2
  have hm1 : 0 ≤ i * (wn : Int) := Int.mul_nonneg h3 (by omega)
  have hm2 : i * (wn : Int) ≤ 512 * 256 := Int.mul_le_mul (by omega) (by omega) (by omega) (by omega)
  clear hwn hk
  refine wp_region_later (by kernel_rfl) (by kernel_rfl) ?_
  repeat (quiet_step ((rename_i x; first | (go_at_call 185; exact calls_later (HFi.out x)) | (go_at_call 261; exact calls_later (HWo.out x)))))
  refine wpQuiet_nil ?_
  rintro w6 ⟨x6, hx6⟩
  have HM6 := LH (HM5.out.later (W' := w6) (by rw [hx6]; exact x6.below))
  clear hx6 c0 c1 c2 r0 r1 r2 HM5
  go_wp2_with fail
  have e1 : IntKind.i64.wrap (i * (wn : Int)) = i * (wn : Int) := IntWalk.i64_in _ (by omega)
  have e2 : IntKind.i64.wrap (b * 512 + i * (wn : Int)) = b * 512 + i * (wn : Int) := IntWalk.i64_in _ (by omega)
  refine HP.out _ _ ?_ HM6.out.below
  rw [e1, e2, HE.out]
end Go.Proofs.YtpopbfagliagnaaGreat
namespace Go.Proofs.YtpopbfagliagnaaGreat
open Go.RowKit Go.Maps
def AF.re (A : AF) (R : List Nat) : AF := { A with R := R }
def AlGo (w w' : World) (A : AF) (n B : Nat) (m : Al) : Prop := ∃ R', AlAt w' (A.re R') n B m ∧ Touch A.hot w w' ∧ ∀ b ∈ R', b ∈ A.R ∨ w.heap.size ≤ b
theorem AlGo.refl {w : World} {A : AF} {n B : Nat} {m : Al} (h : AlAt w A n B m) : AlGo w w A n B m := ⟨A.R, h, Touch.refl _ _, fun _ h => .inl h⟩
theorem AlGo.later {w w1 w2 : World} {A : AF} {n B : Nat} {m : Al} (h : AlGo w w1 A n B m) (hb : Below w1.heap.size w1 w2) : AlGo w w2 A n B m := by
 obtain ⟨R', h1, h2, h3⟩ := h
 exact ⟨R', h1.below hb, h2.later hb, h3⟩
theorem AlGo.ahead {w w0 w1 : World} {A : AF} {n B : Nat} {m : Al} (hb : Below w.heap.size w w0) (h : AlGo w0 w1 A n B m) : AlGo w w1 A n B m := by
 obtain ⟨R', h1, h2, h3⟩ := h
 exact ⟨R', h1, (Touch.ofBelow hb).trans h2, fun b hb' => (h3 b hb').imp id (fun c => Nat.le_trans hb.size c)⟩
theorem AlAt.mono {w : World} {A : AF} {n n' B : Nat} {m : Al} (h : AlAt w A n B m) (hn : n ≤ n') : AlAt w A n' B m := { h with man := h.man.mono hn, free := h.free.mono hn }
theorem AlGo.mono {w w1 : World} {A : AF} {n n' B : Nat} {m : Al} (h : AlGo w w1 A n B m) (hn : n ≤ n') : AlGo w w1 A n' B m := by
 obtain ⟨R', h1, h2, h3⟩ := h
 exact ⟨R', h1.mono hn, h2, h3⟩
theorem AF.re_hot {A : AF} {R : List Nat} {w : World} (hR : ∀ b ∈ R, b ∈ A.R ∨ w.heap.size ≤ b) : ∀ b ∈ (A.re R).hot, w.heap.size ≤ b ∨ b ∈ A.hot := by
 intro b hb
 simp only [AF.hot, AF.re, List.mem_append] at hb ⊢
 rcases hb with hb | hb | hb
 ·exact .inr (.inl hb)
 ·exact .inr (.inr (.inl hb))
 ·exact (hR b hb).symm.imp id (fun c => .inr (.inr c))
theorem AlGo.trans {w w1 w2 : World} {A : AF} {R1 : List Nat} {n B : Nat} {m : Al} (h1 : Touch A.hot w w1) (h2 : ∀ b ∈ R1, b ∈ A.R ∨ w.heap.size ≤ b) (h : AlGo w1 w2 (A.re R1) n B m) : AlGo w w2 A n B m := by
 obtain ⟨R', g1, g2, g3⟩ := h
 refine ⟨R', g1, h1.own g2 (fun b hb => AF.re_hot h2 b hb), fun b hb => ?_⟩
 rcases g3 b hb with c | c
 ·exact h2 b c
 ·exact .inr (Nat.le_trans h1.size c)
theorem AlAt.fixlt {w : World} {A : AF} {n B : Nat} {m : Al} (h : AlAt w A n B m) {k : Nat} (hk : k ∈ A.fix) : k < w.heap.size := h.mem k (by simp [AF.list, hk])
theorem AlAt.setFree {w w' : World} {A : AF} {n n' B : Nat} {m : Al} {S : FL} (h : AlAt w A n B m) (hn : n ≤ n') (hg : FreeGo w w' A.f A.mb n' A.R S) : AlGo w w' A n' B ⟨m.bm, m.used, S⟩ := by
 obtain ⟨R', g1, g2, g3⟩ := hg
 have hk : ∀ k ∈ A.fix, w'.heap[k]? = w.heap[k]? := fun k hk => g2.block k (h.fixlt hk) (fun hm => h.nR k hm hk)
 refine ⟨R', ⟨(hk A.a (by simp [AF.fix])).trans h.head, (h.man.keep (fun k hk' => hk k (by simp [AF.fix, hk']))).mono hn, h.set.keep (fun k hk' => hk k (by simp [AF.fix, hk'])), g1, h.nd, fun b hb hf => ?_, h.lenU⟩, g2.wide (fun b hb => by simp [AF.hot, hb]), g3⟩
 rcases g3 b hb with c | c
 ·exact h.nR b c hf
 ·have := h.fixlt hf; omega
theorem AlAt.setMan {w w' : World} {A : AF} {n n' B : Nat} {m : Al} {bm : Bm} (h : AlAt w A n B m) (hn : n ≤ n') (ha : ManAt w' A.X n' B bm) (ht : Touch A.X.hot w w') (hl : bm.dev.cache.length = m.bm.dev.cache.length) : AlGo w w' A n' B ⟨bm, m.used, m.fl⟩ := by
 have nd := h.nd
 unfold AF.fix at nd
 rw [List.nodup_cons, List.nodup_append] at nd
 have hX : ∀ k ∈ A.X.hot, k ∈ A.X.list := fun k hk => MF.hot_sub hk
 refine ⟨A.R, ⟨(ht.block A.a (h.fixlt (by simp [AF.fix])) (fun hm => nd.1 (List.mem_append_left _ (hX _ hm)))).trans h.head, ha, h.set.keep (fun k hk => ht.block k (h.fixlt (by simp [AF.fix, hk])) (fun hm => nd.2.2.2 k (hX k hm) k hk rfl)), (h.free.keep (fun k hk => ht.block k (h.mem k (by simp [AF.list, hk])) (fun hm => h.nR k hk (by simp [AF.fix, hX k hm])))).mono hn, h.nd, h.nR, by rw [hl]; exact h.lenU⟩, ht.wide (fun b hb => by simp [AF.hot, hb]), fun b hb => .inl hb⟩
theorem AlAt.setUsed {w w' : World} {A : AF} {n B : Nat} {m : Al} {l : List Bool} (h : AlAt w A n B m) (hs : SetAt w' A.U l) (ht : Touch A.U.list w w') (hl : l.length = m.used.length) : AlGo w w' A n B ⟨m.bm, l, m.fl⟩ := by
 have nd := h.nd
 unfold AF.fix at nd
 rw [List.nodup_cons, List.nodup_append] at nd
 refine ⟨A.R, ⟨(ht.block A.a (h.fixlt (by simp [AF.fix])) (fun hm => nd.1 (List.mem_append_right _ hm))).trans h.head, h.man.keep (fun k hk => ht.block k (h.fixlt (by simp [AF.fix, hk])) (fun hm => nd.2.2.2 k hk k hm rfl)), hs, h.free.keep (fun k hk => ht.block k (h.mem k (by simp [AF.list, hk])) (fun hm => h.nR k hk (by simp [AF.fix, hm]))), h.nd, h.nR, by rw [hl]; exact h.lenU⟩, ht.wide (fun b hb => by simp [AF.hot, hb]), fun b hb => .inl hb⟩
theorem cellAt_of {B k b i : Nat} (hk : k < 32) (hb : 1 ≤ b) (hbB : b < B) (hi : i < clsCells k) : cellAt (B : Int) (k : Int) (b : Int) (i : Int) = (cellOf b k i : Nat) := by
 unfold cellAt cellOf
 rw [if_neg (by omega), Int.natCast_add, Int.natCast_mul, Int.natCast_mul]
 omega
set_option maxHeartbeats 2000000 in
set_option maxRecDepth 20000 in
theorem acarve_any {w : World} {A : AF} {n B : Nat} {m : Al} (h : AlAt w A n B m) (hB : B ≤ 200) (hL : m.fl.upto 900000) (b k : Nat) (hk : k < 32) (hb : 1 ≤ b) (hbB : b < B) (hlen : m.used.length = 512 * B) :
  Calls Tryz.prog 214 #[valloc A, .int .i64 (b : Int), .int .i64 (k : Int)] w fun e w' => e = .returned (.tuple #[]) ∧ AlGo w w' A n B ⟨m.bm, m.used, m.carved b k⟩ := by
 have HA := LH h
 have HUp := LH hL
 have HCN : Hid (clsCells k ≤ 256) := LH (by
  have := clsWords_pos (k : Int) (by omega)
  unfold clsCells
  exact Nat.div_le_of_le_mul (by omega))
 obtain ⟨N, hN⟩ : ∃ N, N = clsCells k := ⟨_, rfl⟩
 have HAdr : Hid (∀ i : Nat, i < N → cellAt (B : Int) (k : Int) (b : Int) (i : Int) = (cellOf b k i : Nat)) := LH (fun i hi => cellAt_of hk hb hbB (by rw [← hN]; exact hi))
 have HCar : Hid (m.carved b k = m.fl.carve (fun a => m.used.getD a false) (cellOf b k) k N) := LH (by rw [hN]; rfl)
 have HCells := LH (fun w => ccells_any (k : Int) w)
 rw [← hN] at HCN HCells
 clear h hL hN
 go_enter Tryz.func214, Tryz.ntmps214
 go_wp2_with fail
 refine (HCells.out _).mono ?_
 rintro e w1 ⟨rfl, hb1⟩
 have HB1 := LH hb1
 have hN2 := HCN.out
 clear hb1
 go_wp2_with fail
 go_loopw [6] (fun iv wr => ∃ (j : Nat) (T : FL), j ≤ N ∧ iv = .int .i64 ((j : Int) - 1) ∧ Hid (m.carved b k = T.carve (fun a => m.used.getD a false) (cellOf b k) k j) ∧ Hid (T.upto (900000 + (N - j))) ∧ Hid (AlGo w wr A n B ⟨m.bm, m.used, T⟩)) (fun iv _ => (intOf iv + 1).toNat)
 case atStart => exact ⟨N, m.fl, Nat.le_refl _, vint (by omega), HCar, LH (HUp.out.mono (by omega)), LH ((AlGo.refl HA.out).later HB1.out)⟩
 case round =>
  clear HB1
  obtain ⟨j, T, hj, rfl, HT, HTu, HGo⟩ := hrel
  cases j with
  | zero =>
   have HFin : Hid (AlGo w wr A n B ⟨m.bm, m.used, m.carved b k⟩) := LH (by rw [HT.out]; exact HGo.out)
   go_wp2_with fail
   go_end0
   exact ⟨rfl, HFin.out⟩
  | succ i =>
   have hi0 : ((i + 1 : Nat) : Int) - 1 = (i : Int) := by omega
   rw [hi0]
   obtain ⟨R1, ha1, ht1, hr1⟩ := HGo.out
   have HA1 := LH ha1
   have HT1 := LH ht1
   have HR1 := LH hr1
   have c2 := ha1.c2
   clear ha1 ht1 hr1
   have HCs : Hid (T.carve (fun a => m.used.getD a false) (cellOf b k) k (i + 1) = (if m.used.getD (cellOf b k i) false then T else T.pushed k (cellOf b k i)).carve (fun a => m.used.getD a false) (cellOf b k) k i) := LH rfl
   have HAd := LH (caddr_any B (by omega) (k : Int) (b : Int) (i : Int))
   rw [HAdr.out i (by omega)] at HAd
   have HHas := LH (hasI_nat m.used (cellOf b k i))
   generalize cellOf b k i = x at *
   change wr.cell? ⟨A.a, 2, none⟩ = some (.int .i64 (B : Int)) at c2
   go_wp2_with fail
   refine (HAd.out _).mono ?_
   rintro e w2 ⟨rfl, hb2⟩
   have HA2 := LH (HA1.out.below hb2)
   have HB2 := LH hb2
   have c3 := HA2.out.c3
   have c4 := HA2.out.c4
   change w2.cell? ⟨A.a, 3, none⟩ = some (vset A.U) at c3
   change w2.cell? ⟨A.a, 4, none⟩ = some (.pointer (some ⟨A.f, 0, none⟩)) at c4
   clear hb2 c2
   go_wp2_with fail
   refine (shas_any HA2.out.set (x : Int)).mono ?_
   rintro e w3 ⟨rfl, rfl⟩
   dsimp only
   rw [HHas.out]
   cases hu : m.used.getD x false with
   | true =>
    have HNext : Hid (m.carved b k = T.carve (fun a => m.used.getD a false) (cellOf b k) k i) := LH (by rw [HT.out, HCs.out, hu]; rfl)
    clear hu
    go_wp2_with fail
    go_roundw
    case rel => exact ⟨i, T, by omega, vint (by omega), HNext, LH (HTu.out.mono (by omega)), LH (HGo.out.later HB2.out)⟩
    case measure => simp [intOf]
   | false =>
    have HNext : Hid (m.carved b k = (T.pushed k x).carve (fun a => m.used.getD a false) (cellOf b k) k i) := LH (by rw [HT.out, HCs.out, hu]; rfl)
    clear hu
    go_wp2_with fail
    refine (fpush_any HA2.out.free (HTu.out.mono (by omega)) k x hk).mono ?_
    rintro e w4 ⟨rfl, hg4⟩
    have HGo4 : Hid (AlGo w w4 A n B ⟨m.bm, m.used, T.pushed k x⟩) := LH (AlGo.trans (HT1.out.later HB2.out) HR1.out (HA2.out.setFree (Nat.le_refl _) hg4))
    have HTu4 := LH (FL.pushed_upto HTu.out k x)
    clear hg4
    generalize (if T.has k x = true then (41 : Int) else 0) = er at *
    go_wp2_with fail
    go_roundw
    case rel => exact ⟨i, _, by omega, vint (by omega), HNext, LH (HTu4.out.mono (by omega)), HGo4⟩
    case measure => simp [intOf]
end Go.Proofs.YtpopbfagliagnaaGreat
