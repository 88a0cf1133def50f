/- blocks.Format, on a device that never stops. -/
import Derived.Test.YtjgdplengfnkaaaSs
import Derived.Test.YtjgdplengfnkaaaTail
namespace Go.Proofs.Ytjgdplengfnkaaa
open Go.RowKit
set_option linter.unusedVariables false

/-- What was encoded is decoded. -/
theorem dec_enc (b k c l : Int) (h : hdRight k c l = true) : decN b (encN b k c l) = ⟨k, c, l, 0⟩ := by
  have hr : HdRight k c l := by simpa [hdRight] using h
  obtain ⟨n, hn⟩ : ∃ n, n = hdN k c l := ⟨_, rfl⟩
  have hn2 : (n : Int) = k + 4 * c + 256 * l := by rw [hn]; unfold hdN; unfold HdRight at hr; omega
  have hlt : n < 4294967296 := by unfold HdRight at hr; omega
  have he : encN b k c l = sealN n (pl (256 + b)) := by unfold encN; rw [if_pos h, hn]
  have hm : sealN n (pl (256 + b)) % 4294967296 = n := by
    unfold sealN
    rw [Nat.mul_comm, Nat.mul_add_mod, Nat.mod_eq_of_lt hlt]
  have ho : openN (encN b k c l) (pl (256 + b)) = some n := by
    unfold openN; rw [he, hm, if_pos rfl]
  have e1 : ((n % 4 : Nat) : Int) = k := by unfold HdRight at hr; omega
  have e2 : ((n / 4 % 64 : Nat) : Int) = c := by unfold HdRight at hr; omega
  have e3 : ((n / 256 % 65536 : Nat) : Int) = l := by unfold HdRight at hr; omega
  rw [decN_some ho]
  unfold decS
  rw [e1, e2, e3, if_pos rfl, if_pos h]

def Dev.live (S : Dev) : Prop := S.dead = false ∧ S.armed = false
theorem Dev.live.stop {S : Dev} (h : S.live) : S.stop = false := by unfold Dev.stop; rw [h.1, h.2]; rfl
theorem Dev.live.step {S : Dev} (h : S.live) : S.step.live := by unfold Dev.step; rw [h.stop]; exact h
theorem Dev.live.store {S : Dev} (h : S.live) (i : Int) (x : Nat) : (S.store i x).live := by
  unfold Dev.store
  split
  · exact h
  · rw [h.stop]; exact h.step
theorem Dev.live.store_ok {S : Dev} (h : S.live) (i : Nat) (x : Nat) (hi : i < S.cache.length) : S.storeE i = 0 ∧ (S.store i x).cache = S.cache.set i x := by
  constructor
  · unfold Dev.storeE; rw [if_neg (by omega), h.stop]; rfl
  · unfold Dev.store; rw [if_neg (by omega), h.stop]
    simp only [Bool.false_eq_true, if_false, Dev.put, (Dev.step_rest S).2.1, Int.toNat_natCast]
theorem Dev.store_okN {S : Dev} {N : Nat} (h : S.ok N) (i : Int) (x : Nat) : (S.store i x).ok (N + 1) := by
  unfold Dev.store
  split
  · exact h.mono (by omega)
  · split
    · exact Dev.step_ok h
    · exact (Dev.step_ok h : S.step.ok (N + 1))

/-- Blocks 1 .. k - 1 are free. -/
def Dev.fmtTo (S : Dev) : Nat → Dev
  | 0 => S
  | k + 1 => if k = 0 then S else (S.fmtTo k).store ((256 + k : Nat) : Int) (encN k 0 0 0)
theorem fmtTo_props {S : Dev} (h : S.live) {N : Nat} (ho : S.ok N) (k : Nat) (hk : 256 + k ≤ S.cache.length) : (S.fmtTo k).live ∧ (S.fmtTo k).ok (N + k) ∧ (S.fmtTo k).cache.length = S.cache.length ∧ (S.fmtTo k).dirty.length = S.dirty.length ∧ (∀ b, 1 ≤ b → b < k → (S.fmtTo k).cache.getD (256 + b) 0 = encN b 0 0 0) := by
  induction k with
  | zero => exact ⟨h, ho, rfl, rfl, fun b h1 h2 => by omega⟩
  | succ k ih =>
    obtain ⟨i1, i2, i3, i5, i4⟩ := ih (by omega)
    unfold Dev.fmtTo
    split
    · exact ⟨h, ho.mono (by omega), rfl, rfl, fun b h1 h2 => by omega⟩
    · have hs := i1.store_ok (256 + k) (encN k 0 0 0) (by omega)
      refine ⟨i1.store _ _, Dev.store_okN i2 _ _, by rw [hs.2, List.length_set, i3], ?_, fun b h1 h2 => ?_⟩
      · rw [← i5]
        unfold Dev.store
        split
        · rfl
        · split
          · rw [(Dev.step_rest _).2.2.2.1]
          · simp [Dev.put, (Dev.step_rest _).2.2.2.1]
      · rw [hs.2]
        by_cases e : b = k
        · subst e; rw [List.getD_eq_getElem?_getD, List.getElem?_set_self (by omega)]; rfl
        · rw [List.getD_eq_getElem?_getD, List.getElem?_set_ne (by omega), ← List.getD_eq_getElem?_getD]
          exact i4 b h1 (by omega)

/-- A live device does all that it is told within its words. -/
theorem Dev.live.flush {S : Dev} (h : S.live) (j : Int) : (S.flush j).live := by
  unfold Dev.flush
  split
  · exact h
  · rw [h.stop]
    simp only [Bool.false_eq_true, if_false]
    unfold Dev.hold
    split
    · exact h.step
    · exact h.step
theorem Dev.live.flushE {S : Dev} (h : S.live) (j : Nat) (hj : j < S.dirty.length) : S.flushE j = 0 := by unfold Dev.flushE; rw [if_neg (by omega), h.stop]; rfl
theorem Dev.live.flushRun {S : Dev} (h : S.live) (a : Nat) : ∀ m, a + m ≤ S.dirty.length → (S.flushRun a m).err = 0 ∧ (S.flushRun a m).dev.live ∧ (S.flushRun a m).dev.cache = S.cache ∧ (S.flushRun a m).dev.dirty = S.dirty := by
  intro m
  induction m with
  | zero => intro _; exact ⟨rfl, h, rfl, rfl⟩
  | succ m ih =>
    intro hm
    obtain ⟨i1, i2, i3, i4⟩ := ih (by omega)
    unfold Dev.flushRun
    rw [if_neg (by rw [i1]; simp)]
    refine ⟨i2.flushE _ (by rw [i4]; omega), i2.flush _, ?_, ?_⟩
    · exact (Dev.flush_len _ _).1.trans i3
    · exact (Dev.flush_len _ _).2.trans i4
theorem Dev.live.persist {S : Dev} (h : S.live) (p n : Nat) (hn : 0 < n) (hd : S.cache.length = 8 * S.dirty.length) (hp : p + n ≤ S.cache.length) : (S.persist p n).err = 0 ∧ (S.persist p n).dev.cache = S.cache := by
  unfold Dev.persist
  rw [if_neg (by omega), if_pos (by omega)]
  unfold Dev.persistN
  obtain ⟨i1, i2, i3, i4⟩ := h.flushRun ((p : Int) / 8).toNat (((p : Int) + (n : Int) - 1) / 8 - (p : Int) / 8 + 1).toNat (by omega)
  rw [if_neg (by rw [i1]; simp)]
  constructor
  · show Dev.fenceE _ = 0
    unfold Dev.fenceE; rw [i2.stop]; rfl
  · show (Dev.fence _).cache = _
    unfold Dev.fence; rw [i2.stop]
    simp only [Bool.false_eq_true, if_false]
    rw [(fenceTo_len _ _).2.1, (Dev.step_rest _).2.1, i3]

def Dev.fmt (S : Dev) (B : Nat) : Dev := ((S.fmtTo B).persist 257 ((B : Int) - 1)).dev

set_option maxHeartbeats 2000000 in
set_option maxRecDepth 100000 in
theorem format_any {w : World} {F : Foot} {S : Dev} (h : DevAt w F S) (hv : S.live) (ho : S.ok 100) (B : Nat) (hB2 : 2 ≤ B) (hB : B ≤ 1000) (hlen : 256 + B ≤ S.cache.length) :
    Calls Try.prog 27 #[vdev F, vgeom B] w fun e w' => e = .returned (.int .i64 0) ∧ DevAt w' F (S.fmt B) ∧ Touch F.list w w' := by
  have hbx := below_alloc w (.cells #[.int .i64 (B : Int)] 25)
  have hcx : (w.alloc (.cells #[.int .i64 (B : Int)] 25)).cell? ⟨w.heap.size, 0, none⟩ = some (.int .i64 (B : Int)) := cell_alloc_new _ _ _ 0 _ rfl
  have HD := Lib.hid (h.below hbx)
  have HT : Hid (Touch F.list w (w.alloc (.cells #[.int .i64 (B : Int)] 25))) := Lib.hid (Touch.ofBelow hbx)
  have HF : Hid (∀ k ∈ F.list, k < w.heap.size) := Lib.hid h.mem
  have HP := Lib.hid (fun k hk => fmtTo_props hv ho k (Nat.le_trans (show 256 + k ≤ 256 + B by exact Nat.add_le_add_left hk _) hlen))
  have HL := Lib.hid h.lenD
  clear h hbx hv ho
  go_enter Try.func27, Try.ntmps27
  go_wp2_with fail
  go_loopw [5] (fun i wr => ∃ b : Nat, 1 ≤ b ∧ b ≤ B ∧ i = .int .i64 b ∧ DevAt wr F (S.fmtTo b) ∧ Touch F.list w wr ∧ wr.cell? ⟨w.heap.size, 0, none⟩ = some (.int .i64 (B : Int))) (fun i _ => B - (intOf i).toNat)
  case atStart => exact ⟨1, Nat.le_refl _, by omega, rfl, HD.out, HT.out, hcx⟩
  case round =>
    obtain ⟨b, hb1, hb2, rfl, hd, ht, hc⟩ := hrel
    have HDr := Lib.hid hd
    have HTr := Lib.hid ht
    clear hd ht hcx
    by_cases hlt : b < B
    · have hlt' : (b : Int) < (B : Int) := by omega
      go_wp2_with fail
      refine (gheader_any _ _ _ (by omega)).mono ?_
      rintro e w1 ⟨rfl, hb1'⟩
      have HH : Hid (hdAt (B : Int) (b : Int) = 256 + (b : Int)) := Lib.hid (by unfold hdAt; rw [if_neg (by omega)])
      rw [HH.out]
      have hc1 := below_cells hb1' hc (Nat.le_refl _)
      have HD1 := Lib.hid (HDr.out.below hb1')
      have HT1 : Hid (Touch F.list w w1) := Lib.hid (HTr.out.trans (Touch.ofBelow hb1'))
      clear hb1' hc HDr HTr
      go_wp2_with fail
      refine (bencode_any (b : Int) 0 0 0 (by omega) (by omega) _).mono ?_
      rintro e w2 ⟨rfl, hb2'⟩
      have hc2 := below_cells hb2' hc1 (Nat.le_refl _)
      have HD2 := Lib.hid (HD1.out.below hb2')
      have HT2 : Hid (Touch F.list w w2) := Lib.hid (HT1.out.trans (Touch.ofBelow hb2'))
      clear hb2' hc1 HD1 HT1
      go_wp2_with fail
      refine (store_any HD2.out (N := 100 + b) (by omega) (HP.out b hb2).2.1 _ _ (encN_lt _ _ _ _)).mono ?_
      rintro e w3 ⟨rfl, hd3, ht3⟩
      have HE : Hid ((S.fmtTo b).storeE (256 + (b : Int)) = 0) := Lib.hid ((HP.out b hb2).1.store_ok (256 + b) 0 (by rw [(HP.out b hb2).2.2.1]; omega)).1
      rw [HE.out]
      have hc3 : w3.cell? ⟨w.heap.size, 0, none⟩ = some (.int .i64 (B : Int)) := cell_of_touch ht3 (fun hm => by have := HF.out _ hm; simp at this) hc2
      have HD3 : Hid (DevAt w3 F (S.fmtTo (b + 1))) := Lib.hid (by unfold Dev.fmtTo; rw [if_neg (by omega)]; exact hd3)
      have HT3 : Hid (Touch F.list w w3) := Lib.hid (HT2.out.trans ht3)
      clear hd3 ht3 hc2 HD2 HT2
      go_wp2_with fail
      exact ⟨⟨b + 1, by omega, by omega, vint (by omega), HD3.out, HT3.out, hc3⟩, by simp [intOf]; omega⟩
    · obtain rfl : b = B := by omega
      have hlt' : decide ((b : Int) < (b : Int)) = false := by simp
      have hw1 : IntKind.i64.wrap ((b : Int) - 1) = (b : Int) - 1 := IntWalk.i64_in _ (by omega)
      go_wp2_with fail
      have hcl : ∀ x : Later wr, x.val.cell? ⟨w.heap.size, 0, none⟩ = some (.int .i64 (b : Int)) := fun x => later_cell hc x
      refine wp_region_later_tail 6 ?hn ?hm ?hB ?_
      case hn => exact Nat.le_of_ble_eq_true rfl
      case hm => kernel_rfl
      case hB => kernel_rfl
      simp only [List.take_succ_cons, List.take_zero, List.drop_succ_cons, List.drop_zero]
      repeat (quiet_step ((rename_i x; exact calls_later (gheader_any _ _ _ (by omega)))))
      refine wpQuiet_nil ?_
      rintro w5 ⟨x, hx5⟩
      have hd5 := HDr.out.below x.below
      have ht5 : Touch F.list w x.val := HTr.out.trans (Touch.ofBelow x.below)
      rw [← hx5] at hd5 ht5
      have HD5 := Lib.hid hd5
      have HT5 := Lib.hid ht5
      have HH : Hid (hdAt (b : Int) 1 = 257) := Lib.hid (by unfold hdAt; rw [if_neg (by omega)]; rfl)
      rw [HH.out]
      clear hx5 x HDr HTr hd5 ht5 hw1
      have HQ : Hid (((S.fmtTo b).persist 257 ((b : Int) - 1)).err = 0) := Lib.hid (by
        have := ((HP.out b (Nat.le_refl _)).1.persist 257 (b - 1) (by omega) (by rw [(HP.out b (Nat.le_refl _)).2.2.1, (HP.out b (Nat.le_refl _)).2.2.2.1]; exact HL.out) (by rw [(HP.out b (Nat.le_refl _)).2.2.1]; omega)).1
        rw [show ((b - 1 : Nat) : Int) = (b : Int) - 1 by omega] at this
        exact this)
      go_wp2_with fail
      refine (persist_any HD5.out (N := 100 + b) (by omega) (HP.out b (Nat.le_refl _)).2.1 _ _ (by omega) (by omega)).mono ?_
      rintro e w6 ⟨rfl, hd6, ht6⟩
      rw [HQ.out]
      have HD6 := Lib.hid hd6
      have HT6 : Hid (Touch F.list w w6) := Lib.hid (HT5.out.trans ht6)
      clear hd6 ht6
      go_wp2_with fail
      go_ret
      exact ⟨rfl, HD6.out, HT6.out⟩

end Go.Proofs.Ytjgdplengfnkaaa
