/- nvm.Device: Len, Persist. -/
import Derived.Test.YtjgdplengfnkaaaDy
namespace Go.Proofs.Ytjgdplengfnkaaa
open Go.RowKit
set_option linter.unusedVariables false

set_option maxHeartbeats 400000 in
theorem dlen_any {w : World} {F : Foot} {S : Dev} (h : DevAt w F S) :
    Calls Try.prog 67 #[vdev F] w fun e w' => e = .returned (.int .i64 (S.cache.length : Nat)) ∧ w = w' := by
  have c1 : w.cell? ⟨F.d, 1, none⟩ = some (.slice (some ⟨F.c, 0, none⟩) S.cache.length F.cc) := cell_of_row _ _ 1 _ _ _ h.head
  clear h
  go_enter Try.func67, Try.ntmps67
  go_wp2_with fail
  go_ret
  exact ⟨rfl, rfl⟩

theorem Dev.hold_same (S : Dev) (j : Nat) : (S.hold j).steps = S.steps ∧ (S.hold j).fuse = S.fuse := by
  unfold Dev.hold; split <;> exact ⟨rfl, rfl⟩
theorem Dev.flush_ok {S : Dev} {N : Nat} (h : S.ok N) (j : Int) : (S.flush j).ok (N + 1) := by
  unfold Dev.flush
  split
  · exact h.mono (by omega)
  · split
    · exact Dev.step_ok h
    · have := Dev.step_ok h
      have e := S.step.hold_same j.toNat
      unfold Dev.ok at *
      rw [e.1, e.2]
      exact this
theorem Dev.hold_len (S : Dev) (j : Nat) : (S.hold j).cache = S.cache ∧ (S.hold j).dirty = S.dirty := by
  unfold Dev.hold; split <;> exact ⟨rfl, rfl⟩
theorem Dev.flush_len (S : Dev) (j : Int) : (S.flush j).cache = S.cache ∧ (S.flush j).dirty = S.dirty := by
  unfold Dev.flush
  have h := S.step_rest
  split
  · exact ⟨rfl, rfl⟩
  · split
    · exact ⟨h.2.1, h.2.2.2.1⟩
    · have e := S.step.hold_len j.toNat
      exact ⟨e.1.trans h.2.1, e.2.trans h.2.2.2.1⟩

/-- Lines from a on are flushed, so many, up to the first error. -/
structure Done where
  dev : Dev
  err : Int
def Dev.flushRun (S : Dev) (a : Nat) : Nat → Done
  | 0 => ⟨S, 0⟩
  | m + 1 => if (S.flushRun a m).err ≠ 0 then S.flushRun a m else ⟨(S.flushRun a m).dev.flush ((a + m : Nat) : Int), (S.flushRun a m).dev.flushE ((a + m : Nat) : Int)⟩
def Dev.persistN (S : Dev) (a m : Nat) : Done :=
  if (S.flushRun a m).err ≠ 0 then S.flushRun a m else ⟨(S.flushRun a m).dev.fence, (S.flushRun a m).dev.fenceE⟩
def Dev.persist (S : Dev) (p n : Int) : Done :=
  if p < 0 ∨ n < 0 ∨ (S.cache.length : Int) < p ∨ (S.cache.length : Int) - p < n then ⟨S, 2⟩
  else if 0 < n then S.persistN (p / 8).toNat ((p + n - 1) / 8 - p / 8 + 1).toNat else ⟨S.fence, S.fenceE⟩

theorem Dev.flushRun_ok {S : Dev} {N : Nat} (h : S.ok N) (a m : Nat) : (S.flushRun a m).dev.ok (N + m) := by
  induction m with
  | zero => exact h
  | succ m ih =>
    unfold Dev.flushRun
    split
    · exact ih.mono (by omega)
    · exact Dev.flush_ok ih _

theorem Dev.flushRun_stays (S : Dev) (a m : Nat) : ∀ k, m ≤ k → (S.flushRun a m).err ≠ 0 → S.flushRun a k = S.flushRun a m := by
  intro k hk hne
  induction k with
  | zero => obtain rfl : m = 0 := by omega
            rfl
  | succ k ih =>
    by_cases e : m = k + 1
    · rw [e]
    · have := ih (by omega)
      rw [Dev.flushRun, if_pos (by rw [this]; exact hne), this]

set_option maxHeartbeats 2000000 in
set_option maxRecDepth 100000 in
theorem persist_any {w : World} {F : Foot} {S : Dev} (h : DevAt w F S) {N : Nat} (hN : N + 1000000 < 1000000000000) (ho : S.ok N) (p n : Int) (hp : p ≤ 4611686018427387904) (hn : n ≤ 4611686018427387904) :
    Calls Try.prog 62 #[vdev F, .int .i64 p, .int .i64 n] w fun e w' => e = .returned (.int .i64 (S.persist p n).err) ∧ DevAt w' F (S.persist p n).dev ∧ Touch F.list w w' := by
  have hsm := h.small
  have HD := Lib.hid h
  clear h
  by_cases c1 : p < 0
  · have HE : Hid (S.persist p n = ⟨S, 2⟩) := Lib.hid (by unfold Dev.persist; rw [if_pos (.inl c1)])
    go_enter Try.func62, Try.ntmps62
    go_wp2_with fail
    go_ret
    exact ⟨ret_int (by rw [HE.out]), by rw [HE.out]; exact HD.out, Touch.refl _ _⟩
  by_cases c2 : n < 0
  · have HE : Hid (S.persist p n = ⟨S, 2⟩) := Lib.hid (by unfold Dev.persist; rw [if_pos (.inr (.inl c2))])
    go_enter Try.func62, Try.ntmps62
    go_wp2_with fail
    go_ret
    exact ⟨ret_int (by rw [HE.out]), by rw [HE.out]; exact HD.out, Touch.refl _ _⟩
  by_cases c3 : (S.cache.length : Int) < p
  · have HE : Hid (S.persist p n = ⟨S, 2⟩) := Lib.hid (by unfold Dev.persist; rw [if_pos (.inr (.inr (.inl c3)))])
    go_enter Try.func62, Try.ntmps62
    go_wp2_with fail
    refine (dlen_any HD.out).mono ?_
    rintro e w1 ⟨rfl, rfl⟩
    go_wp2_with fail
    go_ret
    exact ⟨ret_int (by rw [HE.out]), by rw [HE.out]; exact HD.out, Touch.refl _ _⟩
  by_cases c4 : (S.cache.length : Int) - p < n
  · have HE : Hid (S.persist p n = ⟨S, 2⟩) := Lib.hid (by unfold Dev.persist; rw [if_pos (.inr (.inr (.inr c4)))])
    go_enter Try.func62, Try.ntmps62
    go_wp2_with fail
    refine (dlen_any HD.out).mono ?_
    rintro e w1 ⟨rfl, rfl⟩
    go_wp2_with fail
    refine (dlen_any HD.out).mono ?_
    rintro e w1 ⟨rfl, rfl⟩
    go_wp2_with fail
    go_ret
    exact ⟨ret_int (by rw [HE.out]), by rw [HE.out]; exact HD.out, Touch.refl _ _⟩
  have hcond : ¬ (p < 0 ∨ n < 0 ∨ (S.cache.length : Int) < p ∨ (S.cache.length : Int) - p < n) := by omega
  by_cases c5 : 0 < n
  · have HE : Hid (S.persist p n = S.persistN (p / 8).toNat ((p + n - 1) / 8 - p / 8 + 1).toNat) := Lib.hid (by unfold Dev.persist; rw [if_neg hcond, if_pos c5])
    clear hcond
    obtain ⟨a, ha⟩ : ∃ a : Nat, p / 8 = (a : Int) := ⟨(p / 8).toNat, by omega⟩
    obtain ⟨M, hM⟩ : ∃ M : Nat, (p + n - 1) / 8 = ((a + M : Nat) : Int) := ⟨((p + n - 1) / 8 - p / 8).toNat, by omega⟩
    have e1 : (p / 8).toNat = a := by omega
    have e2 : ((p + n - 1) / 8 - p / 8 + 1).toNat = M + 1 := by omega
    rw [e1, e2] at HE
    have hMs : a + M < 200000 := by omega
    have HP : Hid (S.persistN a (M + 1) = if (S.flushRun a (M + 1)).err ≠ 0 then S.flushRun a (M + 1) else ⟨(S.flushRun a (M + 1)).dev.fence, (S.flushRun a (M + 1)).dev.fenceE⟩) := Lib.hid rfl
    have HA := Lib.hid ha
    have HM := Lib.hid hM
    clear e1 e2 ha hM
    go_enter Try.func62, Try.ntmps62
    go_wp2_with fail
    refine (dlen_any HD.out).mono ?_
    rintro e w1 ⟨rfl, rfl⟩
    go_wp2_with fail
    refine (dlen_any HD.out).mono ?_
    rintro e w1 ⟨rfl, rfl⟩
    go_wp2_with fail
    rw [HA.out]
    go_loopw [7] (fun i wr => ∃ q : Nat, a ≤ q ∧ q ≤ a + M + 1 ∧ i = .int .i64 (q : Int) ∧ (S.flushRun a (q - a)).err = 0 ∧ DevAt wr F (S.flushRun a (q - a)).dev ∧ Touch F.list w wr) (fun i _ => a + M + 1 - (intOf i).toNat)
    case atStart => exact ⟨a, Nat.le_refl _, by omega, rfl, by rw [Nat.sub_self]; rfl, by rw [Nat.sub_self]; exact HD.out, Touch.refl _ _⟩
    case round =>
      clear HD
      obtain ⟨q, hq1, hq2, rfl, he0, hd, ht⟩ := hrel
      have HO := Lib.hid (Dev.flushRun_ok ho a (q - a))
      have HD := Lib.hid hd
      clear ho
      by_cases hlt : q ≤ a + M
      · have hcnd : (q : Int) ≤ (p + n - 1) / 8 := by rw [HM.out]; omega
        have HN : Hid (S.flushRun a (q + 1 - a) = ⟨(S.flushRun a (q - a)).dev.flush (q : Int), (S.flushRun a (q - a)).dev.flushE (q : Int)⟩) := Lib.hid (by
          obtain ⟨m, rfl⟩ : ∃ m, q = a + m := ⟨q - a, by omega⟩
          rw [show a + m + 1 - a = m + 1 by omega, show a + m - a = m by omega] at *
          rw [Dev.flushRun, if_neg (by rw [he0]; simp)])
        have HF : Hid ((S.flushRun a (q + 1 - a)).err ≠ 0 → S.persist p n = S.flushRun a (q + 1 - a)) := Lib.hid (by
          intro hne
          rw [HE.out, HP.out]
          have := Dev.flushRun_stays S a (q + 1 - a) (M + 1) (by omega) hne
          rw [this, if_pos hne])
        clear he0 hd hcnd
        have hcnd : (q : Int) ≤ (p + n - 1) / 8 := by rw [HM.out]; omega
        generalize (S.flushRun a (q - a)).dev = S1 at *
        go_wp2_with fail
        refine (flush_any HD.out (by omega) HO.out _).mono ?_
        rintro e w1 ⟨rfl, hd1, ht1⟩
        have HD1 := Lib.hid hd1
        have HT1 := Lib.hid (ht.trans ht1)
        clear hd1 ht1 ht HD
        obtain ⟨fe, hfe⟩ : ∃ fe, S1.flushE (q : Int) = fe := ⟨_, rfl⟩
        rw [hfe] at HN ⊢
        clear hfe
        by_cases hz : fe = 0
        · subst hz
          go_wp2_with fail
          exact ⟨⟨q + 1, by omega, by omega, vint (by omega), by rw [HN.out], by rw [HN.out]; exact HD1.out, HT1.out⟩, by simp [intOf]; omega⟩
        · have hz1 : (fe != 0) = true := by simpa using hz
          have HZ := Lib.hid hz
          clear hz
          go_wp2_with fail
          go_ret
          have := HF.out (by rw [HN.out]; exact HZ.out)
          exact ⟨ret_int (by rw [this, HN.out]), by rw [this, HN.out]; exact HD1.out, HT1.out⟩
      · obtain rfl : q = a + M + 1 := by omega
        have hcnd : (p + n - 1) / 8 < ((a + M + 1 : Nat) : Int) := by rw [HM.out]; omega
        rw [show a + M + 1 - a = M + 1 by omega] at *
        have HZ : Hid (S.persist p n = ⟨(S.flushRun a (M + 1)).dev.fence, (S.flushRun a (M + 1)).dev.fenceE⟩) := Lib.hid (by rw [HE.out, HP.out, if_neg (by rw [he0]; simp)])
        clear he0 hd HP HE
        generalize (S.flushRun a (M + 1)).dev = S1 at *
        go_wp2_with fail
        refine (fence_any HD.out (by omega) HO.out).mono ?_
        rintro e w2 ⟨rfl, hd2, ht2⟩
        go_wp2_with fail
        go_ret
        exact ⟨ret_int (by rw [HZ.out]), by rw [HZ.out]; exact hd2, ht.trans ht2⟩
  · have HE : Hid (S.persist p n = ⟨S.fence, S.fenceE⟩) := Lib.hid (by unfold Dev.persist; rw [if_neg hcond, if_neg c5])
    clear hcond
    go_enter Try.func62, Try.ntmps62
    go_wp2_with fail
    refine (dlen_any HD.out).mono ?_
    rintro e w1 ⟨rfl, rfl⟩
    go_wp2_with fail
    refine (dlen_any HD.out).mono ?_
    rintro e w1 ⟨rfl, rfl⟩
    go_wp2_with fail
    refine (fence_any HD.out (by omega) ho).mono ?_
    rintro e w2 ⟨rfl, hd2, ht2⟩
    go_wp2_with fail
    go_ret
    exact ⟨ret_int (by rw [HE.out]), by rw [HE.out]; exact hd2, ht2⟩

end Go.Proofs.Ytjgdplengfnkaaa
