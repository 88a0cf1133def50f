/- letters.Less and the law LettersLess: their walks. -/
import Derived.Test.YtgbgjlgofjbemaaH
namespace Go.Proofs.Ytgbgjlgofjbemaa
open Go.RowKit

/-- Does one text stand ahead of another, by their words? -/
def lessB (xs ys : List Nat) : Bool := (textOf xs).2 == 0 && (textOf ys).2 == 0 && Op.bytesLess (strOf (textOf xs).1).toList (strOf (textOf ys).1).toList

set_option maxHeartbeats 400000 in
theorem less_any (a b : Option Addr) (n m ca cb : Nat) (xs ys : List Nat) (hn : xs.length = n) (hm : ys.length = m) (w : World) (hx : Cells w a (xs.map vu64)) (hy : Cells w b (ys.map vu64))
    (hzx : ∀ z ∈ xs, z < 18446744073709551616) (hzy : ∀ z ∈ ys, z < 18446744073709551616) (h1 : xs.length ≤ 1000000) (h2 : ys.length ≤ 1000000) (hca : n ≤ ca) (hcb : m ≤ cb) (hma : ca ≤ maxLen) (hmb : cb ≤ maxLen) :
    Calls Try.prog 12 #[.slice a n ca, .slice b m cb] w fun e w' => e = .returned (.bool (lessB xs ys)) ∧ Below w.heap.size w w' := by
  have HN := Lib.hid hn
  have HM := Lib.hid hm
  have HX := Lib.hid hzx
  have HY := Lib.hid hzy
  clear hn hm hzx hzy
  go_enter Try.func12, Try.ntmps12
  go_wp2_with fail
  refine (text_any a ca xs HN.out w hx HX.out h1 hca hma).mono ?_
  rintro e w1 ⟨rfl, hb1⟩
  unfold textRes
  go_wp2_with fail
  refine (text_any b cb ys HM.out w1 (hy.below hb1 (Nat.le_refl _)) HY.out h2 hcb hmb).mono ?_
  rintro e w2 ⟨rfl, hb2⟩
  have hb := hb1.trans (hb2.mono hb1.size)
  unfold textRes
  have HLs := Lib.hid (show lessB xs ys = ((textOf xs).2 == 0 && (textOf ys).2 == 0 && Op.bytesLess (strOf (textOf xs).1).toList (strOf (textOf ys).1).toList) from rfl)
  generalize strOf (textOf xs).fst = t1 at *
  generalize (textOf xs).snd = c1 at *
  generalize strOf (textOf ys).fst = t2 at *
  generalize (textOf ys).snd = c2 at *
  by_cases h1 : c1 = 0
  · subst h1
    by_cases h2 : c2 = 0
    · subst h2
      go_wp2_with fail
      go_ret
      exact ⟨ret_bool (by rw [HLs.out]; simp), hb⟩
    · have h2' : ((c2 : Int) == 0) = false := by rw [beq_eq_false_iff_ne]; omega
      have H2 := Lib.hid h2
      clear h2
      go_wp2_with fail
      go_ret
      exact ⟨ret_bool (by rw [HLs.out]; simp [H2.out]), hb⟩
  · have h1' : ((c1 : Int) == 0) = false := by rw [beq_eq_false_iff_ne]; omega
    have H1 := Lib.hid h1
    clear h1
    go_wp2_with fail
    go_ret
    exact ⟨ret_bool (by rw [HLs.out]; simp [H1.out]), hb⟩

/-- The bytes are alike up to k. -/
def Alike (x y : ByteArray) (k : Nat) : Prop := ∀ j, j < k → x.data.toList[j]? = y.data.toList[j]?

theorem less_step : ∀ (x y : List UInt8) (k : Nat), (∀ j, j < k → x[j]? = y[j]?) → Op.bytesLess x y = Op.bytesLess (x.drop k) (y.drop k) := by
  intro x y k
  induction k generalizing x y with
  | zero => intro _; rfl
  | succ k ih =>
    intro h
    cases x with
    | nil =>
      cases y with
      | nil => simp [Op.bytesLess]
      | cons b y => have := h 0 (by omega); simp at this
    | cons a x =>
      cases y with
      | nil => have := h 0 (by omega); simp at this
      | cons b y =>
        have h0 := h 0 (by omega)
        simp at h0
        subst h0
        simp only [Op.bytesLess, List.drop_succ_cons]
        rw [ih x y (fun j hj => by have := h (j + 1) (by omega); simpa using this)]
        simp

theorem less_at (t1 t2 : ByteArray) (k : Nat) (h : Alike t1 t2 k) : Op.bytesLess t1.toList t2.toList = Op.bytesLess (t1.data.toList.drop k) (t2.data.toList.drop k) := by
  rw [ByteArray.toList_eq, ByteArray.toList_eq]
  exact less_step _ _ k h

theorem drop_bytes (t : ByteArray) (k : Nat) (h : k < t.size) : t.data.toList.drop k = t[k] :: t.data.toList.drop (k + 1) := by
  rw [List.drop_eq_getElem_cons (by simpa using h)]; rfl

theorem less_end1 (t1 t2 : ByteArray) (k : Nat) (h : Alike t1 t2 k) (h1 : ¬ k < t1.size) (h2 : k < t2.size) : Op.bytesLess t1.toList t2.toList = true := by
  rw [less_at t1 t2 k h, drop_bytes t2 k h2, List.drop_eq_nil_of_le (by simp; omega)]; rfl

theorem less_end2 (t1 t2 : ByteArray) (k : Nat) (h : Alike t1 t2 k) (h2 : ¬ k < t2.size) : Op.bytesLess t1.toList t2.toList = false := by
  rw [less_at t1 t2 k h, show t2.data.toList.drop k = [] from List.drop_eq_nil_of_le (by simp; omega)]
  cases t1.data.toList.drop k <;> rfl

theorem less_end3 (t1 t2 : ByteArray) (k : Nat) (h : Alike t1 t2 k) (h1 : k < t1.size) (h2 : k < t2.size) (hne : t1[k].toNat ≠ t2[k].toNat) : Op.bytesLess t1.toList t2.toList = decide (t1[k].toNat < t2[k].toNat) := by
  rw [less_at t1 t2 k h, drop_bytes t1 k h1, drop_bytes t2 k h2, Op.bytesLess]
  have : (t1[k] == t2[k]) = false := by rw [beq_eq_false_iff_ne]; intro e; exact hne (by rw [e])
  rw [this, Bool.false_and, Bool.or_false]
  rfl

theorem alike_succ (t1 t2 : ByteArray) (k : Nat) (h : Alike t1 t2 k) (h1 : k < t1.size) (h2 : k < t2.size) (he : t1[k].toNat = t2[k].toNat) : Alike t1 t2 (k + 1) := by
  intro j hj
  by_cases e : j = k
  · subst e
    rw [List.getElem?_eq_getElem (by simpa using h1), List.getElem?_eq_getElem (by simpa using h2)]
    exact congrArg some (UInt8.toNat_inj.1 he)
  · exact h j (by omega)

theorem textOf_len (ws : List Nat) : (strOf (textOf ws).1).size ≤ 131064 := by
  show ((textOf ws).1.map UInt8.ofNat).toArray.size ≤ _
  simp only [List.size_toArray, List.length_map]
  unfold textOf
  split
  · simp
  · repeat' split
    all_goals simp
    omega

set_option maxHeartbeats 1000000 in
theorem lettersLess_any (a b : Option Addr) (n m ca cb : Nat) (xs ys : List Nat) (hn : xs.length = n) (hm : ys.length = m) (w : World) (hx : Cells w a (xs.map vu64)) (hy : Cells w b (ys.map vu64))
    (hzx : ∀ z ∈ xs, z < 18446744073709551616) (hzy : ∀ z ∈ ys, z < 18446744073709551616) (hca : n ≤ ca) (hcb : m ≤ cb) (hma : ca ≤ maxLen) (hmb : cb ≤ maxLen) :
    Calls Try.prog 4 #[.slice a n ca, .slice b m cb] w fun e w' => e = .returned (.bool true) ∧ Below w.heap.size w w' := by
  have HN := Lib.hid hn
  have HM := Lib.hid hm
  have HX := Lib.hid hzx
  have HY := Lib.hid hzy
  have ha' := hma
  have hb' := hmb
  unfold maxLen at ha' hb'
  clear hn hm hzx hzy
  by_cases g1 : 200 < n
  · go_enter Try.func4, Try.ntmps4
    go_wp2_with fail
    refine (awake_any _).mono ?_
    rintro e w1 ⟨rfl, hb1⟩
    go_wp2_with fail
    go_ret
    exact ⟨rfl, hb1⟩
  by_cases g2 : 200 < m
  · go_enter Try.func4, Try.ntmps4
    go_wp2_with fail
    refine (awake_any _).mono ?_
    rintro e w1 ⟨rfl, hb1⟩
    go_wp2_with fail
    go_ret
    exact ⟨rfl, hb1⟩
  go_enter Try.func4, Try.ntmps4
  go_wp2_with fail
  refine (awake_any _).mono ?_
  rintro e w1 ⟨rfl, hb1⟩
  go_wp2_with fail
  refine (rtext_any a ca xs HN.out w1 (hx.below hb1 (Nat.le_refl _)) HX.out (by have := HN.out; omega) hca hma).mono ?_
  rintro e w2 ⟨rfl, hb2⟩
  have hb2' := hb1.trans (hb2.mono hb1.size)
  unfold textRes
  go_wp2_with fail
  refine (rtext_any b cb ys HM.out w2 (hy.below hb2' (Nat.le_refl _)) HY.out (by have := HM.out; omega) hcb hmb).mono ?_
  rintro e w3 ⟨rfl, hb3⟩
  have hb3' := hb2'.trans (hb3.mono hb2'.size)
  clear hb1 hb2 hb3 hb2'
  unfold textRes
  have HLs := Lib.hid (show lessB xs ys = ((textOf xs).2 == 0 && (textOf ys).2 == 0 && Op.bytesLess (strOf (textOf xs).1).toList (strOf (textOf ys).1).toList) from rfl)
  have hs1 := textOf_len xs
  have hs2 := textOf_len ys
  generalize strOf (textOf xs).fst = t1 at *
  generalize (textOf xs).snd = c1 at *
  generalize strOf (textOf ys).fst = t2 at *
  generalize (textOf ys).snd = c2 at *
  by_cases h1 : c1 = 0
  · subst h1
    by_cases h2 : c2 = 0
    · subst h2
      have HL2 : Hid (lessB xs ys = Op.bytesLess t1.toList t2.toList) := by have := HLs.out; simp at this; simpa using Lib.hid this
      go_wp2_with fail
      go_loopw [10] (fun i wr => ∃ k : Nat, k ≤ t1.size ∧ k ≤ t2.size ∧ i = .int .i64 k ∧ Hid (Alike t1 t2 k) ∧ Below w.heap.size w wr) (fun i _ => t1.size - (intOf i).toNat)
      case atStart => exact ⟨0, by omega, by omega, rfl, Lib.hid (fun j hj => by omega), hb3'⟩
      case round =>
        obtain ⟨k, hk1, hk2, rfl, hal, hbr⟩ := hrel
        by_cases q1 : k < t1.size
        · by_cases q2 : k < t2.size
          · have q1' : (k : Int) < (t1.size : Int) := by omega
            have q2' : (k : Int) < (t2.size : Int) := by omega
            have k0 : (0 : Int) ≤ (k : Int) := by omega
            have HA := Lib.hid (alike_succ t1 t2 k hal.out q1 q2)
            have HE3 := Lib.hid (less_end3 t1 t2 k hal.out q1 q2)
            obtain ⟨x, hxk⟩ : ∃ x : Nat, t1[k].toNat = x := ⟨_, rfl⟩
            obtain ⟨y, hyk⟩ : ∃ y : Nat, t2[k].toNat = y := ⟨_, rfl⟩
            rw [hxk, hyk] at HA HE3
            by_cases hxy : x = y
            · have e1 : ((x : Int) == (y : Int)) = true := by simp [hxy]
              have HXY := Lib.hid hxy
              clear hxy
              go_wp2_with fail
              go_quiet (fail)
              go_wp2_with fail
              exact ⟨⟨k + 1, by omega, by omega, vint (by omega), Lib.hid (HA.out HXY.out), below_drewN hbr _⟩, by simp [intOf]; omega⟩
            · have e1 : ((x : Int) == (y : Int)) = false := by rw [beq_eq_false_iff_ne]; omega
              have HE : Hid (lessB xs ys = decide (x < y)) := Lib.hid (HL2.out.trans (HE3.out hxy))
              have e2 : ((k : Int) == (t1.size : Int)) = false := by rw [beq_eq_false_iff_ne]; omega
              clear hxy
              by_cases hlt : x < y
              · have hd : decide ((x : Int) < (y : Int)) = true := by simp; omega
                rw [decide_eq_true hlt] at HE
                go_wp2_with fail
                go_quiet (fail)
                go_wp2_with fail
                go_quiet (fail)
                go_wp2_with fail
                refine (less_any a b n m ca cb xs ys HN.out HM.out _ (hx.below (below_drewN hbr _) (Nat.le_refl _)) (hy.below (below_drewN hbr _) (Nat.le_refl _)) HX.out HY.out (by have := HN.out; omega) (by have := HM.out; omega) hca hcb hma hmb).mono ?_
                rintro e w4 ⟨rfl, hb4⟩
                rw [HE.out]
                go_wp2_with fail
                go_ret
                exact ⟨rfl, (below_drewN hbr _).trans (hb4.mono (below_drewN hbr _).size)⟩
              · have hd : decide ((x : Int) < (y : Int)) = false := by simp; omega
                rw [decide_eq_false hlt] at HE
                go_wp2_with fail
                go_quiet (fail)
                go_wp2_with fail
                go_quiet (fail)
                go_wp2_with fail
                refine (less_any a b n m ca cb xs ys HN.out HM.out _ (hx.below (below_drewN hbr _) (Nat.le_refl _)) (hy.below (below_drewN hbr _) (Nat.le_refl _)) HX.out HY.out (by have := HN.out; omega) (by have := HM.out; omega) hca hcb hma hmb).mono ?_
                rintro e w4 ⟨rfl, hb4⟩
                rw [HE.out]
                go_wp2_with fail
                go_ret
                exact ⟨rfl, (below_drewN hbr _).trans (hb4.mono (below_drewN hbr _).size)⟩
          · have q1' : decide ((k : Int) < (t1.size : Int)) = true := by simp; omega
            have q2' : decide ((k : Int) < (t2.size : Int)) = false := by simp; omega
            have HE : Hid (lessB xs ys = false) := Lib.hid (HL2.out.trans (less_end2 t1 t2 k hal.out q2))
            go_wp2_with fail
            go_quiet (fail)
            go_wp2_with fail
            go_quiet (fail)
            go_wp2_with fail
            refine (less_any a b n m ca cb xs ys HN.out HM.out _ (hx.below (below_drewN hbr _) (Nat.le_refl _)) (hy.below (below_drewN hbr _) (Nat.le_refl _)) HX.out HY.out (by have := HN.out; omega) (by have := HM.out; omega) hca hcb hma hmb).mono ?_
            rintro e w4 ⟨rfl, hb4⟩
            rw [HE.out]
            go_wp2_with fail
            go_ret
            exact ⟨rfl, (below_drewN hbr _).trans (hb4.mono (below_drewN hbr _).size)⟩
        · have q1' : decide ((k : Int) < (t1.size : Int)) = false := by simp; omega
          by_cases q2 : k < t2.size
          · have q2' : decide ((k : Int) < (t2.size : Int)) = true := by simp; omega
            have HE : Hid (lessB xs ys = true) := Lib.hid (HL2.out.trans (less_end1 t1 t2 k hal.out q1 q2))
            have e2 : ((k : Int) == (t1.size : Int)) = true := by rw [beq_iff_eq]; omega
            go_wp2_with fail
            go_quiet (fail)
            go_wp2_with fail
            go_quiet (fail)
            go_wp2_with fail
            refine (less_any a b n m ca cb xs ys HN.out HM.out _ (hx.below (below_drewN hbr _) (Nat.le_refl _)) (hy.below (below_drewN hbr _) (Nat.le_refl _)) HX.out HY.out (by have := HN.out; omega) (by have := HM.out; omega) hca hcb hma hmb).mono ?_
            rintro e w4 ⟨rfl, hb4⟩
            rw [HE.out]
            go_wp2_with fail
            go_ret
            exact ⟨rfl, (below_drewN hbr _).trans (hb4.mono (below_drewN hbr _).size)⟩
          · have q2' : decide ((k : Int) < (t2.size : Int)) = false := by simp; omega
            have HE : Hid (lessB xs ys = false) := Lib.hid (HL2.out.trans (less_end2 t1 t2 k hal.out q2))
            go_wp2_with fail
            go_quiet (fail)
            go_wp2_with fail
            go_quiet (fail)
            go_wp2_with fail
            refine (less_any a b n m ca cb xs ys HN.out HM.out _ (hx.below (below_drewN hbr _) (Nat.le_refl _)) (hy.below (below_drewN hbr _) (Nat.le_refl _)) HX.out HY.out (by have := HN.out; omega) (by have := HM.out; omega) hca hcb hma hmb).mono ?_
            rintro e w4 ⟨rfl, hb4⟩
            rw [HE.out]
            go_wp2_with fail
            go_ret
            exact ⟨rfl, (below_drewN hbr _).trans (hb4.mono (below_drewN hbr _).size)⟩
    · have h2' : ((c2 : Int) == 0) = false := by rw [beq_eq_false_iff_ne]; omega
      have HL2 : Hid (lessB xs ys = false) := by apply Lib.hid; rw [HLs.out, beq_eq_false_iff_ne.2 h2]; simp
      clear h2
      go_wp2_with fail
      refine (less_any a b n m ca cb xs ys HN.out HM.out w3 (hx.below hb3' (Nat.le_refl _)) (hy.below hb3' (Nat.le_refl _)) HX.out HY.out (by have := HN.out; omega) (by have := HM.out; omega) hca hcb hma hmb).mono ?_
      rintro e w4 ⟨rfl, hb4⟩
      rw [HL2.out]
      go_wp2_with fail
      go_ret
      exact ⟨rfl, hb3'.trans (hb4.mono hb3'.size)⟩
  · have h1' : ((c1 : Int) == 0) = false := by rw [beq_eq_false_iff_ne]; omega
    have HL2 : Hid (lessB xs ys = false) := by apply Lib.hid; rw [HLs.out, beq_eq_false_iff_ne.2 h1]; simp
    clear h1
    go_wp2_with fail
    refine (less_any a b n m ca cb xs ys HN.out HM.out w3 (hx.below hb3' (Nat.le_refl _)) (hy.below hb3' (Nat.le_refl _)) HX.out HY.out (by have := HN.out; omega) (by have := HM.out; omega) hca hcb hma hmb).mono ?_
    rintro e w4 ⟨rfl, hb4⟩
    rw [HL2.out]
    go_wp2_with fail
    go_ret
    exact ⟨rfl, hb3'.trans (hb4.mono hb3'.size)⟩

end Go.Proofs.Ytgbgjlgofjbemaa
