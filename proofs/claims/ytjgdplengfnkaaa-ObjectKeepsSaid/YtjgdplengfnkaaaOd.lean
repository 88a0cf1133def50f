/- object: Lasts, Words. -/
import Derived.Test.YtjgdplengfnkaaaOc
namespace Go.Proofs.Ytjgdplengfnkaaa
open Go.RowKit
set_option linter.unusedVariables false

/-- The words from one on, so many. -/
def wordsAt (l : List Nat) (a : Int) (k : Nat) : List Nat := (List.range k).map fun i : Nat => peek l (a + (i : Int))
theorem wordsAt_succ (l : List Nat) (a : Int) (k : Nat) : wordsAt l a (k + 1) = wordsAt l a k ++ [peek l (a + (k : Int))] := by simp [wordsAt, List.range_succ]
theorem wordsAt_length (l : List Nat) (a : Int) (k : Nat) : (wordsAt l a k).length = k := by simp [wordsAt]
def Dev.lastsTo (S : Dev) (a : Int) (k : Nat) : Prop := ∀ i : Nat, i < k → peek S.lasting (a + (i : Int)) = peek S.cache (a + (i : Int))
instance (S : Dev) (a : Int) (k : Nat) : Decidable (S.lastsTo a k) := Nat.decidableBallLT k _
def Dev.olasts (S : Dev) (a : Int) : Bool := decide ((headN S a).code = 0 ∧ S.lastsTo a (objSize (headN S a).p (headN S a).d))

set_option maxHeartbeats 1000000 in
set_option maxRecDepth 20000 in
theorem olasts_any {w : World} {F : Foot} {S : Dev} (h : DevAt w F S) (a : Int) :
    Calls Try.prog 34 #[vdev F, .int .i64 a] w fun e w' => e = .returned (.bool (S.olasts a)) ∧ Below w.heap.size w w' := by
  have HSm := Lib.hid (head_small h.small (a := a))
  have HI : Hid (S.olasts a = decide ((headN S a).code = 0 ∧ S.lastsTo a (objSize (headN S a).p (headN S a).d))) := Lib.hid rfl
  generalize S.olasts a = R at *
  have HD := Lib.hid h
  clear h
  go_enter Try.func34, Try.ntmps34
  go_wp2_with fail
  refine (ohead_any HD.out a).mono ?_
  rintro e w1 ⟨rfl, hb1⟩
  have hC22 := headN_code2 S a
  generalize headN S a = x at *
  obtain ⟨p, d, c⟩ := x
  unfold Odec.val
  dsimp only at HSm HI hC22 ⊢
  have hbx := below_alloc w1 (Obj.cells #[Value.int .i64 p, Value.int .i64 d] 73)
  have hb := hb1.trans (hbx.mono hb1.size)
  have HB := Lib.hid hb
  have HD1 := Lib.hid (HD.out.below hb)
  have e0 : (w1.alloc (Obj.cells #[Value.int .i64 p, Value.int .i64 d] 73)).cell? ⟨w1.heap.size, 0, none⟩ = some (.int .i64 p) := cell_alloc_new _ _ _ 0 _ rfl
  have e1 : (w1.alloc (Obj.cells #[Value.int .i64 p, Value.int .i64 d] 73)).cell? ⟨w1.heap.size, 1, none⟩ = some (.int .i64 d) := cell_alloc_new _ _ _ 1 _ rfl
  clear hb hb1 hbx HD
  have hsz := objSize_le p d
  by_cases hc : c = 0
  · subst hc
    obtain ⟨ha, _, _⟩ := HSm.out rfl
    go_wp2_with fail
    refine (osize_any p d _).mono ?_
    rintro e w2 ⟨rfl, hb2⟩
    generalize w1.alloc (Obj.cells #[Value.int .i64 p, Value.int .i64 d] 73) = w1' at *
    have HD2 := Lib.hid (HD1.out.below hb2)
    have HB2 := Lib.hid (HB.out.trans (hb2.mono HB.out.size))
    clear hb2 HD1 HB e0 e1 hC22 HSm
    generalize objSize p d = n at *
    go_wp2_with fail
    go_loop [18] (fun i => ∃ k : Nat, k ≤ n ∧ i = .int .i64 k ∧ S.lastsTo a k) (fun i => n - (intOf i).toNat)
    case atStart => exact ⟨0, Nat.zero_le _, rfl, fun i hi => absurd hi (Nat.not_lt_zero _)⟩
    case round =>
      obtain ⟨k, hk, rfl, hl⟩ := hrel
      have HL := Lib.hid hl
      clear hl
      by_cases hlt : k < n
      · have hlt' : (k : Int) < (n : Int) := by omega
        have hw1 : IntKind.i64.wrap (a + (k : Int)) = a + (k : Int) := IntWalk.i64_in _ (by omega)
        go_wp2_with fail
        refine (dlasting_any HD2.out _).mono ?_
        rintro e w3 ⟨rfl, rfl⟩
        go_wp2_with fail
        refine (dget_any HD2.out _).mono ?_
        rintro e w3 ⟨rfl, rfl⟩
        have HN : Hid (peek S.lasting (a + (k : Int)) = peek S.cache (a + (k : Int)) → S.lastsTo a (k + 1)) := Lib.hid (fun he i hi => by
          by_cases e : i = k
          · subst e; exact he
          · exact HL.out i (by omega))
        have HX : Hid (peek S.lasting (a + (k : Int)) ≠ peek S.cache (a + (k : Int)) → R = false) := Lib.hid (fun hne => by rw [HI.out]; exact decide_eq_false (fun h => hne (h.2 k hlt)))
        generalize peek S.lasting (a + (k : Int)) = y1 at *
        generalize peek S.cache (a + (k : Int)) = y2 at *
        by_cases he : y1 = y2
        · have HS := Lib.hid (HN.out he)
          subst he
          have hne : ((y1 : Int) != (y1 : Int)) = false := by simp
          have hne2 : (y1 != y1) = false := by simp
          go_wp2_with fail
          exact ⟨⟨k + 1, by omega, vint (by omega), HS.out⟩, by simp [intOf]; omega⟩
        · have HS := Lib.hid (HX.out he)
          have hne : ((y1 : Int) != (y2 : Int)) = true := by simp; omega
          have hne2 : (y1 != y2) = true := by simpa using he
          clear he
          go_wp2_with fail
          go_ret
          exact ⟨ret_bool HS.out.symm, HB2.out⟩
      · obtain rfl : k = n := by omega
        have hlt' : decide ((k : Int) < (k : Int)) = false := by simp
        have HS : Hid (R = true) := Lib.hid (by rw [HI.out]; exact decide_eq_true ⟨by trivial, HL.out⟩)
        go_wp2_with fail
        go_ret
        exact ⟨ret_bool HS.out.symm, HB2.out⟩
  · have hc2 : c = 22 := hC22.elim (fun h => absurd h hc) id
    subst hc2
    have HV : Hid (R = false) := Lib.hid (by rw [HI.out]; exact decide_eq_false (fun h => hc h.1))
    clear hc hC22
    go_wp2_with fail
    go_ret
    exact ⟨ret_bool HV.out.symm, HB.out⟩

def WordsPost (S : Dev) (a : Int) (w : World) : Ending → World → Prop := fun e w' => Below w.heap.size w w' ∧
      (((headN S a).code = 0 ∧ ∃ v, e = .returned (.tuple #[v, .int .i64 0]) ∧ w'.ownsRow w.heap.size 76 1 v (objSize (headN S a).p (headN S a).d) ((wordsAt S.cache a (objSize (headN S a).p (headN S a).d)).map vu64)) ∨
       ((headN S a).code = 22 ∧ e = .returned (.tuple #[.slice none 0 0, .int .i64 22])))

set_option maxHeartbeats 1000000 in
set_option maxRecDepth 20000 in
theorem owords_any {w : World} {F : Foot} {S : Dev} (h : DevAt w F S) (a : Int) :
    Calls Try.prog 35 #[vdev F, .int .i64 a] w (WordsPost S a w) := by
  generalize hP : WordsPost S a w = Post
  have HP := Lib.hid hP
  clear hP
  have HSm := Lib.hid (head_small h.small (a := a))
  have HD := Lib.hid h
  clear h
  go_enter Try.func35, Try.ntmps35
  go_wp2_with fail
  refine (ohead_any HD.out a).mono ?_
  rintro e w1 ⟨rfl, hb1⟩
  have hC22 := headN_code2 S a
  generalize hX : headN S a = x at *
  have HX := Lib.hid hX
  clear hX
  obtain ⟨p, d, c⟩ := x
  unfold Odec.val
  dsimp only at HSm hC22 ⊢
  have hbx := below_alloc w1 (Obj.cells #[Value.int .i64 p, Value.int .i64 d] 73)
  have hb := hb1.trans (hbx.mono hb1.size)
  have HB := Lib.hid hb
  have HD1 := Lib.hid (HD.out.below hb)
  have e0 : (w1.alloc (Obj.cells #[Value.int .i64 p, Value.int .i64 d] 73)).cell? ⟨w1.heap.size, 0, none⟩ = some (.int .i64 p) := cell_alloc_new _ _ _ 0 _ rfl
  have e1 : (w1.alloc (Obj.cells #[Value.int .i64 p, Value.int .i64 d] 73)).cell? ⟨w1.heap.size, 1, none⟩ = some (.int .i64 d) := cell_alloc_new _ _ _ 1 _ rfl
  clear hb hb1 hbx
  have hsz := objSize_le p d
  by_cases hc : c = 0
  · subst hc
    obtain ⟨ha, _, _⟩ := HSm.out rfl
    go_wp2_with fail
    refine (osize_any p d _).mono ?_
    rintro e w2 ⟨rfl, hb2⟩
    generalize w1.alloc (Obj.cells #[Value.int .i64 p, Value.int .i64 d] 73) = w1' at *
    have HD2 := Lib.hid (HD1.out.below hb2)
    have HB2 := Lib.hid (HB.out.trans (hb2.mono HB.out.size))
    clear hb2 HD1 HB e0 e1 hC22 HSm
    generalize hN : objSize p d = n at *
    have HN := Lib.hid hN
    clear hN
    go_wp2_with fail
    go_loopw [8, 21] (fun v i wr => ∃ k : Nat, k ≤ n ∧ i = .int .i64 k ∧ wr.ownsRow w.heap.size 76 1 v k ((wordsAt S.cache a k).map vu64) ∧ Below w.heap.size w wr) (fun _ i _ => n - (intOf i).toNat)
    case atStart => exact ⟨0, Nat.zero_le _, rfl, ⟨rfl, .inl ⟨rfl, rfl⟩⟩, HB2.out⟩
    case round =>
      obtain ⟨k, hk, rfl, ho, hb⟩ := hrel
      obtain ⟨a1, c1, rfl, hc1, hm1⟩ := owned_form ho
      have HO := Lib.hid ho
      have HB := Lib.hid hb
      clear ho hb
      by_cases hlt : k < n
      · have hlt' : (k : Int) < (n : Int) := by omega
        have hw1 : IntKind.i64.wrap (a + (k : Int)) = a + (k : Int) := IntWalk.i64_in _ (by omega)
        have HS := Lib.hid (wordsAt_succ S.cache a k)
        go_wp2_with fail
        refine (dget_any (HD.out.below HB.out) _).mono ?_
        rintro e w3 ⟨rfl, rfl⟩
        generalize peek S.cache (a + (k : Int)) = y at *
        have hone : Hid (∀ u ∈ (#[vu64 y] : Array Value).toList, u.oneCell' = true) := Lib.hid (by intro u hu; simp at hu; subst hu; rfl)
        have hbase : Hid (w.heap.size ≤ wr.heap.size) := Lib.hid HB.out.size
        have hk9 : k < 1000000000000 := by omega
        go_wp2_with (at_builtin; refine wpList_append_new (us := #[vu64 y]) el64 HO.out rfl hone.out hk9 (by decide) hbase.out rfl rfl rfl (by simp [Act.eval]) ?_; intro g6 c6 w6 ho6 hg6 hc6 hm6 hb6 hl6; have HO6 := Lib.hid ho6; have HG6 := Lib.hid hg6; clear ho6 hg6)
        refine ⟨⟨k + 1, by omega, vint (by omega), ?_, below_grownBy HB.out HO.out HG6.out (Nat.le_refl _) (Nat.le_refl _)⟩, by simp [intOf]; omega⟩
        rw [HS.out]
        simpa using HO6.out
      · obtain rfl : k = n := by omega
        have hlt' : decide ((k : Int) < (k : Int)) = false := by simp
        go_wp2_with fail
        rw [← HP.out]
        refine ⟨HB.out, .inl ⟨by rw [HX.out], _, rfl, ?_⟩⟩
        rw [HX.out]
        dsimp only
        rw [HN.out]
        exact HO.out
  · have hc2 : c = 22 := hC22.elim (fun h => absurd h hc) id
    subst hc2
    clear hc hC22
    go_wp2_with fail
    rw [← HP.out]
    exact ⟨HB.out, .inr ⟨by rw [HX.out], rfl⟩⟩

end Go.Proofs.Ytjgdplengfnkaaa
