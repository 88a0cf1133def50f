/- Parts of the proof, one behind the other: Od, Uc, In, Deep, Rec, Ud, Kp, Ka, Hread. -/
import Derived.Test.YtjgdplengfnkaaaM6
import Derived.Deep.CutBlock
import Derived.Deep.Slices
import Derived.Deep.Fields
import Derived.ChangeSame
import Derived.OpenShut

/- object: Lasts, Words. -/
namespace Go.Proofs.Ytjgdplengfnkaaa
open Go.RowKit
set_option linter.unusedVariables false

/-- The words from one on, so many. -/
def wordsAt (l : List Nat) (a : Int) (k : Nat) : List Nat := (List.range k).map fun i : Nat => peek l (a + (i : Int))
theorem wordsAt_succ (l : List Nat) (a : Int) (k : Nat) : wordsAt l a (k + 1) = wordsAt l a k ++ [peek l (a + (k : Int))] := by simp [wordsAt, List.range_succ]
theorem wordsAt_length (l : List Nat) (a : Int) (k : Nat) : (wordsAt l a k).length = k := by simp [wordsAt]
def Dev.lastsTo (S : Dev) (a : Int) (k : Nat) : Prop := ∀ i : Nat, i < k → peek S.lasting (a + (i : Int)) = peek S.cache (a + (i : Int))
instance (S : Dev) (a : Int) (k : Nat) : Decidable (S.lastsTo a k) := Nat.decidableBallLT k _
def Dev.olasts (S : Dev) (a : Int) : Bool := decide ((headN S a).code = 0 ∧ S.lastsTo a (objSize (headN S a).p (headN S a).d))

set_option maxHeartbeats 1000000 in
set_option maxRecDepth 20000 in
theorem olasts_any {w : World} {F : Foot} {S : Dev} (h : DevAt w F S) (a : Int) :
    Calls Try.prog 34 #[vdev F, .int .i64 a] w fun e w' => e = .returned (.bool (S.olasts a)) ∧ Below w.heap.size w w' := by
  have HSm := Lib.hid (head_small h.small (a := a))
  have HI : Hid (S.olasts a = decide ((headN S a).code = 0 ∧ S.lastsTo a (objSize (headN S a).p (headN S a).d))) := Lib.hid rfl
  generalize S.olasts a = R at *
  have HD := Lib.hid h
  clear h
  go_enter Try.func34, Try.ntmps34
  go_wp2_with fail
  refine (ohead_any HD.out a).mono ?_
  rintro e w1 ⟨rfl, hb1⟩
  have hC22 := headN_code2 S a
  generalize headN S a = x at *
  obtain ⟨p, d, c⟩ := x
  unfold Odec.val
  dsimp only at HSm HI hC22 ⊢
  have hbx := below_alloc w1 (Obj.cells #[Value.int .i64 p, Value.int .i64 d] 73)
  have hb := hb1.trans (hbx.mono hb1.size)
  have HB := Lib.hid hb
  have HD1 := Lib.hid (HD.out.below hb)
  have e0 : (w1.alloc (Obj.cells #[Value.int .i64 p, Value.int .i64 d] 73)).cell? ⟨w1.heap.size, 0, none⟩ = some (.int .i64 p) := cell_alloc_new _ _ _ 0 _ rfl
  have e1 : (w1.alloc (Obj.cells #[Value.int .i64 p, Value.int .i64 d] 73)).cell? ⟨w1.heap.size, 1, none⟩ = some (.int .i64 d) := cell_alloc_new _ _ _ 1 _ rfl
  clear hb hb1 hbx HD
  have hsz := objSize_le p d
  by_cases hc : c = 0
  · subst hc
    obtain ⟨ha, _, _⟩ := HSm.out rfl
    go_wp2_with fail
    refine (osize_any p d _).mono ?_
    rintro e w2 ⟨rfl, hb2⟩
    generalize w1.alloc (Obj.cells #[Value.int .i64 p, Value.int .i64 d] 73) = w1' at *
    have HD2 := Lib.hid (HD1.out.below hb2)
    have HB2 := Lib.hid (HB.out.trans (hb2.mono HB.out.size))
    clear hb2 HD1 HB e0 e1 hC22 HSm
    generalize objSize p d = n at *
    go_wp2_with fail
    go_loop [18] (fun i => ∃ k : Nat, k ≤ n ∧ i = .int .i64 k ∧ S.lastsTo a k) (fun i => n - (intOf i).toNat)
    case atStart => exact ⟨0, Nat.zero_le _, rfl, fun i hi => absurd hi (Nat.not_lt_zero _)⟩
    case round =>
      obtain ⟨k, hk, rfl, hl⟩ := hrel
      have HL := Lib.hid hl
      clear hl
      by_cases hlt : k < n
      · have hlt' : (k : Int) < (n : Int) := by omega
        have hw1 : IntKind.i64.wrap (a + (k : Int)) = a + (k : Int) := IntWalk.i64_in _ (by omega)
        go_wp2_with fail
        refine (dlasting_any HD2.out _).mono ?_
        rintro e w3 ⟨rfl, rfl⟩
        go_wp2_with fail
        refine (dget_any HD2.out _).mono ?_
        rintro e w3 ⟨rfl, rfl⟩
        have HN : Hid (peek S.lasting (a + (k : Int)) = peek S.cache (a + (k : Int)) → S.lastsTo a (k + 1)) := Lib.hid (fun he i hi => by
          by_cases e : i = k
          · subst e; exact he
          · exact HL.out i (by omega))
        have HX : Hid (peek S.lasting (a + (k : Int)) ≠ peek S.cache (a + (k : Int)) → R = false) := Lib.hid (fun hne => by rw [HI.out]; exact decide_eq_false (fun h => hne (h.2 k hlt)))
        generalize peek S.lasting (a + (k : Int)) = y1 at *
        generalize peek S.cache (a + (k : Int)) = y2 at *
        by_cases he : y1 = y2
        · have HS := Lib.hid (HN.out he)
          subst he
          have hne : ((y1 : Int) != (y1 : Int)) = false := by simp
          have hne2 : (y1 != y1) = false := by simp
          go_wp2_with fail
          exact ⟨⟨k + 1, by omega, vint (by omega), HS.out⟩, by simp [intOf]; omega⟩
        · have HS := Lib.hid (HX.out he)
          have hne : ((y1 : Int) != (y2 : Int)) = true := by simp; omega
          have hne2 : (y1 != y2) = true := by simpa using he
          clear he
          go_wp2_with fail
          go_ret
          exact ⟨ret_bool HS.out.symm, HB2.out⟩
      · obtain rfl : k = n := by omega
        have hlt' : decide ((k : Int) < (k : Int)) = false := by simp
        have HS : Hid (R = true) := Lib.hid (by rw [HI.out]; exact decide_eq_true ⟨by trivial, HL.out⟩)
        go_wp2_with fail
        go_ret
        exact ⟨ret_bool HS.out.symm, HB2.out⟩
  · have hc2 : c = 22 := hC22.elim (fun h => absurd h hc) id
    subst hc2
    have HV : Hid (R = false) := Lib.hid (by rw [HI.out]; exact decide_eq_false (fun h => hc h.1))
    clear hc hC22
    go_wp2_with fail
    go_ret
    exact ⟨ret_bool HV.out.symm, HB.out⟩

def WordsPost (S : Dev) (a : Int) (w : World) : Ending → World → Prop := fun e w' => Below w.heap.size w w' ∧
      (((headN S a).code = 0 ∧ ∃ v, e = .returned (.tuple #[v, .int .i64 0]) ∧ w'.ownsRow w.heap.size 76 1 v (objSize (headN S a).p (headN S a).d) ((wordsAt S.cache a (objSize (headN S a).p (headN S a).d)).map vu64)) ∨
       ((headN S a).code = 22 ∧ e = .returned (.tuple #[.slice none 0 0, .int .i64 22])))

set_option maxHeartbeats 1000000 in
set_option maxRecDepth 20000 in
theorem owords_any {w : World} {F : Foot} {S : Dev} (h : DevAt w F S) (a : Int) :
    Calls Try.prog 35 #[vdev F, .int .i64 a] w (WordsPost S a w) := by
  generalize hP : WordsPost S a w = Post
  have HP := Lib.hid hP
  clear hP
  have HSm := Lib.hid (head_small h.small (a := a))
  have HD := Lib.hid h
  clear h
  go_enter Try.func35, Try.ntmps35
  go_wp2_with fail
  refine (ohead_any HD.out a).mono ?_
  rintro e w1 ⟨rfl, hb1⟩
  have hC22 := headN_code2 S a
  generalize hX : headN S a = x at *
  have HX := Lib.hid hX
  clear hX
  obtain ⟨p, d, c⟩ := x
  unfold Odec.val
  dsimp only at HSm hC22 ⊢
  have hbx := below_alloc w1 (Obj.cells #[Value.int .i64 p, Value.int .i64 d] 73)
  have hb := hb1.trans (hbx.mono hb1.size)
  have HB := Lib.hid hb
  have HD1 := Lib.hid (HD.out.below hb)
  have e0 : (w1.alloc (Obj.cells #[Value.int .i64 p, Value.int .i64 d] 73)).cell? ⟨w1.heap.size, 0, none⟩ = some (.int .i64 p) := cell_alloc_new _ _ _ 0 _ rfl
  have e1 : (w1.alloc (Obj.cells #[Value.int .i64 p, Value.int .i64 d] 73)).cell? ⟨w1.heap.size, 1, none⟩ = some (.int .i64 d) := cell_alloc_new _ _ _ 1 _ rfl
  clear hb hb1 hbx
  have hsz := objSize_le p d
  by_cases hc : c = 0
  · subst hc
    obtain ⟨ha, _, _⟩ := HSm.out rfl
    go_wp2_with fail
    refine (osize_any p d _).mono ?_
    rintro e w2 ⟨rfl, hb2⟩
    generalize w1.alloc (Obj.cells #[Value.int .i64 p, Value.int .i64 d] 73) = w1' at *
    have HD2 := Lib.hid (HD1.out.below hb2)
    have HB2 := Lib.hid (HB.out.trans (hb2.mono HB.out.size))
    clear hb2 HD1 HB e0 e1 hC22 HSm
    generalize hN : objSize p d = n at *
    have HN := Lib.hid hN
    clear hN
    go_wp2_with fail
    go_loopw [8, 21] (fun v i wr => ∃ k : Nat, k ≤ n ∧ i = .int .i64 k ∧ wr.ownsRow w.heap.size 76 1 v k ((wordsAt S.cache a k).map vu64) ∧ Below w.heap.size w wr) (fun _ i _ => n - (intOf i).toNat)
    case atStart => exact ⟨0, Nat.zero_le _, rfl, ⟨rfl, .inl ⟨rfl, rfl⟩⟩, HB2.out⟩
    case round =>
      obtain ⟨k, hk, rfl, ho, hb⟩ := hrel
      obtain ⟨a1, c1, rfl, hc1, hm1⟩ := owned_form ho
      have HO := Lib.hid ho
      have HB := Lib.hid hb
      clear ho hb
      by_cases hlt : k < n
      · have hlt' : (k : Int) < (n : Int) := by omega
        have hw1 : IntKind.i64.wrap (a + (k : Int)) = a + (k : Int) := IntWalk.i64_in _ (by omega)
        have HS := Lib.hid (wordsAt_succ S.cache a k)
        go_wp2_with fail
        refine (dget_any (HD.out.below HB.out) _).mono ?_
        rintro e w3 ⟨rfl, rfl⟩
        generalize peek S.cache (a + (k : Int)) = y at *
        have hone : Hid (∀ u ∈ (#[vu64 y] : Array Value).toList, u.oneCell' = true) := Lib.hid (by intro u hu; simp at hu; subst hu; rfl)
        have hbase : Hid (w.heap.size ≤ wr.heap.size) := Lib.hid HB.out.size
        have hk9 : k < 1000000000000 := by omega
        go_wp2_with (at_builtin; refine wpList_append_new (us := #[vu64 y]) el64 HO.out rfl hone.out hk9 (by decide) hbase.out rfl rfl rfl (by simp [Act.eval]) ?_; intro g6 c6 w6 ho6 hg6 hc6 hm6 hb6 hl6; have HO6 := Lib.hid ho6; have HG6 := Lib.hid hg6; clear ho6 hg6)
        refine ⟨⟨k + 1, by omega, vint (by omega), ?_, below_grownBy HB.out HO.out HG6.out (Nat.le_refl _) (Nat.le_refl _)⟩, by simp [intOf]; omega⟩
        rw [HS.out]
        simpa using HO6.out
      · obtain rfl : k = n := by omega
        have hlt' : decide ((k : Int) < (k : Int)) = false := by simp
        go_wp2_with fail
        rw [← HP.out]
        refine ⟨HB.out, .inl ⟨by rw [HX.out], _, rfl, ?_⟩⟩
        rw [HX.out]
        dsimp only
        rw [HN.out]
        exact HO.out
  · have hc2 : c = 22 := hC22.elim (fun h => absurd h hc) id
    subst hc2
    clear hc hC22
    go_wp2_with fail
    rw [← HP.out]
    exact ⟨HB.out, .inr ⟨by rw [HX.out], rfl⟩⟩

end Go.Proofs.Ytjgdplengfnkaaa

/- law15: one call at both. -/
namespace Go.Proofs.Ytjgdplengfnkaaa
open Go.RowKit
set_option linter.unusedVariables false

/-- A call at a device. -/
def Dev.op15 (S : Dev) (k a i tt : Int) (x : Nat) (p d : Int) : Done :=
  if k = 0 then S.init a p d else if k = 1 then S.setPtr a i tt else if k = 2 then S.setData a i x else if k = 3 then S.opersist a else if k = 4 then ⟨S.store a x, S.storeE a⟩ else if k = 5 then ⟨S.arm (max i 0), 0⟩ else ⟨S, 0⟩

theorem Dev.op15_fit {S : Dev} {N : Nat} (h : S.fit N) (k a i tt : Int) (x : Nat) (p d : Int) (hx : x < 18446744073709551616) (hto : tt ≤ 9223372036854775807) (hi : i ≤ 9223372036854775807) : (S.op15 k a i tt x p d).dev.fit (N + 200000) := by
  unfold Dev.op15
  split
  · exact (Dev.init_fit h _ _ _).mono (by omega)
  split
  · unfold Dev.setPtr
    split
    · exact h.mono (by omega)
    · split
      · exact h.mono (by omega)
      · exact (Dev.store_fit h _ _ (by omega)).mono (by omega)
  split
  · unfold Dev.setData
    split
    · exact h.mono (by omega)
    · exact (Dev.store_fit h _ _ hx).mono (by omega)
  split
  · unfold Dev.opersist
    split
    · exact h.mono (by omega)
    · exact Dev.persist_fit h _ _
  split
  · exact (Dev.store_fit h _ _ hx).mono (by omega)
  split
  · have h1 := h.ok
    unfold Dev.ok at h1
    refine ⟨⟨h.wf.lenL, h.wf.lenF, h.wf.lenP, h.wf.lenD, h.wf.small, h.wf.u64L, h.wf.u64C, h.wf.u64F⟩, ?_, fun _ => ?_⟩
    · unfold Dev.ok Dev.arm
      dsimp only
      omega
    · unfold Dev.arm
      dsimp only
      omega
  · exact h.mono (by omega)
theorem Dev.op15_dl (S : Dev) (k a i tt : Int) (x : Nat) (p d : Int) : (S.op15 k a i tt x p d).dev.dirty.length = S.dirty.length := by
  unfold Dev.op15
  split
  · exact Dev.init_dl _ _ _ _
  split
  · unfold Dev.setPtr
    split
    · rfl
    · split
      · rfl
      · exact Dev.store_dl _ _ _
  split
  · unfold Dev.setData
    split
    · rfl
    · exact Dev.store_dl _ _ _
  split
  · unfold Dev.opersist
    split
    · rfl
    · exact Dev.persist_dl _ _ _
  split
  · exact Dev.store_dl _ _ _
  split
  · rfl
  · rfl

/-- A boxed device ahead of other blocks of the call's own, the program's device elsewhere. -/
def RBy (v0 : Value) (w W : World) (F : Foot) (q n m : Nat) (T : Dev) (E : List Ent) : Prop := ∃ an cn al cl aw cw ad cd ap cp sv fz dd E', MemR w.heap.size W (⟨q, 31, [.slice an m cn, .slice al m cl, .slice aw m cw, .slice ad m cd, .slice ap m cp, .int .i64 sv, .int .i64 fz, .bool dd], true⟩ :: (E ++ E')) ∧
  RAt W (.agg #[.slice an m cn, .slice al m cl, .slice aw m cw, .slice ad m cd, .slice ap m cp, .int .i64 sv, .int .i64 fz, .bool dd]) m T.ref ∧ (m = 0 ∨ ∀ b, RIn (.agg #[.slice an m cn, .slice al m cl, .slice aw m cw, .slice ad m cd, .slice ap m cp, .int .i64 sv, .int .i64 fz, .bool dd]) b → (b < q ∨ q + n ≤ b) ∧ b ∉ F.list) ∧
  (∀ b, RIn (.agg #[.slice an m cn, .slice al m cl, .slice aw m cw, .slice ad m cd, .slice ap m cp, .int .i64 sv, .int .i64 fz, .bool dd]) b → RIn v0 b ∨ w.heap.size ≤ b) ∧
  DevAt W F T ∧ Touch F.list w W

/-- What a call leaves. -/
def Did (v : Value) (m : Nat) (F : Foot) (T : Dev) (w : World) : Ending → World → Prop := fun e w' => ∃ v', e = .returned (.tuple #[v', .bool true]) ∧ RAt w' v' m T.ref ∧ (∀ b, RIn v' b → RIn v b ∨ w.heap.size ≤ b) ∧ DevAt w' F T ∧ Touch F.list w w'

theorem ap_step {F : Foot} {q n m B : Nat} {v v' : Value} (h1 : m = 0 ∨ ∀ b, RIn v b → b ∉ F.list) (h2 : m = 0 ∨ ∀ b, RIn v b → b < q) (hF : ∀ k ∈ F.list, k < q) (hri : ∀ b, RIn v' b → RIn v b ∨ B ≤ b) (hB : q + n ≤ B) :
    m = 0 ∨ ∀ b, RIn v' b → (b < q ∨ q + n ≤ b) ∧ b ∉ F.list := by
  rcases h1 with h1 | h1
  · exact .inl h1
  rcases h2 with h2 | h2
  · exact .inl h2
  refine .inr fun b hb => ?_
  rcases hri b hb with h | h
  · exact ⟨.inl (h2 b h), h1 b h⟩
  · exact ⟨.inr (by omega), fun hm => by have := hF b hm; omega⟩
theorem rat_arm {W : World} {S : Dev} {an al aw ad ap : Option Addr} {m cn cl cw cd cp : Nat} {st fz : Int} {dd : Bool} {n : Int} (h : RAt W (.agg #[.slice an m cn, .slice al m cl, .slice aw m cw, .slice ad m cd, .slice ap m cp, .int .i64 st, .int .i64 fz, .bool dd]) m S.ref) (hn : 0 ≤ n) :
    RAt W (.agg #[.slice an m cn, .slice al m cl, .slice aw m cw, .slice ad m cd, .slice ap m cp, .int .i64 st, .int .i64 n, .bool dd]) m (S.arm n).ref := by
  obtain ⟨_, _, _, _, _, _, _, _, _, _, he, k1, k2, k3, k4, k5⟩ := h.ex
  cases he
  have e : (S.arm n).ref.fuse = n := by
    unfold Dev.ref Dev.arm
    dsimp only
    rw [if_pos (by simpa using hn)]
  exact ⟨⟨_, _, _, _, _, _, _, _, _, _, by rw [e]; rfl, k1, k2, k3, k4, k5⟩, h.lenN, h.lenL, h.lenW, h.lenD, h.lenP, h.u64N, h.u64L, h.u64W⟩
theorem place_small {S : Dev} (hw : S.cache.length ≤ 1000000) {a i : Int} {data : Bool} (h : (placeN S a i data).code = 0) : -9223372036854775808 ≤ (placeN S a i data).at_ ∧ (placeN S a i data).at_ ≤ 9223372036854775807 := by
  have hs := head_small hw (a := a)
  unfold placeN at h ⊢
  generalize headN S a = x at *
  split at h
  · simp at h
  · rename_i hc
    have hc : x.code = 0 := by simpa using hc
    obtain ⟨h1, h2, h3⟩ := hs hc
    rw [if_neg (by simpa using hc)]
    split
    · split
      · dsimp only; omega
      · dsimp only; omega
    · split
      · dsimp only; omega
      · dsimp only; omega

set_option maxHeartbeats 8000000 in
set_option maxRecDepth 100000 in
theorem do15_any {w : World} {F : Foot} {v : Value} {S : Dev} {m : Nat} (hm : S.dirty.length = m) (hd : DevAt w F S) (h : RAt w v m S.ref) {N : Nat} (hN : N < 1000000000) (hf : S.fit N) (hap : m = 0 ∨ ∀ b, RIn v b → b ∉ F.list)
    (k a i tt p d : Int) (x : Nat) (hx : x < 18446744073709551616) (ha : -9223372036854775808 ≤ a ∧ a ≤ 9223372036854775807) (hi : -9223372036854775808 ≤ i ∧ i ≤ 9223372036854775807) (hto : -9223372036854775808 ≤ tt ∧ tt ≤ 9223372036854775807) :
    Calls Try.prog 58 #[vdev F, v, .agg #[.int .i64 k, .int .i64 a, .int .i64 i, .int .i64 tt, vu64 x, .int .i64 p, .int .i64 d]] w (Did v m F (S.op15 k a i tt x p d).dev w) := by
  subst hm
  obtain ⟨an, cn, al, cl, aw, cw, ad, cd, ap, cp, m, sv, fz, dd, rfl, ho, hdl, hm8, hsv, hfz⟩ := ropen h hf
  have HRA := Lib.hid h
  have HOld := Lib.hid h.old
  rw [hdl] at HRA HOld hap ⊢
  have HAP := Lib.hid hap
  obtain ⟨v0, hv0⟩ : ∃ v0 : Value, v0 = .agg #[.slice an m cn, .slice al m cl, .slice aw m cw, .slice ad m cd, .slice ap m cp, .int .i64 sv, .int .i64 fz, .bool dd] := ⟨_, rfl⟩
  have HV0 := Lib.hid hv0
  have HD := Lib.hid hd
  have HMem := Lib.hid hd.mem
  have HF := Lib.hid hf
  have HOp : Hid (S.op15 k a i tt x p d = if k = 0 then S.init a p d else if k = 1 then S.setPtr a i tt else if k = 2 then S.setData a i x else if k = 3 then S.opersist a else if k = 4 then ⟨S.store a x, S.storeE a⟩ else if k = 5 then ⟨S.arm (max i 0), 0⟩ else ⟨S, 0⟩) := Lib.hid rfl
  generalize hpo : Did _ m F (S.op15 k a i tt x p d).dev w = Post
  generalize S.op15 k a i tt x p d = R at *
  have HDL := Lib.hid hdl
  have HPO := Lib.hid hpo
  clear hdl hpo
  clear h ho hd hap hf hv0
  have HM := Lib.hid (Mem.three w #[.slice an m cn, .slice al m cl, .slice aw m cw, .slice ad m cd, .slice ap m cp, .int .i64 sv, .int .i64 fz, .bool dd] 31 #[.int .i64 k, .int .i64 a, .int .i64 i, .int .i64 tt, vu64 x, .int .i64 p, .int .i64 d] 125 zeroD 31)
  unfold vdev
  go_enter Try.func58, Try.ntmps58
  go_upto_region 1 with fail
  rw [show (#[.slice none 0 0, .slice none 0 0, .slice none 0 0, .slice none 0 0, .slice none 0 0, .int .i64 0, .int .i64 0, .bool false] : Array Value) = zeroD from rfl]
  generalize ((w.alloc _).alloc _).alloc _ = w0 at *
  obtain ⟨q, hq⟩ : ∃ q, q = w.heap.size := ⟨_, rfl⟩
  rw [← hq] at HM ⊢
  have HQ := Lib.hid hq
  clear hq
  have HD0 := Lib.hid (HD.out.below HM.out.below)
  have HRA0 := Lib.hid (HRA.out.below HM.out.below (Nat.le_refl _))
  have HT0 : Hid (Touch F.list w w0) := Lib.hid (Touch.ofBelow HM.out.below)
  have HMR := Lib.hid HM.out.r
  have HFq : Hid (∀ k ∈ F.list, k < q) := Lib.hid (fun k hk => by rw [HQ.out]; exact HMem.out k hk)
  have e0 := HMR.out.cell 1 0 rfl rfl
  have e1 := HMR.out.cell 1 1 rfl rfl
  have e2 := HMR.out.cell 1 2 rfl rfl
  have e3 := HMR.out.cell 1 3 rfl rfl
  have e4 := HMR.out.cell 1 4 rfl rfl
  have e5 := HMR.out.cell 1 5 rfl rfl
  have e6 := HMR.out.cell 1 6 rfl rfl
  go_upto_block 0 with fail
  go_cut [8, 9] from 16 (fun e c wc => e = .int .i64 R.err ∧ c = .int .i64 R.err ∧ RBy v0 w wc F q 3 m R.dev [⟨q + 1, 125, [.int .i64 k, .int .i64 a, .int .i64 i, .int .i64 tt, vu64 x, .int .i64 p, .int .i64 d], true⟩, ⟨q + 2, 31, zeroD.toList, true⟩])
  case first =>
    by_cases k0 : k = 0
    · subst k0
      have HR : Hid (R = S.init a p d) := Lib.hid (by rw [HOp.out, if_pos rfl])
      go_wp2_with fail
      refine (oinit_any HD0.out (N := N) (by omega) HF.out.ok a p d).mono ?_
      rw [← HR.out]
      rintro e w1 ⟨rfl, hd1, ht1⟩
      have HD1 := Lib.hid hd1
      have HMR1 := Lib.hid (HMR.out.touch ht1 (fun k hk => HMem.out k hk))
      have HRA1 := Lib.hid (HRA0.out.touch ht1 HAP.out)
      have HT1 : Hid (Touch F.list w w1) := Lib.hid (HT0.out.trans ht1)
      clear hd1 ht1 HD0 HRA0 HT0 HMR e0 e1 e2 e3 e4 e5 e6
      have e0 := HMR1.out.cell 1 0 rfl rfl
      have e1 := HMR1.out.cell 1 1 rfl rfl
      have e2 := HMR1.out.cell 1 2 rfl rfl
      have e3 := HMR1.out.cell 1 3 rfl rfl
      have e4 := HMR1.out.cell 1 4 rfl rfl
      have e5 := HMR1.out.cell 1 5 rfl rfl
      have e6 := HMR1.out.cell 1 6 rfl rfl
      have d0 := HMR1.out.cell 0 0 rfl rfl
      have d1 := HMR1.out.cell 0 1 rfl rfl
      have d2 := HMR1.out.cell 0 2 rfl rfl
      have d3 := HMR1.out.cell 0 3 rfl rfl
      have d4 := HMR1.out.cell 0 4 rfl rfl
      have d5 := HMR1.out.cell 0 5 rfl rfl
      have d6 := HMR1.out.cell 0 6 rfl rfl
      have d7 := HMR1.out.cell 0 7 rfl rfl
      go_upto_region 6 with fail
      have r_d0 := fun x => later_cell d0 x
      have r_d1 := fun x => later_cell d1 x
      have r_d2 := fun x => later_cell d2 x
      have r_d3 := fun x => later_cell d3 x
      have r_d4 := fun x => later_cell d4 x
      have r_d5 := fun x => later_cell d5 x
      have r_d6 := fun x => later_cell d6 x
      have r_d7 := fun x => later_cell d7 x
      have r_e1 := fun x => later_cell e1 x
      have r_e5 := fun x => later_cell e5 x
      have r_e6 := fun x => later_cell e6 x
      clear d0 d1 d2 d3 d4 d5 d6 d7
      refine wp_region_tr (C := fun w' => ∃ x : Later (w1), w' = x.val) (.fl [0, 1, 2, 3, 4] (.sq [5] true (.sq [6, 7] false (.pu [8, 9] (.sq [10, 11] false (.nil)))))) (by kernel_rfl) (by kernel_rfl) (by intro c a d v w h; cases d <;> exact h) ?_
      simp only [trO, picks, List.getElem?_cons_succ, List.getElem?_cons_zero]
      have hC1 := later_drew (w1)
      refine wpTr_fl hC1 ?_
      repeat (first | go_big_quiet_step (fail) | quiet_step (fail))
      refine wpQuiet_nil ?_
      clear r_d0 r_d1 r_d2 r_d3 r_d4 r_d5 r_d6 r_d7 r_e1 r_e5 r_e6
      refine wpTr_sq (fun K hK => ?_)
      go_wp2_with fail
      refine (lawref8_any p d _).mono ?_
      rintro e w2 ⟨rfl, hb2⟩
      have hC2 := later_step hC1 hb2
      have HM2 := Lib.hid (HMR1.out.later (later_below hC2))
      have HRA2 := Lib.hid (HRA1.out.below (later_below hC2) (Nat.le_refl _))
      have HD2 := Lib.hid (HD1.out.below (later_below hC2))
      have HT2 : Hid (Touch F.list w w2) := Lib.hid (HT1.out.later (later_below hC2))
      clear hb2
      go_wp2_with fail
      refine hK _ _ (fun _ => hC2) ?_
      clear hK K
      refine wpTr_sq (fun K hK => ?_)
      go_wp2_with fail
      refine (rinit15_any HDL.out HRA2.out (N := N) (by omega) HF.out a p d ha).mono ?_
      rw [← HR.out]
      rintro e w3 ⟨v', rfl, hra1, hri1, hb1⟩
      obtain ⟨an1, cn1, al1, cl1, aw1, cw1, ad1, cd1, ap1, cp1, rfl, y1, y2, y3, y4, y5⟩ := hra1.ex
      clear y1 y2 y3 y4 y5
      generalize R.dev.ref.steps = sv1 at *
      generalize R.dev.ref.fuse = fz1 at *
      generalize R.dev.ref.dead = dd1 at *
      have HMx := Lib.hid (HM2.out.later hb1)
      have HR1 := Lib.hid hra1
      have HTx : Hid (Touch F.list w w3) := Lib.hid (HT2.out.later hb1)
      have HDx := Lib.hid (HD2.out.below hb1)
      have hsz3 : q + 3 ≤ w2.heap.size := HM2.out.glt 2 rfl
      have HAP1 := Lib.hid (ap_step (n := 3) HAP.out (by rw [HQ.out]; exact HOld.out) HFq.out hri1 hsz3)
      have HRI1 : Hid (∀ b, RIn (.agg #[.slice an1 m cn1, .slice al1 m cl1, .slice aw1 m cw1, .slice ad1 m cd1, .slice ap1 m cp1, .int .i64 sv1, .int .i64 fz1, .bool dd1]) b → RIn v0 b ∨ w.heap.size ≤ b) := Lib.hid (fun b hb => (hri1 b hb).elim (fun h => .inl (by rw [HV0.out]; exact h)) (fun h => .inr (by have := HQ.out; omega)))
      clear hra1 hri1 hb1
      go_wp2_with fail
      refine hK _ _ (fun h => nomatch h) ?_
      clear hK K
      refine wpTr_pu ?_
      repeat (first | go_big_quiet_step (fail) | quiet_step (fail))
      refine wpQuiet_nil ?_
      clear hC1 hC2
      refine wpTr_last ?_
      go_wp2_with (refine wpList_store_r aggRd HMx.out 0 rfl rfl rfl rfl rfl rfl rfl rfl ?_; intro w9 h9 ht9; have H9 := Lib.hid h9; have HT9 := Lib.hid ht9; clear h9 ht9)
      go_meet
      exact ⟨rfl, rfl, _, _, _, _, _, _, _, _, _, _, _, _, _, _, H9.out, HR1.out.touch HT9.out (HAP1.out.imp id (fun h b hb => by have := (h b hb).1; simp; omega)), HAP1.out, HRI1.out, HDx.out.keep (fun k hk => HT9.out.block k (HDx.out.mem k hk) (by have := HFq.out k hk; simp; omega)), HTx.out.own HT9.out (by intro k hk; simp at hk; subst hk; exact .inl (by have := HQ.out; omega))⟩
    have k0' : (k == 0) = false := by simpa using k0
    by_cases k1 : k = 1
    · subst k1
      have HR : Hid (R = S.setPtr a i tt) := Lib.hid (by rw [HOp.out, if_neg (by decide), if_pos rfl])
      go_wp2_with fail
      refine (osetPtr_any HD0.out (N := N) (by omega) HF.out.ok a i tt hto.2).mono ?_
      rw [← HR.out]
      rintro e w1 ⟨rfl, hd1, ht1⟩
      have HD1 := Lib.hid hd1
      have HMR1 := Lib.hid (HMR.out.touch ht1 (fun k hk => HMem.out k hk))
      have HRA1 := Lib.hid (HRA0.out.touch ht1 HAP.out)
      have HT1 : Hid (Touch F.list w w1) := Lib.hid (HT0.out.trans ht1)
      clear hd1 ht1 HD0 HRA0 HT0 HMR e0 e1 e2 e3 e4 e5 e6
      have e0 := HMR1.out.cell 1 0 rfl rfl
      have e1 := HMR1.out.cell 1 1 rfl rfl
      have e2 := HMR1.out.cell 1 2 rfl rfl
      have e3 := HMR1.out.cell 1 3 rfl rfl
      have e4 := HMR1.out.cell 1 4 rfl rfl
      have e5 := HMR1.out.cell 1 5 rfl rfl
      have e6 := HMR1.out.cell 1 6 rfl rfl
      have HSP : Hid (S.setPtr a i tt = if (placeN S a i false).code ≠ 0 then ⟨S, (placeN S a i false).code⟩ else if tt < 0 then ⟨S, 1⟩ else ⟨S.store (placeN S a i false).at_ tt.toNat, S.storeE (placeN S a i false).at_⟩) := Lib.hid rfl
      have HPS := Lib.hid (place_small HF.out.wf.small (a := a) (i := i) (data := false))
      go_wp2_with (refine wpList_load_r aggRd HMR1.out 0 rfl rfl rfl rfl rfl ?_)
      refine (rplace15_any HDL.out HRA1.out HF.out a i false).mono ?_
      rintro e w2 ⟨rfl, hb2⟩
      generalize placeN S a i false = pn at *
      obtain ⟨pat, pc⟩ := pn
      dsimp only at HSP HPS ⊢
      have HM2 := Lib.hid (HMR1.out.later hb2)
      have HRA2 := Lib.hid (HRA1.out.below hb2 (Nat.le_refl _))
      have HD2 := Lib.hid (HD1.out.below hb2)
      have HT2 : Hid (Touch F.list w w2) := Lib.hid (HT1.out.later hb2)
      clear hb2 e0 e1 e2 e3 e4 e5 e6 HMR1 HRA1 HD1 HT1
      have e3 := HM2.out.cell 1 3 rfl rfl
      by_cases hc : pc = 0
      · subst hc
        have hpsm := HPS.out rfl
        by_cases ht0 : tt < 0
        · have HV : Hid (R = ⟨S, 1⟩) := Lib.hid (by rw [HR.out, HSP.out, if_neg (by simp), if_pos ht0])
          go_wp2_with fail
          go_meet
          rw [HV.out]
          exact ⟨rfl, rfl, _, _, _, _, _, _, _, _, _, _, _, _, _, [], HM2.out, HRA2.out, ap_step (n := 3) (B := q + 3) HAP.out (by rw [HQ.out]; exact HOld.out) HFq.out (fun b hb => .inl hb) (Nat.le_refl _), fun b hb => .inl (by rw [HV0.out]; exact hb), by have := HD2.out; rwa [HV.out] at this, HT2.out⟩
        · obtain ⟨y, rfl⟩ := Int.eq_ofNat_of_zero_le (show 0 ≤ tt by omega)
          have HV : Hid (R = ⟨S.store pat y, S.storeE pat⟩) := Lib.hid (by rw [HR.out, HSP.out, if_neg (by simp), if_neg ht0]; rfl)
          have hy : y < 18446744073709551616 := by omega
          go_wp2_with (refine wpList_load_r aggRd HM2.out 0 rfl rfl rfl rfl rfl ?_)
          refine (rstore_m HDL.out HRA2.out (N := N) (by omega) HF.out pat y hy hpsm).mono ?_
          rw [show S.store pat y = R.dev by rw [HV.out], show S.storeE pat = R.err by rw [HV.out]]
          rintro e w3 ⟨v', rfl, hra1, hri1, hb1⟩
          obtain ⟨an1, cn1, al1, cl1, aw1, cw1, ad1, cd1, ap1, cp1, rfl, y1, y2, y3, y4, y5⟩ := hra1.ex
          clear y1 y2 y3 y4 y5
          generalize R.dev.ref.steps = sv1 at *
          generalize R.dev.ref.fuse = fz1 at *
          generalize R.dev.ref.dead = dd1 at *
          have HMx := Lib.hid (HM2.out.later hb1)
          have HR1 := Lib.hid hra1
          have HTx : Hid (Touch F.list w w3) := Lib.hid (HT2.out.later hb1)
          have HDx := Lib.hid (HD2.out.below hb1)
          have hsz3 : q + 3 ≤ w2.heap.size := HM2.out.glt 2 rfl
          have HAP1 := Lib.hid (ap_step (n := 3) HAP.out (by rw [HQ.out]; exact HOld.out) HFq.out hri1 hsz3)
          have HRI1 : Hid (∀ b, RIn (.agg #[.slice an1 m cn1, .slice al1 m cl1, .slice aw1 m cw1, .slice ad1 m cd1, .slice ap1 m cp1, .int .i64 sv1, .int .i64 fz1, .bool dd1]) b → RIn v0 b ∨ w.heap.size ≤ b) := Lib.hid (fun b hb => (hri1 b hb).elim (fun h => .inl (by rw [HV0.out]; exact h)) (fun h => .inr (by have := HQ.out; omega)))
          clear hra1 hri1 hb1
          go_wp2_with (refine wpList_store_r aggRd HMx.out 0 rfl rfl rfl rfl rfl rfl rfl rfl ?_; intro w9 h9 ht9; have H9 := Lib.hid h9; have HT9 := Lib.hid ht9; clear h9 ht9)
          go_meet
          exact ⟨rfl, rfl, _, _, _, _, _, _, _, _, _, _, _, _, _, _, H9.out, HR1.out.touch HT9.out (HAP1.out.imp id (fun h b hb => by have := (h b hb).1; simp; omega)), HAP1.out, HRI1.out, HDx.out.keep (fun k hk => HT9.out.block k (HDx.out.mem k hk) (by have := HFq.out k hk; simp; omega)), HTx.out.own HT9.out (by intro k hk; simp at hk; subst hk; exact .inl (by have := HQ.out; omega))⟩
      · have HV : Hid (R = ⟨S, pc⟩) := Lib.hid (by rw [HR.out, HSP.out, if_pos hc])
        have hc1 : (pc == 0) = false := by simpa using hc
        clear hc
        go_wp2_with fail
        go_meet
        rw [HV.out]
        exact ⟨rfl, rfl, _, _, _, _, _, _, _, _, _, _, _, _, _, [], HM2.out, HRA2.out, ap_step (n := 3) (B := q + 3) HAP.out (by rw [HQ.out]; exact HOld.out) HFq.out (fun b hb => .inl hb) (Nat.le_refl _), fun b hb => .inl (by rw [HV0.out]; exact hb), by have := HD2.out; rwa [HV.out] at this, HT2.out⟩
    have k1' : (k == 1) = false := by simpa using k1
    by_cases k2 : k = 2
    · subst k2
      have HR : Hid (R = S.setData a i x) := Lib.hid (by rw [HOp.out, if_neg (by decide), if_neg (by decide), if_pos rfl])
      go_wp2_with fail
      refine (osetData_any HD0.out (N := N) (by omega) HF.out.ok a i x hx).mono ?_
      rw [← HR.out]
      rintro e w1 ⟨rfl, hd1, ht1⟩
      have HD1 := Lib.hid hd1
      have HMR1 := Lib.hid (HMR.out.touch ht1 (fun k hk => HMem.out k hk))
      have HRA1 := Lib.hid (HRA0.out.touch ht1 HAP.out)
      have HT1 : Hid (Touch F.list w w1) := Lib.hid (HT0.out.trans ht1)
      clear hd1 ht1 HD0 HRA0 HT0 HMR e0 e1 e2 e3 e4 e5 e6
      have e0 := HMR1.out.cell 1 0 rfl rfl
      have e1 := HMR1.out.cell 1 1 rfl rfl
      have e2 := HMR1.out.cell 1 2 rfl rfl
      have e3 := HMR1.out.cell 1 3 rfl rfl
      have e4 := HMR1.out.cell 1 4 rfl rfl
      have e5 := HMR1.out.cell 1 5 rfl rfl
      have e6 := HMR1.out.cell 1 6 rfl rfl
      have HSP : Hid (S.setData a i x = if (placeN S a i true).code ≠ 0 then ⟨S, (placeN S a i true).code⟩ else ⟨S.store (placeN S a i true).at_ x, S.storeE (placeN S a i true).at_⟩) := Lib.hid rfl
      have HPS := Lib.hid (place_small HF.out.wf.small (a := a) (i := i) (data := true))
      go_wp2_with (refine wpList_load_r aggRd HMR1.out 0 rfl rfl rfl rfl rfl ?_)
      refine (rplace15_any HDL.out HRA1.out HF.out a i true).mono ?_
      rintro e w2 ⟨rfl, hb2⟩
      generalize placeN S a i true = pn at *
      obtain ⟨pat, pc⟩ := pn
      dsimp only at HSP HPS ⊢
      have HM2 := Lib.hid (HMR1.out.later hb2)
      have HRA2 := Lib.hid (HRA1.out.below hb2 (Nat.le_refl _))
      have HD2 := Lib.hid (HD1.out.below hb2)
      have HT2 : Hid (Touch F.list w w2) := Lib.hid (HT1.out.later hb2)
      clear hb2 e0 e1 e2 e3 e4 e5 e6 HMR1 HRA1 HD1 HT1
      have e4 := HM2.out.cell 1 4 rfl rfl
      by_cases hc : pc = 0
      · subst hc
        have hpsm := HPS.out rfl
        have HV : Hid (R = ⟨S.store pat x, S.storeE pat⟩) := Lib.hid (by rw [HR.out, HSP.out, if_neg (by simp)])
        go_wp2_with (refine wpList_load_r aggRd HM2.out 0 rfl rfl rfl rfl rfl ?_)
        refine (rstore_m HDL.out HRA2.out (N := N) (by omega) HF.out pat x hx hpsm).mono ?_
        rw [show S.store pat x = R.dev by rw [HV.out], show S.storeE pat = R.err by rw [HV.out]]
        rintro e w3 ⟨v', rfl, hra1, hri1, hb1⟩
        obtain ⟨an1, cn1, al1, cl1, aw1, cw1, ad1, cd1, ap1, cp1, rfl, y1, y2, y3, y4, y5⟩ := hra1.ex
        clear y1 y2 y3 y4 y5
        generalize R.dev.ref.steps = sv1 at *
        generalize R.dev.ref.fuse = fz1 at *
        generalize R.dev.ref.dead = dd1 at *
        have HMx := Lib.hid (HM2.out.later hb1)
        have HR1 := Lib.hid hra1
        have HTx : Hid (Touch F.list w w3) := Lib.hid (HT2.out.later hb1)
        have HDx := Lib.hid (HD2.out.below hb1)
        have hsz3 : q + 3 ≤ w2.heap.size := HM2.out.glt 2 rfl
        have HAP1 := Lib.hid (ap_step (n := 3) HAP.out (by rw [HQ.out]; exact HOld.out) HFq.out hri1 hsz3)
        have HRI1 : Hid (∀ b, RIn (.agg #[.slice an1 m cn1, .slice al1 m cl1, .slice aw1 m cw1, .slice ad1 m cd1, .slice ap1 m cp1, .int .i64 sv1, .int .i64 fz1, .bool dd1]) b → RIn v0 b ∨ w.heap.size ≤ b) := Lib.hid (fun b hb => (hri1 b hb).elim (fun h => .inl (by rw [HV0.out]; exact h)) (fun h => .inr (by have := HQ.out; omega)))
        clear hra1 hri1 hb1
        go_wp2_with (refine wpList_store_r aggRd HMx.out 0 rfl rfl rfl rfl rfl rfl rfl rfl ?_; intro w9 h9 ht9; have H9 := Lib.hid h9; have HT9 := Lib.hid ht9; clear h9 ht9)
        go_meet
        exact ⟨rfl, rfl, _, _, _, _, _, _, _, _, _, _, _, _, _, _, H9.out, HR1.out.touch HT9.out (HAP1.out.imp id (fun h b hb => by have := (h b hb).1; simp; omega)), HAP1.out, HRI1.out, HDx.out.keep (fun k hk => HT9.out.block k (HDx.out.mem k hk) (by have := HFq.out k hk; simp; omega)), HTx.out.own HT9.out (by intro k hk; simp at hk; subst hk; exact .inl (by have := HQ.out; omega))⟩
      · have HV : Hid (R = ⟨S, pc⟩) := Lib.hid (by rw [HR.out, HSP.out, if_pos hc])
        have hc1 : (pc == 0) = false := by simpa using hc
        clear hc
        go_wp2_with fail
        go_meet
        rw [HV.out]
        exact ⟨rfl, rfl, _, _, _, _, _, _, _, _, _, _, _, _, _, [], HM2.out, HRA2.out, ap_step (n := 3) (B := q + 3) HAP.out (by rw [HQ.out]; exact HOld.out) HFq.out (fun b hb => .inl hb) (Nat.le_refl _), fun b hb => .inl (by rw [HV0.out]; exact hb), by have := HD2.out; rwa [HV.out] at this, HT2.out⟩
    have k2' : (k == 2) = false := by simpa using k2
    by_cases k3 : k = 3
    · subst k3
      have HR : Hid (R = S.opersist a) := Lib.hid (by rw [HOp.out, if_neg (by decide), if_neg (by decide), if_neg (by decide), if_pos rfl])
      go_wp2_with fail
      refine (opersist_any HD0.out (N := N) (by omega) HF.out.ok a).mono ?_
      rw [← HR.out]
      rintro e w1 ⟨rfl, hd1, ht1⟩
      have HD1 := Lib.hid hd1
      have HMR1 := Lib.hid (HMR.out.touch ht1 (fun k hk => HMem.out k hk))
      have HRA1 := Lib.hid (HRA0.out.touch ht1 HAP.out)
      have HT1 : Hid (Touch F.list w w1) := Lib.hid (HT0.out.trans ht1)
      clear hd1 ht1 HD0 HRA0 HT0 HMR e0 e1 e2 e3 e4 e5 e6
      have e0 := HMR1.out.cell 1 0 rfl rfl
      have e1 := HMR1.out.cell 1 1 rfl rfl
      have e2 := HMR1.out.cell 1 2 rfl rfl
      have e3 := HMR1.out.cell 1 3 rfl rfl
      have e4 := HMR1.out.cell 1 4 rfl rfl
      have e5 := HMR1.out.cell 1 5 rfl rfl
      have e6 := HMR1.out.cell 1 6 rfl rfl
      have HSP : Hid (S.opersist a = if (headN S a).code ≠ 0 then ⟨S, (headN S a).code⟩ else S.persist a (objSize (headN S a).p (headN S a).d : Nat)) := Lib.hid rfl
      have hC22 := headN_code2 S a
      go_wp2_with (refine wpList_load_r aggRd HMR1.out 0 rfl rfl rfl rfl rfl ?_)
      refine (rhead15_any HDL.out HRA1.out HF.out a).mono ?_
      rintro e w2 ⟨rfl, hb2⟩
      generalize headN S a = o at *
      obtain ⟨p', d', c⟩ := o
      unfold headV
      dsimp only at HSP hC22 ⊢
      have HM2 := Lib.hid (HMR1.out.later hb2)
      have HRA2 := Lib.hid (HRA1.out.below hb2 (Nat.le_refl _))
      have HD2 := Lib.hid (HD1.out.below hb2)
      have HT2 : Hid (Touch F.list w w2) := Lib.hid (HT1.out.later hb2)
      clear hb2 e0 e1 e2 e3 e4 e5 e6 HMR1 HRA1 HD1 HT1
      have HM3 := Lib.hid (HM2.out.alloc #[.int .i64 p', .int .i64 d'] 88)
      have HD3 := Lib.hid (HD2.out.below (below_alloc w2 (.cells #[.int .i64 p', .int .i64 d'] 88)))
      have HRA3 := Lib.hid (HRA2.out.below (below_alloc w2 (.cells #[.int .i64 p', .int .i64 d'] 88)) (Nat.le_refl _))
      have HT3 : Hid (Touch F.list w (w2.alloc (.cells #[.int .i64 p', .int .i64 d'] 88))) := Lib.hid (HT2.out.later (below_alloc w2 _))
      by_cases hc : c = 0
      · subst hc
        have HV : Hid (R = S.persist a (objSize p' d' : Nat)) := Lib.hid (by rw [HR.out, HSP.out, if_neg (by simp)])
        rw [decide_eq_true (show (0 : Int) = 0 from rfl)]
        clear hC22
        go_upto_region 24 with fail
        generalize w2.alloc _ = w3 at *
        generalize w2.heap.size = gg at *
        have HMR1 := HM3
        have e1 := HM3.out.cell 1 1 rfl rfl
        have o0 := HM3.out.cell 3 0 rfl rfl
        have o1 := HM3.out.cell 3 1 rfl rfl
        have d0 := HM3.out.cell 0 0 rfl rfl
        have d1 := HM3.out.cell 0 1 rfl rfl
        have d2 := HM3.out.cell 0 2 rfl rfl
        have d3 := HM3.out.cell 0 3 rfl rfl
        have d4 := HM3.out.cell 0 4 rfl rfl
        have d5 := HM3.out.cell 0 5 rfl rfl
        have d6 := HM3.out.cell 0 6 rfl rfl
        have d7 := HM3.out.cell 0 7 rfl rfl
        go_upto_region 26 with fail
        have r_d0 := fun x => later_cell d0 x
        have r_d1 := fun x => later_cell d1 x
        have r_d2 := fun x => later_cell d2 x
        have r_d3 := fun x => later_cell d3 x
        have r_d4 := fun x => later_cell d4 x
        have r_d5 := fun x => later_cell d5 x
        have r_d6 := fun x => later_cell d6 x
        have r_d7 := fun x => later_cell d7 x
        have r_e1 := fun x => later_cell e1 x
        have r_o0 := fun x => later_cell o0 x
        have r_o1 := fun x => later_cell o1 x
        clear d0 d1 d2 d3 d4 d5 d6 d7
        refine wp_region_tr (C := fun w' => ∃ x : Later (w3), w' = x.val) (.fl [0, 1, 2, 3] (.sq [4] true (.sq [5, 6] false (.pu [7, 8] (.sq [9, 10] false (.nil)))))) (by kernel_rfl) (by kernel_rfl) (by intro c a d v w h; cases d <;> exact h) ?_
        simp only [trO, picks, List.getElem?_cons_succ, List.getElem?_cons_zero]
        have hC1 := later_drew (w3)
        refine wpTr_fl hC1 ?_
        repeat (first | go_big_quiet_step (fail) | quiet_step (fail))
        refine wpQuiet_nil ?_
        clear r_d0 r_d1 r_d2 r_d3 r_d4 r_d5 r_d6 r_d7 r_e1 r_o0 r_o1
        refine wpTr_sq (fun K hK => ?_)
        go_wp2_with fail
        refine (rsize8_any p' d' _).mono ?_
        rintro e w4 ⟨rfl, hb4⟩
        have hC2 := later_step hC1 hb4
        have HM4 := Lib.hid (HM3.out.later (later_below hC2))
        have HRA4 := Lib.hid (HRA3.out.below (later_below hC2) (Nat.le_refl _))
        have HD4 := Lib.hid (HD3.out.below (later_below hC2))
        have HT4 : Hid (Touch F.list w w4) := Lib.hid (HT3.out.later (later_below hC2))
        clear hb4
        go_wp2_with fail
        refine hK _ _ (fun _ => hC2) ?_
        clear hK K
        refine wpTr_sq (fun K hK => ?_)
        go_wp2_with fail
        refine (rpersist_m HDL.out HRA4.out (N := N) (by omega) HF.out a _).mono ?_
        rw [← HV.out]
        rintro e w5 ⟨v', rfl, hra1, hri1, hb1⟩
        obtain ⟨an1, cn1, al1, cl1, aw1, cw1, ad1, cd1, ap1, cp1, rfl, y1, y2, y3, y4, y5⟩ := hra1.ex
        clear y1 y2 y3 y4 y5
        generalize R.dev.ref.steps = sv1 at *
        generalize R.dev.ref.fuse = fz1 at *
        generalize R.dev.ref.dead = dd1 at *
        have HMx := Lib.hid (HM4.out.later hb1)
        have HR1 := Lib.hid hra1
        have HTx : Hid (Touch F.list w w5) := Lib.hid (HT4.out.later hb1)
        have HDx := Lib.hid (HD4.out.below hb1)
        have hsz3 : q + 3 ≤ w4.heap.size := HM4.out.glt 2 rfl
        have HAP1 := Lib.hid (ap_step (n := 3) HAP.out (by rw [HQ.out]; exact HOld.out) HFq.out hri1 hsz3)
        have HRI1 : Hid (∀ b, RIn (.agg #[.slice an1 m cn1, .slice al1 m cl1, .slice aw1 m cw1, .slice ad1 m cd1, .slice ap1 m cp1, .int .i64 sv1, .int .i64 fz1, .bool dd1]) b → RIn v0 b ∨ w.heap.size ≤ b) := Lib.hid (fun b hb => (hri1 b hb).elim (fun h => .inl (by rw [HV0.out]; exact h)) (fun h => .inr (by have := HQ.out; omega)))
        clear hra1 hri1 hb1
        go_wp2_with fail
        refine hK _ _ (fun h => nomatch h) ?_
        clear hK K
        refine wpTr_pu ?_
        repeat (first | go_big_quiet_step (fail) | quiet_step (fail))
        refine wpQuiet_nil ?_
        clear hC1 hC2
        refine wpTr_last ?_
        go_wp2_with (refine wpList_store_r aggRd HMx.out 0 rfl rfl rfl rfl rfl rfl rfl rfl ?_; intro w9 h9 ht9; have H9 := Lib.hid h9; have HT9 := Lib.hid ht9; clear h9 ht9)
        go_meet
        exact ⟨rfl, rfl, _, _, _, _, _, _, _, _, _, _, _, _, _, _, H9.out, HR1.out.touch HT9.out (HAP1.out.imp id (fun h b hb => by have := (h b hb).1; simp; omega)), HAP1.out, HRI1.out, HDx.out.keep (fun k hk => HT9.out.block k (HDx.out.mem k hk) (by have := HFq.out k hk; simp; omega)), HTx.out.own HT9.out (by intro k hk; simp at hk; subst hk; exact .inl (by have := HQ.out; omega))⟩
      · have hc2 : c = 22 := hC22.elim (fun h => absurd h hc) id
        subst hc2
        have HV : Hid (R = ⟨S, 22⟩) := Lib.hid (by rw [HR.out, HSP.out, if_pos hc])
        rw [decide_eq_false hc]
        clear hc hC22
        go_upto_region 24 with fail
        generalize w2.alloc _ = w3 at *
        go_wp2_with fail
        go_meet
        rw [HV.out]
        exact ⟨rfl, rfl, _, _, _, _, _, _, _, _, _, _, _, _, _, _, HM3.out, HRA3.out, ap_step (n := 3) (B := q + 3) HAP.out (by rw [HQ.out]; exact HOld.out) HFq.out (fun b hb => .inl hb) (Nat.le_refl _), fun b hb => .inl (by rw [HV0.out]; exact hb), by have := HD3.out; rwa [HV.out] at this, HT3.out⟩
    have k3' : (k == 3) = false := by simpa using k3
    by_cases k4 : k = 4
    · subst k4
      have HR : Hid (R = ⟨S.store a x, S.storeE a⟩) := Lib.hid (by rw [HOp.out, if_neg (by decide), if_neg (by decide), if_neg (by decide), if_neg (by decide), if_pos rfl])
      go_wp2_with fail
      refine (store_any HD0.out (N := N) (by omega) HF.out.ok a x hx).mono ?_
      rw [show S.store a x = R.dev by rw [HR.out], show S.storeE a = R.err by rw [HR.out]]
      rintro e w1 ⟨rfl, hd1, ht1⟩
      have HD1 := Lib.hid hd1
      have HMR1 := Lib.hid (HMR.out.touch ht1 (fun k hk => HMem.out k hk))
      have HRA1 := Lib.hid (HRA0.out.touch ht1 HAP.out)
      have HT1 : Hid (Touch F.list w w1) := Lib.hid (HT0.out.trans ht1)
      clear hd1 ht1 HD0 HRA0 HT0 HMR e0 e1 e2 e3 e4 e5 e6
      have e0 := HMR1.out.cell 1 0 rfl rfl
      have e1 := HMR1.out.cell 1 1 rfl rfl
      have e2 := HMR1.out.cell 1 2 rfl rfl
      have e3 := HMR1.out.cell 1 3 rfl rfl
      have e4 := HMR1.out.cell 1 4 rfl rfl
      have e5 := HMR1.out.cell 1 5 rfl rfl
      have e6 := HMR1.out.cell 1 6 rfl rfl
      go_wp2_with (refine wpList_load_r aggRd HMR1.out 0 rfl rfl rfl rfl rfl ?_)
      refine (rstore_m HDL.out HRA1.out (N := N) (by omega) HF.out a x hx ha).mono ?_
      rw [show S.store a x = R.dev by rw [HR.out], show S.storeE a = R.err by rw [HR.out]]
      rintro e w3 ⟨v', rfl, hra1, hri1, hb1⟩
      obtain ⟨an1, cn1, al1, cl1, aw1, cw1, ad1, cd1, ap1, cp1, rfl, y1, y2, y3, y4, y5⟩ := hra1.ex
      clear y1 y2 y3 y4 y5
      generalize R.dev.ref.steps = sv1 at *
      generalize R.dev.ref.fuse = fz1 at *
      generalize R.dev.ref.dead = dd1 at *
      have HMx := Lib.hid (HMR1.out.later hb1)
      have HR1 := Lib.hid hra1
      have HTx : Hid (Touch F.list w w3) := Lib.hid (HT1.out.later hb1)
      have HDx := Lib.hid (HD1.out.below hb1)
      have hsz3 : q + 3 ≤ w1.heap.size := HMR1.out.glt 2 rfl
      have HAP1 := Lib.hid (ap_step (n := 3) HAP.out (by rw [HQ.out]; exact HOld.out) HFq.out hri1 hsz3)
      have HRI1 : Hid (∀ b, RIn (.agg #[.slice an1 m cn1, .slice al1 m cl1, .slice aw1 m cw1, .slice ad1 m cd1, .slice ap1 m cp1, .int .i64 sv1, .int .i64 fz1, .bool dd1]) b → RIn v0 b ∨ w.heap.size ≤ b) := Lib.hid (fun b hb => (hri1 b hb).elim (fun h => .inl (by rw [HV0.out]; exact h)) (fun h => .inr (by have := HQ.out; omega)))
      clear hra1 hri1 hb1
      clear e0 e1 e2 e3 e4 e5 e6
      go_wp2_with (refine wpList_store_r aggRd HMx.out 0 rfl rfl rfl rfl rfl rfl rfl rfl ?_; intro w9 h9 ht9; have H9 := Lib.hid h9; have HT9 := Lib.hid ht9; clear h9 ht9)
      go_meet
      exact ⟨rfl, rfl, _, _, _, _, _, _, _, _, _, _, _, _, _, _, H9.out, HR1.out.touch HT9.out (HAP1.out.imp id (fun h b hb => by have := (h b hb).1; simp; omega)), HAP1.out, HRI1.out, HDx.out.keep (fun k hk => HT9.out.block k (HDx.out.mem k hk) (by have := HFq.out k hk; simp; omega)), HTx.out.own HT9.out (by intro k hk; simp at hk; subst hk; exact .inl (by have := HQ.out; omega))⟩
    have k4' : (k == 4) = false := by simpa using k4
    by_cases k5 : k = 5
    · subst k5
      have HR0 : Hid (R = ⟨S.arm (max i 0), 0⟩) := Lib.hid (by rw [HOp.out, if_neg (by decide), if_neg (by decide), if_neg (by decide), if_neg (by decide), if_neg (by decide), if_pos rfl])
      by_cases hi0 : 0 ≤ i
      · have HR : Hid (R = ⟨S.arm i, 0⟩) := Lib.hid (by rw [HR0.out, Int.max_eq_left hi0])
        go_wp2_with fail
        refine (darm_any HD0.out _).mono ?_
        rintro e w1 ⟨rfl, hd1, ht1'⟩
        have ht1 : Touch F.list w0 w1 := ⟨ht1'.os, ht1'.tape, ht1'.output, ht1'.size, fun k hk hn => ht1'.block k hk (fun h => hn (by simp at h; simp [Foot.list, h]))⟩
        clear ht1'
        have HD1 := Lib.hid hd1
        have HMR1 := Lib.hid (HMR.out.touch ht1 (fun k hk => HMem.out k hk))
        have HRA1 := Lib.hid (HRA0.out.touch ht1 HAP.out)
        have HT1 : Hid (Touch F.list w w1) := Lib.hid (HT0.out.trans ht1)
        clear hd1 ht1 HD0 HRA0 HT0 HMR e0 e1 e2 e3 e4 e5 e6
        have e0 := HMR1.out.cell 1 0 rfl rfl
        have e1 := HMR1.out.cell 1 1 rfl rfl
        have e2 := HMR1.out.cell 1 2 rfl rfl
        have e3 := HMR1.out.cell 1 3 rfl rfl
        have e4 := HMR1.out.cell 1 4 rfl rfl
        have e5 := HMR1.out.cell 1 5 rfl rfl
        have e6 := HMR1.out.cell 1 6 rfl rfl
        have d6 := HMR1.out.cell 0 6 rfl rfl
        have f6 := HMR1.out.frozen 0 6 rfl
        have HMx := Lib.hid (HMR1.out.set 0 6 (.int .i64 i) rfl (by simp))
        have HT9 : Hid (Touch [q] w1 (w1.setCell ⟨q, 6, none⟩ (.int .i64 i))) := Lib.hid (Touch.setCell _ (by simp) _)
        have HR1 := Lib.hid (rat_arm (n := i) HRA1.out (by omega))
        have hri1 : ∀ b, RIn (.agg #[.slice an m cn, .slice al m cl, .slice aw m cw, .slice ad m cd, .slice ap m cp, .int .i64 sv, .int .i64 i, .bool dd]) b → RIn (.agg #[.slice an m cn, .slice al m cl, .slice aw m cw, .slice ad m cd, .slice ap m cp, .int .i64 sv, .int .i64 fz, .bool dd]) b ∨ q + 3 ≤ b := fun b hb => .inl (by rw [rin8] at hb ⊢; exact hb)
        have HAP1 := Lib.hid (ap_step (n := 3) HAP.out (by rw [HQ.out]; exact HOld.out) HFq.out hri1 (Nat.le_refl _))
        have HRI1 : Hid (∀ b, RIn (.agg #[.slice an m cn, .slice al m cl, .slice aw m cw, .slice ad m cd, .slice ap m cp, .int .i64 sv, .int .i64 i, .bool dd]) b → RIn v0 b ∨ w.heap.size ≤ b) := Lib.hid (fun b hb => .inl (by rw [rin8] at hb; rw [HV0.out, rin8]; exact hb))
        clear hri1
        go_wp2_with fail
        go_meet
        rw [HR.out]
        exact ⟨rfl, rfl, _, _, _, _, _, _, _, _, _, _, _, _, _, [], HMx.out, HR1.out.touch HT9.out (HAP1.out.imp id (fun h b hb => by have := (h b hb).1; simp; omega)), HAP1.out, HRI1.out, HD1.out.keep (fun k hk => HT9.out.block k (HD1.out.mem k hk) (by have := HFq.out k hk; simp; omega)), HT1.out.own HT9.out (by intro k hk; simp at hk; subst hk; exact .inl (by have := HQ.out; omega))⟩

      · have HR : Hid (R = ⟨S.arm 0, 0⟩) := Lib.hid (by rw [HR0.out, Int.max_eq_right (by omega)])
        go_wp2_with fail
        refine (darm_any HD0.out _).mono ?_
        rintro e w1 ⟨rfl, hd1, ht1'⟩
        have ht1 : Touch F.list w0 w1 := ⟨ht1'.os, ht1'.tape, ht1'.output, ht1'.size, fun k hk hn => ht1'.block k hk (fun h => hn (by simp at h; simp [Foot.list, h]))⟩
        clear ht1'
        have HD1 := Lib.hid hd1
        have HMR1 := Lib.hid (HMR.out.touch ht1 (fun k hk => HMem.out k hk))
        have HRA1 := Lib.hid (HRA0.out.touch ht1 HAP.out)
        have HT1 : Hid (Touch F.list w w1) := Lib.hid (HT0.out.trans ht1)
        clear hd1 ht1 HD0 HRA0 HT0 HMR e0 e1 e2 e3 e4 e5 e6
        have e0 := HMR1.out.cell 1 0 rfl rfl
        have e1 := HMR1.out.cell 1 1 rfl rfl
        have e2 := HMR1.out.cell 1 2 rfl rfl
        have e3 := HMR1.out.cell 1 3 rfl rfl
        have e4 := HMR1.out.cell 1 4 rfl rfl
        have e5 := HMR1.out.cell 1 5 rfl rfl
        have e6 := HMR1.out.cell 1 6 rfl rfl
        have d6 := HMR1.out.cell 0 6 rfl rfl
        have f6 := HMR1.out.frozen 0 6 rfl
        have HMx := Lib.hid (HMR1.out.set 0 6 (.int .i64 0) rfl (by simp))
        have HT9 : Hid (Touch [q] w1 (w1.setCell ⟨q, 6, none⟩ (.int .i64 0))) := Lib.hid (Touch.setCell _ (by simp) _)
        have HR1 := Lib.hid (rat_arm (n := 0) HRA1.out (by omega))
        have hri1 : ∀ b, RIn (.agg #[.slice an m cn, .slice al m cl, .slice aw m cw, .slice ad m cd, .slice ap m cp, .int .i64 sv, .int .i64 0, .bool dd]) b → RIn (.agg #[.slice an m cn, .slice al m cl, .slice aw m cw, .slice ad m cd, .slice ap m cp, .int .i64 sv, .int .i64 fz, .bool dd]) b ∨ q + 3 ≤ b := fun b hb => .inl (by rw [rin8] at hb ⊢; exact hb)
        have HAP1 := Lib.hid (ap_step (n := 3) HAP.out (by rw [HQ.out]; exact HOld.out) HFq.out hri1 (Nat.le_refl _))
        have HRI1 : Hid (∀ b, RIn (.agg #[.slice an m cn, .slice al m cl, .slice aw m cw, .slice ad m cd, .slice ap m cp, .int .i64 sv, .int .i64 0, .bool dd]) b → RIn v0 b ∨ w.heap.size ≤ b) := Lib.hid (fun b hb => .inl (by rw [rin8] at hb; rw [HV0.out, rin8]; exact hb))
        clear hri1
        go_wp2_with fail
        go_meet
        rw [HR.out]
        exact ⟨rfl, rfl, _, _, _, _, _, _, _, _, _, _, _, _, _, [], HMx.out, HR1.out.touch HT9.out (HAP1.out.imp id (fun h b hb => by have := (h b hb).1; simp; omega)), HAP1.out, HRI1.out, HD1.out.keep (fun k hk => HT9.out.block k (HD1.out.mem k hk) (by have := HFq.out k hk; simp; omega)), HT1.out.own HT9.out (by intro k hk; simp at hk; subst hk; exact .inl (by have := HQ.out; omega))⟩

    have k5' : (k == 5) = false := by simpa using k5
    have HR : Hid (R = ⟨S, 0⟩) := Lib.hid (by rw [HOp.out, if_neg k0, if_neg k1, if_neg k2, if_neg k3, if_neg k4, if_neg k5])
    clear k0 k1 k2 k3 k4 k5
    go_wp2_with (first | (refine wpList_load_r aggRd HMR.out 0 rfl rfl rfl rfl rfl ?_) | (refine wpList_store_r aggRd HMR.out 2 rfl rfl rfl rfl rfl rfl rfl rfl ?_; intro w9 h9 ht9; have H9 := Lib.hid h9; have HT9 := Lib.hid ht9; clear h9 ht9))
    refine bodyPost_ret (results_cell_row2 (p := 6) (u := 7) rfl _ _ _ _ _ _ _ rfl (H9.out.exact 2 rfl) Try.underlying31 rfl (by kernel_rfl)) rfl ?_
    rw [← HPO.out, HR.out]
    exact ⟨_, rfl, HRA0.out.touch HT9.out (HOld.out.imp id (fun h b hb => by have := h b hb; have := HQ.out; simp; omega)), fun b hb => .inl hb, HD0.out.keep (fun k hk => HT9.out.block k (HD0.out.mem k hk) (by have := HFq.out k hk; simp; omega)), HT0.out.own HT9.out (by intro k hk; simp at hk; subst hk; exact .inl (by have := HQ.out; omega))⟩
  case rest =>
    obtain ⟨rfl, rfl, an1, cn1, al1, cl1, aw1, cw1, ad1, cd1, ap1, cp1, sv1, fz1, dd1, E', hmem, hra, hap, hri, hdv, ht⟩ := hcut
    have HMs := Lib.hid hmem
    have HR1 := Lib.hid hra
    have HAP1 := Lib.hid hap
    have HRI1 := Lib.hid hri
    have HD1 := Lib.hid hdv
    have HT1 := Lib.hid ht
    have hee : (R.err == R.err) = true := by simp
    clear hmem hra hap hri hdv ht e0 e1 e2 e3 e4 e5 e6
    go_wp2_with (first | (refine wpList_load_r aggRd HMs.out 0 rfl rfl rfl rfl rfl ?_) | (refine wpList_store_r aggRd HMs.out 2 rfl rfl rfl rfl rfl rfl rfl rfl ?_; intro w9 h9 ht9; have H9 := Lib.hid h9; have HT9 := Lib.hid ht9; clear h9 ht9))
    refine bodyPost_ret (results_cell_row2 (p := 6) (u := 7) rfl _ _ _ _ _ _ _ rfl (H9.out.exact 2 rfl) Try.underlying31 rfl (by kernel_rfl)) rfl ?_
    rw [← HPO.out]
    refine ⟨_, rfl, HR1.out.touch HT9.out (HAP1.out.imp id (fun h b hb => by have := (h b hb).1; simp; omega)), by rw [← HV0.out]; exact HRI1.out, HD1.out.keep (fun k hk => HT9.out.block k (HD1.out.mem k hk) (by have := HFq.out k hk; simp; omega)), HT1.out.own HT9.out (by intro k hk; simp at hk; subst hk; exact .inl (by have := HQ.out; omega))⟩

end Go.Proofs.Ytjgdplengfnkaaa

/- What the walk is told of a slice of unsigned numbers that came in, as cells. -/
namespace Go.Proofs.Ytjgdplengfnkaaa
open Go.RowKit
set_option linter.unusedVariables false

theorem wf_u64 {z : Int} (h : (Lit.int .u64 z).wf = true) : 0 ≤ z ∧ z < 18446744073709551616 := by
  simp [Lit.wf, IntKind.min, IntKind.max, IntKind.signed, IntKind.bits] at h; omega
theorem wf_u8 {z : Int} (h : (Lit.int .u8 z).wf = true) : 0 ≤ z ∧ z < 256 := by
  simp [Lit.wf, IntKind.min, IntKind.max, IntKind.signed, IntKind.bits] at h; omega
theorem wf_i64 {z : Int} (h : (Lit.int .i64 z).wf = true) : -9223372036854775808 ≤ z ∧ z ≤ 9223372036854775807 := by
  simp [Lit.wf, IntKind.min, IntKind.max, IntKind.signed, IntKind.bits] at h; omega

/-- A row of numbers that came in, its first len elements. -/
theorem row_ints {k : IntKind} {w : World} {a : Option Addr} {len cap : Nat} {zs : List Int}
    (h : (a = none ∧ len = 0 ∧ cap = 0 ∧ zs = []) ∨ ∃ x, a = some x ∧ len ≤ cap ∧ cap ≤ maxLen ∧ zs.length = cap ∧ (∀ i, i < zs.length → w.cell? (x.add i) = some (.int k (zs.getD i 0))) ∧ ∀ n ∈ zs, (Lit.int k n).wf = true) :
    (zs.take len).length = len ∧ Cells w a ((zs.take len).map (Value.int k)) ∧ (∀ z ∈ zs.take len, (Lit.int k z).wf = true) ∧ len ≤ cap ∧ cap ≤ maxLen := by
  rcases h with ⟨rfl, rfl, rfl, rfl⟩ | ⟨x, rfl, hl, hm, hz, hc, hw⟩
  · exact ⟨rfl, Cells.nil _ _, by simp, Nat.le_refl _, Nat.zero_le _⟩
  · refine ⟨by rw [List.length_take]; omega, ?_, fun z hz => hw z (List.mem_of_mem_take hz), hl, hm⟩
    by_cases h0 : len = 0
    · subst h0; simp; exact Cells.nil _ _
    · obtain ⟨b, off, spot⟩ := x
      have hs := hc 0 (by omega)
      have hspot : spot = none := by simpa [Addr.add] using World.cell?_spot hs
      subst hspot
      refine .inr ⟨b, off, rfl, fun i v hi => ?_⟩
      rw [List.getElem?_map] at hi
      obtain ⟨z, hz', rfl⟩ := Option.map_eq_some_iff.1 hi
      rw [List.getElem?_take] at hz'
      split at hz'
      · rename_i hlt
        have := hc i (by omega)
        have e : (⟨b, off, none⟩ : Addr).add i = ⟨b, off + i, none⟩ := by unfold Addr.add; split <;> simp_all
        rw [e, List.getD_eq_getElem?_getD, hz'] at this
        exact this
      · simp at hz'

theorem row_nats {k : IntKind} {B : Nat} (hB : ∀ z : Int, (Lit.int k z).wf = true → 0 ≤ z ∧ z < B) {w : World} {a : Option Addr} {len cap : Nat} {zs : List Int}
    (h : (a = none ∧ len = 0 ∧ cap = 0 ∧ zs = []) ∨ ∃ x, a = some x ∧ len ≤ cap ∧ cap ≤ maxLen ∧ zs.length = cap ∧ (∀ i, i < zs.length → w.cell? (x.add i) = some (.int k (zs.getD i 0))) ∧ ∀ n ∈ zs, (Lit.int k n).wf = true) :
    ∃ ws : List Nat, ws.length = len ∧ Cells w a (ws.map (fun n : Nat => Value.int k (n : Int))) ∧ (∀ z ∈ ws, z < B) ∧ len ≤ cap ∧ cap ≤ maxLen := by
  obtain ⟨h1, h2, h3, h4, h5⟩ := row_ints h
  refine ⟨(zs.take len).map Int.toNat, by rw [List.length_map]; exact h1, ?_, ?_, h4, h5⟩
  · have e : ((zs.take len).map Int.toNat).map (fun n : Nat => Value.int k (n : Int)) = (zs.take len).map (Value.int k) := by
      rw [List.map_map]
      apply List.map_congr_left
      intro z hz
      have := hB z (h3 z hz)
      simp only [Function.comp]
      rw [Int.toNat_of_nonneg this.1]
    rw [e]; exact h2
  · intro z hz
    rw [List.mem_map] at hz
    obtain ⟨y, hy, rfl⟩ := hz
    have := hB y (h3 y hy)
    omega

end Go.Proofs.Ytjgdplengfnkaaa

/- What an argument's reading says of its cells: slices of numbers, slices of structs. -/
namespace Go.Proofs.Ytjgdplengfnkaaa
open Go.RowKit Go.ChangeShapes Go.WideShapes Go.Deep
set_option linter.unusedVariables false

section
variable {H : Type} {enc : TypeId × Value → H} {P : Program} {w : World} {base : Nat} {spare : Nat → Bool} {held : Bool}

/-- A slice of numbers. -/
theorem ints_read {t e : TypeId} {k : IntKind} {fuel : Nat} {v : Value} {y : DataW H × List MemPlace} (ht : P.underlying t = some (.slice e)) (he : P.underlying e = some (.int k)) (hc : P.cellsOf e = 1)
    (h : DataW.trod enc P w base spare held fuel t [v] = some y) :
    ∃ (a : Option Addr) (len cap : Nat) (zs : List Int), v = .slice a len cap ∧ zs.length = len ∧ Cells w a (zs.map (Value.int k)) ∧ (∀ z ∈ zs, (Lit.int k z).wf = true) ∧ len ≤ cap ∧ cap ≤ maxLen := by
  rcases open_ints ht he hc h with ⟨hcs, _⟩ | ⟨x, l, c, zs, hcs, _, hl, hm, hz, _, hcell, hwz⟩
  · simp at hcs
    exact ⟨none, 0, 0, [], hcs, rfl, Cells.nil _ _, by simp, Nat.le_refl _, Nat.zero_le _⟩
  · simp at hcs
    have hzl : l ≤ zs.length := by rw [hz]; split <;> omega
    refine ⟨some x, l, c, zs.take l, hcs, by rw [List.length_take]; omega, ?_, fun z hz => hwz z (List.mem_of_mem_take hz), hl, hm⟩
    by_cases h0 : l = 0
    · subst h0; simp; exact Cells.nil _ _
    · obtain ⟨b, off, spot⟩ := x
      have hs := hcell 0 (by omega)
      have hspot : spot = none := by simpa [Addr.add] using World.cell?_spot hs
      subst hspot
      refine .inr ⟨b, off, rfl, fun i v hi => ?_⟩
      rw [List.getElem?_map] at hi
      obtain ⟨z, hz', rfl⟩ := Option.map_eq_some_iff.1 hi
      rw [List.getElem?_take] at hz'
      split at hz'
      · rename_i hlt
        have := hcell i (by omega)
        have e : (⟨b, off, none⟩ : Addr).add i = ⟨b, off + i, none⟩ := by unfold Addr.add; split <;> simp_all
        rw [e, List.getD_eq_getElem?_getD, hz'] at this
        exact this
      · simp at hz'

/-- .. of unsigned ones. -/
theorem nats_read {t e : TypeId} {k : IntKind} {B : Nat} (hB : ∀ z : Int, (Lit.int k z).wf = true → 0 ≤ z ∧ z < B) {fuel : Nat} {v : Value} {y : DataW H × List MemPlace} (ht : P.underlying t = some (.slice e)) (he : P.underlying e = some (.int k)) (hc : P.cellsOf e = 1)
    (h : DataW.trod enc P w base spare held fuel t [v] = some y) :
    ∃ (a : Option Addr) (len cap : Nat) (zs : List Nat), v = .slice a len cap ∧ zs.length = len ∧ Cells w a (zs.map (fun n : Nat => Value.int k (n : Int))) ∧ (∀ z ∈ zs, z < B) ∧ len ≤ cap ∧ cap ≤ maxLen := by
  obtain ⟨a, len, cap, zs, hv, hl, hcs, hw, h1, h2⟩ := ints_read ht he hc h
  refine ⟨a, len, cap, zs.map Int.toNat, hv, by rw [List.length_map]; exact hl, ?_, ?_, h1, h2⟩
  · have e : (zs.map Int.toNat).map (fun n : Nat => Value.int k (n : Int)) = zs.map (Value.int k) := by
      rw [List.map_map]
      apply List.map_congr_left
      intro z hz
      have := hB z (hw z hz)
      simp only [Function.comp]
      rw [Int.toNat_of_nonneg this.1]
    rw [e]; exact hcs
  · intro z hz
    rw [List.mem_map] at hz
    obtain ⟨y, hy, rfl⟩ := hz
    have := hB y (hw y hy)
    omega

/-- A slice of structs of one-cell fields: each field's cell, and its own reading. -/
theorem structs_read {t e : TypeId} {fs : Array Field} {fuel : Nat} {v : Value} {y : DataW H × List MemPlace} (ht : P.underlying t = some (.slice e)) (he : P.underlying e = some (.struct fs))
    (hone : oneCellFields P fs = true) (hC : P.cellsOf e = fs.size) (hpos : 0 < fs.size) (h : DataW.trod enc P w base spare held fuel t [v] = some y) :
    ∃ (a : Option Addr) (len cap : Nat) (n : Nat → Nat), v = .slice a len cap ∧ len ≤ cap ∧ cap ≤ maxLen ∧ (len = 0 ∨ ∃ b off, a = some ⟨b, off, none⟩ ∧ ∀ i, i < len → ∀ (j : Nat) (f : Field), fs[j]? = some f →
      ∃ (u : Value) (z : DataW H × List MemPlace), w.cell? ⟨b, off + (i * fs.size + j), none⟩ = some u ∧ DataW.trod enc P w base spare held (n i) f.type [u] = some z) := by
  rcases open_slice ht h with ⟨hcs, _⟩ | ⟨a, len, cap, m, n, D, Pl, hcs, _, hl, hm, hmm, _, hi⟩
  · simp at hcs
    exact ⟨none, 0, 0, fun _ => 0, hcs, Nat.le_refl _, Nat.zero_le _, .inl rfl⟩
  · simp at hcs
    have hlm : len ≤ m := by rw [hmm]; split <;> omega
    by_cases h0 : len = 0
    · exact ⟨some a, len, cap, fun _ => 0, hcs, hl, hm, .inl h0⟩
    have each : ∀ i, i < len → ∃ n', ∀ (j : Nat) (f : Field), fs[j]? = some f → ∃ (u : Value) (z : DataW H × List MemPlace), w.cell? (a.add (i * fs.size + j)) = some u ∧ DataW.trod enc P w base spare held n' f.type [u] = some z := by
      intro i hil
      obtain ⟨cs', hc, ht'⟩ := hi i (by omega)
      rw [hC] at hc
      obtain ⟨ys, n', _, _, _, hyl, hf⟩ := DataW.trod_struct he ht'
      obtain ⟨_, hcl, hat⟩ := World.cells?_some hc
      refine ⟨n', fun j f hj => ?_⟩
      obtain ⟨ho, hk⟩ := hone_of hone j f hj
      have hjl : j < fs.size := (Array.getElem?_eq_some_iff.1 hj).1
      have hcell := hat j hjl
      have hv : cs'[j]? = some (cs'[j]'(by omega)) := List.getElem?_eq_getElem (by omega)
      have h1 := hf j f hj
      rw [ho, hk] at h1
      have hone' : (cs'.drop j).take 1 = [cs'[j]'(by omega)] := by
        rw [List.drop_eq_getElem_cons (by omega)]
        rfl
      rw [hone'] at h1
      have hys : ys[j]? = some (ys[j]'(by omega)) := List.getElem?_eq_getElem (by omega)
      refine ⟨_, _, ?_, h1.trans hys⟩
      rw [← Go.Deep.add_add, hcell, hv]
    obtain ⟨nf, hnf⟩ := choose_lt each
    obtain ⟨f0, hf0⟩ : ∃ f0, fs[0]? = some f0 := ⟨fs[0], by simp [hpos]⟩
    obtain ⟨u, _, hu, _⟩ := hnf 0 (by omega) 0 f0 hf0
    obtain ⟨b, off, spot⟩ := a
    have hspot : spot = none := by simpa [Addr.add] using World.cell?_spot hu
    subst hspot
    refine ⟨_, len, cap, nf, hcs, hl, hm, .inr ⟨b, off, rfl, fun i hil j f hj => ?_⟩⟩
    obtain ⟨u, z, hu, hz⟩ := hnf i hil j f hj
    have e : (⟨b, off, none⟩ : Addr).add (i * fs.size + j) = ⟨b, off + (i * fs.size + j), none⟩ := by unfold Addr.add; split <;> simp_all
    rw [e] at hu
    exact ⟨u, z, hu, hz⟩
end

end Go.Proofs.Ytjgdplengfnkaaa

/- Slices of records: their cells, one record behind the other; what the reading of such an argument says. -/
namespace Go.Proofs.Ytjgdplengfnkaaa
open Go.RowKit Go.ChangeShapes Go.WideShapes Go.Deep
set_option linter.unusedVariables false

/-- The cells of records. -/
def recs {α : Type} (f : α → List Value) (l : List α) : List Value := l.flatMap f
theorem recs_length {α : Type} {f : α → List Value} {n : Nat} (hf : ∀ x, (f x).length = n) (l : List α) : (recs f l).length = l.length * n := by
  induction l with
  | nil => simp [recs]
  | cons x l ih => unfold recs at *; rw [List.flatMap_cons, List.length_append, ih, hf, List.length_cons, Nat.succ_mul, Nat.add_comm]
theorem recs_append {α : Type} (f : α → List Value) (l m : List α) : recs f (l ++ m) = recs f l ++ recs f m := by simp [recs]
theorem recs_at {α : Type} {f : α → List Value} {n : Nat} (hf : ∀ x, (f x).length = n) (d : α) (l : List α) (i : Nat) (hi : i < l.length) : ∀ j v, (f (l.getD i d))[j]? = some v → (recs f l)[i * n + j]? = some v := by
  intro j v hj
  have e : l = l.take i ++ (l[i] :: l.drop (i + 1)) := by simp
  have hl : (recs f (l.take i)).length = i * n := by rw [recs_length hf, List.length_take, Nat.min_eq_left (by omega)]
  have hg : l.getD i d = l[i] := by simp [hi]
  rw [hg] at hj
  have hj3 : j < (f l[i]).length := (List.getElem?_eq_some_iff.1 hj).1
  rw [e, recs_append, List.getElem?_append_right (by omega), hl, show i * n + j - i * n = j by omega]
  unfold recs
  rw [List.flatMap_cons, List.getElem?_append_left hj3]
  exact hj
/-- A record's cells in memory. -/
theorem recs_cells {α : Type} {f : α → List Value} {n : Nat} (hf : ∀ x, (f x).length = n) (hn : 0 < n) (d : α) {w : World} {a : Option Addr} {l : List α} (h : Cells w a (recs f l)) {j : Nat} (hj : j < l.length) :
    ∃ b off, a = some ⟨b, off, none⟩ ∧ b < w.heap.size ∧ ∀ i v, (f (l.getD j d))[i]? = some v → w.cell? ⟨b, off + j * n + i, none⟩ = some v := by
  have hl := recs_length hf l
  have hlt : 0 < (recs f l).length := by rw [hl]; exact Nat.mul_pos (by omega) hn
  obtain ⟨b, off, rfl, hb, hc⟩ := h.at hlt
  refine ⟨b, off, rfl, hb, fun i v hi => ?_⟩
  rw [Nat.add_assoc]
  exact hc _ _ (recs_at hf d l j hj i v hi)

section
variable {H : Type} {enc : TypeId × Value → H} {P : Program} {w : World} {base : Nat} {spare : Nat → Bool} {held : Bool}

/-- A slice that came in: each element's cells, and its own reading. -/
theorem elems_read {t e : TypeId} {size : Nat} {fuel : Nat} {v : Value} {y : DataW H × List MemPlace} (ht : P.underlying t = some (.slice e)) (hC : P.cellsOf e = size) (hpos : 0 < size) (h : DataW.trod enc P w base spare held fuel t [v] = some y) :
    ∃ (a : Option Addr) (len cap m : Nat), v = .slice a len cap ∧ len ≤ cap ∧ cap ≤ maxLen ∧ (len = 0 ∨ ∃ b off, a = some ⟨b, off, none⟩ ∧ ∀ i, i < len →
      ∃ (us : List Value) (z : DataW H × List MemPlace), us.length = size ∧ (∀ r u, us[r]? = some u → w.cell? ⟨b, off + i * size + r, none⟩ = some u) ∧ DataW.trod enc P w base spare held m e us = some z) := by
  rcases open_slice ht h with ⟨hcs, _⟩ | ⟨a, len, cap, m, n, D, Pl, hcs, _, hl, hm, hmm, _, hi⟩
  · simp at hcs
    exact ⟨none, 0, 0, 0, hcs, Nat.le_refl _, Nat.zero_le _, .inl rfl⟩
  · simp at hcs
    have hlm : len ≤ m := by rw [hmm]; split <;> omega
    by_cases h0 : len = 0
    · exact ⟨some a, len, cap, 0, hcs, hl, hm, .inl h0⟩
    have each : ∀ i, i < len → ∃ (us : List Value) (z : DataW H × List MemPlace), us.length = size ∧ (∀ r u, us[r]? = some u → w.cell? ((a.add (i * size)).add r) = some u) ∧ DataW.trod enc P w base spare held n e us = some z := by
      intro i hil
      obtain ⟨cs', hc, ht'⟩ := hi i (by omega)
      rw [hC] at hc
      obtain ⟨_, hcl, hat⟩ := World.cells?_some hc
      have hz : ∃ z, DataW.trod enc P w base spare held n e cs' = some z := ⟨_, ht'⟩
      obtain ⟨z, hz⟩ := hz
      refine ⟨cs', z, hcl, fun r u hr => ?_, hz⟩
      have hrl : r < size := by have := (List.getElem?_eq_some_iff.1 hr).1; omega
      rw [hat r hrl, hr]
    obtain ⟨us, z, h1, h2, _⟩ := each 0 (by omega)
    obtain ⟨b, off, spot⟩ := a
    have hus : us[0]? = some (us[0]'(by omega)) := List.getElem?_eq_getElem (by omega)
    have h20 := h2 0 _ hus
    have hspot : spot = none := by
      have := World.cell?_spot h20
      simpa [Addr.add] using this
    subst hspot
    refine ⟨_, len, cap, n, hcs, hl, hm, .inr ⟨b, off, rfl, fun i hil => ?_⟩⟩
    obtain ⟨us, z, h1, h2, h3⟩ := each i hil
    refine ⟨us, z, h1, fun r u hr => ?_, h3⟩
    have := h2 r u hr
    rwa [add_none', add_none'] at this
where
  add_none' (b off j : Nat) : (⟨b, off, none⟩ : Addr).add j = ⟨b, off + j, none⟩ := by unfold Addr.add; split <;> simp_all
end

/-- What each element is, if each one is something. -/
theorem recs_of {α : Type} {f : α → List Value} {n : Nat} (hf : ∀ x, (f x).length = n) (hn : 0 < n) (d : α) {w : World} {b off len : Nat} {ok : α → Prop}
    (each : ∀ i, i < len → ∃ x : α, (∀ r u, (f x)[r]? = some u → w.cell? ⟨b, off + i * n + r, none⟩ = some u) ∧ ok x) :
    ∃ l : List α, l.length = len ∧ Cells w (some ⟨b, off, none⟩) (recs f l) ∧ ∀ x ∈ l, ok x := by
  haveI : Inhabited α := ⟨d⟩
  obtain ⟨g, hg⟩ := choose_lt each
  refine ⟨(List.range len).map g, by simp, .inr ⟨b, off, rfl, fun i v hi => ?_⟩, fun x hx => ?_⟩
  · have hlen : i < len * n := by
      have := (List.getElem?_eq_some_iff.1 hi).1
      rw [recs_length hf] at this
      simpa using this
    obtain ⟨q, r, hr, rfl⟩ : ∃ q r, r < n ∧ i = q * n + r := ⟨i / n, i % n, Nat.mod_lt _ hn, by rw [Nat.mul_comm]; exact (Nat.div_add_mod i n).symm⟩
    have hq : q < len := Decidable.byContradiction fun h => by
      have h1 : len ≤ q := by omega
      have := Nat.mul_le_mul_right n h1
      omega
    have hfd : ((List.range len).map g).getD q d = g q := by simp [hq]
    have hx : (f (g q))[r]? = some ((f (g q))[r]'(by rw [hf]; exact hr)) := List.getElem?_eq_getElem (by rw [hf]; exact hr)
    have := recs_at hf d ((List.range len).map g) q (by simpa using hq) r _ (by rw [hfd]; exact hx)
    rw [this] at hi
    cases hi
    rw [← Nat.add_assoc]
    exact (hg q hq).1 r _ hx
  · rw [List.mem_map] at hx
    obtain ⟨i, hi, rfl⟩ := hx
    exact (hg i (by simpa using hi)).2

end Go.Proofs.Ytjgdplengfnkaaa

/- law15: played; the reference's New. -/
namespace Go.Proofs.Ytjgdplengfnkaaa
open Go.RowKit
set_option linter.unusedVariables false

set_option maxHeartbeats 1000000 in
set_option maxRecDepth 20000 in
theorem rnew_any (k : Nat) (hk : k ≤ 100000) (w : World) : Calls Try.prog 57 #[.int .i64 (k : Int)] w fun e w' => ∃ v, e = .returned v ∧
    RAt w' v ((k + 7) / 8) (freshDev (List.replicate (8 * ((k + 7) / 8)) 0) ((k + 7) / 8)).ref ∧ (∀ b, RIn v b → w.heap.size ≤ b) ∧ Below w.heap.size w w' := by
  have HM := Lib.hid (Mem.one w zeroD 31)
  have HEq : Hid (freshR (padTo (List.replicate k 0) (8 * ((k + 7) / 8))) ((k + 7) / 8) = (freshDev (List.replicate (8 * ((k + 7) / 8)) 0) ((k + 7) / 8)).ref) := Lib.hid (by
    unfold padTo freshR Dev.ref freshDev
    simp only [List.length_replicate, List.replicate_append_replicate, Bool.false_eq_true, if_false]
    rw [show k + (8 * ((k + 7) / 8) - k) = 8 * ((k + 7) / 8) by omega])
  go_enter Try.func57, Try.ntmps57
  go_upto_region 1 with fail
  rw [show (#[.slice none 0 0, .slice none 0 0, .slice none 0 0, .slice none 0 0, .slice none 0 0, .int .i64 0, .int .i64 0, .bool false] : Array Value) = zeroD from rfl]
  generalize w.alloc _ = w0 at *
  have hmax : max (k : Int) 0 = (k : Int) := Int.max_eq_left (by omega)
  go_wp2_with (at_make; refine wpList_make_len el64 w0.heap.size k rfl rfl rfl (by omega) (by decide) (Nat.le_refl _) rfl rfl rfl rfl ?_; intro w1 hown hgrow; have HB1 := Lib.hid (below_grown hgrow (Nat.le_refl _)); have HO1 := Lib.hid hown; clear hown hgrow)
  have HM1 := Lib.hid (HM.out.later HB1.out)
  have HC1 : Hid (Cells w1 (some ⟨w0.heap.size, 0, none⟩) ((List.replicate k 0).map vu64)) := Lib.hid (by rw [List.map_replicate]; exact Cells.owned HO1.out)
  refine (rload_at _ k k (List.replicate k 0) (by simp) w1 HC1.out hk (fun z hz => by simp at hz; omega)).mono ?_
  rintro e w2 ⟨v, rfl, hra, hloc, hb2⟩
  rw [HEq.out] at hra
  obtain ⟨an, cn, al, cl, aw, cw, ad, cd, ap, cp, rfl, y1, y2, y3, y4, y5⟩ := hra.ex
  clear y1 y2 y3 y4 y5
  have HM2 := Lib.hid (HM1.out.later hb2)
  have HRA := Lib.hid hra
  have hw1 := HM1.out.below.size
  have hg1 : w.heap.size + 1 ≤ w1.heap.size := HM1.out.glt 0 rfl
  have HLoc : Hid (∀ b, RIn (.agg #[.slice an ((k + 7) / 8) cn, .slice al ((k + 7) / 8) cl, .slice aw ((k + 7) / 8) cw, .slice ad ((k + 7) / 8) cd, .slice ap ((k + 7) / 8) cp, .int .i64 (freshDev (List.replicate (8 * ((k + 7) / 8)) 0) ((k + 7) / 8)).ref.steps, .int .i64 (freshDev (List.replicate (8 * ((k + 7) / 8)) 0) ((k + 7) / 8)).ref.fuse, .bool (freshDev (List.replicate (8 * ((k + 7) / 8)) 0) ((k + 7) / 8)).ref.dead]) b → w1.heap.size ≤ b) := Lib.hid (by
    rintro b ⟨cs, hcs, i, x, n, c, hi, rfl⟩
    exact hloc cs hcs i x n c hi)
  clear hra hloc hb2 HM HM1 HO1 HC1
  generalize (freshDev (List.replicate (8 * ((k + 7) / 8)) 0) ((k + 7) / 8)).ref.steps = st at *
  generalize (freshDev (List.replicate (8 * ((k + 7) / 8)) 0) ((k + 7) / 8)).ref.fuse = fz at *
  generalize (freshDev (List.replicate (8 * ((k + 7) / 8)) 0) ((k + 7) / 8)).ref.dead = dd at *
  go_wp2_with (refine wpList_store_mem aggRd HM2.out 0 rfl rfl rfl rfl rfl rfl rfl rfl ?_; intro w9 h9 ht9; have H9 := Lib.hid h9; have HT9 := Lib.hid ht9; clear h9 ht9)
  refine bodyPost_ret (results_cell_row rfl _ _ _ _ _ _ _ rfl (H9.out.exact 0 rfl) Try.underlying31 rfl (by kernel_rfl)) rfl ⟨_, rfl, HRA.out.touch HT9.out (.inr (fun b hb => by have := HLoc.out b hb; simp; omega)), fun b hb => by have := HLoc.out b hb; omega, H9.out.below⟩

/-- Three results: a slot, a struct in a block, a slot. -/
theorem results_cell_mid {P : Program} {fn : Func} {s p u : Tmp} {ty : TypeId} (h : fn.results = #[.tmp s, .cell p ty, .tmp u]) (tmps : Array Value) (w : World) (g : Nat) (t : TypeId) (cs : Array Value) (fr : Nat × Nat) (d : TypeDesc)
    (hp : tmps.getD p undef = .pointer (some ⟨g, 0, none⟩)) (hg : w.heap[g]? = some (.cells cs t fr))
    (hu : P.underlying ty = some d) (hd : (match d with | .struct _ | .array _ _ => true | _ => false) = true) (hi : (P.info? ty).map (·.size) = some cs.size) :
    (results fn tmps).run P w = .ok (.tuple #[tmps.getD s undef, .agg cs, tmps.getD u undef]) w := by
  have hp' : tmps[p]?.getD undef = .pointer (some ⟨g, 0, none⟩) := by simpa using hp
  simp [results, h, hp', asAddr, run_loadVar_row w g t ty cs fr d hg hu hd hi]

/-- A call, as data. -/
structure Op15 where
  k : Int
  a : Int
  i : Int
  t : Int
  x : Nat
  p : Int
  d : Int
def Op15.cs (o : Op15) : List Value := [.int .i64 o.k, .int .i64 o.a, .int .i64 o.i, .int .i64 o.t, vu64 o.x, .int .i64 o.p, .int .i64 o.d]
theorem Op15.len (o : Op15) : o.cs.length = 7 := rfl
def Op15.ok (o : Op15) : Prop := (-9223372036854775808 ≤ o.k ∧ o.k ≤ 9223372036854775807) ∧ (-9223372036854775808 ≤ o.a ∧ o.a ≤ 9223372036854775807) ∧ (-9223372036854775808 ≤ o.i ∧ o.i ≤ 9223372036854775807) ∧ (-9223372036854775808 ≤ o.t ∧ o.t ≤ 9223372036854775807) ∧ o.x < 18446744073709551616 ∧
  (-9223372036854775808 ≤ o.p ∧ o.p ≤ 9223372036854775807) ∧ (-9223372036854775808 ≤ o.d ∧ o.d ≤ 9223372036854775807)

/-- A boxed device at g behind the result's place at r, the program's device elsewhere. -/
def RBp (w W : World) (F : Foot) (r g m : Nat) (T : Dev) : Prop := ∃ an cn al cl aw cw ad cd ap cp sv fz dd, MemR w.heap.size W [⟨r, 31, zeroD.toList, true⟩, ⟨g, 31, [.slice an m cn, .slice al m cl, .slice aw m cw, .slice ad m cd, .slice ap m cp, .int .i64 sv, .int .i64 fz, .bool dd], true⟩] ∧
  RAt W (.agg #[.slice an m cn, .slice al m cl, .slice aw m cw, .slice ad m cd, .slice ap m cp, .int .i64 sv, .int .i64 fz, .bool dd]) m T.ref ∧ (m = 0 ∨ ∀ b, RIn (.agg #[.slice an m cn, .slice al m cl, .slice aw m cw, .slice ad m cd, .slice ap m cp, .int .i64 sv, .int .i64 fz, .bool dd]) b → b ≠ r ∧ b ≠ g ∧ b ∉ F.list) ∧
  DevAt W F T ∧ Below w.heap.size w W ∧ r ∉ F.list ∧ g ∉ F.list

/-- What played leaves. -/
def Played (w : World) : Ending → World → Prop := fun e w' => ∃ (F : Foot) (v : Value) (S : Dev) (m : Nat), e = .returned (.tuple #[vdev F, v, .bool true]) ∧ S.dirty.length = m ∧ S.fit 20000000 ∧ RAt w' v m S.ref ∧ DevAt w' F S ∧ Below w.heap.size w w'

set_option maxHeartbeats 8000000 in
set_option maxRecDepth 100000 in
theorem played15_any (c : Nat) (hc : c < 256) (a : Option Addr) (n cap : Nat) (l : List Op15) (hn : l.length = n) (w : World) (hcs : Cells w a (recs Op15.cs l)) (hok : ∀ o ∈ l, o.ok) (hnm : n ≤ maxLen) :
    Calls Try.prog 23 #[.int .u8 (c : Int), .slice a n cap] w (Played w) := by
  unfold maxLen at hnm
  have HN := Lib.hid hn
  have HCS := Lib.hid hcs
  have HOK := Lib.hid hok
  clear hn hcs hok
  generalize hpo : Played w = Post
  have HPO := Lib.hid hpo
  clear hpo
  have HM := Lib.hid (Mem.one w zeroD 31)
  go_enter Try.func23, Try.ntmps23
  go_upto_region 1 with fail
  rw [show (#[.slice none 0 0, .slice none 0 0, .slice none 0 0, .slice none 0 0, .slice none 0 0, .int .i64 0, .int .i64 0, .bool false] : Array Value) = zeroD from rfl]
  generalize w.alloc _ = w0 at *
  go_wp2_with fail
  refine (new_any c _ (by omega)).mono ?_
  rintro e w1 ⟨F, rfl, hF, hd1, hb1⟩
  rw [show (c : Int).toNat = c from rfl] at hd1
  have HD1 := Lib.hid hd1
  have HM1 := Lib.hid (HM.out.later hb1)
  have HF : Hid (∀ k ∈ F.list, w.heap.size + 1 ≤ k) := Lib.hid (fun k hk => Nat.le_trans (HM.out.glt 0 rfl) (hF k hk))
  clear hd1 hb1 hF HM
  unfold vdev
  go_wp2_with fail
  refine (rnew_any c (by omega) _).mono ?_
  rintro e w2 ⟨v, rfl, hra, hloc, hb2⟩
  obtain ⟨S, hS⟩ : ∃ S, S = freshDev (List.replicate (8 * ((c + 7) / 8)) 0) ((c + 7) / 8) := ⟨_, rfl⟩
  obtain ⟨m, hm⟩ : ∃ m, m = (c + 7) / 8 := ⟨_, rfl⟩
  have hfit : S.fit 100 := by
    rw [hS]
    refine ⟨(fresh_inv (by simp) (by simp; omega) (fun z hz => by simp at hz; omega)).wf, fresh_ok _ _ _, fun h => by simp [freshDev] at h⟩
  have hdl : S.dirty.length = m := by rw [hS, hm]; simp [freshDev]
  rw [← hS] at hra
  rw [← hS] at HD1
  rw [← hm] at hra
  have HFit := Lib.hid hfit
  have HDL := Lib.hid hdl
  have HD2 := Lib.hid (HD1.out.below hb2)
  have HM2 := Lib.hid (HM1.out.later hb2)
  have HFm : Hid (∀ k ∈ F.list, k < w1.heap.size) := Lib.hid (fun k hk => HD1.out.mem k hk)
  have hg1 : w.heap.size + 1 ≤ w1.heap.size := HM1.out.glt 0 rfl
  obtain ⟨an, cn, al, cl, aw, cw, ad, cd, ap, cp, rfl, y1, y2, y3, y4, y5⟩ := hra.ex
  clear y1 y2 y3 y4 y5 hS hm hfit hdl
  have HRA := Lib.hid hra
  have HLoc := Lib.hid hloc
  have hs2 : w1.heap.size ≤ w2.heap.size := hb2.size
  clear hra hloc hb2 HD1 HM1
  generalize S.ref.steps = sv at *
  generalize S.ref.fuse = fz at *
  generalize S.ref.dead = dd at *
  have HM3 := Lib.hid (HM2.out.alloc #[.slice an m cn, .slice al m cl, .slice aw m cw, .slice ad m cd, .slice ap m cp, .int .i64 sv, .int .i64 fz, .bool dd] 31)
  have HD3 := Lib.hid (HD2.out.below (below_alloc w2 (.cells #[.slice an m cn, .slice al m cl, .slice aw m cw, .slice ad m cd, .slice ap m cp, .int .i64 sv, .int .i64 fz, .bool dd] 31)))
  have HRA3 := Lib.hid (HRA.out.below (below_alloc w2 (.cells #[.slice an m cn, .slice al m cl, .slice aw m cw, .slice ad m cd, .slice ap m cp, .int .i64 sv, .int .i64 fz, .bool dd] 31)) (Nat.le_refl _))
  have HOl := Lib.hid HRA.out.old
  go_upto_region 2 with fail
  obtain ⟨r, hr⟩ : ∃ r, r = w.heap.size := ⟨_, rfl⟩
  obtain ⟨g, hg⟩ : ∃ g, g = w2.heap.size := ⟨_, rfl⟩
  rw [← hr] at HM3 ⊢
  have HStart : Hid (RBp w (w2.alloc (.cells #[.slice an m cn, .slice al m cl, .slice aw m cw, .slice ad m cd, .slice ap m cp, .int .i64 sv, .int .i64 fz, .bool dd] 31)) F r g m S) := Lib.hid (by
    refine ⟨an, cn, al, cl, aw, cw, ad, cd, ap, cp, sv, fz, dd, ?_, HRA3.out, HOl.out.imp id (fun h b hb => ?_), HD3.out, HM3.out.below, ?_, ?_⟩
    · rw [hg]; exact HM3.out.r
    · have h1 := h b hb
      have h2 := HLoc.out b hb
      refine ⟨by omega, by omega, fun hm => ?_⟩
      have := HFm.out b hm
      omega
    · intro hm; have := HF.out r hm; omega
    · intro hm; have := HFm.out g hm; omega)
  rw [← hg]
  have HRr := Lib.hid hr
  clear HM3 HD3 HRA3 HD2 HM2 HRA HLoc HOl hr hg
  generalize w2.alloc _ = w3 at *
  go_wp2_with fail
  go_loopw [9] (fun i wr => ∃ k : Nat, k ≤ n ∧ k ≤ 50 ∧ i = .int .i64 k ∧ ∃ T : Dev, T.fit (100 + 200000 * k) ∧ T.dirty.length = m ∧ RBp w wr F r g m T) (fun i _ => 50 - (intOf i).toNat)
  case atStart => exact ⟨0, Nat.zero_le _, Nat.zero_le _, rfl, S, HFit.out, HDL.out, HStart.out⟩
  case round =>
    obtain ⟨k, hk, hk50, rfl, T, hfit, hdl, an, cn, al, cl, aw, cw, ad, cd, ap, cp, sv, fz, dd, hmem, hra, hap, hdv, hbe, hrF, hgF⟩ := hrel
    have HFt := Lib.hid hfit
    have HTL := Lib.hid hdl
    have HMm := Lib.hid hmem
    have HRA := Lib.hid hra
    have HAP := Lib.hid hap
    have HDV := Lib.hid hdv
    have HBe := Lib.hid hbe
    have HrF := Lib.hid hrF
    have HgF := Lib.hid hgF
    clear hfit hdl hmem hra hap hdv hbe hrF hgF HStart
    by_cases hlt : k < n ∧ k < 50
    · obtain ⟨h1, h2⟩ := hlt
      have h1' : (k : Int) < (n : Int) := by omega
      have h2' : (k : Int) < 50 := by omega
      have hkl : k < l.length := by rw [HN.out]; exact h1
      obtain ⟨b1, o1, rfl, hbl, hcell⟩ := recs_cells Op15.len (by decide) (⟨0, 0, 0, 0, 0, 0, 0⟩ : Op15) (HCS.out.below HBe.out (Nat.le_refl _)) hkl
      obtain ⟨b1', o1', he1, hbw, _⟩ := recs_cells Op15.len (by decide) (⟨0, 0, 0, 0, 0, 0, 0⟩ : Op15) HCS.out hkl
      cases he1
      have hbF : b1 ∉ F.list := fun hm => by have := HF.out b1 hm; omega
      have hook := HOK.out (l.getD k ⟨0, 0, 0, 0, 0, 0, 0⟩) (by rw [List.getD_eq_getElem?_getD, List.getElem?_eq_getElem hkl]; exact List.getElem_mem _)
      generalize l.getD k ⟨0, 0, 0, 0, 0, 0, 0⟩ = o at *
      obtain ⟨ok, oa, oi, ot, ox, op, od⟩ := o
      obtain ⟨g1, g2, g3, g4, g5, g6, g7⟩ := hook
      dsimp only at g1 g2 g3 g4 g5 g6 g7
      have e0 : wr.cell? ⟨b1, o1 + k * 7, none⟩ = some (.int .i64 ok) := hcell 0 _ rfl
      have e1 : wr.cell? ⟨b1, o1 + k * 7 + 1, none⟩ = some (.int .i64 oa) := hcell 1 _ rfl
      have e2 : wr.cell? ⟨b1, o1 + k * 7 + 2, none⟩ = some (.int .i64 oi) := hcell 2 _ rfl
      have e3 : wr.cell? ⟨b1, o1 + k * 7 + 3, none⟩ = some (.int .i64 ot) := hcell 3 _ rfl
      have e4 : wr.cell? ⟨b1, o1 + k * 7 + 4, none⟩ = some (vu64 ox) := hcell 4 _ rfl
      have e5 : wr.cell? ⟨b1, o1 + k * 7 + 5, none⟩ = some (.int .i64 op) := hcell 5 _ rfl
      have e6 : wr.cell? ⟨b1, o1 + k * 7 + 6, none⟩ = some (.int .i64 od) := hcell 6 _ rfl
      have e6' : wr.cell? ⟨b1, o1 + k * 7 + 5 + 1, none⟩ = some (.int .i64 od) := hcell 6 _ rfl
      clear hcell hkl
      by_cases hd3 : 300 < od
      · go_wp2_with fail
        exact ⟨⟨k + 1, by omega, by omega, vint (by omega), T, HFt.out.mono (by omega), HTL.out, ⟨an, cn, al, cl, aw, cw, ad, cd, ap, cp, sv, fz, dd, HMm.out, HRA.out, HAP.out, HDV.out, HBe.out, HrF.out, HgF.out⟩⟩, by simp [intOf]; omega⟩
      have HDo := Lib.hid (fun (W : World) (hD : DevAt W F T) (hR : RAt W (.agg #[.slice an m cn, .slice al m cl, .slice aw m cw, .slice ad m cd, .slice ap m cp, .int .i64 sv, .int .i64 fz, .bool dd]) m T.ref) => do15_any HTL.out hD hR (N := 100 + 200000 * k) (by omega) HFt.out (HAP.out.imp id (fun h b hb => (h b hb).2.2)) ok oa oi ot op od ox g5 g2 g3 g4)
      have HFt1 := Lib.hid (Dev.op15_fit HFt.out ok oa oi ot ox op od g5 g4.2 g3.2)
      have HTL1 : Hid ((T.op15 ok oa oi ot ox op od).dev.dirty.length = m) := Lib.hid (by rw [Dev.op15_dl]; exact HTL.out)
      obtain ⟨T1, hT1⟩ : ∃ T1, T1 = (T.op15 ok oa oi ot ox op od).dev := ⟨_, rfl⟩
      have HOpd : Hid ((T.op15 ok oa oi ot ox op od).dev = T1) := Lib.hid hT1.symm
      rw [← hT1] at HFt1 HTL1
      clear hT1
      unfold vdev at HDo
      have d0 := HMm.out.cell 1 0 rfl rfl
      have d1 := HMm.out.cell 1 1 rfl rfl
      have d2 := HMm.out.cell 1 2 rfl rfl
      have d3 := HMm.out.cell 1 3 rfl rfl
      have d4 := HMm.out.cell 1 4 rfl rfl
      have d5 := HMm.out.cell 1 5 rfl rfl
      have d6 := HMm.out.cell 1 6 rfl rfl
      have d7 := HMm.out.cell 1 7 rfl rfl
      have HC0 : ∃ x : Near F.list wr, wr.drew = x.val := near_of (Touch.ofBelow (later_below (later_drew wr)))
      go_upto_region 6 with fail
      have s0 := fun x => near_cell (L := F.list) d0 HgF.out x
      have s1 := fun x => near_cell (L := F.list) d1 HgF.out x
      have s2 := fun x => near_cell (L := F.list) d2 HgF.out x
      have s3 := fun x => near_cell (L := F.list) d3 HgF.out x
      have s4 := fun x => near_cell (L := F.list) d4 HgF.out x
      have s5 := fun x => near_cell (L := F.list) d5 HgF.out x
      have s6 := fun x => near_cell (L := F.list) d6 HgF.out x
      have s7 := fun x => near_cell (L := F.list) d7 HgF.out x
      have t0 := fun x => near_cell (L := F.list) e0 hbF x
      have t1 := fun x => near_cell (L := F.list) e1 hbF x
      have t2 := fun x => near_cell (L := F.list) e2 hbF x
      have t3 := fun x => near_cell (L := F.list) e3 hbF x
      have t4 := fun x => near_cell (L := F.list) e4 hbF x
      have t5 := fun x => near_cell (L := F.list) e5 hbF x
      have t6 := fun x => near_cell (L := F.list) e6 hbF x
      clear d0 d1 d2 d3 d4 d5 d6 d7 e0 e1 e2 e3 e4 e5 e6 e6'
      refine wp_region_tr (C := fun w' => ∃ x : Near F.list wr, w' = x.val) (.fl [0, 1, 2, 3, 4, 5] (.br 6 false (.pu [7, 8, 9] (.sq [10] true (.sq [11, 12] false (.nil)))) 10 true (.sq [6, 7] false (.pu [8, 9] (.sq [11, 12] false (.nil)))))) (by kernel_rfl) (by kernel_rfl) (by intro c a d v w h; cases d <;> exact h) ?_
      simp only [trO, picks, List.getElem?_cons_succ, List.getElem?_cons_zero]
      refine wpTr_fl HC0 ?_
      repeat (first | go_big_quiet_step (fail) | quiet_step (fail))
      refine wpQuiet_nil ?_
      clear s0 s1 s2 s3 s4 s5 s6 s7 t0 t1 t2 t3 t4 t5 t6
      have HB0 := Lib.hid (later_below (later_drew wr))
      have HD0 := Lib.hid (HDV.out.below HB0.out)
      have HR0 := Lib.hid (HRA.out.below HB0.out (Nat.le_refl _))
      have HM0 := Lib.hid (HMm.out.later HB0.out)
      have HBe0 := Lib.hid (HBe.out.trans (HB0.out.mono HBe.out.size))
      have hwsz : w.heap.size + 1 ≤ wr.drew.heap.size := by have := HM0.out.glt 0 rfl; have := HRr.out; omega
      generalize wr.drew = W at *
      refine wpTr_br ?_ ?_
      · refine wpTr_sq (fun K hK => ?_)
        go_wp2_with fail
        refine (HDo.out W HD0.out HR0.out).mono ?_
        rintro e w4 ⟨v', rfl, hra1, hri1, hdv1, ht1⟩
        rw [HOpd.out] at hra1 hdv1
        obtain ⟨an1, cn1, al1, cl1, aw1, cw1, ad1, cd1, ap1, cp1, rfl, y1, y2, y3, y4, y5⟩ := hra1.ex
        clear y1 y2 y3 y4 y5
        have HR1 := Lib.hid hra1
        have HDv1 := Lib.hid hdv1
        have HRi1 := Lib.hid hri1
        have HT1 := Lib.hid ht1
        clear hra1 hri1 hdv1 ht1
        generalize T1.ref.steps = sv1 at *
        generalize T1.ref.fuse = fz1 at *
        generalize T1.ref.dead = dd1 at *
        go_wp2_with fail
        refine hK _ _ (fun h => nomatch h) ?_
        clear hK K
        refine wpTr_pu ?_
        repeat (first | go_big_quiet_step (fail) | quiet_step (fail))
        refine wpQuiet_nil ?_
        have HM1 := Lib.hid (HM0.out.apart HT1.out (by intro x hx; simp only [List.mem_cons, List.not_mem_nil, or_false] at hx; rcases hx with rfl | rfl; exact HrF.out; exact HgF.out))
        have HM2 := Lib.hid (HM1.out.alloc zeroD 31)
        have HC1 : ∃ x : Near F.list wr, w4.alloc (.cells zeroD 31) = x.val := near_of ((Touch.ofBelow HB0.out).trans (HT1.out.later (below_alloc w4 _)))
        have HDv2 := Lib.hid (HDv1.out.below (below_alloc w4 (.cells zeroD 31)))
        have HR2 := Lib.hid (HR1.out.below (below_alloc w4 (.cells zeroD 31)) (Nat.le_refl _))
        have HOl := Lib.hid HR1.out.old
        unfold zeroD at HC1
        refine wpTr_sq (fun K hK => ?_)
        go_wp2_with fail
        refine hK _ _ (fun _ => HC1) ?_
        clear hK K
        have HrL := Lib.hid (HM1.out.glt 0 rfl)
        have HgL := Lib.hid (HM1.out.glt 1 rfl)
        have HnF : Hid (w4.heap.size ∉ F.list) := Lib.hid (fun hm => by have := HDv1.out.mem _ hm; omega)
        have HAp : Hid (m = 0 ∨ ∀ b, RIn (.agg #[.slice an1 m cn1, .slice al1 m cl1, .slice aw1 m cw1, .slice ad1 m cd1, .slice ap1 m cp1, .int .i64 sv1, .int .i64 fz1, .bool dd1]) b → b ≠ r ∧ b ≠ g ∧ b ∉ F.list ∧ b ≠ w4.heap.size) := Lib.hid (by
          rcases HOl.out with h | h
          · exact .inl h
          · rcases HAP.out with h' | h'
            · exact .inl h'
            · refine .inr fun b hb => ?_
              have h1 := h b hb
              rcases HRi1.out b hb with h2 | h2
              · have h3 := h' b h2
                exact ⟨h3.1, h3.2.1, h3.2.2, by omega⟩
              · have h3 := HM0.out.glt 0 rfl
                have h4 := HM0.out.glt 1 rfl
                exact ⟨by omega, by omega, fun hm => by have := HD0.out.mem b hm; omega, by omega⟩)
        have HBw : Hid (Below w.heap.size w (w4.alloc (.cells zeroD 31))) := Lib.hid ((below_touched HBe0.out HT1.out (fun k hk => by have := HF.out k hk; omega) (Nat.le_refl _)).trans ((below_alloc w4 _).mono (Nat.le_trans HBe0.out.size HT1.out.size)))
        unfold zeroD at HM2 HDv2 HR2 HBw
        generalize w4.heap.size = nn at *
        generalize w4.alloc _ = w5 at *
        clear HC1 HC0
        refine wpTr_last ?_
        go_wp2_with (first | (refine wpList_store_r aggRd HM2.out 2 rfl rfl rfl rfl rfl rfl rfl rfl ?_; intro w6 h5 ht5; have HM5 := Lib.hid h5; have HT5 := Lib.hid ht5; clear h5 ht5 HM2) | (refine wpList_load_r aggRd HM5.out 2 rfl rfl rfl rfl rfl ?_) | (refine wpList_store_r aggRd HM5.out 1 rfl rfl rfl rfl rfl rfl rfl rfl ?_; intro w7 h6 ht6; have HM6 := Lib.hid h6; have HT6 := Lib.hid ht6; clear h6 ht6))
        refine ⟨⟨k + 1, by omega, by omega, vint (by omega), T1, HFt1.out.mono (by omega), HTL1.out, an1, cn1, al1, cl1, aw1, cw1, ad1, cd1, ap1, cp1, sv1, fz1, dd1, ?_, ?_, ?_, ?_, ?_, HrF.out, HgF.out⟩, by simp [intOf]; omega⟩
        · exact MemR.front (L := [_, _]) (E := [_]) HM6.out
        · exact (HR2.out.touch HT5.out (HAp.out.imp id (fun h b hb => by have := h b hb; simp; omega))).touch HT6.out (HAp.out.imp id (fun h b hb => by have := h b hb; simp; omega))
        · exact HAp.out.imp id (fun h b hb => ⟨(h b hb).1, (h b hb).2.1, (h b hb).2.2.1⟩)
        · exact (HDv2.out.keep (fun k hk => HT5.out.block k (HDv2.out.mem k hk) (by simp; exact fun e => HnF.out (e ▸ hk)))).keep (fun k hk => HT6.out.block k (Nat.lt_of_lt_of_le (HDv2.out.mem k hk) HT5.out.size) (by simp; exact fun e => HgF.out (e ▸ hk)))
        · exact (below_touched (below_touched HBw.out HT5.out (by intro k hk; simp at hk; subst hk; exact HM5.out.gbase 2 rfl) (Nat.le_refl _)) HT6.out (by intro k hk; simp at hk; subst hk; exact HM5.out.gbase 1 rfl) (Nat.le_refl _))
      · have HCa : ∃ x : Near F.list wr, W.alloc (.cells zeroD 31) = x.val := near_of ((Touch.ofBelow HB0.out).later (below_alloc W _))
        have HMa := Lib.hid (HM0.out.alloc zeroD 31)
        have HDa := Lib.hid (HD0.out.below (below_alloc W (.cells zeroD 31)))
        have HRa := Lib.hid (HR0.out.below (below_alloc W (.cells zeroD 31)) (Nat.le_refl _))
        have HOl := Lib.hid HR0.out.old
        have HnF : Hid (W.heap.size ∉ F.list) := Lib.hid (fun hm => by have := HD0.out.mem _ hm; omega)
        have HnG : Hid (W.heap.size < (W.alloc (.cells zeroD 31)).heap.size) := Lib.hid (by simp)
        have HBa := Lib.hid (HBe0.out.trans ((below_alloc W (.cells zeroD 31)).mono HBe0.out.size))
        have hr1 := HM0.out.glt 0 rfl
        have hg1' := HM0.out.glt 1 rfl
        unfold zeroD at HCa HMa HDa HRa HnG HBa
        refine wpTr_sq (fun K hK => ?_)
        go_wp2_with fail
        refine hK _ _ (fun _ => HCa) ?_
        clear hK K HCa
        generalize W.heap.size = nn at *
        generalize W.alloc _ = Wa at *
        refine wpTr_sq (fun K hK => ?_)
        go_wp2_with fail
        refine (HDo.out Wa HDa.out HRa.out).mono ?_
        rintro e w4 ⟨v', rfl, hra1, hri1, hdv1, ht1⟩
        rw [HOpd.out] at hra1 hdv1
        obtain ⟨an1, cn1, al1, cl1, aw1, cw1, ad1, cd1, ap1, cp1, rfl, y1, y2, y3, y4, y5⟩ := hra1.ex
        clear y1 y2 y3 y4 y5
        have HR1 := Lib.hid hra1
        have HDv1 := Lib.hid hdv1
        have HRi1 := Lib.hid hri1
        have HT1 := Lib.hid ht1
        clear hra1 hri1 hdv1 ht1
        generalize T1.ref.steps = sv1 at *
        generalize T1.ref.fuse = fz1 at *
        generalize T1.ref.dead = dd1 at *
        go_wp2_with fail
        refine hK _ _ (fun h => nomatch h) ?_
        clear hK K
        refine wpTr_pu ?_
        repeat (first | go_big_quiet_step (fail) | quiet_step (fail))
        refine wpQuiet_nil ?_
        have HM2 := Lib.hid (HMa.out.apart HT1.out (by
          intro x hx
          have hx : x.g = r ∨ x.g = g ∨ x.g = nn := by
            simp only [List.mem_append, List.mem_cons, List.not_mem_nil, or_false] at hx
            rcases hx with (rfl | rfl) | rfl
            · exact .inl rfl
            · exact .inr (.inl rfl)
            · exact .inr (.inr rfl)
          rcases hx with h | h | h
          · rw [h]; exact HrF.out
          · rw [h]; exact HgF.out
          · rw [h]; exact HnF.out))
        have HR2 := HR1
        have HDv2 := HDv1
        have HAp : Hid (m = 0 ∨ ∀ b, RIn (.agg #[.slice an1 m cn1, .slice al1 m cl1, .slice aw1 m cw1, .slice ad1 m cd1, .slice ap1 m cp1, .int .i64 sv1, .int .i64 fz1, .bool dd1]) b → b ≠ r ∧ b ≠ g ∧ b ∉ F.list ∧ b ≠ nn) := Lib.hid (by
          rcases HOl.out with h | h
          · exact .inl h
          · rcases HAP.out with h' | h'
            · exact .inl h'
            · refine .inr fun b hb => ?_
              rcases HRi1.out b hb with h2 | h2
              · have h3 := h' b h2
                have h4 := h b h2
                exact ⟨h3.1, h3.2.1, h3.2.2, by omega⟩
              · have h3 := HnG.out
                exact ⟨by omega, by omega, fun hm => by have := HDa.out.mem b hm; omega, by omega⟩)
        have HBw : Hid (Below w.heap.size w w4) := Lib.hid (below_touched HBa.out HT1.out (fun k hk => by have := HF.out k hk; omega) (Nat.le_refl _))
        clear HC0
        refine wpTr_last ?_
        go_wp2_with (first | (refine wpList_store_r aggRd HM2.out 2 rfl rfl rfl rfl rfl rfl rfl rfl ?_; intro w6 h5 ht5; have HM5 := Lib.hid h5; have HT5 := Lib.hid ht5; clear h5 ht5 HM2) | (refine wpList_load_r aggRd HM5.out 2 rfl rfl rfl rfl rfl ?_) | (refine wpList_store_r aggRd HM5.out 1 rfl rfl rfl rfl rfl rfl rfl rfl ?_; intro w7 h6 ht6; have HM6 := Lib.hid h6; have HT6 := Lib.hid ht6; clear h6 ht6))
        refine ⟨⟨k + 1, by omega, by omega, vint (by omega), T1, HFt1.out.mono (by omega), HTL1.out, an1, cn1, al1, cl1, aw1, cw1, ad1, cd1, ap1, cp1, sv1, fz1, dd1, ?_, ?_, ?_, ?_, ?_, HrF.out, HgF.out⟩, by simp [intOf]; omega⟩
        · exact MemR.front (L := [_, _]) (E := [_]) HM6.out
        · exact (HR2.out.touch HT5.out (HAp.out.imp id (fun h b hb => by have := h b hb; simp; omega))).touch HT6.out (HAp.out.imp id (fun h b hb => by have := h b hb; simp; omega))
        · exact HAp.out.imp id (fun h b hb => ⟨(h b hb).1, (h b hb).2.1, (h b hb).2.2.1⟩)
        · exact (HDv2.out.keep (fun k hk => HT5.out.block k (HDv2.out.mem k hk) (by simp; exact fun e => HnF.out (e ▸ hk)))).keep (fun k hk => HT6.out.block k (Nat.lt_of_lt_of_le (HDv2.out.mem k hk) HT5.out.size) (by simp; exact fun e => HgF.out (e ▸ hk)))
        · exact (below_touched (below_touched HBw.out HT5.out (by intro k hk; simp at hk; subst hk; exact HM5.out.gbase 2 rfl) (Nat.le_refl _)) HT6.out (by intro k hk; simp at hk; subst hk; exact HM5.out.gbase 1 rfl) (Nat.le_refl _))
    · by_cases h1 : k < n
      · have h1' : (k : Int) < (n : Int) := by omega
        have h2' : decide ((k : Int) < 50) = false := by simp; omega
        have h2n : decide (k < 50) = false := by simp; omega
        have d0 := HMm.out.cell 1 0 rfl rfl
        have d1 := HMm.out.cell 1 1 rfl rfl
        have d2 := HMm.out.cell 1 2 rfl rfl
        have d3 := HMm.out.cell 1 3 rfl rfl
        have d4 := HMm.out.cell 1 4 rfl rfl
        have d5 := HMm.out.cell 1 5 rfl rfl
        have d6 := HMm.out.cell 1 6 rfl rfl
        have d7 := HMm.out.cell 1 7 rfl rfl
        go_upto_region 10 with fail
        have s0 := fun x => later_cell d0 x
        have s1 := fun x => later_cell d1 x
        have s2 := fun x => later_cell d2 x
        have s3 := fun x => later_cell d3 x
        have s4 := fun x => later_cell d4 x
        have s5 := fun x => later_cell d5 x
        have s6 := fun x => later_cell d6 x
        have s7 := fun x => later_cell d7 x
        clear d0 d1 d2 d3 d4 d5 d6 d7
        refine wp_region_tr (C := fun w' => ∃ x : Later (wr), w' = x.val) (.fl [0, 1, 2, 3] (.sq [4] true (.fl [5] (.sq [6, 7] false (.nil))))) (by kernel_rfl) (by kernel_rfl) (by intro c a d v w h; cases d <;> exact h) ?_
        simp only [trO, picks, List.getElem?_cons_succ, List.getElem?_cons_zero]
        have hC1 := later_drew (wr)
        refine wpTr_fl hC1 ?_
        repeat (first | go_big_quiet_step (fail) | quiet_step (fail))
        refine wpQuiet_nil ?_
        clear s0 s1 s2 s3 s4 s5 s6 s7
        refine wpTr_sq (fun K hK => ?_)
        go_wp2_with fail
        refine (same3_any HTL.out (HDV.out.below (later_below hC1)) (HRA.out.below (later_below hC1) (Nat.le_refl _))).mono ?_
        rintro e w4 ⟨rfl, hb4⟩
        have hC2 := later_step hC1 hb4
        have HB4 := Lib.hid (later_below hC2)
        have HM4 := Lib.hid (HMm.out.later HB4.out)
        have HR4 := Lib.hid (HRA.out.below HB4.out (Nat.le_refl _))
        have HD4 := Lib.hid (HDV.out.below HB4.out)
        have HBe4 := Lib.hid (HBe.out.trans (HB4.out.mono HBe.out.size))
        clear hb4
        go_wp2_with fail
        refine hK _ _ (fun _ => hC2) ?_
        clear hK K
        refine wpTr_fl hC2 ?_
        repeat (first | go_big_quiet_step (fail) | quiet_step (fail))
        refine wpQuiet_nil ?_
        clear hC1 hC2
        refine wpTr_last ?_
        go_wp2_with (refine wpList_store_r aggRd HM4.out 0 rfl rfl rfl rfl rfl rfl rfl rfl ?_; intro w9 h9 ht9; have H9 := Lib.hid h9; have HT9 := Lib.hid ht9; clear h9 ht9)
        refine bodyPost_ret (results_cell_mid (s := 4) (p := 5) (u := 6) rfl _ _ _ _ _ _ _ rfl (H9.out.exact 0 rfl) Try.underlying31 rfl (by kernel_rfl)) rfl ?_
        rw [← HPO.out]
        refine ⟨F, _, T, m, rfl, HTL.out, HFt.out.mono (by omega), HR4.out.touch HT9.out (HAP.out.imp id (fun h b hb => by have := h b hb; simp; omega)), HD4.out.keep (fun k hk => HT9.out.block k (HD4.out.mem k hk) (by simp; exact fun e => HrF.out (e ▸ hk))), below_touched HBe4.out HT9.out (by intro k hk; simp at hk; subst hk; exact HM4.out.gbase 0 rfl) (Nat.le_refl _)⟩
      · have h1' : decide ((k : Int) < (n : Int)) = false := by simp; omega
        have h1n : decide (k < n) = false := by simp; omega
        have d0 := HMm.out.cell 1 0 rfl rfl
        have d1 := HMm.out.cell 1 1 rfl rfl
        have d2 := HMm.out.cell 1 2 rfl rfl
        have d3 := HMm.out.cell 1 3 rfl rfl
        have d4 := HMm.out.cell 1 4 rfl rfl
        have d5 := HMm.out.cell 1 5 rfl rfl
        have d6 := HMm.out.cell 1 6 rfl rfl
        have d7 := HMm.out.cell 1 7 rfl rfl
        go_upto_region 10 with fail
        have s0 := fun x => later_cell d0 x
        have s1 := fun x => later_cell d1 x
        have s2 := fun x => later_cell d2 x
        have s3 := fun x => later_cell d3 x
        have s4 := fun x => later_cell d4 x
        have s5 := fun x => later_cell d5 x
        have s6 := fun x => later_cell d6 x
        have s7 := fun x => later_cell d7 x
        clear d0 d1 d2 d3 d4 d5 d6 d7
        refine wp_region_tr (C := fun w' => ∃ x : Later (wr), w' = x.val) (.fl [0, 1, 2, 3] (.sq [4] true (.fl [5] (.sq [6, 7] false (.nil))))) (by kernel_rfl) (by kernel_rfl) (by intro c a d v w h; cases d <;> exact h) ?_
        simp only [trO, picks, List.getElem?_cons_succ, List.getElem?_cons_zero]
        have hC1 := later_drew (wr)
        refine wpTr_fl hC1 ?_
        repeat (first | go_big_quiet_step (fail) | quiet_step (fail))
        refine wpQuiet_nil ?_
        clear s0 s1 s2 s3 s4 s5 s6 s7
        refine wpTr_sq (fun K hK => ?_)
        go_wp2_with fail
        refine (same3_any HTL.out (HDV.out.below (later_below hC1)) (HRA.out.below (later_below hC1) (Nat.le_refl _))).mono ?_
        rintro e w4 ⟨rfl, hb4⟩
        have hC2 := later_step hC1 hb4
        have HB4 := Lib.hid (later_below hC2)
        have HM4 := Lib.hid (HMm.out.later HB4.out)
        have HR4 := Lib.hid (HRA.out.below HB4.out (Nat.le_refl _))
        have HD4 := Lib.hid (HDV.out.below HB4.out)
        have HBe4 := Lib.hid (HBe.out.trans (HB4.out.mono HBe.out.size))
        clear hb4
        go_wp2_with fail
        refine hK _ _ (fun _ => hC2) ?_
        clear hK K
        refine wpTr_fl hC2 ?_
        repeat (first | go_big_quiet_step (fail) | quiet_step (fail))
        refine wpQuiet_nil ?_
        clear hC1 hC2
        refine wpTr_last ?_
        go_wp2_with (refine wpList_store_r aggRd HM4.out 0 rfl rfl rfl rfl rfl rfl rfl rfl ?_; intro w9 h9 ht9; have H9 := Lib.hid h9; have HT9 := Lib.hid ht9; clear h9 ht9)
        refine bodyPost_ret (results_cell_mid (s := 4) (p := 5) (u := 6) rfl _ _ _ _ _ _ _ rfl (H9.out.exact 0 rfl) Try.underlying31 rfl (by kernel_rfl)) rfl ?_
        rw [← HPO.out]
        refine ⟨F, _, T, m, rfl, HTL.out, HFt.out.mono (by omega), HR4.out.touch HT9.out (HAP.out.imp id (fun h b hb => by have := h b hb; simp; omega)), HD4.out.keep (fun k hk => HT9.out.block k (HD4.out.mem k hk) (by simp; exact fun e => HrF.out (e ▸ hk))), below_touched HBe4.out HT9.out (by intro k hk; simp at hk; subst hk; exact HM4.out.gbase 0 rfl) (Nat.le_refl _)⟩

end Go.Proofs.Ytjgdplengfnkaaa

/- Plain: an object on a device that never stops. -/
namespace Go.Proofs.Ytjgdplengfnkaaa
set_option linter.unusedVariables false

theorem odec_enc {a p d : Int} (h : objSize p d ≠ 0) : odecN a (oencN a p d) = ⟨p, d, 0⟩ := by
  obtain ⟨⟨p0, p1⟩, d0, d1⟩ := obj_small h
  have hlt := obN_lt h
  have hn2 : ((obN p d : Nat) : Int) = 165 + 256 * p + 16384 * d := by unfold obN; omega
  have he : oencN a p d = sealN (obN p d) (pl a) := by unfold oencN; rw [if_neg h]
  generalize obN p d = n at *
  have ho : openN (oencN a p d) (pl a) = some n := by
    unfold openN; rw [he, sealN_mod n _ hlt, if_pos rfl]
  have e2 : ((n / 256 % 64 : Nat) : Int) = p := by omega
  have e3 : ((n / 16384 % 32768 : Nat) : Int) = d := by omega
  rw [odecN_some ho]
  unfold odecS
  rw [e2, e3, if_pos rfl]

/-- A live device of len words with an object at a: its words of fields are ws. -/
structure Kept (S : Dev) (a : Nat) (p d : Int) (ws : List Nat) : Prop where
  live : S.live
  inv : S.inv
  size : objSize p d = ws.length + 1
  fits : a + 1 + ws.length ≤ S.cache.length
  head : S.cache.getD a 0 = oencN (a : Int) p d
  words : ∀ j, j < ws.length → S.cache.getD (a + 1 + j) 0 = ws.getD j 0

theorem Kept.headN {S : Dev} {a : Nat} {p d : Int} {ws : List Nat} (h : Kept S a p d ws) : headN S a = ⟨p, d, 0⟩ := by
  have hs := h.size
  have hf := h.fits
  have hne : objSize p d ≠ 0 := by omega
  have hd := odec_enc (a := (a : Int)) hne
  unfold Go.Proofs.Ytjgdplengfnkaaa.headN
  rw [if_neg (by omega)]
  have hp : peek S.cache (a : Int) = oencN (a : Int) p d := by rw [peek_in]; exact h.head
  rw [hp, hd]
  dsimp only
  rw [if_neg (by rw [hs]; intro h; rcases h with h | h; exact h rfl; omega)]
theorem Kept.sizes {S : Dev} {a : Nat} {p d : Int} {ws : List Nat} (h : Kept S a p d ws) : (0 ≤ p ∧ p < 64) ∧ (0 ≤ d ∧ d ≤ 16384) ∧ (ws.length : Int) = p + d := by
  have hs := h.size
  have hne : objSize p d ≠ 0 := by omega
  have hsm := obj_small hne
  refine ⟨hsm.1, hsm.2, ?_⟩
  unfold objSize at hs
  rw [if_neg (by omega)] at hs
  omega

theorem Kept.store {S : Dev} {a : Nat} {p d : Int} {ws : List Nat} (h : Kept S a p d ws) (j x : Nat) (hj : j < ws.length) (hx : x < 18446744073709551616) :
    S.storeE ((a + 1 + j : Nat) : Int) = 0 ∧ Kept (S.store ((a + 1 + j : Nat) : Int) x) a p d (ws.set j x) := by
  have hf := h.fits
  obtain ⟨h1, h2⟩ := h.live.store_ok (a + 1 + j) x (by omega)
  refine ⟨h1, ⟨h.live.store _ _, Dev.store_inv h.inv _ _ hx, by simp [h.size], by rw [h2]; simp; omega, ?_, fun i hi => ?_⟩⟩
  · rw [h2, getD_setN _ _ _ _ (by omega), if_neg (by omega)]; exact h.head
  · simp at hi
    rw [h2, getD_setN _ _ _ _ (by omega), getD_setN _ _ _ _ (by omega)]
    by_cases e : i = j
    · subst e; rw [if_pos rfl, if_pos rfl]
    · rw [if_neg (by omega), if_neg e]; exact h.words i hi

theorem Kept.setPtr {S : Dev} {a : Nat} {p d : Int} {ws : List Nat} (h : Kept S a p d ws) (i x : Nat) (hi : (i : Int) < p) (hx : x < 18446744073709551616) :
    (S.setPtr a i x).err = 0 ∧ Kept (S.setPtr a i x).dev a p d (ws.set i x) ∧ (S.setPtr a i x).dev = S.store ((a + 1 + i : Nat) : Int) x := by
  obtain ⟨hp, hd, hl⟩ := h.sizes
  have hst := h.store i x (by omega) hx
  have hpl : placeN S a i false = ⟨((a + 1 + i : Nat) : Int), 0⟩ := by
    unfold placeN
    rw [h.headN, if_neg (by simp), if_neg (by simp)]
    dsimp only
    rw [if_pos (by omega)]
    congr 1
    omega
  have : S.setPtr a i x = ⟨S.store ((a + 1 + i : Nat) : Int) x, S.storeE ((a + 1 + i : Nat) : Int)⟩ := by
    unfold Dev.setPtr
    rw [hpl]
    dsimp only
    rw [if_neg (by simp), if_neg (by omega)]
    rfl
  rw [this]
  exact ⟨hst.1, hst.2, rfl⟩
theorem Kept.setData {S : Dev} {a : Nat} {p d : Int} {ws : List Nat} (h : Kept S a p d ws) (i x : Nat) (hi : p ≤ (i : Int)) (hi2 : i < ws.length) (hx : x < 18446744073709551616) :
    (S.setData a ((i : Int) - p) x).err = 0 ∧ Kept (S.setData a ((i : Int) - p) x).dev a p d (ws.set i x) ∧ (S.setData a ((i : Int) - p) x).dev = S.store ((a + 1 + i : Nat) : Int) x := by
  obtain ⟨hp, hd, hl⟩ := h.sizes
  have hst := h.store i x hi2 hx
  have hpl : placeN S a ((i : Int) - p) true = ⟨((a + 1 + i : Nat) : Int), 0⟩ := by
    unfold placeN
    rw [h.headN, if_neg (by simp), if_pos rfl]
    dsimp only
    rw [if_pos (by omega)]
    congr 1
    omega
  have : S.setData a ((i : Int) - p) x = ⟨S.store ((a + 1 + i : Nat) : Int) x, S.storeE ((a + 1 + i : Nat) : Int)⟩ := by
    unfold Dev.setData
    rw [hpl]
    dsimp only
    rw [if_neg (by simp)]
  rw [this]
  exact ⟨hst.1, hst.2, rfl⟩

theorem zeroTo_live {S : Dev} (h : S.live) (hi : S.inv) (a : Nat) : ∀ k, a + 1 + k ≤ S.cache.length → (zeroTo S a k).err = 0 ∧ (zeroTo S a k).dev.live ∧ (zeroTo S a k).dev.inv ∧ (zeroTo S a k).dev.cache.length = S.cache.length ∧
    ∀ j, (zeroTo S a k).dev.cache.getD j 0 = if a + 1 ≤ j ∧ j < a + 1 + k then 0 else S.cache.getD j 0
  | 0, _ => ⟨rfl, h, hi, rfl, fun j => by rw [if_neg (by omega)]; rfl⟩
  | k + 1, hk => by
    obtain ⟨i1, i2, i3, i4, i5⟩ := zeroTo_live h hi a k (by omega)
    have hst : zeroTo S a (k + 1) = ⟨(zeroTo S a k).dev.store ((a + 1 + k : Nat) : Int) 0, (zeroTo S a k).dev.storeE ((a + 1 + k : Nat) : Int)⟩ := by
      rw [zeroTo, if_neg (by rw [i1]; simp)]
    rw [hst]
    generalize (zeroTo S a k).dev = T at *
    obtain ⟨s1, s2⟩ := i2.store_ok (a + 1 + k) 0 (by omega)
    refine ⟨s1, i2.store _ _, Dev.store_inv i3 _ _ (by decide), by rw [s2]; simp [i4], fun j => ?_⟩
    rw [s2, getD_setN _ _ _ _ (by omega), i5 j]
    by_cases e : j = a + 1 + k
    · subst e; rw [if_pos rfl, if_pos (by omega)]
    · rw [if_neg e]
      by_cases c : a + 1 ≤ j ∧ j < a + 1 + k
      · rw [if_pos c, if_pos (by omega)]
      · rw [if_neg c, if_neg (by omega)]
theorem init_kept {S : Dev} (h : S.live) (hi : S.inv) (a : Nat) (p d : Int) (hs : objSize p d ≠ 0) (hf : a + objSize p d ≤ S.cache.length) :
    (S.init a p d).err = 0 ∧ Kept (S.init a p d).dev a p d (List.replicate (objSize p d - 1) 0) := by
  have hE : S.init a p d = S.initN a (objSize p d) (oencN a p d) := by unfold Dev.init; rw [if_neg hs, if_neg (by omega)]; rfl
  rw [hE]
  obtain ⟨i1, i2, i3, i4, i5⟩ := zeroTo_live h hi a (objSize p d - 1) (by omega)
  have hlt := oencN_lt (a : Int) p d
  have hI : S.initN a (objSize p d) (oencN a p d) = ⟨(zeroTo S a (objSize p d - 1)).dev.store (a : Int) (oencN a p d), (zeroTo S a (objSize p d - 1)).dev.storeE (a : Int)⟩ := by unfold Dev.initN; rw [if_neg (by rw [i1]; simp)]
  rw [hI]
  generalize (zeroTo S a (objSize p d - 1)).dev = T at *
  generalize hx : oencN (a : Int) p d = x at *
  obtain ⟨s1, s2⟩ := i2.store_ok a x (by omega)
  refine ⟨s1, ⟨i2.store _ _, Dev.store_inv i3 _ _ hlt, by simp; omega, by rw [s2]; simp; omega, ?_, fun j hj => ?_⟩⟩
  · rw [s2, getD_setN _ _ _ _ (by omega), if_pos rfl, hx]
  · simp at hj
    rw [s2, getD_setN _ _ _ _ (by omega), if_neg (by omega), i5, if_pos (by omega)]
    simp [List.getD_eq_getElem?_getD, List.getElem?_replicate, hj]
theorem init_ok {S : Dev} {N : Nat} (h : S.ok N) (a p d : Int) : (S.init a p d).dev.ok (N + 20000) := by
  unfold Dev.init
  split
  · exact h.mono (by omega)
  · split
    · exact h.mono (by omega)
    · have hs := objSize_le p d
      unfold Dev.initN
      split
      · exact (zeroTo_ok h _ _).mono (by omega)
      · exact (Dev.store_okN (zeroTo_ok h _ _) _ _).mono (by omega)

/-- What was persisted lasts. -/
theorem Kept.persist {S : Dev} {a : Nat} {p d : Int} {ws : List Nat} (h : Kept S a p d ws) : (S.opersist a).err = 0 ∧ Kept (S.opersist a).dev a p d ws ∧ ∀ j, a ≤ j → j < a + 1 + ws.length → (S.opersist a).dev.dirty.getD (j / 8) false = false := by
  have hf := h.fits
  have hs := h.size
  have hE : S.opersist a = S.persist a ((ws.length + 1 : Nat) : Int) := by
    unfold Dev.opersist
    rw [h.headN, if_neg (by simp)]
    dsimp only
    rw [hs]
  rw [hE]
  have hl := h.live.persist a (ws.length + 1) (by omega) h.inv.wf.lenD (by omega)
  obtain ⟨q1, q2, q3, q4, q5⟩ := Dev.persist_clean h.inv a (ws.length + 1) (by omega) hl.1
  refine ⟨hl.1, ⟨?_, Dev.persist_inv h.inv _ _, hs, by rw [q1]; exact hf, by rw [q1]; exact h.head, by rw [q1]; exact h.words⟩, fun j h1 h2 => q4 j h1 (by omega)⟩
  exact h.live.persist_live a (ws.length + 1) (by omega) h.inv.wf.lenD (by omega)
theorem Kept.lasts {S : Dev} {a : Nat} {p d : Int} {ws : List Nat} (h : Kept S a p d ws) (hc : ∀ j, a ≤ j → j < a + 1 + ws.length → S.dirty.getD (j / 8) false = false) : S.olasts a = true := by
  unfold Dev.olasts
  rw [h.headN]
  refine decide_eq_true ⟨rfl, fun i hi => ?_⟩
  rw [h.size] at hi
  rw [show (a : Int) + (i : Int) = ((a + i : Nat) : Int) by omega, peek_in, peek_in]
  exact h.inv.sound _ (hc _ (by omega) (by omega))
theorem Kept.crash {S : Dev} {a : Nat} {p d : Int} {ws : List Nat} (h : Kept S a p d ws) (hc : ∀ j, a ≤ j → j < a + 1 + ws.length → S.dirty.getD (j / 8) false = false) (cs : List Nat) : Kept (S.crash cs) a p d ws := by
  have hw := Dev.crash_wf h.inv.wf cs
  have hD := h.inv.wf.lenD
  have hf := h.fits
  refine ⟨fresh_live _ _, fresh_inv (by rw [hw.1]; exact hD) (by rw [hw.1]; exact h.inv.wf.small) hw.2, h.size, ?_, ?_, fun j hj => ?_⟩
  · show a + 1 + ws.length ≤ (S.crashW cs).length
    rw [hw.1]; exact hf
  · show (S.crashW cs).getD a 0 = _
    rw [Dev.crash_clean h.inv cs a (hc a (by omega) (by omega))]; exact h.head
  · show (S.crashW cs).getD (a + 1 + j) 0 = _
    rw [Dev.crash_clean h.inv cs _ (hc _ (by omega) (by omega))]; exact h.words j hj

end Go.Proofs.Ytjgdplengfnkaaa

/- law15.awake. -/
namespace Go.Proofs.Ytjgdplengfnkaaa
open Go.RowKit
set_option linter.unusedVariables false

set_option maxHeartbeats 2000000 in
set_option maxRecDepth 20000 in
theorem awake15_any (w : World) : Calls Try.prog 22 #[] w fun e w' => e = .returned (.bool true) ∧ Below w.heap.size w w' := by
  go_enter Try.func22, Try.ntmps22
  go_wp2_with fail
  refine (new_any 40 _ (by omega)).mono ?_
  rintro e w2 ⟨F, rfl, hF, hd2, hb2⟩
  obtain ⟨S, hS⟩ : ∃ S, S = freshDev (List.replicate (8 * (((40 : Int).toNat + 7) / 8)) 0) (((40 : Int).toNat + 7) / 8) := ⟨_, rfl⟩
  have hwl : (List.replicate (8 * (((40 : Int).toNat + 7) / 8)) 0).length = 40 := by simp
  have HS : Hid (S.live ∧ S.ok 100 ∧ S.cache.length = 40 ∧ S.inv) := Lib.hid (by
    rw [hS]
    refine ⟨fresh_live _ _, fresh_ok _ _ _, hwl, fresh_inv ?_ ?_ ?_⟩
    · simp
    · rw [hwl]; omega
    · intro z hz; simp at hz; omega)
  have HD2 : Hid (DevAt w2 F S) := Lib.hid (by rw [hS]; exact hd2)
  have HB2 := Lib.hid hb2
  have HF := Lib.hid hF
  clear hS hwl hd2 hb2 hF
  have hsz : objSize 1 2 = 4 := by decide
  have HK : Hid ((S.init (8 : Nat) 1 2).err = 0 ∧ Kept (S.init (8 : Nat) 1 2).dev 8 1 2 (List.replicate (objSize 1 2 - 1) 0)) := Lib.hid (init_kept HS.out.1 HS.out.2.2.2 8 1 2 (by decide) (by rw [hsz, HS.out.2.2.1]; omega))
  have HOk1 : Hid ((S.init (8 : Nat) 1 2).dev.ok 21000) := Lib.hid ((init_ok HS.out.2.1 _ _ _).mono (by omega))
  unfold vdev
  go_wp2_with fail
  refine (oinit_any HD2.out (N := 100) (by omega) HS.out.2.1 8 1 2).mono ?_
  rintro e w3 ⟨rfl, hd3, ht3⟩
  rw [show (8 : Int) = ((8 : Nat) : Int) from rfl] at hd3 ⊢
  rw [HK.out.1]
  have HD3 := Lib.hid hd3
  have HB3 : Hid (Below w.heap.size w w3) := Lib.hid (below_touch HB2.out ht3 (fun k hk => HF.out k hk) (Nat.le_refl _))
  have HK2 := Lib.hid (HK.out.2.setData 2 5 (by omega) (by rw [hsz]; decide) (by decide))
  clear hd3 ht3 HD2 HB2 HK
  generalize (S.init ((8 : Nat) : Int) 1 2).dev = S1 at *
  have HK3 : Hid ((S1.setData 8 1 5).err = 0 ∧ peek (S1.setData 8 1 5).dev.cache 11 = 5) := Lib.hid (by
    have h := HK2.out
    rw [show ((2 : Nat) : Int) - 1 = 1 from rfl, show ((8 : Nat) : Int) = 8 from rfl] at h
    refine ⟨h.1, ?_⟩
    have := h.2.1.words 2 (by rw [List.length_set, hsz]; decide)
    rw [show (11 : Int) = ((8 + 1 + 2 : Nat) : Int) from rfl, peek_in, this, hsz]
    rfl)
  clear HK2
  go_wp2_with fail
  refine (osetData_any HD3.out (N := 21000) (by omega) HOk1.out 8 1 5 (by decide)).mono ?_
  rintro e w4 ⟨rfl, hd4, ht4⟩
  rw [HK3.out.1]
  have HD4 := Lib.hid hd4
  have HB4 : Hid (Below w.heap.size w w4) := Lib.hid (below_touch HB3.out ht4 (fun k hk => HF.out k hk) (Nat.le_refl _))
  clear hd4 ht4 HD3 HB3
  go_wp2_with fail
  refine (dget_any HD4.out 11).mono ?_
  rintro e w5 ⟨rfl, rfl⟩
  rw [HK3.out.2]
  go_wp2_with fail
  go_ret
  exact ⟨rfl, HB4.out⟩

end Go.Proofs.Ytjgdplengfnkaaa

/- What the reading of a slice of headers that came in says of its cells. -/
namespace Go.Proofs.Ytjgdplengfnkaaa
open Go.RowKit Go.ChangeShapes Go.WideShapes Go.Deep
set_option linter.unusedVariables false

section
variable {H : Type} {enc : TypeId × Value → H} {w : World} {spare : Nat → Bool} {held : Bool}

theorem int_read {fuel : Nat} {t : TypeId} {k : IntKind} {v : Value} {y : DataW H × List MemPlace} (ht : Try.prog.underlying t = some (.int k)) (h : DataW.trod enc Try.prog w 0 spare held fuel t [v] = some y) : ∃ n, v = .int k n ∧ (Lit.int k n).wf = true := by
  obtain ⟨n, h1, _, h3⟩ := DataW.trod_int ht h
  exact ⟨n, by simpa using h1, h3⟩

theorem hds_read {fuel : Nat} {v : Value} {y : DataW H × List MemPlace} (h : DataW.trod enc Try.prog w 0 spare held fuel 33 [v] = some y) :
    ∃ (a : Option Addr) (cap : Nat) (l : List Hd), v = .slice a l.length cap ∧ Cells w a (hdCs l) ∧ l.length ≤ maxLen ∧ ∀ x ∈ l, (-9223372036854775808 ≤ x.k ∧ x.k ≤ 9223372036854775807) ∧ (-9223372036854775808 ≤ x.c ∧ x.c ≤ 9223372036854775807) ∧ (-9223372036854775808 ≤ x.l ∧ x.l ≤ 9223372036854775807) := by
  obtain ⟨a, len, cap, n, rfl, hl, hm, hc⟩ := structs_read Try.underlying33 Try.underlying48 (by kernel_rfl) (by kernel_rfl) (by decide) h
  rcases hc with rfl | ⟨b, off, rfl, hc⟩
  · exact ⟨a, cap, [], rfl, Cells.nil _ _, Nat.zero_le _, by simp⟩
  · have each : ∀ i, i < len → ∃ x : Hd, w.cell? ⟨b, off + i * 3, none⟩ = some (.int .i64 x.k) ∧ w.cell? ⟨b, off + i * 3 + 1, none⟩ = some (.int .i64 x.c) ∧ w.cell? ⟨b, off + i * 3 + 2, none⟩ = some (.int .i64 x.l) ∧ (-9223372036854775808 ≤ x.k ∧ x.k ≤ 9223372036854775807) ∧ (-9223372036854775808 ≤ x.c ∧ x.c ≤ 9223372036854775807) ∧ (-9223372036854775808 ≤ x.l ∧ x.l ≤ 9223372036854775807) := by
      intro i hi
      obtain ⟨u0, z0, hu0, hz0⟩ := hc i hi 0 _ rfl
      obtain ⟨u1, z1, hu1, hz1⟩ := hc i hi 1 _ rfl
      obtain ⟨u2, z2, hu2, hz2⟩ := hc i hi 2 _ rfl
      obtain ⟨n0, rfl, hw0⟩ := int_read Try.underlying3 hz0
      obtain ⟨n1, rfl, hw1⟩ := int_read Try.underlying3 hz1
      obtain ⟨n2, rfl, hw2⟩ := int_read Try.underlying3 hz2
      exact ⟨⟨n0, n1, n2⟩, hu0, hu1, hu2, wf_i64 hw0, wf_i64 hw1, wf_i64 hw2⟩
    obtain ⟨f, hf⟩ := choose_lt each
    refine ⟨_, cap, (List.range len).map f, by simp, .inr ⟨b, off, rfl, fun i v hi => ?_⟩, by simp; omega, fun x hx => ?_⟩
    · have hlen : i < 3 * len := by
        have := (List.getElem?_eq_some_iff.1 hi).1
        rw [hdCs_length] at this
        simpa using this
      obtain ⟨q, r, hr, rfl⟩ : ∃ q r, r < 3 ∧ i = q * 3 + r := ⟨i / 3, i % 3, by omega, by omega⟩
      have hq : q < len := by omega
      have hg := hdCs_at ((List.range len).map f) q (by simpa using hq)
      have hfd : ((List.range len).map f).getD q default = f q := by simp [hq]
      rw [hfd] at hg
      have hfc := hf q hq
      have h0 := hg 0 _ rfl
      have h1 := hg 1 _ rfl
      have h2 := hg 2 _ rfl
      rcases (show r = 0 ∨ r = 1 ∨ r = 2 by omega) with rfl | rfl | rfl
      · rw [h0] at hi
        cases hi
        exact hfc.1
      · rw [h1] at hi
        cases hi
        rw [← Nat.add_assoc]
        exact hfc.2.1
      · rw [h2] at hi
        cases hi
        rw [← Nat.add_assoc]
        exact hfc.2.2.1
    · rw [List.mem_map] at hx
      obtain ⟨i, hi, rfl⟩ := hx
      exact (hf i (by simpa using hi)).2.2.2
end

end Go.Proofs.Ytjgdplengfnkaaa
