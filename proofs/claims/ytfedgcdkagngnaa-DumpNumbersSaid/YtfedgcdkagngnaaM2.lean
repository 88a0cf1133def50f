/- Parts of the proof, one behind the other: Dz, Grow, Na, Ag, Mem, Mix, Mr, St, Zd, Mx, Tr, Jx, Zi. -/
import Derived.Test.YtfedgcdkagngnaaM1
import Derived.OwnWalk
import Derived.Laws.OwnMore
import Derived.WalkKit
import Derived.Deep.Cut

/- nvm.Device: Len, Persist. -/
namespace Go.Proofs.Ytfedgcdkagngnaa
open Go.RowKit
set_option linter.unusedVariables false

set_option maxHeartbeats 400000 in
theorem dlen_any {w : World} {F : Foot} {S : Dev} (h : DevAt w F S) :
    Calls Try.prog 35 #[vdev F] w fun e w' => e = .returned (.int .i64 (S.cache.length : Nat)) ∧ w = w' := by
  have c1 : w.cell? ⟨F.d, 1, none⟩ = some (.slice (some ⟨F.c, 0, none⟩) S.cache.length F.cc) := cell_of_row _ _ 1 _ _ _ h.head
  clear h
  go_enter Try.func35, Try.ntmps35
  go_wp2_with fail
  go_ret
  exact ⟨rfl, rfl⟩

theorem Dev.hold_same (S : Dev) (j : Nat) : (S.hold j).steps = S.steps ∧ (S.hold j).fuse = S.fuse := by
  unfold Dev.hold; split <;> exact ⟨rfl, rfl⟩
theorem Dev.flush_ok {S : Dev} {N : Nat} (h : S.ok N) (j : Int) : (S.flush j).ok (N + 1) := by
  unfold Dev.flush
  split
  · exact h.mono (by omega)
  · split
    · exact Dev.step_ok h
    · have := Dev.step_ok h
      have e := S.step.hold_same j.toNat
      unfold Dev.ok at *
      rw [e.1, e.2]
      exact this
theorem Dev.hold_len (S : Dev) (j : Nat) : (S.hold j).cache = S.cache ∧ (S.hold j).dirty = S.dirty := by
  unfold Dev.hold; split <;> exact ⟨rfl, rfl⟩
theorem Dev.flush_len (S : Dev) (j : Int) : (S.flush j).cache = S.cache ∧ (S.flush j).dirty = S.dirty := by
  unfold Dev.flush
  have h := S.step_rest
  split
  · exact ⟨rfl, rfl⟩
  · split
    · exact ⟨h.2.1, h.2.2.2.1⟩
    · have e := S.step.hold_len j.toNat
      exact ⟨e.1.trans h.2.1, e.2.trans h.2.2.2.1⟩

/-- Lines from a on are flushed, so many, up to the first error. -/
structure Done where
  dev : Dev
  err : Int
def Dev.flushRun (S : Dev) (a : Nat) : Nat → Done
  | 0 => ⟨S, 0⟩
  | m + 1 => if (S.flushRun a m).err ≠ 0 then S.flushRun a m else ⟨(S.flushRun a m).dev.flush ((a + m : Nat) : Int), (S.flushRun a m).dev.flushE ((a + m : Nat) : Int)⟩
def Dev.persistN (S : Dev) (a m : Nat) : Done :=
  if (S.flushRun a m).err ≠ 0 then S.flushRun a m else ⟨(S.flushRun a m).dev.fence, (S.flushRun a m).dev.fenceE⟩
def Dev.persist (S : Dev) (p n : Int) : Done :=
  if p < 0 ∨ n < 0 ∨ (S.cache.length : Int) < p ∨ (S.cache.length : Int) - p < n then ⟨S, 2⟩
  else if 0 < n then S.persistN (p / 8).toNat ((p + n - 1) / 8 - p / 8 + 1).toNat else ⟨S.fence, S.fenceE⟩

theorem Dev.flushRun_ok {S : Dev} {N : Nat} (h : S.ok N) (a m : Nat) : (S.flushRun a m).dev.ok (N + m) := by
  induction m with
  | zero => exact h
  | succ m ih =>
    unfold Dev.flushRun
    split
    · exact ih.mono (by omega)
    · exact Dev.flush_ok ih _

theorem Dev.flushRun_stays (S : Dev) (a m : Nat) : ∀ k, m ≤ k → (S.flushRun a m).err ≠ 0 → S.flushRun a k = S.flushRun a m := by
  intro k hk hne
  induction k with
  | zero => obtain rfl : m = 0 := by omega
            rfl
  | succ k ih =>
    by_cases e : m = k + 1
    · rw [e]
    · have := ih (by omega)
      rw [Dev.flushRun, if_pos (by rw [this]; exact hne), this]

set_option maxHeartbeats 2000000 in
set_option maxRecDepth 100000 in
theorem persist_any {w : World} {F : Foot} {S : Dev} (h : DevAt w F S) {N : Nat} (hN : N + 1000000 < 1000000000000) (ho : S.ok N) (p n : Int) (hp : p ≤ 4611686018427387904) (hn : n ≤ 4611686018427387904) :
    Calls Try.prog 27 #[vdev F, .int .i64 p, .int .i64 n] w fun e w' => e = .returned (.int .i64 (S.persist p n).err) ∧ DevAt w' F (S.persist p n).dev ∧ Touch F.list w w' := by
  have hsm := h.small
  have HD := Lib.hid h
  clear h
  by_cases c1 : p < 0
  · have HE : Hid (S.persist p n = ⟨S, 2⟩) := Lib.hid (by unfold Dev.persist; rw [if_pos (.inl c1)])
    go_enter Try.func27, Try.ntmps27
    go_wp2_with fail
    go_ret
    exact ⟨ret_int (by rw [HE.out]), by rw [HE.out]; exact HD.out, Touch.refl _ _⟩
  by_cases c2 : n < 0
  · have HE : Hid (S.persist p n = ⟨S, 2⟩) := Lib.hid (by unfold Dev.persist; rw [if_pos (.inr (.inl c2))])
    go_enter Try.func27, Try.ntmps27
    go_wp2_with fail
    go_ret
    exact ⟨ret_int (by rw [HE.out]), by rw [HE.out]; exact HD.out, Touch.refl _ _⟩
  by_cases c3 : (S.cache.length : Int) < p
  · have HE : Hid (S.persist p n = ⟨S, 2⟩) := Lib.hid (by unfold Dev.persist; rw [if_pos (.inr (.inr (.inl c3)))])
    go_enter Try.func27, Try.ntmps27
    go_wp2_with fail
    refine (dlen_any HD.out).mono ?_
    rintro e w1 ⟨rfl, rfl⟩
    go_wp2_with fail
    go_ret
    exact ⟨ret_int (by rw [HE.out]), by rw [HE.out]; exact HD.out, Touch.refl _ _⟩
  by_cases c4 : (S.cache.length : Int) - p < n
  · have HE : Hid (S.persist p n = ⟨S, 2⟩) := Lib.hid (by unfold Dev.persist; rw [if_pos (.inr (.inr (.inr c4)))])
    go_enter Try.func27, Try.ntmps27
    go_wp2_with fail
    refine (dlen_any HD.out).mono ?_
    rintro e w1 ⟨rfl, rfl⟩
    go_wp2_with fail
    refine (dlen_any HD.out).mono ?_
    rintro e w1 ⟨rfl, rfl⟩
    go_wp2_with fail
    go_ret
    exact ⟨ret_int (by rw [HE.out]), by rw [HE.out]; exact HD.out, Touch.refl _ _⟩
  have hcond : ¬ (p < 0 ∨ n < 0 ∨ (S.cache.length : Int) < p ∨ (S.cache.length : Int) - p < n) := by omega
  by_cases c5 : 0 < n
  · have HE : Hid (S.persist p n = S.persistN (p / 8).toNat ((p + n - 1) / 8 - p / 8 + 1).toNat) := Lib.hid (by unfold Dev.persist; rw [if_neg hcond, if_pos c5])
    clear hcond
    obtain ⟨a, ha⟩ : ∃ a : Nat, p / 8 = (a : Int) := ⟨(p / 8).toNat, by omega⟩
    obtain ⟨M, hM⟩ : ∃ M : Nat, (p + n - 1) / 8 = ((a + M : Nat) : Int) := ⟨((p + n - 1) / 8 - p / 8).toNat, by omega⟩
    have e1 : (p / 8).toNat = a := by omega
    have e2 : ((p + n - 1) / 8 - p / 8 + 1).toNat = M + 1 := by omega
    rw [e1, e2] at HE
    have hMs : a + M < 200000 := by omega
    have HP : Hid (S.persistN a (M + 1) = if (S.flushRun a (M + 1)).err ≠ 0 then S.flushRun a (M + 1) else ⟨(S.flushRun a (M + 1)).dev.fence, (S.flushRun a (M + 1)).dev.fenceE⟩) := Lib.hid rfl
    have HA := Lib.hid ha
    have HM := Lib.hid hM
    clear e1 e2 ha hM
    go_enter Try.func27, Try.ntmps27
    go_wp2_with fail
    refine (dlen_any HD.out).mono ?_
    rintro e w1 ⟨rfl, rfl⟩
    go_wp2_with fail
    refine (dlen_any HD.out).mono ?_
    rintro e w1 ⟨rfl, rfl⟩
    go_wp2_with fail
    rw [HA.out]
    go_loopw [7] (fun i wr => ∃ q : Nat, a ≤ q ∧ q ≤ a + M + 1 ∧ i = .int .i64 (q : Int) ∧ (S.flushRun a (q - a)).err = 0 ∧ DevAt wr F (S.flushRun a (q - a)).dev ∧ Touch F.list w wr) (fun i _ => a + M + 1 - (intOf i).toNat)
    case atStart => exact ⟨a, Nat.le_refl _, by omega, rfl, by rw [Nat.sub_self]; rfl, by rw [Nat.sub_self]; exact HD.out, Touch.refl _ _⟩
    case round =>
      clear HD
      obtain ⟨q, hq1, hq2, rfl, he0, hd, ht⟩ := hrel
      have HO := Lib.hid (Dev.flushRun_ok ho a (q - a))
      have HD := Lib.hid hd
      clear ho
      by_cases hlt : q ≤ a + M
      · have hcnd : (q : Int) ≤ (p + n - 1) / 8 := by rw [HM.out]; omega
        have HN : Hid (S.flushRun a (q + 1 - a) = ⟨(S.flushRun a (q - a)).dev.flush (q : Int), (S.flushRun a (q - a)).dev.flushE (q : Int)⟩) := Lib.hid (by
          obtain ⟨m, rfl⟩ : ∃ m, q = a + m := ⟨q - a, by omega⟩
          rw [show a + m + 1 - a = m + 1 by omega, show a + m - a = m by omega] at *
          rw [Dev.flushRun, if_neg (by rw [he0]; simp)])
        have HF : Hid ((S.flushRun a (q + 1 - a)).err ≠ 0 → S.persist p n = S.flushRun a (q + 1 - a)) := Lib.hid (by
          intro hne
          rw [HE.out, HP.out]
          have := Dev.flushRun_stays S a (q + 1 - a) (M + 1) (by omega) hne
          rw [this, if_pos hne])
        clear he0 hd hcnd
        have hcnd : (q : Int) ≤ (p + n - 1) / 8 := by rw [HM.out]; omega
        generalize (S.flushRun a (q - a)).dev = S1 at *
        go_wp2_with fail
        refine (flush_any HD.out (by omega) HO.out _).mono ?_
        rintro e w1 ⟨rfl, hd1, ht1⟩
        have HD1 := Lib.hid hd1
        have HT1 := Lib.hid (ht.trans ht1)
        clear hd1 ht1 ht HD
        obtain ⟨fe, hfe⟩ : ∃ fe, S1.flushE (q : Int) = fe := ⟨_, rfl⟩
        rw [hfe] at HN ⊢
        clear hfe
        by_cases hz : fe = 0
        · subst hz
          go_wp2_with fail
          exact ⟨⟨q + 1, by omega, by omega, vint (by omega), by rw [HN.out], by rw [HN.out]; exact HD1.out, HT1.out⟩, by simp [intOf]; omega⟩
        · have hz1 : (fe != 0) = true := by simpa using hz
          have HZ := Lib.hid hz
          clear hz
          go_wp2_with fail
          go_ret
          have := HF.out (by rw [HN.out]; exact HZ.out)
          exact ⟨ret_int (by rw [this, HN.out]), by rw [this, HN.out]; exact HD1.out, HT1.out⟩
      · obtain rfl : q = a + M + 1 := by omega
        have hcnd : (p + n - 1) / 8 < ((a + M + 1 : Nat) : Int) := by rw [HM.out]; omega
        rw [show a + M + 1 - a = M + 1 by omega] at *
        have HZ : Hid (S.persist p n = ⟨(S.flushRun a (M + 1)).dev.fence, (S.flushRun a (M + 1)).dev.fenceE⟩) := Lib.hid (by rw [HE.out, HP.out, if_neg (by rw [he0]; simp)])
        clear he0 hd HP HE
        generalize (S.flushRun a (M + 1)).dev = S1 at *
        go_wp2_with fail
        refine (fence_any HD.out (by omega) HO.out).mono ?_
        rintro e w2 ⟨rfl, hd2, ht2⟩
        go_wp2_with fail
        go_ret
        exact ⟨ret_int (by rw [HZ.out]), by rw [HZ.out]; exact hd2, ht.trans ht2⟩
  · have HE : Hid (S.persist p n = ⟨S.fence, S.fenceE⟩) := Lib.hid (by unfold Dev.persist; rw [if_neg hcond, if_neg c5])
    clear hcond
    go_enter Try.func27, Try.ntmps27
    go_wp2_with fail
    refine (dlen_any HD.out).mono ?_
    rintro e w1 ⟨rfl, rfl⟩
    go_wp2_with fail
    refine (dlen_any HD.out).mono ?_
    rintro e w1 ⟨rfl, rfl⟩
    go_wp2_with fail
    refine (fence_any HD.out (by omega) ho).mono ?_
    rintro e w2 ⟨rfl, hd2, ht2⟩
    go_wp2_with fail
    go_ret
    exact ⟨ret_int (by rw [HE.out]), by rw [HE.out]; exact hd2, ht2⟩

end Go.Proofs.Ytfedgcdkagngnaa

/- Regions that draw their order and in which several operations make memory: each such operation leaves a value of which something stable can be said; whatever order is picked, all of it holds at the end, and what they made lies apart. -/
namespace Go.Proofs.Ytfedgcdkagngnaa
open Go.RowKit
set_option linter.unusedVariables false

/-- What is said of an operation's value: between which sizes of the heap its memory was made, in which world. -/
abbrev Spec := Value → Nat → Nat → World → Prop
abbrev Facts := Nat → Option (Value × Nat × Nat)
def Facts.lay (F : Facts) (i : Nat) (x : Value × Nat × Nat) : Facts := fun k => if k = i then some x else F k

def Holds1 (S : Nat → Option Spec) (F : Facts) (x : World) (k : Nat) : Prop := ∀ v lo hi, F k = some (v, lo, hi) → (∃ R, S k = some R ∧ R v lo hi x) ∧ hi ≤ x.heap.size
def Holds (S : Nat → Option Spec) (F : Facts) (x : World) : Prop := ∀ k, Holds1 S F x k
def FApart (F : Facts) : Prop := ∀ i j, i ≠ j → ∀ v lo hi v' lo' hi', F i = some (v, lo, hi) → F j = some (v', lo', hi') → hi ≤ lo' ∨ hi' ≤ lo
def Stable (S : Nat → Option Spec) : Prop := ∀ k R, S k = some R → ∀ v lo hi x y, R v lo hi x → Below x.heap.size x y → R v lo hi y

theorem Facts.lay_comm (F : Facts) {i j : Nat} (h : i ≠ j) (x y : Value × Nat × Nat) : (F.lay i x).lay j y = (F.lay j y).lay i x := by
  funext k
  unfold Facts.lay
  by_cases h1 : k = j
  · subst h1; simp [Ne.symm h]
  · simp [h1]

theorem Holds.get {S : Nat → Option Spec} {F : Facts} {x : World} (h : Holds S F x) {k : Nat} {R : Spec} {v : Value} {lo hi : Nat} (hR : S k = some R) (hF : F k = some (v, lo, hi)) : R v lo hi x ∧ hi ≤ x.heap.size := by
  obtain ⟨⟨R', hR', h1⟩, h2⟩ := h k v lo hi hF
  rw [hR] at hR'
  cases hR'
  exact ⟨h1, h2⟩

theorem Holds.lay {S : Nat → Option Spec} {F : Facts} {x y : World} (hS : Stable S) (h : Holds S F x) (hb : Below x.heap.size x y) {i : Nat} {R : Spec} (hR : S i = some R) {v : Value} (hv : R v x.heap.size y.heap.size y) :
    Holds S (F.lay i (v, x.heap.size, y.heap.size)) y := by
  intro k v' lo hi hk
  unfold Facts.lay at hk
  by_cases e : k = i
  · subst e
    simp at hk
    obtain ⟨rfl, rfl, rfl⟩ := hk
    exact ⟨⟨R, hR, hv⟩, Nat.le_refl _⟩
  · simp [e] at hk
    obtain ⟨⟨R', h1, h2⟩, h3⟩ := h k v' lo hi hk
    exact ⟨⟨R', h1, hS k R' h1 _ _ _ _ _ h2 hb⟩, Nat.le_trans h3 hb.size⟩

theorem FApart.lay {S : Nat → Option Spec} {F : Facts} {x : World} (ha : FApart F) (h : Holds S F x) (i : Nat) (v : Value) (hi : Nat) : FApart (F.lay i (v, x.heap.size, hi)) := by
  intro p q hpq v1 l1 h1 v2 l2 h2 e1 e2
  unfold Facts.lay at e1 e2
  by_cases ep : p = i
  · subst ep
    rw [if_neg (Ne.symm hpq)] at e2
    simp at e1
    obtain ⟨rfl, rfl, rfl⟩ := e1
    exact .inr (h q _ _ _ e2).2
  · rw [if_neg ep] at e1
    by_cases eq : q = i
    · subst eq
      simp at e2
      obtain ⟨rfl, rfl, rfl⟩ := e2
      exact .inl (h p _ _ _ e1).2
    · rw [if_neg eq] at e2
      exact ha p q hpq _ _ _ _ _ _ e1 e2

section
variable {P : Program} {ops : Array Oper} {md : Region.Mode} {C : World → Prop} {S : Nat → Option Spec} {Q : Exit → Act → World → Prop}

/-- What is asked of an operation that makes memory. -/
def growUpon (P : Program) (post : Value → World → Prop) (x : World) : Result Next → Prop
  | .ok (.value u) y => post u y
  | .ok (.enter f args) y => y = x ∧ Calls P f args x (fun e z => ∃ u, e = .returned u ∧ post u z)
  | _ => False

def growAt (P : Program) (R : Spec) (o : Oper) (a : Act) (x : World) : Prop :=
  growUpon P (fun u y => Below x.heap.size x y ∧ R u x.heap.size y.heap.size y) x ((execOp a.eval o).run P x)

def Sat (C : World → Prop) (S : Nat → Option Spec) (F : Facts) : Prop := ∃ x, C x ∧ Holds S F x ∧ FApart F

/-- Facts of what operation i waits for. -/
def HoldsFor (md : Region.Mode) (ops : Array Oper) (S : Nat → Option Spec) (F : Facts) (i : Nat) (x : World) : Prop := ∀ k, waitsFor md ops ops.size i k = true → Holds1 S F x k

def gStep (P : Program) (md : Region.Mode) (ops : Array Oper) (C : World → Prop) (S : Nat → Option Spec) (i : Nat) (o : Oper) (K : Act → Facts → Prop) (a : Act) (F : Facts) : Prop :=
  if Region.wanted o (yielded ops a.tmps) then
    match S i with
    | none => calm o.op = true ∧ ∃ v, (∀ x, C x → (execOp a.eval o).run P x = .ok (.value v) x) ∧ K (a.put o.dst v) F
    | some R => (∀ x, C x → HoldsFor md ops S F i x → growAt P R o a x) ∧ ∀ v lo hi, Sat C S (F.lay i (v, lo, hi)) → K (a.put o.dst v) (F.lay i (v, lo, hi))
  else K (a.put o.dst undef) F

def gOp (P : Program) (md : Region.Mode) (ops : Array Oper) (C : World → Prop) (S : Nat → Option Spec) (i : Nat) (K : Act → Facts → Prop) (a : Act) (F : Facts) : Prop :=
  match ops[i]? with
  | none => K a F
  | some o => gStep P md ops C S i o K a F

theorem gStep_mono {i : Nat} {o : Oper} {K K' : Act → Facts → Prop} {a : Act} {F : Facts} (h : ∀ a F, K a F → K' a F) (hh : gStep P md ops C S i o K a F) : gStep P md ops C S i o K' a F := by
  unfold gStep at *
  split
  · rename_i hw
    rw [if_pos hw] at hh
    cases hS : S i with
    | none =>
      rw [hS] at hh
      obtain ⟨hc, v, h1, h2⟩ := hh
      exact ⟨hc, v, h1, h _ _ h2⟩
    | some R =>
      rw [hS] at hh
      exact ⟨hh.1, fun v lo hi hs => h _ _ (hh.2 v lo hi hs)⟩
  · rename_i hw
    rw [if_neg hw] at hh
    exact h _ _ hh

def wpAnyG (P : Program) (md : Region.Mode) (ops : Array Oper) (C : World → Prop) (S : Nat → Option Spec) (n : Nat) (R : Array Bool → Act → Facts → Prop) : Nat → Array Bool → Act → Facts → Prop
  | 0, listed, a, F => Region.ready md ops listed = [n] ∧ R listed a F
  | fuel + 1, listed, a, F => Region.ready md ops listed ≠ [] ∧ ∀ i ∈ Region.ready md ops listed, gOp P md ops C S i (wpAnyG P md ops C S n R fuel (listed.setIfInBounds i true)) a F

/-- In the real run. -/
theorem wpOp_of_gOp (hS : Stable S) (hC : ∀ x y, C x → Below x.heap.size x y → C y) {i : Nat} {K : Act → Facts → Prop} {K' : Act → World → Prop} {a : Act} {F : Facts} {w : World}
    (h : ∀ a' F' w', C w' → Holds S F' w' → FApart F' → K a' F' → K' a' w') (hw : C w) (hF : Holds S F w) (hA : FApart F) (hh : gOp P md ops C S i K a F) : wpOp P ops Q i K' a w := by
  unfold gOp at hh
  unfold wpOp
  cases ho : ops[i]? with
  | none => rw [ho] at hh; exact h _ _ _ hw hF hA hh
  | some o =>
    rw [ho] at hh
    unfold gStep at hh
    dsimp only at hh ⊢
    split
    · rename_i hwt
      rw [if_pos hwt] at hh
      refine .inl ?_
      unfold Oper.wp
      cases hSi : S i with
      | none =>
        rw [hSi] at hh
        obtain ⟨_, v, h1, h2⟩ := hh
        rw [h1 w hw]
        simp only [Oper.upon]
        exact h _ _ _ hw hF hA h2
      | some R =>
        rw [hSi] at hh
        obtain ⟨h1, h2⟩ := hh
        have h3 := h1 w hw (fun k _ => hF k)
        have go : ∀ u y, Below w.heap.size w y → R u w.heap.size y.heap.size y → K' (a.put o.dst u) y := fun u y hb hr =>
          h _ _ _ (hC _ _ hw hb) (hF.lay hS hb hSi hr) (hA.lay hF i u _) (h2 u _ _ ⟨y, hC _ _ hw hb, hF.lay hS hb hSi hr, hA.lay hF i u _⟩)
        unfold growAt at h3
        cases hr : (execOp a.eval o).run P w with
        | ok nx y =>
          rw [hr] at h3
          cases nx <;> simp only [growUpon] at h3 <;> simp only [Oper.upon]
          · exact go _ _ h3.1 h3.2
          · obtain ⟨rfl, h3⟩ := h3
            exact h3.mono fun e z ⟨u, he, hb, hr⟩ => by subst he; exact go _ _ hb hr
        | halt x y => rw [hr] at h3; simp only [growUpon] at h3
    · rename_i hwt
      rw [if_neg hwt] at hh
      exact h _ _ _ hw hF hA hh

theorem wpAny_of_G (hS : Stable S) (hC : ∀ x y, C x → Below x.heap.size x y → C y) {n m : Nat} {R : Array Bool → Act → Facts → Prop} (hR : ∀ listed a F w, C w → Holds S F w → FApart F → R listed a F → wpAny P md ops Q m listed a w) :
    ∀ (fuel : Nat) (listed : Array Bool) (a : Act) (F : Facts) (w : World), C w → Holds S F w → FApart F → wpAnyG P md ops C S n R fuel listed a F → wpAny P md ops Q (fuel + m) listed a w
  | 0, listed, a, F, w, h1, h2, h3, h => by rw [Nat.zero_add]; exact hR _ _ _ _ h1 h2 h3 h.2
  | fuel + 1, listed, a, F, w, h1, h2, h3, h => by
    rw [show fuel + 1 + m = (fuel + m) + 1 by omega]
    exact ⟨fun h0 => absurd h0 h.1, fun i hi => wpOp_of_gOp hS hC (fun a' F' w' c1 c2 c3 h' => wpAny_of_G hS hC hR fuel _ a' F' w' c1 c2 c3 h') h1 h2 h3 (h.2 i hi)⟩

/-- Some outcome there is. -/
theorem growAt_sat (hS : Stable S) (hC : ∀ x y, C x → Below x.heap.size x y → C y) {i : Nat} {R : Spec} {o : Oper} {a : Act} {F : Facts} {x : World} (hx : C x) (hF : Holds S F x) (hA : FApart F) (hR : S i = some R) (h : growAt P R o a x) :
    ∃ v lo hi, Sat C S (F.lay i (v, lo, hi)) := by
  have go : ∀ u y, Below x.heap.size x y → R u x.heap.size y.heap.size y → ∃ v lo hi, Sat C S (F.lay i (v, lo, hi)) := fun u y hb hr => ⟨u, _, _, y, hC _ _ hx hb, hF.lay hS hb hR hr, hA.lay hF i u _⟩
  unfold growAt at h
  cases hr : (execOp a.eval o).run P x with
  | ok nx y =>
    rw [hr] at h
    cases nx <;> simp only [growUpon] at h
    · exact go _ _ h.1 h.2
    · obtain ⟨_, h⟩ := h
      obtain ⟨e, w', fr, ⟨u, _, hb, hr⟩, _⟩ := h []
      exact go _ _ hb hr
  | halt x' y => rw [hr] at h; simp only [growUpon] at h

theorem HoldsFor.unlay {F : Facts} {i j : Nat} {x : World} {t : Value × Nat × Nat} (hw : waitsFor md ops ops.size j i = false) (h : HoldsFor md ops S F j x) : HoldsFor md ops S (F.lay i t) j x := by
  intro k hk
  have hki : k ≠ i := fun e => by rw [e, hw] at hk; cases hk
  intro v lo hi hF
  unfold Facts.lay at hF
  rw [if_neg hki] at hF
  exact h k hk v lo hi hF
/-- Facts of a part that can be met. -/
theorem Sat.sub {F : Facts} {i : Nat} {t : Value × Nat × Nat} (hi : F i = none) (h : Sat C S (F.lay i t)) : Sat C S F := by
  obtain ⟨x, h1, h2, h3⟩ := h
  have key : ∀ k v, F k = some v → (F.lay i t) k = some v := by
    intro k v hk
    unfold Facts.lay
    by_cases e : k = i
    · subst e; rw [hi] at hk; cases hk
    · rw [if_neg e]; exact hk
  exact ⟨x, h1, fun k v lo hi' hk => h2 k v lo hi' (key _ _ hk), fun p q hpq v lo hi' v' lo' hi'' e1 e2 => h3 p q hpq _ _ _ _ _ _ (key _ _ e1) (key _ _ e2)⟩

/-- One step j, apart from step i, which has not come up: what it does behind i, it does ahead of i. -/
theorem gOp_swap (hS : Stable S) (hC : ∀ x y, C x → Below x.heap.size x y → C y) {i j : Nat} {oi oj : Oper} (hij : j ≠ i) (hi : ops[i]? = some oi) (hj : ops[j]? = some oj) (hap : oi.apart ops oj = true)
    (hsi : ∀ cs b, oi.op ≠ .select cs b) (hsj : ∀ cs b, oj.op ≠ .select cs b) (hw1 : waitsFor md ops ops.size j i = false) {K : Act → Facts → Prop} {a : Act} {F : Facts} (hsat : Sat C S F) (hFi : F i = none) (hFj : F j = none)
    (hh : gStep P md ops C S i oi (gOp P md ops C S j K) a F) :
    gOp P md ops C S j (fun a' F' => Sat C S F' → F' i = none → gStep P md ops C S i oi K a' F') a F := by
  obtain ⟨h1, h2, h3⟩ := Oper.apart_spec hap
  have lay_i : ∀ t, (F.lay j t) i = none := fun t => by unfold Facts.lay; rw [if_neg (Ne.symm hij)]; exact hFi
  obtain ⟨x0, hx0, hF0, hA0⟩ := hsat
  unfold gOp at *
  simp only [hj] at *
  unfold gStep at hh
  by_cases hwi : Region.wanted oi (yielded ops a.tmps) = true
  · rw [if_pos hwi] at hh
    have wi : ∀ u, Region.wanted oi (yielded ops (a.put oj.dst u).tmps) = true := fun u => by rw [wanted_put oi a oj.dst u h3]; exact hwi
    cases hSi : S i with
    | none =>
      rw [hSi] at hh
      obtain ⟨hcal, v, hv, hK⟩ := hh
      try unfold gStep at hK
      rw [wanted_put oj a oi.dst v h1] at hK
      unfold gStep
      by_cases hwj : Region.wanted oj (yielded ops a.tmps) = true
      · rw [if_pos hwj] at hK ⊢
        cases hSj : S j with
        | none =>
          rw [hSj] at hK
          obtain ⟨hcj, u, hu, hK⟩ := hK
          refine ⟨hcj, u, fun x hx => ?_, fun _ _ => ?_⟩
          · have := hu x hx; rwa [execOp_put oj hsj a oi.dst v h1] at this
          · rw [if_pos (wi u), hSi]
            exact ⟨hcal, v, fun x hx => by rw [execOp_put oi hsi a oj.dst u h3]; exact hv x hx, by rw [← Act.put_comm a v u h2]; exact hK⟩
        | some R =>
          rw [hSj] at hK
          obtain ⟨hob, hK⟩ := hK
          refine ⟨fun x hx hh => ?_, fun u lo hi hs _ _ => ?_⟩
          · have := hob x hx hh; unfold growAt at *; rwa [execOp_put oj hsj a oi.dst v h1] at this
          · rw [if_pos (wi u), hSi]
            exact ⟨hcal, v, fun x hx => by rw [execOp_put oi hsi a oj.dst u h3]; exact hv x hx, by rw [← Act.put_comm a v u h2]; exact hK u lo hi hs⟩
      · rw [if_neg hwj] at hK ⊢
        intro _ _
        rw [if_pos (wi undef), hSi]
        exact ⟨hcal, v, fun x hx => by rw [execOp_put oi hsi a oj.dst undef h3]; exact hv x hx, by rw [← Act.put_comm a v undef h2]; exact hK⟩
    | some Ri =>
      rw [hSi] at hh
      obtain ⟨hobi, hK⟩ := hh
      obtain ⟨v0, lo0, hi0, hs0⟩ := growAt_sat hS hC hx0 hF0 hA0 hSi (hobi x0 hx0 (fun k _ => hF0 k))
      have hobi' : ∀ t x, C x → HoldsFor md ops S (F.lay j t) i x → HoldsFor md ops S F i x := by
        intro t x _ hh k hk v lo hi hF
        by_cases e : k = j
        · subst e; rw [hFj] at hF; cases hF
        · exact hh k hk v lo hi (by unfold Facts.lay; rw [if_neg e]; exact hF)
      try unfold gStep at hK
      dsimp only at hK
      unfold gStep
      by_cases hwj : Region.wanted oj (yielded ops a.tmps) = true
      · rw [if_pos hwj]
        cases hSj : S j with
        | none =>
          have hK0 := hK v0 lo0 hi0 hs0
          rw [wanted_put oj a oi.dst v0 h1, if_pos hwj, hSj] at hK0
          obtain ⟨hcj, u, hu, _⟩ := hK0
          have hu' : ∀ x, C x → (execOp a.eval oj).run P x = .ok (.value u) x := fun x hx => by have := hu x hx; rwa [execOp_put oj hsj a oi.dst v0 h1] at this
          refine ⟨hcj, u, hu', fun _ _ => ?_⟩
          rw [if_pos (wi u), hSi]
          refine ⟨fun x hx hh => ?_, fun v lo hi hs => ?_⟩
          · have := hobi x hx hh; unfold growAt at *; rwa [execOp_put oi hsi a oj.dst u h3]
          · have hK1 := hK v lo hi hs
            rw [wanted_put oj a oi.dst v h1, if_pos hwj, hSj] at hK1
            obtain ⟨_, u1, hu1, hK1⟩ := hK1
            have e : u1 = u := by
              have a1 := hu1 x0 hx0
              rw [execOp_put oj hsj a oi.dst v h1, hu' x0 hx0] at a1
              injection a1 with a1
              injection a1 with a1
              exact a1.symm
            subst e
            rw [← Act.put_comm a v u1 h2]
            exact hK1
        | some Rj =>
          have hK0 := hK v0 lo0 hi0 hs0
          rw [wanted_put oj a oi.dst v0 h1, if_pos hwj, hSj] at hK0
          obtain ⟨hobj, _⟩ := hK0
          refine ⟨fun x hx hh => ?_, fun u lo hi _ _ _ => ?_⟩
          · have := hobj x hx (hh.unlay hw1); unfold growAt at *; rwa [execOp_put oj hsj a oi.dst v0 h1] at this
          · rw [if_pos (wi u), hSi]
            refine ⟨fun x hx hh => ?_, fun v lo' hi' hs => ?_⟩
            · have := hobi x hx (hobi' _ x hx hh); unfold growAt at *; rwa [execOp_put oi hsi a oj.dst u h3]
            · rw [Facts.lay_comm _ hij] at hs ⊢
              have hn : (F.lay i (v, lo', hi')) j = none := by unfold Facts.lay; rw [if_neg hij]; exact hFj
              have hK1 := hK v lo' hi' (hs.sub hn)
              rw [wanted_put oj a oi.dst v h1, if_pos hwj, hSj] at hK1
              rw [← Act.put_comm a v u h2]
              exact hK1.2 u lo hi hs
      · rw [if_neg hwj]
        intro _ _
        rw [if_pos (wi undef), hSi]
        refine ⟨fun x hx hh => ?_, fun v lo hi hs => ?_⟩
        · have := hobi x hx hh; unfold growAt at *; rwa [execOp_put oi hsi a oj.dst undef h3]
        · have hK1 := hK v lo hi hs
          rw [wanted_put oj a oi.dst v h1, if_neg hwj] at hK1
          rw [← Act.put_comm a v undef h2]
          exact hK1
  · rw [if_neg hwi] at hh
    have wi : ∀ u, ¬ Region.wanted oi (yielded ops (a.put oj.dst u).tmps) = true := fun u => by rw [wanted_put oi a oj.dst u h3]; exact hwi
    try unfold gStep at hh
    rw [wanted_put oj a oi.dst undef h1] at hh
    unfold gStep
    by_cases hwj : Region.wanted oj (yielded ops a.tmps) = true
    · rw [if_pos hwj] at hh ⊢
      cases hSj : S j with
      | none =>
        rw [hSj] at hh
        obtain ⟨hcj, u, hu, hK⟩ := hh
        refine ⟨hcj, u, fun x hx => by have := hu x hx; rwa [execOp_put oj hsj a oi.dst undef h1] at this, fun _ _ => ?_⟩
        rw [if_neg (wi u), ← Act.put_comm a undef u h2]; exact hK
      | some R =>
        rw [hSj] at hh
        obtain ⟨hob, hK⟩ := hh
        refine ⟨fun x hx hh => by have := hob x hx hh; unfold growAt at *; rwa [execOp_put oj hsj a oi.dst undef h1] at this, fun u lo hi hs _ _ => ?_⟩
        rw [if_neg (wi u), ← Act.put_comm a undef u h2]; exact hK u lo hi hs
    · rw [if_neg hwj] at hh ⊢
      intro _ _
      rw [if_neg (wi undef), ← Act.put_comm a undef undef h2]; exact hh

/-- Nothing is said of what has not come up. -/
def Fresh (F : Facts) (listed : Array Bool) : Prop := ∀ k, listed.getD k true = false → F k = none

theorem gOp_keep {i : Nat} {K K' : Act → Facts → Prop} {a : Act} {F : Facts} (hs : Sat C S F) (h : ∀ a' F', Sat C S F' → (∀ k, k ≠ i → F' k = F k) → K a' F' → K' a' F') (hh : gOp P md ops C S i K a F) : gOp P md ops C S i K' a F := by
  unfold gOp at *
  cases ho : ops[i]? with
  | none => rw [ho] at hh; exact h _ _ hs (fun _ _ => rfl) hh
  | some o =>
    rw [ho] at hh
    dsimp only at *
    unfold gStep at *
    split
    · rename_i hw
      rw [if_pos hw] at hh
      cases hS : S i with
      | none =>
        rw [hS] at hh
        obtain ⟨hc, v, h1, h2⟩ := hh
        exact ⟨hc, v, h1, h _ _ hs (fun _ _ => rfl) h2⟩
      | some R =>
        rw [hS] at hh
        exact ⟨hh.1, fun v lo hi hs' => h _ _ hs' (fun k hk => by unfold Facts.lay; rw [if_neg hk]) (hh.2 v lo hi hs')⟩
    · rename_i hw
      rw [if_neg hw] at hh
      exact h _ _ hs (fun _ _ => rfl) hh

theorem wpAnyG_first (hS : Stable S) (hC : ∀ x y, C x → Below x.heap.size x y → C y) {n i : Nat} {R : Array Bool → Act → Facts → Prop} {oi : Oper} (hi : ops[i]? = some oi) (hsel : ∀ (j : Nat) (o : Oper) cs b, ops[j]? = some o → o.op ≠ .select cs b)
    (hc : ∀ k, k < n → heir md ops n k = true) (hin : i < n) :
    ∀ (fuel : Nat) (listed : Array Bool) (a : Act) (F : Facts),
      (∀ j oj, ops[j]? = some oj → j ≠ i → listed.getD j true = false → (∀ e ∈ oj.after, Region.binds md e = true → e.on ≠ i) → oi.apart ops oj = true) →
      i ∈ Region.ready md ops listed → Shut md ops listed → Sat C S F → Fresh F listed →
      gStep P md ops C S i oi (wpAnyG P md ops C S n R fuel (listed.setIfInBounds i true)) a F → wpAnyG P md ops C S n R (fuel + 1) listed a F := by
  intro fuel
  induction fuel with
  | zero =>
    intro listed a F _ hr hsh hsat hfr H
    refine ⟨fun h => (by rw [h] at hr; cases hr), fun j hj => ?_⟩
    by_cases hji : j = i
    · subst hji; unfold gOp; simp only [hi]; exact H
    · exfalso
      have hrn : Region.ready md ops (listed.setIfInBounds i true) = [n] := by
        obtain ⟨x, hx, hF, hA⟩ := hsat
        unfold gStep at H
        split at H
        · cases hSi : S i with
          | none => rw [hSi] at H; obtain ⟨_, v, _, h⟩ := H; exact h.1
          | some Ri =>
            rw [hSi] at H
            obtain ⟨v, lo, hi', hs⟩ := growAt_sat hS hC hx hF hA hSi (H.1 x hx (fun k _ => hF k))
            exact (H.2 v lo hi' hs).1
        · exact H.1
      have := ready_mono hj hji
      rw [hrn] at this
      have hjn : j = n := by simpa using this
      subst hjn
      obtain ⟨_, oj, hoj, hall⟩ := mem_ready.1 hj
      have h1 := heir_listed hc hsh hoj hall (j - i) i (by omega) (by omega)
      have h0 := (mem_ready.1 hr).1
      rcases Nat.lt_or_ge i listed.size with h' | h'
      · simp [h'] at h0 h1; rw [h0] at h1; cases h1
      · simp [Array.getElem?_eq_none h'] at h1
  | succ fuel ih =>
    intro listed a F hfree hr hsh hsat hfr H
    refine ⟨fun h => (by rw [h] at hr; cases hr), fun j hj => ?_⟩
    by_cases hji : j = i
    · subst hji; unfold gOp; simp only [hi]; exact H
    · obtain ⟨hjun, oj, hoj, hall⟩ := mem_ready.1 hj
      have hiun0 := (mem_ready.1 hr).1
      have hiun : listed.getD i false = false := by
        rcases Nat.lt_or_ge i listed.size with h' | h'
        · simp [h'] at hiun0 ⊢; exact hiun0
        · simp [Array.getElem?_eq_none h']
      have hnot : ∀ e ∈ oj.after, Region.binds md e = true → e.on ≠ i := fun e he hb heq => by
        have h1 := hall e he hb
        rw [heq, hiun] at h1
        cases h1
      have hwf : waitsFor md ops ops.size j i = false := by
        cases hq : waitsFor md ops ops.size j i with
        | false => rfl
        | true =>
          have := waitsFor_listed hsh ops.size j i oj hoj hall hq
          rw [hiun] at this
          cases this
      have H' : gStep P md ops C S i oi (gOp P md ops C S j (wpAnyG P md ops C S n R fuel ((listed.setIfInBounds i true).setIfInBounds j true))) a F :=
        gStep_mono (fun a' F' h => h.2 j (ready_mono hj hji)) H
      have h2 := gOp_swap hS hC hji hi hoj (hfree j oj hoj hji hjun hnot) (fun cs b => hsel i oi cs b hi) (fun cs b => hsel j oj cs b hoj) hwf hsat (hfr i hiun0) (hfr j hjun) H'
      have hfree' : ∀ k ok, ops[k]? = some ok → k ≠ i → (listed.setIfInBounds j true).getD k true = false →
          (∀ e ∈ ok.after, Region.binds md e = true → e.on ≠ i) → oi.apart ops ok = true := fun k ok hk hki hun hno => by
        refine hfree k ok hk hki ?_ hno
        by_cases hjk : j = k
        · subst hjk; exact hjun
        · rw [getD_set_ne true hjk] at hun; exact hun
      refine gOp_keep hsat (fun a' F' hs' hF' h3 => ih (listed.setIfInBounds j true) a' F' hfree' (ready_mono hr (Ne.symm hji)) (hsh.set hj) hs' ?_ ?_) h2
      · intro k hk
        by_cases hjk : j = k
        · subst hjk
          exfalso
          have : (listed.setIfInBounds j true).getD j true = true := by
            rcases Nat.lt_or_ge j listed.size with h' | h'
            · simp [h']
            · simp [Array.getElem?_eq_none, h']
          rw [this] at hk
          cases hk
        · rw [getD_set_ne true hjk] at hk
          rw [hF' k (Ne.symm hjk)]
          exact hfr k hk
      · rw [Array.setIfInBounds_comm _ _ hji]
        exact h3 hs' (by rw [hF' i (Ne.symm hji)]; exact hfr i hiun0)

/-- The walk in the text's order. -/
def wpGrow (P : Program) (md : Region.Mode) (ops : Array Oper) (C : World → Prop) (S : Nat → Option Spec) (Fin : Act → Facts → Prop) : List Oper → Nat → Act → Facts → Prop
  | [], _, a, F => Fin a F
  | o :: rest, k, a, F => gStep P md ops C S k o (wpGrow P md ops C S Fin rest (k + 1)) a F

theorem grow_ok (hS : Stable S) (hC : ∀ x y, C x → Below x.heap.size x y → C y) {n : Nat} (hs : Region.noSelect ops = true) (hc : ∀ k, k < n → heir md ops n k = true) {Fin : Act → Facts → Prop} : ∀ (m : Nat) (l : List Oper) (k : Nat) (listed : Array Bool) (a : Act) (F : Facts), (∀ j, l[j]? = ops[k + j]?) → k + m = n → Shut md ops listed → Sat C S F → Fresh F listed → preFrom md ops n m k listed = true →
      wpGrow P md ops C S Fin (l.take m) k a F →
      wpAnyG P md ops C S n (fun listed a' F' => tailFrom md ops (ops.size - n) n listed = true ∧ Fin a' F') m listed a F := by
  intro m
  induction m with
  | zero =>
    intro l k listed a F _ _ _ _ _ hB h
    simp only [preFrom, Bool.and_eq_true, beq_iff_eq] at hB
    exact ⟨hB.1, hB.2, by simpa [wpGrow] using h⟩
  | succ m ih =>
    intro l k listed a F hl hk hsh hsat hfr hB h
    simp only [preFrom, Bool.and_eq_true] at hB
    obtain ⟨⟨hr, hf⟩, hB'⟩ := hB
    have hrk : k ∈ Region.ready md ops listed := by simpa using hr
    obtain ⟨hun, o0, ho0, _⟩ := mem_ready.1 hrk
    cases l with
    | nil =>
      have : ops[k]? = none := by simpa using (hl 0).symm
      rw [this] at ho0
      cases ho0
    | cons o l =>
      have h0 : ops[k]? = some o := by simpa using (hl 0).symm
      simp only [List.take_succ_cons, wpGrow] at h
      refine wpAnyG_first hS hC h0 (Region.noSelect_spec hs) hc (by omega) m listed a F (Region.free_spec h0 hf) hrk hsh hsat hfr ?_
      have h' : gOp P md ops C S k (wpGrow P md ops C S Fin (l.take m) (k + 1)) a F := by unfold gOp; simp only [h0]; exact h
      have := gOp_keep hsat (fun a' F' hs' hF' h3 => ih l (k + 1) (listed.setIfInBounds k true) a' F' (fun j => by have := hl (j + 1); simpa [Nat.add_assoc, Nat.add_comm 1 j] using this) (by omega) (hsh.set hrk) hs' ?_ hB' h3) h'
      · unfold gOp at this; simp only [h0] at this; exact this
      · intro j hj
        by_cases e : k = j
        · subst e
          exfalso
          have : (listed.setIfInBounds k true).getD k true = true := by
            rcases Nat.lt_or_ge k listed.size with h' | h'
            · simp [h']
            · simp [Array.getElem?_eq_none, h']
          rw [this] at hj
          cases hj
        · rw [getD_set_ne true e] at hj
          rw [hF' j (Ne.symm e)]
          exact hfr j hj

/-- One walk in the text's order serves every order: n operations, of which some make memory; then the rest, one by one. -/
theorem wp_region_grow {id : Nat} {a : Act} {w : World} {l : List Oper} (n : Nat) (S : Nat → Option Spec) (hS : Stable S) (hn : n ≤ l.length) (hm : P.follows .mixedOrders = true) (hB : preB .any l.toArray n = true)
    (h : wpGrow P .any l.toArray (fun w' => ∃ x : Later w, w' = x.val) S (fun a' F => ∀ w', (∃ x : Later w, w' = x.val) → Holds S F w' → FApart F → wpList P l.toArray Q (l.drop n) a' w') (l.take n) 0 a (fun _ => none)) :
    (Code.region id l.toArray true).wp P Q a w := by
  simp only [preB, Bool.and_eq_true] at hB
  refine wp_region_any hm ?_
  have hC : ∀ x y : World, (∃ z : Later w, x = z.val) → Below x.heap.size x y → (∃ z : Later w, y = z.val) := by
    rintro x y ⟨z, rfl⟩ hb
    exact ⟨⟨y, z.below.trans (hb.mono z.below.size)⟩, rfl⟩
  have hC0 : ∃ x : Later w, w.drew = x.val := ⟨⟨w.drew, (Below.refl _ _).drew⟩, rfl⟩
  have hH0 : Holds S (fun _ => none) w.drew := fun k v lo hi hk => by cases hk
  have hA0 : FApart (fun _ => none) := fun i j _ v lo hi v' lo' hi' hk => by cases hk
  have h1 := grow_ok (md := .any) (n := n) hS hC hB.1.1 (fun k hk => by have := hB.1.2; simp only [List.all_eq_true, List.mem_range] at this; exact this k hk) n l 0 (Array.replicate l.toArray.size false) a (fun _ => none) (by simp) (by omega) (shut_none _) ⟨_, hC0, hH0, hA0⟩ (fun _ _ => rfl) hB.2 h
  have h2 := wpAny_of_G (Q := Q) (m := (l.drop n).length) hS hC (fun listed a' F w' hw' c2 c3 ⟨ht, hk⟩ => wpAny_of_F (C := fun _ => True) (loose := looseAt l.toArray n) _ _ _ _
    (tail_ok (n := n) (fun _ _ _ => trivial) (l.drop n) n listed a' w' (by simp) (Nat.le_refl _) (fun _ => trivial) (by simpa using ht) (hk w' hw' c2 c3))) n _ a _ w.drew hC0 hH0 hA0 h1
  have e : n + (l.drop n).length = l.toArray.size := by simp; omega
  rw [e] at h2
  exact h2

/-- Operations that only read: by the walk for such. -/
theorem wpGrow_calm {Fin : Act → Facts → Prop} {o : Oper} {rest : List Oper} {k : Nat} {a : Act} {F : Facts} (hk : S k = none) (hcal : calm o.op = true)
    (h : wpQuiet P ops C (fun a' => wpGrow P md ops C S Fin rest (k + 1) a' F) [o] a) : wpGrow P md ops C S Fin (o :: rest) k a F := by
  unfold wpGrow gStep
  unfold wpQuiet at h
  by_cases hw : Region.wanted o (yielded ops a.tmps) = true
  · rw [if_pos hw] at h ⊢
    rw [hk]
    obtain ⟨v, h1, h2⟩ := h
    refine ⟨hcal, v, fun x hx => ?_, h2⟩
    have h3 := h1 x hx
    unfold Oper.quietAt at h3
    cases hq : (execOp a.eval o).run P x with
    | ok nx w2 =>
      obtain ⟨u, rfl⟩ := calm_value hcal hq
      rw [hq] at h3
      simp only [Oper.quietUpon] at h3
      rw [h3.1, h3.2]
    | halt x' w2 => rw [hq] at h3; simp only [Oper.quietUpon] at h3
  · rw [if_neg hw] at h ⊢
    exact h

/-- A call that makes memory. -/
theorem wpGrow_call {Fin : Act → Facts → Prop} {o : Oper} {rest : List Oper} {k : Nat} {a : Act} {F : Facts} {R : Spec} {f : FuncId} {args : Array Operand} {tys : Array TypeId} {vs : Array Value} (hk : S k = some R) (hg : o.guard = none) (ho : o.op = .call { callee := .value (.func f), args := args, argTypes := tys })
    (hv : args.map a.eval = vs) (hf : ∀ vs x, (callFunc f vs).run P x = .ok (.enter f vs) x)
    (h1 : ∀ x, C x → HoldsFor md ops S F k x → Calls P f vs x fun e z => ∃ u, e = .returned u ∧ Below x.heap.size x z ∧ R u x.heap.size z.heap.size z)
    (h2 : ∀ v lo hi, wpGrow P md ops C S Fin rest (k + 1) (a.put o.dst v) (F.lay k (v, lo, hi))) : wpGrow P md ops C S Fin (o :: rest) k a F := by
  unfold wpGrow gStep
  have hw : Region.wanted o (yielded ops a.tmps) = true := by simp [Region.wanted, hg]
  rw [if_pos hw, hk]
  refine ⟨fun x hx hh => ?_, fun v lo hi _ => h2 v lo hi⟩
  unfold growAt
  have e : (execOp a.eval o).run P x = .ok (.enter f vs) x := by
    subst hv
    simp [execOp, ho, resolve, invoke, Act.eval, Deferred.ofValue, hf]
  rw [e]
  exact ⟨rfl, h1 x hx hh⟩

/-- Any operation that makes memory, its run known. -/
theorem wpGrow_run {Fin : Act → Facts → Prop} {o : Oper} {rest : List Oper} {k : Nat} {a : Act} {F : Facts} {R : Spec} (hk : S k = some R) (hg : o.guard = none)
    (h1 : ∀ x, C x → ∃ u z, (execOp a.eval o).run P x = .ok (.value u) z ∧ Below x.heap.size x z ∧ R u x.heap.size z.heap.size z)
    (h2 : ∀ v lo hi, wpGrow P md ops C S Fin rest (k + 1) (a.put o.dst v) (F.lay k (v, lo, hi))) : wpGrow P md ops C S Fin (o :: rest) k a F := by
  unfold wpGrow gStep
  have hw : Region.wanted o (yielded ops a.tmps) = true := by simp [Region.wanted, hg]
  rw [if_pos hw, hk]
  refine ⟨fun x hx _ => ?_, fun v lo hi _ => h2 v lo hi⟩
  obtain ⟨u, z, e, hb, hr⟩ := h1 x hx
  unfold growAt
  rw [e]
  exact ⟨hb, hr⟩

/-- 'make([]T, n)', T of one cell. -/
theorem run_make_len {w : World} {a : Act} {o : Oper} {l c : Operand} {t e : TypeId} {z : Value} {bytes : Nat} (E : Elem P t e z 1 bytes) (n : Nat) {kl kc : IntKind} {L D : Int} (hz : z.cells = #[z])
    (hL : L = (n : Int)) (hD : D = (n : Int)) (hn : n < 1000000000000) (hby : bytes ≤ 64) (ho : o.op = .makeSlice t l c) (hl : a.eval l = .int kl L) (hc : a.eval c = .int kc D) :
    ∃ u y, (execOp a.eval o).run P w = .ok (.value u) y ∧ Below w.heap.size w y ∧ y.ownsRow w.heap.size e 1 u n (List.replicate n z) ∧ u = .slice (some ⟨w.heap.size, 0, none⟩) n n := by
  obtain ⟨i, i1, i2, i3, i4⟩ := E.info
  have b2 : i.bytes * n ≤ 281474976710656 := by
    rw [i4]
    have : bytes * n ≤ 64 * 1000000000000 := Nat.mul_le_mul hby (by omega)
    omega
  obtain ⟨w', hrun, r1, r2⟩ := run_make_full (P := P) w w.heap.size t e i z 1 E.under i1 i2 i3 kl kc n b2 (by unfold maxLen; omega) (Nat.le_refl _)
  rw [made_cells z n hz] at r1
  subst hL
  subst hD
  refine ⟨_, w', ?_, below_grown r2 (Nat.le_refl _), r1, rfl⟩
  simp [execOp, ho, hl, hc, hrun, Result.andThen]

end
end Go.Proofs.Ytfedgcdkagngnaa

/- bits.Up; nvm: load, New, Load. -/
namespace Go.Proofs.Ytfedgcdkagngnaa
open Go.RowKit
set_option linter.unusedVariables false

/-- A new row. -/
def NewRow (B e n : Nat) (vs : List Value) : Spec := fun v lo hi x => ∃ g c, v = .slice (some ⟨g, 0, none⟩) n c ∧ n ≤ c ∧ c ≤ maxLen ∧ lo ≤ g ∧ g < hi ∧ B ≤ g ∧ RowAt x g e vs
def stable1 (R : Spec) : Prop := ∀ v lo hi x y, R v lo hi x → Below x.heap.size x y → R v lo hi y
theorem NewRow.stable (B e n : Nat) (vs : List Value) : stable1 (NewRow B e n vs) := by
  rintro v lo hi x y ⟨g, c, rfl, h1, h2, h3, h4, h6, h5⟩ hb
  exact ⟨g, c, rfl, h1, h2, h3, h4, h6, h5.keep (hb.block g h5.lt)⟩
theorem NewRow.of {w w' : World} {B e n : Nat} {v : Value} {vs : List Value} (h : w'.ownsRow w.heap.size e 1 v n vs) (hn : v ≠ .slice none 0 0) (hB : B ≤ w.heap.size) : NewRow B e n vs v w.heap.size w'.heap.size w' := by
  rcases h.2 with ⟨h0, _⟩ | ⟨g, cap, cur, rfl, hb, hg, h1, h2, h3, h4⟩
  · exact absurd h0 hn
  · refine ⟨g, cap, rfl, h1, h2, hb, (Array.getElem?_eq_some_iff.1 hg).1, Nat.le_trans hB hb, cur, hg, cur.toList.drop n, ?_⟩
    rw [← h4, Nat.mul_one, List.take_append_drop]

theorem later_size {w : World} : ∀ x, (∃ y : Later w, x = y.val) → w.heap.size ≤ x.heap.size := by
  rintro _ ⟨y, rfl⟩
  exact y.below.size

def specs (L : List (Nat × Spec)) : Nat → Option Spec := fun k => (L.find? (fun p => p.1 == k)).map (·.2)
theorem specs_stable (L : List (Nat × Spec)) (h : ∀ p ∈ L, stable1 p.2) : Stable (specs L) := by
  intro k R hk
  unfold specs at hk
  obtain ⟨p, hp, rfl⟩ := Option.map_eq_some_iff.1 hk
  exact h p (List.mem_of_find?_eq_some hp)

/-- 'make([]T, n)' in such a region. -/
theorem wpGrow_make {P : Program} {ops : Array Oper} {md : Region.Mode} {C : World → Prop} {S : Nat → Option Spec} {Fin : Act → Facts → Prop} {o : Oper} {rest : List Oper} {k : Nat} {a : Act} {F : Facts} {l c : Operand} {t e : TypeId} {z : Value} {bytes : Nat}
    (E : Elem P t e z 1 bytes) (n : Nat) {kl kc : IntKind} {L D : Int} {B : Nat} (hB : ∀ x, C x → B ≤ x.heap.size) (hk : S k = some (NewRow B e n (List.replicate n z))) (hg : o.guard = none) (hz : z.cells = #[z])
    (ho : o.op = .makeSlice t l c) (hl : a.eval l = .int kl L) (hc : a.eval c = .int kc D) (hL : L = (n : Int)) (hD : D = (n : Int)) (hn : n < 1000000000000) (hby : bytes ≤ 64)
    (h2 : ∀ v lo hi, wpGrow P md ops C S Fin rest (k + 1) (a.put o.dst v) (F.lay k (v, lo, hi))) : wpGrow P md ops C S Fin (o :: rest) k a F := by
  refine wpGrow_run hk hg (fun x hx => ?_) h2
  obtain ⟨u, y, hrun, hb, ho, hv⟩ := run_make_len (w := x) E n hz hL hD hn hby ho hl hc
  exact ⟨u, y, hrun, hb, NewRow.of ho (by rw [hv]; simp) (hB x hx)⟩

/-- A device of words that last. -/
def freshDev (ws : List Nat) (m : Nat) : Dev := ⟨ws, ws, List.replicate ws.length 0, List.replicate m false, List.replicate m false, 0, 0, false, false⟩

theorem elBool : Elem Try.prog 99 4 (.bool false) 1 1 := Elem.mk' Try.underlying99 (by kernel_rfl) rfl (by decide)

set_option maxHeartbeats 1000000 in
set_option maxRecDepth 100000 in
theorem load_any {w : World} {g cap n m : Nat} (ws : List Nat) (hn : ws.length = n) (h8 : n = 8 * m) (hr : RowAt w g 22 (ws.map vu64)) (hc : n ≤ cap) (hsm : n ≤ 1000000) (hu : ∀ z ∈ ws, z < 18446744073709551616) :
    Calls Try.prog 23 #[.slice (some ⟨g, 0, none⟩) n cap] w fun e w' => ∃ F : Foot, e = .returned (vdev F) ∧ (∀ k ∈ F.list, k = g ∨ w.heap.size ≤ k) ∧ DevAt w' F (freshDev ws m) ∧ Below w.heap.size w w' := by
  have hd : (n : Int) / 8 = (m : Int) := by omega
  have HN := Lib.hid hn
  have H8 := Lib.hid h8
  have HR := Lib.hid hr
  have HU := Lib.hid hu
  have HD := Lib.hid hd
  clear hn h8 hr hu hd
  go_enter Try.func23, Try.ntmps23
  go_wp2_with fail
  rw [HD.out]
  refine wp_region_grow 10 (specs [(2, NewRow w.heap.size 22 n (ws.map vu64)), (5, NewRow w.heap.size 22 n (List.replicate n (vu64 0))), (7, NewRow w.heap.size 4 m (List.replicate m (.bool false))), (9, NewRow w.heap.size 4 m (List.replicate m (.bool false)))]) ?hS ?hn ?hm ?hB ?_
  case hS =>
    refine specs_stable _ ?_
    intro p hp
    simp only [List.mem_cons, List.not_mem_nil, or_false] at hp
    rcases hp with rfl | rfl | rfl | rfl <;> exact NewRow.stable _ _ _ _
  case hn => exact Nat.le_of_ble_eq_true rfl
  case hm => kernel_rfl
  case hB => kernel_rfl
  simp only [List.take_succ_cons, List.take_zero, List.drop_succ_cons, List.drop_zero]
  repeat (refine wpGrow_calm rfl rfl ?_; quiet_step (fail); refine wpQuiet_nil ?_)
  refine wpGrow_call rfl rfl rfl (vs := #[.slice (some ⟨g, 0, none⟩) n cap]) (by go_simp) (by intro vs x; go_simp) ?_ ?_
  · rintro _ ⟨x, rfl⟩ _
    refine (clone_any g 0 cap ws HN.out x.val (fun i v hi => by rw [Nat.zero_add]; exact later_cell (HR.out.cell hi) x) (by rw [HN.out]; exact hsm)).mono ?_
    rintro e z ⟨v, he, ho, hb, hne⟩
    exact ⟨v, he, hb, NewRow.of ho hne x.below.size⟩
  intro v1 lo1 hi1
  go_simp
  repeat (refine wpGrow_calm rfl rfl ?_; quiet_step (fail); refine wpQuiet_nil ?_)
  refine wpGrow_make el64 n later_size rfl rfl rfl rfl rfl rfl rfl rfl (by omega) (by decide) ?_
  intro v2 lo2 hi2
  go_simp
  repeat (refine wpGrow_calm rfl rfl ?_; quiet_step (fail); refine wpQuiet_nil ?_)
  refine wpGrow_make elBool m later_size rfl rfl rfl rfl rfl rfl rfl rfl (by have := H8.out; omega) (by decide) ?_
  intro v3 lo3 hi3
  go_simp
  repeat (refine wpGrow_calm rfl rfl ?_; quiet_step (fail); refine wpQuiet_nil ?_)
  refine wpGrow_make elBool m later_size rfl rfl rfl rfl rfl rfl rfl rfl (by have := H8.out; omega) (by decide) ?_
  intro v4 lo4 hi4
  go_simp
  unfold wpGrow
  intro x hh ha
  have q1 := hh.get (k := 2) rfl rfl
  have q2 := hh.get (k := 5) rfl rfl
  have q3 := hh.get (k := 7) rfl rfl
  have q4 := hh.get (k := 9) rfl rfl
  have a12 := ha 2 5 (by decide) _ _ _ _ _ _ rfl rfl
  have a13 := ha 2 7 (by decide) _ _ _ _ _ _ rfl rfl
  have a14 := ha 2 9 (by decide) _ _ _ _ _ _ rfl rfl
  have a23 := ha 5 7 (by decide) _ _ _ _ _ _ rfl rfl
  have a24 := ha 5 9 (by decide) _ _ _ _ _ _ rfl rfl
  have a34 := ha 7 9 (by decide) _ _ _ _ _ _ rfl rfl
  obtain ⟨⟨g1, c1, rfl, p1, p2, p3, p4, p7, p5⟩, p6⟩ := q1
  obtain ⟨⟨g2, c2, rfl, r1, r2, r3, r4, r7, r5⟩, r6⟩ := q2
  obtain ⟨⟨g3, c3, rfl, s1, s2, s3, s4, s7, s5⟩, s6⟩ := q3
  obtain ⟨⟨g4, c4, rfl, t1, t2, t3, t4, t7, t5⟩, t6⟩ := q4
  clear hh ha
  have hx := x.below
  generalize x.val = w5 at *
  clear x
  have hgl := HR.out.lt
  have hs5 := hx.size
  have HR5 : Hid (RowAt w5 g 22 (ws.map vu64)) := Lib.hid (HR.out.keep (hx.block g hgl))
  have HX := Lib.hid hx
  have P5 := Lib.hid p5
  have R5 := Lib.hid r5
  have S5 := Lib.hid s5
  have T5 := Lib.hid t5
  clear hx p5 r5 s5 t5
  have k1 : g1 < w5.heap.size := by omega
  have k2 : g2 < w5.heap.size := by omega
  have k3 : g3 < w5.heap.size := by omega
  have k4 : g4 < w5.heap.size := by omega
  have d1 : Hid (g1 ≠ g2 ∧ g1 ≠ g3 ∧ g1 ≠ g4 ∧ g2 ≠ g3 ∧ g2 ≠ g4 ∧ g3 ≠ g4) := Lib.hid (by omega)
  clear a12 a13 a14 a23 a24 a34
  go_wp2_with fail
  go_ret
  refine ⟨⟨w5.heap.size, g, g1, g2, g3, g4, cap, c1, c2, c3, c4⟩, rfl, ?_, ?_, ?_⟩
  · simp only [Foot.list, List.mem_cons, List.not_mem_nil, or_false, forall_eq_or_imp, forall_eq]
    exact ⟨.inr hs5, .inl trivial, .inr p7, .inr r7, .inr s7, .inr t7⟩
  · have hk : ∀ k, k < w5.heap.size → (w5.alloc (.cells #[.slice (some ⟨g, 0, none⟩) n cap, .slice (some ⟨g1, 0, none⟩) n c1, .slice (some ⟨g2, 0, none⟩) n c2, .slice (some ⟨g3, 0, none⟩) m c3, .slice (some ⟨g4, 0, none⟩) m c4, .int .i64 0, .int .i64 0, .bool false, .bool false] 101)).heap[k]? = w5.heap[k]? := fun k hk => Below.heap_alloc w5 _ k hk
    obtain ⟨d12, d13, d14, d23, d24, d34⟩ := d1.out
    have e8 := H8.out
    have en := HN.out
    refine ⟨?_, HR5.out.keep (hk g (by omega)), P5.out.keep (hk g1 k1), ?_, ?_, ?_, ?_, rfl, ?_, rfl, ?_, ?_, ?_, ?_, ?_, HU.out, HU.out, ?_⟩
    · rw [heap_alloc_new]
      simp [devV, freshDev, en]
    · have := R5.out.keep (hk g2 k2)
      simpa [freshDev, en] using this
    · have := S5.out.keep (hk g3 k3)
      simpa [freshDev] using this
    · have := T5.out.keep (hk g4 k4)
      simpa [freshDev] using this
    · simp only [Foot.list, List.nodup_cons, List.mem_cons, List.not_mem_nil, or_false, not_or, List.nodup_nil, and_true, not_false_eq_true]
      refine ⟨⟨by omega, by omega, by omega, by omega, by omega⟩, ⟨by omega, by omega, by omega, by omega⟩, ⟨d12, d13, d14⟩, ⟨d23, d24⟩, d34⟩
    · simp [freshDev]
    · simp [freshDev]; omega
    · simp [freshDev]; omega
    · simp [freshDev]; omega
    · simp [freshDev]; omega
    · simp [freshDev]; omega
    · intro z hz
      simp [freshDev] at hz
      omega
  · exact HX.out.trans (((Below.refl _ _).alloc (Nat.le_refl _) _).mono hs5)

set_option maxHeartbeats 400000 in
theorem new_any (k : Int) (w : World) (hk : k ≤ 100000) :
    Calls Try.prog 13 #[.int .i64 k] w fun e w' => ∃ F : Foot, e = .returned (vdev F) ∧ (∀ i ∈ F.list, w.heap.size ≤ i) ∧ DevAt w' F (freshDev (List.replicate (8 * ((k.toNat + 7) / 8)) 0) ((k.toNat + 7) / 8)) ∧ Below w.heap.size w w' := by
  have HU : Hid (upN k 8 = (((k.toNat + 7) / 8 : Nat) : Int)) := Lib.hid (by unfold upN; split <;> omega)
  obtain ⟨m, hm⟩ : ∃ m, m = (k.toNat + 7) / 8 := ⟨_, rfl⟩
  have hmb : m ≤ 20000 := by omega
  rw [← hm] at HU ⊢
  clear hm
  go_enter Try.func13, Try.ntmps13
  go_wp2_with fail
  refine (up_any _ _ _ (by omega) (by omega)).mono ?_
  rintro e w1 ⟨rfl, rfl⟩
  rw [HU.out]
  clear HU
  go_wp2_with (at_make; refine wpList_make_len el64 w.heap.size (8 * m) rfl (by omega) (by omega) (by omega) (by decide) (Nat.le_refl _) rfl rfl rfl rfl ?_; intro w1 hown hgrow)
  have hb := below_grown hgrow (Nat.le_refl _)
  obtain ⟨g, c, hv, _, _, _, _, hB, hr⟩ := NewRow.of (w := w) (B := w.heap.size) hown (by simp) (Nat.le_refl _)
  simp at hv
  obtain ⟨rfl, _⟩ := hv
  have HR : Hid (RowAt w1 w.heap.size 22 ((List.replicate (8 * m) 0).map vu64)) := Lib.hid (by rw [List.map_replicate]; exact hr)
  have HB := Lib.hid hb
  clear hown hgrow hb hr
  refine (load_any (List.replicate (8 * m) 0) (by simp) rfl HR.out (by omega) (by omega) (fun z hz => by simp at hz; omega)).mono ?_
  rintro e w2 ⟨F, rfl, hF, hd, hb2⟩
  go_wp2_with fail
  go_ret
  refine ⟨F, rfl, fun i hi => ?_, hd, HB.out.trans (hb2.mono HB.out.size)⟩
  rcases hF i hi with h | h
  · omega
  · exact Nat.le_trans HB.out.size h

end Go.Proofs.Ytfedgcdkagngnaa

/- nvm.Load; geom. -/
namespace Go.Proofs.Ytfedgcdkagngnaa
open Go.RowKit
set_option linter.unusedVariables false

/-- geom. -/
def hdAt (n b : Int) : Int := if b < 1 ∨ n ≤ b then -1 else 256 + b
abbrev vgeom (n : Int) : Value := .agg #[.int .i64 n]

set_option maxHeartbeats 400000 in
theorem gheader_any (n b : Int) (w : World) (hb : b ≤ 1000000000) : Calls Try.prog 25 #[vgeom n, .int .i64 b] w fun e w' => e = .returned (.int .i64 (hdAt n b)) ∧ Below w.heap.size w w' := by
  by_cases h1 : b < 1
  · have HE : Hid (hdAt n b = -1) := Lib.hid (by unfold hdAt; rw [if_pos (.inl h1)])
    go_enter Try.func25, Try.ntmps25
    go_wp2_with fail
    go_ret
    exact ⟨ret_int HE.out.symm, below_alloc _ _⟩
  by_cases h2 : n ≤ b
  · have HE : Hid (hdAt n b = -1) := Lib.hid (by unfold hdAt; rw [if_pos (.inr h2)])
    go_enter Try.func25, Try.ntmps25
    go_wp2_with fail
    go_ret
    exact ⟨ret_int HE.out.symm, below_alloc _ _⟩
  have HE : Hid (hdAt n b = 256 + b) := Lib.hid (by unfold hdAt; rw [if_neg (by omega)])
  go_enter Try.func25, Try.ntmps25
  go_wp2_with fail
  go_ret
  exact ⟨ret_int HE.out.symm, below_alloc _ _⟩

set_option maxHeartbeats 400000 in
theorem gwords_any (n : Int) (w : World) (h0 : 0 ≤ n) (hb : n ≤ 1000000000) : Calls Try.prog 14 #[vgeom n] w fun e w' => e = .returned (.int .i64 (n * 512)) ∧ Below w.heap.size w w' := by
  go_enter Try.func14, Try.ntmps14
  go_wp2_with fail
  go_ret
  exact ⟨rfl, below_alloc _ _⟩

end Go.Proofs.Ytfedgcdkagngnaa

/- The blocks that a call has made, as a list: what lies in each of them; all else is as it was. -/
namespace Go.Proofs.Ytfedgcdkagngnaa
open Go.RowKit
set_option linter.unusedVariables false

/-- A block: its number, its elements' type, its first cells; are these all? -/
structure Ent where
  g : Nat
  e : Nat
  vs : List Value
  ex : Bool

def RowX (W : World) (x : Ent) : Prop := ∃ xs : Array Value, W.heap[x.g]? = some (.cells xs x.e (0, 0)) ∧ ∃ more, xs.toList = x.vs ++ more ∧ (x.ex = true → more = [])

theorem RowX.row {W : World} {x : Ent} (h : RowX W x) : RowAt W x.g x.e x.vs := by
  obtain ⟨xs, h1, more, h2, _⟩ := h
  exact ⟨xs, h1, more, h2⟩
theorem RowX.lt {W : World} {x : Ent} (h : RowX W x) : x.g < W.heap.size := h.row.lt
theorem RowX.keep {W W' : World} {x : Ent} (h : RowX W x) (hk : W'.heap[x.g]? = W.heap[x.g]?) : RowX W' x := by
  obtain ⟨xs, h1, r⟩ := h
  exact ⟨xs, hk.trans h1, r⟩
theorem RowX.exact {W : World} {g e : Nat} {vs : List Value} (h : RowX W ⟨g, e, vs, true⟩) : W.heap[g]? = some (.cells vs.toArray e (0, 0)) := by
  obtain ⟨xs, h1, more, h2, h3⟩ := h
  have := h3 rfl
  subst this
  simp at h2
  subst h2
  simpa using h1

structure Mem (w W : World) (L : List Ent) : Prop where
  below : Below w.heap.size w W
  rows : ∀ x ∈ L, RowX W x
  base : ∀ x ∈ L, w.heap.size ≤ x.g
  nd : (L.map Ent.g).Nodup

theorem Mem.start (w : World) : Mem w w [] := ⟨Below.refl _ _, by simp, by simp, by simp⟩
theorem Mem.lt {w W : World} {L : List Ent} (h : Mem w W L) : ∀ x ∈ L, x.g < W.heap.size := fun x hx => (h.rows x hx).lt
theorem Mem.later {w W W' : World} {L : List Ent} (h : Mem w W L) (hb : Below W.heap.size W W') : Mem w W' L :=
  ⟨h.below.trans (hb.mono h.below.size), fun x hx => (h.rows x hx).keep (hb.block _ (h.lt x hx)), h.base, h.nd⟩
theorem Mem.add {w W W' : World} {L : List Ent} (h : Mem w W L) (hb : Below W.heap.size W W') {x : Ent} (hx : RowX W' x) (hg : W.heap.size ≤ x.g) : Mem w W' (L ++ [x]) := by
  have h' := h.later hb
  refine ⟨h'.below, fun y hy => ?_, fun y hy => ?_, ?_⟩
  · rcases List.mem_append.1 hy with hy | hy
    · exact h'.rows y hy
    · obtain rfl : y = x := by simpa using hy
      exact hx
  · rcases List.mem_append.1 hy with hy | hy
    · exact h.base y hy
    · obtain rfl : y = x := by simpa using hy
      exact Nat.le_trans h.below.size hg
  · rw [List.map_append, List.nodup_append]
    refine ⟨h.nd, by simp, ?_⟩
    intro a ha b hb' e
    simp at hb'
    subst hb'
    subst e
    obtain ⟨y, hy, rfl'⟩ := List.mem_map.1 ha
    have := h.lt y hy
    omega
theorem Mem.alloc {w W : World} {L : List Ent} (h : Mem w W L) (cs : Array Value) (t : Nat) : Mem w (W.alloc (.cells cs t)) (L ++ [⟨W.heap.size, t, cs.toList, true⟩]) :=
  h.add (below_alloc W _) ⟨cs, heap_alloc_new W _, [], by simp, fun _ => rfl⟩ (Nat.le_refl _)
theorem Mem.one (w : World) (cs : Array Value) (t : Nat) : Mem w (w.alloc (.cells cs t)) [⟨w.heap.size, t, cs.toList, true⟩] := (Mem.start w).alloc cs t
theorem Mem.two (w : World) (cs : Array Value) (t : Nat) (cs' : Array Value) (t' : Nat) : Mem w ((w.alloc (.cells cs t)).alloc (.cells cs' t')) [⟨w.heap.size, t, cs.toList, true⟩, ⟨w.heap.size + 1, t', cs'.toList, true⟩] := by
  have h := (Mem.one w cs t).alloc cs' t'
  simpa using h
theorem Mem.at {w W : World} {L : List Ent} (h : Mem w W L) (k : Nat) {g e : Nat} {vs : List Value} {ex : Bool} (hk : L[k]? = some ⟨g, e, vs, ex⟩) : RowAt W g e vs := (h.rows _ (List.mem_of_getElem? hk)).row
theorem Mem.exact {w W : World} {L : List Ent} (h : Mem w W L) (k : Nat) {g e : Nat} {vs : List Value} (hk : L[k]? = some ⟨g, e, vs, true⟩) : W.heap[g]? = some (.cells vs.toArray e (0, 0)) := (h.rows _ (List.mem_of_getElem? hk)).exact
theorem Mem.cell {w W : World} {L : List Ent} (h : Mem w W L) (k i : Nat) {g e : Nat} {vs : List Value} {ex : Bool} {v : Value} (hk : L[k]? = some ⟨g, e, vs, ex⟩) (hi : vs[i]? = some v) : W.cell? ⟨g, i, none⟩ = some v := (h.at k hk).cell hi
theorem Mem.glt {w W : World} {L : List Ent} (h : Mem w W L) (k : Nat) {g e : Nat} {vs : List Value} {ex : Bool} (hk : L[k]? = some ⟨g, e, vs, ex⟩) : g < W.heap.size := (h.at k hk).lt
theorem below_touched {B : Nat} {L : List Nat} {w w1 w2 : World} (h : Below B w w1) (ht : Touch L w1 w2) (hL : ∀ k ∈ L, B ≤ k) (hB : B ≤ w.heap.size) : Below B w w2 :=
  h.trans (ht.below (Nat.le_trans hB h.size) hL)
/-- One block changes. -/
theorem Mem.upd {w W W' : World} {L : List Ent} (h : Mem w W L) (k : Nat) {x y : Ent} (hk : L[k]? = some x) (hg : y.g = x.g) (ht : Touch [x.g] W W') (hy : RowX W' y) : Mem w W' (L.set k y) := by
  have hx := List.mem_of_getElem? hk
  have hkl : k < L.length := (List.getElem?_eq_some_iff.1 hk).1
  have hmap : (L.set k y).map Ent.g = L.map Ent.g := by
    rw [List.map_set]
    apply List.ext_getElem?
    intro i
    rw [List.getElem?_set]
    split
    · rename_i e
      subst e
      simp [hkl, hg]
      have := (List.getElem?_eq_some_iff.1 hk).2
      rw [this]
    · rfl
  refine ⟨below_touched h.below ht (by simpa using h.base x hx) (Nat.le_refl _), fun z hz => ?_, fun z hz => ?_, by rw [hmap]; exact h.nd⟩
  · obtain ⟨j, hj, rfl⟩ := List.mem_iff_getElem.1 hz
    rw [List.getElem_set] at hz ⊢
    split
    · exact hy
    · rename_i hne
      have hj' : j < L.length := by simpa using hj
      refine (h.rows _ (List.getElem_mem hj')).keep (ht.block _ (h.lt _ (List.getElem_mem hj')) ?_)
      simp
      intro e
      have e1 : (L.map Ent.g)[j]'(by simpa using hj') = (L.map Ent.g)[k]'(by simpa using hkl) := by
        simp [e, (List.getElem?_eq_some_iff.1 hk).2]
      exact hne (((List.getElem_inj h.nd).1 e1).symm)
  · obtain ⟨j, hj, rfl⟩ := List.mem_iff_getElem.1 hz
    rw [List.getElem_set]
    split
    · rw [hg]; exact h.base x hx
    · exact h.base _ (List.getElem_mem _)

section
variable {P : Program} {w W : World} {ops : Array Oper} {rest : List Oper} {o : Oper} {a : Act} {Q : Exit → Act → World → Prop} {L : List Ent}

/-- A struct or an array is stored into such a block, whole. -/
theorem wpList_store_mem {ty : TypeId} {zs : Array Value} (A : Agg P ty zs) (h : Mem w W L) (k : Nat) {p x : Operand} {g e : Nat} {vs : List Value} {cs : Array Value}
    (hgd : o.guard = none) (ho : o.op = .store ty p x) (hp : a.eval p = .pointer (some ⟨g, 0, none⟩)) (hx : a.eval x = .agg cs) (hk : L[k]? = some ⟨g, e, vs, true⟩) (hs : cs.size = zs.size) (hv : vs.length = cs.size) (h1 : cs.toList.all (·.oneCell') = true)
    (hK : ∀ W', Mem w W' (L.set k ⟨g, e, cs.toList, true⟩) → Touch [g] W W' → wpList P ops Q rest (a.put o.dst undef) W') : wpList P ops Q (o :: rest) a W := by
  refine wpList_store_row A (h.exact k hk) hs (by simpa using hv) (by rw [← Array.all_toList]; exact h1) hgd ho hp hx ?_
  intro W' hg hgr hsz
  have ht : Touch [g] W W' := ⟨hgr.os, hgr.tape, hgr.output, hgr.size, fun j hj hn => hgr.block j hj (fun e => hn (by simp at e; simp [e]))⟩
  exact hK W' (h.upd k hk rfl ht ⟨cs, hg, [], by simp, fun _ => rfl⟩) ht

theorem run_append_owned_none' {base t ty e : Nat} {i : TypeInfo} {size c : Nat} (ht : P.underlying t = some (.slice e)) (hi : P.info? e = some i)
    {v : Value} {n : Nat} {xs : List Value} (hown : W.ownsRow base e size v n xs) : (Builtin.append_ #[t, t] ty #[v, .slice none 0 c]).run P W = .ok v W := by
  rcases hown.2 with ⟨rfl, rfl⟩ | ⟨g, cap, cur, rfl, _, _, hnc, _⟩
  · simp [Builtin.append_, run_underlying ht, sizeOf, typeInfo, hi, Builtin.lenOf, Builtin.firstCells]
  · simp [Builtin.append_, run_underlying ht, sizeOf, typeInfo, hi, Builtin.lenOf, Builtin.firstCells, hnc, storeCells]

/-- 'append(xs, ys...)', ys any slice whose cells are known. -/
theorem wpList_append_cells {s x : Operand} {t e : TypeId} {z : Value} {size bytes base n m c : Nat} {v : Value} {xs ys : List Value} {ad : Option Addr} (E : Elem P t e z size bytes)
    (hown : W.ownsRow base e size v n xs) (hc : Cells W ad ys) (hl : ys.length = m * size) (h1 : ∀ u ∈ ys, u.oneCell' = true)
    (hn : n + m < 1000000000000) (hby : bytes ≤ 64) (hbase : base ≤ W.heap.size)
    (hgd : o.guard = none) (ho : o.op = .call { callee := .builtin .append, args := #[s, x], argTypes := #[t, t] })
    (hs : a.eval s = v) (hx : a.eval x = .slice ad m c)
    (hK : ∀ v' w', w'.ownsRow base e size v' (n + m) (xs ++ ys) → W.grownBy w' v.ownBlock → (v' = .slice none 0 0 → v = .slice none 0 0 ∧ m = 0) → wpList P ops Q rest (a.put o.dst v') w') :
    wpList P ops Q (o :: rest) a W := by
  cases ad with
  | none =>
    have hy : ys = [] := by rcases hc with h | ⟨b, off, h, _⟩; exact h; cases h
    subst hy
    have hm : m = 0 := by
      have := E.pos
      rcases Nat.mul_eq_zero.1 hl.symm with h | h
      · exact h
      · omega
    subst hm
    obtain ⟨i, i1, _⟩ := E.info
    refine wpList_plain hgd fun K hK' => ?_
    have hrun := run_append_owned_none' (P := P) (W := W) (ty := o.type) (c := c) E.under i1 hown
    unfold Oper.wp
    simp [execOp, ho, resolve, invoke, builtin, hs, hx, hrun, Result.andThen]
    exact hK' _ _ (hK v W (by simpa using hown) ⟨rfl, rfl, rfl, Nat.le_refl _, fun _ _ _ => rfl⟩ (fun h => ⟨h, rfl⟩))
  | some d =>
    refine wpList_append_many E hown hl ?_ h1 hn hby hbase hgd ho hs hx (fun v' w' a b c => hK v' w' a b c.1)
    intro j u hj
    rcases hc with h | ⟨b, off, h, hc⟩
    · rw [h] at hj; simp at hj
    · cases h
      rw [add_none]
      exact hc j u hj

/-- An owned row that is not nil, as a new block. -/
theorem owned_new {w w' : World} {e size n : Nat} {v : Value} {xs : List Value} (h : w'.ownsRow w.heap.size e size v n xs) (hv : v ≠ .slice none 0 0) :
    ∃ g c, v = .slice (some ⟨g, 0, none⟩) n c ∧ w.heap.size ≤ g ∧ n ≤ c ∧ c ≤ maxLen ∧ RowAt w' g e xs := by
  rcases h.2 with ⟨h0, _⟩ | ⟨g, cap, cur, rfl, hb, hg, h1, h2, h3, h4⟩
  · exact absurd h0 hv
  · exact ⟨g, cap, rfl, hb, h1, h2, cur, hg, cur.toList.drop (n * size), by rw [← h4, List.take_append_drop]⟩
end

end Go.Proofs.Ytfedgcdkagngnaa

/- Regions that draw their order: operations that only read may float; all others come one behind the other. One walk, the reading ones as early as can be, serves every order. -/
namespace Go.Proofs.Ytfedgcdkagngnaa
open Go.RowKit
set_option linter.unusedVariables false

section
variable {P : Program} {ops : Array Oper} {md : Region.Mode} {C : World → Prop} {Q : Exit → Act → World → Prop}

/-- Such an operation may be taken first, if whatever may still come ahead of it is loose. -/
theorem wpAnyF_early {loose : Nat → Bool} {i f : Nat} {oi : Oper} {v : Value} (hi : ops[i]? = some oi) (hsel : ∀ (j : Nat) (o : Oper) cs b, ops[j]? = some o → o.op ≠ .select cs b)
    (hQ : ∀ c a d v w, Q (.panic c) (a.put d v) w → Q (.panic c) a w) :
    ∀ (fuel : Nat) (listed : Array Bool) (a : Act) (w : World),
      (∀ j oj, ops[j]? = some oj → j ≠ i → listed.getD j true = false → waitsFor md ops f j i = true ∨ loose j = true) →
      (∀ j oj, ops[j]? = some oj → j ≠ i → listed.getD j true = false → (∀ e ∈ oj.after, Region.binds md e = true → e.on ≠ i) → oi.apart ops oj = true) →
      i ∈ Region.ready md ops listed → Shut md ops listed → Stays P ops C oi v a → C w →
      wpAnyF P md ops Q C loose fuel (listed.setIfInBounds i true) (a.put oi.dst v) w → wpAnyF P md ops Q C loose (fuel + 1) listed a w := by
  intro fuel
  induction fuel with
  | zero =>
    intro listed a w _ _ hr _ hy hC H
    refine ⟨fun h => (by rw [h] at hr; cases hr), fun j hj => ?_⟩
    by_cases hji : j = i
    · subst hji; exact hy.wpOp hi hC ⟨fun _ => hC, H⟩
    · have := ready_mono hj hji
      rw [H.1] at this
      cases this
  | succ fuel ih =>
    intro listed a w hl hfree hr hsh hy hC H
    refine ⟨fun h => (by rw [h] at hr; cases hr), fun j hj => ?_⟩
    by_cases hji : j = i
    · subst hji; exact hy.wpOp hi hC ⟨fun _ => hC, H⟩
    · have h1 := H.2 j (ready_mono hj hji)
      obtain ⟨hjun, oj, hoj, hall⟩ := mem_ready.1 hj
      have hiun : listed.getD i false = false := by
        have h0 := (mem_ready.1 hr).1
        rcases Nat.lt_or_ge i listed.size with h' | h'
        · simp [h'] at h0 ⊢; exact h0
        · simp [Array.getElem?_eq_none h']
      have hnot : ∀ e ∈ oj.after, Region.binds md e = true → e.on ≠ i := fun e he hb heq => by
        have h1 := hall e he hb
        rw [heq, hiun] at h1
        cases h1
      have hlo : loose j = true := by
        rcases hl j oj hoj hji hjun with h | h
        · have := waitsFor_listed hsh f j i oj hoj hall h
          rw [hiun] at this
          cases this
        · exact h
      have h2 := wpOp_putF (C := C) hoj (hfree j oj hoj hji hjun hnot) (fun cs b => hsel i oi cs b hi) (fun cs b => hsel j oj cs b hoj) hQ hy h1
      have hun' : ∀ k, (listed.setIfInBounds j true).getD k true = false → listed.getD k true = false := fun k hun => by
        by_cases hjk : j = k
        · subst hjk; exact hjun
        · rw [getD_set_ne true hjk] at hun; exact hun
      refine wpOp_mono (fun a' w' h3 => ⟨h3.2.1, ih (listed.setIfInBounds j true) a' w' (fun k ok hk hki hun => hl k ok hk hki (hun' k hun)) (fun k ok hk hki hun hno => hfree k ok hk hki (hun' k hun) hno) (ready_mono hr (Ne.symm hji)) (hsh.set hj) h3.1 (h3.2.1 hlo) ?_⟩) h2
      rw [Array.setIfInBounds_comm _ _ hji]
      exact h3.2.2

/-- Is there an operation that only reads and that may come ahead of j as well as behind it? -/
def looseOf (md : Region.Mode) (ops : Array Oper) (j : Nat) : Bool :=
  (List.range ops.size).any fun i => i != j && (match ops[i]? with | some o => calm o.op | none => false) && !waitsFor md ops ops.size j i && !waitsFor md ops ops.size i j

end

theorem later_step {w v v' : World} (h : ∃ x : Later w, v = x.val) (hb : Below v.heap.size v v') : ∃ x : Later w, v' = x.val := by
  obtain ⟨x, rfl⟩ := h
  exact ⟨⟨v', x.below.trans (hb.mono x.below.size)⟩, rfl⟩
theorem later_below {w v : World} (h : ∃ x : Later w, v = x.val) : Below w.heap.size w v := by
  obtain ⟨x, rfl⟩ := h
  exact x.below
theorem later_drew (w : World) : ∃ x : Later w, w.drew = x.val := ⟨⟨w.drew, (Below.refl _ _).drew⟩, rfl⟩
/-- What the worlds of a region have in common: nothing but some blocks differs. -/
structure Near (L : List Nat) (w : World) where
  val : World
  size : w.heap.size ≤ val.heap.size
  block : ∀ k, k < w.heap.size → k ∉ L → val.heap[k]? = w.heap[k]?
instance (L : List Nat) (w : World) : Nonempty (Near L w) := ⟨⟨w, Nat.le_refl _, fun _ _ _ => rfl⟩⟩
theorem near_cell {L : List Nat} {w : World} {p : Addr} {v : Value} (h : w.cell? p = some v) (hL : p.block ∉ L) (x : Near L w) : x.val.cell? p = some v := by
  have := x.block p.block (World.block_lt_of_cell? _ _ h) hL
  unfold World.cell? at *
  rw [this]; exact h

end Go.Proofs.Ytfedgcdkagngnaa

/- The same without the rest of the memory: blocks from B on, where older ones may change. -/
namespace Go.Proofs.Ytfedgcdkagngnaa
open Go.RowKit
set_option linter.unusedVariables false

theorem near_of {X : List Nat} {w W : World} (h : Touch X w W) : ∃ x : Near X w, W = x.val := ⟨⟨W, h.size, h.block⟩, rfl⟩
section
variable {P : Program} {B : Nat} {W : World} {ops : Array Oper} {rest : List Oper} {o : Oper} {a : Act} {Q : Exit → Act → World → Prop} {L : List Ent}

end

end Go.Proofs.Ytfedgcdkagngnaa

/- Texts as values; numbers as text: what needs no function of the program. -/
namespace Go.Proofs.Ytfedgcdkagngnaa
open Go.RowKit
set_option linter.unusedVariables false
open Go.Lib (decDigits itoa nDigits)

/-- A text as a value. -/
def bstr (l : List UInt8) : ByteArray := ⟨l.toArray⟩
abbrev strV (l : List UInt8) : Value := .string (bstr l)
theorem bstr_size (l : List UInt8) : (bstr l).size = l.length := rfl
theorem bstr_toList (l : List UInt8) : (bstr l).toList = l := ByteArray.toList_mk l
/-- A value is handed back, memory is made. -/
def Gives (v : Value) (w : World) : Ending → World → Prop := fun e w' => e = .returned v ∧ Below w.heap.size w w'

def vbs (l : List UInt8) : List Value := l.map fun b => .int .u8 (b.toNat : Int)
theorem vbs_nat (l : List UInt8) : vbs l = (l.map (·.toNat)).map vu8 := by simp [vbs, vu8]
theorem strOf_bytes (l : List UInt8) : strOf (l.map (·.toNat)) = bstr l := by
  unfold strOf bstr
  rw [List.map_map]
  congr 2
  exact (List.map_congr_left (fun b _ => by simp)).trans (List.map_id l)

theorem dec_small {u : Nat} (h : u < 10) : decDigits u = [UInt8.ofNat (48 + u)] := by rw [decDigits, dif_pos h]
theorem dec_big {u : Nat} (h : ¬ u < 10) : decDigits u = decDigits (u / 10) ++ [UInt8.ofNat (48 + u % 10)] := by rw [decDigits, dif_neg h]
theorem dec_pos (u : Nat) : 1 ≤ (decDigits u).length := by
  have := dec_ne u
  cases h : decDigits u with
  | nil => exact absurd h this
  | cons a b => simp

theorem bstr_append (a b : List UInt8) : bstr a ++ bstr b = bstr (a ++ b) := by
  apply ByteArray.ext
  simp [bstr]

theorem itoa_neg {u : Nat} (h : 1 ≤ u) : itoa (-(u : Int)) = 45 :: decDigits u := by
  unfold itoa
  rw [if_pos (by omega), show (-(u : Int)).natAbs = u by omega]
theorem itoa_pos (u : Nat) : itoa (u : Int) = decDigits u := by
  unfold itoa
  rw [if_neg (by omega), show (u : Int).toNat = u by omega]

theorem dec_len20 {u : Nat} (h : u < 18446744073709551616) : (decDigits u).length ≤ 20 := by rw [dec_length]; exact nDigits_le 20 u (by omega) (by omega)

/-- What is written of a number so far. -/
def partT (u v : Nat) (tail : List UInt8) : Prop := (v = 0 ∧ decDigits u = tail) ∨ (0 < v ∧ decDigits u = decDigits v ++ tail)
theorem partT_step {u v : Nat} {tail : List UInt8} (h : partT u v tail) (hv : 0 < v) : partT u (v / 10) (UInt8.ofNat (48 + v % 10) :: tail) := by
  rcases h with ⟨h, _⟩ | ⟨_, h⟩
  · omega
  · by_cases h10 : v < 10
    · refine .inl ⟨by omega, ?_⟩
      rw [h, dec_small h10, show v % 10 = v by omega]; rfl
    · refine .inr ⟨by omega, ?_⟩
      rw [h, dec_big h10]; simp

theorem one_byte (b : UInt8) : strOf [b.toNat] = bstr [b] := by
  have := strOf_bytes [b]
  simpa using this

end Go.Proofs.Ytfedgcdkagngnaa

/- Plain: digits in a base. -/
namespace Go.Proofs.Ytfedgcdkagngnaa
open Go.Lib (decDigits itoa nDigits)
set_option linter.unusedVariables false

/-- A digit's sign. -/
def chrN (d : Nat) : UInt8 := UInt8.ofNat (if d ≤ 9 then 48 + d else 87 + d)
/-- So many digits of a number, the last ones. -/
def digW (b v : Nat) : Nat → List UInt8
  | 0 => []
  | k + 1 => digW b (v / b) k ++ [chrN (v % b)]
theorem digW_len (b v k : Nat) : (digW b v k).length = k := by
  induction k generalizing v with
  | zero => rfl
  | succ k ih => simp [digW, ih]
theorem digW_front (b v t : Nat) : digW b v (t + 1) = chrN (v / b ^ t % b) :: digW b v t := by
  induction t generalizing v with
  | zero => simp [digW]
  | succ t ih =>
    show digW b (v / b) (t + 1) ++ [chrN (v % b)] = chrN (v / b ^ (t + 1) % b) :: (digW b (v / b) t ++ [chrN (v % b)])
    rw [ih, Nat.div_div_eq_div_mul, Nat.pow_succ, Nat.mul_comm b]
    rfl

/-- So many digits are written of a number, at least so many. -/
structure Written (b v least T : Nat) : Prop where
  all : v / b ^ T = 0
  enough : least ≤ T
  last : T = least ∨ v / b ^ (T - 1) ≠ 0

theorem dec_digW : ∀ {T v : Nat}, Written 10 v 1 T → digW 10 v T = decDigits v
  | 0, v, h => by have := h.enough; omega
  | 1, v, h => by
    have h1 := h.all
    have h2 : v < 10 := by simp at h1; omega
    rw [dec_small h2]
    show digW 10 (v / 10) 0 ++ [chrN (v % 10)] = _
    rw [show v % 10 = v by omega]
    unfold chrN
    rw [if_pos (by omega)]; rfl
  | T + 2, v, h => by
    have h1 := h.all
    have h3 : v / 10 ^ (T + 1) ≠ 0 := by
      rcases h.last with h3 | h3
      · omega
      · simpa using h3
    have h2 : ¬ v < 10 := by
      intro c
      apply h3
      rw [Nat.pow_succ, Nat.mul_comm, ← Nat.div_div_eq_div_mul, show v / 10 = 0 by omega, Nat.zero_div]
    rw [dec_big h2]
    show digW 10 (v / 10) (T + 1) ++ [chrN (v % 10)] = _
    have e : ∀ k, v / 10 / 10 ^ k = v / 10 ^ (k + 1) := fun k => by rw [Nat.div_div_eq_div_mul, Nat.pow_succ, Nat.mul_comm]
    rw [dec_digW (T := T + 1) (v := v / 10) ⟨by rw [e]; exact h1, by omega, by
      by_cases c : T = 0
      · left; omega
      · right
        rw [show T + 1 - 1 = T from rfl, e]; exact h3⟩]
    unfold chrN
    rw [if_pos (by omega)]

/-- Sixteen digits. -/
theorem hex_digW {T v : Nat} (hv : v < 18446744073709551616) (h : Written 16 v 16 T) : T = 16 := by
  rcases h.last with h1 | h1
  · exact h1
  · apply Classical.byContradiction
    intro c
    have := h.enough
    apply h1
    apply Nat.div_eq_of_lt
    refine Nat.lt_of_lt_of_le hv ?_
    have : (16 : Nat) ^ 16 ≤ 16 ^ (T - 1) := Nat.pow_le_pow_right (by decide) (by omega)
    have e : (16 : Nat) ^ 16 = 18446744073709551616 := by decide
    omega

end Go.Proofs.Ytfedgcdkagngnaa

/- Regions that draw their order, in segments: reading operations that may float are taken as early as they can; all others come one behind the other. One walk serves every order. -/
namespace Go.Proofs.Ytfedgcdkagngnaa
open Go.RowKit
set_option linter.unusedVariables false

/-- A segment: reading operations that float; or operations one by one (lo: is its last one loose?). -/
inductive Seg where
  | fl (ks : List Nat)
  | sq (ks : List Nat) (lo : Bool)
inductive SegO where
  | fl (os : List Oper)
  | sq (os : List Oper) (lo : Bool)

section
variable {P : Program} {ops : Array Oper} {md : Region.Mode} {C : World → Prop} {Q : Exit → Act → World → Prop}

def picks (l : List Oper) : List Nat → List Oper
  | [] => []
  | k :: ks => match l[k]? with
    | some o => o :: picks l ks
    | none => picks l ks
def segs (l : List Oper) : List Seg → List SegO
  | [] => []
  | .fl ks :: r => .fl (picks l ks) :: segs l r
  | .sq ks lo :: r => .sq (picks l ks) lo :: segs l r

def flFrom (md : Region.Mode) (ops : Array Oper) : List Nat → Array Bool → Bool × Array Bool
  | [], listed => (true, listed)
  | k :: ks, listed => match ops[k]? with
    | none => (false, listed)
    | some o => let r := flFrom md ops ks (listed.setIfInBounds k true)
      (calm o.op && (Region.ready md ops listed).contains k && Region.free md ops listed k && ((List.range ops.size).all fun j => j == k || listed.getD j true || waitsFor md ops ops.size j k || looseOf md ops j) && r.1, r.2)
def sqFrom (md : Region.Mode) (ops : Array Oper) (lo : Bool) : List Nat → Array Bool → Bool × Array Bool
  | [], listed => (true, listed)
  | k :: ks, listed => match ops[k]? with
    | none => (false, listed)
    | some _ => let r := sqFrom md ops lo ks (listed.setIfInBounds k true)
      (Region.ready md ops listed == [k] && (!looseOf md ops k || (lo && ks.isEmpty)) && r.1, r.2)
def segFrom (md : Region.Mode) (ops : Array Oper) : List Seg → Array Bool → Bool
  | [], listed => (Region.ready md ops listed).isEmpty
  | .fl ks :: r, listed => let x := flFrom md ops ks listed; x.1 && segFrom md ops r x.2
  | .sq ks lo :: r, listed => let x := sqFrom md ops lo ks listed; x.1 && segFrom md ops r x.2
def segLen : List Seg → Nat
  | [] => 0
  | .fl ks :: r => segLen r + ks.length
  | .sq ks _ :: r => segLen r + ks.length
def segB (md : Region.Mode) (ops : Array Oper) (is : List Seg) : Bool := Region.noSelect ops && segLen is == ops.size && segFrom md ops is (Array.replicate ops.size false)

/-- The walk. -/
def wpSeg (P : Program) (ops : Array Oper) (C : World → Prop) (Q : Exit → Act → World → Prop) : List SegO → Act → World → Prop
  | [], a, w => Q .normal a w
  | .fl os :: r, a, w => C w ∧ wpQuiet P ops C (fun a' => wpSeg P ops C Q r a' w) os a
  | .sq os lo :: r, a, w => wpList P ops (Exit.then (fun a' w' => (lo = true → C w') ∧ wpSeg P ops C Q r a' w') Q) os a w

theorem fl_ok (hs : Region.noSelect ops = true) (hQ : ∀ c a d v w, Q (.panic c) (a.put d v) w → Q (.panic c) a w) {m : Nat} {R : Act → Prop} {w : World} (hC : C w) : ∀ (ks : List Nat) (listed : Array Bool) (a : Act), Shut md ops listed → (flFrom md ops ks listed).1 = true →
    (∀ a', Shut md ops (flFrom md ops ks listed).2 → R a' → wpAnyF P md ops Q C (looseOf md ops) m (flFrom md ops ks listed).2 a' w) →
    wpQuiet P ops C R (picks ops.toList ks) a → wpAnyF P md ops Q C (looseOf md ops) (m + ks.length) listed a w := by
  intro ks
  induction ks with
  | nil =>
    intro listed a hsh _ hR h
    exact hR a hsh (by simpa [picks, wpQuiet] using h)
  | cons k ks ih =>
    intro listed a hsh hB hR h
    cases hk : ops[k]? with
    | none => simp [flFrom, hk] at hB
    | some o =>
      have e : picks ops.toList (k :: ks) = o :: picks ops.toList ks := by simp [picks, hk]
      rw [e] at h
      simp only [flFrom, hk, Bool.and_eq_true] at hB hR
      obtain ⟨⟨⟨⟨hc, hr⟩, hf⟩, hlo⟩, hB'⟩ := hB
      have hrk : k ∈ Region.ready md ops listed := by simpa using hr
      obtain ⟨v, hy, hK⟩ : ∃ v, Stays P ops C o v a ∧ wpQuiet P ops C R (picks ops.toList ks) (a.put o.dst v) := by
        unfold wpQuiet at h
        by_cases hw : Region.wanted o (yielded ops a.tmps) = true
        · rw [if_pos hw] at h
          obtain ⟨v, h1, h2⟩ := h
          refine ⟨v, .inl ⟨hw, fun x hx => ?_⟩, h2⟩
          have h3 := h1 x hx
          unfold Oper.quietAt at h3
          cases hq : (execOp a.eval o).run P x with
          | ok nx w2 =>
            obtain ⟨u, rfl⟩ := calm_value hc hq
            rw [hq] at h3
            simp only [Oper.quietUpon] at h3
            rw [h3.1, h3.2]
          | halt x' w2 => rw [hq] at h3; simp only [Oper.quietUpon] at h3
        · rw [if_neg hw] at h
          exact ⟨undef, .inr ⟨by simpa using hw, rfl⟩, h⟩
      refine wpAnyF_early (f := ops.size) hk (Region.noSelect_spec hs) hQ (m + ks.length) listed a w ?_ (Region.free_spec hk hf) hrk hsh hy hC (ih _ _ (hsh.set hrk) hB' hR hK)
      intro j oj hj hjk hun
      simp only [List.all_eq_true, List.mem_range, Bool.or_eq_true, beq_iff_eq] at hlo
      rcases hlo j (Array.getElem?_eq_some_iff.1 hj).1 with ((h | h) | h) | h
      · exact absurd h hjk
      · rw [hun] at h; cases h
      · exact .inl h
      · exact .inr h

theorem sq_ok {m : Nat} {lo : Bool} {R : Act → World → Prop} : ∀ (ks : List Nat) (listed : Array Bool) (a : Act) (w : World), Shut md ops listed → (sqFrom md ops lo ks listed).1 = true →
    (∀ a' w', Shut md ops (sqFrom md ops lo ks listed).2 → (lo = true → C w') → R a' w' → wpAnyF P md ops Q C (looseOf md ops) m (sqFrom md ops lo ks listed).2 a' w') →
    wpList P ops (Exit.then (fun a' w' => (lo = true → C w') ∧ R a' w') Q) (picks ops.toList ks) a w → wpAnyF P md ops Q C (looseOf md ops) (m + ks.length) listed a w := by
  intro ks
  induction ks with
  | nil =>
    intro listed a w hsh _ hR h
    have h : (lo = true → C w) ∧ R a w := by simpa [picks, wpList, Exit.then] using h
    exact hR a w hsh h.1 h.2
  | cons k ks ih =>
    intro listed a w hsh hB hR h
    cases hk : ops[k]? with
    | none => simp [sqFrom, hk] at hB
    | some o =>
      have e : picks ops.toList (k :: ks) = o :: picks ops.toList ks := by simp [picks, hk]
      rw [e] at h
      simp only [sqFrom, hk, Bool.and_eq_true, beq_iff_eq] at hB hR
      obtain ⟨⟨hr, hlo⟩, hB'⟩ := hB
      have hrk : k ∈ Region.ready md ops listed := by rw [hr]; simp
      refine ⟨fun h' => (by rw [hr] at h'; cases h'), fun i hi => ?_⟩
      rw [hr] at hi
      obtain rfl : i = k := by simpa using hi
      unfold wpOp
      simp only [hk]
      unfold wpList at h
      have hmono : ∀ a' w', wpList P ops (Exit.then (fun a' w' => (lo = true → C w') ∧ R a' w') Q) (picks ops.toList ks) a' w' →
          (looseOf md ops i = true → C w') ∧ wpAnyF P md ops Q C (looseOf md ops) (m + ks.length) (listed.setIfInBounds i true) a' w' := by
        intro a' w' h'
        refine ⟨fun hl => ?_, ih _ _ _ (hsh.set hrk) hB' hR h'⟩
        simp only [hl, Bool.not_true, Bool.false_or, Bool.and_eq_true, List.isEmpty_iff] at hlo
        obtain ⟨hlo1, rfl⟩ := hlo
        have h' : (lo = true → C w') ∧ R a' w' := by simpa [picks, wpList, Exit.then] using h'
        exact h'.1 hlo1
      by_cases hw : Region.wanted o (yielded ops a.tmps) = true
      · rw [if_pos hw] at h ⊢
        rcases h with h | h
        · refine .inl ?_
          have h := Oper.wp_mono hmono h
          unfold Oper.wp at *
          generalize (execOp a.eval o).run P w = r at *
          cases r with
          | ok n w' => cases n <;> simp only [Oper.upon] at h ⊢ <;> exact h
          | halt x w' => cases x <;> simp only [Oper.upon] at h ⊢ <;> exact h
        · exact .inr h
      · rw [if_neg hw] at h ⊢
        exact hmono _ _ h

theorem seg_ok (hs : Region.noSelect ops = true) (hQ : ∀ c a d v w, Q (.panic c) (a.put d v) w → Q (.panic c) a w) : ∀ (is : List Seg) (listed : Array Bool) (a : Act) (w : World), Shut md ops listed →
    segFrom md ops is listed = true → wpSeg P ops C Q (segs ops.toList is) a w → wpAnyF P md ops Q C (looseOf md ops) (segLen is) listed a w := by
  intro is
  induction is with
  | nil =>
    intro listed a w _ hB h
    exact ⟨by simpa [segFrom] using hB, by simpa [wpSeg, segs] using h⟩
  | cons s is ih =>
    intro listed a w hsh hB h
    cases s with
    | fl ks =>
      simp only [segFrom, Bool.and_eq_true] at hB
      simp only [segs, wpSeg] at h
      exact fl_ok hs hQ h.1 ks listed a hsh hB.1 (fun a' hsh' hR => ih _ a' w hsh' hB.2 hR) h.2
    | sq ks lo =>
      simp only [segFrom, Bool.and_eq_true] at hB
      simp only [segs, wpSeg] at h
      exact sq_ok ks listed a w hsh hB.1 (fun a' w' hsh' _ hR => ih _ a' w' hsh' hB.2 hR) h

/-- One walk serves every order. -/
theorem wp_region_seg {id : Nat} {a : Act} {w : World} {l : List Oper} (is : List Seg) (hm : P.follows .mixedOrders = true) (hB : segB .any l.toArray is = true)
    (hQ : ∀ c a d v w, Q (.panic c) (a.put d v) w → Q (.panic c) a w)
    (h : wpSeg P l.toArray C Q (segs l is) a w.drew) : (Code.region id l.toArray true).wp P Q a w := by
  simp only [segB, Bool.and_eq_true, beq_iff_eq] at hB
  refine wp_region_any hm (wpAny_of_F (C := C) (loose := looseOf .any l.toArray) _ _ _ _ ?_)
  have := seg_ok (md := .any) (C := C) hB.1.1 hQ is (Array.replicate l.toArray.size false) a w.drew (shut_none _) hB.2 h
  rw [hB.1.2] at this
  exact this

theorem wpSeg_fl {os : List Oper} {r : List SegO} {a : Act} {w : World} (hC : C w) (h : wpQuiet P ops C (fun a' => wpSeg P ops C Q r a' w) os a) : wpSeg P ops C Q (.fl os :: r) a w := ⟨hC, h⟩
theorem wpSeg_sq {os : List Oper} {lo : Bool} {r : List SegO} {a : Act} {w : World}
    (h : ∀ K : Act → World → Prop, (∀ a' w', (lo = true → C w') → wpSeg P ops C Q r a' w' → K a' w') → wpList P ops (Exit.then K Q) os a w) : wpSeg P ops C Q (.sq os lo :: r) a w :=
  h _ (fun _ _ h1 h2 => ⟨h1, h2⟩)
theorem exit_then_self (Q : Exit → Act → World → Prop) : Exit.then (Q .normal) Q = Q := by
  funext e a w
  cases e <;> rfl
/-- The last segment. -/
theorem wpSeg_last {os : List Oper} {a : Act} {w : World} (h : wpList P ops Q os a w) : wpSeg P ops C Q [.sq os false] a w := by
  unfold wpSeg
  have e : (fun a' w' => (false = true → C w') ∧ wpSeg P ops C Q [] a' w') = Q .normal := by
    funext a' w'
    simp [wpSeg]
  rw [e, exit_then_self]
  exact h

end
end Go.Proofs.Ytfedgcdkagngnaa

/- Regions that draw their order, as a tree: operations that load float, those that look at no memory float without a condition; of two others that may come next either may. -/
namespace Go.Proofs.Ytfedgcdkagngnaa
open Go.RowKit
set_option linter.unusedVariables false

section
variable {P : Program} {ops : Array Oper} {md : Region.Mode} {C : World → Prop} {Q : Exit → Act → World → Prop}

end

end Go.Proofs.Ytfedgcdkagngnaa

/- The document's Text of a number (ref31). -/
namespace Go.Proofs.Ytfedgcdkagngnaa
open Go.RowKit
set_option linter.unusedVariables false
open Go.Lib (decDigits itoa nDigits)

set_option maxHeartbeats 4000000 in
set_option maxRecDepth 100000 in
theorem rtext_any (n : Int) (hn : In64 n) (w : World) : Calls Try.prog 12 #[.int .i64 n] w (Gives (strV (itoa n)) w) := by
  obtain ⟨h1, h2⟩ := hn
  have HP : Hid (∀ (l : List UInt8) (w' : World), itoa n = l → Below w.heap.size w w' → Gives (strV (itoa n)) w (.returned (strV l)) w') := Lib.hid (fun l w' h hb => by subst h; exact ⟨rfl, hb⟩)
  generalize Gives (strV (itoa n)) w = Post at *
  by_cases hz : n = 0
  · subst hz
    have HI : Hid (itoa 0 = [48]) := Lib.hid (by decide +kernel)
    go_enter Try.func12, Try.ntmps12
    go_wp2_with fail
    exact HP.out _ _ HI.out (Below.refl _ _)
  · have hz' : (n == 0) = false := by simpa using hz
    by_cases h0 : n < 0
    · obtain ⟨u, hu⟩ : ∃ u : Nat, n = -(u : Int) := ⟨n.natAbs, by omega⟩
      subst hu
      have hu1 : 1 ≤ u := by omega
      have HI : Hid (itoa (-(u : Int)) = 45 :: decDigits u) := Lib.hid (itoa_neg hu1)
      have HL := Lib.hid (dec_len20 (u := u) (by omega))
      go_enter Try.func12, Try.ntmps12
      go_wp2_with fail
      go_loopw [3, 4] (fun s k wr => ∃ (v : Nat) (tail : List UInt8), s = .string (bstr tail) ∧ k = .int .i64 (-(v : Int)) ∧ v ≤ 9223372036854775808 ∧ tail.length ≤ 20 ∧ partT u v tail ∧ Below w.heap.size w wr) (fun _ k _ => (-(RowKit.intOf k)).toNat)
      case atStart => exact ⟨u, [], rfl, rfl, by omega, by simp, .inr ⟨by omega, by simp⟩, Below.refl _ _⟩
      case round =>
        obtain ⟨v, tail, rfl, rfl, hv, htl, hp, hb⟩ := hrel
        have HPt := Lib.hid hp
        have HB := Lib.hid hb
        clear hp hb
        by_cases hv0 : v = 0
        · subst hv0
          have HD : Hid (decDigits u = tail) := Lib.hid (by rcases HPt.out with ⟨_, h⟩ | ⟨h, _⟩; exact h; omega)
          have hsz : (bstr tail).size ≤ 20 := by rw [bstr_size]; exact htl
          go_wp2_with fail
          show Post (.returned (.string (bstr [45] ++ bstr tail))) _
          rw [bstr_append]
          exact HP.out _ _ (by rw [HI.out, HD.out]; rfl) HB.out
        · have hne : ((-(v : Int)) != 0) = true := by simp; omega
          have hv0' : 0 < v := by omega
          have HPt1 := Lib.hid (partT_step HPt.out hv0')
          have htl1 : tail.length + 1 ≤ 20 := by
            have := HL.out
            rcases HPt.out with ⟨h, _⟩ | ⟨_, h⟩
            · omega
            · rw [h] at this
              have := dec_pos v
              simp at *; omega
          have HS : Hid (strOf [48 + v % 10] ++ bstr tail = bstr (UInt8.ofNat (48 + v % 10) :: tail)) := Lib.hid (by
            have := one_byte (UInt8.ofNat (48 + v % 10))
            rw [dig_toNat _ (by omega)] at this
            rw [this, bstr_append]; rfl)
          have hs1 : (strOf [48 + v % 10]).size = 1 := rfl
          have hs2 : (bstr tail).size ≤ 20 := by rw [bstr_size]; exact htl
          have HCb : Hid (Cells (wr.alloc (.cells #[.int .u8 (48 + (v : Int) % 10)] 5)) (some ⟨wr.heap.size, 0, none⟩) ([48 + v % 10].map vu8)) := Lib.hid (by
            have := ((Mem.one wr #[.int .u8 (48 + (v : Int) % 10)] 5).at 0 rfl).cells
            have e : ([48 + v % 10].map vu8) = [.int .u8 (48 + (v : Int) % 10)] := by simp [vu8]
            rw [e]; exact this)
          have HB1 := Lib.hid (HB.out.trans ((below_alloc wr (.cells #[.int .u8 (48 + (v : Int) % 10)] 5)).mono HB.out.size))
          have hd1 : 0 ≤ (v : Int) % 10 := by omega
          have hd2 : (v : Int) % 10 < 10 := by omega
          generalize UInt8.ofNat (48 + v % 10) = b at *
          by_cases hd : v % 10 = 0
          · have hd' : (v : Int) % 10 = 0 := by omega
            rw [hd'] at HCb HB1
            rw [hd] at HCb hs1 HS
            clear hd1 hd2
            go_wp2_with (refine wpList_string_of (ns := [48 + 0]) Try.underlying37 Try.underlying5 Try.underlying9 HCb.out rfl rfl rfl ?_)
            exact ⟨⟨v / 10, b :: tail, by rw [← HS.out], vint (by omega), by omega, by simp; omega, HPt1.out, HB1.out⟩, by simp [RowKit.intOf]; omega⟩
          · have hd' : 0 < (v : Int) % 10 := by omega
            go_wp2_with (refine wpList_string_of (ns := [48 + v % 10]) Try.underlying37 Try.underlying5 Try.underlying9 HCb.out rfl rfl rfl ?_)
            exact ⟨⟨v / 10, b :: tail, by rw [← HS.out], vint (by omega), by omega, by simp; omega, HPt1.out, HB1.out⟩, by simp [RowKit.intOf]; omega⟩
    · have HI : Hid (itoa n = decDigits n.toNat) := Lib.hid (by unfold itoa; rw [if_neg h0])
      have HL := Lib.hid (dec_len20 (u := n.toNat) (by omega))
      have h3 : 0 ≤ n := by omega
      clear h0 hz
      go_enter Try.func12, Try.ntmps12
      go_wp2_with fail
      go_loopw [3, 4] (fun s k wr => ∃ (x : Int) (tail : List UInt8), s = .string (bstr tail) ∧ k = .int .i64 x ∧ 0 ≤ x ∧ x < 9223372036854775808 ∧ tail.length ≤ 20 ∧ Hid (partT n.toNat x.toNat tail) ∧ Below w.heap.size w wr) (fun _ k _ => (RowKit.intOf k).toNat)
      case atStart => exact ⟨n, [], rfl, rfl, h3, h2, by simp, Lib.hid (.inr ⟨by simp at hz'; omega, by simp⟩), Below.refl _ _⟩
      case round =>
        obtain ⟨x, tail, rfl, rfl, hx0, hx1, htl, HPt, hb⟩ := hrel
        have HB := Lib.hid hb
        clear hb
        have hsz : (bstr tail).size ≤ 20 := by rw [bstr_size]; exact htl
        by_cases hv0 : x = 0
        · subst hv0
          have HD : Hid (decDigits n.toNat = tail) := Lib.hid (by rcases HPt.out with ⟨_, h⟩ | ⟨h, _⟩; exact h; simp at h)
          have hneg : decide (n < 0) = false := by simp; omega
          go_wp2_with fail
          exact HP.out _ _ (by rw [HI.out, HD.out]) HB.out
        · have hne : (x != 0) = true := by simpa using hv0
          have hv0' : 0 < x.toNat := by omega
          have HPt1 := Lib.hid (partT_step HPt.out hv0')
          have htl1 : tail.length + 1 ≤ 20 := by
            have := HL.out
            rcases HPt.out with ⟨h, _⟩ | ⟨_, h⟩
            · omega
            · rw [h] at this
              have := dec_pos x.toNat
              simp at *; omega
          have HS : Hid (strOf [48 + x.toNat % 10] ++ bstr tail = bstr (UInt8.ofNat (48 + x.toNat % 10) :: tail)) := Lib.hid (by
            have := one_byte (UInt8.ofNat (48 + x.toNat % 10))
            rw [dig_toNat _ (by omega)] at this
            rw [this, bstr_append]; rfl)
          have hs1 : (strOf [48 + x.toNat % 10]).size = 1 := rfl
          have HCb : Hid (Cells (wr.alloc (.cells #[.int .u8 (48 + x % 10)] 5)) (some ⟨wr.heap.size, 0, none⟩) ([48 + x.toNat % 10].map vu8)) := Lib.hid (by
            have := ((Mem.one wr #[.int .u8 (48 + x % 10)] 5).at 0 rfl).cells
            have e : ([48 + x.toNat % 10].map vu8) = [.int .u8 (48 + x % 10)] := by simp [vu8]; omega
            rw [e]; exact this)
          have HB1 := Lib.hid (HB.out.trans ((below_alloc wr (.cells #[.int .u8 (48 + x % 10)] 5)).mono HB.out.size))
          have hd1 : 0 ≤ x % 10 := by omega
          have hd2 : x % 10 < 10 := by omega
          have HQ : Hid (x.toNat / 10 = (x / 10).toNat) := Lib.hid (by omega)
          rw [HQ.out] at HPt1
          generalize UInt8.ofNat (48 + x.toNat % 10) = b at *
          clear hv0 hv0'
          go_wp2_with (refine wpList_string_of (ns := [48 + x.toNat % 10]) Try.underlying37 Try.underlying5 Try.underlying9 HCb.out rfl rfl rfl ?_)
          exact ⟨⟨x / 10, b :: tail, by rw [← HS.out], rfl, by omega, by omega, by simp; omega, HPt1, HB1.out⟩, by simp [RowKit.intOf]; simp at hne; omega⟩

end Go.Proofs.Ytfedgcdkagngnaa

/- dump: digits, Number, Hex; the document's Hex. -/
namespace Go.Proofs.Ytfedgcdkagngnaa
open Go.RowKit
set_option linter.unusedVariables false
open Go.Lib (decDigits itoa nDigits)

theorem chrN_toNat (d : Nat) (h : d < 16) : (chrN d).toNat = if d ≤ 9 then 48 + d else 87 + d := by
  unfold chrN
  split <;> simp <;> omega
/-- The digits' room: what isn't written yet, what is. -/
def digRow64 (tail : List UInt8) : List Value := List.replicate (64 - tail.length) (.int .u8 0) ++ vbs tail
theorem digRow64_set (tail : List UInt8) (b : UInt8) (h : tail.length < 64) : (digRow64 tail).set (64 - tail.length - 1) (.int .u8 (b.toNat : Int)) = digRow64 (b :: tail) := by
  unfold digRow64
  obtain ⟨k, hk⟩ : ∃ k, 64 - tail.length = k + 1 := ⟨64 - tail.length - 1, by omega⟩
  rw [hk, show 64 - (b :: tail).length = k by simp; omega, show k + 1 - 1 = k by omega, List.replicate_succ', List.append_assoc, List.set_append_right _ _ (by simp)]
  simp [vbs]
theorem digRow64_len (tail : List UInt8) (h : tail.length ≤ 64) : (digRow64 tail).length = 64 := by simp [digRow64, vbs]; omega
theorem digRow64_drop (tail : List UInt8) : (digRow64 tail).drop (64 - tail.length) = vbs tail := by
  unfold digRow64
  rw [List.drop_append, List.drop_of_length_le (by simp)]; simp

theorem len64 : Try.prog.arrayLen 65 = 64 := by kernel_rfl
theorem arr64 : Try.prog.underlying 65 = some (.array (Try.prog.arrayLen 65) (Try.prog.elem 65)) := by kernel_rfl
theorem size64 (W : World) : (Go.sizeOf (Try.prog.elem 65)).run Try.prog W = .ok 1 W := by kernel_rfl
theorem slice64 (g a n : Nat) (W : World) (h2 : n + a = 64) (h3 : 1 ≤ n) : (Instr.sliceAt 65 (.pointer (some ⟨g, 0, none⟩)) (some (.int .i64 (a : Int))) none none).run Try.prog W = .ok (.slice (some ⟨g, a, none⟩) n n) W := by
  rw [run_sliceAt_array_l W _ _ arr64 .i64 _ (by omega) (by rw [len64]; omega), size64, len64]
  have e1 : (a : Int).toNat = a := by omega
  have e2 : 64 - a = n := by omega
  have e3 : ¬ 64 = a := by omega
  simp only [Result.andThen, slicedAt, e1, e2, if_neg e3]
  have : (⟨g, 0, none⟩ : Addr).add (a * 1) = ⟨g, a, none⟩ := by rw [add_none]; simp
  rw [this]

theorem ten20 (n : Nat) (h : n < 18446744073709551616) (b : Nat) (hb : 10 ≤ b) : n / b ^ 20 = 0 := by
  apply Nat.div_eq_of_lt
  refine Nat.lt_of_lt_of_le h ?_
  have h1 : (10 : Nat) ^ 20 ≤ b ^ 20 := Nat.pow_le_pow_left hb 20
  have h2 : (10 : Nat) ^ 20 = 100000000000000000000 := by decide
  omega

/-- What digits leaves. -/
def DigPost (b n least : Nat) (w : World) : Ending → World → Prop := fun e w' => ∃ T, Written b n least T ∧ T ≤ 20 ∧ e = .returned (strV (digW b n T)) ∧ Below w.heap.size w w'

/-- On the way: t digits are written. -/
structure DigInv (b n least t v : Nat) : Prop where
  val : v = n / b ^ t
  le : t ≤ 20
  last : t ≤ least ∨ n / b ^ (t - 1) ≠ 0
theorem DigInv.done {b n least t : Nat} (h : DigInv b n least t 0) (hl : least ≤ t) : Written b n least t :=
  ⟨h.val.symm, hl, by rcases h.last with h1 | h1; · exact .inl (by omega)
                      · exact .inr h1⟩
theorem DigInv.step {b n least t v : Nat} (h : DigInv b n least t v) (hb : 10 ≤ b) (hn : n < 18446744073709551616) (hl : least ≤ 16) (hg : 0 < v ∨ t < least) : DigInv b n least (t + 1) (v / b) := by
  refine ⟨by rw [h.val, Nat.div_div_eq_div_mul, Nat.pow_succ], ?_, ?_⟩
  · apply Classical.byContradiction
    intro c
    have ht : t = 20 := by have := h.le; omega
    subst ht
    have := ten20 n hn b hb
    rw [← h.val] at this
    omega
  · rcases hg with hg | hg
    · right
      rw [show t + 1 - 1 = t from rfl, ← h.val]; omega
    · left; omega

set_option maxHeartbeats 2000000 in
set_option maxRecDepth 100000 in
theorem digits10_any (n least : Nat) (hn : n < 18446744073709551616) (hl1 : 1 ≤ least) (hl : least ≤ 16) (w : World) : Calls Try.prog 11 #[.int .u64 (n : Int), .int .u64 10, .int .i64 (least : Int)] w (DigPost 10 n least w) := by
  have HM := Lib.hid (Mem.one w (List.replicate 64 (.int .u8 0)).toArray 65)
  have HP : Hid (∀ (T : Nat) (w' : World), Written 10 n least T → T ≤ 20 → Below w.heap.size w w' → DigPost 10 n least w (.returned (strV (digW 10 n T))) w') := Lib.hid (fun T w' h1 h2 h3 => ⟨T, h1, h2, rfl, h3⟩)
  generalize DigPost 10 n least w = Post at *
  go_enter Try.func11, Try.ntmps11
  go_upto_region 2 with fail
  have e64 : (List.replicate 64 (.int .u8 0) : List Value).toArray = #[.int .u8 0, .int .u8 0, .int .u8 0, .int .u8 0, .int .u8 0, .int .u8 0, .int .u8 0, .int .u8 0, .int .u8 0, .int .u8 0, .int .u8 0, .int .u8 0, .int .u8 0, .int .u8 0, .int .u8 0, .int .u8 0, .int .u8 0, .int .u8 0, .int .u8 0, .int .u8 0, .int .u8 0, .int .u8 0, .int .u8 0, .int .u8 0, .int .u8 0, .int .u8 0, .int .u8 0, .int .u8 0, .int .u8 0, .int .u8 0, .int .u8 0, .int .u8 0, .int .u8 0, .int .u8 0, .int .u8 0, .int .u8 0, .int .u8 0, .int .u8 0, .int .u8 0, .int .u8 0, .int .u8 0, .int .u8 0, .int .u8 0, .int .u8 0, .int .u8 0, .int .u8 0, .int .u8 0, .int .u8 0, .int .u8 0, .int .u8 0, .int .u8 0, .int .u8 0, .int .u8 0, .int .u8 0, .int .u8 0, .int .u8 0, .int .u8 0, .int .u8 0, .int .u8 0, .int .u8 0, .int .u8 0, .int .u8 0, .int .u8 0, .int .u8 0] := rfl
  rw [e64] at HM
  clear e64
  generalize w.alloc _ = w0 at *
  obtain ⟨g, hg⟩ : ∃ g, g = w.heap.size := ⟨_, rfl⟩
  rw [← hg] at HM ⊢
  have HG : Hid (w.heap.size ≤ g) := Lib.hid (by omega)
  clear hg
  go_wp2_with fail
  go_loopw [0, 8] (fun nv av wr => ∃ (v t a : Nat), nv = .int .u64 (v : Int) ∧ av = .int .i64 (a : Int) ∧ v < 18446744073709551616 ∧ a + t = 64 ∧ t ≤ 20 ∧ Hid (DigInv 10 n least t v) ∧ Hid (RowAt wr g 65 (digRow64 (digW 10 n t))) ∧ Hid (Below w.heap.size w wr)) (fun _ av _ => (intOf av).toNat)
  case atStart => exact ⟨n, 0, 64, rfl, rfl, hn, by omega, by omega, Lib.hid ⟨by simp, by omega, .inl (by omega)⟩, Lib.hid (HM.out.at 0 rfl), Lib.hid HM.out.below⟩
  case round =>
    obtain ⟨v, t, a, rfl, rfl, hv, hat, ht20, HI, HR, HB⟩ := hrel
    by_cases hgo : 0 < v ∨ t < least
    · have HI2 := Lib.hid (HI.out.step (by omega) hn hl hgo)
      have hto : ((a : Int) - 1).toNat = a - 1 := by omega
      have ha1 : 1 ≤ a := by omega
      have HF : Hid (digW 10 n (t + 1) = chrN (v % 10) :: digW 10 n t) := Lib.hid (by rw [digW_front, ← HI.out.val])
      have hlen : (digW 10 n t).length = t := digW_len _ _ _
      have hset := digRow64_set (digW 10 n t) (chrN (v % 10)) (by omega)
      rw [hlen, show 64 - t - 1 = a - 1 by omega] at hset
      have hct := chrN_toNat (v % 10) (by omega)
      obtain ⟨x, hx⟩ : ∃ x, (digRow64 (digW 10 n t))[a - 1]? = some x := ⟨_, List.getElem?_eq_getElem (by rw [digRow64_len _ (by omega)]; omega)⟩
      have e0 := HR.out.cell hx
      have e1 := HR.out.frozen (a - 1)
      have hdB : (v : Int) % 10 < 10 := by omega
      have hd0 : 0 ≤ (v : Int) % 10 := by omega
      have ha64 : (a : Int) ≤ 64 := by omega
      have ha0 : 0 ≤ (a : Int) - 1 := by omega
      have HSet := Lib.hid hset
      have HLen : Hid ((digRow64 (digW 10 n t)).length = 64) := Lib.hid (digRow64_len _ (by omega))
      have HCt := Lib.hid hct
      clear hset hct hx hlen
      have hbyte : ((48 : Int) + (v : Int) % 10) = ((chrN (v % 10)).toNat : Int) := by rw [HCt.out, if_pos (by omega)]; omega
      have HR1 : Hid (RowAt (wr.setCell ⟨g, a - 1, none⟩ (.int .u8 (48 + (v : Int) % 10))) g 65 (digRow64 (digW 10 n (t + 1)))) := Lib.hid (by
        rw [hbyte, HF.out, ← HSet.out]; exact HR.out.set (a - 1) (by rw [HLen.out]; omega) _)
      have HB1 : Hid (Below w.heap.size w (wr.setCell ⟨g, a - 1, none⟩ (.int .u8 (48 + (v : Int) % 10)))) := Lib.hid (HB.out.setCell HG.out _)
      clear hbyte
      rcases hgo with hgo | hgo
      · have hgo' : (0 : Int) < (v : Int) := by omega
        go_wp2_with fail
        go_roundw
        case rel => exact ⟨v / 10, t + 1, a - 1, vint (by omega), vint (by omega), by omega, by omega, HI2.out.le, HI2, HR1, HB1⟩
        case measure => simp [intOf]; omega
      · have hgo' : (64 : Int) - (least : Int) < (a : Int) := by omega
        by_cases hv0 : v = 0
        · subst hv0
          go_wp2_with fail
          go_roundw
          case rel => exact ⟨0 / 10, t + 1, a - 1, vint (by omega), vint (by omega), by omega, by omega, HI2.out.le, HI2, HR1, HB1⟩
          case measure => simp [intOf]; omega
        · have hgo2 : (0 : Int) < (v : Int) := by omega
          go_wp2_with fail
          go_roundw
          case rel => exact ⟨v / 10, t + 1, a - 1, vint (by omega), vint (by omega), by omega, by omega, HI2.out.le, HI2, HR1, HB1⟩
          case measure => simp [intOf]; omega
    · have hv0 : v = 0 := by omega
      subst hv0
      have htl : decide ((64 : Int) - (least : Int) < (a : Int)) = false := by simp; omega
      have HW := Lib.hid (HI.out.done (by omega))
      have hc := HR.out.cells.drop a
      have hlen : (digW 10 n t).length = t := digW_len _ _ _
      have h2 := digRow64_drop (digW 10 n t)
      rw [hlen, show 64 - t = a by omega] at h2
      rw [h2] at hc
      have HC : Hid (Cells wr (some ⟨g, a, none⟩) (((digW 10 n t).map (·.toNat)).map vu8)) := Lib.hid (by rw [← vbs_nat]; simpa using hc)
      have HE : Hid (strOf ((digW 10 n t).map (·.toNat)) = bstr (digW 10 n t)) := Lib.hid (strOf_bytes _)
      have hnl : ((digW 10 n t).map (·.toNat)).length + a = 64 := by simp; omega
      have hn1 : 1 ≤ ((digW 10 n t).map (·.toNat)).length := by simp; omega
      generalize (digW 10 n t).map (·.toNat) = ns at *
      have hsl := fun W => slice64 g a ns.length W hnl hn1
      clear hnl hn1 h2 hc hlen hgo
      go_wp2_with (refine wpList_string_of (ns := ns) Try.underlying37 Try.underlying5 Try.underlying9 HC.out rfl rfl rfl ?_; rw [HE.out])
      exact HP.out _ _ HW.out ht20 HB.out

set_option maxHeartbeats 2000000 in
set_option maxRecDepth 100000 in
theorem digits16_any (n least : Nat) (hn : n < 18446744073709551616) (hl1 : 1 ≤ least) (hl : least ≤ 16) (w : World) : Calls Try.prog 11 #[.int .u64 (n : Int), .int .u64 16, .int .i64 (least : Int)] w (DigPost 16 n least w) := by
  have HM := Lib.hid (Mem.one w (List.replicate 64 (.int .u8 0)).toArray 65)
  have HP : Hid (∀ (T : Nat) (w' : World), Written 16 n least T → T ≤ 20 → Below w.heap.size w w' → DigPost 16 n least w (.returned (strV (digW 16 n T))) w') := Lib.hid (fun T w' h1 h2 h3 => ⟨T, h1, h2, rfl, h3⟩)
  generalize DigPost 16 n least w = Post at *
  go_enter Try.func11, Try.ntmps11
  go_upto_region 2 with fail
  have e64 : (List.replicate 64 (.int .u8 0) : List Value).toArray = #[.int .u8 0, .int .u8 0, .int .u8 0, .int .u8 0, .int .u8 0, .int .u8 0, .int .u8 0, .int .u8 0, .int .u8 0, .int .u8 0, .int .u8 0, .int .u8 0, .int .u8 0, .int .u8 0, .int .u8 0, .int .u8 0, .int .u8 0, .int .u8 0, .int .u8 0, .int .u8 0, .int .u8 0, .int .u8 0, .int .u8 0, .int .u8 0, .int .u8 0, .int .u8 0, .int .u8 0, .int .u8 0, .int .u8 0, .int .u8 0, .int .u8 0, .int .u8 0, .int .u8 0, .int .u8 0, .int .u8 0, .int .u8 0, .int .u8 0, .int .u8 0, .int .u8 0, .int .u8 0, .int .u8 0, .int .u8 0, .int .u8 0, .int .u8 0, .int .u8 0, .int .u8 0, .int .u8 0, .int .u8 0, .int .u8 0, .int .u8 0, .int .u8 0, .int .u8 0, .int .u8 0, .int .u8 0, .int .u8 0, .int .u8 0, .int .u8 0, .int .u8 0, .int .u8 0, .int .u8 0, .int .u8 0, .int .u8 0, .int .u8 0, .int .u8 0] := rfl
  rw [e64] at HM
  clear e64
  generalize w.alloc _ = w0 at *
  obtain ⟨g, hg⟩ : ∃ g, g = w.heap.size := ⟨_, rfl⟩
  rw [← hg] at HM ⊢
  have HG : Hid (w.heap.size ≤ g) := Lib.hid (by omega)
  clear hg
  go_wp2_with fail
  go_loopw [0, 8] (fun nv av wr => ∃ (v t a : Nat), nv = .int .u64 (v : Int) ∧ av = .int .i64 (a : Int) ∧ v < 18446744073709551616 ∧ a + t = 64 ∧ t ≤ 20 ∧ Hid (DigInv 16 n least t v) ∧ Hid (RowAt wr g 65 (digRow64 (digW 16 n t))) ∧ Hid (Below w.heap.size w wr)) (fun _ av _ => (intOf av).toNat)
  case atStart => exact ⟨n, 0, 64, rfl, rfl, hn, by omega, by omega, Lib.hid ⟨by simp, by omega, .inl (by omega)⟩, Lib.hid (HM.out.at 0 rfl), Lib.hid HM.out.below⟩
  case round =>
    obtain ⟨v, t, a, rfl, rfl, hv, hat, ht20, HI, HR, HB⟩ := hrel
    by_cases hgo : 0 < v ∨ t < least
    · have HI2 := Lib.hid (HI.out.step (by omega) hn hl hgo)
      have hto : ((a : Int) - 1).toNat = a - 1 := by omega
      have ha1 : 1 ≤ a := by omega
      have HF : Hid (digW 16 n (t + 1) = chrN (v % 16) :: digW 16 n t) := Lib.hid (by rw [digW_front, ← HI.out.val])
      have hlen : (digW 16 n t).length = t := digW_len _ _ _
      have hset := digRow64_set (digW 16 n t) (chrN (v % 16)) (by omega)
      rw [hlen, show 64 - t - 1 = a - 1 by omega] at hset
      have hct := chrN_toNat (v % 16) (by omega)
      obtain ⟨x, hx⟩ : ∃ x, (digRow64 (digW 16 n t))[a - 1]? = some x := ⟨_, List.getElem?_eq_getElem (by rw [digRow64_len _ (by omega)]; omega)⟩
      have e0 := HR.out.cell hx
      have e1 := HR.out.frozen (a - 1)
      have hdB : (v : Int) % 16 < 16 := by omega
      have hd0 : 0 ≤ (v : Int) % 16 := by omega
      have ha64 : (a : Int) ≤ 64 := by omega
      have ha0 : 0 ≤ (a : Int) - 1 := by omega
      have HSet := Lib.hid hset
      have HLen : Hid ((digRow64 (digW 16 n t)).length = 64) := Lib.hid (digRow64_len _ (by omega))
      have HCt := Lib.hid hct
      clear hset hct hx hlen
      by_cases hd9 : v % 16 ≤ 9
      · have hd9' : (v : Int) % 16 ≤ 9 := by omega
        have hbyte : ((48 : Int) + (v : Int) % 16) = ((chrN (v % 16)).toNat : Int) := by rw [HCt.out, if_pos (by omega)]; omega
        have HR1 : Hid (RowAt (wr.setCell ⟨g, a - 1, none⟩ (.int .u8 (48 + (v : Int) % 16))) g 65 (digRow64 (digW 16 n (t + 1)))) := Lib.hid (by
          rw [hbyte, HF.out, ← HSet.out]; exact HR.out.set (a - 1) (by rw [HLen.out]; omega) _)
        have HB1 : Hid (Below w.heap.size w (wr.setCell ⟨g, a - 1, none⟩ (.int .u8 (48 + (v : Int) % 16)))) := Lib.hid (HB.out.setCell HG.out _)
        clear hbyte
        rcases hgo with hgo | hgo
        · have hgo' : (0 : Int) < (v : Int) := by omega
          go_wp2_with fail
          go_roundw
          case rel => exact ⟨v / 16, t + 1, a - 1, vint (by omega), vint (by omega), by omega, by omega, HI2.out.le, HI2, HR1, HB1⟩
          case measure => simp [intOf]; omega
        · have hgo' : (64 : Int) - (least : Int) < (a : Int) := by omega
          by_cases hv0 : v = 0
          · subst hv0
            go_wp2_with fail
            go_roundw
            case rel => exact ⟨0 / 16, t + 1, a - 1, vint (by omega), vint (by omega), by omega, by omega, HI2.out.le, HI2, HR1, HB1⟩
            case measure => simp [intOf]; omega
          · have hgo2 : (0 : Int) < (v : Int) := by omega
            go_wp2_with fail
            go_roundw
            case rel => exact ⟨v / 16, t + 1, a - 1, vint (by omega), vint (by omega), by omega, by omega, HI2.out.le, HI2, HR1, HB1⟩
            case measure => simp [intOf]; omega
      · have hd9' : (9 : Int) < (v : Int) % 16 := by omega
        have hbyte : ((97 : Int) + (v : Int) % 16 - 10) = ((chrN (v % 16)).toNat : Int) := by rw [HCt.out, if_neg hd9]; omega
        have HR1 : Hid (RowAt ((wr.setCell ⟨g, a - 1, none⟩ (.int .u8 (48 + (v : Int) % 16))).setCell ⟨g, a - 1, none⟩ (.int .u8 (97 + (v : Int) % 16 - 10))) g 65 (digRow64 (digW 16 n (t + 1)))) := Lib.hid (by
          have h1 := HR.out.set (a - 1) (by rw [HLen.out]; omega) (.int .u8 (48 + (v : Int) % 16))
          have h2 := h1.set (a - 1) (by rw [List.length_set, HLen.out]; omega) (.int .u8 (97 + (v : Int) % 16 - 10))
          rw [List.set_set, hbyte, HSet.out, ← HF.out] at h2
          rw [hbyte]; exact h2)
        have HB1 : Hid (Below w.heap.size w ((wr.setCell ⟨g, a - 1, none⟩ (.int .u8 (48 + (v : Int) % 16))).setCell ⟨g, a - 1, none⟩ (.int .u8 (97 + (v : Int) % 16 - 10)))) := Lib.hid ((HB.out.setCell HG.out _).setCell HG.out _)
        clear hbyte
        rcases hgo with hgo | hgo
        · have hgo' : (0 : Int) < (v : Int) := by omega
          go_wp2_with fail
          go_roundw
          case rel => exact ⟨v / 16, t + 1, a - 1, vint (by omega), vint (by omega), by omega, by omega, HI2.out.le, HI2, HR1, HB1⟩
          case measure => simp [intOf]; omega
        · have hgo' : (64 : Int) - (least : Int) < (a : Int) := by omega
          by_cases hv0 : v = 0
          · omega
          · have hgo2 : (0 : Int) < (v : Int) := by omega
            go_wp2_with fail
            go_roundw
            case rel => exact ⟨v / 16, t + 1, a - 1, vint (by omega), vint (by omega), by omega, by omega, HI2.out.le, HI2, HR1, HB1⟩
            case measure => simp [intOf]; omega
    · have hv0 : v = 0 := by omega
      subst hv0
      have htl : decide ((64 : Int) - (least : Int) < (a : Int)) = false := by simp; omega
      have HW := Lib.hid (HI.out.done (by omega))
      have hc := HR.out.cells.drop a
      have hlen : (digW 16 n t).length = t := digW_len _ _ _
      have h2 := digRow64_drop (digW 16 n t)
      rw [hlen, show 64 - t = a by omega] at h2
      rw [h2] at hc
      have HC : Hid (Cells wr (some ⟨g, a, none⟩) (((digW 16 n t).map (·.toNat)).map vu8)) := Lib.hid (by rw [← vbs_nat]; simpa using hc)
      have HE : Hid (strOf ((digW 16 n t).map (·.toNat)) = bstr (digW 16 n t)) := Lib.hid (strOf_bytes _)
      have hnl : ((digW 16 n t).map (·.toNat)).length + a = 64 := by simp; omega
      have hn1 : 1 ≤ ((digW 16 n t).map (·.toNat)).length := by simp; omega
      generalize (digW 16 n t).map (·.toNat) = ns at *
      have hsl := fun W => slice64 g a ns.length W hnl hn1
      clear hnl hn1 h2 hc hlen hgo
      go_wp2_with (refine wpList_string_of (ns := ns) Try.underlying37 Try.underlying5 Try.underlying9 HC.out rfl rfl rfl ?_; rw [HE.out])
      exact HP.out _ _ HW.out ht20 HB.out

end Go.Proofs.Ytfedgcdkagngnaa
