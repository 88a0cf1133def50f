/- Regions that draw their order and in which several operations make memory: each such operation leaves a value of which something stable can be said; whatever order is picked, all of it holds at the end, and what they made lies apart. -/
import Derived.Test.YtjgdplengfnkaaaTail
import Derived.OwnWalk
namespace Go.Proofs.Ytjgdplengfnkaaa
open Go.RowKit
set_option linter.unusedVariables false

/-- What is said of an operation's value: between which sizes of the heap its memory was made, in which world. -/
abbrev Spec := Value → Nat → Nat → World → Prop
abbrev Facts := Nat → Option (Value × Nat × Nat)
def Facts.lay (F : Facts) (i : Nat) (x : Value × Nat × Nat) : Facts := fun k => if k = i then some x else F k

def Holds1 (S : Nat → Option Spec) (F : Facts) (x : World) (k : Nat) : Prop := ∀ v lo hi, F k = some (v, lo, hi) → (∃ R, S k = some R ∧ R v lo hi x) ∧ hi ≤ x.heap.size
def Holds (S : Nat → Option Spec) (F : Facts) (x : World) : Prop := ∀ k, Holds1 S F x k
def FApart (F : Facts) : Prop := ∀ i j, i ≠ j → ∀ v lo hi v' lo' hi', F i = some (v, lo, hi) → F j = some (v', lo', hi') → hi ≤ lo' ∨ hi' ≤ lo
def Stable (S : Nat → Option Spec) : Prop := ∀ k R, S k = some R → ∀ v lo hi x y, R v lo hi x → Below x.heap.size x y → R v lo hi y

theorem Facts.lay_comm (F : Facts) {i j : Nat} (h : i ≠ j) (x y : Value × Nat × Nat) : (F.lay i x).lay j y = (F.lay j y).lay i x := by
  funext k
  unfold Facts.lay
  by_cases h1 : k = j
  · subst h1; simp [Ne.symm h]
  · simp [h1]

theorem Holds.get {S : Nat → Option Spec} {F : Facts} {x : World} (h : Holds S F x) {k : Nat} {R : Spec} {v : Value} {lo hi : Nat} (hR : S k = some R) (hF : F k = some (v, lo, hi)) : R v lo hi x ∧ hi ≤ x.heap.size := by
  obtain ⟨⟨R', hR', h1⟩, h2⟩ := h k v lo hi hF
  rw [hR] at hR'
  cases hR'
  exact ⟨h1, h2⟩

theorem Holds.lay {S : Nat → Option Spec} {F : Facts} {x y : World} (hS : Stable S) (h : Holds S F x) (hb : Below x.heap.size x y) {i : Nat} {R : Spec} (hR : S i = some R) {v : Value} (hv : R v x.heap.size y.heap.size y) :
    Holds S (F.lay i (v, x.heap.size, y.heap.size)) y := by
  intro k v' lo hi hk
  unfold Facts.lay at hk
  by_cases e : k = i
  · subst e
    simp at hk
    obtain ⟨rfl, rfl, rfl⟩ := hk
    exact ⟨⟨R, hR, hv⟩, Nat.le_refl _⟩
  · simp [e] at hk
    obtain ⟨⟨R', h1, h2⟩, h3⟩ := h k v' lo hi hk
    exact ⟨⟨R', h1, hS k R' h1 _ _ _ _ _ h2 hb⟩, Nat.le_trans h3 hb.size⟩

theorem FApart.lay {S : Nat → Option Spec} {F : Facts} {x : World} (ha : FApart F) (h : Holds S F x) (i : Nat) (v : Value) (hi : Nat) : FApart (F.lay i (v, x.heap.size, hi)) := by
  intro p q hpq v1 l1 h1 v2 l2 h2 e1 e2
  unfold Facts.lay at e1 e2
  by_cases ep : p = i
  · subst ep
    rw [if_neg (Ne.symm hpq)] at e2
    simp at e1
    obtain ⟨rfl, rfl, rfl⟩ := e1
    exact .inr (h q _ _ _ e2).2
  · rw [if_neg ep] at e1
    by_cases eq : q = i
    · subst eq
      simp at e2
      obtain ⟨rfl, rfl, rfl⟩ := e2
      exact .inl (h p _ _ _ e1).2
    · rw [if_neg eq] at e2
      exact ha p q hpq _ _ _ _ _ _ e1 e2

section
variable {P : Program} {ops : Array Oper} {md : Region.Mode} {C : World → Prop} {S : Nat → Option Spec} {Q : Exit → Act → World → Prop}

/-- What is asked of an operation that makes memory. -/
def growUpon (P : Program) (post : Value → World → Prop) (x : World) : Result Next → Prop
  | .ok (.value u) y => post u y
  | .ok (.enter f args) y => y = x ∧ Calls P f args x (fun e z => ∃ u, e = .returned u ∧ post u z)
  | _ => False

def growAt (P : Program) (R : Spec) (o : Oper) (a : Act) (x : World) : Prop :=
  growUpon P (fun u y => Below x.heap.size x y ∧ R u x.heap.size y.heap.size y) x ((execOp a.eval o).run P x)

def Sat (C : World → Prop) (S : Nat → Option Spec) (F : Facts) : Prop := ∃ x, C x ∧ Holds S F x ∧ FApart F

/-- Facts of what operation i waits for. -/
def HoldsFor (md : Region.Mode) (ops : Array Oper) (S : Nat → Option Spec) (F : Facts) (i : Nat) (x : World) : Prop := ∀ k, waitsFor md ops ops.size i k = true → Holds1 S F x k

def gStep (P : Program) (md : Region.Mode) (ops : Array Oper) (C : World → Prop) (S : Nat → Option Spec) (i : Nat) (o : Oper) (K : Act → Facts → Prop) (a : Act) (F : Facts) : Prop :=
  if Region.wanted o (yielded ops a.tmps) then
    match S i with
    | none => calm o.op = true ∧ ∃ v, (∀ x, C x → (execOp a.eval o).run P x = .ok (.value v) x) ∧ K (a.put o.dst v) F
    | some R => (∀ x, C x → HoldsFor md ops S F i x → growAt P R o a x) ∧ ∀ v lo hi, Sat C S (F.lay i (v, lo, hi)) → K (a.put o.dst v) (F.lay i (v, lo, hi))
  else K (a.put o.dst undef) F

def gOp (P : Program) (md : Region.Mode) (ops : Array Oper) (C : World → Prop) (S : Nat → Option Spec) (i : Nat) (K : Act → Facts → Prop) (a : Act) (F : Facts) : Prop :=
  match ops[i]? with
  | none => K a F
  | some o => gStep P md ops C S i o K a F

theorem gStep_mono {i : Nat} {o : Oper} {K K' : Act → Facts → Prop} {a : Act} {F : Facts} (h : ∀ a F, K a F → K' a F) (hh : gStep P md ops C S i o K a F) : gStep P md ops C S i o K' a F := by
  unfold gStep at *
  split
  · rename_i hw
    rw [if_pos hw] at hh
    cases hS : S i with
    | none =>
      rw [hS] at hh
      obtain ⟨hc, v, h1, h2⟩ := hh
      exact ⟨hc, v, h1, h _ _ h2⟩
    | some R =>
      rw [hS] at hh
      exact ⟨hh.1, fun v lo hi hs => h _ _ (hh.2 v lo hi hs)⟩
  · rename_i hw
    rw [if_neg hw] at hh
    exact h _ _ hh

def wpAnyG (P : Program) (md : Region.Mode) (ops : Array Oper) (C : World → Prop) (S : Nat → Option Spec) (n : Nat) (R : Array Bool → Act → Facts → Prop) : Nat → Array Bool → Act → Facts → Prop
  | 0, listed, a, F => Region.ready md ops listed = [n] ∧ R listed a F
  | fuel + 1, listed, a, F => Region.ready md ops listed ≠ [] ∧ ∀ i ∈ Region.ready md ops listed, gOp P md ops C S i (wpAnyG P md ops C S n R fuel (listed.setIfInBounds i true)) a F

/-- In the real run. -/
theorem wpOp_of_gOp (hS : Stable S) (hC : ∀ x y, C x → Below x.heap.size x y → C y) {i : Nat} {K : Act → Facts → Prop} {K' : Act → World → Prop} {a : Act} {F : Facts} {w : World}
    (h : ∀ a' F' w', C w' → Holds S F' w' → FApart F' → K a' F' → K' a' w') (hw : C w) (hF : Holds S F w) (hA : FApart F) (hh : gOp P md ops C S i K a F) : wpOp P ops Q i K' a w := by
  unfold gOp at hh
  unfold wpOp
  cases ho : ops[i]? with
  | none => rw [ho] at hh; exact h _ _ _ hw hF hA hh
  | some o =>
    rw [ho] at hh
    unfold gStep at hh
    dsimp only at hh ⊢
    split
    · rename_i hwt
      rw [if_pos hwt] at hh
      refine .inl ?_
      unfold Oper.wp
      cases hSi : S i with
      | none =>
        rw [hSi] at hh
        obtain ⟨_, v, h1, h2⟩ := hh
        rw [h1 w hw]
        simp only [Oper.upon]
        exact h _ _ _ hw hF hA h2
      | some R =>
        rw [hSi] at hh
        obtain ⟨h1, h2⟩ := hh
        have h3 := h1 w hw (fun k _ => hF k)
        have go : ∀ u y, Below w.heap.size w y → R u w.heap.size y.heap.size y → K' (a.put o.dst u) y := fun u y hb hr =>
          h _ _ _ (hC _ _ hw hb) (hF.lay hS hb hSi hr) (hA.lay hF i u _) (h2 u _ _ ⟨y, hC _ _ hw hb, hF.lay hS hb hSi hr, hA.lay hF i u _⟩)
        unfold growAt at h3
        cases hr : (execOp a.eval o).run P w with
        | ok nx y =>
          rw [hr] at h3
          cases nx <;> simp only [growUpon] at h3 <;> simp only [Oper.upon]
          · exact go _ _ h3.1 h3.2
          · obtain ⟨rfl, h3⟩ := h3
            exact h3.mono fun e z ⟨u, he, hb, hr⟩ => by subst he; exact go _ _ hb hr
        | halt x y => rw [hr] at h3; simp only [growUpon] at h3
    · rename_i hwt
      rw [if_neg hwt] at hh
      exact h _ _ _ hw hF hA hh

theorem wpAny_of_G (hS : Stable S) (hC : ∀ x y, C x → Below x.heap.size x y → C y) {n m : Nat} {R : Array Bool → Act → Facts → Prop} (hR : ∀ listed a F w, C w → Holds S F w → FApart F → R listed a F → wpAny P md ops Q m listed a w) :
    ∀ (fuel : Nat) (listed : Array Bool) (a : Act) (F : Facts) (w : World), C w → Holds S F w → FApart F → wpAnyG P md ops C S n R fuel listed a F → wpAny P md ops Q (fuel + m) listed a w
  | 0, listed, a, F, w, h1, h2, h3, h => by rw [Nat.zero_add]; exact hR _ _ _ _ h1 h2 h3 h.2
  | fuel + 1, listed, a, F, w, h1, h2, h3, h => by
    rw [show fuel + 1 + m = (fuel + m) + 1 by omega]
    exact ⟨fun h0 => absurd h0 h.1, fun i hi => wpOp_of_gOp hS hC (fun a' F' w' c1 c2 c3 h' => wpAny_of_G hS hC hR fuel _ a' F' w' c1 c2 c3 h') h1 h2 h3 (h.2 i hi)⟩

/-- Some outcome there is. -/
theorem growAt_sat (hS : Stable S) (hC : ∀ x y, C x → Below x.heap.size x y → C y) {i : Nat} {R : Spec} {o : Oper} {a : Act} {F : Facts} {x : World} (hx : C x) (hF : Holds S F x) (hA : FApart F) (hR : S i = some R) (h : growAt P R o a x) :
    ∃ v lo hi, Sat C S (F.lay i (v, lo, hi)) := by
  have go : ∀ u y, Below x.heap.size x y → R u x.heap.size y.heap.size y → ∃ v lo hi, Sat C S (F.lay i (v, lo, hi)) := fun u y hb hr => ⟨u, _, _, y, hC _ _ hx hb, hF.lay hS hb hR hr, hA.lay hF i u _⟩
  unfold growAt at h
  cases hr : (execOp a.eval o).run P x with
  | ok nx y =>
    rw [hr] at h
    cases nx <;> simp only [growUpon] at h
    · exact go _ _ h.1 h.2
    · obtain ⟨_, h⟩ := h
      obtain ⟨e, w', fr, ⟨u, _, hb, hr⟩, _⟩ := h []
      exact go _ _ hb hr
  | halt x' y => rw [hr] at h; simp only [growUpon] at h

theorem HoldsFor.unlay {F : Facts} {i j : Nat} {x : World} {t : Value × Nat × Nat} (hw : waitsFor md ops ops.size j i = false) (h : HoldsFor md ops S F j x) : HoldsFor md ops S (F.lay i t) j x := by
  intro k hk
  have hki : k ≠ i := fun e => by rw [e, hw] at hk; cases hk
  intro v lo hi hF
  unfold Facts.lay at hF
  rw [if_neg hki] at hF
  exact h k hk v lo hi hF
theorem HoldsFor.relay {F : Facts} {i j : Nat} {x : World} {t : Value × Nat × Nat} (hw : waitsFor md ops ops.size j i = false) (h : HoldsFor md ops S (F.lay i t) j x) : HoldsFor md ops S F j x := by
  intro k hk
  have hki : k ≠ i := fun e => by rw [e, hw] at hk; cases hk
  intro v lo hi hF
  exact h k hk v lo hi (by unfold Facts.lay; rw [if_neg hki]; exact hF)

/-- Facts of a part that can be met. -/
theorem Sat.sub {F : Facts} {i : Nat} {t : Value × Nat × Nat} (hi : F i = none) (h : Sat C S (F.lay i t)) : Sat C S F := by
  obtain ⟨x, h1, h2, h3⟩ := h
  have key : ∀ k v, F k = some v → (F.lay i t) k = some v := by
    intro k v hk
    unfold Facts.lay
    by_cases e : k = i
    · subst e; rw [hi] at hk; cases hk
    · rw [if_neg e]; exact hk
  exact ⟨x, h1, fun k v lo hi' hk => h2 k v lo hi' (key _ _ hk), fun p q hpq v lo hi' v' lo' hi'' e1 e2 => h3 p q hpq _ _ _ _ _ _ (key _ _ e1) (key _ _ e2)⟩

/-- One step j, apart from step i, which has not come up: what it does behind i, it does ahead of i. -/
theorem gOp_swap (hS : Stable S) (hC : ∀ x y, C x → Below x.heap.size x y → C y) {i j : Nat} {oi oj : Oper} (hij : j ≠ i) (hi : ops[i]? = some oi) (hj : ops[j]? = some oj) (hap : oi.apart ops oj = true)
    (hsi : ∀ cs b, oi.op ≠ .select cs b) (hsj : ∀ cs b, oj.op ≠ .select cs b) (hw1 : waitsFor md ops ops.size j i = false) {K : Act → Facts → Prop} {a : Act} {F : Facts} (hsat : Sat C S F) (hFi : F i = none) (hFj : F j = none)
    (hh : gStep P md ops C S i oi (gOp P md ops C S j K) a F) :
    gOp P md ops C S j (fun a' F' => Sat C S F' → F' i = none → gStep P md ops C S i oi K a' F') a F := by
  obtain ⟨h1, h2, h3⟩ := Oper.apart_spec hap
  have lay_i : ∀ t, (F.lay j t) i = none := fun t => by unfold Facts.lay; rw [if_neg (Ne.symm hij)]; exact hFi
  obtain ⟨x0, hx0, hF0, hA0⟩ := hsat
  unfold gOp at *
  simp only [hj] at *
  unfold gStep at hh
  by_cases hwi : Region.wanted oi (yielded ops a.tmps) = true
  · rw [if_pos hwi] at hh
    have wi : ∀ u, Region.wanted oi (yielded ops (a.put oj.dst u).tmps) = true := fun u => by rw [wanted_put oi a oj.dst u h3]; exact hwi
    cases hSi : S i with
    | none =>
      rw [hSi] at hh
      obtain ⟨hcal, v, hv, hK⟩ := hh
      try unfold gStep at hK
      rw [wanted_put oj a oi.dst v h1] at hK
      unfold gStep
      by_cases hwj : Region.wanted oj (yielded ops a.tmps) = true
      · rw [if_pos hwj] at hK ⊢
        cases hSj : S j with
        | none =>
          rw [hSj] at hK
          obtain ⟨hcj, u, hu, hK⟩ := hK
          refine ⟨hcj, u, fun x hx => ?_, fun _ _ => ?_⟩
          · have := hu x hx; rwa [execOp_put oj hsj a oi.dst v h1] at this
          · rw [if_pos (wi u), hSi]
            exact ⟨hcal, v, fun x hx => by rw [execOp_put oi hsi a oj.dst u h3]; exact hv x hx, by rw [← Act.put_comm a v u h2]; exact hK⟩
        | some R =>
          rw [hSj] at hK
          obtain ⟨hob, hK⟩ := hK
          refine ⟨fun x hx hh => ?_, fun u lo hi hs _ _ => ?_⟩
          · have := hob x hx hh; unfold growAt at *; rwa [execOp_put oj hsj a oi.dst v h1] at this
          · rw [if_pos (wi u), hSi]
            exact ⟨hcal, v, fun x hx => by rw [execOp_put oi hsi a oj.dst u h3]; exact hv x hx, by rw [← Act.put_comm a v u h2]; exact hK u lo hi hs⟩
      · rw [if_neg hwj] at hK ⊢
        intro _ _
        rw [if_pos (wi undef), hSi]
        exact ⟨hcal, v, fun x hx => by rw [execOp_put oi hsi a oj.dst undef h3]; exact hv x hx, by rw [← Act.put_comm a v undef h2]; exact hK⟩
    | some Ri =>
      rw [hSi] at hh
      obtain ⟨hobi, hK⟩ := hh
      obtain ⟨v0, lo0, hi0, hs0⟩ := growAt_sat hS hC hx0 hF0 hA0 hSi (hobi x0 hx0 (fun k _ => hF0 k))
      have hobi' : ∀ t x, C x → HoldsFor md ops S (F.lay j t) i x → HoldsFor md ops S F i x := by
        intro t x _ hh k hk v lo hi hF
        by_cases e : k = j
        · subst e; rw [hFj] at hF; cases hF
        · exact hh k hk v lo hi (by unfold Facts.lay; rw [if_neg e]; exact hF)
      try unfold gStep at hK
      dsimp only at hK
      unfold gStep
      by_cases hwj : Region.wanted oj (yielded ops a.tmps) = true
      · rw [if_pos hwj]
        cases hSj : S j with
        | none =>
          have hK0 := hK v0 lo0 hi0 hs0
          rw [wanted_put oj a oi.dst v0 h1, if_pos hwj, hSj] at hK0
          obtain ⟨hcj, u, hu, _⟩ := hK0
          have hu' : ∀ x, C x → (execOp a.eval oj).run P x = .ok (.value u) x := fun x hx => by have := hu x hx; rwa [execOp_put oj hsj a oi.dst v0 h1] at this
          refine ⟨hcj, u, hu', fun _ _ => ?_⟩
          rw [if_pos (wi u), hSi]
          refine ⟨fun x hx hh => ?_, fun v lo hi hs => ?_⟩
          · have := hobi x hx hh; unfold growAt at *; rwa [execOp_put oi hsi a oj.dst u h3]
          · have hK1 := hK v lo hi hs
            rw [wanted_put oj a oi.dst v h1, if_pos hwj, hSj] at hK1
            obtain ⟨_, u1, hu1, hK1⟩ := hK1
            have e : u1 = u := by
              have a1 := hu1 x0 hx0
              rw [execOp_put oj hsj a oi.dst v h1, hu' x0 hx0] at a1
              injection a1 with a1
              injection a1 with a1
              exact a1.symm
            subst e
            rw [← Act.put_comm a v u1 h2]
            exact hK1
        | some Rj =>
          have hK0 := hK v0 lo0 hi0 hs0
          rw [wanted_put oj a oi.dst v0 h1, if_pos hwj, hSj] at hK0
          obtain ⟨hobj, _⟩ := hK0
          refine ⟨fun x hx hh => ?_, fun u lo hi _ _ _ => ?_⟩
          · have := hobj x hx (hh.unlay hw1); unfold growAt at *; rwa [execOp_put oj hsj a oi.dst v0 h1] at this
          · rw [if_pos (wi u), hSi]
            refine ⟨fun x hx hh => ?_, fun v lo' hi' hs => ?_⟩
            · have := hobi x hx (hobi' _ x hx hh); unfold growAt at *; rwa [execOp_put oi hsi a oj.dst u h3]
            · rw [Facts.lay_comm _ hij] at hs ⊢
              have hn : (F.lay i (v, lo', hi')) j = none := by unfold Facts.lay; rw [if_neg hij]; exact hFj
              have hK1 := hK v lo' hi' (hs.sub hn)
              rw [wanted_put oj a oi.dst v h1, if_pos hwj, hSj] at hK1
              rw [← Act.put_comm a v u h2]
              exact hK1.2 u lo hi hs
      · rw [if_neg hwj]
        intro _ _
        rw [if_pos (wi undef), hSi]
        refine ⟨fun x hx hh => ?_, fun v lo hi hs => ?_⟩
        · have := hobi x hx hh; unfold growAt at *; rwa [execOp_put oi hsi a oj.dst undef h3]
        · have hK1 := hK v lo hi hs
          rw [wanted_put oj a oi.dst v h1, if_neg hwj] at hK1
          rw [← Act.put_comm a v undef h2]
          exact hK1
  · rw [if_neg hwi] at hh
    have wi : ∀ u, ¬ Region.wanted oi (yielded ops (a.put oj.dst u).tmps) = true := fun u => by rw [wanted_put oi a oj.dst u h3]; exact hwi
    try unfold gStep at hh
    rw [wanted_put oj a oi.dst undef h1] at hh
    unfold gStep
    by_cases hwj : Region.wanted oj (yielded ops a.tmps) = true
    · rw [if_pos hwj] at hh ⊢
      cases hSj : S j with
      | none =>
        rw [hSj] at hh
        obtain ⟨hcj, u, hu, hK⟩ := hh
        refine ⟨hcj, u, fun x hx => by have := hu x hx; rwa [execOp_put oj hsj a oi.dst undef h1] at this, fun _ _ => ?_⟩
        rw [if_neg (wi u), ← Act.put_comm a undef u h2]; exact hK
      | some R =>
        rw [hSj] at hh
        obtain ⟨hob, hK⟩ := hh
        refine ⟨fun x hx hh => by have := hob x hx hh; unfold growAt at *; rwa [execOp_put oj hsj a oi.dst undef h1] at this, fun u lo hi hs _ _ => ?_⟩
        rw [if_neg (wi u), ← Act.put_comm a undef u h2]; exact hK u lo hi hs
    · rw [if_neg hwj] at hh ⊢
      intro _ _
      rw [if_neg (wi undef), ← Act.put_comm a undef undef h2]; exact hh

/-- Nothing is said of what has not come up. -/
def Fresh (F : Facts) (listed : Array Bool) : Prop := ∀ k, listed.getD k true = false → F k = none

theorem gOp_keep {i : Nat} {K K' : Act → Facts → Prop} {a : Act} {F : Facts} (hs : Sat C S F) (h : ∀ a' F', Sat C S F' → (∀ k, k ≠ i → F' k = F k) → K a' F' → K' a' F') (hh : gOp P md ops C S i K a F) : gOp P md ops C S i K' a F := by
  unfold gOp at *
  cases ho : ops[i]? with
  | none => rw [ho] at hh; exact h _ _ hs (fun _ _ => rfl) hh
  | some o =>
    rw [ho] at hh
    dsimp only at *
    unfold gStep at *
    split
    · rename_i hw
      rw [if_pos hw] at hh
      cases hS : S i with
      | none =>
        rw [hS] at hh
        obtain ⟨hc, v, h1, h2⟩ := hh
        exact ⟨hc, v, h1, h _ _ hs (fun _ _ => rfl) h2⟩
      | some R =>
        rw [hS] at hh
        exact ⟨hh.1, fun v lo hi hs' => h _ _ hs' (fun k hk => by unfold Facts.lay; rw [if_neg hk]) (hh.2 v lo hi hs')⟩
    · rename_i hw
      rw [if_neg hw] at hh
      exact h _ _ hs (fun _ _ => rfl) hh

theorem wpAnyG_first (hS : Stable S) (hC : ∀ x y, C x → Below x.heap.size x y → C y) {n i : Nat} {R : Array Bool → Act → Facts → Prop} {oi : Oper} (hi : ops[i]? = some oi) (hsel : ∀ (j : Nat) (o : Oper) cs b, ops[j]? = some o → o.op ≠ .select cs b)
    (hc : ∀ k, k < n → heir md ops n k = true) (hin : i < n) :
    ∀ (fuel : Nat) (listed : Array Bool) (a : Act) (F : Facts),
      (∀ j oj, ops[j]? = some oj → j ≠ i → listed.getD j true = false → (∀ e ∈ oj.after, Region.binds md e = true → e.on ≠ i) → oi.apart ops oj = true) →
      i ∈ Region.ready md ops listed → Shut md ops listed → Sat C S F → Fresh F listed →
      gStep P md ops C S i oi (wpAnyG P md ops C S n R fuel (listed.setIfInBounds i true)) a F → wpAnyG P md ops C S n R (fuel + 1) listed a F := by
  intro fuel
  induction fuel with
  | zero =>
    intro listed a F _ hr hsh hsat hfr H
    refine ⟨fun h => (by rw [h] at hr; cases hr), fun j hj => ?_⟩
    by_cases hji : j = i
    · subst hji; unfold gOp; simp only [hi]; exact H
    · exfalso
      have hrn : Region.ready md ops (listed.setIfInBounds i true) = [n] := by
        obtain ⟨x, hx, hF, hA⟩ := hsat
        unfold gStep at H
        split at H
        · cases hSi : S i with
          | none => rw [hSi] at H; obtain ⟨_, v, _, h⟩ := H; exact h.1
          | some Ri =>
            rw [hSi] at H
            obtain ⟨v, lo, hi', hs⟩ := growAt_sat hS hC hx hF hA hSi (H.1 x hx (fun k _ => hF k))
            exact (H.2 v lo hi' hs).1
        · exact H.1
      have := ready_mono hj hji
      rw [hrn] at this
      have hjn : j = n := by simpa using this
      subst hjn
      obtain ⟨_, oj, hoj, hall⟩ := mem_ready.1 hj
      have h1 := heir_listed hc hsh hoj hall (j - i) i (by omega) (by omega)
      have h0 := (mem_ready.1 hr).1
      rcases Nat.lt_or_ge i listed.size with h' | h'
      · simp [h'] at h0 h1; rw [h0] at h1; cases h1
      · simp [Array.getElem?_eq_none h'] at h1
  | succ fuel ih =>
    intro listed a F hfree hr hsh hsat hfr H
    refine ⟨fun h => (by rw [h] at hr; cases hr), fun j hj => ?_⟩
    by_cases hji : j = i
    · subst hji; unfold gOp; simp only [hi]; exact H
    · obtain ⟨hjun, oj, hoj, hall⟩ := mem_ready.1 hj
      have hiun0 := (mem_ready.1 hr).1
      have hiun : listed.getD i false = false := by
        rcases Nat.lt_or_ge i listed.size with h' | h'
        · simp [h'] at hiun0 ⊢; exact hiun0
        · simp [Array.getElem?_eq_none h']
      have hnot : ∀ e ∈ oj.after, Region.binds md e = true → e.on ≠ i := fun e he hb heq => by
        have h1 := hall e he hb
        rw [heq, hiun] at h1
        cases h1
      have hwf : waitsFor md ops ops.size j i = false := by
        cases hq : waitsFor md ops ops.size j i with
        | false => rfl
        | true =>
          have := waitsFor_listed hsh ops.size j i oj hoj hall hq
          rw [hiun] at this
          cases this
      have H' : gStep P md ops C S i oi (gOp P md ops C S j (wpAnyG P md ops C S n R fuel ((listed.setIfInBounds i true).setIfInBounds j true))) a F :=
        gStep_mono (fun a' F' h => h.2 j (ready_mono hj hji)) H
      have h2 := gOp_swap hS hC hji hi hoj (hfree j oj hoj hji hjun hnot) (fun cs b => hsel i oi cs b hi) (fun cs b => hsel j oj cs b hoj) hwf hsat (hfr i hiun0) (hfr j hjun) H'
      have hfree' : ∀ k ok, ops[k]? = some ok → k ≠ i → (listed.setIfInBounds j true).getD k true = false →
          (∀ e ∈ ok.after, Region.binds md e = true → e.on ≠ i) → oi.apart ops ok = true := fun k ok hk hki hun hno => by
        refine hfree k ok hk hki ?_ hno
        by_cases hjk : j = k
        · subst hjk; exact hjun
        · rw [getD_set_ne true hjk] at hun; exact hun
      refine gOp_keep hsat (fun a' F' hs' hF' h3 => ih (listed.setIfInBounds j true) a' F' hfree' (ready_mono hr (Ne.symm hji)) (hsh.set hj) hs' ?_ ?_) h2
      · intro k hk
        by_cases hjk : j = k
        · subst hjk
          exfalso
          have : (listed.setIfInBounds j true).getD j true = true := by
            rcases Nat.lt_or_ge j listed.size with h' | h'
            · simp [h']
            · simp [Array.getElem?_eq_none, h']
          rw [this] at hk
          cases hk
        · rw [getD_set_ne true hjk] at hk
          rw [hF' k (Ne.symm hjk)]
          exact hfr k hk
      · rw [Array.setIfInBounds_comm _ _ hji]
        exact h3 hs' (by rw [hF' i (Ne.symm hji)]; exact hfr i hiun0)

/-- The walk in the text's order. -/
def wpGrow (P : Program) (md : Region.Mode) (ops : Array Oper) (C : World → Prop) (S : Nat → Option Spec) (Fin : Act → Facts → Prop) : List Oper → Nat → Act → Facts → Prop
  | [], _, a, F => Fin a F
  | o :: rest, k, a, F => gStep P md ops C S k o (wpGrow P md ops C S Fin rest (k + 1)) a F

theorem grow_ok (hS : Stable S) (hC : ∀ x y, C x → Below x.heap.size x y → C y) {n : Nat} (hs : Region.noSelect ops = true) (hc : ∀ k, k < n → heir md ops n k = true) {Fin : Act → Facts → Prop} : ∀ (m : Nat) (l : List Oper) (k : Nat) (listed : Array Bool) (a : Act) (F : Facts), (∀ j, l[j]? = ops[k + j]?) → k + m = n → Shut md ops listed → Sat C S F → Fresh F listed → preFrom md ops n m k listed = true →
      wpGrow P md ops C S Fin (l.take m) k a F →
      wpAnyG P md ops C S n (fun listed a' F' => tailFrom md ops (ops.size - n) n listed = true ∧ Fin a' F') m listed a F := by
  intro m
  induction m with
  | zero =>
    intro l k listed a F _ _ _ _ _ hB h
    simp only [preFrom, Bool.and_eq_true, beq_iff_eq] at hB
    exact ⟨hB.1, hB.2, by simpa [wpGrow] using h⟩
  | succ m ih =>
    intro l k listed a F hl hk hsh hsat hfr hB h
    simp only [preFrom, Bool.and_eq_true] at hB
    obtain ⟨⟨hr, hf⟩, hB'⟩ := hB
    have hrk : k ∈ Region.ready md ops listed := by simpa using hr
    obtain ⟨hun, o0, ho0, _⟩ := mem_ready.1 hrk
    cases l with
    | nil =>
      have : ops[k]? = none := by simpa using (hl 0).symm
      rw [this] at ho0
      cases ho0
    | cons o l =>
      have h0 : ops[k]? = some o := by simpa using (hl 0).symm
      simp only [List.take_succ_cons, wpGrow] at h
      refine wpAnyG_first hS hC h0 (Region.noSelect_spec hs) hc (by omega) m listed a F (Region.free_spec h0 hf) hrk hsh hsat hfr ?_
      have h' : gOp P md ops C S k (wpGrow P md ops C S Fin (l.take m) (k + 1)) a F := by unfold gOp; simp only [h0]; exact h
      have := gOp_keep hsat (fun a' F' hs' hF' h3 => ih l (k + 1) (listed.setIfInBounds k true) a' F' (fun j => by have := hl (j + 1); simpa [Nat.add_assoc, Nat.add_comm 1 j] using this) (by omega) (hsh.set hrk) hs' ?_ hB' h3) h'
      · unfold gOp at this; simp only [h0] at this; exact this
      · intro j hj
        by_cases e : k = j
        · subst e
          exfalso
          have : (listed.setIfInBounds k true).getD k true = true := by
            rcases Nat.lt_or_ge k listed.size with h' | h'
            · simp [h']
            · simp [Array.getElem?_eq_none, h']
          rw [this] at hj
          cases hj
        · rw [getD_set_ne true e] at hj
          rw [hF' j (Ne.symm e)]
          exact hfr j hj

/-- One walk in the text's order serves every order: n operations, of which some make memory; then the rest, one by one. -/
theorem wp_region_grow {id : Nat} {a : Act} {w : World} {l : List Oper} (n : Nat) (S : Nat → Option Spec) (hS : Stable S) (hn : n ≤ l.length) (hm : P.follows .mixedOrders = true) (hB : preB .any l.toArray n = true)
    (h : wpGrow P .any l.toArray (fun w' => ∃ x : Later w, w' = x.val) S (fun a' F => ∀ w', (∃ x : Later w, w' = x.val) → Holds S F w' → FApart F → wpList P l.toArray Q (l.drop n) a' w') (l.take n) 0 a (fun _ => none)) :
    (Code.region id l.toArray true).wp P Q a w := by
  simp only [preB, Bool.and_eq_true] at hB
  refine wp_region_any hm ?_
  have hC : ∀ x y : World, (∃ z : Later w, x = z.val) → Below x.heap.size x y → (∃ z : Later w, y = z.val) := by
    rintro x y ⟨z, rfl⟩ hb
    exact ⟨⟨y, z.below.trans (hb.mono z.below.size)⟩, rfl⟩
  have hC0 : ∃ x : Later w, w.drew = x.val := ⟨⟨w.drew, (Below.refl _ _).drew⟩, rfl⟩
  have hH0 : Holds S (fun _ => none) w.drew := fun k v lo hi hk => by cases hk
  have hA0 : FApart (fun _ => none) := fun i j _ v lo hi v' lo' hi' hk => by cases hk
  have h1 := grow_ok (md := .any) (n := n) hS hC hB.1.1 (fun k hk => by have := hB.1.2; simp only [List.all_eq_true, List.mem_range] at this; exact this k hk) n l 0 (Array.replicate l.toArray.size false) a (fun _ => none) (by simp) (by omega) (shut_none _) ⟨_, hC0, hH0, hA0⟩ (fun _ _ => rfl) hB.2 h
  have h2 := wpAny_of_G (Q := Q) (m := (l.drop n).length) hS hC (fun listed a' F w' hw' c2 c3 ⟨ht, hk⟩ => wpAny_of_F (C := fun _ => True) (loose := looseAt l.toArray n) _ _ _ _
    (tail_ok (n := n) (fun _ _ _ => trivial) (l.drop n) n listed a' w' (by simp) (Nat.le_refl _) (fun _ => trivial) (by simpa using ht) (hk w' hw' c2 c3))) n _ a _ w.drew hC0 hH0 hA0 h1
  have e : n + (l.drop n).length = l.toArray.size := by simp; omega
  rw [e] at h2
  exact h2

/-- Operations that only read: by the walk for such. -/
theorem wpGrow_calm {Fin : Act → Facts → Prop} {o : Oper} {rest : List Oper} {k : Nat} {a : Act} {F : Facts} (hk : S k = none) (hcal : calm o.op = true)
    (h : wpQuiet P ops C (fun a' => wpGrow P md ops C S Fin rest (k + 1) a' F) [o] a) : wpGrow P md ops C S Fin (o :: rest) k a F := by
  unfold wpGrow gStep
  unfold wpQuiet at h
  by_cases hw : Region.wanted o (yielded ops a.tmps) = true
  · rw [if_pos hw] at h ⊢
    rw [hk]
    obtain ⟨v, h1, h2⟩ := h
    refine ⟨hcal, v, fun x hx => ?_, h2⟩
    have h3 := h1 x hx
    unfold Oper.quietAt at h3
    cases hq : (execOp a.eval o).run P x with
    | ok nx w2 =>
      obtain ⟨u, rfl⟩ := calm_value hcal hq
      rw [hq] at h3
      simp only [Oper.quietUpon] at h3
      rw [h3.1, h3.2]
    | halt x' w2 => rw [hq] at h3; simp only [Oper.quietUpon] at h3
  · rw [if_neg hw] at h ⊢
    exact h

/-- A call that makes memory. -/
theorem wpGrow_call {Fin : Act → Facts → Prop} {o : Oper} {rest : List Oper} {k : Nat} {a : Act} {F : Facts} {R : Spec} {f : FuncId} {args : Array Operand} {tys : Array TypeId} {vs : Array Value} (hk : S k = some R) (hg : o.guard = none) (ho : o.op = .call { callee := .value (.func f), args := args, argTypes := tys })
    (hv : args.map a.eval = vs) (hf : ∀ vs x, (callFunc f vs).run P x = .ok (.enter f vs) x)
    (h1 : ∀ x, C x → HoldsFor md ops S F k x → Calls P f vs x fun e z => ∃ u, e = .returned u ∧ Below x.heap.size x z ∧ R u x.heap.size z.heap.size z)
    (h2 : ∀ v lo hi, wpGrow P md ops C S Fin rest (k + 1) (a.put o.dst v) (F.lay k (v, lo, hi))) : wpGrow P md ops C S Fin (o :: rest) k a F := by
  unfold wpGrow gStep
  have hw : Region.wanted o (yielded ops a.tmps) = true := by simp [Region.wanted, hg]
  rw [if_pos hw, hk]
  refine ⟨fun x hx hh => ?_, fun v lo hi _ => h2 v lo hi⟩
  unfold growAt
  have e : (execOp a.eval o).run P x = .ok (.enter f vs) x := by
    subst hv
    simp [execOp, ho, resolve, invoke, Act.eval, Deferred.ofValue, hf]
  rw [e]
  exact ⟨rfl, h1 x hx hh⟩

/-- Any operation that makes memory, its run known. -/
theorem wpGrow_run {Fin : Act → Facts → Prop} {o : Oper} {rest : List Oper} {k : Nat} {a : Act} {F : Facts} {R : Spec} (hk : S k = some R) (hg : o.guard = none)
    (h1 : ∀ x, C x → ∃ u z, (execOp a.eval o).run P x = .ok (.value u) z ∧ Below x.heap.size x z ∧ R u x.heap.size z.heap.size z)
    (h2 : ∀ v lo hi, wpGrow P md ops C S Fin rest (k + 1) (a.put o.dst v) (F.lay k (v, lo, hi))) : wpGrow P md ops C S Fin (o :: rest) k a F := by
  unfold wpGrow gStep
  have hw : Region.wanted o (yielded ops a.tmps) = true := by simp [Region.wanted, hg]
  rw [if_pos hw, hk]
  refine ⟨fun x hx _ => ?_, fun v lo hi _ => h2 v lo hi⟩
  obtain ⟨u, z, e, hb, hr⟩ := h1 x hx
  unfold growAt
  rw [e]
  exact ⟨hb, hr⟩

/-- 'make([]T, n)', T of one cell. -/
theorem run_make_len {w : World} {a : Act} {o : Oper} {l c : Operand} {t e : TypeId} {z : Value} {bytes : Nat} (E : Elem P t e z 1 bytes) (n : Nat) {kl kc : IntKind} {L D : Int} (hz : z.cells = #[z])
    (hL : L = (n : Int)) (hD : D = (n : Int)) (hn : n < 1000000000000) (hby : bytes ≤ 64) (ho : o.op = .makeSlice t l c) (hl : a.eval l = .int kl L) (hc : a.eval c = .int kc D) :
    ∃ u y, (execOp a.eval o).run P w = .ok (.value u) y ∧ Below w.heap.size w y ∧ y.ownsRow w.heap.size e 1 u n (List.replicate n z) ∧ u = .slice (some ⟨w.heap.size, 0, none⟩) n n := by
  obtain ⟨i, i1, i2, i3, i4⟩ := E.info
  have b2 : i.bytes * n ≤ 281474976710656 := by
    rw [i4]
    have : bytes * n ≤ 64 * 1000000000000 := Nat.mul_le_mul hby (by omega)
    omega
  obtain ⟨w', hrun, r1, r2⟩ := run_make_full (P := P) w w.heap.size t e i z 1 E.under i1 i2 i3 kl kc n b2 (by unfold maxLen; omega) (Nat.le_refl _)
  rw [made_cells z n hz] at r1
  subst hL
  subst hD
  refine ⟨_, w', ?_, below_grown r2 (Nat.le_refl _), r1, rfl⟩
  simp [execOp, ho, hl, hc, hrun, Result.andThen]

end
end Go.Proofs.Ytjgdplengfnkaaa
