/- Parts of the proof, one behind the other: Mx, Tr, Ja, Jb, Jc, Sl, Jd, Je, Jf, Jg, Jh, Ji. -/
import Derived.Test.YtlaaamaaabcfeaaDoorM1
import Derived.Deep.CutRange
import Derived.Deep.QuietTactic
import Derived.BigQuiet
import Derived.Shelf.Strings.Split
import Derived.Test.YtlaaamaaabcfeaaDoorProg
import Derived.Lib.SplitLaws

/- Regions that draw their order, in segments: reading operations that may float are taken as early as they can; all others come one behind the other. One walk serves every order. -/
namespace Go.Proofs.YtlaaamaaabcfeaaDoor
open Go.RowKit
set_option linter.unusedVariables false

/-- A segment: reading operations that float; or operations one by one (lo: is its last one loose?). -/
inductive Seg where
  | fl (ks : List Nat)
  | sq (ks : List Nat) (lo : Bool)
inductive SegO where
  | fl (os : List Oper)
  | sq (os : List Oper) (lo : Bool)

section
variable {P : Program} {ops : Array Oper} {md : Region.Mode} {C : World → Prop} {Q : Exit → Act → World → Prop}

def picks (l : List Oper) : List Nat → List Oper
  | [] => []
  | k :: ks => match l[k]? with
    | some o => o :: picks l ks
    | none => picks l ks
def segs (l : List Oper) : List Seg → List SegO
  | [] => []
  | .fl ks :: r => .fl (picks l ks) :: segs l r
  | .sq ks lo :: r => .sq (picks l ks) lo :: segs l r

def flFrom (md : Region.Mode) (ops : Array Oper) : List Nat → Array Bool → Bool × Array Bool
  | [], listed => (true, listed)
  | k :: ks, listed => match ops[k]? with
    | none => (false, listed)
    | some o => let r := flFrom md ops ks (listed.setIfInBounds k true)
      (calm o.op && (Region.ready md ops listed).contains k && Region.free md ops listed k && ((List.range ops.size).all fun j => j == k || listed.getD j true || waitsFor md ops ops.size j k || looseOf md ops j) && r.1, r.2)
def sqFrom (md : Region.Mode) (ops : Array Oper) (lo : Bool) : List Nat → Array Bool → Bool × Array Bool
  | [], listed => (true, listed)
  | k :: ks, listed => match ops[k]? with
    | none => (false, listed)
    | some _ => let r := sqFrom md ops lo ks (listed.setIfInBounds k true)
      (Region.ready md ops listed == [k] && (!looseOf md ops k || (lo && ks.isEmpty)) && r.1, r.2)
def segFrom (md : Region.Mode) (ops : Array Oper) : List Seg → Array Bool → Bool
  | [], listed => (Region.ready md ops listed).isEmpty
  | .fl ks :: r, listed => let x := flFrom md ops ks listed; x.1 && segFrom md ops r x.2
  | .sq ks lo :: r, listed => let x := sqFrom md ops lo ks listed; x.1 && segFrom md ops r x.2
def segLen : List Seg → Nat
  | [] => 0
  | .fl ks :: r => segLen r + ks.length
  | .sq ks _ :: r => segLen r + ks.length
def segB (md : Region.Mode) (ops : Array Oper) (is : List Seg) : Bool := Region.noSelect ops && segLen is == ops.size && segFrom md ops is (Array.replicate ops.size false)

/-- The walk. -/
def wpSeg (P : Program) (ops : Array Oper) (C : World → Prop) (Q : Exit → Act → World → Prop) : List SegO → Act → World → Prop
  | [], a, w => Q .normal a w
  | .fl os :: r, a, w => C w ∧ wpQuiet P ops C (fun a' => wpSeg P ops C Q r a' w) os a
  | .sq os lo :: r, a, w => wpList P ops (Exit.then (fun a' w' => (lo = true → C w') ∧ wpSeg P ops C Q r a' w') Q) os a w

theorem fl_ok (hs : Region.noSelect ops = true) (hQ : ∀ c a d v w, Q (.panic c) (a.put d v) w → Q (.panic c) a w) {m : Nat} {R : Act → Prop} {w : World} (hC : C w) : ∀ (ks : List Nat) (listed : Array Bool) (a : Act), Shut md ops listed → (flFrom md ops ks listed).1 = true →
    (∀ a', Shut md ops (flFrom md ops ks listed).2 → R a' → wpAnyF P md ops Q C (looseOf md ops) m (flFrom md ops ks listed).2 a' w) →
    wpQuiet P ops C R (picks ops.toList ks) a → wpAnyF P md ops Q C (looseOf md ops) (m + ks.length) listed a w := by
  intro ks
  induction ks with
  | nil =>
    intro listed a hsh _ hR h
    exact hR a hsh (by simpa [picks, wpQuiet] using h)
  | cons k ks ih =>
    intro listed a hsh hB hR h
    cases hk : ops[k]? with
    | none => simp [flFrom, hk] at hB
    | some o =>
      have e : picks ops.toList (k :: ks) = o :: picks ops.toList ks := by simp [picks, hk]
      rw [e] at h
      simp only [flFrom, hk, Bool.and_eq_true] at hB hR
      obtain ⟨⟨⟨⟨hc, hr⟩, hf⟩, hlo⟩, hB'⟩ := hB
      have hrk : k ∈ Region.ready md ops listed := by simpa using hr
      obtain ⟨v, hy, hK⟩ : ∃ v, Stays P ops C o v a ∧ wpQuiet P ops C R (picks ops.toList ks) (a.put o.dst v) := by
        unfold wpQuiet at h
        by_cases hw : Region.wanted o (yielded ops a.tmps) = true
        · rw [if_pos hw] at h
          obtain ⟨v, h1, h2⟩ := h
          refine ⟨v, .inl ⟨hw, fun x hx => ?_⟩, h2⟩
          have h3 := h1 x hx
          unfold Oper.quietAt at h3
          cases hq : (execOp a.eval o).run P x with
          | ok nx w2 =>
            obtain ⟨u, rfl⟩ := calm_value hc hq
            rw [hq] at h3
            simp only [Oper.quietUpon] at h3
            rw [h3.1, h3.2]
          | halt x' w2 => rw [hq] at h3; simp only [Oper.quietUpon] at h3
        · rw [if_neg hw] at h
          exact ⟨undef, .inr ⟨by simpa using hw, rfl⟩, h⟩
      refine wpAnyF_early (f := ops.size) hk (Region.noSelect_spec hs) hQ (m + ks.length) listed a w ?_ (Region.free_spec hk hf) hrk hsh hy hC (ih _ _ (hsh.set hrk) hB' hR hK)
      intro j oj hj hjk hun
      simp only [List.all_eq_true, List.mem_range, Bool.or_eq_true, beq_iff_eq] at hlo
      rcases hlo j (Array.getElem?_eq_some_iff.1 hj).1 with ((h | h) | h) | h
      · exact absurd h hjk
      · rw [hun] at h; cases h
      · exact .inl h
      · exact .inr h

theorem sq_ok {m : Nat} {lo : Bool} {R : Act → World → Prop} : ∀ (ks : List Nat) (listed : Array Bool) (a : Act) (w : World), Shut md ops listed → (sqFrom md ops lo ks listed).1 = true →
    (∀ a' w', Shut md ops (sqFrom md ops lo ks listed).2 → (lo = true → C w') → R a' w' → wpAnyF P md ops Q C (looseOf md ops) m (sqFrom md ops lo ks listed).2 a' w') →
    wpList P ops (Exit.then (fun a' w' => (lo = true → C w') ∧ R a' w') Q) (picks ops.toList ks) a w → wpAnyF P md ops Q C (looseOf md ops) (m + ks.length) listed a w := by
  intro ks
  induction ks with
  | nil =>
    intro listed a w hsh _ hR h
    have h : (lo = true → C w) ∧ R a w := by simpa [picks, wpList, Exit.then] using h
    exact hR a w hsh h.1 h.2
  | cons k ks ih =>
    intro listed a w hsh hB hR h
    cases hk : ops[k]? with
    | none => simp [sqFrom, hk] at hB
    | some o =>
      have e : picks ops.toList (k :: ks) = o :: picks ops.toList ks := by simp [picks, hk]
      rw [e] at h
      simp only [sqFrom, hk, Bool.and_eq_true, beq_iff_eq] at hB hR
      obtain ⟨⟨hr, hlo⟩, hB'⟩ := hB
      have hrk : k ∈ Region.ready md ops listed := by rw [hr]; simp
      refine ⟨fun h' => (by rw [hr] at h'; cases h'), fun i hi => ?_⟩
      rw [hr] at hi
      obtain rfl : i = k := by simpa using hi
      unfold wpOp
      simp only [hk]
      unfold wpList at h
      have hmono : ∀ a' w', wpList P ops (Exit.then (fun a' w' => (lo = true → C w') ∧ R a' w') Q) (picks ops.toList ks) a' w' →
          (looseOf md ops i = true → C w') ∧ wpAnyF P md ops Q C (looseOf md ops) (m + ks.length) (listed.setIfInBounds i true) a' w' := by
        intro a' w' h'
        refine ⟨fun hl => ?_, ih _ _ _ (hsh.set hrk) hB' hR h'⟩
        simp only [hl, Bool.not_true, Bool.false_or, Bool.and_eq_true, List.isEmpty_iff] at hlo
        obtain ⟨hlo1, rfl⟩ := hlo
        have h' : (lo = true → C w') ∧ R a' w' := by simpa [picks, wpList, Exit.then] using h'
        exact h'.1 hlo1
      by_cases hw : Region.wanted o (yielded ops a.tmps) = true
      · rw [if_pos hw] at h ⊢
        rcases h with h | h
        · refine .inl ?_
          have h := Oper.wp_mono hmono h
          unfold Oper.wp at *
          generalize (execOp a.eval o).run P w = r at *
          cases r with
          | ok n w' => cases n <;> simp only [Oper.upon] at h ⊢ <;> exact h
          | halt x w' => cases x <;> simp only [Oper.upon] at h ⊢ <;> exact h
        · exact .inr h
      · rw [if_neg hw] at h ⊢
        exact hmono _ _ h

theorem seg_ok (hs : Region.noSelect ops = true) (hQ : ∀ c a d v w, Q (.panic c) (a.put d v) w → Q (.panic c) a w) : ∀ (is : List Seg) (listed : Array Bool) (a : Act) (w : World), Shut md ops listed →
    segFrom md ops is listed = true → wpSeg P ops C Q (segs ops.toList is) a w → wpAnyF P md ops Q C (looseOf md ops) (segLen is) listed a w := by
  intro is
  induction is with
  | nil =>
    intro listed a w _ hB h
    exact ⟨by simpa [segFrom] using hB, by simpa [wpSeg, segs] using h⟩
  | cons s is ih =>
    intro listed a w hsh hB h
    cases s with
    | fl ks =>
      simp only [segFrom, Bool.and_eq_true] at hB
      simp only [segs, wpSeg] at h
      exact fl_ok hs hQ h.1 ks listed a hsh hB.1 (fun a' hsh' hR => ih _ a' w hsh' hB.2 hR) h.2
    | sq ks lo =>
      simp only [segFrom, Bool.and_eq_true] at hB
      simp only [segs, wpSeg] at h
      exact sq_ok ks listed a w hsh hB.1 (fun a' w' hsh' _ hR => ih _ a' w' hsh' hB.2 hR) h

/-- One walk serves every order. -/
theorem wp_region_seg {id : Nat} {a : Act} {w : World} {l : List Oper} (is : List Seg) (hm : P.follows .mixedOrders = true) (hB : segB .any l.toArray is = true)
    (hQ : ∀ c a d v w, Q (.panic c) (a.put d v) w → Q (.panic c) a w)
    (h : wpSeg P l.toArray C Q (segs l is) a w.drew) : (Code.region id l.toArray true).wp P Q a w := by
  simp only [segB, Bool.and_eq_true, beq_iff_eq] at hB
  refine wp_region_any hm (wpAny_of_F (C := C) (loose := looseOf .any l.toArray) _ _ _ _ ?_)
  have := seg_ok (md := .any) (C := C) hB.1.1 hQ is (Array.replicate l.toArray.size false) a w.drew (shut_none _) hB.2 h
  rw [hB.1.2] at this
  exact this

theorem wpSeg_fl {os : List Oper} {r : List SegO} {a : Act} {w : World} (hC : C w) (h : wpQuiet P ops C (fun a' => wpSeg P ops C Q r a' w) os a) : wpSeg P ops C Q (.fl os :: r) a w := ⟨hC, h⟩
theorem wpSeg_sq {os : List Oper} {lo : Bool} {r : List SegO} {a : Act} {w : World}
    (h : ∀ K : Act → World → Prop, (∀ a' w', (lo = true → C w') → wpSeg P ops C Q r a' w' → K a' w') → wpList P ops (Exit.then K Q) os a w) : wpSeg P ops C Q (.sq os lo :: r) a w :=
  h _ (fun _ _ h1 h2 => ⟨h1, h2⟩)
theorem wpSeg_nil {a : Act} {w : World} (h : Q .normal a w) : wpSeg P ops C Q [] a w := h
theorem exit_then_self (Q : Exit → Act → World → Prop) : Exit.then (Q .normal) Q = Q := by
  funext e a w
  cases e <;> rfl
/-- The last segment. -/
theorem wpSeg_last {os : List Oper} {a : Act} {w : World} (h : wpList P ops Q os a w) : wpSeg P ops C Q [.sq os false] a w := by
  unfold wpSeg
  have e : (fun a' w' => (false = true → C w') ∧ wpSeg P ops C Q [] a' w') = Q .normal := by
    funext a' w'
    simp [wpSeg]
  rw [e, exit_then_self]
  exact h

end
end Go.Proofs.YtlaaamaaabcfeaaDoor

/- Regions that draw their order, as a tree: operations that load float, those that look at no memory float without a condition; of two others that may come next either may. -/
namespace Go.Proofs.YtlaaamaaabcfeaaDoor
open Go.RowKit
set_option linter.unusedVariables false

/-- fl: reading operations; pu: such that look at no memory; sq: one by one; br: either of two. -/
inductive Tr where
  | nil
  | fl (ks : List Nat) (t : Tr)
  | pu (ks : List Nat) (t : Tr)
  | sq (ks : List Nat) (lo : Bool) (t : Tr)
  | br (k1 : Nat) (lo1 : Bool) (t1 : Tr) (k2 : Nat) (lo2 : Bool) (t2 : Tr)
inductive TrO where
  | nil
  | fl (os : List Oper) (t : TrO)
  | pu (os : List Oper) (t : TrO)
  | sq (os : List Oper) (lo : Bool) (t : TrO)
  | br (os1 : List Oper) (lo1 : Bool) (t1 : TrO) (os2 : List Oper) (lo2 : Bool) (t2 : TrO)

def isLoad : Op → Bool
  | .load .. => true
  | _ => false

section
variable {P : Program} {ops : Array Oper} {md : Region.Mode} {C : World → Prop} {Q : Exit → Act → World → Prop}

/-- An operation that looks at no memory may be taken first, whatever else may come ahead of it. -/
theorem wpAnyF_pure {loose : Nat → Bool} {i : Nat} {oi : Oper} {v : Value} (hi : ops[i]? = some oi) (hsel : ∀ (j : Nat) (o : Oper) cs b, ops[j]? = some o → o.op ≠ .select cs b)
    (hQ : ∀ c a d v w, Q (.panic c) (a.put d v) w → Q (.panic c) a w) (hlo : loose i = false) :
    ∀ (fuel : Nat) (listed : Array Bool) (a : Act) (w : World),
      (∀ j oj, ops[j]? = some oj → j ≠ i → listed.getD j true = false → (∀ e ∈ oj.after, Region.binds md e = true → e.on ≠ i) → oi.apart ops oj = true) →
      i ∈ Region.ready md ops listed → Stays P ops (fun _ => True) oi v a →
      wpAnyF P md ops Q C loose fuel (listed.setIfInBounds i true) (a.put oi.dst v) w → wpAnyF P md ops Q C loose (fuel + 1) listed a w := by
  intro fuel
  induction fuel with
  | zero =>
    intro listed a w _ hr hy H
    refine ⟨fun h => (by rw [h] at hr; cases hr), fun j hj => ?_⟩
    by_cases hji : j = i
    · subst hji; exact hy.wpOp hi trivial ⟨fun h => (by rw [hlo] at h; cases h), H⟩
    · have := ready_mono hj hji
      rw [H.1] at this
      cases this
  | succ fuel ih =>
    intro listed a w hfree hr hy H
    refine ⟨fun h => (by rw [h] at hr; cases hr), fun j hj => ?_⟩
    by_cases hji : j = i
    · subst hji; exact hy.wpOp hi trivial ⟨fun h => (by rw [hlo] at h; cases h), H⟩
    · have h1 := H.2 j (ready_mono hj hji)
      obtain ⟨hjun, oj, hoj, hall⟩ := mem_ready.1 hj
      have hiun : listed.getD i false = false := by
        have h0 := (mem_ready.1 hr).1
        rcases Nat.lt_or_ge i listed.size with h' | h'
        · simp [h'] at h0 ⊢; exact h0
        · simp [Array.getElem?_eq_none h']
      have hnot : ∀ e ∈ oj.after, Region.binds md e = true → e.on ≠ i := fun e he hb heq => by
        have h1 := hall e he hb
        rw [heq, hiun] at h1
        cases h1
      have h2 := wpOp_putF (C := fun _ => True) hoj (hfree j oj hoj hji hjun hnot) (fun cs b => hsel i oi cs b hi) (fun cs b => hsel j oj cs b hoj) hQ hy h1
      have hun' : ∀ k, (listed.setIfInBounds j true).getD k true = false → listed.getD k true = false := fun k hun => by
        by_cases hjk : j = k
        · subst hjk; exact hjun
        · rw [getD_set_ne true hjk] at hun; exact hun
      refine wpOp_mono (fun a' w' h3 => ⟨h3.2.1, ih (listed.setIfInBounds j true) a' w' (fun k ok hk hki hun hno => hfree k ok hk hki (hun' k hun) hno) (ready_mono hr (Ne.symm hji)) h3.1 ?_⟩) h2
      rw [Array.setIfInBounds_comm _ _ hji]
      exact h3.2.2

/-- Is there an operation that loads and that may come ahead of j as well as behind it? -/
def looseL (md : Region.Mode) (ops : Array Oper) (j : Nat) : Bool :=
  (List.range ops.size).any fun i => i != j && (match ops[i]? with | some o => isLoad o.op | none => false) && !waitsFor md ops ops.size j i && !waitsFor md ops ops.size i j

def flL (md : Region.Mode) (ops : Array Oper) : List Nat → Array Bool → Bool × Array Bool
  | [], listed => (true, listed)
  | k :: ks, listed => match ops[k]? with
    | none => (false, listed)
    | some o => let r := flL md ops ks (listed.setIfInBounds k true)
      (calm o.op && (Region.ready md ops listed).contains k && Region.free md ops listed k && ((List.range ops.size).all fun j => j == k || listed.getD j true || waitsFor md ops ops.size j k || looseL md ops j) && r.1, r.2)
def puL (md : Region.Mode) (ops : Array Oper) : List Nat → Array Bool → Bool × Array Bool
  | [], listed => (true, listed)
  | k :: ks, listed => match ops[k]? with
    | none => (false, listed)
    | some o => let r := puL md ops ks (listed.setIfInBounds k true)
      (calm o.op && (Region.ready md ops listed).contains k && Region.free md ops listed k && !looseL md ops k && r.1, r.2)
def sqL (md : Region.Mode) (ops : Array Oper) (lo : Bool) : List Nat → Array Bool → Bool × Array Bool
  | [], listed => (true, listed)
  | k :: ks, listed => match ops[k]? with
    | none => (false, listed)
    | some _ => let r := sqL md ops lo ks (listed.setIfInBounds k true)
      (Region.ready md ops listed == [k] && (!looseL md ops k || (lo && ks.isEmpty)) && r.1, r.2)
def trLen : Tr → Nat
  | .nil => 0
  | .fl ks t => trLen t + ks.length
  | .pu ks t => trLen t + ks.length
  | .sq ks _ t => trLen t + ks.length
  | .br _ _ t1 _ _ _ => trLen t1 + 1
def trL (md : Region.Mode) (ops : Array Oper) : Tr → Array Bool → Bool
  | .nil, listed => (Region.ready md ops listed).isEmpty
  | .fl ks t, listed => let x := flL md ops ks listed; x.1 && trL md ops t x.2
  | .pu ks t, listed => let x := puL md ops ks listed; x.1 && trL md ops t x.2
  | .sq ks lo t, listed => let x := sqL md ops lo ks listed; x.1 && trL md ops t x.2
  | .br k1 lo1 t1 k2 lo2 t2, listed => Region.ready md ops listed == [k1, k2] && (!looseL md ops k1 || lo1) && (!looseL md ops k2 || lo2) && trLen t1 == trLen t2 && (ops[k1]?).isSome && (ops[k2]?).isSome &&
      trL md ops t1 (listed.setIfInBounds k1 true) && trL md ops t2 (listed.setIfInBounds k2 true)
def trB (md : Region.Mode) (ops : Array Oper) (t : Tr) : Bool := Region.noSelect ops && trLen t == ops.size && trL md ops t (Array.replicate ops.size false)

def trO (l : List Oper) : Tr → TrO
  | .nil => .nil
  | .fl ks t => .fl (picks l ks) (trO l t)
  | .pu ks t => .pu (picks l ks) (trO l t)
  | .sq ks lo t => .sq (picks l ks) lo (trO l t)
  | .br k1 lo1 t1 k2 lo2 t2 => .br (picks l [k1]) lo1 (trO l t1) (picks l [k2]) lo2 (trO l t2)

/-- The walk. -/
def wpTr (P : Program) (ops : Array Oper) (C : World → Prop) (Q : Exit → Act → World → Prop) : TrO → Act → World → Prop
  | .nil, a, w => Q .normal a w
  | .fl os t, a, w => C w ∧ wpQuiet P ops C (fun a' => wpTr P ops C Q t a' w) os a
  | .pu os t, a, w => wpQuiet P ops (fun _ => True) (fun a' => wpTr P ops C Q t a' w) os a
  | .sq os lo t, a, w => wpList P ops (Exit.then (fun a' w' => (lo = true → C w') ∧ wpTr P ops C Q t a' w') Q) os a w
  | .br os1 lo1 t1 os2 lo2 t2, a, w => wpList P ops (Exit.then (fun a' w' => (lo1 = true → C w') ∧ wpTr P ops C Q t1 a' w') Q) os1 a w ∧ wpList P ops (Exit.then (fun a' w' => (lo2 = true → C w') ∧ wpTr P ops C Q t2 a' w') Q) os2 a w

theorem stays_of {C : World → Prop} {o : Oper} {a : Act} {K : Act → Prop} {ks : List Oper} (hcalm : calm o.op = true) (h : wpQuiet P ops C K (o :: ks) a) : ∃ v, Stays P ops C o v a ∧ wpQuiet P ops C K ks (a.put o.dst v) := by
  simp only [wpQuiet] at h
  by_cases hw : Region.wanted o (yielded ops a.tmps) = true
  · rw [if_pos hw] at h
    obtain ⟨v, h1, h2⟩ := h
    refine ⟨v, .inl ⟨hw, fun x hx => ?_⟩, h2⟩
    have h3 := h1 x hx
    unfold Oper.quietAt at h3
    cases hq : (execOp a.eval o).run P x with
    | ok nx w2 =>
      obtain ⟨u, rfl⟩ := calm_value hcalm hq
      rw [hq] at h3
      simp only [Oper.quietUpon] at h3
      rw [h3.1, h3.2]
    | halt x' w2 => rw [hq] at h3; simp only [Oper.quietUpon] at h3
  · rw [if_neg hw] at h
    exact ⟨undef, .inr ⟨by simpa using hw, rfl⟩, h⟩

theorem flL_ok (hs : Region.noSelect ops = true) (hQ : ∀ c a d v w, Q (.panic c) (a.put d v) w → Q (.panic c) a w) {m : Nat} {R : Act → Prop} {w : World} (hC : C w) : ∀ (ks : List Nat) (listed : Array Bool) (a : Act), Shut md ops listed → (flL md ops ks listed).1 = true →
    (∀ a', Shut md ops (flL md ops ks listed).2 → R a' → wpAnyF P md ops Q C (looseL md ops) m (flL md ops ks listed).2 a' w) →
    wpQuiet P ops C R (picks ops.toList ks) a → wpAnyF P md ops Q C (looseL md ops) (m + ks.length) listed a w := by
  intro ks
  induction ks with
  | nil =>
    intro listed a hsh _ hR h
    exact hR a hsh (by simpa [picks, wpQuiet] using h)
  | cons k ks ih =>
    intro listed a hsh hB hR h
    cases hk : ops[k]? with
    | none => simp [flL, hk] at hB
    | some o =>
      have e : picks ops.toList (k :: ks) = o :: picks ops.toList ks := by simp [picks, hk]
      rw [e] at h
      simp only [flL, hk, Bool.and_eq_true] at hB hR
      obtain ⟨⟨⟨⟨hc, hr⟩, hf⟩, hlo⟩, hB'⟩ := hB
      have hrk : k ∈ Region.ready md ops listed := by simpa using hr
      obtain ⟨v, hy, hK⟩ := stays_of hc h
      refine wpAnyF_early (f := ops.size) hk (Region.noSelect_spec hs) hQ (m + ks.length) listed a w ?_ (Region.free_spec hk hf) hrk hsh hy hC (ih _ _ (hsh.set hrk) hB' hR hK)
      intro j oj hj hjk hun
      simp only [List.all_eq_true, List.mem_range, Bool.or_eq_true, beq_iff_eq] at hlo
      rcases hlo j (Array.getElem?_eq_some_iff.1 hj).1 with ((h | h) | h) | h
      · exact absurd h hjk
      · rw [hun] at h; cases h
      · exact .inl h
      · exact .inr h
theorem puL_ok (hs : Region.noSelect ops = true) (hQ : ∀ c a d v w, Q (.panic c) (a.put d v) w → Q (.panic c) a w) {m : Nat} {R : Act → Prop} {w : World} : ∀ (ks : List Nat) (listed : Array Bool) (a : Act), Shut md ops listed → (puL md ops ks listed).1 = true →
    (∀ a', Shut md ops (puL md ops ks listed).2 → R a' → wpAnyF P md ops Q C (looseL md ops) m (puL md ops ks listed).2 a' w) →
    wpQuiet P ops (fun _ => True) R (picks ops.toList ks) a → wpAnyF P md ops Q C (looseL md ops) (m + ks.length) listed a w := by
  intro ks
  induction ks with
  | nil =>
    intro listed a hsh _ hR h
    exact hR a hsh (by simpa [picks, wpQuiet] using h)
  | cons k ks ih =>
    intro listed a hsh hB hR h
    cases hk : ops[k]? with
    | none => simp [puL, hk] at hB
    | some o =>
      have e : picks ops.toList (k :: ks) = o :: picks ops.toList ks := by simp [picks, hk]
      rw [e] at h
      simp only [puL, hk, Bool.and_eq_true, Bool.not_eq_true'] at hB hR
      obtain ⟨⟨⟨⟨hc, hr⟩, hf⟩, hlo⟩, hB'⟩ := hB
      have hrk : k ∈ Region.ready md ops listed := by simpa using hr
      obtain ⟨v, hy, hK⟩ := stays_of hc h
      exact wpAnyF_pure hk (Region.noSelect_spec hs) hQ hlo (m + ks.length) listed a w (Region.free_spec hk hf) hrk hy (ih _ _ (hsh.set hrk) hB' hR hK)

/-- One operation that comes next. -/
theorem oneL_ok {m : Nat} {lo : Bool} {R : Act → World → Prop} {k : Nat} {o : Oper} (hk : ops[k]? = some o) {L : Array Bool} {a : Act} {w : World} (hlo : looseL md ops k = true → lo = true)
    (hR : ∀ a' w', (lo = true → C w') → R a' w' → wpAnyF P md ops Q C (looseL md ops) m L a' w')
    (h : wpList P ops (Exit.then (fun a' w' => (lo = true → C w') ∧ R a' w') Q) [o] a w) : wpOp P ops Q k (fun a' w' => (looseL md ops k = true → C w') ∧ wpAnyF P md ops Q C (looseL md ops) m L a' w') a w := by
  unfold wpOp
  simp only [hk]
  unfold wpList at h
  have hmono : ∀ a' w', wpList P ops (Exit.then (fun a' w' => (lo = true → C w') ∧ R a' w') Q) [] a' w' → (looseL md ops k = true → C w') ∧ wpAnyF P md ops Q C (looseL md ops) m L a' w' := by
    intro a' w' h'
    have h' : (lo = true → C w') ∧ R a' w' := by simpa [wpList, Exit.then] using h'
    exact ⟨fun hl => h'.1 (hlo hl), hR a' w' h'.1 h'.2⟩
  by_cases hw : Region.wanted o (yielded ops a.tmps) = true
  · rw [if_pos hw] at h ⊢
    rcases h with h | h
    · refine .inl ?_
      have h := Oper.wp_mono hmono h
      unfold Oper.wp at *
      generalize (execOp a.eval o).run P w = r at *
      cases r with
      | ok n w' => cases n <;> simp only [Oper.upon] at h ⊢ <;> exact h
      | halt x w' => cases x <;> simp only [Oper.upon] at h ⊢ <;> exact h
    · exact .inr h
  · rw [if_neg hw] at h ⊢
    exact hmono _ _ h

theorem sqL_ok {m : Nat} {lo : Bool} {R : Act → World → Prop} : ∀ (ks : List Nat) (listed : Array Bool) (a : Act) (w : World), Shut md ops listed → (sqL md ops lo ks listed).1 = true →
    (∀ a' w', Shut md ops (sqL md ops lo ks listed).2 → (lo = true → C w') → R a' w' → wpAnyF P md ops Q C (looseL md ops) m (sqL md ops lo ks listed).2 a' w') →
    wpList P ops (Exit.then (fun a' w' => (lo = true → C w') ∧ R a' w') Q) (picks ops.toList ks) a w → wpAnyF P md ops Q C (looseL md ops) (m + ks.length) listed a w := by
  intro ks
  induction ks with
  | nil =>
    intro listed a w hsh _ hR h
    have h : (lo = true → C w) ∧ R a w := by simpa [picks, wpList, Exit.then] using h
    exact hR a w hsh h.1 h.2
  | cons k ks ih =>
    intro listed a w hsh hB hR h
    cases hk : ops[k]? with
    | none => simp [sqL, hk] at hB
    | some o =>
      have e : picks ops.toList (k :: ks) = o :: picks ops.toList ks := by simp [picks, hk]
      rw [e] at h
      simp only [sqL, hk, Bool.and_eq_true, beq_iff_eq] at hB hR
      obtain ⟨⟨hr, hlo⟩, hB'⟩ := hB
      have hrk : k ∈ Region.ready md ops listed := by rw [hr]; simp
      refine ⟨fun h' => (by rw [hr] at h'; cases h'), fun i hi => ?_⟩
      rw [hr] at hi
      obtain rfl : i = k := by simpa using hi
      unfold wpOp
      simp only [hk]
      unfold wpList at h
      have hmono : ∀ a' w', wpList P ops (Exit.then (fun a' w' => (lo = true → C w') ∧ R a' w') Q) (picks ops.toList ks) a' w' →
          (looseL md ops i = true → C w') ∧ wpAnyF P md ops Q C (looseL md ops) (m + ks.length) (listed.setIfInBounds i true) a' w' := by
        intro a' w' h'
        refine ⟨fun hl => ?_, ih _ _ _ (hsh.set hrk) hB' hR h'⟩
        simp only [hl, Bool.not_true, Bool.false_or, Bool.and_eq_true, List.isEmpty_iff] at hlo
        obtain ⟨hlo1, rfl⟩ := hlo
        have h' : (lo = true → C w') ∧ R a' w' := by simpa [picks, wpList, Exit.then] using h'
        exact h'.1 hlo1
      by_cases hw : Region.wanted o (yielded ops a.tmps) = true
      · rw [if_pos hw] at h ⊢
        rcases h with h | h
        · refine .inl ?_
          have h := Oper.wp_mono hmono h
          unfold Oper.wp at *
          generalize (execOp a.eval o).run P w = r at *
          cases r with
          | ok n w' => cases n <;> simp only [Oper.upon] at h ⊢ <;> exact h
          | halt x w' => cases x <;> simp only [Oper.upon] at h ⊢ <;> exact h
        · exact .inr h
      · rw [if_neg hw] at h ⊢
        exact hmono _ _ h

theorem tr_ok (hs : Region.noSelect ops = true) (hQ : ∀ c a d v w, Q (.panic c) (a.put d v) w → Q (.panic c) a w) : ∀ (t : Tr) (listed : Array Bool) (a : Act) (w : World), Shut md ops listed →
    trL md ops t listed = true → wpTr P ops C Q (trO ops.toList t) a w → wpAnyF P md ops Q C (looseL md ops) (trLen t) listed a w := by
  intro t
  induction t with
  | nil =>
    intro listed a w _ hB h
    exact ⟨by simpa [trL] using hB, by simpa [wpTr, trO] using h⟩
  | fl ks t ih =>
    intro listed a w hsh hB h
    simp only [trL, Bool.and_eq_true] at hB
    simp only [trO, wpTr] at h
    exact flL_ok hs hQ h.1 ks listed a hsh hB.1 (fun a' hsh' hR => ih _ a' w hsh' hB.2 hR) h.2
  | pu ks t ih =>
    intro listed a w hsh hB h
    simp only [trL, Bool.and_eq_true] at hB
    simp only [trO, wpTr] at h
    exact puL_ok hs hQ ks listed a hsh hB.1 (fun a' hsh' hR => ih _ a' w hsh' hB.2 hR) h
  | sq ks lo t ih =>
    intro listed a w hsh hB h
    simp only [trL, Bool.and_eq_true] at hB
    simp only [trO, wpTr] at h
    exact sqL_ok ks listed a w hsh hB.1 (fun a' w' hsh' _ hR => ih _ a' w' hsh' hB.2 hR) h
  | br k1 lo1 t1 k2 lo2 t2 ih1 ih2 =>
    intro listed a w hsh hB h
    simp only [trL, Bool.and_eq_true, beq_iff_eq] at hB
    obtain ⟨⟨⟨⟨⟨⟨⟨hr, hl1⟩, hl2⟩, hlen⟩, ho1⟩, ho2⟩, hB1⟩, hB2⟩ := hB
    obtain ⟨o1, ho1⟩ := Option.isSome_iff_exists.1 ho1
    obtain ⟨o2, ho2⟩ := Option.isSome_iff_exists.1 ho2
    simp only [trO, wpTr] at h
    have e1 : picks ops.toList [k1] = [o1] := by simp [picks, ho1]
    have e2 : picks ops.toList [k2] = [o2] := by simp [picks, ho2]
    rw [e1, e2] at h
    refine ⟨fun h' => (by rw [hr] at h'; cases h'), fun i hi => ?_⟩
    have hri := hi
    rw [hr] at hi
    simp only [List.mem_cons, List.not_mem_nil, or_false] at hi
    rcases hi with rfl | rfl
    · exact oneL_ok ho1 (fun hl => by simpa [hl] using hl1) (fun a' w' _ hR => ih1 _ a' w' (hsh.set hri) hB1 hR) h.1
    · exact oneL_ok ho2 (fun hl => by simpa [hl] using hl2) (fun a' w' _ hR => by have := ih2 _ a' w' (hsh.set hri) hB2 hR; rw [← hlen] at this; exact this) h.2

/-- One walk for each branch serves every order. -/
theorem wp_region_tr {id : Nat} {a : Act} {w : World} {l : List Oper} (t : Tr) (hm : P.follows .mixedOrders = true) (hB : trB .any l.toArray t = true)
    (hQ : ∀ c a d v w, Q (.panic c) (a.put d v) w → Q (.panic c) a w)
    (h : wpTr P l.toArray C Q (trO l t) a w.drew) : (Code.region id l.toArray true).wp P Q a w := by
  simp only [trB, Bool.and_eq_true, beq_iff_eq] at hB
  refine wp_region_any hm (wpAny_of_F (C := C) (loose := looseL .any l.toArray) _ _ _ _ ?_)
  have := tr_ok (md := .any) (C := C) hB.1.1 hQ t (Array.replicate l.toArray.size false) a w.drew (shut_none _) hB.2 h
  rw [hB.1.2] at this
  exact this

theorem wpTr_fl {os : List Oper} {t : TrO} {a : Act} {w : World} (hC : C w) (h : wpQuiet P ops C (fun a' => wpTr P ops C Q t a' w) os a) : wpTr P ops C Q (.fl os t) a w := ⟨hC, h⟩
theorem wpTr_pu {os : List Oper} {t : TrO} {a : Act} {w : World} (h : wpQuiet P ops (fun _ => True) (fun a' => wpTr P ops C Q t a' w) os a) : wpTr P ops C Q (.pu os t) a w := h
theorem wpTr_sq {os : List Oper} {lo : Bool} {t : TrO} {a : Act} {w : World}
    (h : ∀ K : Act → World → Prop, (∀ a' w', (lo = true → C w') → wpTr P ops C Q t a' w' → K a' w') → wpList P ops (Exit.then K Q) os a w) : wpTr P ops C Q (.sq os lo t) a w :=
  h _ (fun _ _ h1 h2 => ⟨h1, h2⟩)
theorem wpTr_br {os1 os2 : List Oper} {lo1 lo2 : Bool} {t1 t2 : TrO} {a : Act} {w : World} (h1 : wpTr P ops C Q (.sq os1 lo1 t1) a w) (h2 : wpTr P ops C Q (.sq os2 lo2 t2) a w) : wpTr P ops C Q (.br os1 lo1 t1 os2 lo2 t2) a w := ⟨h1, h2⟩
theorem wpTr_nil {a : Act} {w : World} (h : Q .normal a w) : wpTr P ops C Q .nil a w := h
/-- The last segment. -/
theorem wpTr_last {os : List Oper} {a : Act} {w : World} (h : wpList P ops Q os a w) : wpTr P ops C Q (.sq os false .nil) a w := by
  unfold wpTr
  have e : (fun a' w' => (false = true → C w') ∧ wpTr P ops C Q .nil a' w') = Q .normal := by
    funext a' w'
    simp [wpTr]
  rw [e, exit_then_self]
  exact h
end

end Go.Proofs.YtlaaamaaabcfeaaDoor

/- op: the table of kinds. -/
namespace Go.Proofs.YtlaaamaaabcfeaaDoor
open Go.RowKit
set_option linter.unusedVariables false

/-- A text as a value. -/
def bstr (l : List UInt8) : ByteArray := ⟨l.toArray⟩
abbrev strV (l : List UInt8) : Value := .string (bstr l)
theorem bstr_list (l : List UInt8) : (bstr l).data.toList = l := rfl
theorem bstr_of (s : ByteArray) : bstr s.data.toList = s := rfl
theorem bstr_size (l : List UInt8) : (bstr l).size = l.length := rfl
theorem bstr_inj {a b : List UInt8} (h : bstr a = bstr b) : a = b := by
  have := congrArg (fun s : ByteArray => s.data.toList) h
  exact this

theorem bstr_toList (l : List UInt8) : (bstr l).toList = l := ByteArray.toList_mk l
theorem str_eq {a b : List UInt8} (h : a = b) : ((bstr a).toList == (bstr b).toList) = true := by rw [h]; simp
theorem str_ne {a b : List UInt8} (h : a ≠ b) : ((bstr a).toList == (bstr b).toList) = false := by rw [bstr_toList, bstr_toList]; simpa using h

def wordA (k : Nat) : List UInt8 := wordOf (k : Int)
def arA (k : Nat) : Int := ([0, 4, 2, 4, 2, 5, 5, 3, 4, 2, 3, 3, 0, 0, 1, 1, 1, -1, 0, 1, 0, 0] : List Int).getD k 0

/-- The table's cells. -/
def formCs : List Value := (List.range 22).flatMap fun k => [strV (wordA k), .int .i64 (arA k)]

theorem form_at : ∀ k : Nat, k < 22 → formCs[k * 2]? = some (strV (wordA k)) ∧ formCs[k * 2 + 1]? = some (.int .i64 (arA k)) := by
  intro k hk
  repeat (rcases k with _ | k; · exact ⟨rfl, rfl⟩)
  omega

theorem formCs_lit : formCs = [.string ⟨#[]⟩, .int .i64 0, .string ⟨#[97, 108, 108, 111, 99]⟩, .int .i64 4, .string ⟨#[100, 114, 111, 112]⟩, .int .i64 2, .string ⟨#[99, 111, 112, 121]⟩, .int .i64 4, .string ⟨#[102, 114, 101, 101]⟩, .int .i64 2, .string ⟨#[108, 111, 97, 100]⟩, .int .i64 5,
    .string ⟨#[115, 116, 111, 114, 101]⟩, .int .i64 5, .string ⟨#[100, 97, 116, 97]⟩, .int .i64 3, .string ⟨#[115, 101, 116]⟩, .int .i64 4, .string ⟨#[112, 101, 114, 115, 105, 115, 116]⟩, .int .i64 2, .string ⟨#[115, 101, 116, 114, 111, 111, 116]⟩, .int .i64 3, .string ⟨#[114, 111, 111, 116]⟩, .int .i64 3,
    .string ⟨#[114, 101, 97, 100, 121]⟩, .int .i64 0, .string ⟨#[99, 111, 109, 109, 105, 116]⟩, .int .i64 0, .string ⟨#[99, 111, 108, 108, 101, 99, 116]⟩, .int .i64 1, .string ⟨#[101, 118, 105, 99, 116]⟩, .int .i64 1, .string ⟨#[97, 114, 109]⟩, .int .i64 1, .string ⟨#[99, 114, 97, 115, 104]⟩, .int .i64 (-1),
    .string ⟨#[99, 104, 101, 99, 107]⟩, .int .i64 0, .string ⟨#[112, 114, 101, 100, 105, 99, 116]⟩, .int .i64 1, .string ⟨#[115, 116, 97, 116, 115]⟩, .int .i64 0, .string ⟨#[100, 117, 109, 112]⟩, .int .i64 0] := rfl

theorem aggForm : Agg Tryd.prog 63 #[.string ⟨#[]⟩, .int .i64 0] := ⟨⟨_, Tryd.underlying63, rfl⟩, by kernel_rfl⟩

def zeroTab : Array Value := ((List.replicate 22 [Value.string ⟨#[]⟩, .int .i64 0]).flatten).toArray
theorem aggTab : Agg Tryd.prog 76 zeroTab := ⟨⟨_, Tryd.underlying76, rfl⟩, by kernel_rfl⟩
theorem formCs_len : formCs.length = 44 := rfl
theorem formCs_one : formCs.all (·.oneCell') = true := rfl

theorem Mem.agg {w W W' : World} {L : List Ent} (h : Mem w W L) {cs : Array Value} {t : Nat} (h2 : W'.heap[W.heap.size]? = some (.cells cs t (0, 0))) (hg : W.grownBy W' none) : Mem w W' (L ++ [⟨W.heap.size, t, cs.toList, true⟩]) :=
  h.add ⟨hg.os, hg.tape, hg.output, hg.size, fun k hk => hg.block k hk (by simp)⟩ ⟨cs, h2, [], by simp, fun _ => rfl⟩ (Nat.le_refl _)

/-- Two results: a struct in a block, a slot. -/
theorem results_row2 {P : Program} {fn : Func} {p u : Tmp} {ty : TypeId} (h : fn.results = #[.cell p ty, .tmp u]) (tmps : Array Value) (w : World) (g : Nat) (t : TypeId) (cs : Array Value) (fr : Nat × Nat) (d : TypeDesc)
    (hp : tmps.getD p undef = .pointer (some ⟨g, 0, none⟩)) (hg : w.heap[g]? = some (.cells cs t fr))
    (hu : P.underlying ty = some d) (hd : (match d with | .struct _ | .array _ _ => true | _ => false) = true) (hi : (P.info? ty).map (·.size) = some cs.size) :
    (results fn tmps).run P w = .ok (.tuple #[.agg cs, tmps.getD u undef]) w := by
  have hp' : tmps[p]?.getD undef = .pointer (some ⟨g, 0, none⟩) := by simpa using hp
  simp [results, h, hp', asAddr, run_loadVar_row w g t ty cs fr d hg hu hd hi]

/-- What forms tells of a kind. -/
def FormPost (k : Int) (w : World) : Ending → World → Prop := fun e w' => e = .returned (.tuple #[.agg #[strV (wordOf k), .int .i64 ((arityOf k).getD 0)], .bool (arityOf k).isSome]) ∧ Below w.heap.size w w'

theorem arity_no {k : Int} (h : k < 1 ∨ 22 ≤ k) : arityOf k = none := by
  cases ha : arityOf k with
  | none => rfl
  | some a => have := arity_range ha; omega
theorem word_no {k : Int} (h : k < 1 ∨ 22 ≤ k) : wordOf k = [] := by
  unfold wordOf
  split
  · have : names.length = 21 := rfl
    rw [List.getD_eq_getElem?_getD, List.getElem?_eq_none (by omega)]; rfl
  · rfl
theorem arity_fin : ∀ n : Fin 21, arityOf ((n.val + 1 : Nat) : Int) = some (arA (n.val + 1)) := by decide +kernel
theorem arity_at {n : Nat} (h1 : 1 ≤ n) (h2 : n < 22) : arityOf (n : Int) = some (arA n) := by
  have := arity_fin ⟨n - 1, by omega⟩
  rw [show n - 1 + 1 = n by omega] at this
  exact this

set_option maxHeartbeats 2000000 in
set_option maxRecDepth 100000 in
theorem forms_any (k : Int) (w : World) : Calls Tryd.prog 30 #[.int .i64 k] w (FormPost k w) := by
  have HM1 := Lib.hid (Mem.one w #[.string ⟨#[]⟩, .int .i64 0] 63)
  obtain ⟨g, hg⟩ : ∃ g, g = w.heap.size := ⟨_, rfl⟩
  have HPost : Hid (∀ (w' : World) (s : List UInt8) (x : Int) (b : Bool), wordOf k = s → (arityOf k).getD 0 = x → (arityOf k).isSome = b → Below w.heap.size w w' → FormPost k w (.returned (.tuple #[.agg #[strV s, .int .i64 x], .bool b])) w') :=
    Lib.hid (fun w' s x b h1 h2 h3 h4 => by subst h1; subst h2; subst h3; exact ⟨rfl, h4⟩)
  generalize FormPost k w = Post at *
  go_enter Tryd.func30, Tryd.ntmps30
  go_upto_region 1 with fail
  rw [← hg] at HM1 ⊢
  clear hg
  generalize w.alloc _ = w1 at *
  go_cut [4] from 5 (fun p wc => ∃ g2, p = .pointer (some ⟨g2, 0, none⟩) ∧ Mem w wc [⟨g, 63, [.string ⟨#[]⟩, .int .i64 0], true⟩, ⟨g2, 76, formCs, true⟩])
  case first =>
    go_wp2_with (first
      | (refine wpList_alloc_agg aggTab rfl rfl ?_; intro w2 h2 hg2 hs2; have HM2 := Lib.hid (HM1.out.agg h2 hg2); clear h2 hg2 hs2)
      | (refine wpList_store_mem (cs := formCs.toArray) aggTab HM2.out 1 rfl rfl rfl rfl rfl rfl rfl rfl ?_; intro w3 h3 ht3; have HM3 := Lib.hid h3; clear h3 ht3))
    go_meet
    case rel => exact ⟨_, rfl, HM3.out⟩
  case rest =>
    obtain ⟨g2, rfl, hm⟩ := hcut
    have HM := Lib.hid hm
    clear hm HM1
    by_cases hk : k < 1 ∨ 22 ≤ k
    · have HF := HPost.out
      have HF2 := Lib.hid (fun w' h => HPost.out w' [] 0 false (word_no hk) (by rw [arity_no hk]; rfl) (by rw [arity_no hk]; rfl) h)
      clear HF HPost
      have hcase : k < 1 ∨ (1 ≤ k ∧ 22 ≤ k) := by omega
      clear hk
      rcases hcase with h1 | ⟨h1, h2⟩
      all_goals
        go_wp2_with (refine wpList_store_mem aggForm HM.out 0 rfl rfl rfl rfl rfl rfl rfl rfl ?_; intro w3 h3 ht3; have HM3 := Lib.hid h3; clear h3 ht3)
        refine bodyPost_ret (results_row2 (p := 2) (u := 3) rfl _ _ _ _ _ _ _ rfl (HM3.out.exact 0 rfl) Tryd.underlying63 rfl (by kernel_rfl)) rfl ?_
        exact HF2.out _ HM3.out.below
    · obtain ⟨n, rfl⟩ := Int.eq_ofNat_of_zero_le (show 0 ≤ k by omega)
      have hn1 : 1 ≤ n := by omega
      have hn2 : n < 22 := by omega
      have HF2 := Lib.hid (fun w' h => HPost.out w' (wordA n) (arA n) true rfl (by rw [arity_at hn1 hn2]; rfl) (by rw [arity_at hn1 hn2]; rfl) h)
      clear HPost hk
      have q1 : decide ((n : Int) < 1) = false := by simp; omega
      have q2 : decide ((22 : Int) ≤ (n : Int)) = false := by simp; omega
      have q3 : (n : Int) < 22 := by omega
      obtain ⟨hf0, hf1⟩ := form_at n hn2
      have HC : Hid (∀ i v, [strV (wordA n), .int .i64 (arA n)][i]? = some v → wc.cell? ⟨g2, n * 2 + i, none⟩ = some v) := Lib.hid (fun i v hi => by
        match i, hi with
        | 0, hi => cases hi; exact HM.out.cell 1 (n * 2) rfl hf0
        | 1, hi => cases hi; exact HM.out.cell 1 (n * 2 + 1) rfl hf1)
      clear hf0 hf1
      go_wp2_with (first
        | (refine wpList_load_part aggForm [strV (wordA n), .int .i64 (arA n)] HC.out rfl rfl rfl rfl ?_)
        | (refine wpList_store_mem aggForm HM.out 0 rfl rfl rfl rfl rfl rfl rfl rfl ?_; intro w3 h3 ht3; have HM3 := Lib.hid h3; clear h3 ht3))
      refine bodyPost_ret (results_row2 (p := 2) (u := 3) rfl _ _ _ _ _ _ _ rfl (HM3.out.exact 0 rfl) Tryd.underlying63 rfl (by kernel_rfl)) rfl ?_
      exact HF2.out _ HM3.out.below

end Go.Proofs.YtlaaamaaabcfeaaDoor

/- op: Word, Right, Kind, Int; the document's Words, Right, Kind, Same; Ref. -/
namespace Go.Proofs.YtlaaamaaabcfeaaDoor
open Go.RowKit
set_option linter.unusedVariables false

/-- A value is handed back, memory is made. -/
def Gives (v : Value) (w : World) : Ending → World → Prop := fun e w' => e = .returned v ∧ Below w.heap.size w w'

set_option maxHeartbeats 1000000 in
theorem word_any (k : Int) (w : World) : Calls Tryd.prog 18 #[.int .i64 k] w (Gives (strV (wordOf k)) w) := by
  have HP : Hid (∀ (s : List UInt8) (w' : World), wordOf k = s → Below w.heap.size w w' → Gives (strV (wordOf k)) w (.returned (strV s)) w') := Lib.hid (fun s w' h hb => by subst h; exact ⟨rfl, hb⟩)
  generalize Gives (strV (wordOf k)) w = Post at *
  go_enter Tryd.func18, Tryd.ntmps18
  go_wp2_with fail
  refine (forms_any k _).mono ?_
  rintro e w1 ⟨rfl, hb1⟩
  have HB1 := Lib.hid hb1
  obtain ⟨wd, hwd⟩ : ∃ wd, wordOf k = wd := ⟨_, rfl⟩
  have HW := Lib.hid hwd
  rw [hwd]
  clear hwd
  generalize (arityOf k).getD 0 = ar at *
  generalize (arityOf k).isSome = ok at *
  have HB2 := Lib.hid (HB1.out.trans ((below_alloc w1 (.cells #[strV wd, .int .i64 ar] 63)).mono HB1.out.size))
  clear hb1
  go_wp2_with fail
  exact HP.out _ _ HW.out HB2.out

theorem right_cases (k : Int) (n : Nat) : (arityOf k = none ∧ rightOp k n = false) ∨ ∃ a, arityOf k = some a ∧ ((600 < n ∧ rightOp k n = false) ∨ (n ≤ 600 ∧ a < 0 ∧ rightOp k n = true) ∨ (n ≤ 600 ∧ 0 ≤ a ∧ rightOp k n = decide ((n : Int) = a))) := by
  unfold rightOp
  cases ha : arityOf k with
  | none => exact .inl ⟨rfl, rfl⟩
  | some a =>
    refine .inr ⟨a, rfl, ?_⟩
    by_cases h1 : n ≤ 600
    · right
      by_cases h2 : a < 0
      · exact .inl ⟨h1, h2, by simp [h1, h2]⟩
      · refine .inr ⟨h1, by omega, ?_⟩
        rw [Bool.eq_iff_iff]
        simp [h1]
        omega
    · exact .inl ⟨by omega, by simp [h1]⟩

/-- An op's value. -/
abbrev opV (k : Int) (a : Option Addr) (n c : Nat) : Value := .agg #[.int .i64 k, .slice a n c]

set_option maxHeartbeats 2000000 in
theorem right_any (k : Int) (a : Option Addr) (n c : Nat) (w : World) (hn : n ≤ maxLen) : Calls Tryd.prog 15 #[opV k a n c] w (Gives (.bool (rightOp k n)) w) := by
  unfold maxLen at hn
  have HM := Lib.hid (Mem.one w #[.int .i64 k, .slice a n c] 25)
  have hcs := right_cases k n
  have HP : Hid (∀ (b : Bool) (w' : World), rightOp k n = b → Below w.heap.size w w' → Gives (.bool (rightOp k n)) w (.returned (.bool b)) w') := Lib.hid (fun s w' h hb => by subst h; exact ⟨rfl, hb⟩)
  generalize Gives (.bool (rightOp k n)) w = Post at *
  go_enter Tryd.func15, Tryd.ntmps15
  go_upto_region 1 with fail
  generalize w.alloc _ = w0 at *
  obtain ⟨g, hg⟩ : ∃ g, g = w.heap.size := ⟨_, rfl⟩
  rw [← hg] at HM ⊢
  clear hg
  have e0 := HM.out.cell 0 0 rfl rfl
  go_wp2_with fail
  refine (forms_any k _).mono ?_
  rintro e w1 ⟨rfl, hb1⟩
  have HM1 := Lib.hid ((HM.out.later hb1).alloc #[strV (wordOf k), .int .i64 ((arityOf k).getD 0)] 63)
  clear hb1 e0
  generalize wordOf k = wd at *
  generalize rightOp k n = r at *
  rcases hcs with ⟨h1, rfl⟩ | ⟨ar, h1, hcs⟩
  · rw [h1] at HM1 ⊢
    rw [Option.isSome_none, Option.getD_none] at *
    clear h1
    go_wp2_with fail
    exact HP.out _ _ rfl HM1.out.below
  · rw [h1] at HM1 ⊢
    rw [Option.isSome_some, Option.getD_some] at *
    clear h1
    go_upto_region 2 with fail
    obtain ⟨g1, hg1⟩ : ∃ g1, g1 = w1.heap.size := ⟨_, rfl⟩
    rw [← hg1] at HM1 ⊢
    generalize w1.alloc _ = w2 at *
    clear hg1
    have d1 := HM1.out.cell 0 1 rfl rfl
    have d2 := HM1.out.cell 1 1 rfl rfl
    rcases hcs with ⟨h2, rfl⟩ | ⟨h2, h3, rfl⟩ | ⟨h2, h3, hr⟩
    · have h2' : 600 < (n : Int) := by omega
      go_wp2_with fail
      exact HP.out _ _ rfl HM1.out.below
    · have h2' : (n : Int) ≤ 600 := by omega
      go_wp2_with fail
      exact HP.out _ _ rfl HM1.out.below
    · have h2' : (n : Int) ≤ 600 := by omega
      by_cases h4 : (n : Int) = ar
      · subst h4
        have HR : Hid (r = true) := Lib.hid (by rw [hr]; simp)
        clear hr
        go_wp2_with fail
        exact HP.out _ _ HR.out HM1.out.below
      · have HR : Hid (r = false) := Lib.hid (by rw [hr]; simp [h4])
        have h5 : ((n : Int) == ar) = false := by simpa using h4
        clear hr h4
        go_wp2_with fail
        exact HP.out _ _ HR.out HM1.out.below

/-- The document's kinds: words and numbers. -/
def wordsCs : List Value := (List.range 22).map fun k => strV (wordA k)
def arsCs : List Value := (List.range 22).map fun k => .int .i64 (arA k)
theorem words_at : ∀ k : Nat, k < 22 → wordsCs[k]? = some (strV (wordA k)) ∧ arsCs[k]? = some (.int .i64 (arA k)) := by
  intro k hk
  unfold wordsCs arsCs
  simp [List.getElem?_map, List.getElem?_range, hk]

/-- What Words leaves. -/
def WordsPost (w : World) : Ending → World → Prop := fun e w' => ∃ g1 g2 : Nat, e = .returned (.tuple #[.slice (some ⟨g1, 0, none⟩) 22 22, .slice (some ⟨g2, 0, none⟩) 22 22]) ∧ RowAt w' g1 9 wordsCs ∧ RowAt w' g2 3 arsCs ∧ Below w.heap.size w w'

set_option maxHeartbeats 2000000 in
set_option maxRecDepth 100000 in
theorem rwords_any (w : World) : Calls Tryd.prog 17 #[] w (WordsPost w) := by
  have HM := Lib.hid (Mem.two w wordsCs.toArray 9 arsCs.toArray 3)
  have HP : Hid (∀ g1 g2 w', RowAt w' g1 9 wordsCs → RowAt w' g2 3 arsCs → Below w.heap.size w w' → WordsPost w (.returned (.tuple #[.slice (some ⟨g1, 0, none⟩) 22 22, .slice (some ⟨g2, 0, none⟩) 22 22])) w') := Lib.hid (fun g1 g2 w' h1 h2 h3 => ⟨g1, g2, rfl, h1, h2, h3⟩)
  generalize WordsPost w = Post at *
  go_enter Tryd.func17, Tryd.ntmps17
  go_wp2_with fail
  exact HP.out _ _ _ (HM.out.at 0 rfl) (HM.out.at 1 rfl) HM.out.below

theorem names_len : names.length = 21 := rfl
theorem kindOf_none {s : List UInt8} (h : ∀ k, 1 ≤ k → k < 22 → wordA k ≠ s) : kindOf s = 0 := by
  have key : ∀ (l : List (List UInt8)) (k : Nat), (∀ i, i < l.length → l.getD i [] ≠ s) → kindFrom s k l = 0 := by
    intro l
    induction l with
    | nil => intro k _; rfl
    | cons x l ih =>
      intro k hl
      rw [kindFrom, if_neg (by have := hl 0 (by simp); simpa using this)]
      exact ih (k + 1) (fun i hi => by have := hl (i + 1) (by simp; omega); simpa using this)
  refine key names 1 (fun i hi => ?_)
  have := h (i + 1) (by omega) (by rw [names_len] at hi; omega)
  unfold wordA wordOf at this
  rw [if_pos (by omega)] at this
  simpa using this
theorem kindOf_at {s : List UInt8} {k : Nat} (h1 : 1 ≤ k) (h2 : k < 22) (h : wordA k = s) : kindOf s = k := by
  have := (word_kind ⟨k - 1, by omega⟩).1
  simp only [show k - 1 + 1 = k by omega] at this
  rw [← h]
  exact this

set_option maxHeartbeats 2000000 in
set_option maxRecDepth 100000 in
theorem kind_any (s : List UInt8) (w : World) : Calls Tryd.prog 19 #[strV s] w (Gives (.int .i64 (kindOf s : Nat)) w) := by
  have HP : Hid (∀ (k : Nat) (w' : World), kindOf s = k → Below w.heap.size w w' → Gives (.int .i64 (kindOf s : Nat)) w (.returned (.int .i64 (k : Int))) w') := Lib.hid (fun s w' h hb => by subst h; exact ⟨rfl, hb⟩)
  generalize Gives (.int .i64 (kindOf s : Nat)) w = Post at *
  go_enter Tryd.func19, Tryd.ntmps19
  go_wp2_with fail
  go_loopw [2, 3] (fun _ i wr => ∃ k : Nat, 1 ≤ k ∧ k ≤ 22 ∧ i = .int .i64 (k : Int) ∧ (∀ j, 1 ≤ j → j < k → wordA j ≠ s) ∧ Below w.heap.size w wr) (fun _ i _ => 22 - (intOf i).toNat)
  case atStart => exact ⟨1, by omega, by omega, rfl, fun j h1 h2 => by omega, Below.refl _ _⟩
  case round =>
    obtain ⟨k, hk1, hk2, rfl, hno, hb⟩ := hrel
    have HNo := Lib.hid hno
    have HB := Lib.hid hb
    clear hno hb
    by_cases hlt : k < 22
    · have hlt' : (k : Int) < 22 := by omega
      go_wp2_with fail
      refine (word_any (k : Int) _).mono ?_
      rintro e w1 ⟨rfl, hb1⟩
      have HB1 : Hid (Below w.heap.size w w1) := Lib.hid (HB.out.trans (hb1.mono HB.out.size))
      obtain ⟨wd, hwd⟩ : ∃ wd, wordOf (k : Int) = wd := ⟨_, rfl⟩
      have HWd : Hid (wordA k = wd) := Lib.hid hwd
      rw [hwd]
      clear hwd hb1
      by_cases he : wd = s
      · subst he
        have heq := str_eq (rfl : wd = wd)
        go_wp2_with fail
        exact HP.out _ _ (kindOf_at hk1 hlt HWd.out) HB1.out
      · have heq := str_ne he
        have HNo1 : Hid (∀ j, 1 ≤ j → j < k + 1 → wordA j ≠ s) := Lib.hid (fun j h1 h2 => by
          by_cases hj : j = k
          · rw [hj, HWd.out]; exact he
          · exact HNo.out j h1 (by omega))
        clear he
        go_wp2_with fail
        go_roundw
        case rel => exact ⟨k + 1, by omega, by omega, vint (by omega), HNo1.out, HB1.out⟩
        case measure => simp [intOf]; omega
    · obtain rfl : k = 22 := by omega
      go_wp2_with fail
      exact HP.out 0 _ (kindOf_none (fun j h1 h2 => HNo.out j h1 h2)) HB.out

set_option maxHeartbeats 2000000 in
set_option maxRecDepth 100000 in
theorem rkind_any (s : List UInt8) (w : World) : Calls Tryd.prog 20 #[strV s] w (Gives (.int .i64 (kindOf s : Nat)) w) := by
  have HP : Hid (∀ (k : Nat) (w' : World), kindOf s = k → Below w.heap.size w w' → Gives (.int .i64 (kindOf s : Nat)) w (.returned (.int .i64 (k : Int))) w') := Lib.hid (fun s w' h hb => by subst h; exact ⟨rfl, hb⟩)
  generalize Gives (.int .i64 (kindOf s : Nat)) w = Post at *
  go_enter Tryd.func20, Tryd.ntmps20
  go_wp2_with fail
  refine (rwords_any _).mono ?_
  rintro e w1 ⟨g1, g2, rfl, hr1, hr2, hb1⟩
  have HR := Lib.hid hr1
  have HB := Lib.hid hb1
  clear hr1 hr2 hb1
  go_wp2_with fail
  go_loop [2, 5] (fun _ i => ∃ k : Nat, 1 ≤ k ∧ k ≤ 22 ∧ i = .int .i64 (k : Int) ∧ (∀ j, 1 ≤ j → j < k → wordA j ≠ s)) (fun _ i => 22 - (intOf i).toNat)
  case atStart => exact ⟨1, by omega, by omega, rfl, fun j h1 h2 => by omega⟩
  case round =>
    obtain ⟨k, hk1, hk2, rfl, hno⟩ := hrel
    have HNo := Lib.hid hno
    clear hno
    by_cases hlt : k < 22
    · have hlt' : (k : Int) < 22 := by omega
      have d0 : w1.cell? ⟨g1, k, none⟩ = some (strV (wordA k)) := HR.out.cell (words_at k hlt).1
      obtain ⟨wd, hwd⟩ : ∃ wd, wordA k = wd := ⟨_, rfl⟩
      have HWd := Lib.hid hwd
      rw [hwd] at d0
      clear hwd
      by_cases he : wd = s
      · subst he
        have heq := str_eq (rfl : wd = wd)
        go_wp2_with fail
        exact HP.out _ _ (kindOf_at hk1 hlt HWd.out) HB.out
      · have heq := str_ne he
        have HNo1 : Hid (∀ j, 1 ≤ j → j < k + 1 → wordA j ≠ s) := Lib.hid (fun j h1 h2 => by
          by_cases hj : j = k
          · rw [hj, HWd.out]; exact he
          · exact HNo.out j h1 (by omega))
        clear he
        go_wp2_with fail
        go_round
        case rel => exact ⟨k + 1, by omega, by omega, vint (by omega), HNo1.out⟩
        case measure => simp [intOf]; omega
    · obtain rfl : k = 22 := by omega
      go_wp2_with fail
      exact HP.out 0 _ (kindOf_none (fun j h1 h2 => HNo.out j h1 h2)) HB.out

end Go.Proofs.YtlaaamaaabcfeaaDoor

/- op: Int, Ref, Same, the document's Right. -/
namespace Go.Proofs.YtlaaamaaabcfeaaDoor
open Go.RowKit
set_option linter.unusedVariables false

set_option maxHeartbeats 2000000 in
set_option maxRecDepth 100000 in
theorem rright_any (k : Int) (a : Option Addr) (n c : Nat) (w : World) (hn : n ≤ maxLen) : Calls Tryd.prog 14 #[opV k a n c] w (Gives (.bool (rightOp k n)) w) := by
  unfold maxLen at hn
  have HM := Lib.hid (Mem.one w #[.int .i64 k, .slice a n c] 29)
  have hcs := right_cases k n
  have HP : Hid (∀ (b : Bool) (w' : World), rightOp k n = b → Below w.heap.size w w' → Gives (.bool (rightOp k n)) w (.returned (.bool b)) w') := Lib.hid (fun s w' h hb => by subst h; exact ⟨rfl, hb⟩)
  generalize Gives (.bool (rightOp k n)) w = Post at *
  generalize rightOp k n = r at *
  go_enter Tryd.func14, Tryd.ntmps14
  go_upto_region 1 with fail
  generalize w.alloc _ = w0 at *
  obtain ⟨g, hg⟩ : ∃ g, g = w.heap.size := ⟨_, rfl⟩
  rw [← hg] at HM ⊢
  clear hg
  go_wp2_with fail
  refine (rwords_any _).mono ?_
  rintro e w1 ⟨g1, g2, rfl, hr1, hr2, hb1⟩
  have HR := Lib.hid hr2
  have HM1 := Lib.hid (HM.out.later hb1)
  clear hr1 hr2 hb1
  have d0 := HM1.out.cell 0 0 rfl rfl
  have d1 := HM1.out.cell 0 1 rfl rfl
  rcases hcs with ⟨h1, rfl⟩ | ⟨ar, h1, hcs⟩
  · have hr : k < 1 ∨ (1 ≤ k ∧ 22 ≤ k) := by
      by_cases h : k < 1
      · exact .inl h
      · refine .inr ⟨by omega, Decidable.byContradiction fun h2 => ?_⟩
        obtain ⟨m, rfl⟩ := Int.eq_ofNat_of_zero_le (show 0 ≤ k by omega)
        rw [arity_at (by omega) (by omega)] at h1; cases h1
    clear h1
    rcases hr with h2 | ⟨h2, h3⟩
    all_goals
      go_wp2_with fail
      exact HP.out _ _ rfl HM1.out.below
  · have hk := arity_range h1
    obtain ⟨m, rfl⟩ := Int.eq_ofNat_of_zero_le (show 0 ≤ k by omega)
    have hm2 : m < 22 := by omega
    rw [arity_at (by omega) hm2] at h1
    obtain rfl : arA m = ar := by injection h1
    have d2 : w1.cell? ⟨g2, m, none⟩ = some (.int .i64 (arA m)) := HR.out.cell (words_at m hm2).2
    generalize arA m = ar at *
    have hk1 := hk.1
    have hk2 := hk.2
    clear h1 hk
    rcases hcs with ⟨h2, rfl⟩ | ⟨h2, h3, rfl⟩ | ⟨h2, h3, hr⟩
    · have h2' : 600 < (n : Int) := by omega
      go_wp2_with fail
      exact HP.out _ _ rfl HM1.out.below
    · have h2' : (n : Int) ≤ 600 := by omega
      go_wp2_with fail
      go_quiet (fail)
      go_wp2_with fail
      exact HP.out _ _ rfl (below_drewN HM1.out.below _)
    · have h2' : (n : Int) ≤ 600 := by omega
      by_cases h4 : (n : Int) = ar
      · subst h4
        have HR' : Hid (r = true) := Lib.hid (by rw [hr]; simp)
        have q1 : decide ((n : Int) < 0) = false := by simp
        clear hr
        go_wp2_with fail
        go_quiet (fail)
        go_wp2_with fail
        exact HP.out _ _ HR'.out (below_drewN HM1.out.below _)
      · have HR' : Hid (r = false) := Lib.hid (by rw [hr]; simp [h4])
        have h5 : (ar == (n : Int)) = false := by simpa using fun e => h4 e.symm
        have q1 : decide (ar < 0) = false := by simp; omega
        clear hr h4
        go_wp2_with fail
        go_quiet (fail)
        go_wp2_with fail
        exact HP.out _ _ HR'.out (below_drewN HM1.out.below _)

def clampI (x : Int) : Int := max (-1099511627776) (min x 1099511627776)
/-- A number of an op, held within limits. -/
def intAt (ns : List Int) (i : Int) : Int := if i < 0 ∨ (ns.length : Int) ≤ i then 0 else clampI (ns.getD i.toNat 0)

theorem i64_at {w : World} {a : Option Addr} {ns : List Int} (h : Cells w a (ns.map (Value.int .i64))) {i : Nat} (hi : i < ns.length) :
    ∃ b off, a = some ⟨b, off, none⟩ ∧ w.cell? ⟨b, off + i, none⟩ = some (.int .i64 (ns.getD i 0)) := by
  obtain ⟨b, off, h1, _, h2⟩ := h.atMap 0 hi
  exact ⟨b, off, h1, h2 i hi⟩

set_option maxHeartbeats 2000000 in
set_option maxRecDepth 100000 in
theorem int_any (k : Int) (a : Option Addr) (n c : Nat) (ns : List Int) (hn : ns.length = n) (i : Int) (w : World) (hc : Cells w a (ns.map (Value.int .i64))) (hnm : n ≤ maxLen) :
    Calls Tryd.prog 21 #[opV k a n c, .int .i64 i] w (Gives (.int .i64 (intAt ns i)) w) := by
  unfold maxLen at hnm
  have HM := Lib.hid (Mem.one w #[.int .i64 k, .slice a n c] 25)
  have HP : Hid (∀ (x : Int) (w' : World), intAt ns i = x → Below w.heap.size w w' → Gives (.int .i64 (intAt ns i)) w (.returned (.int .i64 x)) w') := Lib.hid (fun s w' h hb => by subst h; exact ⟨rfl, hb⟩)
  generalize Gives (.int .i64 (intAt ns i)) w = Post at *
  by_cases hbad : i < 0 ∨ (n : Int) ≤ i
  · have HI : Hid (intAt ns i = 0) := Lib.hid (by unfold intAt; rw [hn, if_pos hbad])
    have hcase : i < 0 ∨ (0 ≤ i ∧ (n : Int) ≤ i) := by omega
    clear hc hbad hn
    go_enter Tryd.func21, Tryd.ntmps21
    go_upto_region 1 with fail
    generalize w.alloc _ = w0 at *
    obtain ⟨g, hg⟩ : ∃ g, g = w.heap.size := ⟨_, rfl⟩
    rw [← hg] at HM ⊢
    clear hg
    have d1 := HM.out.cell 0 1 rfl rfl
    rcases hcase with h1 | ⟨h1, h2⟩
    all_goals
      go_wp2_with fail
      exact HP.out _ _ HI.out HM.out.below
  · obtain ⟨m, rfl⟩ := Int.eq_ofNat_of_zero_le (show 0 ≤ i by omega)
    have hm : m < n := by omega
    obtain ⟨b, off, rfl, d0⟩ := i64_at (hc.below (below_alloc w (.cells #[.int .i64 k, .slice a n c] 25)) (Nat.le_refl _)) (i := m) (by omega)
    have HI : Hid (intAt ns (m : Int) = clampI (ns.getD m 0)) := Lib.hid (by unfold intAt; rw [hn, if_neg hbad]; rfl)
    generalize ns.getD m 0 = x at *
    clear hc hbad hn
    go_enter Tryd.func21, Tryd.ntmps21
    go_upto_region 1 with fail
    generalize w.alloc _ = w0 at *
    obtain ⟨g, hg⟩ : ∃ g, g = w.heap.size := ⟨_, rfl⟩
    rw [← hg] at HM ⊢
    clear hg
    have d1 := HM.out.cell 0 1 rfl rfl
    have hm1 : (m : Int) < (n : Int) := by omega
    by_cases h1 : x < -1099511627776
    · have HX : Hid (intAt ns (m : Int) = -1099511627776) := Lib.hid (by rw [HI.out]; unfold clampI; omega)
      have h2 : x < 1099511627776 := by omega
      go_wp2_with fail
      all_goals exact HP.out _ _ (by rw [HI.out]; unfold clampI; omega) HM.out.below
    · by_cases h2 : x < 1099511627776
      · go_wp2_with fail
        all_goals exact HP.out _ _ (by rw [HI.out]; unfold clampI; omega) HM.out.below
      · go_wp2_with fail
        all_goals exact HP.out _ _ (by rw [HI.out]; unfold clampI; omega) HM.out.below

set_option maxHeartbeats 1000000 in
theorem ref_any (k : Int) (a : Option Addr) (n c : Nat) (w : World) : Calls Tryd.prog 12 #[opV k a n c] w (Gives (opV k a n c) w) := by
  have HM := Lib.hid (Mem.two w #[.int .i64 k, .slice a n c] 25 #[.int .i64 0, .slice none 0 0] 29)
  have HP : Hid (∀ (w' : World), Below w.heap.size w w' → Gives (opV k a n c) w (.returned (opV k a n c)) w') := Lib.hid (fun w' hb => ⟨rfl, hb⟩)
  generalize Gives (opV k a n c) w = Post at *
  go_enter Tryd.func12, Tryd.ntmps12
  go_upto_region 1 with fail
  generalize (w.alloc _).alloc _ = w0 at *
  obtain ⟨g, hg⟩ : ∃ g, g = w.heap.size := ⟨_, rfl⟩
  rw [← hg] at HM ⊢
  clear hg
  have d0 := HM.out.cell 0 0 rfl rfl
  have d1 := HM.out.cell 0 1 rfl rfl
  have aggR : Agg Tryd.prog 29 #[.int .i64 0, .slice none 0 0] := ⟨⟨_, Tryd.underlying29, rfl⟩, by kernel_rfl⟩
  go_wp2_with (refine wpList_store_mem aggR HM.out 1 rfl rfl rfl rfl rfl rfl rfl rfl ?_; intro w3 h3 ht3; have HM3 := Lib.hid h3; clear h3 ht3)
  refine bodyPost_ret (results_cell_row rfl _ _ _ _ _ _ _ rfl (HM3.out.exact 1 rfl) Tryd.underlying29 rfl (by kernel_rfl)) rfl ?_
  exact HP.out _ HM3.out.below

end Go.Proofs.YtlaaamaaabcfeaaDoor

/-
  DERIVED: THE SHELF's CONTRACTS AT THIS DUMP, IN PLAIN WORDS (tools/lay-plain.mjs out of 'TmpShelf.lean', which tools/lay-shelf.mjs wrote): THE SAME DECLARATIONS UNDER THE SAME NAMES: 'import', 'namespace', 'open', 'def', 'theorem' AND NOTHING ELSE: no command of the shelf's: FOR A HAND-IN. Each laying: the table of numbers ('.._ren') and one theorem, a field a fact of the dump's own or the kernel's comparison; each contract: ONE APPLICATION.
-/
namespace Go.Proofs
open Go.Shelf
def Tryd.lays146_ren : Go.Shelf.Ren := ⟨fun | 146 => 25 | 221 => 33 | 268 => 37 | 138 => 38 | 143 => 39 | 195 => 42 | 197 => 43 | 218 => 44 | 219 => 45 | 260 => 46 | 217 => 47 | 225 => 48 | 224 => 49 | 267 => 50 | 266 => 51 | 314 => 52 | n => n, fun | 9 => 9 | 31 => 40 | 3 => 3 | 4 => 4 | 0 => 0 | 105 => 84 | 21 => 21 | 5 => 5 | 46 => 87 | 119 => 88 | 139 => 91 | 138 => 90 | 146 => 93 | 51 => 92 | n => n, fun | 1 => 0 | 3 => 1 | 4 => 2 | n => n⟩
theorem Tryd.lays146 : Go.Proofs.Lays.n146 Tryd.prog Tryd.lays146_ren := {
  mixed := by kernel_rfl
  f138 := Tryd.func38.trans (congrArg some (by kernel_rfl))
  f143 := Tryd.func39.trans (congrArg some (by kernel_rfl))
  f146 := Tryd.func25.trans (congrArg some (by kernel_rfl))
  f195 := Tryd.func42.trans (congrArg some (by kernel_rfl))
  f197 := Tryd.func43.trans (congrArg some (by kernel_rfl))
  f217 := Tryd.func47.trans (congrArg some (by kernel_rfl))
  f218 := Tryd.func44.trans (congrArg some (by kernel_rfl))
  f219 := Tryd.func45.trans (congrArg some (by kernel_rfl))
  f221 := Tryd.func33.trans (congrArg some (by kernel_rfl))
  f224 := Tryd.func49.trans (congrArg some (by kernel_rfl))
  f225 := Tryd.func48.trans (congrArg some (by kernel_rfl))
  f260 := Tryd.func46.trans (congrArg some (by kernel_rfl))
  f266 := Tryd.func51.trans (congrArg some (by kernel_rfl))
  f267 := Tryd.func50.trans (congrArg some (by kernel_rfl))
  f268 := Tryd.func37.trans (congrArg some (by kernel_rfl))
  f314 := Tryd.func52.trans (congrArg some (by kernel_rfl))
  t0 := Tryd.underlying0
  a0 := Tryd.isAgg0
  z0 := Tryd.sizeOf0
  v0 := Tryd.zeroValue0
  t3 := Tryd.underlying3
  a3 := Tryd.isAgg3
  z3 := Tryd.sizeOf3
  v3 := Tryd.zeroValue3
  t4 := Tryd.underlying4
  a4 := Tryd.isAgg4
  z4 := Tryd.sizeOf4
  v4 := Tryd.zeroValue4
  t5 := Tryd.underlying5
  a5 := Tryd.isAgg5
  z5 := Tryd.sizeOf5
  v5 := Tryd.zeroValue5
  t9 := Tryd.underlying9
  a9 := Tryd.isAgg9
  z9 := Tryd.sizeOf9
  v9 := Tryd.zeroValue9
  t21 := Tryd.underlying21
  a21 := Tryd.isAgg21
  z21 := Tryd.sizeOf21
  v21 := Tryd.zeroValue21
  t31 := Tryd.underlying40
  a31 := Tryd.isAgg40
  z31 := Tryd.sizeOf40
  v31 := Tryd.zeroValue40
  t46 := Tryd.underlying87
  a46 := Tryd.isAgg87
  z46 := Tryd.sizeOf87
  v46 := Tryd.zeroValue87
  t51 := Tryd.underlying92
  a51 := Tryd.isAgg92
  z51 := Tryd.sizeOf92
  v51 := Tryd.zeroValue92
  t105 := Tryd.underlying84
  a105 := Tryd.isAgg84
  z105 := Tryd.sizeOf84
  v105 := Tryd.zeroValue84
  t119 := Tryd.underlying88
  a119 := Tryd.isAgg88
  z119 := Tryd.sizeOf88
  t138 := Tryd.underlying90
  a138 := Tryd.isAgg90
  z138 := Tryd.sizeOf90
  v138 := Tryd.zeroValue90
  t139 := Tryd.underlying91
  a139 := Tryd.isAgg91
  z139 := Tryd.sizeOf91
  v139 := Tryd.zeroValue91
  t146 := Tryd.underlying93
  a146 := Tryd.isAgg93
  z146 := Tryd.sizeOf93
  v146 := Tryd.zeroValue93
  g1 := by kernel_rfl
  g3 := by kernel_rfl
  g4 := by kernel_rfl }
end Go.Proofs

/- op: Same; texts that are cut: the document's cut, strings.Split, strings.CutPrefix. -/
namespace Go.Proofs.YtlaaamaaabcfeaaDoor
open Go.RowKit Go.Shelf
set_option linter.unusedVariables false

set_option maxHeartbeats 2000000 in
set_option maxRecDepth 100000 in
theorem same_any (k : Int) (a1 a2 : Option Addr) (n c1 c2 : Nat) (ns : List Int) (hn : ns.length = n) (w : World) (h1 : Cells w a1 (ns.map (Value.int .i64))) (h2 : Cells w a2 (ns.map (Value.int .i64))) (hnm : n ≤ maxLen) :
    Calls Tryd.prog 11 #[opV k a1 n c1, opV k a2 n c2] w (Gives (.bool true) w) := by
  unfold maxLen at hnm
  have HM := Lib.hid (Mem.two w #[.int .i64 k, .slice a1 n c1] 29 #[.int .i64 k, .slice a2 n c2] 29)
  have HN := Lib.hid hn
  have HP : Hid (∀ (w' : World), Below w.heap.size w w' → Gives (.bool true) w (.returned (.bool true)) w') := Lib.hid (fun w' hb => ⟨rfl, hb⟩)
  have H1 := Lib.hid (h1.below HM.out.below (Nat.le_refl _))
  have H2 := Lib.hid (h2.below HM.out.below (Nat.le_refl _))
  generalize Gives (.bool true) w = Post at *
  have q1 : (k != k) = false := by simp
  have q2 : (n != n) = false := by simp
  clear h1 h2 hn
  go_enter Tryd.func11, Tryd.ntmps11
  go_upto_region 1 with fail
  generalize (w.alloc _).alloc _ = w0 at *
  obtain ⟨g, hg⟩ : ∃ g, g = w.heap.size := ⟨_, rfl⟩
  rw [← hg] at HM ⊢
  clear hg
  have d0 := HM.out.cell 0 0 rfl rfl
  have d1 := HM.out.cell 0 1 rfl rfl
  have d2 := HM.out.cell 1 0 rfl rfl
  have d3 := HM.out.cell 1 1 rfl rfl
  go_wp2_with fail
  go_loopw [4, 5] (fun _ i wr => ∃ j q : Nat, j ≤ n ∧ i = .int .i64 (j : Int) ∧ wr = w0.drewN q) (fun _ i _ => n - (intOf i).toNat)
  case atStart => exact ⟨0, 0, Nat.zero_le _, rfl, rfl⟩
  case round =>
    obtain ⟨j, q, hj, rfl, rfl⟩ := hrel
    by_cases hlt : j < n
    · have hlt' : (j : Int) < (n : Int) := by omega
      obtain ⟨b1, o1, rfl, e1⟩ := i64_at H1.out (i := j) (by rw [HN.out]; exact hlt)
      obtain ⟨b2, o2, rfl, e2⟩ := i64_at H2.out (i := j) (by rw [HN.out]; exact hlt)
      generalize ns.getD j 0 = x at *
      have q3 : (x != x) = false := by simp
      go_wp2_with fail
      go_quiet (fail)
      go_wp2_with fail
      go_roundw
      case rel => exact ⟨j + 1, _, by omega, vint (by omega), rfl⟩
      case measure => simp [intOf]; omega
    · obtain rfl : j = n := by omega
      have hlt' : decide ((j : Int) < (j : Int)) = false := by simp
      go_wp2_with fail
      exact HP.out _ (below_drewN HM.out.below _)

/-- Texts, laid anew. -/
def StrList (w : World) (l : List (List UInt8)) : Ending → World → Prop := fun e w' => ∃ (a : Option Addr) (c : Nat), e = .returned (.slice a l.length c) ∧ Cells w' a (l.map strV) ∧ Below w.heap.size w w' ∧ l.length ≤ c

theorem elStr : Elem Tryd.prog 40 9 (.string ⟨#[]⟩) 1 16 := Elem.mk' Tryd.underlying40 (by kernel_rfl) rfl (by decide)

theorem bstr_extract (l : List UInt8) (a b : Nat) : (bstr l).extract a b = bstr ((l.drop a).take (b - a)) := Lib.extract_eq (bstr l) a b
theorem bstr_at (l : List UInt8) (k : Nat) (h : k < (bstr l).size) : (bstr l)[k] = l[k]'h := rfl

theorem split_any (s : List UInt8) (c : UInt8) (m : Int) (w : World) (hm : w.cell? ⟨0, 0, none⟩ = some (.int .i64 m)) (hs : s.length < 4294967281) :
    Calls Tryd.prog 25 #[strV s, strV [c]] w (StrList w (cutGo c [] s)) := by
  have h := Any.strings_Split Tryd.lays146 (by kernel_rfl) (bstr s) (bstr [c]) m w hs hm (by simp [bstr_size])
  change Calls Tryd.prog 25 _ _ _ at h
  refine h.mono ?_
  rintro e w' ⟨rfl, rfl⟩
  have hd := Lib.splitB_data (bstr [c]) 0 (Lib.countB (bstr s) (bstr [c])) (bstr s)
  have hlen := Lib.splitB_all (bstr [c]) (by simp [bstr_size]) 0 _ (bstr s) rfl
  have hcount : Lib.countB (bstr s) (bstr [c]) = Lib.count s [c] := rfl
  rw [bstr_list, bstr_list] at hd
  have hcut := splitK_cut c s
  have hmap : (Lib.splitB (bstr [c]) 0 (Lib.countB (bstr s) (bstr [c])) (bstr s)).map Value.string = (cutGo c [] s).map strV := by
    rw [← hcut, ← hcount, ← hd, List.map_map]
    rfl
  have hl2 : (cutGo c [] s).length = Lib.countB (bstr s) (bstr [c]) + 1 := by rw [← hlen, ← List.length_map (f := strV), ← hmap, List.length_map]
  refine ⟨_, _, by rw [hl2], ?_, below_alloc w _, by rw [hl2]; exact Nat.le_refl _⟩
  rw [hmap]
  exact (Mem.one w ((cutGo c [] s).map strV).toArray _).at 0 rfl |>.cells

end Go.Proofs.YtlaaamaaabcfeaaDoor

/- op: strings.CutPrefix at a sign; the document's cut. -/
namespace Go.Proofs.YtlaaamaaabcfeaaDoor
open Go.RowKit
set_option linter.unusedVariables false

def hasP (s : List UInt8) : Bool := s.head? == some 45
def restP (s : List UInt8) : List UInt8 := if hasP s then s.tail else s

set_option maxHeartbeats 1000000 in
theorem hasPrefix_any (s : List UInt8) (w : World) (hs : s.length ≤ maxLen) : Calls Tryd.prog 40 #[strV s, strV [45]] w fun e w' => e = .returned (.bool (hasP s)) ∧ w' = w := by
  unfold maxLen at hs
  have z1 : (bstr [45]).size = 1 := rfl
  cases s with
  | nil =>
    have z2 : (bstr []).size = 0 := rfl
    go_enter Tryd.func40, Tryd.ntmps40
    go_wp2_with fail
    go_ret
    exact ⟨rfl, rfl⟩
  | cons b r =>
    have z2 : (bstr (b :: r)).size = r.length + 1 := rfl
    have z3 : (1 : Int) ≤ ((r.length + 1 : Nat) : Int) := by omega
    have z4 : 1 ≤ r.length + 1 := by omega
    obtain ⟨v, hv⟩ : ∃ v, hasP (b :: r) = v := ⟨_, rfl⟩
    have HV := Lib.hid hv
    have hx : (bstr (b :: r)).extract 0 1 = bstr [b] := by rw [bstr_extract]; rfl
    have hq : ((bstr [b]).toList == (bstr [45]).toList) = v := by
      rw [← hv]
      by_cases h : b = 45
      · subst h; rw [str_eq rfl]; rfl
      · rw [str_ne (by simpa using h)]; unfold hasP; simp [h]
    clear hv
    go_enter Tryd.func40, Tryd.ntmps40
    go_wp2_with fail
    go_ret
    rw [HV.out]
    exact ⟨rfl, rfl⟩

set_option maxHeartbeats 1000000 in
theorem scut_any (s : List UInt8) (w : World) (hs : s.length ≤ maxLen) : Calls Tryd.prog 34 #[strV s, strV [45]] w fun e w' => e = .returned (.tuple #[strV (restP s), .bool (hasP s)]) ∧ w' = w := by
  have h0 := hasPrefix_any s w hs
  have hr : restP s = if hasP s then s.tail else s := rfl
  have z1 : (bstr [45]).size = 1 := rfl
  have hx : hasP s = true → (bstr s).extract 1 (bstr s).size = bstr s.tail ∧ 1 ≤ (bstr s).size := fun h => by
    cases s with
    | nil => cases h
    | cons b r => exact ⟨by rw [bstr_extract, bstr_size]; simp, by rw [bstr_size]; simp⟩
  unfold maxLen at hs
  rw [← bstr_size] at hs
  cases hp : hasP s with
  | false =>
    rw [hp] at hr h0
    simp only [Bool.false_eq_true, if_false] at hr
    rw [hr]
    clear hr hp hx
    go_enter Tryd.func34, Tryd.ntmps34
    go_wp2_with (go_at_call 40; refine h0.mono ?_; rintro e w' ⟨rfl, rfl⟩)
    go_ret2
    exact ⟨rfl, rfl⟩
  | true =>
    rw [hp] at hr h0
    simp only [if_true] at hr
    rw [hr]
    obtain ⟨hx, hl⟩ := hx hp
    have hl' : (1 : Int) ≤ ((bstr s).size : Int) := by omega
    clear hr hp
    go_enter Tryd.func34, Tryd.ntmps34
    go_wp2_with (go_at_call 40; refine h0.mono ?_; rintro e w' ⟨rfl, rfl⟩)
    go_ret2
    exact ⟨rfl, rfl⟩

set_option maxHeartbeats 1000000 in
theorem cutp_any (s : List UInt8) (w : World) (hs : s.length ≤ maxLen) : Calls Tryd.prog 27 #[strV s, strV [45]] w fun e w' => e = .returned (.tuple #[strV (restP s), .bool (hasP s)]) ∧ w' = w := by
  have h0 := scut_any s w hs
  go_enter Tryd.func27, Tryd.ntmps27
  go_wp2_with (go_at_call 34; refine h0.mono ?_; rintro e w' ⟨rfl, rfl⟩)
  go_ret2
  exact ⟨rfl, rfl⟩

theorem cut_step {l : List UInt8} {i f : Nat} {c : UInt8} (hi : i < l.length) (hf : f ≤ i) : cutGo c ((l.drop f).take (i - f)) (l.drop i) =
    if l[i] = c then (l.drop f).take (i - f) :: cutGo c [] (l.drop (i + 1)) else cutGo c ((l.drop f).take (i + 1 - f)) (l.drop (i + 1)) := by
  rw [List.drop_eq_getElem_cons hi, cutGo]
  have e : (l.drop f).take (i - f) ++ [l[i]] = (l.drop f).take (i + 1 - f) := by
    rw [show i + 1 - f = (i - f) + 1 by omega, List.take_succ_eq_append_getElem (by simp; omega)]
    congr 2
    simp
    congr 1; omega
  rw [e]

set_option maxHeartbeats 2000000 in
set_option maxRecDepth 100000 in
theorem rcut_any (s : List UInt8) (c : UInt8) (w : World) (hs : s.length ≤ 1000000000) : Calls Tryd.prog 26 #[strV s, .int .u8 (c.toNat : Int)] w (StrList w (cutGo c [] s)) := by
  obtain ⟨n, hn⟩ : ∃ n, n = s.length := ⟨_, rfl⟩
  have hsz : (bstr s).size = n := by rw [bstr_size, hn]
  have HN := Lib.hid hn
  rw [← hn] at hs
  clear hn
  have HP : Hid (∀ (a : Option Addr) (cp m : Nat) (w' : World), m = (cutGo c [] s).length → Cells w' a ((cutGo c [] s).map strV) → Below w.heap.size w w' → m ≤ cp → StrList w (cutGo c [] s) (.returned (.slice a m cp)) w') := Lib.hid (fun a cp m w' h1 h2 h3 h4 => ⟨a, cp, by rw [h1], h2, h3, by rw [← h1]; exact h4⟩)
  generalize StrList w (cutGo c [] s) = Post at *
  go_enter Tryd.func26, Tryd.ntmps26
  go_wp2_with fail
  go_loopw [5, 6, 7] (fun v fv iv wr => ∃ (i f : Nat) (front : List (List UInt8)), i ≤ n ∧ f ≤ i ∧ front.length ≤ i ∧ iv = .int .i64 (i : Int) ∧ fv = .int .i64 (f : Int) ∧ wr.ownsRow w.heap.size 9 1 v front.length (front.map strV) ∧ Below w.heap.size w wr ∧
    cutGo c [] s = front ++ cutGo c ((s.drop f).take (i - f)) (s.drop i)) (fun _ _ i _ => n - (intOf i).toNat)
  case atStart => exact ⟨0, 0, [], Nat.zero_le _, Nat.le_refl _, Nat.le_refl _, rfl, rfl, ⟨rfl, .inl ⟨rfl, rfl⟩⟩, Below.refl _ _, by simp⟩
  case round =>
    obtain ⟨i, f, front, hi, hf, hfl, rfl, rfl, ho, hb, hcut⟩ := hrel
    obtain ⟨a1, c1, rfl, hc1, hm1⟩ := owned_form ho
    have HO := Lib.hid ho
    have HB := Lib.hid hb
    have HC := Lib.hid hcut
    have hbase : Hid (w.heap.size ≤ wr.heap.size) := Lib.hid hb.size
    have hfl9 : front.length < 1000000000000 := by omega
    clear ho hb hcut
    by_cases hlt : i < n
    · have hlt' : (i : Int) < (n : Int) := by omega
      have hil : i < s.length := by rw [← HN.out]; exact hlt
      have hst := cut_step (c := c) hil hf
      have hib : i < (bstr s).size := by rw [hsz]; exact hlt
      obtain ⟨b, hbv⟩ : ∃ b, (bstr s)[i] = b := ⟨_, rfl⟩
      have hb2 : s[i]'hil = b := hbv
      rw [hb2] at hst
      by_cases he : b = c
      · subst he
        rw [if_pos rfl] at hst
        have HC1 : Hid (cutGo b [] s = (front ++ [(s.drop f).take (i - f)]) ++ cutGo b ((s.drop (i + 1)).take (i + 1 - (i + 1))) (s.drop (i + 1))) := Lib.hid (by rw [HC.out, hst]; simp)
        have hex : (bstr s).extract f i = bstr ((s.drop f).take (i - f)) := bstr_extract s f i
        have hone : Hid (∀ u ∈ (#[strV ((s.drop f).take (i - f))] : Array Value).toList, u.oneCell' = true) := Lib.hid (by intro u hu; simp at hu; subst hu; rfl)
        have hfi : (f : Int) ≤ (i : Int) := by omega
        have heq : (b.toNat == b.toNat) = true := by simp
        clear hst hb2 hil
        generalize (s.drop f).take (i - f) = cur at *
        go_wp2_with (at_builtin; refine wpList_append_new (us := #[strV cur]) elStr HO.out rfl hone.out hfl9 (by decide) hbase.out rfl rfl rfl (by simp [Act.eval]) ?_; intro g6 c6 w6 ho6 hg6 hc6 hm6 hb6 hl6; have HO6 := Lib.hid ho6; have HG6 := Lib.hid hg6; clear ho6 hg6)
        go_roundw
        case rel => exact ⟨i + 1, i + 1, front ++ [cur], by omega, by omega, by simp; omega, vint (by omega), vint (by omega), by rw [List.length_append, List.map_append]; exact HO6.out, below_grownBy HB.out HO.out HG6.out (Nat.le_refl _) (Nat.le_refl _), HC1.out⟩
        case measure => simp [intOf]; omega
      · rw [if_neg he] at hst
        have HC1 : Hid (cutGo c [] s = front ++ cutGo c ((s.drop f).take (i + 1 - f)) (s.drop (i + 1))) := Lib.hid (by rw [HC.out, hst])
        have hne : (b.toNat == c.toNat) = false := by simp; exact fun e => he (UInt8.toNat_inj.1 e)
        clear hst hb2 hil
        go_wp2_with fail
        go_roundw
        case rel => exact ⟨i + 1, f, front, by omega, by omega, by omega, vint (by omega), rfl, HO.out, HB.out, HC1.out⟩
        case measure => simp [intOf]; omega
    · obtain rfl : i = n := by omega
      have hlt' : decide ((i : Int) < (i : Int)) = false := by simp
      have HC1 : Hid (cutGo c [] s = front ++ [(s.drop f).take (i - f)]) := Lib.hid (by rw [HC.out, List.drop_of_length_le (show s.length ≤ i by rw [← HN.out]; exact Nat.le_refl _), cutGo])
      have hex : (bstr s).extract f i = bstr ((s.drop f).take (i - f)) := bstr_extract s f i
      have hone : Hid (∀ u ∈ (#[strV ((s.drop f).take (i - f))] : Array Value).toList, u.oneCell' = true) := Lib.hid (by intro u hu; simp at hu; subst hu; rfl)
      have hfi : (f : Int) ≤ (i : Int) := by omega
      clear hlt
      generalize (s.drop f).take (i - f) = cur at *
      go_wp2_with (at_builtin; refine wpList_append_new (us := #[strV cur]) elStr HO.out rfl hone.out hfl9 (by decide) hbase.out rfl rfl rfl (by simp [Act.eval]) ?_; intro g6 c6 w6 ho6 hg6 hc6 hm6 hb6 hl6; have HO6 := Lib.hid ho6; have HG6 := Lib.hid hg6; clear ho6 hg6)
      refine HP.out _ _ _ _ (by rw [HC1.out]; simp) ?_ (below_grownBy HB.out HO.out HG6.out (Nat.le_refl _) (Nat.le_refl _)) hc6
      rw [HC1.out, List.map_append]
      exact Cells.owned HO6.out

end Go.Proofs.YtlaaamaaabcfeaaDoor

/- op: numbers as text. -/
namespace Go.Proofs.YtlaaamaaabcfeaaDoor
open Go.RowKit
set_option linter.unusedVariables false
open Go.Lib (decDigits itoa nDigits)

def vbs (l : List UInt8) : List Value := l.map fun b => .int .u8 (b.toNat : Int)
theorem vbs_nat (l : List UInt8) : vbs l = (l.map (·.toNat)).map vu8 := by simp [vbs, vu8]
theorem strOf_bytes (l : List UInt8) : strOf (l.map (·.toNat)) = bstr l := by
  unfold strOf bstr
  rw [List.map_map]
  congr 2
  exact (List.map_congr_left (fun b _ => by simp)).trans (List.map_id l)

/-- The digits' room: what isn't written yet, what is. -/
def digRow (tail : List UInt8) : List Value := List.replicate (20 - tail.length) (.int .u8 0) ++ vbs tail
theorem digRow_set (tail : List UInt8) (b : UInt8) (h : tail.length < 20) : (digRow tail).set (20 - tail.length - 1) (.int .u8 (b.toNat : Int)) = digRow (b :: tail) := by
  unfold digRow
  obtain ⟨k, hk⟩ : ∃ k, 20 - tail.length = k + 1 := ⟨20 - tail.length - 1, by omega⟩
  rw [hk, show 20 - (b :: tail).length = k by simp; omega, show k + 1 - 1 = k by omega, List.replicate_succ', List.append_assoc, List.set_append_right _ _ (by simp)]
  simp [vbs]
theorem digRow_len (tail : List UInt8) (h : tail.length ≤ 20) : (digRow tail).length = 20 := by simp [digRow, vbs]; omega
theorem digRow_drop (tail : List UInt8) : (digRow tail).drop (20 - tail.length) = vbs tail := by
  unfold digRow
  rw [List.drop_append, List.drop_of_length_le (by simp)]; simp

theorem dec_small {u : Nat} (h : u < 10) : decDigits u = [UInt8.ofNat (48 + u)] := by rw [decDigits, dif_pos h]
theorem dec_big {u : Nat} (h : ¬ u < 10) : decDigits u = decDigits (u / 10) ++ [UInt8.ofNat (48 + u % 10)] := by rw [decDigits, dif_neg h]
theorem dec_pos (u : Nat) : 1 ≤ (decDigits u).length := by
  have := dec_ne u
  cases h : decDigits u with
  | nil => exact absurd h this
  | cons a b => simp

theorem len20 : Tryd.prog.arrayLen 81 = 20 := by kernel_rfl
theorem arr20 : Tryd.prog.underlying 81 = some (.array (Tryd.prog.arrayLen 81) (Tryd.prog.elem 81)) := by kernel_rfl
theorem size20 (W : World) : (Go.sizeOf (Tryd.prog.elem 81)).run Tryd.prog W = .ok 1 W := by kernel_rfl
theorem slice20 (g t n : Nat) (W : World) (h1 : 1 ≤ t) (h2 : n + (t - 1) = 20) (h3 : 1 ≤ n) : (Instr.sliceAt 81 (.pointer (some ⟨g, 0, none⟩)) (some (.int .i64 ((t : Int) - 1))) none none).run Tryd.prog W = .ok (.slice (some ⟨g, t - 1, none⟩) n n) W := by
  rw [run_sliceAt_array_l W _ _ arr20 .i64 _ (by omega) (by rw [len20]; omega), size20, len20]
  have e1 : ((t : Int) - 1).toNat = t - 1 := by omega
  have e2 : 20 - (t - 1) = n := by omega
  have e3 : ¬ 20 = t - 1 := by omega
  simp only [Result.andThen, slicedAt, e1, e2, if_neg e3]
  have : (⟨g, 0, none⟩ : Addr).add ((t - 1) * 1) = ⟨g, t - 1, none⟩ := by rw [add_none]; simp
  rw [this]

set_option maxHeartbeats 2000000 in
set_option maxRecDepth 100000 in
theorem digits_any (u : Nat) (hu : u < 18446744073709551616) (w : World) : Calls Tryd.prog 35 #[.int .u64 (u : Int)] w (Gives (strV (decDigits u)) w) := by
  have HM := Lib.hid (Mem.one w (List.replicate 20 (.int .u8 0)).toArray 81)
  have HLen : Hid ((decDigits u).length ≤ 20) := Lib.hid (by rw [dec_length]; exact nDigits_le 20 u (by omega) (by omega))
  have HP : Hid (∀ (l : List UInt8) (w' : World), decDigits u = l → Below w.heap.size w w' → Gives (strV (decDigits u)) w (.returned (strV l)) w') := Lib.hid (fun l w' h hb => by subst h; exact ⟨rfl, hb⟩)
  generalize Gives (strV (decDigits u)) w = Post at *
  go_enter Tryd.func35, Tryd.ntmps35
  go_upto_region 2 with fail
  have e20 : (List.replicate 20 (.int .u8 0) : List Value).toArray = #[.int .u8 0, .int .u8 0, .int .u8 0, .int .u8 0, .int .u8 0, .int .u8 0, .int .u8 0, .int .u8 0, .int .u8 0, .int .u8 0, .int .u8 0, .int .u8 0, .int .u8 0, .int .u8 0, .int .u8 0, .int .u8 0, .int .u8 0, .int .u8 0, .int .u8 0, .int .u8 0] := rfl
  rw [e20] at HM
  clear e20
  generalize w.alloc _ = w0 at *
  obtain ⟨g, hg⟩ : ∃ g, g = w.heap.size := ⟨_, rfl⟩
  rw [← hg] at HM ⊢
  have HG : Hid (w.heap.size ≤ g) := Lib.hid (by omega)
  clear hg
  go_wp2_with fail
  go_loopw [0, 2, 4] (fun nv _ at_ wr => ∃ (v t : Nat) (tail : List UInt8), nv = .int .u64 (v : Int) ∧ at_ = .int .i64 (t : Int) ∧ v < 18446744073709551616 ∧ tail.length + t = 20 ∧ 1 ≤ t ∧ decDigits u = decDigits v ++ tail ∧ RowAt wr g 81 (digRow tail) ∧ Below w.heap.size w wr) (fun nv _ _ _ => (intOf nv).toNat)
  case atStart => exact ⟨u, 20, [], rfl, rfl, hu, rfl, by omega, by simp, HM.out.at 0 rfl, HM.out.below⟩
  case round =>
    obtain ⟨v, t, tail, rfl, rfl, hv, htl, ht1, hd, hr, hb⟩ := hrel
    have HR := Lib.hid hr
    have HB := Lib.hid hb
    have HD := Lib.hid hd
    have hto : ((t : Int) - 1).toNat = t - 1 := by omega
    have hbyte : ((48 : Int) + (v : Int) % 10) = ((UInt8.ofNat (48 + v % 10)).toNat : Int) := by rw [dig_toNat _ (by omega)]; omega
    obtain ⟨x, hx⟩ : ∃ x, (digRow tail)[t - 1]? = some x := ⟨_, List.getElem?_eq_getElem (by rw [digRow_len _ (by omega)]; omega)⟩
    have e0 := HR.out.cell hx
    have e1 := HR.out.frozen (t - 1)
    have hset := digRow_set tail (UInt8.ofNat (48 + v % 10)) (by omega)
    rw [show 20 - tail.length - 1 = t - 1 by omega] at hset
    have HR1 : Hid (RowAt (wr.setCell ⟨g, t - 1, none⟩ (.int .u8 (48 + (v : Int) % 10))) g 81 (digRow (UInt8.ofNat (48 + v % 10) :: tail))) := Lib.hid (by
      rw [hbyte, ← hset]; exact HR.out.set (t - 1) (by rw [digRow_len _ (by omega)]; omega) _)
    have HB1 : Hid (Below w.heap.size w (wr.setCell ⟨g, t - 1, none⟩ (.int .u8 (48 + (v : Int) % 10)))) := Lib.hid (hb.setCell HG.out _)
    have ht20 : (t : Int) ≤ 20 := by omega
    have ht0 : 0 ≤ (t : Int) - 1 := by omega
    have hd10 : (v : Int) % 10 < 10 := by omega
    have hd0 : 0 ≤ (v : Int) % 10 := by omega
    clear hr hb hd hx hset hbyte
    by_cases h10 : v < 10
    · have hv10 : (v : Int) / 10 = 0 := by omega
      have hvm : v % 10 = v := by omega
      have HD1 : Hid (decDigits u = UInt8.ofNat (48 + v % 10) :: tail) := Lib.hid (by rw [HD.out, dec_small h10, hvm]; rfl)
      generalize UInt8.ofNat (48 + v % 10) = b at *
      have HC : Hid (Cells (wr.setCell ⟨g, t - 1, none⟩ (.int .u8 (48 + (v : Int) % 10))) (some ⟨g, t - 1, none⟩) (((b :: tail).map (·.toNat)).map vu8)) := Lib.hid (by
        have h := HR1.out.cells.drop (t - 1)
        rw [← vbs_nat]
        have h2 := digRow_drop (b :: tail)
        rw [show 20 - (b :: tail).length = t - 1 by simp; omega] at h2
        rw [h2] at h
        simpa using h)
      have HE : Hid (strOf ((b :: tail).map (·.toNat)) = bstr (b :: tail)) := Lib.hid (strOf_bytes _)
      have hnl : ((b :: tail).map (·.toNat)).length + (t - 1) = 20 := by simp; omega
      generalize (b :: tail).map (·.toNat) = ns at *
      have hsl := fun W => slice20 g t ns.length W ht1 hnl (by omega)
      clear hvm hnl
      go_wp2_with (refine wpList_string_of (ns := ns) Tryd.underlying67 Tryd.underlying5 Tryd.underlying9 HC.out rfl rfl rfl ?_; rw [HE.out])
      exact HP.out _ _ HD1.out HB1.out
    · have hv10 : ((v : Int) / 10 == 0) = false := by simp; omega
      have HD1 : Hid (decDigits u = decDigits (v / 10) ++ (UInt8.ofNat (48 + v % 10) :: tail)) := Lib.hid (by rw [HD.out, dec_big h10]; simp)
      generalize UInt8.ofNat (48 + v % 10) = b at *
      have hlen : 1 ≤ t - 1 := by
        have h1 := HLen.out
        rw [HD1.out] at h1
        have := dec_pos (v / 10)
        simp at h1
        omega
      go_wp2_with fail
      go_roundw
      case rel => exact ⟨v / 10, t - 1, b :: tail, vint (by omega), vint (by omega), by omega, by simp; omega, hlen, HD1.out, HR1.out, HB1.out⟩
      case measure => simp [intOf]; omega

end Go.Proofs.YtlaaamaaabcfeaaDoor

/- op: number, the document's Text. -/
namespace Go.Proofs.YtlaaamaaabcfeaaDoor
open Go.RowKit
set_option linter.unusedVariables false
open Go.Lib (decDigits itoa nDigits)

theorem bstr_append (a b : List UInt8) : bstr a ++ bstr b = bstr (a ++ b) := by
  apply ByteArray.ext
  simp [bstr]

theorem itoa_neg {u : Nat} (h : 1 ≤ u) : itoa (-(u : Int)) = 45 :: decDigits u := by
  unfold itoa
  rw [if_pos (by omega), show (-(u : Int)).natAbs = u by omega]
theorem itoa_pos (u : Nat) : itoa (u : Int) = decDigits u := by
  unfold itoa
  rw [if_neg (by omega), show (u : Int).toNat = u by omega]

theorem dec_len20 {u : Nat} (h : u < 18446744073709551616) : (decDigits u).length ≤ 20 := by rw [dec_length]; exact nDigits_le 20 u (by omega) (by omega)

set_option maxHeartbeats 2000000 in
theorem number_any (n : Int) (hn : In64 n) (w : World) : Calls Tryd.prog 29 #[.int .i64 n] w (Gives (strV (itoa n)) w) := by
  obtain ⟨h1, h2⟩ := hn
  have HP : Hid (∀ (l : List UInt8) (w' : World), itoa n = l → Below w.heap.size w w' → Gives (strV (itoa n)) w (.returned (strV l)) w') := Lib.hid (fun l w' h hb => by subst h; exact ⟨rfl, hb⟩)
  generalize Gives (strV (itoa n)) w = Post at *
  by_cases h0 : n < 0
  · obtain ⟨u, hu⟩ : ∃ u : Nat, n = -(u : Int) := ⟨n.natAbs, by omega⟩
    subst hu
    have hu1 : 1 ≤ u := by omega
    have HI : Hid (itoa (-(u : Int)) = 45 :: decDigits u) := Lib.hid (itoa_neg hu1)
    by_cases hm : u = 9223372036854775808
    · subst hm
      go_enter Tryd.func29, Tryd.ntmps29
      go_wp2_with fail
      rw [show IntKind.u64.wrap (wrap64 9223372036854775808) = ((9223372036854775808 : Nat) : Int) from by decide +kernel]
      refine (digits_any 9223372036854775808 (by omega) _).mono ?_
      rintro e w1 ⟨rfl, hb1⟩
      have HB1 := Lib.hid hb1
      have HL := Lib.hid (dec_len20 (u := 9223372036854775808) (by omega))
      generalize decDigits 9223372036854775808 = l at *
      have hl : (bstr l).size ≤ 20 := by rw [bstr_size]; exact HL.out
      clear hb1
      go_wp2_with fail
      show Post (.returned (.string (bstr [45] ++ bstr l))) w1
      rw [bstr_append]
      exact HP.out _ _ HI.out HB1.out
    · have hu2 : u < 9223372036854775808 := by omega
      go_enter Tryd.func29, Tryd.ntmps29
      go_wp2_with fail
      refine (digits_any u (by omega) _).mono ?_
      rintro e w1 ⟨rfl, hb1⟩
      have HB1 := Lib.hid hb1
      have HL := Lib.hid (dec_len20 (u := u) (by omega))
      generalize decDigits u = l at *
      have hl : (bstr l).size ≤ 20 := by rw [bstr_size]; exact HL.out
      clear hb1
      go_wp2_with fail
      show Post (.returned (.string (bstr [45] ++ bstr l))) w1
      rw [bstr_append]
      exact HP.out _ _ HI.out HB1.out
  · obtain ⟨u, rfl⟩ := Int.eq_ofNat_of_zero_le (show 0 ≤ n by omega)
    have HI : Hid (itoa (u : Int) = decDigits u) := Lib.hid (itoa_pos u)
    go_enter Tryd.func29, Tryd.ntmps29
    go_wp2_with fail
    refine (digits_any u (by omega) _).mono ?_
    rintro e w1 ⟨rfl, hb1⟩
    have HB1 := Lib.hid hb1
    generalize decDigits u = l at *
    clear hb1
    go_wp2_with fail
    exact HP.out _ _ HI.out HB1.out

/-- What is written of a number so far. -/
def partT (u v : Nat) (tail : List UInt8) : Prop := (v = 0 ∧ decDigits u = tail) ∨ (0 < v ∧ decDigits u = decDigits v ++ tail)
theorem partT_step {u v : Nat} {tail : List UInt8} (h : partT u v tail) (hv : 0 < v) : partT u (v / 10) (UInt8.ofNat (48 + v % 10) :: tail) := by
  rcases h with ⟨h, _⟩ | ⟨_, h⟩
  · omega
  · by_cases h10 : v < 10
    · refine .inl ⟨by omega, ?_⟩
      rw [h, dec_small h10, show v % 10 = v by omega]; rfl
    · refine .inr ⟨by omega, ?_⟩
      rw [h, dec_big h10]; simp

def sgnI (m : Bool) (v : Nat) : Int := if m then -(v : Int) else v

theorem one_byte (b : UInt8) : strOf [b.toNat] = bstr [b] := by
  have := strOf_bytes [b]
  simpa using this

set_option maxHeartbeats 4000000 in
set_option maxRecDepth 100000 in
theorem rtext_any (n : Int) (hn : In64 n) (w : World) : Calls Tryd.prog 28 #[.int .i64 n] w (Gives (strV (itoa n)) w) := by
  obtain ⟨h1, h2⟩ := hn
  have HP : Hid (∀ (l : List UInt8) (w' : World), itoa n = l → Below w.heap.size w w' → Gives (strV (itoa n)) w (.returned (strV l)) w') := Lib.hid (fun l w' h hb => by subst h; exact ⟨rfl, hb⟩)
  generalize Gives (strV (itoa n)) w = Post at *
  by_cases hz : n = 0
  · subst hz
    have HI : Hid (itoa 0 = [48]) := Lib.hid (by decide +kernel)
    go_enter Tryd.func28, Tryd.ntmps28
    go_wp2_with fail
    exact HP.out _ _ HI.out (Below.refl _ _)
  · have hz' : (n == 0) = false := by simpa using hz
    by_cases h0 : n < 0
    · obtain ⟨u, hu⟩ : ∃ u : Nat, n = -(u : Int) := ⟨n.natAbs, by omega⟩
      subst hu
      have hu1 : 1 ≤ u := by omega
      have HI : Hid (itoa (-(u : Int)) = 45 :: decDigits u) := Lib.hid (itoa_neg hu1)
      have HL := Lib.hid (dec_len20 (u := u) (by omega))
      go_enter Tryd.func28, Tryd.ntmps28
      go_wp2_with fail
      go_loopw [3, 4] (fun s k wr => ∃ (v : Nat) (tail : List UInt8), s = .string (bstr tail) ∧ k = .int .i64 (-(v : Int)) ∧ v ≤ 9223372036854775808 ∧ tail.length ≤ 20 ∧ partT u v tail ∧ Below w.heap.size w wr) (fun _ k _ => (-(RowKit.intOf k)).toNat)
      case atStart => exact ⟨u, [], rfl, rfl, by omega, by simp, .inr ⟨by omega, by simp⟩, Below.refl _ _⟩
      case round =>
        obtain ⟨v, tail, rfl, rfl, hv, htl, hp, hb⟩ := hrel
        have HPt := Lib.hid hp
        have HB := Lib.hid hb
        clear hp hb
        by_cases hv0 : v = 0
        · subst hv0
          have HD : Hid (decDigits u = tail) := Lib.hid (by rcases HPt.out with ⟨_, h⟩ | ⟨h, _⟩; exact h; omega)
          have hsz : (bstr tail).size ≤ 20 := by rw [bstr_size]; exact htl
          go_wp2_with fail
          show Post (.returned (.string (bstr [45] ++ bstr tail))) _
          rw [bstr_append]
          exact HP.out _ _ (by rw [HI.out, HD.out]; rfl) HB.out
        · have hne : ((-(v : Int)) != 0) = true := by simp; omega
          have hv0' : 0 < v := by omega
          have HPt1 := Lib.hid (partT_step HPt.out hv0')
          have htl1 : tail.length + 1 ≤ 20 := by
            have := HL.out
            rcases HPt.out with ⟨h, _⟩ | ⟨_, h⟩
            · omega
            · rw [h] at this
              have := dec_pos v
              simp at *; omega
          have HS : Hid (strOf [48 + v % 10] ++ bstr tail = bstr (UInt8.ofNat (48 + v % 10) :: tail)) := Lib.hid (by
            have := one_byte (UInt8.ofNat (48 + v % 10))
            rw [dig_toNat _ (by omega)] at this
            rw [this, bstr_append]; rfl)
          have hs1 : (strOf [48 + v % 10]).size = 1 := rfl
          have hs2 : (bstr tail).size ≤ 20 := by rw [bstr_size]; exact htl
          have HCb : Hid (Cells (wr.alloc (.cells #[.int .u8 (48 + (v : Int) % 10)] 5)) (some ⟨wr.heap.size, 0, none⟩) ([48 + v % 10].map vu8)) := Lib.hid (by
            have := ((Mem.one wr #[.int .u8 (48 + (v : Int) % 10)] 5).at 0 rfl).cells
            have e : ([48 + v % 10].map vu8) = [.int .u8 (48 + (v : Int) % 10)] := by simp [vu8]
            rw [e]; exact this)
          have HB1 := Lib.hid (HB.out.trans ((below_alloc wr (.cells #[.int .u8 (48 + (v : Int) % 10)] 5)).mono HB.out.size))
          have hd1 : 0 ≤ (v : Int) % 10 := by omega
          have hd2 : (v : Int) % 10 < 10 := by omega
          generalize UInt8.ofNat (48 + v % 10) = b at *
          by_cases hd : v % 10 = 0
          · have hd' : (v : Int) % 10 = 0 := by omega
            rw [hd'] at HCb HB1
            rw [hd] at HCb hs1 HS
            clear hd1 hd2
            go_wp2_with (refine wpList_string_of (ns := [48 + 0]) Tryd.underlying67 Tryd.underlying5 Tryd.underlying9 HCb.out rfl rfl rfl ?_)
            exact ⟨⟨v / 10, b :: tail, by rw [← HS.out], vint (by omega), by omega, by simp; omega, HPt1.out, HB1.out⟩, by simp [RowKit.intOf]; omega⟩
          · have hd' : 0 < (v : Int) % 10 := by omega
            go_wp2_with (refine wpList_string_of (ns := [48 + v % 10]) Tryd.underlying67 Tryd.underlying5 Tryd.underlying9 HCb.out rfl rfl rfl ?_)
            exact ⟨⟨v / 10, b :: tail, by rw [← HS.out], vint (by omega), by omega, by simp; omega, HPt1.out, HB1.out⟩, by simp [RowKit.intOf]; omega⟩
    · have HI : Hid (itoa n = decDigits n.toNat) := Lib.hid (by unfold itoa; rw [if_neg h0])
      have HL := Lib.hid (dec_len20 (u := n.toNat) (by omega))
      have h3 : 0 ≤ n := by omega
      clear h0 hz
      go_enter Tryd.func28, Tryd.ntmps28
      go_wp2_with fail
      go_loopw [3, 4] (fun s k wr => ∃ (x : Int) (tail : List UInt8), s = .string (bstr tail) ∧ k = .int .i64 x ∧ 0 ≤ x ∧ x < 9223372036854775808 ∧ tail.length ≤ 20 ∧ Hid (partT n.toNat x.toNat tail) ∧ Below w.heap.size w wr) (fun _ k _ => (RowKit.intOf k).toNat)
      case atStart => exact ⟨n, [], rfl, rfl, h3, h2, by simp, Lib.hid (.inr ⟨by simp at hz'; omega, by simp⟩), Below.refl _ _⟩
      case round =>
        obtain ⟨x, tail, rfl, rfl, hx0, hx1, htl, HPt, hb⟩ := hrel
        have HB := Lib.hid hb
        clear hb
        have hsz : (bstr tail).size ≤ 20 := by rw [bstr_size]; exact htl
        by_cases hv0 : x = 0
        · subst hv0
          have HD : Hid (decDigits n.toNat = tail) := Lib.hid (by rcases HPt.out with ⟨_, h⟩ | ⟨h, _⟩; exact h; simp at h)
          have hneg : decide (n < 0) = false := by simp; omega
          go_wp2_with fail
          exact HP.out _ _ (by rw [HI.out, HD.out]) HB.out
        · have hne : (x != 0) = true := by simpa using hv0
          have hv0' : 0 < x.toNat := by omega
          have HPt1 := Lib.hid (partT_step HPt.out hv0')
          have htl1 : tail.length + 1 ≤ 20 := by
            have := HL.out
            rcases HPt.out with ⟨h, _⟩ | ⟨_, h⟩
            · omega
            · rw [h] at this
              have := dec_pos x.toNat
              simp at *; omega
          have HS : Hid (strOf [48 + x.toNat % 10] ++ bstr tail = bstr (UInt8.ofNat (48 + x.toNat % 10) :: tail)) := Lib.hid (by
            have := one_byte (UInt8.ofNat (48 + x.toNat % 10))
            rw [dig_toNat _ (by omega)] at this
            rw [this, bstr_append]; rfl)
          have hs1 : (strOf [48 + x.toNat % 10]).size = 1 := rfl
          have HCb : Hid (Cells (wr.alloc (.cells #[.int .u8 (48 + x % 10)] 5)) (some ⟨wr.heap.size, 0, none⟩) ([48 + x.toNat % 10].map vu8)) := Lib.hid (by
            have := ((Mem.one wr #[.int .u8 (48 + x % 10)] 5).at 0 rfl).cells
            have e : ([48 + x.toNat % 10].map vu8) = [.int .u8 (48 + x % 10)] := by simp [vu8]; omega
            rw [e]; exact this)
          have HB1 := Lib.hid (HB.out.trans ((below_alloc wr (.cells #[.int .u8 (48 + x % 10)] 5)).mono HB.out.size))
          have hd1 : 0 ≤ x % 10 := by omega
          have hd2 : x % 10 < 10 := by omega
          have HQ : Hid (x.toNat / 10 = (x / 10).toNat) := Lib.hid (by omega)
          rw [HQ.out] at HPt1
          generalize UInt8.ofNat (48 + x.toNat % 10) = b at *
          clear hv0 hv0'
          go_wp2_with (refine wpList_string_of (ns := [48 + x.toNat % 10]) Tryd.underlying67 Tryd.underlying5 Tryd.underlying9 HCb.out rfl rfl rfl ?_)
          exact ⟨⟨x / 10, b :: tail, by rw [← HS.out], rfl, by omega, by omega, by simp; omega, HPt1, HB1.out⟩, by simp [RowKit.intOf]; simp at hne; omega⟩

end Go.Proofs.YtlaaamaaabcfeaaDoor

/- op: Number. -/
namespace Go.Proofs.YtlaaamaaabcfeaaDoor
open Go.RowKit
set_option linter.unusedVariables false
open Go.Lib (decDigits itoa nDigits)

theorem numP_neg {s : List UInt8} (h : hasP s = true) : numP s = if restP s = [] ∨ 19 < (restP s).length ∨ (restP s).head? = some 48 then none
    else match digitsVal 0 (restP s) with
      | none => none
      | some n => if n ≤ 9223372036854775808 then some (-(n : Int)) else none := by
  have h' : s.head? = some 45 := by simpa [hasP] using h
  have e : s.drop 1 = s.tail := List.drop_one
  unfold numP
  rw [if_pos h', show restP s = s.tail from if_pos h]
  simp only [e]
  rfl
theorem numP_pos {s : List UInt8} (h : hasP s = false) : numP s = if restP s = [] ∨ 19 < (restP s).length ∨ ((restP s).head? = some 48 ∧ 1 < (restP s).length) then none
    else match digitsVal 0 (restP s) with
      | none => none
      | some n => if n < 9223372036854775808 then some (n : Int) else none := by
  have h' : ¬ s.head? = some 45 := by simpa [hasP] using h
  unfold numP
  rw [if_neg h', show restP s = s from if_neg (by rw [h]; decide)]
  rfl

theorem digitsVal_lt : ∀ (l : List UInt8) (acc n : Nat), digitsVal acc l = some n → n < (acc + 1) * 10 ^ l.length
  | [], acc, n, h => by simp [digitsVal] at h; subst h; simp
  | b :: l, acc, n, h => by
    rw [digitsVal] at h
    split at h
    · rename_i hb
      have := digitsVal_lt l _ _ h
      have hb' : b.toNat - 48 ≤ 9 := by unfold isDigit at hb; simp at hb; omega
      have h2 : (acc * 10 + (b.toNat - 48) + 1) * 10 ^ l.length ≤ ((acc + 1) * 10) * 10 ^ l.length := Nat.mul_le_mul_right _ (by omega)
      rw [List.length_cons, Nat.pow_succ, Nat.mul_comm (10 ^ l.length) 10, ← Nat.mul_assoc]
      omega
    · cases h

/-- The loop's state: what the first digits are. -/
def Acc (r : List UInt8) (k : Nat) (x : Int) : Prop := 0 ≤ x ∧ digitsVal 0 (r.take k) = some x.toNat ∧ digitsVal 0 r = digitsVal x.toNat (r.drop k)
theorem Acc.start (r : List UInt8) : Acc r 0 0 := ⟨by omega, by simp [digitsVal], by simp⟩
theorem Acc.bound {r : List UInt8} {k : Nat} {x : Int} (h : Acc r k x) (hk : k ≤ 19) : x < 10000000000000000000 := by
  have h1 := digitsVal_lt _ _ _ h.2.1
  have h2 : 10 ^ (r.take k).length ≤ 10 ^ 19 := Nat.pow_le_pow_right (by omega) (by have := List.length_take_le k r; omega)
  have := h.1
  omega
theorem Acc.bound1 {r : List UInt8} {k : Nat} {x : Int} (h : Acc r k x) (hk : k ≤ 18) : x < 1000000000000000000 := by
  have h1 := digitsVal_lt _ _ _ h.2.1
  have h2 : 10 ^ (r.take k).length ≤ 10 ^ 18 := Nat.pow_le_pow_right (by omega) (by have := List.length_take_le k r; omega)
  have := h.1
  omega
theorem Acc.step {r : List UInt8} {k : Nat} {x : Int} (h : Acc r k x) (hk : k < r.length) (hd : isDigit r[k] = true) : Acc r (k + 1) (x * 10 + ((r[k].toNat : Int) - 48)) := by
  obtain ⟨h0, h1, h2⟩ := h
  have hb : 48 ≤ r[k].toNat := by unfold isDigit at hd; simp at hd; omega
  have e : (x * 10 + ((r[k].toNat : Int) - 48)).toNat = x.toNat * 10 + (r[k].toNat - 48) := by omega
  refine ⟨by omega, ?_, ?_⟩
  · rw [List.take_succ_eq_append_getElem hk, digitsVal_append, h1, e]
    simp [digitsVal, hd]
  · rw [h2, List.drop_eq_getElem_cons hk, digitsVal, if_pos hd, e]
theorem Acc.bad {r : List UInt8} {k : Nat} {x : Int} (h : Acc r k x) (hk : k < r.length) (hd : isDigit r[k] = false) : digitsVal 0 r = none := by
  rw [h.2.2, List.drop_eq_getElem_cons hk, digitsVal, hd]; rfl
theorem Acc.all {r : List UInt8} {k : Nat} {x : Int} (h : Acc r k x) (hk : r.length ≤ k) : digitsVal 0 r = some x.toNat := by
  have := h.2.1
  rwa [List.take_of_length_le hk] at this

def NumPost (s : List UInt8) (w : World) : Ending → World → Prop := fun e w' => e = .returned (.tuple #[.int .i64 ((numP s).getD 0), .bool (numP s).isSome]) ∧ w' = w

set_option maxHeartbeats 4000000 in
set_option maxRecDepth 100000 in
theorem pnum_any (s : List UInt8) (w : World) (hs : s.length ≤ 1000000000) : Calls Tryd.prog 9 #[strV s] w (NumPost s w) := by
  have hcut := cutp_any s w (by unfold maxLen; omega)
  have hneg := numP_neg (s := s)
  have hpos := numP_pos (s := s)
  have hrl : (restP s).length ≤ 1000000000 := by
    unfold restP
    split
    · rw [List.length_tail]; omega
    · exact hs
  have HP : Hid (∀ (v : Option Int), numP s = v → NumPost s w (.returned (.tuple #[.int .i64 (v.getD 0), .bool v.isSome])) w) := Lib.hid (fun v h => by subst h; exact ⟨rfl, rfl⟩)
  generalize NumPost s w = Post at *
  generalize numP s = R at *
  generalize hasP s = m at *
  generalize restP s = r at *
  obtain ⟨n, hn⟩ : ∃ n, n = r.length := ⟨_, rfl⟩
  have hsz : (bstr r).size = n := by rw [bstr_size, hn]
  have HCut := Lib.hid hcut
  clear hcut
  rw [← hn] at hneg hpos hrl
  by_cases hbad : r = [] ∨ 19 < n ∨ (r.head? = some 48 ∧ (1 < n ∨ m = true))
  · have hR : R = none := by
      cases m with
      | true => rw [hneg rfl, if_pos (by rcases hbad with h | h | ⟨h, _⟩; exact .inl h; exact .inr (.inl h); exact .inr (.inr h))]
      | false => rw [hpos rfl, if_pos (by rcases hbad with h | h | ⟨h, h'⟩; exact .inl h; exact .inr (.inl h); exact .inr (.inr ⟨h, by rcases h' with h' | h'; exact h'; cases h'⟩))]
    have HR := Lib.hid hR
    clear hneg hpos hR
    cases r with
    | nil =>
      clear hbad hn
      have z1 : (bstr []).toList = [] := bstr_toList []
      have z2 : (!(bstr []).toList.isEmpty) = false := by rw [z1]; rfl
      go_enter Tryd.func9, Tryd.ntmps9
      go_wp2_with (go_at_call 27; refine HCut.out.mono ?_; rintro e w' ⟨rfl, rfl⟩)
      exact HP.out none HR.out
    | cons b0 r' =>
      have hcase : 19 < n ∨ (n ≤ 19 ∧ b0 = 48 ∧ 1 < n) ∨ (n ≤ 19 ∧ b0 = 48 ∧ n ≤ 1 ∧ m = true) := by
        rcases hbad with h | h | ⟨h, h'⟩
        · cases h
        · exact .inl h
        · have hb : b0 = 48 := by simpa using h
          by_cases h19 : 19 < n
          · exact .inl h19
          · by_cases h1 : 1 < n
            · exact .inr (.inl ⟨by omega, hb, h1⟩)
            · exact .inr (.inr ⟨by omega, hb, by omega, by rcases h' with h' | h'; omega; exact h'⟩)
      have hpos' : 0 < n := by rw [hn]; simp
      have z1 : (bstr (b0 :: r')).toList = b0 :: r' := bstr_toList _
      have hi : ∀ h, (bstr (b0 :: r'))[0]'h = b0 := fun _ => rfl
      clear hbad hn
      rcases hcase with h1 | ⟨h1, rfl, h2⟩ | ⟨h1, rfl, h2, rfl⟩
      · have h1' : 19 < (n : Int) := by omega
        go_enter Tryd.func9, Tryd.ntmps9
        go_wp2_with (go_at_call 27; refine HCut.out.mono ?_; rintro e w' ⟨rfl, rfl⟩)
        exact HP.out none HR.out
      · have h1' : (n : Int) ≤ 19 := by omega
        have h2' : 1 < (n : Int) := by omega
        go_enter Tryd.func9, Tryd.ntmps9
        go_wp2_with (go_at_call 27; refine HCut.out.mono ?_; rintro e w' ⟨rfl, rfl⟩)
        exact HP.out none HR.out
      · have h1' : (n : Int) ≤ 19 := by omega
        have h2' : decide (1 < n) = false := by simp; omega
        have h3' : decide (1 < (n : Int)) = false := by simp; omega
        go_enter Tryd.func9, Tryd.ntmps9
        go_wp2_with (go_at_call 27; refine HCut.out.mono ?_; rintro e w' ⟨rfl, rfl⟩)
        exact HP.out none HR.out
  · cases r with
    | nil => exact absurd (.inl rfl) hbad
    | cons b0 r' =>
      have h19 : n ≤ 19 := by
        rcases Nat.lt_or_ge 19 n with h | h
        · exact absurd (.inr (.inl h)) hbad
        · exact h
      have h48 : b0 ≠ 48 ∨ (n ≤ 1 ∧ m = false) := by
        by_cases h : b0 = 48
        · right
          refine ⟨?_, ?_⟩
          · rcases Nat.lt_or_ge 1 n with h1 | h1
            · exact absurd (.inr (.inr ⟨by simp [h], .inl h1⟩)) hbad
            · exact h1
          · cases m with
            | false => rfl
            | true => exact absurd (.inr (.inr ⟨by simp [h], .inr rfl⟩)) hbad
        · exact .inl h
      have HN : Hid (m = true → R = match digitsVal 0 (b0 :: r') with
          | none => none
          | some n => if n ≤ 9223372036854775808 then some (-(n : Int)) else none) := Lib.hid (fun h => by
        rw [hneg h, if_neg (by rintro (h1 | h1 | h1); cases h1; omega; exact hbad (.inr (.inr ⟨h1, .inr h⟩)))])
      have HPs : Hid (m = false → R = match digitsVal 0 (b0 :: r') with
          | none => none
          | some n => if n < 9223372036854775808 then some (n : Int) else none) := Lib.hid (fun h => by
        rw [hpos h, if_neg (by rintro (h1 | h1 | h1); cases h1; omega; exact hbad (.inr (.inr ⟨h1.1, .inl h1.2⟩)))])
      have hpos' : 0 < n := by rw [hn]; simp
      have z1 : (bstr (b0 :: r')).toList = b0 :: r' := bstr_toList _
      have hi : ∀ h, (bstr (b0 :: r'))[0]'h = b0 := fun _ => rfl
      have h19' : (n : Int) ≤ 19 := by omega
      have h19f : decide (19 < (n : Int)) = false := by simp; omega
      have h19g : decide (19 < n) = false := by simp; omega
      have HNl := Lib.hid hn
      clear hbad hn hneg hpos
      go_enter Tryd.func9, Tryd.ntmps9
      go_upto_region 2 with (go_at_call 27; refine HCut.out.mono ?_; rintro e w' ⟨rfl, rfl⟩)
      go_cut [32] from 33 (fun v wc => v = .bool false ∧ wc = w')
      case first =>
        rcases h48 with h1 | ⟨h1, rfl⟩
        · have hb48 : b0.toNat ≠ 48 := fun e => h1 (UInt8.toNat_inj.1 e)
          have h1' : (b0.toNat == 48) = false := by simpa using hb48
          have h2' : ((b0.toNat : Int) == 48) = false := by simp; omega
          go_wp2_with fail
          go_meet
          case rel => exact ⟨rfl, rfl⟩
        · have h2' : decide (1 < n) = false := by simp; omega
          have h3' : decide (1 < (n : Int)) = false := by simp; omega
          go_wp2_with fail
          all_goals
            go_meet
            case rel => exact ⟨rfl, rfl⟩
      case rest =>
        obtain ⟨rfl, rfl⟩ := hcut
        clear hi z1
        have HLt := Lib.hid hpos'
        generalize b0 :: r' = r at *
        clear hpos'
        go_wp2_with fail
        go_loopw [2, 3, 6, 35] (fun _ _ nv iv wr => ∃ (k : Nat) (x : Int), k ≤ n ∧ iv = .int .i64 (k : Int) ∧ nv = .int .u64 x ∧ 0 ≤ x ∧ x < 10000000000000000000 ∧ Hid (Acc r k x) ∧ wr = wc) (fun _ _ _ iv _ => n - (RowKit.intOf iv).toNat)
        case atStart => exact ⟨0, 0, Nat.zero_le _, rfl, rfl, by omega, by omega, Lib.hid (Acc.start r), rfl⟩
        case round =>
          obtain ⟨k, x, hk, rfl, rfl, hx0, hx1, HA, rfl⟩ := hrel
          by_cases hlt : k < n
          · have hlt' : (k : Int) < (n : Int) := by omega
            have hkr : k < r.length := by rw [← HNl.out]; exact hlt
            have hkb : k < (bstr r).size := by rw [hsz]; exact hlt
            obtain ⟨b, hb⟩ : ∃ b, (bstr r)[k] = b := ⟨_, rfl⟩
            have hb2 : r[k]'hkr = b := hb
            cases hd : isDigit b with
            | true =>
              have h48' : 48 ≤ b.toNat ∧ b.toNat ≤ 57 := by unfold isDigit at hd; simpa using hd
              have HA1 := Lib.hid (HA.out.step hkr (by rw [hb2]; exact hd))
              rw [hb2] at HA1
              have hx9 : x < 1000000000000000000 := HA.out.bound1 (by omega)
              have hb1 : 48 ≤ (b.toNat : Int) := by omega
              have hb3 : (b.toNat : Int) ≤ 57 := by omega
              clear hb2 hkr hd h48'
              go_wp2_with fail
              go_roundw
              case rel => exact ⟨k + 1, x * 10 + ((b.toNat : Int) - 48), by omega, vint (by omega), rfl, by omega, by omega, HA1, by first | rfl | trivial⟩
              case measure => simp [RowKit.intOf]; omega
            | false =>
              have hv := HA.out.bad hkr (by rw [hb2]; exact hd)
              have HR : Hid (R = none) := Lib.hid (by
                cases m with
                | true => rw [HN.out rfl, hv]
                | false => rw [HPs.out rfl, hv])
              have h48' : b.toNat < 48 ∨ (48 ≤ b.toNat ∧ 57 < b.toNat) := by
                unfold isDigit at hd
                simp at hd
                omega
              clear hb2 hkr hd hv
              rcases h48' with h1 | ⟨h1, h2⟩
              · have h1' : (b.toNat : Int) < 48 := by omega
                go_wp2_with fail
                exact HP.out none HR.out
              · have h1' : 48 ≤ (b.toNat : Int) := by omega
                have h2' : 57 < (b.toNat : Int) := by omega
                go_wp2_with fail
                exact HP.out none HR.out
          · obtain rfl : k = n := by omega
            have hlt' : decide ((k : Int) < (k : Int)) = false := by simp
            have hall := HA.out.all (by rw [← HNl.out]; exact Nat.le_refl _)
            rw [hall] at HN HPs
            have HxN : Hid ((x.toNat : Int) = x) := Lib.hid (by omega)
            clear hall hlt
            cases m with
            | true =>
              have HN1 := Lib.hid (HN.out rfl)
              dsimp only at HN1
              by_cases hle : x ≤ 9223372036854775808
              · have HR : Hid (R = some (-x)) := Lib.hid (by rw [HN1.out, if_pos (by omega), HxN.out])
                by_cases heq : x = 9223372036854775808
                · subst heq
                  go_wp2_with fail
                  rw [show wrap64 (-wrap64 9223372036854775808) = -9223372036854775808 from by decide +kernel]
                  exact HP.out (some (-9223372036854775808)) HR.out
                · have hx2 : x < 9223372036854775808 := by omega
                  clear heq
                  go_wp2_with fail
                  exact HP.out (some (-x)) HR.out
              · have HR : Hid (R = none) := Lib.hid (by rw [HN1.out, if_neg (by omega)])
                have hle' : decide (x ≤ 9223372036854775808) = false := by simp; omega
                clear hle
                go_wp2_with fail
                exact HP.out none HR.out
            | false =>
              have HN1 := Lib.hid (HPs.out rfl)
              dsimp only at HN1
              by_cases hle : x < 9223372036854775808
              · have HR : Hid (R = some x) := Lib.hid (by rw [HN1.out, if_pos (by omega), HxN.out])
                go_wp2_with fail
                exact HP.out (some x) HR.out
              · have HR : Hid (R = none) := Lib.hid (by rw [HN1.out, if_neg (by omega)])
                have hle' : decide (x < 9223372036854775808) = false := by simp; omega
                clear hle
                go_wp2_with fail
                exact HP.out none HR.out

end Go.Proofs.YtlaaamaaabcfeaaDoor

/- op: the document's Number. -/
namespace Go.Proofs.YtlaaamaaabcfeaaDoor
open Go.RowKit
set_option linter.unusedVariables false
open Go.Lib (decDigits itoa nDigits)

def RNumPost (s : List UInt8) (w : World) : Ending → World → Prop := fun e w' => e = .returned (.tuple #[.int .i64 ((numR s).getD 0), .bool (numR s).isSome]) ∧ Below w.heap.size w w'

theorem over_false {n d : Int} (hn : In64 n) (hd : -9 ≤ d ∧ d ≤ 9) (hs : 0 ≤ n ∧ 0 ≤ d ∨ n ≤ 0 ∧ d ≤ 0) (h : over n d = false) : In64 (n * 10 + d) := by
  unfold over at h
  simp at h
  unfold In64 at *
  omega

/-- What the loop of the document's Number has seen: the sign, the sum. -/
def GAcc (m : Bool) (r : List UInt8) (k : Nat) (x : Int) : Prop := In64 x ∧ (if m then x ≤ 0 else 0 ≤ x) ∧ numG m 0 r = numG m x (r.drop k)
theorem GAcc.start (m : Bool) (r : List UInt8) : GAcc m r 0 0 := ⟨by unfold In64; omega, by cases m <;> simp, by simp⟩
theorem GAcc.step {m : Bool} {r : List UInt8} {k : Nat} {x : Int} (h : GAcc m r k x) (hk : k < r.length) (hd : isDigit r[k] = true) (ho : over x (digOf m r[k]) = false) : GAcc m r (k + 1) (x * 10 + digOf m r[k]) := by
  obtain ⟨h1, h2, h3⟩ := h
  have hb : 48 ≤ r[k].toNat ∧ r[k].toNat ≤ 57 := by unfold isDigit at hd; simpa using hd
  refine ⟨over_false h1 ?_ ?_ ho, ?_, ?_⟩
  · unfold digOf; split <;> omega
  · unfold digOf; cases m
    · simp at h2 ⊢; omega
    · simp at h2 ⊢; omega
  · unfold digOf; cases m
    · simp at h2 ⊢; omega
    · simp at h2 ⊢; omega
  · rw [h3, List.drop_eq_getElem_cons hk, numG, if_pos hd, ho]; rfl
theorem GAcc.bad {m : Bool} {r : List UInt8} {k : Nat} {x : Int} (h : GAcc m r k x) (hk : k < r.length) (hd : isDigit r[k] = false ∨ (isDigit r[k] = true ∧ over x (digOf m r[k]) = true)) : numG m 0 r = none := by
  rw [h.2.2, List.drop_eq_getElem_cons hk, numG]
  rcases hd with hd | ⟨hd, ho⟩
  · rw [hd]; rfl
  · rw [if_pos hd, if_pos ho]
theorem GAcc.all {m : Bool} {r : List UInt8} {k : Nat} {x : Int} (h : GAcc m r k x) (hk : r.length ≤ k) : numG m 0 r = some x := by
  rw [h.2.2, List.drop_of_length_le hk]; rfl

theorem numR_eq (s : List UInt8) : numR s = if s.length ≤ 20 then
    match numG (hasP s) 0 (restP s) with
    | none => none
    | some n => if itoa n = s then some n else none
  else none := by
  have h : decide (s.head? = some 45) = hasP s := by unfold hasP; rw [Bool.eq_iff_iff]; simp
  have h2 : (if s.head? = some 45 then s.drop 1 else s) = restP s := by
    unfold restP hasP
    by_cases h' : s.head? = some 45
    · rw [if_pos h', if_pos (by simpa using h'), List.drop_one]
    · rw [if_neg h', if_neg (by simpa using h')]
  unfold numR
  rw [h, h2]
  rfl

set_option maxHeartbeats 8000000 in
set_option maxRecDepth 100000 in
theorem rnum_any (s : List UInt8) (w : World) (hs : s.length ≤ 1000000000) : Calls Tryd.prog 10 #[strV s] w (RNumPost s w) := by
  have HP : Hid (∀ (v : Option Int) (w' : World), numR s = v → Below w.heap.size w w' → RNumPost s w (.returned (.tuple #[.int .i64 (v.getD 0), .bool v.isSome])) w') := Lib.hid (fun v w' h hb => by subst h; exact ⟨rfl, hb⟩)
  generalize RNumPost s w = Post at *
  have hR := numR_eq s
  obtain ⟨n, hn⟩ : ∃ n, n = s.length := ⟨_, rfl⟩
  have hsz : (bstr s).size = n := by rw [bstr_size, hn]
  rw [← hn] at hR hs
  have HNl := Lib.hid hn
  obtain ⟨st, hst⟩ : ∃ st : Nat, st = if hasP s then 1 else 0 := ⟨_, rfl⟩
  have hrl : n = st + (restP s).length := by
    rw [hst, hn]
    unfold restP hasP
    cases s with
    | nil => rfl
    | cons b r =>
      by_cases h : b = 45
      · simp [h]; omega
      · simp [h]
  have HAt : Hid (∀ k (h1 : k < (restP s).length) (h2 : st + k < (bstr s).size), (bstr s)[st + k] = (restP s)[k]) := Lib.hid (fun k h1 h2 => by
    subst hst
    cases s with
    | nil => simp [restP, hasP] at h1
    | cons b r =>
      by_cases h : b = 45
      · subst h
        show (45 :: r)[(if hasP (45 :: r) then 1 else 0) + k] = (restP (45 :: r))[k]
        have e1 : hasP (45 :: r) = true := by simp [hasP]
        simp only [e1, if_true, restP]
        simp [Nat.add_comm 1 k]
      · have e1 : hasP (b :: r) = false := by simp [hasP, h]
        show (b :: r)[(if hasP (b :: r) then 1 else 0) + k] = (restP (b :: r))[k]
        simp [e1, restP])
  go_enter Tryd.func10, Tryd.ntmps10
  go_upto_region 1 with fail
  go_cut [4, 5] from 6 (fun i m wc => i = .int .i64 0 ∧ m = .bool (hasP s) ∧ Below w.heap.size w wc)
  case first =>
    cases s with
    | nil =>
      have e1 : hasP [] = false := rfl
      obtain rfl : n = 0 := hn
      clear hrl HAt hR
      go_quiet (fail)
      go_wp2_with fail
      go_meet
      case rel => exact ⟨rfl, rfl, below_drewN (Below.refl _ _) _⟩
    | cons b r =>
      have hpos : 0 < n := by rw [hn]; simp
      have hpos' : 0 < (n : Int) := by omega
      have hi : ∀ h, (bstr (b :: r))[0]'h = b := fun _ => rfl
      have HE : Hid (hasP (b :: r) = decide (b = 45)) := Lib.hid (by unfold hasP; rw [Bool.eq_iff_iff]; simp)
      clear hrl HAt hR hn
      by_cases h : b = 45
      · have hb : (b.toNat == 45) = true := by rw [h]; rfl
        have hb2 : ((b.toNat : Int) == 45) = true := by rw [h]; rfl
        have HE2 : Hid (hasP (b :: r) = true) := Lib.hid (by rw [HE.out]; simpa using h)
        clear h
        go_quiet (fail)
        go_wp2_with fail
        go_meet
        case rel => exact ⟨rfl, by rw [HE2.out], below_drewN (Below.refl _ _) _⟩
      · have hb0 : b.toNat ≠ 45 := fun e => h (UInt8.toNat_inj.1 e)
        have hb : (b.toNat == 45) = false := by simpa using hb0
        have hb2 : ((b.toNat : Int) == 45) = false := by simp; omega
        have HE2 : Hid (hasP (b :: r) = false) := Lib.hid (by rw [HE.out]; simpa using h)
        go_quiet (fail)
        go_wp2_with fail
        go_meet
        case rel => exact ⟨rfl, by rw [HE2.out], below_drewN (Below.refl _ _) _⟩
  case rest =>
    obtain ⟨rfl, rfl, hb⟩ := hcut
    have HB := Lib.hid hb
    clear hb
    generalize restP s = r at *
    generalize hasP s = m at *
    have HR := Lib.hid hR
    have HRl : Hid (n = st + r.length) := Lib.hid hrl
    have HSt : Hid (st = if m then 1 else 0) := Lib.hid hst
    clear hR hrl hst hn
    have hst1 : (m = true ∧ st = 1) ∨ (m = false ∧ st = 0) := by have := HSt.out; cases m <;> simp_all
    go_upto_if 16 with fail
    go_cut [4] from 6 (fun i w2 => i = .int .i64 (st : Int) ∧ w2 = wc)
    case first =>
      rcases hst1 with ⟨rfl, h⟩ | ⟨rfl, h⟩
      all_goals
        have H := Lib.hid h
        clear h
        go_wp2_with fail
        go_meet
        case rel => exact ⟨by rw [H.out]; rfl, rfl⟩
    case rest =>
      obtain ⟨rfl, rfl⟩ := hcut
      by_cases h20 : n ≤ 20
      · have h20' : (n : Int) ≤ 20 := by omega
        go_wp2_with fail
        go_loopw [2, 3, 4, 6, 7] (fun _ _ iv nv _ wr => ∃ (k : Nat) (i : Nat) (x : Int), i = st + k ∧ i ≤ n ∧ iv = .int .i64 (i : Int) ∧ nv = .int .i64 x ∧ -9223372036854775808 ≤ x ∧ x < 9223372036854775808 ∧ Hid (GAcc m r k x) ∧ wr = wc) (fun _ _ iv _ _ _ => n - (RowKit.intOf iv).toNat)
        case atStart => exact ⟨0, st, 0, rfl, by have := HRl.out; omega, rfl, rfl, by omega, by omega, Lib.hid (GAcc.start m r), rfl⟩
        case round =>
          obtain ⟨k, i, x, hik, hi, rfl, rfl, hx0, hx1, HA, rfl⟩ := hrel
          have HIk := Lib.hid hik
          clear hik
          by_cases hlt : i < n
          · have hlt' : (i : Int) < (n : Int) := by omega
            have hkr : k < r.length := by have := HRl.out; have := HIk.out; omega
            have hib : i < (bstr s).size := by rw [hsz]; exact hlt
            obtain ⟨b, hb⟩ : ∃ b, (bstr s)[i] = b := ⟨_, rfl⟩
            have hb2 : r[k]'hkr = b := by
              rw [← hb, ← HAt.out k hkr (by rw [← HIk.out]; exact hib)]
              congr 1; rw [HIk.out]
            cases hd : isDigit b with
            | true =>
              have h48' : 48 ≤ b.toNat ∧ b.toNat ≤ 57 := by unfold isDigit at hd; simpa using hd
              have hb1 : 48 ≤ (b.toNat : Int) := by omega
              have hb3 : (b.toNat : Int) ≤ 57 := by omega
              obtain ⟨d, hdv⟩ : ∃ d, d = digOf m b := ⟨_, rfl⟩
              have hsgn := HA.out.2.1
              have HBad : Hid (over x d = true → numG m 0 r = none) := Lib.hid (fun ho => HA.out.bad hkr (.inr ⟨by rw [hb2]; exact hd, by rw [hb2, ← hdv]; exact ho⟩))
              have HGood : Hid (over x d = false → GAcc m r (k + 1) (x * 10 + d)) := Lib.hid (fun ho => by
                have := HA.out.step hkr (by rw [hb2]; exact hd) (by rw [hb2, ← hdv]; exact ho)
                rw [hb2, ← hdv] at this; exact this)
              clear hb2 hkr hd h48'
              have HIk1 : Hid (i + 1 = st + (k + 1)) := Lib.hid (by rw [HIk.out]; omega)
              cases m with
              | false =>
                have hd2 : d = (b.toNat : Int) - 48 := by rw [hdv]; rfl
                simp only [Bool.false_eq_true, if_false] at hsgn
                clear hdv
                subst hd2
                rcases Int.lt_trichotomy x 922337203685477580 with h1 | h1 | h1
                · have HG := Lib.hid (HGood.out (by unfold over; simp; omega))
                  have q1 : (x == 922337203685477580) = false := by simp; omega
                  have q2 : (x == -922337203685477580) = false := by simp; omega
                  have q3 : decide (x < -922337203685477580) = false := by simp; omega
                  have q4 : decide (922337203685477580 < x) = false := by simp; omega
                  go_wp2_with fail
                  go_roundw
                  case rel => exact ⟨k + 1, i + 1, x * 10 + ((b.toNat : Int) - 48), HIk1.out, by omega, vint (by omega), rfl, by omega, by omega, HG, by first | rfl | trivial⟩
                  case measure => simp [RowKit.intOf]; omega
                · subst h1
                  by_cases h7 : 7 < (b.toNat : Int) - 48
                  · have HN : Hid (numR s = none) := Lib.hid (by rw [HR.out, if_pos h20, HBad.out (by unfold over; simp; omega)])
                    go_wp2_with fail
                    exact HP.out none _ HN.out HB.out
                  · have HG := Lib.hid (HGood.out (by unfold over; simp; omega))
                    have q1 : decide (7 < (b.toNat : Int) - 48) = false := by simp; omega
                    go_wp2_with fail
                    go_roundw
                    case rel => exact ⟨k + 1, i + 1, 922337203685477580 * 10 + ((b.toNat : Int) - 48), HIk1.out, by omega, vint (by omega), vint (by omega), by omega, by omega, HG, by first | rfl | trivial⟩
                    case measure => simp [RowKit.intOf]; omega
                · have HN : Hid (numR s = none) := Lib.hid (by rw [HR.out, if_pos h20, HBad.out (by unfold over; simp; omega)])
                  go_wp2_with fail
                  exact HP.out none _ HN.out HB.out
              | true =>
                have hd2 : d = -((b.toNat : Int) - 48) := by rw [hdv]; rfl
                simp only [if_true] at hsgn
                clear hdv
                subst hd2
                rcases Int.lt_trichotomy x (-922337203685477580) with h1 | h1 | h1
                · have HN : Hid (numR s = none) := Lib.hid (by rw [HR.out, if_pos h20, HBad.out (by unfold over; simp; omega)])
                  have q4 : decide (922337203685477580 < x) = false := by simp; omega
                  go_wp2_with fail
                  exact HP.out none _ HN.out HB.out
                · subst h1
                  by_cases h7 : -((b.toNat : Int) - 48) < -8
                  · have HN : Hid (numR s = none) := Lib.hid (by rw [HR.out, if_pos h20, HBad.out (by unfold over; simp; omega)])
                    have h7' : 8 < (b.toNat : Int) - 48 := by omega
                    go_wp2_with fail
                    exact HP.out none _ HN.out HB.out
                  · have HG := Lib.hid (HGood.out (by unfold over; simp; omega))
                    have q1 : decide (-((b.toNat : Int) - 48) < -8) = false := by simp; omega
                    have h7' : (b.toNat : Int) - 48 ≤ 8 := by omega
                    go_wp2_with fail
                    go_roundw
                    case rel => exact ⟨k + 1, i + 1, -922337203685477580 * 10 + -((b.toNat : Int) - 48), HIk1.out, by omega, vint (by omega), vint (by omega), by omega, by omega, HG, by first | rfl | trivial⟩
                    case measure => simp [RowKit.intOf]; omega
                · have HG := Lib.hid (HGood.out (by unfold over; simp; omega))
                  have q1 : (x == 922337203685477580) = false := by simp; omega
                  have q2 : (x == -922337203685477580) = false := by simp; omega
                  have q3 : decide (x < -922337203685477580) = false := by simp; omega
                  have q4 : decide (922337203685477580 < x) = false := by simp; omega
                  go_wp2_with fail
                  go_roundw
                  case rel => exact ⟨k + 1, i + 1, x * 10 + -((b.toNat : Int) - 48), HIk1.out, by omega, vint (by omega), rfl, by omega, by omega, HG, by first | rfl | trivial⟩
                  case measure => simp [RowKit.intOf]; omega
            | false =>
              have hv := HA.out.bad hkr (.inl (by rw [hb2]; exact hd))
              have HN : Hid (numR s = none) := Lib.hid (by rw [HR.out, if_pos h20, hv])
              have h48' : b.toNat < 48 ∨ (48 ≤ b.toNat ∧ 57 < b.toNat) := by
                unfold isDigit at hd
                simp at hd
                omega
              clear hb2 hkr hd hv
              rcases h48' with h1 | ⟨h1, h2⟩
              · have h1' : (b.toNat : Int) < 48 := by omega
                go_wp2_with fail
                exact HP.out none _ HN.out HB.out
              · have h1' : 48 ≤ (b.toNat : Int) := by omega
                have h2' : 57 < (b.toNat : Int) := by omega
                go_wp2_with fail
                exact HP.out none _ HN.out HB.out
          · obtain rfl : i = n := by omega
            have hlt' : decide ((i : Int) < (i : Int)) = false := by simp
            have hall := HA.out.all (by have := HRl.out; have := HIk.out; omega)
            have HN : Hid (numR s = if itoa x = s then some x else none) := Lib.hid (by rw [HR.out, if_pos h20, hall])
            clear hall hlt
            go_wp2_with fail
            refine (rtext_any x ⟨hx0, hx1⟩ _).mono ?_
            rintro e w1 ⟨rfl, hb1⟩
            have HB1 : Hid (Below w.heap.size w w1) := Lib.hid (HB.out.trans (hb1.mono HB.out.size))
            clear hb1
            by_cases he : itoa x = s
            · have HE : Hid (numR s = some x) := Lib.hid (by rw [HN.out, if_pos he])
              rw [he]
              have heq := str_eq (rfl : s = s)
              clear he
              go_wp2_with fail
              exact HP.out (some x) _ HE.out HB1.out
            · have HE : Hid (numR s = none) := Lib.hid (by rw [HN.out, if_neg he])
              have heq := str_ne he
              generalize itoa x = t at *
              clear he
              go_wp2_with fail
              exact HP.out none _ HE.out HB1.out
      · have h20' : decide ((n : Int) ≤ 20) = false := by simp; omega
        have h20g : decide (n ≤ 20) = false := by simp; omega
        have HN : Hid (numR s = none) := Lib.hid (by rw [HR.out, if_neg h20])
        have hne : itoa 0 ≠ s := fun e => by
          have h1 : (itoa 0).length = n := by rw [e, HNl.out]
          rw [show itoa 0 = [48] by decide +kernel] at h1
          simp at h1; omega
        have h3 : (st : Int) < (n : Int) ∨ ¬ (st : Int) < (n : Int) := by omega
        have heq := str_ne hne
        have hst3 : (st : Int) < (n : Int) := by rcases hst1 with ⟨_, h⟩ | ⟨_, h⟩ <;> omega
        clear h20 h3 hst1 hne
        go_wp2_with fail
        go_loopw [2, 3, 4, 6, 7] (fun _ _ iv nv _ wr => iv = .int .i64 (st : Int) ∧ nv = .int .i64 0 ∧ wr = wc) (fun _ _ _ _ _ _ => 0)
        case atStart => exact ⟨rfl, rfl, rfl⟩
        case round =>
          obtain ⟨rfl, rfl, rfl⟩ := hrel
          go_wp2_with fail
          refine (rtext_any 0 (by unfold In64; omega) _).mono ?_
          rintro e w1 ⟨rfl, hb1⟩
          have HB1 : Hid (Below w.heap.size w w1) := Lib.hid (HB.out.trans (hb1.mono HB.out.size))
          clear hb1
          generalize itoa 0 = t at *
          go_wp2_with fail
          exact HP.out none _ HN.out HB1.out

end Go.Proofs.YtlaaamaaabcfeaaDoor
