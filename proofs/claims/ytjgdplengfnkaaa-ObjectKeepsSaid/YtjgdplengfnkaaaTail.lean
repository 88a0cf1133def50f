/- Regions that draw their order: operations and calls that give one value each in every later world, in any order, then operations that wait for all of them, one by one. -/
import Derived.Test.YtjgdplengfnkaaaReg
namespace Go.Proofs.Ytjgdplengfnkaaa
open Go.RowKit
set_option linter.unusedVariables false

section
variable {P : Program} {ops : Array Oper} {md : Region.Mode} {C : World → Prop} {Q : Exit → Act → World → Prop}

/-- Whatever order is picked for so many operations; then only number n may come up. -/
def wpAnyN (P : Program) (md : Region.Mode) (ops : Array Oper) (C : World → Prop) (n : Nat) (R : Array Bool → Act → Prop) : Nat → Array Bool → Act → Prop
  | 0, listed, a => Region.ready md ops listed = [n] ∧ R listed a
  | fuel + 1, listed, a => Region.ready md ops listed ≠ [] ∧ ∀ i ∈ Region.ready md ops listed, qOp P ops C i (wpAnyN P md ops C n R fuel (listed.setIfInBounds i true)) a

theorem wpAny_of_N {n m : Nat} {R : Array Bool → Act → Prop} (hR : ∀ listed a w, C w → R listed a → wpAny P md ops Q m listed a w) : ∀ (fuel : Nat) (listed : Array Bool) (a : Act) (w : World), C w →
    wpAnyN P md ops C n R fuel listed a → wpAny P md ops Q (fuel + m) listed a w
  | 0, listed, a, w, hC, h => by rw [Nat.zero_add]; exact hR _ _ _ hC h.2
  | fuel + 1, listed, a, w, hC, h => by
    rw [show fuel + 1 + m = (fuel + m) + 1 by omega]
    exact ⟨fun h0 => absurd h0 h.1, fun i hi => wpOp_of_qOp hC (fun a' w' hw' h' => wpAny_of_N hR fuel _ a' w' hw' h') (h.2 i hi)⟩

/-- Some later operation, up to number n, waits for k itself. -/
def heir (md : Region.Mode) (ops : Array Oper) (n k : Nat) : Bool :=
  (List.range (n + 1)).any fun j => decide (k < j) && (match ops[j]? with | some o => o.after.toList.any fun e => Region.binds md e && e.on == k | none => false)

theorem heir_listed {n : Nat} {listed : Array Bool} {on : Oper} (hc : ∀ k, k < n → heir md ops n k = true) (hs : Shut md ops listed) (hon : ops[n]? = some on)
    (hall : ∀ e ∈ on.after, Region.binds md e = true → listed.getD e.on false = true) : ∀ d k, k + d = n → 0 < d → listed.getD k false = true := by
  intro d
  induction d using Nat.strongRecOn with
  | ind d ih =>
    intro k hk hd
    have h := hc k (by omega)
    simp only [heir, List.any_eq_true, List.mem_range, Bool.and_eq_true, decide_eq_true_eq] at h
    obtain ⟨j, hj, hkj, h⟩ := h
    cases hq : ops[j]? with
    | none => rw [hq] at h; cases h
    | some o =>
      rw [hq] at h
      simp only [List.any_eq_true, Array.mem_toList_iff, Bool.and_eq_true, beq_iff_eq] at h
      obtain ⟨e, he, hb, rfl⟩ := h
      by_cases hjn : j = n
      · subst hjn
        rw [hon] at hq
        cases hq
        exact hall e he hb
      · exact hs j o hq (ih (n - j) (by omega) j (by omega) (by omega)) e he hb

theorem wpAnyN_first {n i : Nat} {R : Array Bool → Act → Prop} {oi : Oper} {v : Value} (hi : ops[i]? = some oi) (hsel : ∀ (j : Nat) (o : Oper) cs b, ops[j]? = some o → o.op ≠ .select cs b)
    (hc : ∀ k, k < n → heir md ops n k = true) (hin : i < n) :
    ∀ (fuel : Nat) (listed : Array Bool) (a : Act),
      (∀ j oj, ops[j]? = some oj → j ≠ i → listed.getD j true = false → (∀ e ∈ oj.after, Region.binds md e = true → e.on ≠ i) → oi.apart ops oj = true) →
      i ∈ Region.ready md ops listed → Shut md ops listed → YieldsIn P ops C oi v a →
      wpAnyN P md ops C n R fuel (listed.setIfInBounds i true) (a.put oi.dst v) → wpAnyN P md ops C n R (fuel + 1) listed a := by
  intro fuel
  induction fuel with
  | zero =>
    intro listed a _ hr hsh hy H
    refine ⟨fun h => (by rw [h] at hr; cases hr), fun j hj => ?_⟩
    by_cases hji : j = i
    · subst hji; exact hy.qOp hi H
    · exfalso
      have := ready_mono hj hji
      rw [H.1] at this
      have hjn : j = n := by simpa using this
      subst hjn
      obtain ⟨_, oj, hoj, hall⟩ := mem_ready.1 hj
      have h1 := heir_listed hc hsh hoj hall (j - i) i (by omega) (by omega)
      have h0 := (mem_ready.1 hr).1
      rcases Nat.lt_or_ge i listed.size with h' | h'
      · simp [h'] at h0 h1; rw [h0] at h1; cases h1
      · simp [Array.getElem?_eq_none h'] at h1
  | succ fuel ih =>
    intro listed a hfree hr hsh hy H
    refine ⟨fun h => (by rw [h] at hr; cases hr), fun j hj => ?_⟩
    by_cases hji : j = i
    · subst hji; exact hy.qOp hi H
    · have h1 := H.2 j (ready_mono hj hji)
      obtain ⟨hjun, oj, hoj, hall⟩ := mem_ready.1 hj
      have hnot : ∀ e ∈ oj.after, Region.binds md e = true → e.on ≠ i := fun e he hb heq => by
        have h1 := hall e he hb
        have h0 := (mem_ready.1 hr).1
        rw [heq] at h1
        rcases Nat.lt_or_ge i listed.size with h' | h'
        · simp [h'] at h0 h1; rw [h0] at h1; cases h1
        · simp [Array.getElem?_eq_none h'] at h1
      have h2 := qOp_put hoj (hfree j oj hoj hji hjun hnot) (fun cs b => hsel i oi cs b hi) (fun cs b => hsel j oj cs b hoj) hy h1
      have hfree' : ∀ k ok, ops[k]? = some ok → k ≠ i → (listed.setIfInBounds j true).getD k true = false →
          (∀ e ∈ ok.after, Region.binds md e = true → e.on ≠ i) → oi.apart ops ok = true := fun k ok hk hki hun hno => by
        refine hfree k ok hk hki ?_ hno
        by_cases hjk : j = k
        · subst hjk; exact hjun
        · rw [getD_set_ne true hjk] at hun; exact hun
      refine qOp_mono (fun a' h3 => ih (listed.setIfInBounds j true) a' hfree' (ready_mono hr (Ne.symm hji)) (hsh.set hj) h3.1 ?_) h2
      rw [Array.setIfInBounds_comm _ _ hji]
      exact h3.2

/-- The first n operations may come in any order; all others wait for them, and come one by one. -/
def preFrom (md : Region.Mode) (ops : Array Oper) (n : Nat) : Nat → Nat → Array Bool → Bool
  | 0, _, listed => (Region.ready md ops listed == [n]) && tailFrom md ops (ops.size - n) n listed
  | m + 1, k, listed => (Region.ready md ops listed).contains k && Region.free md ops listed k && preFrom md ops n m (k + 1) (listed.setIfInBounds k true)
def preB (md : Region.Mode) (ops : Array Oper) (n : Nat) : Bool := Region.noSelect ops && (List.range n).all (heir md ops n) && preFrom md ops n n 0 (Array.replicate ops.size false)

theorem pre_ok {n : Nat} (hs : Region.noSelect ops = true) (hc : ∀ k, k < n → heir md ops n k = true) {T : List Oper} : ∀ (m : Nat) (l : List Oper) (k : Nat) (listed : Array Bool) (a : Act), (∀ j, l[j]? = ops[k + j]?) → k + m = n → Shut md ops listed → preFrom md ops n m k listed = true →
      l.drop m = T → wpQuiet P ops C (fun a' => ∀ w', C w' → wpList P ops Q T a' w') (l.take m) a →
      wpAnyN P md ops C n (fun listed a' => tailFrom md ops (ops.size - n) n listed = true ∧ ∀ w', C w' → wpList P ops Q T a' w') m listed a := by
  intro m
  induction m with
  | zero =>
    intro l k listed a _ _ _ hB _ h
    simp only [preFrom, Bool.and_eq_true, beq_iff_eq] at hB
    exact ⟨hB.1, hB.2, by simpa [wpQuiet] using h⟩
  | succ m ih =>
    intro l k listed a hl hk hsh hB hT h
    simp only [preFrom, Bool.and_eq_true] at hB
    obtain ⟨⟨hr, hf⟩, hB'⟩ := hB
    have hrk : k ∈ Region.ready md ops listed := by simpa using hr
    obtain ⟨_, o0, ho0, _⟩ := mem_ready.1 hrk
    cases l with
    | nil =>
      have : ops[k]? = none := by simpa using (hl 0).symm
      rw [this] at ho0
      cases ho0
    | cons o l =>
      have h0 : ops[k]? = some o := by simpa using (hl 0).symm
      simp only [List.take_succ_cons] at h
      have hst : qOp P ops C k (wpQuiet P ops C (fun a' => ∀ w', C w' → wpList P ops Q T a' w') (l.take m)) a := by unfold qOp; simp only [h0]; exact h
      obtain ⟨v, hy, hK⟩ := yieldsIn_of_qOp h0 hst
      exact wpAnyN_first h0 (Region.noSelect_spec hs) hc (by omega) m listed a (Region.free_spec h0 hf) hrk hsh hy
        (ih l (k + 1) _ _ (fun j => by have := hl (j + 1); simpa [Nat.add_assoc, Nat.add_comm 1 j] using this) (by omega) (hsh.set hrk) hB' (by simpa using hT) hK)

/-- One walk in the text's order serves every order. -/
theorem wp_region_tail {id : Nat} {a : Act} {w : World} {l : List Oper} (n : Nat) (hn : n ≤ l.length) (hm : P.follows .mixedOrders = true) (hB : preB .any l.toArray n = true) (hC : C w.drew)
    (h : wpQuiet P l.toArray C (fun a' => ∀ w', C w' → wpList P l.toArray Q (l.drop n) a' w') (l.take n) a) : (Code.region id l.toArray true).wp P Q a w := by
  simp only [preB, Bool.and_eq_true] at hB
  refine wp_region_any hm ?_
  have h1 := pre_ok (md := .any) (n := n) (Q := Q) (C := C) hB.1.1 (fun k hk => by have := hB.1.2; simp only [List.all_eq_true, List.mem_range] at this; exact this k hk) n l 0 (Array.replicate l.toArray.size false) a (by simp) (by omega) (shut_none _) hB.2 rfl h
  have h2 := wpAny_of_N (Q := Q) (m := (l.drop n).length) (fun listed a' w' hw' ⟨ht, hk⟩ => wpAny_of_F (C := fun _ => True) (loose := looseAt l.toArray n) _ _ _ _
    (tail_ok (n := n) (fun _ _ _ => trivial) (l.drop n) n listed a' w' (by simp) (Nat.le_refl _) (fun _ => trivial) (by simpa using ht) (hk w' hw'))) n _ a w.drew hC h1
  have e : n + (l.drop n).length = l.toArray.size := by simp; omega
  rw [e] at h2
  exact h2

/-- The same, in later worlds. -/
theorem wp_region_later_tail {id : Nat} {a : Act} {w : World} {l : List Oper} (n : Nat) (hn : n ≤ l.length) (hm : P.follows .mixedOrders = true) (hB : preB .any l.toArray n = true)
    (h : wpQuiet P l.toArray (fun w' => ∃ x : Later w, w' = x.val) (fun a' => ∀ w', (∃ x : Later w, w' = x.val) → wpList P l.toArray Q (l.drop n) a' w') (l.take n) a) : (Code.region id l.toArray true).wp P Q a w :=
  wp_region_tail (C := fun w' => ∃ x : Later w, w' = x.val) n hn hm hB ⟨⟨w.drew, (Below.refl _ _).drew⟩, rfl⟩ h

end
end Go.Proofs.Ytjgdplengfnkaaa
