/- Regions that draw their order: operations that only read may float; all others come one behind the other. One walk, the reading ones as early as can be, serves every order. -/
import Derived.Test.YtjgdplengfnkaaaReg
namespace Go.Proofs.Ytjgdplengfnkaaa
open Go.RowKit
set_option linter.unusedVariables false

section
variable {P : Program} {ops : Array Oper} {md : Region.Mode} {C : World → Prop} {Q : Exit → Act → World → Prop}

/-- Such an operation may be taken first, if whatever may still come ahead of it is loose. -/
theorem wpAnyF_early {loose : Nat → Bool} {i f : Nat} {oi : Oper} {v : Value} (hi : ops[i]? = some oi) (hsel : ∀ (j : Nat) (o : Oper) cs b, ops[j]? = some o → o.op ≠ .select cs b)
    (hQ : ∀ c a d v w, Q (.panic c) (a.put d v) w → Q (.panic c) a w) :
    ∀ (fuel : Nat) (listed : Array Bool) (a : Act) (w : World),
      (∀ j oj, ops[j]? = some oj → j ≠ i → listed.getD j true = false → waitsFor md ops f j i = true ∨ loose j = true) →
      (∀ j oj, ops[j]? = some oj → j ≠ i → listed.getD j true = false → (∀ e ∈ oj.after, Region.binds md e = true → e.on ≠ i) → oi.apart ops oj = true) →
      i ∈ Region.ready md ops listed → Shut md ops listed → Stays P ops C oi v a → C w →
      wpAnyF P md ops Q C loose fuel (listed.setIfInBounds i true) (a.put oi.dst v) w → wpAnyF P md ops Q C loose (fuel + 1) listed a w := by
  intro fuel
  induction fuel with
  | zero =>
    intro listed a w _ _ hr _ hy hC H
    refine ⟨fun h => (by rw [h] at hr; cases hr), fun j hj => ?_⟩
    by_cases hji : j = i
    · subst hji; exact hy.wpOp hi hC ⟨fun _ => hC, H⟩
    · have := ready_mono hj hji
      rw [H.1] at this
      cases this
  | succ fuel ih =>
    intro listed a w hl hfree hr hsh hy hC H
    refine ⟨fun h => (by rw [h] at hr; cases hr), fun j hj => ?_⟩
    by_cases hji : j = i
    · subst hji; exact hy.wpOp hi hC ⟨fun _ => hC, H⟩
    · have h1 := H.2 j (ready_mono hj hji)
      obtain ⟨hjun, oj, hoj, hall⟩ := mem_ready.1 hj
      have hiun : listed.getD i false = false := by
        have h0 := (mem_ready.1 hr).1
        rcases Nat.lt_or_ge i listed.size with h' | h'
        · simp [h'] at h0 ⊢; exact h0
        · simp [Array.getElem?_eq_none h']
      have hnot : ∀ e ∈ oj.after, Region.binds md e = true → e.on ≠ i := fun e he hb heq => by
        have h1 := hall e he hb
        rw [heq, hiun] at h1
        cases h1
      have hlo : loose j = true := by
        rcases hl j oj hoj hji hjun with h | h
        · have := waitsFor_listed hsh f j i oj hoj hall h
          rw [hiun] at this
          cases this
        · exact h
      have h2 := wpOp_putF (C := C) hoj (hfree j oj hoj hji hjun hnot) (fun cs b => hsel i oi cs b hi) (fun cs b => hsel j oj cs b hoj) hQ hy h1
      have hun' : ∀ k, (listed.setIfInBounds j true).getD k true = false → listed.getD k true = false := fun k hun => by
        by_cases hjk : j = k
        · subst hjk; exact hjun
        · rw [getD_set_ne true hjk] at hun; exact hun
      refine wpOp_mono (fun a' w' h3 => ⟨h3.2.1, ih (listed.setIfInBounds j true) a' w' (fun k ok hk hki hun => hl k ok hk hki (hun' k hun)) (fun k ok hk hki hun hno => hfree k ok hk hki (hun' k hun) hno) (ready_mono hr (Ne.symm hji)) (hsh.set hj) h3.1 (h3.2.1 hlo) ?_⟩) h2
      rw [Array.setIfInBounds_comm _ _ hji]
      exact h3.2.2

/-- Is there an operation that only reads and that may come ahead of j as well as behind it? -/
def looseOf (md : Region.Mode) (ops : Array Oper) (j : Nat) : Bool :=
  (List.range ops.size).any fun i => i != j && (match ops[i]? with | some o => calm o.op | none => false) && !waitsFor md ops ops.size j i && !waitsFor md ops ops.size i j

def mixFrom (md : Region.Mode) (ops : Array Oper) : List (Nat × Bool) → Array Bool → Bool
  | [], listed => (Region.ready md ops listed).isEmpty
  | (k, lo) :: is, listed => (lo == looseOf md ops k) && (match ops[k]? with
      | none => false
      | some o => if calm o.op then (Region.ready md ops listed).contains k && Region.free md ops listed k && ((List.range ops.size).all fun j => j == k || listed.getD j true || waitsFor md ops ops.size j k || looseOf md ops j)
        else Region.ready md ops listed == [k]) && mixFrom md ops is (listed.setIfInBounds k true)
def mixB (md : Region.Mode) (ops : Array Oper) (is : List (Nat × Bool)) : Bool := Region.noSelect ops && is.length == ops.size && mixFrom md ops is (Array.replicate ops.size false)

/-- The walk, in an order in which reading operations come as early as they can. The Boolean: is it loose? -/
def wpMix (P : Program) (ops : Array Oper) (C : World → Prop) (Q : Exit → Act → World → Prop) : List (Oper × Bool) → Act → World → Prop
  | [], a, w => Q .normal a w
  | (o, lo) :: rest, a, w => if calm o.op then ∃ v, Stays P ops C o v a ∧ C w ∧ wpMix P ops C Q rest (a.put o.dst v) w
      else wpList P ops (Exit.then (fun a' w' => (lo = true → C w') ∧ wpMix P ops C Q rest a' w') Q) [o] a w

def mixList (l : List Oper) : List (Nat × Bool) → List (Oper × Bool)
  | [] => []
  | (k, lo) :: is => match l[k]? with
    | some o => (o, lo) :: mixList l is
    | none => mixList l is

theorem mix_ok (hs : Region.noSelect ops = true) (hQ : ∀ c a d v w, Q (.panic c) (a.put d v) w → Q (.panic c) a w) : ∀ (is : List (Nat × Bool)) (listed : Array Bool) (a : Act) (w : World), Shut md ops listed →
    mixFrom md ops is listed = true → wpMix P ops C Q (mixList ops.toList is) a w → wpAnyF P md ops Q C (looseOf md ops) is.length listed a w := by
  intro is
  induction is with
  | nil =>
    intro listed a w _ hB h
    exact ⟨by simpa [mixFrom] using hB, by simpa [wpMix, mixList] using h⟩
  | cons p is ih =>
    obtain ⟨k, lo⟩ := p
    intro listed a w hsh hB h
    simp only [mixFrom, Bool.and_eq_true, beq_iff_eq] at hB
    obtain ⟨⟨rfl, hB1⟩, hB2⟩ := hB
    cases hk : ops[k]? with
    | none => rw [hk] at hB1; cases hB1
    | some o =>
      rw [hk] at hB1
      have e : mixList ops.toList ((k, looseOf md ops k) :: is) = (o, looseOf md ops k) :: mixList ops.toList is := by simp [mixList, hk]
      rw [e] at h
      by_cases hc : calm o.op = true
      · simp only [hc, if_true, Bool.and_eq_true] at hB1
        simp only [wpMix, hc, if_true] at h
        obtain ⟨⟨hr, hf⟩, hlo⟩ := hB1
        obtain ⟨v, hy, hC, h⟩ := h
        have hrk : k ∈ Region.ready md ops listed := by simpa using hr
        refine wpAnyF_early (f := ops.size) hk (Region.noSelect_spec hs) hQ is.length listed a w ?_ (Region.free_spec hk hf) hrk hsh hy hC (ih _ _ _ (hsh.set hrk) hB2 h)
        intro j oj hj hjk hun
        simp only [List.all_eq_true, List.mem_range, Bool.or_eq_true, beq_iff_eq] at hlo
        rcases hlo j (Array.getElem?_eq_some_iff.1 hj).1 with ((h | h) | h) | h
        · exact absurd h hjk
        · rw [hun] at h; cases h
        · exact .inl h
        · exact .inr h
      · simp only [hc, Bool.false_eq_true, if_false, beq_iff_eq] at hB1
        simp only [wpMix, hc, Bool.false_eq_true, if_false] at h
        have hrk : k ∈ Region.ready md ops listed := by rw [hB1]; simp
        refine ⟨fun h' => (by rw [hB1] at h'; cases h'), fun i hi => ?_⟩
        rw [hB1] at hi
        obtain rfl : i = k := by simpa using hi
        unfold wpOp
        simp only [hk]
        unfold wpList at h
        have hmono : ∀ a' w', wpList P ops (Exit.then (fun a' w' => (looseOf md ops i = true → C w') ∧ wpMix P ops C Q (mixList ops.toList is) a' w') Q) [] a' w' →
            (looseOf md ops i = true → C w') ∧ wpAnyF P md ops Q C (looseOf md ops) is.length (listed.setIfInBounds i true) a' w' := by
          intro a' w' h'
          unfold wpList at h'
          exact ⟨h'.1, ih _ _ _ (hsh.set hrk) hB2 h'.2⟩
        by_cases hw : Region.wanted o (yielded ops a.tmps) = true
        · rw [if_pos hw] at h ⊢
          rcases h with h | h
          · refine .inl ?_
            have h := Oper.wp_mono hmono h
            unfold Oper.wp at *
            generalize (execOp a.eval o).run P w = r at *
            cases r with
            | ok n w' =>
              cases n <;> simp only [Oper.upon] at h ⊢ <;> try exact h
            | halt x w' => cases x <;> simp only [Oper.upon] at h ⊢ <;> exact h
          · exact .inr h
        · rw [if_neg hw] at h ⊢
          exact hmono _ _ h

/-- One walk serves every order. -/
theorem wp_region_mix {id : Nat} {a : Act} {w : World} {l : List Oper} (is : List (Nat × Bool)) (hm : P.follows .mixedOrders = true) (hB : mixB .any l.toArray is = true)
    (hQ : ∀ c a d v w, Q (.panic c) (a.put d v) w → Q (.panic c) a w) 
    (h : wpMix P l.toArray C Q (mixList l is) a w.drew) : (Code.region id l.toArray true).wp P Q a w := by
  simp only [mixB, Bool.and_eq_true, beq_iff_eq] at hB
  refine wp_region_any hm (wpAny_of_F (C := C) (loose := looseOf .any l.toArray) _ _ _ _ ?_)
  have := mix_ok (md := .any) (C := C) hB.1.1 hQ is (Array.replicate l.toArray.size false) a w.drew (shut_none _) hB.2 h
  rw [hB.1.2] at this
  exact this

theorem wpMix_nil {a : Act} {w : World} (h : Q .normal a w) : wpMix P ops C Q [] a w := h
theorem wpMix_calm {o : Oper} {lo : Bool} {rest : List (Oper × Bool)} {a : Act} {w : World} (hcal : calm o.op = true) (hC : C w) (h : wpQuiet P ops C (fun a' => wpMix P ops C Q rest a' w) [o] a) : wpMix P ops C Q ((o, lo) :: rest) a w := by
  unfold wpMix
  rw [if_pos hcal]
  unfold wpQuiet at h
  by_cases hw : Region.wanted o (yielded ops a.tmps) = true
  · rw [if_pos hw] at h
    obtain ⟨v, h1, h2⟩ := h
    refine ⟨v, .inl ⟨hw, fun x hx => ?_⟩, hC, h2⟩
    have h3 := h1 x hx
    unfold Oper.quietAt at h3
    cases hq : (execOp a.eval o).run P x with
    | ok nx w2 =>
      obtain ⟨u, rfl⟩ := calm_value hcal hq
      rw [hq] at h3
      simp only [Oper.quietUpon] at h3
      rw [h3.1, h3.2]
    | halt x' w2 => rw [hq] at h3; simp only [Oper.quietUpon] at h3
  · rw [if_neg hw] at h
    exact ⟨undef, .inr ⟨by simpa using hw, rfl⟩, hC, h⟩
theorem wpMix_hard {o : Oper} {lo : Bool} {rest : List (Oper × Bool)} {a : Act} {w : World} (hcal : calm o.op = false)
    (h : ∀ K : Act → World → Prop, (∀ a' w', (lo = true → C w') → wpMix P ops C Q rest a' w' → K a' w') → wpList P ops (Exit.then K Q) [o] a w) : wpMix P ops C Q ((o, lo) :: rest) a w := by
  unfold wpMix
  simp only [hcal, Bool.false_eq_true, if_false]
  exact h _ (fun _ _ h1 h2 => ⟨h1, h2⟩)

end

theorem later_step {w v v' : World} (h : ∃ x : Later w, v = x.val) (hb : Below v.heap.size v v') : ∃ x : Later w, v' = x.val := by
  obtain ⟨x, rfl⟩ := h
  exact ⟨⟨v', x.below.trans (hb.mono x.below.size)⟩, rfl⟩
theorem later_below {w v : World} (h : ∃ x : Later w, v = x.val) : Below w.heap.size w v := by
  obtain ⟨x, rfl⟩ := h
  exact x.below
theorem later_drew (w : World) : ∃ x : Later w, w.drew = x.val := ⟨⟨w.drew, (Below.refl _ _).drew⟩, rfl⟩
theorem later_drewN {w v : World} (h : ∃ x : Later w, v = x.val) (q : Nat) : ∃ x : Later w, v.drewN q = x.val := by
  obtain ⟨x, rfl⟩ := h
  exact ⟨⟨_, by have := x.below; exact ⟨this.os, this.tape, this.output, by simpa using this.size, by simpa using this.block⟩⟩, rfl⟩

/-- What the worlds of a region have in common: nothing but some blocks differs. -/
structure Near (L : List Nat) (w : World) where
  val : World
  size : w.heap.size ≤ val.heap.size
  block : ∀ k, k < w.heap.size → k ∉ L → val.heap[k]? = w.heap[k]?
instance (L : List Nat) (w : World) : Nonempty (Near L w) := ⟨⟨w, Nat.le_refl _, fun _ _ _ => rfl⟩⟩
theorem near_cell {L : List Nat} {w : World} {p : Addr} {v : Value} (h : w.cell? p = some v) (hL : p.block ∉ L) (x : Near L w) : x.val.cell? p = some v := by
  have := x.block p.block (World.block_lt_of_cell? _ _ h) hL
  unfold World.cell? at *
  rw [this]; exact h

end Go.Proofs.Ytjgdplengfnkaaa
