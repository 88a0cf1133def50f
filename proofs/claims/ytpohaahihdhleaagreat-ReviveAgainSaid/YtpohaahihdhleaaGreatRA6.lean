/- Parts of the proof, one behind the other: Tr, Rw, Qv, Lv, Vf, K, Cz, L, Zq, Pu, Va, Vb, Vc, Vd, Ve. -/
import Derived.Test.YtpohaahihdhleaaGreatRA5
import Derived.BigQuiet
import Derived.Deep.Cut
set_option linter.unusedVariables false
namespace Go.Proofs.YtpohaahihdhleaaGreat
open Go.RowKit
inductive Tr where
 | nil
 | fl (ks : List Nat) (t : Tr)
 | pu (ks : List Nat) (t : Tr)
 | sq (ks : List Nat) (lo : Bool) (t : Tr)
 | br (k1 : Nat) (lo1 : Bool) (t1 : Tr) (k2 : Nat) (lo2 : Bool) (t2 : Tr)
inductive TrO where
 | nil
 | fl (os : List Oper) (t : TrO)
 | pu (os : List Oper) (t : TrO)
 | sq (os : List Oper) (lo : Bool) (t : TrO)
 | br (os1 : List Oper) (lo1 : Bool) (t1 : TrO) (os2 : List Oper) (lo2 : Bool) (t2 : TrO)
def isLoad : Op → Bool
 | .load .. => true
 | _ => false
section
variable {P : Program} {ops : Array Oper} {md : Region.Mode} {C : World → Prop} {Q : Exit → Act → World → Prop}
theorem wpAnyF_pure {loose : Nat → Bool} {i : Nat} {oi : Oper} {v : Value} (hi : ops[i]? = some oi) (hsel : ∀ (j : Nat) (o : Oper) cs b, ops[j]? = some o → o.op ≠ .select cs b)
  (hQ : ∀ c a d v w, Q (.panic c) (a.put d v) w → Q (.panic c) a w) (hlo : loose i = false) :
  ∀ (fuel : Nat) (listed : Array Bool) (a : Act) (w : World),
   (∀ j oj, ops[j]? = some oj → j ≠ i → listed.getD j true = false → (∀ e ∈ oj.after, Region.binds md e = true → e.on ≠ i) → oi.apart ops oj = true) →
   i ∈ Region.ready md ops listed → Stays P ops (fun _ => True) oi v a →
   wpAnyF P md ops Q C loose fuel (listed.setIfInBounds i true) (a.put oi.dst v) w → wpAnyF P md ops Q C loose (fuel + 1) listed a w := by
 intro fuel
 induction fuel with
 | zero =>
  intro listed a w _ hr hy H
  refine ⟨fun h => (by rw [h] at hr; cases hr), fun j hj => ?_⟩
  by_cases hji : j = i
  ·subst hji; exact hy.wpOp hi trivial ⟨fun h => (by rw [hlo] at h; cases h), H⟩
  ·have := ready_mono hj hji
   rw [H.1] at this
   cases this
 | succ fuel ih =>
  intro listed a w hfree hr hy H
  refine ⟨fun h => (by rw [h] at hr; cases hr), fun j hj => ?_⟩
  by_cases hji : j = i
  ·subst hji; exact hy.wpOp hi trivial ⟨fun h => (by rw [hlo] at h; cases h), H⟩
  ·have h1 := H.2 j (ready_mono hj hji)
   obtain ⟨hjun, oj, hoj, hall⟩ := mem_ready.1 hj
   have hiun : listed.getD i false = false := by
    have h0 := (mem_ready.1 hr).1
    rcases Nat.lt_or_ge i listed.size with h' | h'
    ·simp [h'] at h0 ⊢; exact h0
    ·simp [Array.getElem?_eq_none h']
   have hnot : ∀ e ∈ oj.after, Region.binds md e = true → e.on ≠ i := fun e he hb heq => by
    have h1 := hall e he hb
    rw [heq, hiun] at h1
    cases h1
   have h2 := wpOp_putF (C := fun _ => True) hoj (hfree j oj hoj hji hjun hnot) (fun cs b => hsel i oi cs b hi) (fun cs b => hsel j oj cs b hoj) hQ hy h1
   have hun' : ∀ k, (listed.setIfInBounds j true).getD k true = false → listed.getD k true = false := fun k hun => by
    by_cases hjk : j = k
    ·subst hjk; exact hjun
    ·rw [getD_set_ne true hjk] at hun; exact hun
   refine wpOp_mono (fun a' w' h3 => ⟨h3.2.1, ih (listed.setIfInBounds j true) a' w' (fun k ok hk hki hun hno => hfree k ok hk hki (hun' k hun) hno) (ready_mono hr (Ne.symm hji)) h3.1 ?_⟩) h2
   rw [Array.setIfInBounds_comm _ _ hji]
   exact h3.2.2
def looseL (md : Region.Mode) (ops : Array Oper) (j : Nat) : Bool :=
 (List.range ops.size).any fun i => i != j && (match ops[i]? with | some o => isLoad o.op | none => false) && !waitsFor md ops ops.size j i && !waitsFor md ops ops.size i j
def flL (md : Region.Mode) (ops : Array Oper) : List Nat → Array Bool → Bool × Array Bool
 | [], listed => (true, listed)
 | k :: ks, listed => match ops[k]? with
  | none => (false, listed)
  | some o => let r := flL md ops ks (listed.setIfInBounds k true)
   (calm o.op && (Region.ready md ops listed).contains k && Region.free md ops listed k && ((List.range ops.size).all fun j => j == k || listed.getD j true || waitsFor md ops ops.size j k || looseL md ops j) && r.1, r.2)
def puL (md : Region.Mode) (ops : Array Oper) : List Nat → Array Bool → Bool × Array Bool
 | [], listed => (true, listed)
 | k :: ks, listed => match ops[k]? with
  | none => (false, listed)
  | some o => let r := puL md ops ks (listed.setIfInBounds k true)
   (calm o.op && (Region.ready md ops listed).contains k && Region.free md ops listed k && !looseL md ops k && r.1, r.2)
def sqL (md : Region.Mode) (ops : Array Oper) (lo : Bool) : List Nat → Array Bool → Bool × Array Bool
 | [], listed => (true, listed)
 | k :: ks, listed => match ops[k]? with
  | none => (false, listed)
  | some _ => let r := sqL md ops lo ks (listed.setIfInBounds k true)
   (Region.ready md ops listed == [k] && (!looseL md ops k || (lo && ks.isEmpty)) && r.1, r.2)
def trLen : Tr → Nat
 | .nil => 0
 | .fl ks t => trLen t + ks.length
 | .pu ks t => trLen t + ks.length
 | .sq ks _ t => trLen t + ks.length
 | .br _ _ t1 _ _ _ => trLen t1 + 1
def trL (md : Region.Mode) (ops : Array Oper) : Tr → Array Bool → Bool
 | .nil, listed => (Region.ready md ops listed).isEmpty
 | .fl ks t, listed => let x := flL md ops ks listed; x.1 && trL md ops t x.2
 | .pu ks t, listed => let x := puL md ops ks listed; x.1 && trL md ops t x.2
 | .sq ks lo t, listed => let x := sqL md ops lo ks listed; x.1 && trL md ops t x.2
 | .br k1 lo1 t1 k2 lo2 t2, listed => Region.ready md ops listed == [k1, k2] && (!looseL md ops k1 || lo1) && (!looseL md ops k2 || lo2) && trLen t1 == trLen t2 && (ops[k1]?).isSome && (ops[k2]?).isSome &&
   trL md ops t1 (listed.setIfInBounds k1 true) && trL md ops t2 (listed.setIfInBounds k2 true)
def trB (md : Region.Mode) (ops : Array Oper) (t : Tr) : Bool := Region.noSelect ops && trLen t == ops.size && trL md ops t (Array.replicate ops.size false)
def trO (l : List Oper) : Tr → TrO
 | .nil => .nil
 | .fl ks t => .fl (picks l ks) (trO l t)
 | .pu ks t => .pu (picks l ks) (trO l t)
 | .sq ks lo t => .sq (picks l ks) lo (trO l t)
 | .br k1 lo1 t1 k2 lo2 t2 => .br (picks l [k1]) lo1 (trO l t1) (picks l [k2]) lo2 (trO l t2)
def wpTr (P : Program) (ops : Array Oper) (C : World → Prop) (Q : Exit → Act → World → Prop) : TrO → Act → World → Prop
 | .nil, a, w => Q .normal a w
 | .fl os t, a, w => C w ∧ wpQuiet P ops C (fun a' => wpTr P ops C Q t a' w) os a
 | .pu os t, a, w => wpQuiet P ops (fun _ => True) (fun a' => wpTr P ops C Q t a' w) os a
 | .sq os lo t, a, w => wpList P ops (Exit.then (fun a' w' => (lo = true → C w') ∧ wpTr P ops C Q t a' w') Q) os a w
 | .br os1 lo1 t1 os2 lo2 t2, a, w => wpList P ops (Exit.then (fun a' w' => (lo1 = true → C w') ∧ wpTr P ops C Q t1 a' w') Q) os1 a w ∧ wpList P ops (Exit.then (fun a' w' => (lo2 = true → C w') ∧ wpTr P ops C Q t2 a' w') Q) os2 a w
theorem stays_of {C : World → Prop} {o : Oper} {a : Act} {K : Act → Prop} {ks : List Oper} (hcalm : calm o.op = true) (h : wpQuiet P ops C K (o :: ks) a) : ∃ v, Stays P ops C o v a ∧ wpQuiet P ops C K ks (a.put o.dst v) := by
 simp only [wpQuiet] at h
 by_cases hw : Region.wanted o (yielded ops a.tmps) = true
 ·rw [if_pos hw] at h
  obtain ⟨v, h1, h2⟩ := h
  refine ⟨v, .inl ⟨hw, fun x hx => ?_⟩, h2⟩
  have h3 := h1 x hx
  unfold Oper.quietAt at h3
  cases hq : (execOp a.eval o).run P x with
  | ok nx w2 =>
   obtain ⟨u, rfl⟩ := calm_value hcalm hq
   rw [hq] at h3
   simp only [Oper.quietUpon] at h3
   rw [h3.1, h3.2]
  | halt x' w2 => rw [hq] at h3; simp only [Oper.quietUpon] at h3
 ·rw [if_neg hw] at h
  exact ⟨undef, .inr ⟨by simpa using hw, rfl⟩, h⟩
theorem flL_ok (hs : Region.noSelect ops = true) (hQ : ∀ c a d v w, Q (.panic c) (a.put d v) w → Q (.panic c) a w) {m : Nat} {R : Act → Prop} {w : World} (hC : C w) : ∀ (ks : List Nat) (listed : Array Bool) (a : Act), Shut md ops listed → (flL md ops ks listed).1 = true →
  (∀ a', Shut md ops (flL md ops ks listed).2 → R a' → wpAnyF P md ops Q C (looseL md ops) m (flL md ops ks listed).2 a' w) →
  wpQuiet P ops C R (picks ops.toList ks) a → wpAnyF P md ops Q C (looseL md ops) (m + ks.length) listed a w := by
 intro ks
 induction ks with
 | nil =>
  intro listed a hsh _ hR h
  exact hR a hsh (by simpa [picks, wpQuiet] using h)
 | cons k ks ih =>
  intro listed a hsh hB hR h
  cases hk : ops[k]? with
  | none => simp [flL, hk] at hB
  | some o =>
   have e : picks ops.toList (k :: ks) = o :: picks ops.toList ks := by simp [picks, hk]
   rw [e] at h
   simp only [flL, hk, Bool.and_eq_true] at hB hR
   obtain ⟨⟨⟨⟨hc, hr⟩, hf⟩, hlo⟩, hB'⟩ := hB
   have hrk : k ∈ Region.ready md ops listed := by simpa using hr
   obtain ⟨v, hy, hK⟩ := stays_of hc h
   refine wpAnyF_early (f := ops.size) hk (Region.noSelect_spec hs) hQ (m + ks.length) listed a w ?_ (Region.free_spec hk hf) hrk hsh hy hC (ih _ _ (hsh.set hrk) hB' hR hK)
   intro j oj hj hjk hun
   simp only [List.all_eq_true, List.mem_range, Bool.or_eq_true, beq_iff_eq] at hlo
   rcases hlo j (Array.getElem?_eq_some_iff.1 hj).1 with ((h | h) | h) | h
   ·exact absurd h hjk
   ·rw [hun] at h; cases h
   ·exact .inl h
   ·exact .inr h
theorem puL_ok (hs : Region.noSelect ops = true) (hQ : ∀ c a d v w, Q (.panic c) (a.put d v) w → Q (.panic c) a w) {m : Nat} {R : Act → Prop} {w : World} : ∀ (ks : List Nat) (listed : Array Bool) (a : Act), Shut md ops listed → (puL md ops ks listed).1 = true →
  (∀ a', Shut md ops (puL md ops ks listed).2 → R a' → wpAnyF P md ops Q C (looseL md ops) m (puL md ops ks listed).2 a' w) →
  wpQuiet P ops (fun _ => True) R (picks ops.toList ks) a → wpAnyF P md ops Q C (looseL md ops) (m + ks.length) listed a w := by
 intro ks
 induction ks with
 | nil =>
  intro listed a hsh _ hR h
  exact hR a hsh (by simpa [picks, wpQuiet] using h)
 | cons k ks ih =>
  intro listed a hsh hB hR h
  cases hk : ops[k]? with
  | none => simp [puL, hk] at hB
  | some o =>
   have e : picks ops.toList (k :: ks) = o :: picks ops.toList ks := by simp [picks, hk]
   rw [e] at h
   simp only [puL, hk, Bool.and_eq_true, Bool.not_eq_true'] at hB hR
   obtain ⟨⟨⟨⟨hc, hr⟩, hf⟩, hlo⟩, hB'⟩ := hB
   have hrk : k ∈ Region.ready md ops listed := by simpa using hr
   obtain ⟨v, hy, hK⟩ := stays_of hc h
   exact wpAnyF_pure hk (Region.noSelect_spec hs) hQ hlo (m + ks.length) listed a w (Region.free_spec hk hf) hrk hy (ih _ _ (hsh.set hrk) hB' hR hK)
theorem oneL_ok {m : Nat} {lo : Bool} {R : Act → World → Prop} {k : Nat} {o : Oper} (hk : ops[k]? = some o) {L : Array Bool} {a : Act} {w : World} (hlo : looseL md ops k = true → lo = true)
  (hR : ∀ a' w', (lo = true → C w') → R a' w' → wpAnyF P md ops Q C (looseL md ops) m L a' w')
  (h : wpList P ops (Exit.then (fun a' w' => (lo = true → C w') ∧ R a' w') Q) [o] a w) : wpOp P ops Q k (fun a' w' => (looseL md ops k = true → C w') ∧ wpAnyF P md ops Q C (looseL md ops) m L a' w') a w := by
 unfold wpOp
 simp only [hk]
 unfold wpList at h
 have hmono : ∀ a' w', wpList P ops (Exit.then (fun a' w' => (lo = true → C w') ∧ R a' w') Q) [] a' w' → (looseL md ops k = true → C w') ∧ wpAnyF P md ops Q C (looseL md ops) m L a' w' := by
  intro a' w' h'
  have h' : (lo = true → C w') ∧ R a' w' := by simpa [wpList, Exit.then] using h'
  exact ⟨fun hl => h'.1 (hlo hl), hR a' w' h'.1 h'.2⟩
 by_cases hw : Region.wanted o (yielded ops a.tmps) = true
 ·rw [if_pos hw] at h ⊢
  rcases h with h | h
  ·refine .inl ?_
   have h := Oper.wp_mono hmono h
   unfold Oper.wp at *
   generalize (execOp a.eval o).run P w = r at *
   cases r with
   | ok n w' => cases n <;> simp only [Oper.upon] at h ⊢ <;> exact h
   | halt x w' => cases x <;> simp only [Oper.upon] at h ⊢ <;> exact h
  ·exact .inr h
 ·rw [if_neg hw] at h ⊢
  exact hmono _ _ h
theorem sqL_ok {m : Nat} {lo : Bool} {R : Act → World → Prop} : ∀ (ks : List Nat) (listed : Array Bool) (a : Act) (w : World), Shut md ops listed → (sqL md ops lo ks listed).1 = true →
  (∀ a' w', Shut md ops (sqL md ops lo ks listed).2 → (lo = true → C w') → R a' w' → wpAnyF P md ops Q C (looseL md ops) m (sqL md ops lo ks listed).2 a' w') →
  wpList P ops (Exit.then (fun a' w' => (lo = true → C w') ∧ R a' w') Q) (picks ops.toList ks) a w → wpAnyF P md ops Q C (looseL md ops) (m + ks.length) listed a w := by
 intro ks
 induction ks with
 | nil =>
  intro listed a w hsh _ hR h
  have h : (lo = true → C w) ∧ R a w := by simpa [picks, wpList, Exit.then] using h
  exact hR a w hsh h.1 h.2
 | cons k ks ih =>
  intro listed a w hsh hB hR h
  cases hk : ops[k]? with
  | none => simp [sqL, hk] at hB
  | some o =>
   have e : picks ops.toList (k :: ks) = o :: picks ops.toList ks := by simp [picks, hk]
   rw [e] at h
   simp only [sqL, hk, Bool.and_eq_true, beq_iff_eq] at hB hR
   obtain ⟨⟨hr, hlo⟩, hB'⟩ := hB
   have hrk : k ∈ Region.ready md ops listed := by rw [hr]; simp
   refine ⟨fun h' => (by rw [hr] at h'; cases h'), fun i hi => ?_⟩
   rw [hr] at hi
   obtain rfl : i = k := by simpa using hi
   unfold wpOp
   simp only [hk]
   unfold wpList at h
   have hmono : ∀ a' w', wpList P ops (Exit.then (fun a' w' => (lo = true → C w') ∧ R a' w') Q) (picks ops.toList ks) a' w' →
     (looseL md ops i = true → C w') ∧ wpAnyF P md ops Q C (looseL md ops) (m + ks.length) (listed.setIfInBounds i true) a' w' := by
    intro a' w' h'
    refine ⟨fun hl => ?_, ih _ _ _ (hsh.set hrk) hB' hR h'⟩
    simp only [hl, Bool.not_true, Bool.false_or, Bool.and_eq_true, List.isEmpty_iff] at hlo
    obtain ⟨hlo1, rfl⟩ := hlo
    have h' : (lo = true → C w') ∧ R a' w' := by simpa [picks, wpList, Exit.then] using h'
    exact h'.1 hlo1
   by_cases hw : Region.wanted o (yielded ops a.tmps) = true
   ·rw [if_pos hw] at h ⊢
    rcases h with h | h
    ·refine .inl ?_
     have h := Oper.wp_mono hmono h
     unfold Oper.wp at *
     generalize (execOp a.eval o).run P w = r at *
     cases r with
     | ok n w' => cases n <;> simp only [Oper.upon] at h ⊢ <;> exact h
     | halt x w' => cases x <;> simp only [Oper.upon] at h ⊢ <;> exact h
    ·exact .inr h
   ·rw [if_neg hw] at h ⊢
    exact hmono _ _ h
theorem tr_ok (hs : Region.noSelect ops = true) (hQ : ∀ c a d v w, Q (.panic c) (a.put d v) w → Q (.panic c) a w) : ∀ (t : Tr) (listed : Array Bool) (a : Act) (w : World), Shut md ops listed →
  trL md ops t listed = true → wpTr P ops C Q (trO ops.toList t) a w → wpAnyF P md ops Q C (looseL md ops) (trLen t) listed a w := by
 intro t
 induction t with
 | nil =>
  intro listed a w _ hB h
  exact ⟨by simpa [trL] using hB, by simpa [wpTr, trO] using h⟩
 | fl ks t ih =>
  intro listed a w hsh hB h
  simp only [trL, Bool.and_eq_true] at hB
  simp only [trO, wpTr] at h
  exact flL_ok hs hQ h.1 ks listed a hsh hB.1 (fun a' hsh' hR => ih _ a' w hsh' hB.2 hR) h.2
 | pu ks t ih =>
  intro listed a w hsh hB h
  simp only [trL, Bool.and_eq_true] at hB
  simp only [trO, wpTr] at h
  exact puL_ok hs hQ ks listed a hsh hB.1 (fun a' hsh' hR => ih _ a' w hsh' hB.2 hR) h
 | sq ks lo t ih =>
  intro listed a w hsh hB h
  simp only [trL, Bool.and_eq_true] at hB
  simp only [trO, wpTr] at h
  exact sqL_ok ks listed a w hsh hB.1 (fun a' w' hsh' _ hR => ih _ a' w' hsh' hB.2 hR) h
 | br k1 lo1 t1 k2 lo2 t2 ih1 ih2 =>
  intro listed a w hsh hB h
  simp only [trL, Bool.and_eq_true, beq_iff_eq] at hB
  obtain ⟨⟨⟨⟨⟨⟨⟨hr, hl1⟩, hl2⟩, hlen⟩, ho1⟩, ho2⟩, hB1⟩, hB2⟩ := hB
  obtain ⟨o1, ho1⟩ := Option.isSome_iff_exists.1 ho1
  obtain ⟨o2, ho2⟩ := Option.isSome_iff_exists.1 ho2
  simp only [trO, wpTr] at h
  have e1 : picks ops.toList [k1] = [o1] := by simp [picks, ho1]
  have e2 : picks ops.toList [k2] = [o2] := by simp [picks, ho2]
  rw [e1, e2] at h
  refine ⟨fun h' => (by rw [hr] at h'; cases h'), fun i hi => ?_⟩
  have hri := hi
  rw [hr] at hi
  simp only [List.mem_cons, List.not_mem_nil, or_false] at hi
  rcases hi with rfl | rfl
  ·exact oneL_ok ho1 (fun hl => by simpa [hl] using hl1) (fun a' w' _ hR => ih1 _ a' w' (hsh.set hri) hB1 hR) h.1
  ·exact oneL_ok ho2 (fun hl => by simpa [hl] using hl2) (fun a' w' _ hR => by have := ih2 _ a' w' (hsh.set hri) hB2 hR; rw [← hlen] at this; exact this) h.2
theorem wp_region_tr {id : Nat} {a : Act} {w : World} {l : List Oper} (t : Tr) (hm : P.follows .mixedOrders = true) (hB : trB .any l.toArray t = true)
  (hQ : ∀ c a d v w, Q (.panic c) (a.put d v) w → Q (.panic c) a w)
  (h : wpTr P l.toArray C Q (trO l t) a w.drew) : (Code.region id l.toArray true).wp P Q a w := by
 simp only [trB, Bool.and_eq_true, beq_iff_eq] at hB
 refine wp_region_any hm (wpAny_of_F (C := C) (loose := looseL .any l.toArray) _ _ _ _ ?_)
 have := tr_ok (md := .any) (C := C) hB.1.1 hQ t (Array.replicate l.toArray.size false) a w.drew (shut_none _) hB.2 h
 rw [hB.1.2] at this
 exact this
theorem wpTr_fl {os : List Oper} {t : TrO} {a : Act} {w : World} (hC : C w) (h : wpQuiet P ops C (fun a' => wpTr P ops C Q t a' w) os a) : wpTr P ops C Q (.fl os t) a w := ⟨hC, h⟩
theorem wpTr_pu {os : List Oper} {t : TrO} {a : Act} {w : World} (h : wpQuiet P ops (fun _ => True) (fun a' => wpTr P ops C Q t a' w) os a) : wpTr P ops C Q (.pu os t) a w := h
theorem wpTr_sq {os : List Oper} {lo : Bool} {t : TrO} {a : Act} {w : World}
  (h : ∀ K : Act → World → Prop, (∀ a' w', (lo = true → C w') → wpTr P ops C Q t a' w' → K a' w') → wpList P ops (Exit.then K Q) os a w) : wpTr P ops C Q (.sq os lo t) a w :=
 h _ (fun _ _ h1 h2 => ⟨h1, h2⟩)
theorem wpTr_br {os1 os2 : List Oper} {lo1 lo2 : Bool} {t1 t2 : TrO} {a : Act} {w : World} (h1 : wpTr P ops C Q (.sq os1 lo1 t1) a w) (h2 : wpTr P ops C Q (.sq os2 lo2 t2) a w) : wpTr P ops C Q (.br os1 lo1 t1 os2 lo2 t2) a w := ⟨h1, h2⟩
theorem wpTr_last {os : List Oper} {a : Act} {w : World} (h : wpList P ops Q os a w) : wpTr P ops C Q (.sq os false .nil) a w := by
 unfold wpTr
 have e : (fun a' w' => (false = true → C w') ∧ wpTr P ops C Q .nil a' w') = Q .normal := by
  funext a' w'
  simp [wpTr]
 rw [e, exit_then_self]
 exact h
end
section
variable {P : Program} {C : World → Prop} {ops : Array Oper} {rest : List Oper} {o : Oper} {a : Act}
theorem wpQuiet_load_arr {Q : Act → Prop} {ty : TypeId} {zs : Array Value} (A : Agg P ty zs) {p : Operand} {g off : Nat} (D : Array Value) (hc : ∀ w, C w → ∀ i v, D.toList[i]? = some v → w.cell? ⟨g, off + i, none⟩ = some v) (hs : D.size = zs.size)
  (hgd : o.guard = none) (ho : o.op = .load ty p) (hp : a.eval p = .pointer (some ⟨g, off, none⟩))
  (hK : wpQuiet P ops C Q rest (a.put o.dst (.agg D))) : wpQuiet P ops C Q (o :: rest) a := by
 have hw : Region.wanted o (yielded ops a.tmps) = true := by simp [Region.wanted, hgd]
 unfold wpQuiet
 rw [if_pos hw]
 refine ⟨_, fun w hC => ?_, hK⟩
 obtain ⟨d, hu, hd⟩ := A.desc
 have hl : (loadCells ⟨g, off, none⟩ D.toList.length).run P w = .ok D.toList.toArray w := run_loadCells_list (P := P) w ⟨g, off, none⟩ D.toList (fun j v hv => by rw [add_none]; exact hc w hC j v hv)
 rw [Array.length_toList, Array.toArray_toList] at hl
 have hagg : (isAgg ty).run P w = .ok true w := by
  unfold isAgg
  rw [Sem.run_bind, run_underlying hu w]
  cases d <;> simp_all
 have hsz := A.size
 have hr : (loadVar ty ⟨g, off, none⟩).run P w = .ok (.agg D) w := by
  cases hq : P.info? ty with
  | none => simp [hq] at hsz
  | some inf =>
   have e : inf.size = D.size := by simp [hq] at hsz; rw [hsz, hs]
   simp [loadVar, hagg, sizeOf, typeInfo, hq, e, hl]
 have hr2 : (Instr.loadAt ty (.pointer (some ⟨g, off, none⟩))).run P w = .ok (.agg D) w := by
  simp only [Instr.loadAt, Instr.sureAddr, Sem.run_bind, Sem.run_pure, Result.andThen]
  exact hr
 unfold Oper.quietAt
 simp only [execOp, ho, hp]
 simp only [Sem.run_bind, hr2, Result.andThen, Sem.run_pure, Oper.quietUpon, and_self]
variable {Q : Exit → Act → World → Prop} {w W : World} {L : List Ent}
theorem wpList_load_arr {ty : TypeId} {zs : Array Value} (A : Agg P ty zs) {p : Operand} {g off : Nat} (D : Array Value) (hc : ∀ i v, D.toList[i]? = some v → W.cell? ⟨g, off + i, none⟩ = some v) (hs : D.size = zs.size)
  (hgd : o.guard = none) (ho : o.op = .load ty p) (hp : a.eval p = .pointer (some ⟨g, off, none⟩))
  (hK : wpList P ops Q rest (a.put o.dst (.agg D)) W) : wpList P ops Q (o :: rest) a W :=
 wpList_load_part A D.toList hc (by simpa using hs) hgd ho hp (by simpa using hK)
theorem wpList_load_box {ty : TypeId} {zs : Array Value} (A : Agg P ty zs) (h : Mem w W L) (k : Nat) {p : Operand} {g e : Nat} {D : Array Value} {ex : Bool} (hk : L[k]? = some ⟨g, e, D.toList, ex⟩) (hs : D.size = zs.size)
  (hgd : o.guard = none) (ho : o.op = .load ty p) (hp : a.eval p = .pointer (some ⟨g, 0, none⟩))
  (hK : wpList P ops Q rest (a.put o.dst (.agg D)) W) : wpList P ops Q (o :: rest) a W :=
 wpList_load_arr A D (fun i v hi => by rw [Nat.zero_add]; exact h.cell k i hk hi) hs hgd ho hp hK
end
theorem RAt.arr {w : World} {D : Array Value} {m : Nat} {R : RDev} (h : RAt w (.agg D) m R) : D.size = 8 ∧ D.toList.all (·.oneCell') = true := by
 obtain ⟨an, cn, al, cl, aw, cw, ad, cd, ap, cp, he, _⟩ := h.ex
 cases he
 exact ⟨rfl, rfl⟩
theorem RAt.agg {w : World} {v : Value} {m : Nat} {R : RDev} (h : RAt w v m R) : ∃ D, v = .agg D := by
 obtain ⟨an, cn, al, cl, aw, cw, ad, cd, ap, cp, he, _⟩ := h.ex
 exact ⟨_, he⟩
def skipL (a : Nat) (g : Nat → Nat) (k : Nat) : List (Nat × Nat) := ((List.range' k (16 - k)).filter (fun j => j % 8 != 0)).map (fun j => (a + j, g j))
theorem skipL_skip (a : Nat) (g : Nat → Nat) {k : Nat} (h : k < 16) (hm : k % 8 = 0) : skipL a g k = skipL a g (k + 1) := by
 unfold skipL
 rw [show 16 - k = (16 - (k + 1)) + 1 by omega, List.range'_succ, List.filter_cons_of_neg (by simp [hm])]
theorem skipL_cons (a : Nat) (g : Nat → Nat) {k : Nat} (h : k < 16) (hm : k % 8 ≠ 0) : skipL a g k = (a + k, g k) :: skipL a g (k + 1) := by
 unfold skipL
 rw [show 16 - k = (16 - (k + 1)) + 1 by omega, List.range'_succ, List.filter_cons_of_pos (by simp [hm])]
 rfl
theorem skipL_end (a : Nat) (g : Nat → Nat) : skipL a g 16 = [] := rfl
def slotL (a : Nat) (g : Nat → Nat) : List (Nat × Nat) := skipL a g 0 ++ [(a, g 0), (a + 8, g 8)]
def Dev.writeSlot (S : Dev) (a ep : Nat) (rs : List Int) : Done := (S.stores (slotL a (fun k => (slotW ep rs).getD k 0))).bind (fun S => S.persist (a : Int) 16)
theorem slotW_lt {ep : Nat} {rs : List Int} (hep : ep < 18446744073709551616) (k : Nat) : (slotW ep rs).getD k 0 < 18446744073709551616 := by
 rw [List.getD_eq_getElem?_getD]
 cases h : (slotW ep rs)[k]? with
 | none => simp
 | some x =>
  have hm := List.mem_of_getElem? h
  show x < _
  unfold slotW at hm
  split at hm
  ·rename_i hr
   have hw0 := wordsN_lt (slotH ep (rs.map Int.toNat) 0)
   have hw1 := wordsN_lt (slotH ep (rs.map Int.toNat) 1)
   have hg : ∀ i, (rs.map Int.toNat).getD i 0 < 131072 := fun i => by
    rw [List.getD_eq_getElem?_getD]
    cases hx : (rs.map Int.toNat)[i]? with
    | none => simp
    | some y =>
     obtain ⟨r, hr1, rfl⟩ := List.mem_map.1 (List.mem_of_getElem? hx)
     obtain ⟨n, rfl, hn⟩ := slotR_nat hr r hr1
     simpa using hn
   have hh : ∀ n, n ≤ 1 → ∀ z ∈ slotLn ep (rs.map Int.toNat) n, z < 18446744073709551616 := fun n hn z hz => by
    unfold slotLn at hz
    rcases List.mem_append.1 hz with hz | hz
    ·unfold slotH at hz
     simp only [List.mem_cons, List.not_mem_nil, or_false] at hz
     have g0 := hg (4 * n)
     have g1 := hg (4 * n + 1)
     have g2 := hg (4 * n + 2)
     have g3 := hg (4 * n + 3)
     rcases hz with rfl | rfl | rfl | rfl | rfl | rfl | rfl <;> omega
    ·simp only [List.mem_cons, List.not_mem_nil, or_false] at hz
     have := wordsN_lt (slotH ep (rs.map Int.toNat) n)
     omega
   unfold slotE at hm
   rcases List.mem_append.1 hm with hm | hm
   ·exact hh 0 (by omega) x hm
   ·exact hh 1 (by omega) x hm
  ·have := List.eq_of_mem_replicate hm
   omega
set_option maxHeartbeats 4000000 in
set_option maxRecDepth 20000 in
theorem rtwrite_any {w : World} {F : Foot} {S : Dev} (h : DevAt w F S) {N : Nat} (hN : N ≤ 900000000) (ho : S.ok N) (i : Nat) (hi : i ≤ 1) (ep : Nat) (rs : List Int) (hl : rs.length = 8) (hep : ep < 18446744073709551616) :
  Calls Tryz.prog 107 #[vdev F, .int .i64 (i : Int), slotVal ep rs] w (DonePost (S.writeSlot (64 + 64 * i) ep rs) F w) := by
 have hsl := slotAt_any i hi
 obtain ⟨a, ha⟩ : ∃ a, a = 64 + 64 * i := ⟨_, rfl⟩
 rw [← ha] at hsl ⊢
 have ha1 : a ≤ 128 := by omega
 have HSl := LH hsl
 have HP : Hid (∀ (D : Done) w', D = S.writeSlot a ep rs → DevAt w' F D.dev → Touch F.list w w' → DonePost (S.writeSlot a ep rs) F w (.returned (.int .i64 D.err)) w') := LH (fun D w' h1 h2 h3 => by rw [← h1]; exact ⟨rfl, h2, h3⟩)
 generalize DonePost (S.writeSlot a ep rs) F w = Post at *
 have HEn := LH (slencode_any ep rs hl hep)
 obtain ⟨f, hf⟩ : ∃ f : Nat → Nat, f = fun k => (slotW ep rs).getD k 0 := ⟨_, rfl⟩
 have HF2 : Hid (∀ (D : Done) w', D = (S.stores (slotL a f)).bind (fun S => S.persist (a : Int) 16) → DevAt w' F D.dev → Touch F.list w w' → Post (.returned (.int .i64 D.err)) w') := LH (fun D w' h1 => HP.out D w' (by rw [h1, hf]; rfl))
 have HF : Hid (∀ k, f k < 18446744073709551616) := LH (fun k => by rw [hf]; exact slotW_lt hep k)
 obtain ⟨A, hA⟩ : ∃ A : Array Value, A = ((slotW ep rs).map vu64).toArray := ⟨_, rfl⟩
 have HAs : Hid (A.size = 16) := LH (by rw [hA]; simp [slotW_len])
 have HA : Hid (∀ k, k < 16 → A[k]? = some (vu64 (f k))) := LH (fun k hk => by
  rw [hA, hf]
  have hk2 : k < (slotW ep rs).length := by rw [slotW_len]; exact hk
  simp only [List.getElem?_toArray, List.getElem?_map, List.getElem?_eq_getElem hk2, Option.map_some, List.getD_eq_getElem?_getD, Option.getD_some])
 unfold SlPost at HEn
 rw [show arrW (slotW ep rs) = .agg A from by rw [hA]; rfl] at HEn
 have HD := LH h
 have HO := LH ho
 have HB0 := LH h.mem
 obtain ⟨r0, r1, r2, r3, r4, r5, r6, r7, rfl⟩ := eight_ints hl
 rw [show slotVal ep [r0, r1, r2, r3, r4, r5, r6, r7] = .agg #[vu64 ep, .int .i64 r0, .int .i64 r1, .int .i64 r2, .int .i64 r3, .int .i64 r4, .int .i64 r5, .int .i64 r6, .int .i64 r7] from rfl] at HEn ⊢
 have HA16 : Hid (∃ b0 b1 b2 b3 b4 b5 b6 b7 b8 b9 b10 b11 b12 b13 b14 b15, A = #[vu64 b0, vu64 b1, vu64 b2, vu64 b3, vu64 b4, vu64 b5, vu64 b6, vu64 b7, vu64 b8, vu64 b9, vu64 b10, vu64 b11, vu64 b12, vu64 b13, vu64 b14, vu64 b15]) := LH (by
  obtain ⟨a0, a1, a2, a3, a4, a5, a6, a7, a8, a9, a10, a11, a12, a13, a14, a15, hs⟩ := sixteen_list (slotW_len ep [r0, r1, r2, r3, r4, r5, r6, r7])
  rw [hA, hs]
  exact ⟨_, _, _, _, _, _, _, _, _, _, _, _, _, _, _, _, rfl⟩)
 clear hf hA h ho hsl ha HP hl hep
 have HM := LH (Mem.one w #[vu64 ep, .int .i64 r0, .int .i64 r1, .int .i64 r2, .int .i64 r3, .int .i64 r4, .int .i64 r5, .int .i64 r6, .int .i64 r7] 154)
 go_enter Tryz.func107, Tryz.ntmps107
 go_upto_region 1 with fail
 obtain ⟨q1, hq1⟩ : ∃ q, q = w.heap.size := ⟨_, rfl⟩
 rw [← hq1] at HM ⊢
 generalize w.alloc _ = w1 at *
 clear hq1
 have HM1 : Hid (Mem w w1 [⟨q1, 154, [vu64 ep, .int .i64 r0, .int .i64 r1, .int .i64 r2, .int .i64 r3, .int .i64 r4, .int .i64 r5, .int .i64 r6, .int .i64 r7], true⟩]) := LH (by simpa using HM.out)
 clear HM
 go_wp2_with fail
 refine (HSl.out _).mono ?_
 rintro e w2 ⟨rfl, rfl⟩
 go_wp2_with (refine wpList_load_mem aggSl HM1.out 0 rfl rfl rfl rfl rfl ?_)
 refine (HEn.out _).mono ?_
 rintro e w3 ⟨rfl, hb3⟩
 have HM3 := LH (HM1.out.later hb3)
 have HM4 : Hid (Mem w (w3.alloc (.cells A 113)) [⟨q1, 154, [vu64 ep, .int .i64 r0, .int .i64 r1, .int .i64 r2, .int .i64 r3, .int .i64 r4, .int .i64 r5, .int .i64 r6, .int .i64 r7], true⟩, ⟨w3.heap.size, 113, A.toList, true⟩]) := LH (HM3.out.alloc A 113)
 clear hb3 HM1 HSl HEn
 obtain ⟨b0, b1, b2, b3, b4, b5, b6, b7, b8, b9, b10, b11, b12, b13, b14, b15, hA16⟩ := HA16.out
 rw [hA16]
 go_upto_region 3 with fail
 rw [← hA16]
 obtain ⟨q2, hq2⟩ : ∃ q, q = w3.heap.size := ⟨_, rfl⟩
 rw [← hq2] at HM4 ⊢
 generalize w3.alloc _ = w4 at *
 clear hq2 HM3 hA16 HA16
 have HDev := LH (HD.out.below HM4.out.below)
 have hq2l := HM4.out.gbase 1 rfl
 have HQF : Hid (q2 ∉ F.list) := LH (fun hm => by have := HB0.out _ hm; omega)
 have HC8 : Hid (∀ k, k < 16 → w4.cell? ⟨q2, k, none⟩ = some (vu64 (f k))) := LH (fun k hk => HM4.out.cell 1 k rfl (by rw [Array.getElem?_toList]; exact HA.out k hk))
 have HT4 : Hid (Touch F.list w w4) := LH (Touch.ofBelow HM4.out.below)
 clear hq2l
 go_wp2_with (refine wpList_load_box agg16 HM4.out 1 rfl HAs.out rfl rfl rfl ?_)
 clear HM4
 go_loopw [19] (fun iv wr => ∃ (k : Nat) (T : Dev), k ≤ 16 ∧ iv = .int .i64 (k : Int) ∧ Hid (DevAt wr F T) ∧ Hid (Touch F.list w wr) ∧ Hid (T.ok (N + k)) ∧ Hid (∀ k, k < 16 → wr.cell? ⟨q2, k, none⟩ = some (vu64 (f k))) ∧ Hid (T.stores (skipL a f k ++ [(a, f 0), (a + 8, f 8)]) = S.stores (slotL a f))) (fun iv _ => 16 - (intOf iv).toNat)
 case atStart => exact ⟨0, S, by omega, rfl, HDev, HT4, HO, HC8, LH rfl⟩
 case round =>
  obtain ⟨k, T, hk, rfl, HDr, HTr, HOr, HCr, HSt⟩ := hrel
  clear HC8 HT4 HDev HD
  by_cases hlt : k < 16
  ·have hlt' : (k : Int) < 16 := by omega
   obtain ⟨m, hm⟩ : ∃ m, m = k % 8 := ⟨_, rfl⟩
   have hm8 : (k : Int) % 8 = (m : Int) := by omega
   by_cases hz : m = 0
   ·have HSt2 := LH (by rw [skipL_skip a f hlt (by omega)] at HSt; exact HSt.out)
    subst hz
    clear hm HSt
    go_wp2_with (refine wpList_index_arr k Tryz.underlying113 Tryz.underlying40 rfl (by kernel_rfl) rfl hlt (HA.out k hlt) rfl rfl rfl rfl ?_)
    exact ⟨⟨k + 1, T, by omega, vint (by omega), HDr, HTr, LH (HOr.out.mono (by omega)), HCr, HSt2⟩, by simp [intOf]; omega⟩
   ·have HSt1 := LH (by rw [skipL_cons a f hlt (by omega), List.cons_append] at HSt; exact HSt.out)
    have HSc := LH (stores_cons T (a + k) (f k) (skipL a f (k + 1) ++ [(a, f 0), (a + 8, f 8)]))
    have HSt2 := LH (HSc.out.symm.trans HSt1.out)
    have hz' : ((m : Int) == 0) = false := by rw [beq_eq_false_iff_ne]; omega
    have hm7 : m < 8 := by omega
    clear hm HSt HSt1 HSc hz
    have hak : (a : Int) + (k : Int) = ((a + k : Nat) : Int) := by omega
    obtain ⟨j, hj⟩ : ∃ j, j = a + k := ⟨_, rfl⟩
    have hj9 : j ≤ 1000 := by omega
    rw [← hj] at HSt2 hak
    clear hj
    go_wp2_with (refine wpList_index_arr k Tryz.underlying113 Tryz.underlying40 rfl (by kernel_rfl) rfl hlt (HA.out k hlt) rfl rfl rfl rfl ?_)
    refine (store_any HDr.out (N := N + k) (by omega) HOr.out (j : Int) (f k) (HF.out k)).mono ?_
    rintro e w6 ⟨rfl, hd6, ht6⟩
    have HD6 := LH hd6
    have HT6 := LH (HTr.out.trans ht6)
    have HO6 := LH (Dev.store_okN HOr.out (j : Int) (f k))
    have HC6 : Hid (∀ k, k < 16 → w6.cell? ⟨q2, k, none⟩ = some (vu64 (f k))) := LH (fun k hk => cell_of_touch ht6 HQF.out (HCr.out k hk))
    clear hd6 ht6
    by_cases he : T.storeE (j : Int) = 0
    ·have HSt3 := LH (by rw [if_neg (by simp [he])] at HSt2; exact HSt2.out)
     rw [he]
     generalize T.store (j : Int) (f k) = T' at *
     clear he HSt2 HDr HTr HOr HCr hak
     go_wp2_with fail
     exact ⟨⟨k + 1, T', by omega, vint (by omega), HD6, HT6, LH (HO6.out.mono (by omega)), HC6, HSt3⟩, by simp [intOf]; omega⟩
    ·have HSt3 := LH (by rw [if_pos he] at HSt2; exact HSt2.out)
     obtain ⟨er, her⟩ : ∃ er, er = T.storeE (j : Int) := ⟨_, rfl⟩
     have her1 : -9223372036854775808 ≤ er ∧ er ≤ 9223372036854775807 := by
      rw [her]; unfold Dev.storeE; split
      ·omega
      ·split <;> omega
     rw [← her] at he HSt3 ⊢
     have he' : (er != 0) = true := by simpa using he
     generalize T.store (j : Int) (f k) = T' at *
     have HF3 := LH (fun w' => HF2.out ⟨T', er⟩ w' (by rw [← HSt3.out, Done.bind_err _ he]))
     clear he her HSt2 HDr HTr HOr HSt3 HCr hak
     go_wp2_with fail
     exact HF3.out _ HD6.out HT6.out
  ·have hi8 : k = 16 := by omega
   have hltd : decide ((k : Int) < 16) = false := by simp; omega
   have HSt2 : Hid (T.stores [(a, f 0), (a + 8, f 8)] = S.stores (slotL a f)) := LH (by rw [← HSt.out, hi8, skipL_end]; rfl)
   have HOr2 : Hid (T.ok (N + 16)) := LH (by rw [hi8] at HOr; exact HOr.out)
   clear HSt hi8 HOr
   go_wp2_with fail
   go_loopw [12] (fun iv wr => ∃ (k : Nat) (T : Dev), k ≤ 2 ∧ iv = .int .i64 ((8 * k : Nat) : Int) ∧ Hid (DevAt wr F T) ∧ Hid (Touch F.list w wr) ∧ Hid (T.ok (N + 16 + k)) ∧ Hid (∀ k, k < 16 → wr.cell? ⟨q2, k, none⟩ = some (vu64 (f k))) ∧ Hid (T.stores (([(a, f 0), (a + 8, f 8)] : List (Nat × Nat)).drop k) = S.stores (slotL a f))) (fun iv _ => 16 - (intOf iv).toNat)
   case atStart => exact ⟨0, T, by omega, rfl, HDr, HTr, HOr2, HCr, HSt2⟩
   case round =>
    obtain ⟨n, T, hk, rfl, HDr, HTr, HOr, HCr, HSt⟩ := hrel
    rcases (by omega : n = 0 ∨ n = 1 ∨ n = 2) with rfl | rfl | rfl
    ·rw [show ((8 * 0 : Nat) : Int) = 0 from rfl]
     have HSc := LH (stores_cons T a (f 0) [(a + 8, f 8)])
     have HSt2 := LH (HSc.out.symm.trans HSt.out)
     have c0 := HCr.out 0 (by omega)
     clear HSt HSc
     go_wp2_with fail
     refine (store_any HDr.out (N := N + 16 + 0) (by omega) HOr.out (a : Int) (f 0) (HF.out 0)).mono ?_
     rintro e w6 ⟨rfl, hd6, ht6⟩
     have HD6 := LH hd6
     have HT6 := LH (HTr.out.trans ht6)
     have HO6 := LH (Dev.store_okN HOr.out (a : Int) (f 0))
     have HC6 : Hid (∀ k, k < 16 → w6.cell? ⟨q2, k, none⟩ = some (vu64 (f k))) := LH (fun k hk => cell_of_touch ht6 HQF.out (HCr.out k hk))
     clear hd6 ht6 c0
     by_cases he : T.storeE (a : Int) = 0
     ·have HSt3 := LH (by rw [if_neg (by simp [he])] at HSt2; exact HSt2.out)
      rw [he]
      generalize T.store (a : Int) (f 0) = T' at *
      clear he HSt2 HDr HTr HOr HCr
      go_wp2_with fail
      exact ⟨⟨1, T', by omega, rfl, HD6, HT6, HO6, HC6, HSt3⟩, by simp [intOf]⟩
     ·have HSt3 := LH (by rw [if_pos he] at HSt2; exact HSt2.out)
      obtain ⟨er, her⟩ : ∃ er, er = T.storeE (a : Int) := ⟨_, rfl⟩
      have her1 : -9223372036854775808 ≤ er ∧ er ≤ 9223372036854775807 := by
       rw [her]; unfold Dev.storeE; split
       ·omega
       ·split <;> omega
      rw [← her] at he HSt3 ⊢
      have he' : (er != 0) = true := by simpa using he
      generalize T.store (a : Int) (f 0) = T' at *
      have HF3 := LH (fun w' => HF2.out ⟨T', er⟩ w' (by rw [← HSt3.out, Done.bind_err _ he]))
      clear he her HSt2 HDr HTr HOr HSt3 HCr
      go_wp2_with fail
      exact HF3.out _ HD6.out HT6.out
    ·rw [show ((8 * 1 : Nat) : Int) = 8 from rfl]
     have HSc := LH (stores_cons T (a + 8) (f 8) [])
     have HSt2 := LH (HSc.out.symm.trans HSt.out)
     have c0 := HCr.out 8 (by omega)
     have hak : (a : Int) + 8 = ((a + 8 : Nat) : Int) := by omega
     obtain ⟨j, hj⟩ : ∃ j, j = a + 8 := ⟨_, rfl⟩
     have hj9 : j ≤ 1000 := by omega
     rw [← hj] at HSt2 hak
     clear hj HSt HSc
     go_wp2_with fail
     refine (store_any HDr.out (N := N + 16 + 1) (by omega) HOr.out (j : Int) (f 8) (HF.out 8)).mono ?_
     rintro e w6 ⟨rfl, hd6, ht6⟩
     have HD6 := LH hd6
     have HT6 := LH (HTr.out.trans ht6)
     have HO6 := LH (Dev.store_okN HOr.out (j : Int) (f 8))
     have HC6 : Hid (∀ k, k < 16 → w6.cell? ⟨q2, k, none⟩ = some (vu64 (f k))) := LH (fun k hk => cell_of_touch ht6 HQF.out (HCr.out k hk))
     clear hd6 ht6 c0
     by_cases he : T.storeE (j : Int) = 0
     ·have HSt3 := LH (by rw [if_neg (by simp [he])] at HSt2; exact HSt2.out)
      rw [he]
      generalize T.store (j : Int) (f 8) = T' at *
      clear he HSt2 HDr HTr HOr HCr hak
      go_wp2_with fail
      exact ⟨⟨2, T', by omega, rfl, HD6, HT6, HO6, HC6, HSt3⟩, by simp [intOf]⟩
     ·have HSt3 := LH (by rw [if_pos he] at HSt2; exact HSt2.out)
      obtain ⟨er, her⟩ : ∃ er, er = T.storeE (j : Int) := ⟨_, rfl⟩
      have her1 : -9223372036854775808 ≤ er ∧ er ≤ 9223372036854775807 := by
       rw [her]; unfold Dev.storeE; split
       ·omega
       ·split <;> omega
      rw [← her] at he HSt3 ⊢
      have he' : (er != 0) = true := by simpa using he
      generalize T.store (j : Int) (f 8) = T' at *
      have HF3 := LH (fun w' => HF2.out ⟨T', er⟩ w' (by rw [← HSt3.out, Done.bind_err _ he]))
      clear he her HSt2 HDr HTr HOr HSt3 HCr hak
      go_wp2_with fail
      exact HF3.out _ HD6.out HT6.out
    ·rw [show ((8 * 2 : Nat) : Int) = 16 from rfl]
     have HSt2 : Hid (S.stores (slotL a f) = ⟨T, 0⟩) := LH (by rw [← HSt.out]; rfl)
     clear HSt
     go_wp2_with fail
     refine (persist_any HDr.out (N := N + 16 + 2) (by omega) HOr.out (a : Int) 16 (by omega) (by omega)).mono ?_
     rintro e w6 ⟨rfl, hd6, ht6⟩
     have HF3 := LH (fun w' => HF2.out (T.persist (a : Int) 16) w' (by rw [HSt2.out, Done.bind_ok]))
     have HT6 := LH (HTr.out.trans ht6)
     have HD6 := LH hd6
     clear hd6 ht6
     generalize T.persist (a : Int) 16 = D at *
     go_wp2_with fail
     exact HF3.out _ HD6.out HT6.out
set_option maxHeartbeats 1000000 in
theorem rtformat_any {w : World} {F : Foot} {S : Dev} (h : DevAt w F S) {N : Nat} (hN : N ≤ 900000000) (ho : S.ok N) :
  Calls Tryz.prog 65 #[vdev F] w (DonePost (S.writeSlot 64 1 [0, 0, 0, 0, 0, 0, 0, 0]) F w) := by
 have hw := rtwrite_any h hN ho 0 (by omega) 1 [0, 0, 0, 0, 0, 0, 0, 0] rfl (by omega)
 rw [show slotVal 1 [0, 0, 0, 0, 0, 0, 0, 0] = .agg #[.int .u64 1, .int .i64 0, .int .i64 0, .int .i64 0, .int .i64 0, .int .i64 0, .int .i64 0, .int .i64 0, .int .i64 0] from rfl, show ((0 : Nat) : Int) = 0 from rfl] at hw
 have HW := LH hw
 clear hw
 simp only [Nat.mul_zero, Nat.add_zero] at HW
 have HP : Hid (∀ D w', D = S.writeSlot 64 1 [0, 0, 0, 0, 0, 0, 0, 0] → DevAt w' F D.dev → Touch F.list w w' → DonePost (S.writeSlot 64 1 [0, 0, 0, 0, 0, 0, 0, 0]) F w (.returned (.int .i64 D.err)) w') := LH (fun D w' h1 h2 h3 => by rw [← h1]; exact ⟨rfl, h2, h3⟩)
 generalize hD : S.writeSlot 64 1 [0, 0, 0, 0, 0, 0, 0, 0] = D at *
 go_enter Tryz.func65, Tryz.ntmps65
 go_wp2_with fail
 refine HW.out.mono ?_
 rintro e w' ⟨rfl, hd, ht⟩
 have HD := LH hd
 have HT := LH ht
 clear hd ht
 go_wp2_with fail
 go_ret
 exact HP.out D _ rfl HD.out HT.out
def Dev.fmtG (S : Dev) (B : Nat) : Done := (S.stores (upL 256 (fun b => encN (b : Int) 0 0 0) 1 B)).bind (fun S => S.persist 257 ((B : Int) - 1))
set_option maxHeartbeats 4000000 in
set_option maxRecDepth 100000 in
theorem formatG_any {w : World} {F : Foot} {S : Dev} (h : DevAt w F S) {N : Nat} (hN : N ≤ 900000000) (ho : S.ok N) (B : Nat) (hB2 : 2 ≤ B) (hB : B ≤ 1000) :
  Calls Tryz.prog 64 #[vdev F, vgeom B] w (DonePost (S.fmtG B) F w) := by
 have HF2 : Hid (∀ (D : Done) w', D = (S.stores (upL 256 (fun b : Nat => encN (b : Int) 0 0 0) 1 B)).bind (fun S => S.persist 257 ((B : Int) - 1)) → DevAt w' F D.dev → Touch F.list w w' → DonePost (S.fmtG B) F w (.returned (.int .i64 D.err)) w') := LH (fun D w' h1 h2 h3 => by rw [show S.fmtG B = D from h1.symm]; exact ⟨rfl, h2, h3⟩)
 generalize DonePost (S.fmtG B) F w = Post at *
 obtain ⟨f, hf⟩ : ∃ f : Nat → Nat, f = fun b : Nat => encN (b : Int) 0 0 0 := ⟨_, rfl⟩
 rw [← hf] at HF2
 have HEnc : Hid (∀ b : Nat, encN (b : Int) 0 0 0 = f b) := LH (fun b => by rw [hf])
 have HF : Hid (∀ k, f k < 18446744073709551616) := LH (fun k => by rw [hf]; exact encN_lt _ _ _ _)
 have hbx := below_alloc w (.cells #[.int .i64 (B : Int)] 44)
 have hcx : (w.alloc (.cells #[.int .i64 (B : Int)] 44)).cell? ⟨w.heap.size, 0, none⟩ = some (.int .i64 (B : Int)) := cell_alloc_new _ _ _ 0 _ rfl
 have HD := LH (h.below hbx)
 have HT : Hid (Touch F.list w (w.alloc (.cells #[.int .i64 (B : Int)] 44))) := LH (Touch.ofBelow hbx)
 have HQ : Hid (w.heap.size ∉ F.list) := LH (fun hm => by have := h.mem _ hm; omega)
 have HO := LH ho
 clear h hbx ho hf
 go_enter Tryz.func64, Tryz.ntmps64
 go_upto_region 1 with fail
 obtain ⟨q, hq⟩ : ∃ q, q = w.heap.size := ⟨_, rfl⟩
 rw [← hq] at hcx HQ ⊢
 generalize w.alloc _ = w0 at *
 clear hq
 go_wp2_with fail
 go_loopw [5] (fun iv wr => ∃ (b : Nat) (T : Dev), 1 ≤ b ∧ b ≤ B ∧ iv = .int .i64 (b : Int) ∧ Hid (DevAt wr F T) ∧ Hid (Touch F.list w wr) ∧ Hid (T.ok (N + b)) ∧ wr.cell? ⟨q, 0, none⟩ = some (.int .i64 (B : Int)) ∧ Hid (T.stores (upL 256 f b B) = S.stores (upL 256 f 1 B))) (fun iv _ => B - (intOf iv).toNat)
 case atStart => exact ⟨1, S, Nat.le_refl _, by omega, rfl, HD, HT, LH (HO.out.mono (by omega)), hcx, LH rfl⟩
 case round =>
  obtain ⟨b, T, hb1, hb2, rfl, HDr, HTr, HOr, hc, HSt⟩ := hrel
  clear hcx HD HT
  by_cases hlt : b < B
  ·have hlt' : (b : Int) < (B : Int) := by omega
   have HSt1 := LH (by rw [upL_cons 256 f hlt] at HSt; exact HSt.out)
   have HSc := LH (stores_cons T (256 + b) (f b) (upL 256 f (b + 1) B))
   have HSt2 := LH (HSc.out.symm.trans HSt1.out)
   clear HSt1 HSc HSt
   go_wp2_with fail
   refine (gheader_any _ _ _ (by omega)).mono ?_
   rintro e w1 ⟨rfl, hb1'⟩
   have HH : Hid (hdAt (B : Int) (b : Int) = ((256 + b : Nat) : Int)) := LH (by unfold hdAt; rw [if_neg (by omega)]; omega)
   rw [HH.out]
   obtain ⟨j, hj⟩ : ∃ j, j = 256 + b := ⟨_, rfl⟩
   have hj9 : j ≤ 2000 := by omega
   rw [← hj] at HSt2 ⊢
   clear hj HH
   have hc1 := below_cells hb1' hc (Nat.le_refl _)
   have HD1 := LH (HDr.out.below hb1')
   have HT1 : Hid (Touch F.list w w1) := LH (HTr.out.trans (Touch.ofBelow hb1'))
   clear hb1' hc HDr HTr
   go_wp2_with fail
   refine (bencode_any (b : Int) 0 0 0 (by omega) (by omega) _).mono ?_
   rintro e w2 ⟨rfl, hb2'⟩
   rw [HEnc.out b]
   have hc2 := below_cells hb2' hc1 (Nat.le_refl _)
   have HD2 := LH (HD1.out.below hb2')
   have HT2 : Hid (Touch F.list w w2) := LH (HT1.out.trans (Touch.ofBelow hb2'))
   clear hb2' hc1 HD1 HT1
   go_wp2_with fail
   refine (store_any HD2.out (N := N + b) (by omega) HOr.out (j : Int) (f b) (HF.out b)).mono ?_
   rintro e w3 ⟨rfl, hd3, ht3⟩
   have hc3 : w3.cell? ⟨q, 0, none⟩ = some (.int .i64 (B : Int)) := cell_of_touch ht3 HQ.out hc2
   have HD3 := LH hd3
   have HT3 : Hid (Touch F.list w w3) := LH (HT2.out.trans ht3)
   have HO3 := LH (Dev.store_okN HOr.out (j : Int) (f b))
   clear hd3 ht3 hc2 HD2 HT2
   by_cases he : T.storeE (j : Int) = 0
   ·have HSt3 := LH (by rw [if_neg (by simp [he])] at HSt2; exact HSt2.out)
    rw [he]
    generalize T.store (j : Int) (f b) = T' at *
    clear he HSt2 HOr
    go_wp2_with fail
    exact ⟨⟨b + 1, T', by omega, by omega, vint (by omega), HD3, HT3, LH (HO3.out.mono (by omega)), hc3, HSt3⟩, by simp [intOf]; omega⟩
   ·have HSt3 := LH (by rw [if_pos he] at HSt2; exact HSt2.out)
    obtain ⟨er, her⟩ : ∃ er, er = T.storeE (j : Int) := ⟨_, rfl⟩
    have her1 : -9223372036854775808 ≤ er ∧ er ≤ 9223372036854775807 := by
     rw [her]; unfold Dev.storeE; split
     ·omega
     ·split <;> omega
    rw [← her] at he HSt3 ⊢
    have he' : (er != 0) = true := by simpa using he
    generalize T.store (j : Int) (f b) = T' at *
    have HF3 := LH (fun w' => HF2.out ⟨T', er⟩ w' (by rw [← HSt3.out, Done.bind_err _ he]))
    clear he her HSt2 HOr HSt3
    go_wp2_with fail
    exact HF3.out _ HD3.out HT3.out
  ·have HSt2 : Hid (S.stores (upL 256 f 1 B) = ⟨T, 0⟩) := LH (by rw [← HSt.out, upL_nil _ _ (by omega)]; rfl)
   obtain rfl : b = B := by omega
   have hlt' : decide ((b : Int) < (b : Int)) = false := by simp
   have hw1 : IntKind.i64.wrap ((b : Int) - 1) = (b : Int) - 1 := IntWalk.i64_in _ (by omega)
   clear HSt
   go_wp2_with fail
   have hcl : ∀ x : Later wr, x.val.cell? ⟨q, 0, none⟩ = some (.int .i64 (b : Int)) := fun x => later_cell hc x
   refine wp_region_later_tail 6 ?hn ?hm ?hB ?_
   case hn => exact Nat.le_of_ble_eq_true rfl
   case hm => kernel_rfl
   case hB => kernel_rfl
   simp only [List.take_succ_cons, List.take_zero, List.drop_succ_cons, List.drop_zero]
   repeat (quiet_step ((rename_i x; exact calls_later (gheader_any _ _ _ (by omega)))))
   refine wpQuiet_nil ?_
   rintro w5 ⟨x, hx5⟩
   have hd5 := HDr.out.below x.below
   have ht5 : Touch F.list w x.val := HTr.out.trans (Touch.ofBelow x.below)
   rw [← hx5] at hd5 ht5
   have HD5 := LH hd5
   have HT5 := LH ht5
   have HH : Hid (hdAt (b : Int) 1 = 257) := LH (by unfold hdAt; rw [if_neg (by omega)]; rfl)
   rw [HH.out]
   clear hx5 x HDr HTr hd5 ht5 hw1
   go_wp2_with fail
   refine (persist_any HD5.out (N := N + b) (by omega) HOr.out _ _ (by omega) (by omega)).mono ?_
   rintro e w6 ⟨rfl, hd6, ht6⟩
   have HF3 := LH (fun w' => HF2.out (T.persist 257 ((b : Int) - 1)) w' (by rw [HSt2.out, Done.bind_ok]))
   have HT6 := LH (HT5.out.trans ht6)
   have HD6 := LH hd6
   clear hd6 ht6
   generalize T.persist 257 ((b : Int) - 1) = D at *
   go_wp2_with fail
   exact HF3.out _ HD6.out HT6.out
theorem stores_inv : ∀ {S : Dev} (_ : S.inv) (l : List (Nat × Nat)) (_ : ∀ p ∈ l, p.2 < 18446744073709551616), (S.stores l).dev.inv
 | S, h, [], _ => h
 | S, h, (i, x) :: l, hl => by
  have h1 := Dev.store_inv h (i : Int) x (hl (i, x) List.mem_cons_self)
  rw [stores_cons]
  split
  ·exact h1
  ·exact stores_inv h1 l (fun p hp => hl p (List.mem_cons_of_mem _ hp))
theorem Done.bind_inv {r : Done} (h : r.dev.inv) {f : Dev → Done} (hf : r.err = 0 → (f r.dev).dev.inv) : (r.bind f).dev.inv := by
 unfold Done.bind
 split
 ·exact h
 ·rename_i he; exact hf (by simpa using he)
theorem Done.bind_okN {r : Done} {M K : Nat} (h : r.dev.ok M) (hK : M ≤ K) {f : Dev → Done} (hf : (f r.dev).dev.ok K) : (r.bind f).dev.ok K := by
 unfold Done.bind
 split
 ·exact h.mono hK
 ·exact hf
theorem upL_lt (a : Nat) (g : Nat → Nat) (k n : Nat) (hg : ∀ j, g j < 18446744073709551616) : ∀ p ∈ upL a g k n, p.2 < 18446744073709551616 := fun p hp => by
 obtain ⟨j, _, rfl⟩ := List.mem_map.1 hp
 exact hg j
theorem slotL_lt (a : Nat) (g : Nat → Nat) (hg : ∀ j, g j < 18446744073709551616) : ∀ p ∈ slotL a g, p.2 < 18446744073709551616 := fun p hp => by
 rcases List.mem_append.1 hp with hp | hp
 ·obtain ⟨j, _, rfl⟩ := List.mem_map.1 hp
  exact hg j
 ·simp only [List.mem_cons, List.not_mem_nil, or_false] at hp
  rcases hp with rfl | rfl
  ·exact hg 0
  ·exact hg 8
theorem slotL_len (a : Nat) (g : Nat → Nat) : (slotL a g).length = 16 := rfl
theorem put_inv {S : Dev} (h : S.inv) {l : List (Nat × Nat)} (hl : ∀ p ∈ l, p.2 < 18446744073709551616) (p n : Int) : ((S.stores l).bind (fun S => S.persist p n)).dev.inv :=
 Done.bind_inv (stores_inv h l hl) (fun _ => Dev.persist_inv (stores_inv h l hl) p n)
theorem put_okN {S : Dev} (h : S.inv) {N : Nat} (ho : S.ok N) {l : List (Nat × Nat)} (hl : ∀ p ∈ l, p.2 < 18446744073709551616) (p n : Int) : ((S.stores l).bind (fun S => S.persist p n)).dev.ok (N + l.length + 200000) :=
 Done.bind_okN (stores_ok ho l) (by omega) (Dev.persist_ok (stores_inv h l hl).wf (stores_ok ho l) p n)
theorem fmtG_inv {S : Dev} (h : S.inv) (B : Nat) : (S.fmtG B).dev.inv := put_inv h (upL_lt _ _ _ _ (fun j => encN_lt _ _ _ _)) _ _
theorem fmtG_ok {S : Dev} (h : S.inv) {N : Nat} (ho : S.ok N) (B : Nat) (hB : B ≤ 1000) : (S.fmtG B).dev.ok (N + 300000) := by
 have := put_okN h ho (upL_lt 256 (fun b => encN (b : Int) 0 0 0) 1 B (fun j => encN_lt _ _ _ _)) 257 ((B : Int) - 1)
 rw [upL_len] at this
 exact this.mono (by omega)
theorem writeSlot_inv {S : Dev} (h : S.inv) (a ep : Nat) (rs : List Int) (hep : ep < 18446744073709551616) : (S.writeSlot a ep rs).dev.inv := put_inv h (slotL_lt _ _ (fun j => slotW_lt hep j)) _ _
theorem writeSlot_ok {S : Dev} (h : S.inv) {N : Nat} (ho : S.ok N) (a ep : Nat) (rs : List Int) (hep : ep < 18446744073709551616) : (S.writeSlot a ep rs).dev.ok (N + 300000) := by
 have := put_okN h ho (slotL_lt a (fun k => (slotW ep rs).getD k 0) (fun j => slotW_lt hep j)) (a : Int) 16
 rw [slotL_len] at this
 exact this.mono (by omega)
theorem writeSuper_inv {S : Dev} (h : S.inv) (n id : Nat) (hid : id < 18446744073709551616) : (S.writeSuper n id).dev.inv := by
 unfold Dev.writeSuper
 split
 ·rename_i hc
  exact put_inv h (upL_lt _ _ _ _ (fun j => supN_lt (by omega) hid j)) _ _
 ·exact h
theorem writeSuper_ok {S : Dev} (h : S.inv) {N : Nat} (ho : S.ok N) (n id : Nat) (hid : id < 18446744073709551616) : (S.writeSuper n id).dev.ok (N + 300000) := by
 unfold Dev.writeSuper
 split
 ·rename_i hc
  have := put_okN h ho (upL_lt 0 (fun k => (supN n id).getD k 0) 0 8 (fun j => supN_lt (by omega) hid j)) 0 8
  rw [upL_len] at this
  exact this.mono (by omega)
 ·exact ho.mono (by omega)
def Dev.format (S : Dev) (id : Nat) : Done :=
 if 2 ≤ S.cache.length / 512 ∧ S.cache.length / 512 ≤ 256 ∧ 512 * (S.cache.length / 512) = S.cache.length then
  (S.fmtG (S.cache.length / 512)).bind (fun T => (T.writeSlot 64 1 [0, 0, 0, 0, 0, 0, 0, 0]).bind (fun U => U.writeSuper (S.cache.length / 512) id)) else ⟨S, 26⟩
set_option maxHeartbeats 4000000 in
set_option maxRecDepth 20000 in
theorem rvformat_any {w : World} {F : Foot} {S : Dev} (h : DevAt w F S) (hi : S.inv) {N : Nat} (hN : N ≤ 800000000) (ho : S.ok N) (id : Nat) (hid : id < 18446744073709551616) :
  Calls Tryz.prog 19 #[vdev F, vu64 id] w (DonePost (S.format id) F w) := by
 have hsm := h.small
 obtain ⟨l, hl⟩ : ∃ l, l = S.cache.length := ⟨_, rfl⟩
 obtain ⟨B, hB⟩ : ∃ B, B = l / 512 := ⟨_, rfl⟩
 have HFm : Hid (S.format id = if 2 ≤ B ∧ B ≤ 256 ∧ 512 * B = l then (S.fmtG B).bind (fun T => (T.writeSlot 64 1 [0, 0, 0, 0, 0, 0, 0, 0]).bind (fun U => U.writeSuper B id)) else ⟨S, 26⟩) := LH (by rw [hB, hl]; rfl)
 have HP : Hid (∀ (D : Done) w', D = S.format id → DevAt w' F D.dev → Touch F.list w w' → DonePost (S.format id) F w (.returned (.int .i64 D.err)) w') := LH (fun D w' h1 h2 h3 => by rw [← h1]; exact ⟨rfl, h2, h3⟩)
 generalize DonePost (S.format id) F w = Post at *
 have HLn := LH hl
 rw [← hl] at hsm
 have hlB : (l : Int) / 512 = (B : Int) := by omega
 have hBm : B ≤ 2000 := by omega
 have HD := LH h
 have HO := LH ho
 have HI := LH hi
 have HB0 := LH h.mem
 clear h ho hi hl hB
 go_enter Tryz.func19, Tryz.ntmps19
 go_wp2_with fail
 refine (dlen_any HD.out).mono ?_
 rintro e w1 ⟨rfl, rfl⟩
 rw [← HLn.out]
 have HM := LH (Mem.one w #[.int .i64 (B : Int)] 44)
 go_upto_region 2 with fail
 obtain ⟨q, hq⟩ : ∃ q, q = w.heap.size := ⟨_, rfl⟩
 rw [← hq] at HM ⊢
 have HQ : Hid (q ∉ F.list) := LH (fun hm => by have := HB0.out _ hm; omega)
 generalize w.alloc _ = w1 at *
 clear hq
 have HM1 : Hid (Mem w w1 [⟨q, 44, [.int .i64 (B : Int)], true⟩]) := LH (by simpa using HM.out)
 clear HM
 have c0 := HM1.out.cell 0 0 rfl rfl
 go_wp2_with fail
 refine (gright_any (B : Int) w1).mono ?_
 rintro e w2 ⟨rfl, hb2⟩
 have HM2 := LH (HM1.out.later hb2)
 clear hb2 c0 HM1
 by_cases hr : 2 ≤ B ∧ B ≤ 256
 case neg =>
  have hr' : decide ((2 : Int) ≤ (B : Int) ∧ (B : Int) ≤ 256) = false := by rw [decide_eq_false_iff_not]; omega
  rw [hr']
  have HF2 := LH (fun w' h1 h2 => HP.out ⟨S, 26⟩ w' (by rw [HFm.out, if_neg (fun hh => hr ⟨hh.1, hh.2.1⟩)]) h1 h2)
  clear hr hr'
  go_wp2_with fail
  exact HF2.out _ (HD.out.below HM2.out.below) (Touch.ofBelow HM2.out.below)
 have hr' : decide ((2 : Int) ≤ (B : Int) ∧ (B : Int) ≤ 256) = true := by rw [decide_eq_true_iff]; omega
 rw [hr']
 clear hr'
 have c0 := HM2.out.cell 0 0 rfl rfl
 go_wp2_with fail
 refine (gwords_any (B : Int) w2 (by omega) (by omega)).mono ?_
 rintro e w3 ⟨rfl, hb3⟩
 have HM3 := LH (HM2.out.later hb3)
 have hnI : (B : Int) * 512 = ((512 * B : Nat) : Int) := by omega
 rw [hnI]
 obtain ⟨K, hK⟩ : ∃ K, K = 512 * B := ⟨_, rfl⟩
 rw [← hK] at HFm ⊢
 clear hb3 hnI hK c0 HM2
 go_wp2_with fail
 refine (dlen_any (HD.out.below HM3.out.below)).mono ?_
 rintro e w4 ⟨rfl, rfl⟩
 rw [← HLn.out]
 by_cases hc : K = l
 case neg =>
  have hc' : ((K : Int) == (l : Int)) = false := by rw [beq_eq_false_iff_ne]; omega
  have hc'' : ((K : Int) != (l : Int)) = true := by rw [bne_iff_ne]; omega
  have HF2 := LH (fun w' h1 h2 => HP.out ⟨S, 26⟩ w' (by rw [HFm.out, if_neg (fun hh => hc hh.2.2)]) h1 h2)
  clear hc
  go_wp2_with fail
  exact HF2.out _ (HD.out.below HM3.out.below) (Touch.ofBelow HM3.out.below)
 have HF2 := LH (fun (D : Done) w' (h1 : D = (S.fmtG B).bind (fun T => (T.writeSlot 64 1 [0, 0, 0, 0, 0, 0, 0, 0]).bind (fun U => U.writeSuper B id))) h2 h3 => HP.out D w' (by rw [HFm.out, if_pos ⟨hr.1, hr.2, hc⟩, h1]) h2 h3)
 subst hc
 clear HP HFm HLn
 have HR := LH hr
 have hB256 : B ≤ 256 := HR.out.2
 clear hr hlB hsm
 have c0 := HM3.out.cell 0 0 rfl rfl
 go_upto_region 4 with fail
 go_wp2_with fail
 refine (formatG_any (HD.out.below HM3.out.below) (by omega) HO.out B HR.out.1 (by omega)).mono ?_
 rintro e w5 ⟨rfl, hd5, ht5⟩
 have c1 := cell_of_touch ht5 HQ.out c0
 have HT5 : Hid (Touch F.list w w5) := LH ((Touch.ofBelow HM3.out.below).trans ht5)
 have HD5 := LH hd5
 have HI5 := LH (fmtG_inv HI.out B)
 have HO5 := LH (fmtG_ok HI.out HO.out B (by omega))
 clear hd5 ht5 c0 HM3 HI HO HD
 obtain ⟨⟨T, er⟩, hT⟩ : ∃ D, D = S.fmtG B := ⟨_, rfl⟩
 rw [← hT] at HF2 HD5 HI5 HO5 ⊢
 clear hT
 dsimp only at HD5 HI5 HO5
 by_cases he : er = 0
 case neg =>
  have he' : (er != 0) = true := by simpa using he
  have HF3 := LH (fun w' => HF2.out ⟨T, er⟩ w' (by rw [Done.bind_err _ he]))
  clear he
  go_wp2_with fail
  exact HF3.out _ HD5.out HT5.out
 subst he
 have HF3 := LH (fun D w' h1 => HF2.out D w' (by rw [Done.bind_ok]; exact h1))
 clear HF2
 go_wp2_with fail
 refine (rtformat_any HD5.out (N := N + 300000) (by omega) HO5.out).mono ?_
 rintro e w6 ⟨rfl, hd6, ht6⟩
 have c2 := cell_of_touch ht6 HQ.out c1
 have HT6 : Hid (Touch F.list w w6) := LH (HT5.out.trans ht6)
 have HD6 := LH hd6
 have HO6 := LH (writeSlot_ok HI5.out HO5.out 64 1 [0, 0, 0, 0, 0, 0, 0, 0] (by omega))
 clear hd6 ht6 c1 HI5 HO5 HD5
 obtain ⟨⟨U, er⟩, hT⟩ : ∃ D, D = T.writeSlot 64 1 [0, 0, 0, 0, 0, 0, 0, 0] := ⟨_, rfl⟩
 rw [← hT] at HF3 HD6 HO6 ⊢
 clear hT
 dsimp only at HD6 HO6
 by_cases he : er = 0
 case neg =>
  have he' : (er != 0) = true := by simpa using he
  have HF4 := LH (fun w' => HF3.out ⟨U, er⟩ w' (by rw [Done.bind_err _ he]))
  clear he
  go_wp2_with fail
  exact HF4.out _ HD6.out HT6.out
 subst he
 have HF4 := LH (fun D w' h1 => HF3.out D w' (by rw [Done.bind_ok]; exact h1))
 clear HF3
 go_wp2_with fail
 refine (swrite_any HD6.out (N := N + 300000 + 300000) (by omega) HO6.out B id (by omega) hid).mono ?_
 rintro e w7 ⟨rfl, hd7, ht7⟩
 have HT7 : Hid (Touch F.list w w7) := LH (HT6.out.trans ht7)
 have HD7 := LH hd7
 clear hd7 ht7
 generalize U.writeSuper B id = D at *
 go_wp2_with fail
 exact HF4.out _ _ rfl HD7.out HT7.out
def sizesL : List Nat := [2, 3, 4, 5, 6, 7, 8, 10, 12, 14, 16, 18, 20, 24, 28, 32, 36, 40, 46, 51, 56, 64, 73, 85, 92, 102, 113, 128, 146, 170, 204, 256]
def clsWords (k : Int) : Nat := if 0 ≤ k ∧ k < 32 then sizesL.getD k.toNat 0 else 0
def zeros32 : Array Value := (List.replicate 32 (Value.int .i64 0)).toArray
theorem agg32 : Agg Tryz.prog 291 zeros32 := ⟨⟨_, Tryz.underlying291, rfl⟩, by kernel_rfl⟩
def sizesV : Array Value := (sizesL.map (fun n : Nat => Value.int .i64 (n : Int))).toArray
theorem sizesV_one : sizesV.all (·.oneCell') = true := by simp [sizesV, sizesL, Value.oneCell']
set_option maxHeartbeats 400000 in
theorem sizes_any (w : World) : Calls Tryz.prog 205 #[] w fun e w' => e = .returned (.agg sizesV) ∧ Below w.heap.size w w' := by
 go_enter Tryz.func205, Tryz.ntmps205
 go_wp2_with (first
  | (refine wpList_alloc_agg agg32 rfl rfl ?_; intro w1 hg1 hgr1 hs1)
  | (refine wpList_store_row (cs := sizesV) agg32 hg1 rfl rfl sizesV_one rfl rfl rfl rfl ?_; intro w2 hg2 hgr2 hs2))
 refine bodyPost_ret (v := .agg sizesV) ?_ rfl ⟨rfl, ?_⟩
 ·exact results_cell_row rfl _ _ _ _ _ _ _ rfl hg2 Tryz.underlying291 rfl (by kernel_rfl)
 ·exact (below_grown hgr1 (Nat.le_refl _)).grown hgr2 (by omega) (fun k e => by cases e; omega)
set_option maxHeartbeats 400000 in
theorem cwords_any (k : Int) (w : World) : Calls Tryz.prog 185 #[.int .i64 k] w fun e w' => e = .returned (.int .i64 (clsWords k : Nat)) ∧ Below w.heap.size w w' := by
 by_cases h : 0 ≤ k ∧ k < 32
 ·have HW : Hid (clsWords k = sizesL.getD k.toNat 0) := LH (by unfold clsWords; rw [if_pos h])
  have H := LH h
  obtain ⟨h1, h2⟩ := h
  go_enter Tryz.func185, Tryz.ntmps185
  go_wp2_with fail
  refine (cright_any _ _).mono ?_
  rintro e w1 ⟨rfl, rfl⟩
  rw [decide_eq_true H.out]
  go_wp2_with fail
  refine (sizes_any _).mono ?_
  rintro e w1 ⟨rfl, hb⟩
  have hv : sizesV[k.toNat]? = some (Value.int .i64 (sizesL.getD k.toNat 0 : Nat)) := by
   obtain ⟨j, rfl⟩ := Int.eq_ofNat_of_zero_le h1
   have hj : j < sizesL.length := by show j < 32; omega
   simp only [Int.toNat_natCast, sizesV, List.getElem?_toArray, List.getElem?_map, List.getElem?_eq_getElem hj, Option.map_some, List.getD_eq_getElem?_getD, Option.getD_some]
  have HV := LH hv
  clear hv
  go_wp2_with (refine wpList_index_arr k.toNat Tryz.underlying291 Tryz.underlying3 rfl (by kernel_rfl) (by omega) (by omega) HV.out rfl rfl rfl rfl ?_)
  go_ret
  exact ⟨ret_int (by rw [HW.out, List.getD_eq_getElem?_getD]), hb⟩
 ·have HW : Hid (clsWords k = 0) := LH (by unfold clsWords; rw [if_neg h])
  have H := LH h
  clear h
  go_enter Tryz.func185, Tryz.ntmps185
  go_wp2_with fail
  refine (cright_any _ _).mono ?_
  rintro e w1 ⟨rfl, rfl⟩
  rw [decide_eq_false H.out]
  go_wp2_with fail
  go_ret
  exact ⟨ret_int (by rw [HW.out]; rfl), Below.refl _ _⟩
def ofN (n : Int) : Nat := sizesL.findIdx (fun s : Nat => decide (n ≤ (s : Int)))
theorem ofN_eq (n : Int) (k : Nat) (hk : k < 32) (h1 : n ≤ (sizesL.getD k 0 : Nat)) (h2 : ∀ j, j < k → ((sizesL.getD j 0 : Nat) : Int) < n) : ofN n = k := by
 have hl : k < sizesL.length := hk
 unfold ofN
 rw [List.findIdx_eq hl]
 have g : ∀ j (hj : j < sizesL.length), sizesL.getD j 0 = sizesL[j] := fun j hj => by simp [hj]
 refine ⟨by rw [← g k hl]; simpa using h1, fun j hj => ?_⟩
 rw [← g j (by omega)]
 have := h2 j hj
 simp only [decide_eq_false_iff_not]
 omega
theorem sizes_mono : ∀ i j : Nat, i ≤ j → j < 32 → sizesL.getD i 0 ≤ sizesL.getD j 0 := by
 have h : ∀ j : Fin 32, ∀ i : Fin 32, i ≤ j → sizesL.getD i.val 0 ≤ sizesL.getD j.val 0 := by decide
 intro i j hij hj
 exact h ⟨j, hj⟩ ⟨i, by omega⟩ hij
theorem clsWords_nat (k : Nat) (h : k < 32) : clsWords (k : Int) = sizesL.getD k 0 := by
 unfold clsWords; rw [if_pos (by omega)]; rfl
theorem clsWords_le (k : Int) : clsWords k ≤ 256 := by
 unfold clsWords
 split
 ·have h := sizes_mono k.toNat 31 (by omega) (by omega)
  have e : sizesL.getD 31 0 = 256 := rfl
  rw [e] at h
  exact h
 ·omega
theorem clsWords_pos (k : Int) (h : 0 ≤ k ∧ k < 32) : 2 ≤ clsWords k := by
 unfold clsWords
 rw [if_pos h]
 have h := sizes_mono 0 k.toNat (by omega) (by omega)
 have e : sizesL.getD 0 0 = 2 := rfl
 rw [e] at h
 exact h
set_option maxHeartbeats 400000 in
theorem cmost_any (w : World) : Calls Tryz.prog 218 #[] w fun e w' => e = .returned (.int .i64 256) ∧ Below w.heap.size w w' := by
 go_enter Tryz.func218, Tryz.ntmps218
 go_wp2_with fail
 refine (cwords_any _ _).mono ?_
 rintro e w1 ⟨rfl, hb⟩
 have e : ((clsWords 31 : Nat) : Int) = 256 := by decide
 rw [e]
 go_wp2_with fail
 go_ret
 exact ⟨rfl, hb⟩
def ofV (n : Int) : Value := if 1 ≤ n ∧ n ≤ 256 then .tuple #[.int .i64 (ofN n : Nat), .bool true] else .tuple #[.int .i64 0, .bool false]
set_option maxHeartbeats 400000 in
theorem cof_any (n : Int) (w : World) : Calls Tryz.prog 203 #[.int .i64 n] w fun e w' => e = .returned (ofV n) ∧ Below w.heap.size w w' := by
 by_cases h1 : n < 1
 ·have HV : Hid (ofV n = .tuple #[.int .i64 0, .bool false]) := LH (by unfold ofV; rw [if_neg (by omega)])
  go_enter Tryz.func203, Tryz.ntmps203
  go_wp2_with fail
  go_ret2
  exact ⟨by rw [HV.out]; rfl, Below.refl _ _⟩
 by_cases h2 : 256 < n
 ·have HV : Hid (ofV n = .tuple #[.int .i64 0, .bool false]) := LH (by unfold ofV; rw [if_neg (by omega)])
  go_enter Tryz.func203, Tryz.ntmps203
  go_wp2_with fail
  refine (cmost_any _).mono ?_
  rintro e w1 ⟨rfl, hb⟩
  go_wp2_with fail
  go_ret2
  exact ⟨by rw [HV.out]; rfl, hb⟩
 have HV : Hid (ofV n = .tuple #[.int .i64 (ofN n : Nat), .bool true]) := LH (by unfold ofV; rw [if_pos (by omega)])
 go_enter Tryz.func203, Tryz.ntmps203
 go_wp2_with fail
 refine (cmost_any _).mono ?_
 rintro e w1 ⟨rfl, hb⟩
 go_wp2_with fail
 go_loopw [4, 5] (fun lo hi wr => ∃ i j : Nat, i ≤ j ∧ j ≤ 31 ∧ lo = .int .i64 i ∧ hi = .int .i64 j ∧ Hid (∀ t, t < i → ((sizesL.getD t 0 : Nat) : Int) < n) ∧ Hid (n ≤ (sizesL.getD j 0 : Nat)) ∧ Below w.heap.size w wr)
  (fun lo hi _ => (intOf hi).toNat - (intOf lo).toNat)
 case atStart => exact ⟨0, 31, by omega, by omega, rfl, rfl, LH (fun t ht => by omega), LH (by show n ≤ 256; omega), hb⟩
 case round =>
  obtain ⟨i, j, hij, hj, rfl, rfl, hlo, hhi, hb⟩ := hrel
  by_cases hlt : i < j
  ·have hm : (i + j) / 2 < 32 := by omega
   have HC := LH (clsWords_nat ((i + j) / 2) hm)
   go_wp2_with fail
   refine (cwords_any _ _).mono ?_
   rintro e w2 ⟨rfl, hb2⟩
   have hb3 := hb.trans (hb2.mono hb.size)
   rw [show ((i : Int) + (j : Int)) / 2 = (((i + j) / 2 : Nat) : Int) by omega] at *
   rw [HC.out]
   obtain ⟨x, hx⟩ : ∃ x, x = sizesL.getD ((i + j) / 2) 0 := ⟨_, rfl⟩
   rw [← hx]
   have HX := LH hx
   clear hx
   by_cases hc : n ≤ (x : Int)
   ·go_wp2_with fail
    refine ⟨⟨i, (i + j) / 2, by omega, by omega, rfl, rfl, hlo, LH (by rw [← HX.out]; exact hc), hb3⟩, by simp [intOf]; omega⟩
   ·go_wp2_with fail
    refine ⟨⟨(i + j) / 2 + 1, j, by omega, by omega, vint (by omega), rfl, LH (fun t ht => ?_), hhi, hb3⟩, by simp [intOf]; omega⟩
    have h1 := sizes_mono t ((i + j) / 2) (by omega) hm
    rw [← HX.out] at h1
    omega
  ·obtain rfl : i = j := by omega
   have HO := LH (ofN_eq n i (by omega) hhi.out hlo.out)
   go_wp2_with fail
   go_ret2
   exact ⟨by rw [HV.out, HO.out]; rfl, hb⟩
def objSize (p d : Int) : Nat := if p < 0 ∨ 63 < p ∨ d < 0 ∨ 16384 < d then 0 else (1 + p + d).toNat
theorem objSize_le (p d : Int) : objSize p d ≤ 16448 := by unfold objSize; split <;> omega
def csizeV (p d : Int) : Value := if objSize p d = 0 then .tuple #[.int .i64 0, .int .i64 5] else .tuple #[.int .i64 (objSize p d : Nat), .int .i64 0]
set_option maxHeartbeats 400000 in
theorem csize_any (p d : Int) (w : World) : Calls Tryz.prog 217 #[.int .i64 p, .int .i64 d] w fun e w' => e = .returned (csizeV p d) ∧ w = w' := by
 by_cases h : p < 0 ∨ 63 < p ∨ d < 0 ∨ 16384 < d
 ·have HS : Hid (csizeV p d = .tuple #[.int .i64 0, .int .i64 5]) := LH (by unfold csizeV; rw [if_pos (by unfold objSize; rw [if_pos h])])
  rcases h with h | h | h | h
  ·go_enter Tryz.func217, Tryz.ntmps217
   go_wp2_with fail
   go_ret2
   exact ⟨by rw [HS.out]; rfl, rfl⟩
  ·have h' : ¬ p < 0 := by omega
   go_enter Tryz.func217, Tryz.ntmps217
   go_wp2_with fail
   go_ret2
   exact ⟨by rw [HS.out]; rfl, rfl⟩
  ·by_cases h1 : p < 0
   ·go_enter Tryz.func217, Tryz.ntmps217
    go_wp2_with fail
    go_ret2
    exact ⟨by rw [HS.out]; rfl, rfl⟩
   by_cases h2 : 63 < p
   ·go_enter Tryz.func217, Tryz.ntmps217
    go_wp2_with fail
    go_ret2
    exact ⟨by rw [HS.out]; rfl, rfl⟩
   go_enter Tryz.func217, Tryz.ntmps217
   go_wp2_with fail
   go_ret2
   exact ⟨by rw [HS.out]; rfl, rfl⟩
  ·have h3 : ¬ d < 0 := by omega
   by_cases h1 : p < 0
   ·go_enter Tryz.func217, Tryz.ntmps217
    go_wp2_with fail
    go_ret2
    exact ⟨by rw [HS.out]; rfl, rfl⟩
   by_cases h2 : 63 < p
   ·go_enter Tryz.func217, Tryz.ntmps217
    go_wp2_with fail
    go_ret2
    exact ⟨by rw [HS.out]; rfl, rfl⟩
   go_enter Tryz.func217, Tryz.ntmps217
   go_wp2_with fail
   go_ret2
   exact ⟨by rw [HS.out]; rfl, rfl⟩
 ·have HS : Hid (csizeV p d = .tuple #[.int .i64 (1 + p + d), .int .i64 0]) := by
   have h1 : ((objSize p d : Nat) : Int) = 1 + p + d := by unfold objSize; rw [if_neg h]; omega
   apply LH
   unfold csizeV
   rw [if_neg (by omega), h1]
  have h1 : ¬ p < 0 := by omega
  have h2 : ¬ 63 < p := by omega
  have h3 : ¬ d < 0 := by omega
  have h4 : ¬ 16384 < d := by omega
  clear h
  go_enter Tryz.func217, Tryz.ntmps217
  go_wp2_with fail
  go_ret2
  exact ⟨by rw [HS.out]; rfl, rfl⟩
set_option maxHeartbeats 400000 in
theorem osize_any (p d : Int) (w : World) : Calls Tryz.prog 202 #[.agg #[.int .i64 p, .int .i64 d]] w fun e w' => e = .returned (.int .i64 (objSize p d : Nat)) ∧ Below w.heap.size w w' := by
 have hb : ∀ o, Below w.heap.size w (w.alloc o) := fun o => (Below.refl _ _).alloc (Nat.le_refl _) o
 have HB := LH hb
 clear hb
 go_enter Tryz.func202, Tryz.ntmps202
 go_wp2_with fail
 refine (csize_any _ _ _).mono ?_
 rintro e w1 ⟨rfl, rfl⟩
 by_cases h : objSize p d = 0
 ·have HV : Hid (csizeV p d = .tuple #[.int .i64 0, .int .i64 5]) := LH (by unfold csizeV; rw [if_pos h])
  rw [HV.out]
  have H := LH h
  clear h
  go_wp2_with fail
  go_ret
  exact ⟨ret_int (by rw [H.out]; rfl), HB.out _⟩
 ·have HV : Hid (csizeV p d = .tuple #[.int .i64 (objSize p d : Nat), .int .i64 0]) := LH (by unfold csizeV; rw [if_neg h])
  rw [HV.out]
  clear h
  go_wp2_with fail
  go_ret
  exact ⟨rfl, HB.out _⟩
set_option maxHeartbeats 400000 in
theorem osmall_any (p d : Int) (w : World) : Calls Tryz.prog 181 #[.agg #[.int .i64 p, .int .i64 d]] w fun e w' => e = .returned (ofV (objSize p d : Nat)) ∧ Below w.heap.size w w' := by
 have hb : ∀ o, Below w.heap.size w (w.alloc o) := fun o => (Below.refl _ _).alloc (Nat.le_refl _) o
 have HB := LH hb
 clear hb
 go_enter Tryz.func181, Tryz.ntmps181
 go_wp2_with fail
 refine (osize_any _ _ _).mono ?_
 rintro e w1 ⟨rfl, hb1⟩
 have hb1' := (HB.out _).trans (hb1.mono (HB.out _).size)
 go_wp2_with fail
 refine (cof_any _ _).mono ?_
 rintro e w2 ⟨rfl, hb2⟩
 have hb2' := hb1'.trans (hb2.mono hb1'.size)
 by_cases h : 1 ≤ ((objSize p d : Nat) : Int) ∧ ((objSize p d : Nat) : Int) ≤ 256
 ·have HV : Hid (ofV (objSize p d : Nat) = .tuple #[.int .i64 (ofN (objSize p d : Nat) : Nat), .bool true]) := LH (by unfold ofV; rw [if_pos h])
  rw [HV.out]
  clear h hb1 hb2 hb1'
  go_wp2_with fail
  go_ret2
  exact ⟨by rw [HV.out]; rfl, hb2'⟩
 ·have HV : Hid (ofV (objSize p d : Nat) = .tuple #[.int .i64 0, .bool false]) := LH (by unfold ofV; rw [if_neg h])
  rw [HV.out]
  clear h hb1 hb2 hb1'
  go_wp2_with fail
  go_ret2
  exact ⟨by rw [HV.out]; rfl, hb2'⟩
def small (n : Nat) : Prop := 1 ≤ n ∧ n ≤ 256
instance (n : Nat) : Decidable (small n) := by unfold small; infer_instance
theorem ofV_small (n : Nat) (h : small n) : ofV (n : Int) = .tuple #[.int .i64 (ofN (n : Int) : Nat), .bool true] := by
 unfold ofV; rw [if_pos (by unfold small at h; omega)]
theorem ofV_large (n : Nat) (h : ¬ small n) : ofV (n : Int) = .tuple #[.int .i64 0, .bool false] := by
 unfold ofV; rw [if_neg (by unfold small at h; omega)]
def objBlocks (n : Nat) : Nat := if small n then 0 else (n + 511) / 512
set_option maxHeartbeats 400000 in
theorem oblocks_any (p d : Int) (w : World) : Calls Tryz.prog 184 #[.agg #[.int .i64 p, .int .i64 d]] w fun e w' => e = .returned (.int .i64 (objBlocks (objSize p d) : Nat)) ∧ Below w.heap.size w w' := by
 have hb : ∀ o, Below w.heap.size w (w.alloc o) := fun o => (Below.refl _ _).alloc (Nat.le_refl _) o
 have HB := LH hb
 clear hb
 have hle := objSize_le p d
 go_enter Tryz.func184, Tryz.ntmps184
 go_wp2_with fail
 refine (osmall_any _ _ _).mono ?_
 rintro e w1 ⟨rfl, hb1⟩
 have hb1' := (HB.out _).trans (hb1.mono (HB.out _).size)
 have hc0 : w1.cell? ⟨w.heap.size, 0, none⟩ = some (.int .i64 p) := by rw [hb1.cell (p := ⟨w.heap.size, 0, none⟩) (by simp)]; exact cell_alloc_new _ _ _ _ _ rfl
 have hc1 : w1.cell? ⟨w.heap.size, 1, none⟩ = some (.int .i64 d) := by rw [hb1.cell (p := ⟨w.heap.size, 1, none⟩) (by simp)]; exact cell_alloc_new _ _ _ _ _ rfl
 by_cases h : small (objSize p d)
 ·rw [ofV_small _ h]
  have HO : Hid (objBlocks (objSize p d) = 0) := LH (by unfold objBlocks; rw [if_pos h])
  clear h hb1
  go_wp2_with fail
  go_ret
  exact ⟨ret_int (by rw [HO.out]; rfl), hb1'⟩
 ·rw [ofV_large _ h]
  have HO : Hid (((objBlocks (objSize p d) : Nat) : Int) = upN (objSize p d : Nat) 512) := LH (by unfold objBlocks upN; rw [if_neg h]; split <;> omega)
  clear h hb1
  go_wp2_with fail
  refine (osize_any _ _ _).mono ?_
  rintro e w2 ⟨rfl, hb2⟩
  have hb2' := hb1'.trans (hb2.mono hb1'.size)
  go_wp2_with fail
  refine (up_any _ _ _ (by omega) (by omega)).mono ?_
  rintro e w3 ⟨rfl, rfl⟩
  rw [← HO.out]
  go_wp2_with fail
  go_ret
  exact ⟨rfl, hb2'⟩
def clsCells (k : Int) : Nat := 512 / clsWords k
set_option maxHeartbeats 400000 in
theorem ccells_any (k : Int) (w : World) : Calls Tryz.prog 162 #[.int .i64 k] w fun e w' => e = .returned (.int .i64 (clsCells k : Nat)) ∧ Below w.heap.size w w' := by
 by_cases h : 0 ≤ k ∧ k < 32
 ·have hp := clsWords_pos k h
  have HC : Hid (((clsCells k : Nat) : Int) = 512 / ((clsWords k : Nat) : Int)) := LH (by simp [clsCells])
  have H := LH h
  clear h
  go_enter Tryz.func162, Tryz.ntmps162
  go_wp2_with fail
  refine (cright_any _ _).mono ?_
  rintro e w1 ⟨rfl, rfl⟩
  rw [decide_eq_true H.out]
  go_wp2_with fail
  refine (cwords_any _ _).mono ?_
  rintro e w1 ⟨rfl, hb⟩
  have hle := clsWords_le k
  generalize clsWords k = x at *
  have hx0 : ((x : Int) == 0) = false := by rw [beq_eq_false_iff_ne]; omega
  go_wp2_with fail
  go_ret
  exact ⟨ret_int (by rw [HC.out]), hb⟩
 ·have HC : Hid (clsCells k = 0) := LH (by unfold clsCells clsWords; rw [if_neg h])
  have H := LH h
  clear h
  go_enter Tryz.func162, Tryz.ntmps162
  go_wp2_with fail
  refine (cright_any _ _).mono ?_
  rintro e w1 ⟨rfl, rfl⟩
  rw [decide_eq_false H.out]
  go_wp2_with fail
  go_ret
  exact ⟨ret_int (by rw [HC.out]; rfl), Below.refl _ _⟩
theorem el_int : Elem Tryz.prog 47 3 (.int .i64 0) 1 8 := Elem.mk' Tryz.underlying47 (by kernel_rfl) rfl (by decide)
def blockOf (B a : Int) : Int := if a < 0 ∨ B * 512 ≤ a then -1 else a / 512
set_option maxHeartbeats 1000000 in
theorem gblockOf_any (B : Nat) (hB : B ≤ 1000) (a : Int) (w : World) : Calls Tryz.prog 109 #[vgeom (B : Int), .int .i64 a] w fun e w' => e = .returned (.int .i64 (blockOf (B : Int) a)) ∧ Below w.heap.size w w' := by
 have HB := LH (below_alloc w (Obj.cells #[.int .i64 (B : Int)] 44))
 have c0 : (w.alloc (Obj.cells #[.int .i64 (B : Int)] 44)).cell? ⟨w.heap.size, 0, none⟩ = some (.int .i64 (B : Int)) := cell_alloc_new _ _ _ 0 _ rfl
 by_cases h1 : a < 0
 ·have HE : Hid (blockOf (B : Int) a = -1) := LH (by unfold blockOf; rw [if_pos (.inl h1)])
  go_enter Tryz.func109, Tryz.ntmps109
  go_wp2_with fail
  go_ret
  exact ⟨ret_int HE.out.symm, HB.out⟩
 by_cases h2 : (B : Int) * 512 ≤ a
 ·have HE : Hid (blockOf (B : Int) a = -1) := LH (by unfold blockOf; rw [if_pos (.inr h2)])
  go_enter Tryz.func109, Tryz.ntmps109
  go_wp2_with fail
  refine (gwords_any _ _ (by omega) (by omega)).mono ?_
  rintro e w1 ⟨rfl, hb1⟩
  have HB1 := LH (HB.out.trans (hb1.mono HB.out.size))
  clear hb1
  go_wp2_with fail
  go_ret
  exact ⟨ret_int HE.out.symm, HB1.out⟩
 have HE : Hid (blockOf (B : Int) a = a / 512) := LH (by unfold blockOf; rw [if_neg (by omega)])
 have h3 : 0 ≤ a := by omega
 have h4 : a < (B : Int) * 512 := by omega
 go_enter Tryz.func109, Tryz.ntmps109
 go_wp2_with fail
 refine (gwords_any _ _ (by omega) (by omega)).mono ?_
 rintro e w1 ⟨rfl, hb1⟩
 have HB1 := LH (HB.out.trans (hb1.mono HB.out.size))
 clear hb1
 go_wp2_with fail
 go_ret
 exact ⟨ret_int HE.out.symm, HB1.out⟩
def firstOf (B b : Int) : Int := if b < 0 ∨ B ≤ b then -1 else b * 512
set_option maxHeartbeats 1000000 in
theorem gfirst_any (B : Nat) (hB : B ≤ 1000) (b : Int) (w : World) : Calls Tryz.prog 183 #[vgeom (B : Int), .int .i64 b] w fun e w' => e = .returned (.int .i64 (firstOf (B : Int) b)) ∧ Below w.heap.size w w' := by
 by_cases h1 : b < 0
 ·have HE : Hid (firstOf (B : Int) b = -1) := LH (by unfold firstOf; rw [if_pos (.inl h1)])
  go_enter Tryz.func183, Tryz.ntmps183
  go_wp2_with fail
  go_ret
  exact ⟨ret_int HE.out.symm, below_alloc _ _⟩
 by_cases h2 : (B : Int) ≤ b
 ·have HE : Hid (firstOf (B : Int) b = -1) := LH (by unfold firstOf; rw [if_pos (.inr h2)])
  go_enter Tryz.func183, Tryz.ntmps183
  go_wp2_with fail
  go_ret
  exact ⟨ret_int HE.out.symm, below_alloc _ _⟩
 have HE : Hid (firstOf (B : Int) b = b * 512) := LH (by unfold firstOf; rw [if_neg (by omega)])
 have h3 : 0 ≤ b := by omega
 have h4 : b < (B : Int) := by omega
 go_enter Tryz.func183, Tryz.ntmps183
 go_wp2_with fail
 go_ret
 exact ⟨ret_int HE.out.symm, below_alloc _ _⟩
set_option maxHeartbeats 1000000 in
theorem gdata_any (B : Nat) (hB : B ≤ 1000) (a : Int) (w : World) : Calls Tryz.prog 204 #[vgeom (B : Int), .int .i64 a] w fun e w' => e = .returned (.bool (decide (1 ≤ blockOf (B : Int) a))) ∧ Below w.heap.size w w' := by
 have HB := LH (below_alloc w (Obj.cells #[.int .i64 (B : Int)] 44))
 go_enter Tryz.func204, Tryz.ntmps204
 go_wp2_with fail
 refine (gblockOf_any B hB a _).mono ?_
 rintro e w1 ⟨rfl, hb1⟩
 have HB1 := LH (HB.out.trans (hb1.mono HB.out.size))
 clear hb1
 go_wp2_with fail
 go_ret
 exact ⟨rfl, HB1.out⟩
def cellAt (B k b i : Int) : Int :=
 if ¬ (0 ≤ k ∧ k < 32) ∨ b < 1 ∨ B ≤ b ∨ i < 0 ∨ (clsCells k : Int) ≤ i then -1 else b * 512 + i * (clsWords k : Int)
set_option maxHeartbeats 4000000 in
set_option maxRecDepth 20000 in
theorem caddr_any (B : Nat) (hB : B ≤ 1000) (k b i : Int) (w : World) : Calls Tryz.prog 163 #[vgeom (B : Int), .int .i64 k, .agg #[.int .i64 b, .int .i64 i]] w fun e w' => e = .returned (.int .i64 (cellAt (B : Int) k b i)) ∧ Below w.heap.size w w' := by
 have HM := LH (Mem.two w #[.int .i64 (B : Int)] 44 #[.int .i64 b, .int .i64 i] 266)
 have HP : Hid (∀ (x : Int) (w' : World), x = cellAt (B : Int) k b i → Below w.heap.size w w' → (fun e w' => e = Ending.returned (.int .i64 (cellAt (B : Int) k b i)) ∧ Below w.heap.size w w') (.returned (.int .i64 x)) w') := LH (fun x w' h1 h2 => by subst h1; exact ⟨rfl, h2⟩)
 generalize (fun e w' => e = Ending.returned (.int .i64 (cellAt (B : Int) k b i)) ∧ Below w.heap.size w w') = Post at *
 have HC : Hid (cellAt (B : Int) k b i = if ¬ (0 ≤ k ∧ k < 32) ∨ b < 1 ∨ (B : Int) ≤ b ∨ i < 0 ∨ (clsCells k : Int) ≤ i then -1 else b * 512 + i * (clsWords k : Int)) := LH rfl
 have hcl : clsCells k ≤ 512 := Nat.div_le_self _ _
 have hwl := clsWords_le k
 generalize cellAt (B : Int) k b i = x at *
 go_enter Tryz.func163, Tryz.ntmps163
 go_upto_region 1 with fail
 generalize (w.alloc _).alloc _ = w0 at *
 obtain ⟨q, hq⟩ : ∃ q, q = w.heap.size := ⟨_, rfl⟩
 rw [← hq] at HM ⊢
 clear hq
 have c0 := HM.out.cell 0 0 rfl rfl
 have c1 := HM.out.cell 1 0 rfl rfl
 have c2 := HM.out.cell 1 1 rfl rfl
 have r0 := fun x => later_cell c0 x
 have r1 := fun x => later_cell c1 x
 have r2 := fun x => later_cell c2 x
 have hpos := fun h => clsWords_pos k h
 by_cases hk : 0 ≤ k ∧ k < 32
 case neg =>
  have HE : Hid (-1 = x) := LH (by rw [HC.out, if_pos (.inl hk)])
  have HK : Hid (decide (0 ≤ k ∧ k < 32) = false) := LH (by simpa using hk)
  have HR : Hid (∀ x : Later w0, Calls Tryz.prog 131 #[.int .i64 k] x.val fun e w' => e = .returned (.bool false) ∧ Below x.val.heap.size x.val w') := LH (fun x => (cright_any k x.val).mono (by rintro e w' ⟨rfl, rfl⟩; rw [HK.out]; exact ⟨rfl, Below.refl _ _⟩))
  clear hk hpos
  refine wp_region_later (by kernel_rfl) (by kernel_rfl) ?_
  repeat (quiet_step ((rename_i x; exact calls_later (HR.out x))))
  refine wpQuiet_nil ?_
  rintro w5 ⟨x5, hx5⟩
  have HM5 := LH (HM.out.later (W' := w5) (by rw [hx5]; exact x5.below))
  clear hx5 c0 c1 c2 r0 r1 r2 HM
  go_wp2_with fail
  exact HP.out _ _ HE.out HM5.out.below
 have HR : Hid (∀ x : Later w0, Calls Tryz.prog 131 #[.int .i64 k] x.val fun e w' => e = .returned (.bool true) ∧ Below x.val.heap.size x.val w') := LH (fun x => (cright_any k x.val).mono (by rintro e w' ⟨rfl, rfl⟩; rw [decide_eq_true hk]; exact ⟨rfl, Below.refl _ _⟩))
 have hp2 := hpos hk
 clear hpos
 by_cases hout : b < 1 ∨ (B : Int) ≤ b ∨ i < 0
 ·have HE : Hid (-1 = x) := LH (by rw [HC.out, if_pos (by rcases hout with h | h | h; exact .inr (.inl h); exact .inr (.inr (.inl h)); exact .inr (.inr (.inr (.inl h))))])
  have hc : b < 1 ∨ (1 ≤ b ∧ (B : Int) ≤ b) ∨ (1 ≤ b ∧ b < (B : Int) ∧ i < 0) := by omega
  clear hout hk
  rcases hc with h1 | ⟨h1, h2⟩ | ⟨h1, h2, h3⟩
  all_goals
   refine wp_region_later (by kernel_rfl) (by kernel_rfl) ?_
   repeat (quiet_step ((rename_i x; exact calls_later (HR.out x))))
   refine wpQuiet_nil ?_
   rintro w5 ⟨x5, hx5⟩
   have HM5 := LH (HM.out.later (W' := w5) (by rw [hx5]; exact x5.below))
   clear hx5 c0 c1 c2 r0 r1 r2 HM
   go_wp2_with fail
   exact HP.out _ _ HE.out HM5.out.below
 have h1 : 1 ≤ b := by omega
 have h2 : b < (B : Int) := by omega
 have h3 : 0 ≤ i := by omega
 clear hout
 obtain ⟨cn, hcn⟩ : ∃ cn, cn = clsCells k := ⟨_, rfl⟩
 have HCl : Hid (∀ x : Later w0, Calls Tryz.prog 162 #[.int .i64 k] x.val fun e w' => e = .returned (.int .i64 (cn : Int)) ∧ Below x.val.heap.size x.val w') := LH (fun x => by rw [hcn]; exact ccells_any k x.val)
 rw [← hcn] at HC hcl
 clear hcn
 by_cases h4 : (cn : Int) ≤ i
 ·have HE : Hid (-1 = x) := LH (by rw [HC.out, if_pos (.inr (.inr (.inr (.inr h4))))])
  clear hk
  refine wp_region_later (by kernel_rfl) (by kernel_rfl) ?_
  repeat (quiet_step ((rename_i x; first | (go_at_call 131; exact calls_later (HR.out x)) | (go_at_call 162; exact calls_later (HCl.out x)))))
  refine wpQuiet_nil ?_
  rintro w5 ⟨x5, hx5⟩
  have HM5 := LH (HM.out.later (W' := w5) (by rw [hx5]; exact x5.below))
  clear hx5 c0 c1 c2 r0 r1 r2 HM
  go_wp2_with fail
  exact HP.out _ _ HE.out HM5.out.below
 ·have h5 : i < (cn : Int) := by omega
  have HE : Hid (x = b * 512 + i * (clsWords k : Int)) := LH (by rw [HC.out, if_neg (by rintro (h | h | h | h | h); exact h hk; omega; omega; omega; exact h4 h)])
  clear h4
  refine wp_region_later (by kernel_rfl) (by kernel_rfl) ?_
  repeat (quiet_step ((rename_i x; first | (go_at_call 131; exact calls_later (HR.out x)) | (go_at_call 162; exact calls_later (HCl.out x)))))
  refine wpQuiet_nil ?_
  rintro w5 ⟨x5, hx5⟩
  have HM5 := LH (HM.out.later (W' := w5) (by rw [hx5]; exact x5.below))
  clear hx5 c0 c1 c2 r0 r1 r2 HM
  go_wp2_with fail
  have c0 := HM5.out.cell 0 0 rfl rfl
  have c1 := HM5.out.cell 1 0 rfl rfl
  have c2 := HM5.out.cell 1 1 rfl rfl
  have r0 := fun x => later_cell c0 x
  have r1 := fun x => later_cell c1 x
  have r2 := fun x => later_cell c2 x
  obtain ⟨wn, hwn⟩ : ∃ wn, wn = clsWords k := ⟨_, rfl⟩
  have HFi : Hid (∀ x : Later w5, Calls Tryz.prog 183 #[vgeom (B : Int), .int .i64 b] x.val fun e w' => e = .returned (.int .i64 (b * 512)) ∧ Below x.val.heap.size x.val w') := LH (fun x => by
   have := gfirst_any B hB b x.val
   rw [show firstOf (B : Int) b = b * 512 by unfold firstOf; rw [if_neg (by omega)]] at this
   exact this)
  have HWo : Hid (∀ x : Later w5, Calls Tryz.prog 185 #[.int .i64 k] x.val fun e w' => e = .returned (.int .i64 (wn : Int)) ∧ Below x.val.heap.size x.val w') := LH (fun x => by rw [hwn]; exact cwords_any k x.val)
  rw [← hwn] at HE hwl hp2
  have hm1 : 0 ≤ i * (wn : Int) := Int.mul_nonneg h3 (by omega)
  have hm2 : i * (wn : Int) ≤ 512 * 256 := Int.mul_le_mul (by omega) (by omega) (by omega) (by omega)
  clear hwn hk
  refine wp_region_later (by kernel_rfl) (by kernel_rfl) ?_
  repeat (quiet_step ((rename_i x; first | (go_at_call 183; exact calls_later (HFi.out x)) | (go_at_call 185; exact calls_later (HWo.out x)))))
  refine wpQuiet_nil ?_
  rintro w6 ⟨x6, hx6⟩
  have HM6 := LH (HM5.out.later (W' := w6) (by rw [hx6]; exact x6.below))
  clear hx6 c0 c1 c2 r0 r1 r2 HM5
  go_wp2_with fail
  have e1 : IntKind.i64.wrap (i * (wn : Int)) = i * (wn : Int) := IntWalk.i64_in _ (by omega)
  have e2 : IntKind.i64.wrap (b * 512 + i * (wn : Int)) = b * 512 + i * (wn : Int) := IntWalk.i64_in _ (by omega)
  refine HP.out _ _ ?_ HM6.out.below
  rw [e1, e2, HE.out]
theorem Touch.wide {L M : List Nat} {w w' : World} (h : Touch L w w') (hs : ∀ b ∈ L, b ∈ M) : Touch M w w' := ⟨h.os, h.tape, h.output, h.size, fun k hk hn => h.block k hk (fun hm => hn (hs k hm))⟩
structure TabG (w : World) (p g c : Nat) (F : Foot) (B : Nat) (l : List Hd) : Prop where
 head : w.heap[p]? = some (.cells #[vdev F, .int .i64 (B : Int), .slice (some ⟨g, 0, none⟩) B c] 158 (0, 0))
 len : l.length = B
 cap : B ≤ c
 row : RowAt w g 107 (hdCs l)
theorem TabG.at {w : World} {p g c B : Nat} {F : Foot} {l : List Hd} (h : TabG w p g c F B l) (hne : p ≠ g) : TabAt w p F B l := ⟨g, c, by rw [h.len]; exact h.head, by rw [h.len]; exact h.cap, h.row, hne⟩
theorem TabG.keep {w w' : World} {p g c B : Nat} {F : Foot} {l : List Hd} (h : TabG w p g c F B l) (h1 : w'.heap[p]? = w.heap[p]?) (h2 : w'.heap[g]? = w.heap[g]?) : TabG w' p g c F B l :=
 ⟨h1.trans h.head, h.len, h.cap, h.row.keep h2⟩
theorem TabG.lt {w : World} {p g c B : Nat} {F : Foot} {l : List Hd} (h : TabG w p g c F B l) : p < w.heap.size ∧ g < w.heap.size := ⟨(Array.getElem?_eq_some_iff.1 h.head).1, h.row.lt⟩
def OpenPostG (f : Nat → Nat) (F : Foot) (B : Nat) (w : World) : Ending → World → Prop := fun en w' => Below w.heap.size w w' ∧
  ((AllOk f B ∧ ∃ p g c, en = .returned (.tuple #[.pointer (some ⟨p, 0, none⟩), .int .i64 0]) ∧ w.heap.size ≤ p ∧ w.heap.size ≤ g ∧ p ≠ g ∧ TabG w' p g c F B (hds f B)) ∨
   (∃ b : Nat, 1 ≤ b ∧ b < B ∧ AllOk f b ∧ (decN b (f b)).code ≠ 0 ∧ en = .returned (.tuple #[.pointer none, .int .i64 21])))
set_option maxHeartbeats 1000000 in
set_option maxRecDepth 100000 in
theorem open_tabG {w : World} {F : Foot} {S : Dev} (h : DevAt w F S) (B : Nat) (hB1 : 1 ≤ B) (hB : B ≤ 1000) :
  Calls Tryz.prog 111 #[vdev F, vgeom B] w (OpenPostG (devWord S) F B w) := by
 have hbx := below_alloc w (.cells #[.int .i64 (B : Int)] 44)
 have HD := LH (h.below hbx)
 have HB := LH hbx
 have hcx : (w.alloc (.cells #[.int .i64 (B : Int)] 44)).cell? ⟨w.heap.size, 0, none⟩ = some (.int .i64 (B : Int)) := cell_alloc_new _ _ _ 0 _ rfl
 generalize hP : OpenPostG (devWord S) F B w = Post
 have HPE := LH hP
 clear h hP hbx
 go_enter Tryz.func111, Tryz.ntmps111
 go_wp2_with fail
 refine (read_any HD.out B hB1 hB).mono ?_
 rintro e w1 ⟨hb1, ⟨hok, g, c, rfl, hg, hgc, hr⟩ | ⟨b, hb0, hbB, hok, hbad, rfl⟩⟩
 ·have hcx1 : w1.cell? ⟨w.heap.size, 0, none⟩ = some (.int .i64 (B : Int)) := below_cells hb1 hcx (Nat.le_refl _)
  have HB1 := LH (HB.out.trans (hb1.mono HB.out.size))
  have HOK := LH hok
  have HR := LH hr
  have hgl := hr.lt
  clear hcx hok hr hb1 HD
  go_wp2_with fail
  rw [← HPE.out]
  refine ⟨HB1.out.alloc HB1.out.size _, .inl ⟨HOK.out, w1.heap.size, g, c, rfl, HB1.out.size, by simp at hg; omega, by omega, ⟨?_, hds_length _ _, hgc, HR.out.keep (Below.heap_alloc _ _ _ hgl)⟩⟩⟩
  rw [heap_alloc_new]
 ·have HB1 := LH (HB.out.trans (hb1.mono HB.out.size))
  have HOK := LH hok
  have HBad := LH hbad
  clear hok hbad hb1 HD
  go_wp2_with fail
  rw [← HPE.out]
  exact ⟨HB1.out, .inr ⟨b, hb0, hbB, HOK.out, HBad.out, rfl⟩⟩
def allRight (l : List Hd) (k : Nat) : Prop := ∀ i, i < k → hdRight (l.getD i default).k (l.getD i default).c (l.getD i default).l = true
instance (l : List Hd) (k : Nat) : Decidable (allRight l k) := Nat.decidableBallLT k _
end Go.Proofs.YtpohaahihdhleaaGreat
namespace Go.Proofs.YtpohaahihdhleaaGreat
def IsRun (f : Nat → Bool) (s n : Nat) : Prop :=
 1 ≤ n ∧ (∀ b, s ≤ b → b < s + n → f b = true) ∧ (∀ b, b + 1 = s → f b = false) ∧ f (s + n) = false
theorem IsRun.meet {f : Nat → Bool} {s n s' n' b : Nat} (h : IsRun f s n) (h' : IsRun f s' n') (h1 : s ≤ b) (h2 : b < s + n) (h3 : s' ≤ b) (h4 : b < s' + n') : s = s' ∧ n = n' := by
 obtain ⟨hn, ha, hb, hc⟩ := h
 obtain ⟨hn', ha', hb', hc'⟩ := h'
 have es : s = s' := by
  rcases Nat.lt_trichotomy s s' with hlt | he | hlt
  ·have x := hb' (s' - 1) (by omega)
   have y := ha (s' - 1) (by omega) (by omega)
   rw [x] at y; cases y
  ·exact he
  ·have x := hb (s - 1) (by omega)
   have y := ha' (s - 1) (by omega) (by omega)
   rw [x] at y; cases y
 subst es
 refine ⟨rfl, ?_⟩
 rcases Nat.lt_trichotomy n n' with hlt | he | hlt
 ·have y := ha' (s + n) (by omega) (by omega)
  rw [hc] at y; cases y
 ·exact he
 ·have y := ha (s + n') (by omega) (by omega)
  rw [hc'] at y; cases y
theorem IsRun.one {f : Nat → Bool} {s n n' : Nat} (h : IsRun f s n) (h' : IsRun f s n') : n = n' :=
 (h.meet h' (b := s) (Nat.le_refl _) (by have := h.1; omega) (Nat.le_refl _) (by have := h'.1; omega)).2
theorem IsRun.back {f : Nat → Bool} {s n s' n' : Nat} (h : IsRun f s n) (h' : IsRun f s' n') (he : s + n = s' + n') : s = s' ∧ n = n' :=
 h.meet h' (b := s + n - 1) (by have := h.1; omega) (by have := h.1; omega) (by have := h'.1; omega) (by have := h'.1; omega)
theorem run_start (f : Nat → Bool) : ∀ b, f b = true → ∃ s, s ≤ b ∧ (∀ x, s ≤ x → x ≤ b → f x = true) ∧ ∀ x, x + 1 = s → f x = false
 | 0, h => ⟨0, Nat.le_refl _, fun x _ hx => by rw [show x = 0 by omega]; exact h, fun x hx => by omega⟩
 | b + 1, h => by
  cases hb : f b with
  | false => exact ⟨b + 1, Nat.le_refl _, fun x h1 h2 => by rw [show x = b + 1 by omega]; exact h, fun x hx => by rw [show x = b by omega]; exact hb⟩
  | true =>
   obtain ⟨s, h1, h2, h3⟩ := run_start f b hb
   refine ⟨s, by omega, fun x hx hx' => ?_, h3⟩
   by_cases hxe : x = b + 1
   ·rw [hxe]; exact h
   ·exact h2 x hx (by omega)
theorem run_end (f : Nat → Bool) (L : Nat) (hL : f L = false) : ∀ k b, b + k = L → f b = true → ∃ e, b < e ∧ (∀ x, b ≤ x → x < e → f x = true) ∧ f e = false
 | 0, b, hb, h => by rw [show b = L by omega, hL] at h; cases h
 | k + 1, b, hb, h => by
  cases hn : f (b + 1) with
  | false => exact ⟨b + 1, by omega, fun x h1 h2 => by rw [show x = b by omega]; exact h, hn⟩
  | true =>
   obtain ⟨e, h1, h2, h3⟩ := run_end f L hL k (b + 1) (by omega) hn
   refine ⟨e, by omega, fun x hx hx' => ?_, h3⟩
   by_cases hxe : x = b
   ·rw [hxe]; exact h
   ·exact h2 x (by omega) hx'
theorem has_run {f : Nat → Bool} {L b : Nat} (hL : ∀ x, L ≤ x → f x = false) (h : f b = true) : ∃ s n, IsRun f s n ∧ s ≤ b ∧ b < s + n := by
 have hb : b < L := by
  rcases Nat.lt_or_ge b L with h1 | h1
  ·exact h1
  ·rw [hL b h1] at h; cases h
 obtain ⟨s, h1, h2, h3⟩ := run_start f b h
 obtain ⟨e, h4, h5, h6⟩ := run_end f L (hL L (Nat.le_refl _)) (L - b) b (by omega) h
 refine ⟨s, e - s, ⟨by omega, fun x hx hx' => ?_, h3, by rw [show s + (e - s) = e by omega]; exact h6⟩, h1, by omega⟩
 rcases Nat.lt_or_ge b x with hbx | hbx
 ·exact h5 x (by omega) (by omega)
 ·exact h2 x hx hbx
theorem give_run {f f' : Nat → Bool} {a m s0 e0 : Nat} (hm : 1 ≤ m) (h0 : ∀ b, a ≤ b → b < a + m → f b = false)
  (hin : ∀ b, a ≤ b → b < a + m → f' b = true) (hout : ∀ b, b < a ∨ a + m ≤ b → f' b = f b)
  (hs : s0 = a ∧ (∀ b, b + 1 = a → f b = false) ∨ s0 < a ∧ IsRun f s0 (a - s0))
  (he : e0 = a + m ∧ f (a + m) = false ∨ a + m < e0 ∧ IsRun f (a + m) (e0 - (a + m))) (s n : Nat) :
  IsRun f' s n ↔ (s = s0 ∧ n = e0 - s0) ∨ (IsRun f s n ∧ s + n ≠ a ∧ s ≠ a + m) := by
 have hs0 : s0 ≤ a := by rcases hs with ⟨h, _⟩ | ⟨h, _⟩ <;> omega
 have he0 : a + m ≤ e0 := by rcases he with ⟨h, _⟩ | ⟨h, _⟩ <;> omega
 have hfe : f e0 = false := by
  rcases he with ⟨h, h'⟩ | ⟨h, _, _, _, h'⟩
  ·rw [h]; exact h'
  ·rw [show e0 = a + m + (e0 - (a + m)) by omega]; exact h'
 have hfs : ∀ b, b + 1 = s0 → f b = false := by
  rcases hs with ⟨h, h'⟩ | ⟨h, _, _, h', _⟩
  ·rw [h]; exact h'
  ·exact h'
 have hnew : IsRun f' s0 (e0 - s0) := by
  refine ⟨by omega, fun b h1 h2 => ?_, fun b hb => by rw [hout b (by omega)]; exact hfs b hb, by rw [show s0 + (e0 - s0) = e0 by omega, hout e0 (by omega)]; exact hfe⟩
  rcases Nat.lt_or_ge b a with h3 | h3
  ·rw [hout b (by omega)]
   rcases hs with ⟨h, _⟩ | ⟨h, _, h', _⟩
   ·omega
   ·exact h' b h1 (by omega)
  ·rcases Nat.lt_or_ge b (a + m) with h4 | h4
   ·exact hin b h3 h4
   ·rw [hout b (by omega)]
    rcases he with ⟨h, _⟩ | ⟨h, _, h', _⟩
    ·omega
    ·exact h' b h4 (by omega)
 have hold : ∀ s n, IsRun f s n → s + n ≤ a ∨ a + m ≤ s := by
  intro s n ⟨h1, h2, _, _⟩
  rcases Nat.lt_or_ge a (s + n) with h5 | h5
  ·rcases Nat.lt_or_ge s (a + m) with h6 | h6
   ·by_cases h7 : a ≤ s
    ·have := h2 s (Nat.le_refl _) (by omega); rw [h0 s h7 h6] at this; cases this
    ·have := h2 a (by omega) h5; rw [h0 a (Nat.le_refl _) (by omega)] at this; cases this
   ·exact .inr h6
  ·exact .inl h5
 constructor
 ·intro h
  by_cases hc : s < e0 ∧ s0 < s + n
  ·left
   have hb : ∃ b, s ≤ b ∧ b < s + n ∧ s0 ≤ b ∧ b < s0 + (e0 - s0) := by
    have := h.1
    by_cases hx : s0 ≤ s
    ·exact ⟨s, by omega, by omega, hx, by omega⟩
    ·exact ⟨s0, by omega, by omega, by omega, by omega⟩
   obtain ⟨b, h1, h2, h3, h4⟩ := hb
   exact h.meet hnew h1 h2 h3 h4
  ·right
   obtain ⟨h1, h2, h3, h4⟩ := h
   have hne : s ≠ e0 := by
    rintro rfl
    have := h2 _ (Nat.le_refl _) (by omega); rw [hout _ (by omega), hfe] at this; cases this
   have hne' : s + n ≠ s0 := by
    intro e
    have := h2 (s0 - 1) (by omega) (by omega); rw [hout _ (by omega), hfs (s0 - 1) (by omega)] at this; cases this
   have hfar : e0 < s ∨ s + n < s0 := by omega
   refine ⟨⟨h1, fun b hb hb' => by rw [← hout b (by omega)]; exact h2 b hb hb', fun b hb => by rw [← hout b (by omega)]; exact h3 b hb, by rw [← hout _ (by omega)]; exact h4⟩, by omega, by omega⟩
 ·rintro (⟨rfl, rfl⟩ | ⟨h, h1, h2⟩)
  ·exact hnew
  ·have ho := hold s n h
   obtain ⟨h3, h4, h5, h6⟩ := h
   refine ⟨h3, fun b hb hb' => by rw [hout b (by omega)]; exact h4 b hb hb', fun b hb => by rw [hout b (by omega)]; exact h5 b hb, ?_⟩
   rw [hout _ (by omega)]; exact h6
def cutAt (f : Nat → Bool) (L b : Nat) : Bool := decide (b < L) && f b
def runsTo (f : Nat → Bool) : Nat → List (Nat × Nat)
 | 0 => []
 | b + 1 => if f b then
   if 0 < b ∧ f (b - 1) = true then
    match (runsTo f b).getLast? with
    | none => []
    | some x => (runsTo f b).dropLast ++ [(x.1, x.2 + 1)]
   else runsTo f b ++ [(b, 1)]
  else runsTo f b
def Rising (l : List (Nat × Nat)) : Prop := l.Pairwise fun x y => x.1 < y.1
structure IsRuns (f : Nat → Bool) (l : List (Nat × Nat)) : Prop where
 rising : Rising l
 mem : ∀ s n, (s, n) ∈ l ↔ IsRun f s n
theorem isRuns_congr {f g : Nat → Bool} {l : List (Nat × Nat)} (h : IsRuns f l) (hfg : ∀ b, f b = g b) : IsRuns g l := by
 have : f = g := funext hfg
 rw [← this]; exact h
theorem runsTo_step {f f' : Nat → Bool} {l : List (Nat × Nat)} {L : Nat} (h : IsRuns f l) (h0 : ∀ b, L ≤ b → f b = false)
  (hin : f' L = true) (hout : ∀ b, b ≠ L → f' b = f b) :
  IsRuns f' (if 0 < L ∧ f (L - 1) = true then
    match l.getLast? with
    | none => []
    | some x => l.dropLast ++ [(x.1, x.2 + 1)]
   else l ++ [(L, 1)]) := by
 have hlt : ∀ s n, (s, n) ∈ l → s < L := by
  intro s n hm
  have hr := (h.mem s n).1 hm
  rcases Nat.lt_or_ge s L with h1 | h1
  ·exact h1
  ·have := hr.2.1 s (Nat.le_refl _) (by have := hr.1; omega); rw [h0 s h1] at this; cases this
 split
 ·rename_i hc
  obtain ⟨s0, n0, hr0, hs0, he0⟩ := has_run h0 hc.2
  have hend : s0 + n0 = L := by
   rcases Nat.lt_or_ge L (s0 + n0) with h1 | h1
   ·have := hr0.2.1 L (by omega) h1; rw [h0 L (Nat.le_refl _)] at this; cases this
   ·omega
  have hm0 := (h.mem s0 n0).2 hr0
  obtain ⟨q, x, hq⟩ : ∃ q x, l = q ++ [x] := by
   rcases List.eq_nil_or_concat l with e | ⟨q, x, e⟩
   ·rw [e] at hm0; exact absurd hm0 (by simp)
   ·exact ⟨q, x, by rw [e]; simp⟩
  have hx : x = (s0, n0) := by
   rw [hq] at hm0
   rcases List.mem_append.1 hm0 with h1 | h1
   ·exfalso
    have hp := h.rising
    unfold Rising at hp
    rw [hq] at hp
    have h2 : s0 < x.1 := (List.pairwise_append.1 hp).2.2 _ h1 x (by simp)
    have hxm : (x.1, x.2) ∈ l := by rw [hq]; simp
    have h3 := hlt _ _ hxm
    have hrx := (h.mem _ _).1 hxm
    have := hrx.1
    have := (hr0.meet hrx (b := x.1) (by omega) (by omega) (Nat.le_refl _) (by omega)).1
    omega
   ·exact (List.mem_singleton.1 h1).symm
  subst hx
  have hG := fun s n => give_run (f := f) (f' := f') (a := L) (m := 1) (s0 := s0) (e0 := L + 1) (Nat.le_refl _) (fun b h1 _ => h0 b h1)
   (fun b h1 h2 => by rw [show b = L by omega]; exact hin) (fun b hb => hout b (by omega)) (.inr ⟨by omega, by rw [show L - s0 = n0 by omega]; exact hr0⟩) (.inl ⟨rfl, h0 _ (by omega)⟩) s n
  rw [hq, List.getLast?_concat]
  simp only [List.dropLast_concat]
  have hp := h.rising
  unfold Rising at hp
  rw [hq] at hp
  constructor
  ·exact List.pairwise_append.2 ⟨(List.pairwise_append.1 hp).1, by simp, fun y hy z hz => by
    rw [List.mem_singleton.1 hz]; exact (List.pairwise_append.1 hp).2.2 y hy (s0, n0) (by simp)⟩
  ·intro s n
   rw [hG s n]
   constructor
   ·intro hm
    rcases List.mem_append.1 hm with h1 | h1
    ·right
     have hr := (h.mem s n).1 (by rw [hq]; simp [h1])
     have h2 : s < s0 := (List.pairwise_append.1 hp).2.2 _ h1 (s0, n0) (by simp)
     refine ⟨hr, ?_, by omega⟩
     intro e
     have := (hr.back hr0 (by omega)).1
     omega
    ·left
     have := List.mem_singleton.1 h1
     injection this with e1 e2
     omega
   ·rintro (⟨rfl, rfl⟩ | ⟨hr, h1, _⟩)
    ·exact List.mem_append.2 (.inr (by rw [show L + 1 - s = n0 + 1 by omega]; simp))
    ·have hm := (h.mem s n).2 hr
     rw [hq] at hm
     rcases List.mem_append.1 hm with h2 | h2
     ·exact List.mem_append.2 (.inl h2)
     ·have := List.mem_singleton.1 h2
      injection this with e1 e2
      omega
 ·rename_i hc
  have hfl : ∀ b, b + 1 = L → f b = false := by
   intro b hb
   cases hv : f b with
   | false => rfl
   | true => exact absurd ⟨by omega, by rw [show L - 1 = b by omega]; exact hv⟩ hc
  have hG := fun s n => give_run (f := f) (f' := f') (a := L) (m := 1) (s0 := L) (e0 := L + 1) (Nat.le_refl _) (fun b h1 _ => h0 b h1)
   (fun b h1 h2 => by rw [show b = L by omega]; exact hin) (fun b hb => hout b (by omega)) (.inl ⟨rfl, hfl⟩) (.inl ⟨rfl, h0 _ (by omega)⟩) s n
  constructor
  ·exact List.pairwise_append.2 ⟨h.rising, by simp, fun y hy z hz => by
    rw [List.mem_singleton.1 hz]; exact hlt y.1 y.2 hy⟩
  ·intro s n
   rw [hG s n]
   constructor
   ·intro hm
    rcases List.mem_append.1 hm with h1 | h1
    ·right
     have hr := (h.mem s n).1 h1
     refine ⟨hr, ?_, by have := hlt s n h1; omega⟩
     intro e
     have hn := hr.1
     have := hr.2.1 (L - 1) (by omega) (by omega)
     rw [hfl (L - 1) (by omega)] at this; cases this
    ·left
     have := List.mem_singleton.1 h1
     injection this with e1 e2
     omega
   ·rintro (⟨rfl, rfl⟩ | ⟨hr, _, _⟩)
    ·exact List.mem_append.2 (.inr (by rw [show s + 1 - s = 1 by omega]; simp))
    ·exact List.mem_append.2 (.inl ((h.mem s n).2 hr))
theorem runsTo_is (f : Nat → Bool) : ∀ L, IsRuns (cutAt f L) (runsTo f L)
 | 0 => ⟨List.Pairwise.nil, fun s n => ⟨fun h => absurd h (by simp [runsTo]), fun h => by
   have := h.2.1 s (Nat.le_refl _) (by have := h.1; omega); simp [cutAt] at this⟩⟩
 | L + 1 => by
  have ih := runsTo_is f L
  unfold runsTo
  cases hf : f L with
  | false =>
   simp only [Bool.false_eq_true, if_false]
   refine isRuns_congr ih fun b => ?_
   unfold cutAt
   by_cases hb : b < L
   ·simp [hb, Nat.lt_succ_of_lt hb]
   ·by_cases he : b = L
    ·subst he; simp [hf]
    ·rw [decide_eq_false hb, decide_eq_false (by omega)]
  | true =>
   simp only [if_true]
   have hst := runsTo_step (f' := cutAt f (L + 1)) (L := L) ih (fun b hb => by unfold cutAt; rw [decide_eq_false (by omega)]; rfl) (by unfold cutAt; simp [hf]) (fun b hb => by
    unfold cutAt
    by_cases h1 : b < L
    ·simp [h1, Nat.lt_succ_of_lt h1]
    ·rw [decide_eq_false h1, decide_eq_false (by omega)])
   have hc : (0 < L ∧ cutAt f L (L - 1) = true) ↔ (0 < L ∧ f (L - 1) = true) := by
    unfold cutAt
    constructor
    ·rintro ⟨h1, h2⟩; exact ⟨h1, by simpa [show L - 1 < L by omega] using h2⟩
    ·rintro ⟨h1, h2⟩; exact ⟨h1, by simpa [show L - 1 < L by omega] using h2⟩
   simp only [hc] at hst
   exact hst
theorem rising_nodup {l : List (Nat × Nat)} (h : Rising l) : l.Nodup :=
 List.Pairwise.imp (fun {x y} hxy e => by rw [e] at hxy; omega) h
def sumOf (l : List (Nat × Nat)) : Nat := (l.map (·.2)).sum
theorem sum_perm {a b : List (Nat × Nat)} (h : a.Perm b) : sumOf a = sumOf b := (h.map _).sum_nat
theorem sum_add (l : List (Nat × Nat)) (x : Nat × Nat) : sumOf (l ++ [x]) = sumOf l + x.2 := by simp [sumOf]
def Best (n : Nat) (A : Nat → Nat → Prop) : Option (Nat × Nat) → Prop
 | none => ∀ s k, A s k → k < n
 | some x => A x.1 x.2 ∧ n ≤ x.2 ∧ ∀ s k, A s k → n ≤ k → x.2 < k ∨ (x.2 = k ∧ x.1 ≤ s)
def shorter (n : Nat) (o : Option (Nat × Nat)) (k : Nat) : Bool :=
 decide (n ≤ k) && match o with
  | none => true
  | some y => decide (k < y.2)
def pickGo (n : Nat) : Option (Nat × Nat) → List (Nat × Nat) → Option (Nat × Nat)
 | o, [] => o
 | o, x :: l => pickGo n (if shorter n o x.2 then some x else o) l
def pick (n : Nat) (l : List (Nat × Nat)) : Option (Nat × Nat) := pickGo n none l
def fb (l : List Bool) (b : Nat) : Bool := l.getD b false
theorem fb_far (l : List Bool) (b : Nat) (h : l.length ≤ b) : fb l b = false := by
 unfold fb; rw [List.getD_eq_getElem?_getD, List.getElem?_eq_none h]; rfl
def setTo (l : List Bool) (a : Nat) (v : Bool) : Nat → List Bool
 | 0 => l
 | m + 1 => (setTo l a v m).set (a + m) v
theorem setTo_length (l : List Bool) (a : Nat) (v : Bool) : ∀ m, (setTo l a v m).length = l.length
 | 0 => rfl
 | m + 1 => by rw [setTo, List.length_set, setTo_length l a v m]
theorem setTo_fb (l : List Bool) (a : Nat) (v : Bool) : ∀ m, a + m ≤ l.length → ∀ b, fb (setTo l a v m) b = if a ≤ b ∧ b < a + m then v else fb l b
 | 0, _, b => by rw [if_neg (by omega)]; rfl
 | m + 1, h, b => by
  have ih := setTo_fb l a v m (by omega) b
  unfold fb at ih ⊢
  rw [setTo, List.getD_eq_getElem?_getD, List.getElem?_set]
  by_cases hb : a + m = b
  ·rw [if_pos hb, if_pos (by rw [setTo_length]; omega), if_pos (by omega)]; rfl
  ·rw [if_neg hb, ← List.getD_eq_getElem?_getD, ih]
   by_cases h1 : a ≤ b ∧ b < a + m
   ·rw [if_pos h1, if_pos (by omega)]
   ·rw [if_neg h1, if_neg (by omega)]
def runsOf (l : List Bool) : List (Nat × Nat) := runsTo (fb l) l.length
theorem runsOf_is (l : List Bool) : IsRuns (fb l) (runsOf l) :=
 isRuns_congr (runsTo_is (fb l) l.length) fun b => by
  unfold cutAt
  by_cases h : b < l.length
  ·simp [h]
  ·rw [decide_eq_false h, fb_far l b (by omega)]; rfl
def anyFree (l : List Bool) (a : Nat) : Nat → Bool
 | 0 => false
 | m + 1 => anyFree l a m || fb l (a + m)
theorem anyFree_false {l : List Bool} {a : Nat} : ∀ {m : Nat}, anyFree l a m = false → ∀ b, a ≤ b → b < a + m → fb l b = false
 | 0, _, b, h1, h2 => by omega
 | m + 1, h, b, h1, h2 => by
  rw [anyFree, Bool.or_eq_false_iff] at h
  by_cases hb : b = a + m
  ·rw [hb]; exact h.2
  ·exact anyFree_false h.1 b h1 (by omega)
theorem anyFree_true {l : List Bool} {a : Nat} : ∀ {m : Nat}, anyFree l a m = true → ∃ b, a ≤ b ∧ b < a + m ∧ fb l b = true
 | 0, h => by cases h
 | m + 1, h => by
  rw [anyFree, Bool.or_eq_true_iff] at h
  rcases h with h | h
  ·obtain ⟨b, h1, h2, h3⟩ := anyFree_true h; exact ⟨b, h1, by omega, h3⟩
  ·exact ⟨a + m, by omega, by omega, h⟩
theorem anyFree_one {l : List Bool} {a b : Nat} : ∀ {m : Nat}, a ≤ b → b < a + m → fb l b = true → anyFree l a m = true
 | 0, h1, h2, _ => by omega
 | m + 1, h1, h2, h3 => by
  rw [anyFree, Bool.or_eq_true_iff]
  by_cases hb : b = a + m
  ·right; rw [← hb]; exact h3
  ·left; exact anyFree_one h1 (by omega) h3
def giveR (l : List Bool) (a m : Int) : List Bool × Int :=
 if a < 1 ∨ m < 1 ∨ (l.length : Int) ≤ a ∨ (l.length : Int) - a < m then (l, 1)
 else if anyFree l a.toNat m.toNat then (l, 41)
 else (setTo l a.toNat true m.toNat, 0)
theorem runEnds {l : List Bool} {s n : Nat} (h : IsRun (fb l) s n) : s + n ≤ l.length := by
 rcases Nat.lt_or_ge l.length (s + n) with h1 | h1
 ·have := h.2.1 (s + n - 1) (by have := h.1; omega) (by have := h.1; omega)
  rw [fb_far l _ (by omega)] at this; cases this
 ·exact h1
theorem give_runs {l : List Bool} {a m s0 e0 : Nat} (hm : 1 ≤ m) (ha : a + m ≤ l.length) (h0 : anyFree l a m = false)
  (hs : s0 = a ∧ (∀ b, b + 1 = a → fb l b = false) ∨ s0 < a ∧ IsRun (fb l) s0 (a - s0))
  (he : e0 = a + m ∧ fb l (a + m) = false ∨ a + m < e0 ∧ IsRun (fb l) (a + m) (e0 - (a + m))) (s n : Nat) :
  IsRun (fb (setTo l a true m)) s n ↔ (s = s0 ∧ n = e0 - s0) ∨ (IsRun (fb l) s n ∧ s + n ≠ a ∧ s ≠ a + m) :=
 give_run hm (anyFree_false h0) (fun b h1 h2 => by rw [setTo_fb l a true m ha, if_pos ⟨h1, h2⟩]) (fun b h1 => by rw [setTo_fb l a true m ha, if_neg (by omega)]) hs he s n
def MOf (l : List Bool) (M : Int → Option Int) : Prop := ∀ s c : Int, M s = some c ↔ 0 ≤ s ∧ 0 ≤ c ∧ IsRun (fb l) s.toNat c.toNat
def EOf (l : List Bool) (E : Int → Option Int) : Prop := ∀ e s : Int, E e = some s ↔ 0 ≤ s ∧ s ≤ e ∧ IsRun (fb l) s.toNat (e - s).toNat
theorem mof_nil {l : List Bool} (h : ∀ b, fb l b = false) : MOf l fun _ => none := fun s c => ⟨fun e => (by cases e), fun ⟨_, h1, hr⟩ => by
 have := hr.2.1 s.toNat (Nat.le_refl _) (by have := hr.1; omega); rw [h] at this; cases this⟩
theorem eof_nil {l : List Bool} (h : ∀ b, fb l b = false) : EOf l fun _ => none := fun e s => ⟨fun e => (by cases e), fun ⟨_, h1, hr⟩ => by
 have := hr.2.1 s.toNat (Nat.le_refl _) (by have := hr.1; omega); rw [h] at this; cases this⟩
section
variable {l : List Bool} {M E : Int → Option Int} {a m s0 e0 : Nat}
theorem give_M (hM : MOf l M) (hm : 1 ≤ m) (ha : a + m ≤ l.length) (h0 : anyFree l a m = false)
  (hs : s0 = a ∧ (∀ b, b + 1 = a → fb l b = false) ∨ s0 < a ∧ IsRun (fb l) s0 (a - s0))
  (he : e0 = a + m ∧ fb l (a + m) = false ∨ a + m < e0 ∧ IsRun (fb l) (a + m) (e0 - (a + m))) {M' : Int → Option Int}
  (hnew : M' s0 = some ((e0 : Int) - s0)) (hgone : ∀ s, s ≠ (s0 : Int) → (s = (a : Int) + m ∨ M s = some ((a : Int) - s)) → M' s = none)
  (hold : ∀ s, s ≠ (s0 : Int) → s ≠ (a : Int) + m → M s ≠ some ((a : Int) - s) → M' s = M s) : MOf (setTo l a true m) M' := by
 have hs0 : s0 ≤ a := by rcases hs with ⟨h, _⟩ | ⟨h, _⟩ <;> omega
 have he0 : a + m ≤ e0 := by rcases he with ⟨h, _⟩ | ⟨h, _⟩ <;> omega
 intro s c
 have hG := give_runs hm ha h0 hs he s.toNat c.toNat
 by_cases h1 : s = (s0 : Int)
 ·rw [h1, hnew]
  constructor
  ·intro e
   have e' : (e0 : Int) - s0 = c := by injection e
   refine ⟨by omega, by omega, ?_⟩
   rw [← h1, hG]; left; constructor <;> omega
  ·rintro ⟨_, hc, hr⟩
   rw [← h1, hG] at hr
   rcases hr with ⟨_, h2⟩ | ⟨hr, h2, h3⟩
   ·congr 1; omega
   ·exfalso
    rcases hs with ⟨e, _⟩ | ⟨hlt, hr0⟩
    ·have := hr.2.1 s.toNat (Nat.le_refl _) (by have := hr.1; omega)
     rw [anyFree_false h0 s.toNat (by omega) (by omega)] at this; cases this
    ·have := hr.one (n' := a - s0) (by rw [show s.toNat = s0 by omega]; exact hr0); omega
 ·by_cases h2 : s = (a : Int) + m ∨ M s = some ((a : Int) - s)
  ·rw [hgone s h1 h2]
   refine ⟨fun e => (by cases e), ?_⟩
   rintro ⟨hs1, hc, hr⟩
   rw [hG] at hr
   exfalso
   rcases hr with ⟨h3, _⟩ | ⟨hr, h3, h4⟩
   ·omega
   ·rcases h2 with h2 | h2
    ·omega
    ·obtain ⟨h5, h6, hr'⟩ := (hM _ _).1 h2
     have := hr.one hr'; omega
  ·rw [hold s h1 (fun e => h2 (.inl e)) (fun e => h2 (.inr e)), hM s c]
   constructor
   ·rintro ⟨h3, h4, hr⟩
    refine ⟨h3, h4, hG.2 (.inr ⟨hr, fun e => h2 (.inr ((hM _ _).2 ⟨h3, by omega, ?_⟩)), fun e => h2 (.inl (by omega))⟩)⟩
    rw [show ((a : Int) - s).toNat = c.toNat by omega]; exact hr
   ·rintro ⟨h3, h4, hr⟩
    rcases hG.1 hr with ⟨h5, _⟩ | ⟨hr', _⟩
    ·omega
    ·exact ⟨h3, h4, hr'⟩
theorem give_E (hE : EOf l E) (hm : 1 ≤ m) (ha : a + m ≤ l.length) (h0 : anyFree l a m = false)
  (hs : s0 = a ∧ (∀ b, b + 1 = a → fb l b = false) ∨ s0 < a ∧ IsRun (fb l) s0 (a - s0))
  (he : e0 = a + m ∧ fb l (a + m) = false ∨ a + m < e0 ∧ IsRun (fb l) (a + m) (e0 - (a + m))) {E' : Int → Option Int}
  (hnew : E' e0 = some (s0 : Int)) (hgone : ∀ e, e ≠ (e0 : Int) → (e = (a : Int) ∨ E e = some ((a : Int) + m)) → E' e = none)
  (hold : ∀ e, e ≠ (e0 : Int) → e ≠ (a : Int) → E e ≠ some ((a : Int) + m) → E' e = E e) : EOf (setTo l a true m) E' := by
 have hs0 : s0 ≤ a := by rcases hs with ⟨h, _⟩ | ⟨h, _⟩ <;> omega
 have he0 : a + m ≤ e0 := by rcases he with ⟨h, _⟩ | ⟨h, _⟩ <;> omega
 intro e s
 have hG := give_runs hm ha h0 hs he s.toNat (e - s).toNat
 by_cases h1 : e = (e0 : Int)
 ·rw [h1, hnew]
  constructor
  ·intro x
   have x' : (s0 : Int) = s := by injection x
   refine ⟨by omega, by omega, ?_⟩
   rw [← h1, hG]; left; constructor <;> omega
  ·rintro ⟨hs1, hc, hr⟩
   rw [← h1, hG] at hr
   rcases hr with ⟨h2, _⟩ | ⟨hr, h2, h3⟩
   ·congr 1; omega
   ·exfalso
    rcases he with ⟨x, hf⟩ | ⟨hlt, hr0⟩
    ·have hx := hr.2.1 (s.toNat + (e - s).toNat - 1) (by have := hr.1; omega) (by have := hr.1; omega)
     rw [anyFree_false h0 _ (by have := hr.1; omega) (by have := hr.1; omega)] at hx; cases hx
    ·have := (hr.back hr0 (by omega)).1; omega
 ·by_cases h2 : e = (a : Int) ∨ E e = some ((a : Int) + m)
  ·rw [hgone e h1 h2]
   refine ⟨fun x => (by cases x), ?_⟩
   rintro ⟨hs1, hc, hr⟩
   rw [hG] at hr
   exfalso
   rcases hr with ⟨h3, h4⟩ | ⟨hr, h3, h4⟩
   ·omega
   ·rcases h2 with h2 | h2
    ·omega
    ·obtain ⟨h5, h6, hr'⟩ := (hE _ _).1 h2
     have := (hr.back hr' (by omega)).1; omega
  ·rw [hold e h1 (fun x => h2 (.inl x)) (fun x => h2 (.inr x)), hE e s]
   constructor
   ·rintro ⟨h3, h4, hr⟩
    refine ⟨h3, h4, hG.2 (.inr ⟨hr, fun x => h2 (.inl (by omega)), fun x => h2 (.inr ((hE _ _).2 ⟨by omega, by omega, ?_⟩))⟩)⟩
    rw [show ((a : Int) + m).toNat = s.toNat by omega, show (e - ((a : Int) + m)).toNat = (e - s).toNat by omega]; exact hr
   ·rintro ⟨h3, h4, hr⟩
    rcases hG.1 hr with ⟨h5, h6⟩ | ⟨hr', _⟩
    ·omega
    ·exact ⟨h3, h4, hr'⟩
end
section
variable {l : List Bool} {M E : Int → Option Int} {a k m : Nat}
end
end Go.Proofs.YtpohaahihdhleaaGreat
