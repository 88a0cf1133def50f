/- Regions that draw their order: operations that only read, then one new row that may come earlier, then operations in a forced order: one walk in the text's order serves every order. And a class of worlds for reading regions with calls that make memory. -/
import Derived.Test.YtjgdplengfnkaaaRow
import Derived.Deep.QuietTactic
import Derived.BigQuiet
namespace Go.Proofs.Ytjgdplengfnkaaa
open Go.RowKit
set_option linter.unusedVariables false

/-- Worlds in which all that was there is as it was. -/
structure Later (w : World) where
  val : World
  below : Below w.heap.size w val
instance (w : World) : Nonempty (Later w) := ⟨⟨w, Below.refl _ _⟩⟩

theorem later_cell {w : World} {p : Addr} {v : Value} (h : w.cell? p = some v) (x : Later w) : x.val.cell? p = some v := by
  rw [x.below.cell (World.block_lt_of_cell? _ _ h)]; exact h

section
variable {P : Program} {ops : Array Oper} {md : Region.Mode} {C : World → Prop} {Q : Exit → Act → World → Prop}

/-- A region whose operations and callees give one value each in every later world. -/
theorem wp_region_later {id : Nat} {a : Act} {w : World} {l : List Oper} (hm : P.follows .mixedOrders = true) (hB : Region.lexB .any l.toArray = true)
    (h : wpQuiet P l.toArray (fun w' => ∃ x : Later w, w' = x.val) (fun a' => ∀ w', (∃ x : Later w, w' = x.val) → Q .normal a' w') l a) : (Code.region id l.toArray true).wp P Q a w :=
  wp_region_quiet (C := fun w' => ∃ x : Later w, w' = x.val) hm hB ⟨⟨w.drew, (Below.refl _ _).drew⟩, rfl⟩ (by simpa using h)

/-- A callee's contract, met in a later world. -/
theorem calls_later {f : FuncId} {args : Array Value} {w : World} {x : Later w} {v : Value} (h : Calls P f args x.val fun e w' => e = .returned v ∧ Below x.val.heap.size x.val w') :
    Calls P f args x.val fun e w'' => e = .returned v ∧ ∃ y : Later w, w'' = y.val :=
  h.mono fun _ w' ⟨he, hb⟩ => ⟨he, ⟨w', x.below.trans (hb.mono x.below.size)⟩, rfl⟩

theorem owned_some {w : World} {base e size n : Nat} {v : Value} {xs : List Value} (h : w.ownsRow base e size v n xs) (hn : 0 < n) : ∃ g c, v = .slice (some ⟨g, 0, none⟩) n c ∧ n ≤ c ∧ c ≤ maxLen ∧ base ≤ g ∧ g < w.heap.size := by
  rcases h.2 with ⟨rfl, rfl⟩ | ⟨g, cap, cur, rfl, hb, hg, h1, h2, _⟩
  · omega
  · exact ⟨_, _, rfl, h1, h2, hb, (Array.getElem?_eq_some_iff.1 hg).1⟩

/-- 'append(xs, x)', the element laid into a new block just before: the slice that comes out is written out. -/
theorem wpList_append_new {w : World} {rest : List Oper} {o : Oper} {a : Act} {s x : Operand} {t e : TypeId} {z : Value} {size bytes base n : Nat} {v : Value} {xs : List Value} {us : Array Value} (E : Elem P t e z size bytes)
    (hown : w.ownsRow base e size v n xs) (hus : us.size = size) (hu : ∀ u ∈ us.toList, u.oneCell' = true) (hn : n < 1000000000000) (hby : bytes ≤ 64) (hbase : base ≤ w.heap.size)
    (hgd : o.guard = none) (ho : o.op = .call { callee := .builtin .append, args := #[s, x], argTypes := #[t, t] })
    (hs : a.eval s = v) (hx : a.eval x = .slice (some ⟨w.heap.size, 0, none⟩) 1 1)
    (hK : ∀ g c w', w'.ownsRow base e size (.slice (some ⟨g, 0, none⟩) (n + 1) c) (n + 1) (xs ++ us.toList) → w.grownBy w' v.ownBlock → n + 1 ≤ c → c ≤ maxLen → base ≤ g → g < w'.heap.size →
      wpList P ops Q rest (a.put o.dst (.slice (some ⟨g, 0, none⟩) (n + 1) c)) w') :
    wpList P ops Q (o :: rest) a (w.alloc (.cells us e)) := by
  refine wpList_append_built E hown hus hu hn hby hbase hgd ho hs hx ?_
  intro v' w' h1 h2 _
  obtain ⟨g, c, rfl, hc, hm, hb, hg⟩ := owned_some h1 (by omega)
  exact hK g c w' h1 h2 hc hm hb hg

/-- Operations that neither call nor write. -/
def calm : Op → Bool
  | .move _ | .assign _ | .pick .. | .build .. | .load .. | .unOp .. | .slice .. | .fieldAddr .. | .field .. | .indexAddr .. | .index .. | .extract .. | .binOp .. | .convert .. | .nilCheck _ => true
  | .call { callee := .builtin .len, .. } => true
  | _ => false

theorem calm_value {o : Oper} (h : calm o.op = true) {ρ : Operand → Value} {w w' : World} {n : Next} (hr : (execOp ρ o).run P w = .ok n w') : ∃ v, n = .value v := by
  have key : ∀ (s : Sem Value), (do pure (Next.value (← s)) : Sem Next).run P w = .ok n w' → ∃ v, n = .value v := by
    intro s hs
    rw [Sem.run_bind] at hs
    cases hq : s.run P w with
    | ok v w1 => rw [hq] at hs; simp [Result.andThen] at hs; exact ⟨v, hs.1.symm⟩
    | halt x w1 => rw [hq] at hs; simp [Result.andThen] at hs
  obtain ⟨dst, op, type, pos, after, guard⟩ := o
  cases op with
  | move x => simp [execOp] at hr; exact ⟨_, hr.1.symm⟩
  | assign x => simp [execOp] at hr; exact ⟨_, hr.1.symm⟩
  | pick c x y =>
    simp only [execOp, Sem.run_bind] at hr
    cases hq : (asBool (ρ c)).run P w with
    | ok v w1 => rw [hq] at hr; simp [Result.andThen] at hr; exact ⟨_, hr.1.symm⟩
    | halt x w1 => rw [hq] at hr; simp [Result.andThen] at hr
  | call c =>
    obtain ⟨callee, args, tys⟩ := c
    cases callee with
    | builtin b =>
      cases b with
      | len =>
        simp only [execOp, resolve, Sem.run_bind, Sem.run_pure, Result.andThen_ok, invoke, builtin] at hr
        exact key _ (by rw [Sem.run_bind]; exact hr)
      | _ => simp [calm] at h
    | _ => simp [calm] at h
  | build t ps => exact key _ hr
  | load t x => exact key _ hr
  | unOp x t y => exact key _ hr
  | slice t x l h m => exact key _ hr
  | fieldAddr t x f => exact key _ hr
  | field t x f => exact key _ hr
  | indexAddr t x i => exact key _ hr
  | index t x i => exact key _ hr
  | extract x i => exact key _ hr
  | binOp o t x y u => exact key _ hr
  | convert x y z => exact key _ hr
  | nilCheck x =>
    simp only [execOp] at hr
    split at hr
    · simp [go_sem] at hr
    · simp [go_sem] at hr
    · simp [go_sem] at hr
    · split at hr
      · simp [go_sem] at hr
      · simp only [Sem.run_bind] at hr
        cases hq : (program : Sem Program).run P w with
        | ok v w1 =>
          rw [hq] at hr
          simp only [Result.andThen] at hr
          split at hr
          · rename_i a w2 _
            by_cases hc : (a != some false) = true
            · rw [if_pos hc] at hr; simp [go_sem] at hr
            · rw [if_neg hc] at hr; simp at hr; exact ⟨_, hr.1.symm⟩
          · cases hr
        | halt x w1 => rw [hq] at hr; simp [Result.andThen] at hr
      · simp at hr; exact ⟨_, hr.1.symm⟩
    · simp at hr; exact ⟨_, hr.1.symm⟩
  | _ => simp [calm] at h

theorem buildSlice_world {t : TypeId} {len : Nat} {parts : Array (Nat × Value)} {w w' : World} {v : Value} (h : (Instr.buildSlice t len parts).run P w = .ok v w') : ∃ ob, w' = w.alloc ob := by
  unfold Instr.buildSlice at h
  rw [Sem.run_bind] at h
  cases hd : P.underlying t with
  | none => simp [underlying, hd, Result.andThen] at h
  | some d =>
    rw [run_underlying hd w] at h
    cases d <;> simp [Result.andThen] at h
    rename_i elem
    cases hi : P.info? elem with
    | none => simp [sizeOf, typeInfo, hi, Result.andThen] at h
    | some inf =>
      simp [sizeOf, typeInfo, hi, Result.andThen] at h
      have key : ∀ x : Option (Array Value), Sem.run P (match x with | some cells => (fun a => Value.slice (some a) len len) <$> newRow elem cells | _ => stuck "buildSlice: a part of the wrong size") w = Result.ok v w' → ∃ ob, w' = w.alloc ob := by
        intro x hx
        cases x with
        | none => simp at hx
        | some c =>
          simp [newRow] at hx
          exact ⟨_, hx.2.symm⟩
      split at h
      · cases h
      · split at h
        · exact key _ h
        · cases hz : inf.zero with
          | none => simp [zeroValue, typeInfo, hi, hz] at h
          | some z =>
            simp [zeroValue, typeInfo, hi, hz] at h
            exact key _ h

/-- A new row of written elements. -/
def rowB : Op → Bool
  | .buildSlice .. => true
  | _ => false

theorem rowB_world {o : Oper} (h : rowB o.op = true) {ρ : Operand → Value} {w w' : World} {n : Next} (hr : (execOp ρ o).run P w = .ok n w') : ∃ v ob, n = .value v ∧ w' = w.alloc ob := by
  obtain ⟨dst, op, type, pos, after, guard⟩ := o
  cases op with
  | buildSlice t len parts =>
    simp only [execOp] at hr
    rw [Sem.run_bind] at hr
    cases hq : (Instr.buildSlice t len (parts.map fun (i, x) => (i, ρ x))).run P w with
    | ok v w1 =>
      rw [hq] at hr
      simp [Result.andThen] at hr
      obtain ⟨ob, hob⟩ := buildSlice_world hq
      exact ⟨v, ob, hr.1.symm, by rw [← hr.2]; exact hob⟩
    | halt x w1 => rw [hq] at hr; simp [Result.andThen] at hr
  | _ => simp [rowB] at h

/-- Does j wait for i, directly or through others? -/
def waitsFor (md : Region.Mode) (ops : Array Oper) : Nat → Nat → Nat → Bool
  | 0, _, _ => false
  | f + 1, j, i => match ops[j]? with
    | none => false
    | some o => o.after.toList.any fun e => Region.binds md e && (e.on == i || waitsFor md ops f e.on i)

/-- What has come up has all that it waits for behind it. -/
def Shut (md : Region.Mode) (ops : Array Oper) (listed : Array Bool) : Prop :=
  ∀ j o, ops[j]? = some o → listed.getD j false = true → ∀ e ∈ o.after, Region.binds md e = true → listed.getD e.on false = true

theorem waitsFor_listed {listed : Array Bool} (hs : Shut md ops listed) : ∀ (f j i : Nat) (o : Oper), ops[j]? = some o → (∀ e ∈ o.after, Region.binds md e = true → listed.getD e.on false = true) →
    waitsFor md ops f j i = true → listed.getD i false = true := by
  intro f
  induction f with
  | zero => intro j i o _ _ h; simp [waitsFor] at h
  | succ f ih =>
    intro j i o ho hp h
    simp only [waitsFor, ho, List.any_eq_true, Array.mem_toList_iff, Bool.and_eq_true, Bool.or_eq_true, beq_iff_eq] at h
    obtain ⟨e, he, hb, h⟩ := h
    have h1 := hp e he hb
    rcases h with rfl | h
    · exact h1
    · cases hq : ops[e.on]? with
      | none => cases f <;> simp [waitsFor, hq] at h
      | some oe => exact ih e.on i oe hq (hs e.on oe hq h1) h

theorem Shut.set {listed : Array Bool} (hs : Shut md ops listed) {i : Nat} (hi : i ∈ Region.ready md ops listed) : Shut md ops (listed.setIfInBounds i true) := by
  intro j o ho hj e he hb
  by_cases hij : i = j
  · subst hij
    obtain ⟨_, o', ho', hall⟩ := mem_ready.1 hi
    rw [ho] at ho'
    cases ho'
    exact getD_set_true (hall e he hb)
  · rw [getD_set_ne false hij] at hj
    exact getD_set_true (hs j o ho hj e he hb)

/-- Whatever order is picked from here on; behind each operation that is 'loose' the world is of the class. -/
def wpAnyF (P : Program) (md : Region.Mode) (ops : Array Oper) (Q : Exit → Act → World → Prop) (C : World → Prop) (loose : Nat → Bool) : Nat → Array Bool → Act → World → Prop
  | 0, listed, a, w => Region.ready md ops listed = [] ∧ Q .normal a w
  | fuel + 1, listed, a, w =>
    (Region.ready md ops listed = [] → Q .normal a w) ∧
    ∀ i ∈ Region.ready md ops listed, wpOp P ops Q i (fun a' w' => (loose i = true → C w') ∧ wpAnyF P md ops Q C loose fuel (listed.setIfInBounds i true) a' w') a w

theorem wpAny_of_F {loose : Nat → Bool} : ∀ (fuel : Nat) (listed : Array Bool) (a : Act) (w : World), wpAnyF P md ops Q C loose fuel listed a w → wpAny P md ops Q fuel listed a w
  | 0, _, _, _, h => h
  | fuel + 1, _, _, _, h => ⟨h.1, fun i hi => wpOp_mono (fun a' w' h' => wpAny_of_F fuel _ a' w' h'.2) (h.2 i hi)⟩

/-- In every world of the class o leaves v, and the world as it was. -/
def Stays (P : Program) (ops : Array Oper) (C : World → Prop) (o : Oper) (v : Value) (a : Act) : Prop :=
  (Region.wanted o (yielded ops a.tmps) = true ∧ ∀ w, C w → (execOp a.eval o).run P w = .ok (.value v) w) ∨ (Region.wanted o (yielded ops a.tmps) = false ∧ v = undef)

theorem Stays.same {o : Oper} {v : Value} {a a' : Act} (hy : Stays P ops C o v a) (he : execOp a'.eval o = execOp a.eval o) (hw : Region.wanted o (yielded ops a'.tmps) = Region.wanted o (yielded ops a.tmps)) : Stays P ops C o v a' := by
  unfold Stays at *; rw [he, hw]; exact hy

theorem Stays.wpOp {i : Nat} {o : Oper} {v : Value} {a : Act} (hi : ops[i]? = some o) (hy : Stays P ops C o v a) {K : Act → World → Prop} {w : World} (hC : C w) (h : K (a.put o.dst v) w) : wpOp P ops Q i K a w := by
  unfold Go.wpOp
  simp only [hi]
  rcases hy with ⟨hw, hv⟩ | ⟨hw, rfl⟩
  · simp only [hw, if_true, Oper.wp, hv w hC, Oper.upon]; exact .inl h
  · simp only [hw, Bool.false_eq_true, if_false]; exact h

theorem wpOp_putF {j : Nat} {oi oj : Oper} {v : Value} (hj : ops[j]? = some oj) (hap : oi.apart ops oj = true)
    (hsi : ∀ cs b, oi.op ≠ .select cs b) (hsj : ∀ cs b, oj.op ≠ .select cs b) (hQ : ∀ c a d v w, Q (.panic c) (a.put d v) w → Q (.panic c) a w) {K : Act → World → Prop} {a : Act} {w : World}
    (hy : Stays P ops C oi v a) (h : wpOp P ops Q j K (a.put oi.dst v) w) :
    wpOp P ops Q j (fun a' w' => Stays P ops C oi v a' ∧ K (a'.put oi.dst v) w') a w := by
  obtain ⟨h1, h2, h3⟩ := Oper.apart_spec hap
  have keep : ∀ (a : Act), Stays P ops C oi v a → ∀ u, Stays P ops C oi v (a.put oj.dst u) := fun a hy u => hy.same (execOp_put oi hsi a oj.dst u h3) (wanted_put oi a oj.dst u h3)
  have keepD : ∀ d, Stays P ops C oi v { a with defers := d :: a.defers } := fun d => hy.same rfl rfl
  unfold Go.wpOp at *
  simp only [hj] at *
  rw [wanted_put oj a oi.dst v h1] at h
  split
  · rename_i hw
    simp only [hw, if_true] at h
    rcases h with h | ⟨hasks, hlets⟩
    case inr => exact .inr ⟨by unfold Oper.asks at *; rw [execOp_put oj hsj a oi.dst v h1] at hasks; exact hasks, hlets⟩
    refine .inl ?_
    unfold Oper.wp at *
    rw [execOp_put oj hsj a oi.dst v h1] at h
    generalize (execOp a.eval oj).run P w = r at *
    cases r with
    | ok n w' =>
      cases n <;> simp only [Oper.upon] at h ⊢
      case value u => exact ⟨keep a hy u, by rw [← Act.put_comm a v u h2]; exact h⟩
      case skip => exact ⟨keep a hy _, by rw [← Act.put_comm a v undef h2]; exact h⟩
      case defer d =>
        refine ⟨keep _ (keepD d) _, ?_⟩
        rw [← Act.put_comm _ v undef h2, ← Act.put_defers]
        exact h
      case enter f args =>
        refine Calls.mono h fun e w'' he => ?_
        cases e with
        | returned u => exact ⟨keep a hy u, by rw [← Act.put_comm a v u h2]; exact he⟩
        | panicked c => exact hQ _ _ _ _ _ he
        | outgrown => exact he
      case row row args => exact Rows.mono h fun u w'' he => ⟨keep a hy u, by rw [← Act.put_comm a v u h2]; exact he⟩
    | halt x w' =>
      cases x <;> simp only [Oper.upon] at h ⊢
      case panic u => exact hQ _ _ _ _ _ h
  · rename_i hw
    simp only [hw] at h
    exact ⟨keep a hy _, by rw [← Act.put_comm a v undef h2]; exact h⟩

/-- Such an operation may be taken first, if whatever may come ahead of it is loose. -/
theorem wpAnyF_first {loose : Nat → Bool} {i f : Nat} {oi : Oper} {v : Value} (hi : ops[i]? = some oi) (hsel : ∀ (j : Nat) (o : Oper) cs b, ops[j]? = some o → o.op ≠ .select cs b)
    (hQ : ∀ c a d v w, Q (.panic c) (a.put d v) w → Q (.panic c) a w) (hl : ∀ j oj, ops[j]? = some oj → j ≠ i → waitsFor md ops f j i = true ∨ loose j = true) :
    ∀ (fuel : Nat) (listed : Array Bool) (a : Act) (w : World),
      (∀ j oj, ops[j]? = some oj → j ≠ i → listed.getD j true = false → (∀ e ∈ oj.after, Region.binds md e = true → e.on ≠ i) → oi.apart ops oj = true) →
      i ∈ Region.ready md ops listed → Shut md ops listed → Stays P ops C oi v a → C w →
      wpAnyF P md ops Q C loose fuel (listed.setIfInBounds i true) (a.put oi.dst v) w → wpAnyF P md ops Q C loose (fuel + 1) listed a w := by
  intro fuel
  induction fuel with
  | zero =>
    intro listed a w _ hr _ hy hC H
    refine ⟨fun h => (by rw [h] at hr; cases hr), fun j hj => ?_⟩
    by_cases hji : j = i
    · subst hji; exact hy.wpOp hi hC ⟨fun _ => hC, H⟩
    · have := ready_mono hj hji
      rw [H.1] at this
      cases this
  | succ fuel ih =>
    intro listed a w hfree hr hsh hy hC H
    refine ⟨fun h => (by rw [h] at hr; cases hr), fun j hj => ?_⟩
    by_cases hji : j = i
    · subst hji; exact hy.wpOp hi hC ⟨fun _ => hC, H⟩
    · have h1 := H.2 j (ready_mono hj hji)
      obtain ⟨hjun, oj, hoj, hall⟩ := mem_ready.1 hj
      have hiun : listed.getD i false = false := by
        have h0 := (mem_ready.1 hr).1
        rcases Nat.lt_or_ge i listed.size with h' | h'
        · simp [h'] at h0 ⊢; exact h0
        · simp [Array.getElem?_eq_none h']
      have hnot : ∀ e ∈ oj.after, Region.binds md e = true → e.on ≠ i := fun e he hb heq => by
        have h1 := hall e he hb
        rw [heq, hiun] at h1
        cases h1
      have hlo : loose j = true := by
        rcases hl j oj hoj hji with h | h
        · have := waitsFor_listed hsh f j i oj hoj hall h
          rw [hiun] at this
          cases this
        · exact h
      have h2 := wpOp_putF (C := C) hoj (hfree j oj hoj hji hjun hnot) (fun cs b => hsel i oi cs b hi) (fun cs b => hsel j oj cs b hoj) hQ hy h1
      have hfree' : ∀ k ok, ops[k]? = some ok → k ≠ i → (listed.setIfInBounds j true).getD k true = false →
          (∀ e ∈ ok.after, Region.binds md e = true → e.on ≠ i) → oi.apart ops ok = true := fun k ok hk hki hun hno => by
        refine hfree k ok hk hki ?_ hno
        by_cases hjk : j = k
        · subst hjk; exact hjun
        · rw [getD_set_ne true hjk] at hun; exact hun
      refine wpOp_mono (fun a' w' h3 => ⟨h3.2.1, ih (listed.setIfInBounds j true) a' w' hfree' (ready_mono hr (Ne.symm hji)) (hsh.set hj) h3.1 (h3.2.1 hlo) ?_⟩) h2
      rw [Array.setIfInBounds_comm _ _ hji]
      exact h3.2.2

/-- The operations from k on come up one by one, in the text's order. -/
def tailFrom (md : Region.Mode) (ops : Array Oper) : Nat → Nat → Array Bool → Bool
  | 0, _, listed => (Region.ready md ops listed).isEmpty
  | f + 1, k, listed => (Region.ready md ops listed == [k]) && tailFrom md ops f (k + 1) (listed.setIfInBounds k true)

/-- The first n operations, and a new row behind them, may float. -/
def looseAt (ops : Array Oper) (n j : Nat) : Bool := decide (j < n) || (j == n && (match ops[n]? with | some o => rowB o.op | none => false))

def headFrom (md : Region.Mode) (ops : Array Oper) (n : Nat) : Nat → Nat → Array Bool → Bool
  | 0, k, listed => tailFrom md ops (ops.size - k) k listed
  | m + 1, k, listed => (Region.ready md ops listed).contains k && Region.free md ops listed k && (match ops[k]? with | some o => calm o.op | none => false) &&
      ((List.range ops.size).all fun j => j == k || waitsFor md ops ops.size j k || looseAt ops n j) && headFrom md ops n m (k + 1) (listed.setIfInBounds k true)

def floatB (md : Region.Mode) (ops : Array Oper) (n : Nat) : Bool := Region.noSelect ops && headFrom md ops n n 0 (Array.replicate ops.size false)

theorem tail_ok {n : Nat} (hA : ∀ w ob, C w → C (w.alloc ob)) : ∀ (l : List Oper) (k : Nat) (listed : Array Bool) (a : Act) (w : World), (∀ j, l[j]? = ops[k + j]?) → n ≤ k → (k = n → C w) →
    tailFrom md ops l.length k listed = true → wpList P ops Q l a w → wpAnyF P md ops Q C (looseAt ops n) l.length listed a w
  | [], _, _, _, _, _, _, _, hB, h => ⟨by simpa [tailFrom] using hB, h⟩
  | o :: l, k, listed, a, w, hl, hk, hC, hB, h => by
    have h0 : ops[k]? = some o := by simpa using (hl 0).symm
    simp only [List.length_cons, tailFrom, Bool.and_eq_true, beq_iff_eq] at hB
    obtain ⟨hr, hB'⟩ := hB
    refine ⟨fun he => (by rw [hr] at he; cases he), fun i hi => ?_⟩
    rw [hr] at hi
    obtain rfl : i = k := by simpa using hi
    have hnext : ∀ a' w', wpList P ops Q l a' w' → wpAnyF P md ops Q C (looseAt ops n) l.length (listed.setIfInBounds i true) a' w' := fun a' w' h' =>
      tail_ok hA l (i + 1) _ a' w' (fun j => by have := hl (j + 1); simpa [Nat.add_assoc, Nat.add_comm 1 j] using this) (by omega) (by omega) hB' h'
    by_cases hlo : looseAt ops n i = true
    · have hin : i = n ∧ rowB o.op = true := by
        simp only [looseAt, Bool.or_eq_true, decide_eq_true_eq, Bool.and_eq_true, beq_iff_eq] at hlo
        rcases hlo with h | ⟨rfl, h⟩
        · omega
        · rw [h0] at h; exact ⟨rfl, h⟩
      have hCw := hC hin.1
      unfold wpOp
      simp only [h0]
      unfold wpList at h
      by_cases hw : Region.wanted o (yielded ops a.tmps) = true
      · rw [if_pos hw] at h ⊢
        rcases h with h | h
        · refine .inl ?_
          unfold Oper.wp at *
          cases hr : (execOp a.eval o).run P w with
          | ok m w' =>
            obtain ⟨v, ob, rfl, rfl⟩ := rowB_world hin.2 hr
            rw [hr] at h
            simp only [Oper.upon] at h ⊢
            exact ⟨fun _ => hA w ob hCw, hnext _ _ h⟩
          | halt x w' =>
            rw [hr] at h
            cases x <;> simp only [Oper.upon] at h ⊢ <;> exact h
        · exact .inr h
      · rw [if_neg hw] at h ⊢
        exact ⟨fun _ => hCw, hnext _ _ h⟩
    · unfold wpOp
      simp only [h0]
      unfold wpList at h
      by_cases hw : Region.wanted o (yielded ops a.tmps) = true
      · rw [if_pos hw] at h ⊢
        exact h.imp (Oper.wp_mono (fun a' w' h' => ⟨fun hc => absurd hc hlo, hnext _ _ h'⟩)) id
      · rw [if_neg hw] at h ⊢
        exact ⟨fun hc => absurd hc hlo, hnext _ _ h⟩

theorem head_ok {n : Nat} (hs : Region.noSelect ops = true) (hQ : ∀ c a d v w, Q (.panic c) (a.put d v) w → Q (.panic c) a w) (hA : ∀ w ob, C w → C (w.alloc ob)) {w : World} (hC : C w) :
    ∀ (m : Nat) (l : List Oper) (k : Nat) (listed : Array Bool) (a : Act), (∀ j, l[j]? = ops[k + j]?) → l.length = ops.size - k → k + m = n → Shut md ops listed → headFrom md ops n m k listed = true →
      wpQuiet P ops C (fun a' => wpList P ops Q (l.drop m) a' w) (l.take m) a → wpAnyF P md ops Q C (looseAt ops n) l.length listed a w := by
  intro m
  induction m with
  | zero =>
    intro l k listed a hl hlen hk _ hB h
    simp only [headFrom] at hB
    rw [← hlen] at hB
    exact tail_ok hA l k listed a w hl (by omega) (fun _ => hC) hB (by simpa [wpQuiet] using h)
  | succ m ih =>
    intro l k listed a hl hlen hk hsh hB h
    simp only [headFrom, Bool.and_eq_true] at hB
    obtain ⟨⟨⟨⟨hr, hf⟩, hcalm⟩, hlo⟩, hB'⟩ := hB
    cases l with
    | nil =>
      have : ops[k]? = none := by simpa using (hl 0).symm
      rw [this] at hcalm
      cases hcalm
    | cons o l =>
      have h0 : ops[k]? = some o := by simpa using (hl 0).symm
      rw [h0] at hcalm
      have hrk : k ∈ Region.ready md ops listed := by simpa using hr
      simp only [List.take_succ_cons, wpQuiet, List.drop_succ_cons] at h
      obtain ⟨v, hy, hK⟩ : ∃ v, Stays P ops C o v a ∧ wpQuiet P ops C (fun a' => wpList P ops Q (l.drop m) a' w) (l.take m) (a.put o.dst v) := by
        by_cases hw : Region.wanted o (yielded ops a.tmps) = true
        · rw [if_pos hw] at h
          obtain ⟨v, h1, h2⟩ := h
          refine ⟨v, .inl ⟨hw, fun w' hw' => ?_⟩, h2⟩
          have h3 := h1 w' hw'
          unfold Oper.quietAt at h3
          cases hq : (execOp a.eval o).run P w' with
          | ok nx w2 =>
            obtain ⟨u, rfl⟩ := calm_value hcalm hq
            rw [hq] at h3
            simp only [Oper.quietUpon] at h3
            rw [h3.1, h3.2]
          | halt x w2 => rw [hq] at h3; simp only [Oper.quietUpon] at h3
        · rw [if_neg hw] at h
          exact ⟨undef, .inr ⟨by simpa using hw, rfl⟩, h⟩
      have hloose : ∀ j oj, ops[j]? = some oj → j ≠ k → waitsFor md ops ops.size j k = true ∨ looseAt ops n j = true := by
        intro j oj hj hjk
        simp only [List.all_eq_true, List.mem_range, Bool.or_eq_true, beq_iff_eq] at hlo
        have := hlo j (Array.getElem?_eq_some_iff.1 hj).1
        rcases this with (h | h) | h
        · exact absurd h hjk
        · exact .inl h
        · exact .inr h
      exact wpAnyF_first (f := ops.size) h0 (Region.noSelect_spec hs) hQ hloose l.length listed a w (Region.free_spec h0 hf) hrk hsh hy hC
        (ih l (k + 1) _ _ (fun j => by have := hl (j + 1); simpa [Nat.add_assoc, Nat.add_comm 1 j] using this) (by simp at hlen; omega) (by omega) (hsh.set hrk) hB' hK)

theorem shut_none (n : Nat) : Shut md ops (Array.replicate n false) := by
  intro j o _ hj
  exfalso
  by_cases h : j < n <;> simp [h] at hj

/-- One walk in the text's order serves every order: n operations that only read, then (it may float ahead of them) a new row, then the rest, one by one. -/
theorem wp_region_float {id : Nat} {a : Act} {w : World} {l : List Oper} (n : Nat) (hm : P.follows .mixedOrders = true) (hB : floatB .any l.toArray n = true)
    (hQ : ∀ c a d v w, Q (.panic c) (a.put d v) w → Q (.panic c) a w)
    (h : wpQuiet P l.toArray (fun w' => ∃ x : Later w, w' = x.val) (fun a' => wpList P l.toArray Q (l.drop n) a' w.drew) (l.take n) a) : (Code.region id l.toArray true).wp P Q a w := by
  simp only [floatB, Bool.and_eq_true] at hB
  refine wp_region_any hm (wpAny_of_F (C := fun w' => ∃ x : Later w, w' = x.val) (loose := looseAt l.toArray n) _ _ _ _ ?_)
  have hCw : (fun w' => ∃ x : Later w, w' = x.val) w.drew := ⟨⟨w.drew, (Below.refl _ _).drew⟩, rfl⟩
  have hA : ∀ w1 ob, (fun w' => ∃ x : Later w, w' = x.val) w1 → (fun w' => ∃ x : Later w, w' = x.val) (w1.alloc ob) := by
    rintro w1 ob ⟨x, rfl⟩
    exact ⟨⟨_, x.below.alloc x.below.size ob⟩, rfl⟩
  have := head_ok (md := .any) (n := n) (C := fun w' => ∃ x : Later w, w' = x.val) hB.1 hQ hA (w := w.drew) hCw n l 0 (Array.replicate l.toArray.size false) a (by simp) (by simp) (by omega) (shut_none _) hB.2 h
  simpa using this

end
end Go.Proofs.Ytjgdplengfnkaaa
