/- Parts of the proof, one behind the other: Ek, Wa, We, El, Em, Ye, Rs, Rt, Ru, Rv, Rw, Ua, Dl, Ub, Yo, Lp, Yp, Yq, Yr, Eb. -/
import Derived.Test.YtfedgcdkagngnaaGreatML6
import Derived.Deep.CutBlock
import Derived.ChangeKeysEq
import Derived.Laws.StructEq
import Derived.Deep.QuietTactic
import Derived.BigQuiet

/- free: Take. -/
namespace Go.Proofs.YtfedgcdkagngnaaGreat
open Go.RowKit Go.Maps
set_option linter.unusedVariables false

section
variable {P : Program} {C : World → Prop} {ops : Array Oper} {rest : List Oper} {o : Oper} {a : Act} {Q : Act → Prop}
theorem wpQuiet_slice_to {x hi : Operand} {t e : TypeId} {z : Value} {size bytes : Nat} (E : Elem P t e z size bytes) {ad : Option Addr} {n cap : Nat} {k : IntKind} {H : Int} (h : Nat)
    (hH : H = (h : Int)) (hh : h ≤ n) (hn : n ≤ cap)
    (hgd : o.guard = none) (ho : o.op = .slice t x none (some hi) none) (hx : a.eval x = .slice ad n cap) (hhi : a.eval hi = .int k H)
    (hK : wpQuiet P ops C Q rest (a.put o.dst (.slice ad h cap))) :
    wpQuiet P ops C Q (o :: rest) a := by
  subst hH
  have hw : Region.wanted o (yielded ops a.tmps) = true := by simp [Region.wanted, hgd]
  unfold wpQuiet
  rw [if_pos hw]
  refine ⟨_, fun w hC => ?_, hK⟩
  have hr := run_slice_any (w := w) E ad n cap 0 h none (some (.int k h)) (by
    have : (0 : Int) ≤ (h : Int) ∧ (h : Int) ≤ (cap : Int) := by omega
    simp [Instr.sliceBounds, Instr.sliceBound, asIntOf, Nat.le_trans hh hn])
  unfold Oper.quietAt
  simp only [execOp, ho, hx, hhi, Option.map_some, Option.map_none]
  have e : (if cap = 0 then ad else ad.map (·.add (0 * size))) = ad := by
    split
    · rfl
    · cases ad <;> simp [Addr.add]
  simp only [e, Nat.sub_zero] at hr
  simp [hr, Result.andThen, Oper.quietUpon]
end

/-- .. with what nil is. -/
theorem OwnI.cells2 {w : World} {v : Value} {xs : List Nat} (h : OwnI w v xs) : ∃ a c, v = .slice a xs.length c ∧ Cells w a (xs.map vi) ∧ xs.length ≤ c ∧ c ≤ maxLen ∧ (a = none → c = 0) := by
  obtain ⟨a, c, e, h1, h2, h3⟩ := h.cells
  refine ⟨a, c, e, h1, h2, h3, fun ha => ?_⟩
  subst ha
  rcases h with h | ⟨p, h, _⟩
  · rcases h.2 with ⟨h, _⟩ | ⟨g, cap, cur, h, _⟩
    · rw [h] at e
      exact (congrArg (fun v => match v with | .slice _ _ c => c | _ => 0) e).symm
    · rw [h] at e; cases e
  · rw [h] at e; cases e

/-- A mutator's list is another one. -/
theorem step_c {w wd w1 : World} {f mb n n' : Nat} {R : List Nat} {V : Nat → Value} {S : FL} {m k : Nat} {v : Value} {o : Option Value} {xs : List Nat} (hi : FreeIn w f mb n V S) (hm : m < 4) (hk : k < 32)
    (h1 : f ∈ R) (h2 : mb ∈ R) (h3 : ∀ b ∈ R, b < w.heap.size) {M : Lit → Option Value} (hM : ∀ m k : Nat, m < 4 → k < 32 → (M (pairKey m k)).getD (.slice none 0 0) = V (slotI m k))
    (hd : Below w.heap.size w wd) (hw : VMap Tryz.prog 270 w1 mb n' (putL M (pairKey m k) o)) (ho : o.getD (.slice none 0 0) = v) (hg : wd.grownBy w1 (some mb)) (hv : OwnI wd v xs) (hrow : ∀ b, rowOf v = some b → rowOf (V (slotI m k)) = some b ∨ w.heap.size ≤ b) :
    Step1 w w1 f mb n' V S (S.setC m k xs) (slotI m k) v xs := by
  have hfl := h3 f h1
  have hsl : slotI m k < 160 := by unfold slotI; omega
  have hb : ∀ b, b < w.heap.size → b ≠ mb → w1.heap[b]? = w.heap[b]? := fun b hb hn => (hg.block b (Nat.lt_of_lt_of_le hb hd.size) (fun e => hn (by simpa using e))).trans (hd.block b hb)
  have hne : ∀ b, rowOf v = some b → b ≠ mb := fun b hr e => by
    subst e
    rcases hrow b hr with c | c
    · exact (hi.neF _ hsl).2 c
    · have := h3 b h2; omega
  refine ⟨?_, ⟨_, hw, fun m' k' hm' hk' => ?_⟩, hv.keep (fun b hb' => hg.block b (hv.lt b hb') (fun e => hne b hb' (by simpa using e))), hrow, fun b hbl h5 h6 h7 => hb b hbl h6, Nat.le_trans hd.size hg.size, fun j hj => ?_⟩
  · rw [hb f hfl hi.ne, hi.head]
    have : (List.range 32).map (fun j => if j = slotI m k then v else V j) = (List.range 32).map V := List.map_congr_left (fun j hj => by
      have := List.mem_range.1 hj
      rw [if_neg (by unfold slotI; omega)])
    rw [this]
  · by_cases e : m' = m ∧ k' = k
    · obtain ⟨rfl, rfl⟩ := e
      rw [putL_same, if_pos rfl, ho]
    · rw [putL_other _ (fun c => e (by
        have := key_inj (wf_small m' (by omega)) (wf_small k' (by omega)) (wf_small m (by omega)) (wf_small k (by omega)) c
        omega)), hM m' k' hm' hk', if_neg (by unfold slotI; omega)]
  · unfold FL.at
    simp only [FL.setC_g, FL.setC_c]
    by_cases e : j < 32
    · rw [if_pos e, if_pos e, if_neg (by unfold slotI; omega)]
    · rw [if_neg e, if_neg e]
      by_cases e2 : (j - 32) / 32 = m ∧ (j - 32) % 32 = k
      · rw [if_pos e2, if_pos (by unfold slotI; omega)]
      · rw [if_neg e2, if_neg (by unfold slotI; omega)]

theorem FL.setC_same (S : FL) (m k : Nat) : S.setC m k (S.c m k) = S := by
  refine FL.ext' (fun j => rfl) (fun i j => ?_)
  rw [FL.setC_c]
  split
  · rename_i e; obtain ⟨rfl, rfl⟩ := e; rfl
  · rfl
theorem FL.taken_none {S : FL} {m k : Nat} (h : S.cell m k = none) : S.taken m k = S := by
  unfold FL.taken
  rw [FL.fill_none h, (FL.cell_none h).2]
  have := S.setC_same m k
  rw [(FL.cell_none h).2] at this
  exact this

/-- What Take leaves. -/
def TookI (w : World) (f mb n : Nat) (R : List Nat) (S : FL) (m k : Nat) : Ending → World → Prop := fun e w' =>
  e = .returned (.tuple #[.int .i64 ((S.cell m k).getD 0 : Nat), .int .i64 (if (S.cell m k).isSome then 0 else 4)]) ∧ FreeGo w w' f mb n R (S.taken m k)

theorem fright_any (m k : Nat) (hm : m < 4) (hk : k < 32) (w : World) : Calls Tryz.prog 220 #[.int .i64 (m : Int), .int .i64 (k : Int)] w (Same1 (.bool true) w) := by
  go_enter Tryz.func220, Tryz.ntmps220
  go_wp2_with fail
  refine (cright_any _ _).mono ?_
  rintro e w1 ⟨rfl, rfl⟩
  rw [decide_eq_true (show (0 : Int) ≤ (k : Int) ∧ (k : Int) < 32 by omega)]
  go_wp2_with fail
  go_ret
  exact ⟨rfl, rfl⟩

end Go.Proofs.YtfedgcdkagngnaaGreat

/- Plain: marking in three colours; what one comes to. -/
namespace Go.Proofs.YtfedgcdkagngnaaGreat
set_option linter.unusedVariables false

section
variable {ok : Nat → Prop} {P : Nat → List Nat} {f seen rest : List Nat}
end

/-- A marker. The stack: its last one first. -/
structure Mk where
  ms : List Bool
  sc : List Bool
  st : List Nat
  most : Nat
  miss : Nat
  again : Bool
  cur : Nat
def Mk.new (n most : Nat) : Mk := ⟨List.replicate n false, List.replicate n false, [], most, 0, false, n⟩
def Mk.push (M : Mk) (a : Nat) : Mk := if M.st.length < M.most then { M with st := a :: M.st } else { M with miss := M.miss + 1, again := true }
def Mk.fresh (U : List Bool) (M : Mk) (a : Nat) : Bool := U.getD a false && !(M.ms.getD a false)
def Mk.mark (M : Mk) (a : Nat) : Mk := { M with ms := M.ms.set a true }
def Mk.shade (U : List Bool) (M : Mk) (a : Nat) : Mk := if M.fresh U a then (M.mark a).push a else M
def Mk.shades (U : List Bool) (M : Mk) (l : List Nat) : Mk := l.foldl (fun M a => M.shade U a) M
def Mk.scan (U : List Bool) (P : Nat → List Nat) (M : Mk) (a : Nat) : Mk := ({ M with sc := M.sc.set a true } : Mk).shades U (P a)
def Mk.colour (M : Mk) (a : Nat) : Nat := if M.sc.getD a false then 2 else if M.ms.getD a false then 1 else 0
def Mk.top (M : Mk) : List Nat → Option (Nat × List Nat)
  | [] => none
  | x :: r => if M.colour x = 1 then some (x, r) else M.top r
def Mk.greyL (M : Mk) : List Bool := (List.range M.ms.length).map fun i => M.ms.getD i false && !(M.sc.getD i false)
def Mk.grey (M : Mk) : Option Nat := nextB M.greyL M.cur
def Mk.step (U : List Bool) (P : Nat → List Nat) (M : Mk) : Bool × Mk :=
  match M.top M.st with
  | some (x, r) => (true, ({ M with st := r } : Mk).scan U P x)
  | none => match M.grey with
    | some x => (true, ({ M with st := [], cur := x + 1 } : Mk).scan U P x)
    | none => if M.again then (true, { M with st := [], again := false, cur := 0 }) else (false, { M with st := [] })
/-- What holds of a marker over objects in use. -/
structure MkOk (U : List Bool) (M : Mk) : Prop where
  lm : M.ms.length = U.length
  ls : M.sc.length = U.length
  mu : ∀ a, M.ms.getD a false = true → U.getD a false = true
  sm : ∀ a, M.sc.getD a false = true → M.ms.getD a false = true
theorem MkOk.new (U : List Bool) (most : Nat) : MkOk U (Mk.new U.length most) := by
  have h : ∀ a, (List.replicate U.length false).getD a false = false := fun a => by
    simp only [List.getD_eq_getElem?_getD, List.getElem?_replicate]; split <;> rfl
  exact ⟨by simp [Mk.new], by simp [Mk.new], fun a ha => (by simp only [Mk.new] at ha; rw [h] at ha; cases ha), fun a ha => (by simp only [Mk.new] at ha; rw [h] at ha; cases ha)⟩
theorem getD_true_lt {l : List Bool} {a : Nat} (h : l.getD a false = true) : a < l.length := by
  apply Classical.byContradiction
  intro c
  rw [List.getD_eq_getElem?_getD, List.getElem?_eq_none (by omega)] at h
  cases h
section
variable {U : List Bool} {P : Nat → List Nat} {M : Mk}
theorem Mk.push_mk (M : Mk) (a : Nat) : (M.push a).ms = M.ms := by unfold Mk.push; split <;> rfl
theorem Mk.push_sc (M : Mk) (a : Nat) : (M.push a).sc = M.sc := by unfold Mk.push; split <;> rfl
theorem Mk.push_most (M : Mk) (a : Nat) : (M.push a).most = M.most := by unfold Mk.push; split <;> rfl
theorem Mk.shade_sc (U : List Bool) (M : Mk) (a : Nat) : (M.shade U a).sc = M.sc := by
  unfold Mk.shade; split
  · rw [Mk.push_sc]; rfl
  · rfl
theorem Mk.shade_most (U : List Bool) (M : Mk) (a : Nat) : (M.shade U a).most = M.most := by
  unfold Mk.shade; split
  · rw [Mk.push_most]; rfl
  · rfl
theorem Mk.shade_len (U : List Bool) (M : Mk) (a : Nat) : (M.shade U a).ms.length = M.ms.length := by
  unfold Mk.shade; split
  · rw [Mk.push_mk]; simp [Mk.mark]
  · rfl
theorem MkOk.shade_mk (h : MkOk U M) (a i : Nat) : (M.shade U a).ms.getD i false = (M.ms.getD i false || (decide (i = a) && U.getD a false)) := by
  unfold Mk.shade Mk.fresh
  cases hu : U.getD a false with
  | false => simp
  | true =>
    have hlt : a < M.ms.length := by rw [h.lm]; exact getD_true_lt hu
    cases hm : M.ms.getD a false with
    | true =>
      simp only [Bool.not_true, Bool.and_false, Bool.false_eq_true, if_false, Bool.and_true]
      by_cases e : i = a
      · subst e; rw [hm]; rfl
      · simp [e]
    | false =>
      simp only [Bool.not_false, Bool.and_true, if_true]
      rw [Mk.push_mk]
      unfold Mk.mark
      dsimp only
      rw [getD_set_bool _ _ _ _ hlt]
      by_cases e : i = a
      · simp [e]
      · simp [e]
theorem MkOk.shade (h : MkOk U M) (a : Nat) : MkOk U (M.shade U a) := by
  refine ⟨by rw [Mk.shade_len]; exact h.lm, by rw [Mk.shade_sc]; exact h.ls, fun i hi => ?_, fun i hi => ?_⟩
  · rw [h.shade_mk] at hi
    simp only [Bool.or_eq_true, Bool.and_eq_true, decide_eq_true_eq] at hi
    rcases hi with hi | ⟨rfl, hi⟩
    · exact h.mu i hi
    · exact hi
  · rw [Mk.shade_sc] at hi
    rw [h.shade_mk, h.sm i hi]; rfl
theorem Mk.shades_cons (U : List Bool) (M : Mk) (a : Nat) (l : List Nat) : M.shades U (a :: l) = (M.shade U a).shades U l := rfl
theorem Mk.shades_snoc (U : List Bool) (M : Mk) (a : Nat) (l : List Nat) : M.shades U (l ++ [a]) = (M.shades U l).shade U a := by simp [Mk.shades]
theorem MkOk.shades : ∀ {l : List Nat} {M : Mk}, MkOk U M → MkOk U (M.shades U l)
  | [], _, h => h
  | a :: l, M, h => by rw [Mk.shades_cons]; exact (h.shade a).shades
theorem MkOk.shades_mk : ∀ {l : List Nat} {M : Mk} (_ : MkOk U M) (i : Nat), (M.shades U l).ms.getD i false = (M.ms.getD i false || (l.contains i && U.getD i false))
  | [], M, h, i => by simp [Mk.shades]
  | a :: l, M, h, i => by
    rw [Mk.shades_cons, (h.shade a).shades_mk, h.shade_mk]
    by_cases e : i = a
    · subst e
      cases hu : U.getD i false <;> simp
    · have e' : ¬ a = i := fun x => e x.symm
      cases hu : U.getD i false <;> simp [e]
theorem Mk.shades_sc (U : List Bool) : ∀ (l : List Nat) (M : Mk), (M.shades U l).sc = M.sc
  | [], _ => rfl
  | a :: l, M => by rw [Mk.shades_cons, Mk.shades_sc U l, Mk.shade_sc]
theorem MkOk.black (h : MkOk U M) {a : Nat} (ha : M.ms.getD a false = true) : MkOk U { M with sc := M.sc.set a true } := by
  have hl : a < M.sc.length := by rw [h.ls, ← h.lm]; exact getD_true_lt ha
  refine ⟨h.lm, by simp [h.ls], h.mu, fun i hi => ?_⟩
  dsimp only at hi ⊢
  rw [getD_set_bool _ _ _ _ hl] at hi
  by_cases e : i = a
  · subst e; exact ha
  · rw [if_neg e] at hi; exact h.sm i hi
theorem MkOk.scan (h : MkOk U M) {a : Nat} (ha : M.ms.getD a false = true) : MkOk U (M.scan U P a) := (h.black ha).shades
theorem MkOk.scan_sc (h : MkOk U M) {a : Nat} (ha : M.ms.getD a false = true) (i : Nat) : (M.scan U P a).sc.getD i false = if i = a then true else M.sc.getD i false := by
  unfold Mk.scan
  rw [Mk.shades_sc]
  dsimp only
  exact getD_set_bool _ _ _ _ (by rw [h.ls, ← h.lm]; exact getD_true_lt ha)
theorem MkOk.scan_mk (h : MkOk U M) {a : Nat} (ha : M.ms.getD a false = true) (i : Nat) : (M.scan U P a).ms.getD i false = (M.ms.getD i false || ((P a).contains i && U.getD i false)) := (h.black ha).shades_mk i
theorem Mk.colour_white (M : Mk) (a : Nat) (h : MkOk U M) : M.colour a = 0 ↔ M.ms.getD a false = false := by
  unfold Mk.colour
  cases hs : M.sc.getD a false with
  | true => have := h.sm a hs; rw [this]; simp
  | false => cases hm : M.ms.getD a false <;> simp
theorem Mk.colour_grey (M : Mk) (a : Nat) : M.colour a = 1 ↔ M.ms.getD a false = true ∧ M.sc.getD a false = false := by
  unfold Mk.colour
  cases hs : M.sc.getD a false <;> cases hm : M.ms.getD a false <;> simp
theorem Mk.colour_black (M : Mk) (a : Nat) : M.colour a = 2 ↔ M.sc.getD a false = true := by
  unfold Mk.colour
  cases hs : M.sc.getD a false <;> cases hm : M.ms.getD a false <;> simp
theorem Mk.top_some {M : Mk} : ∀ {l : List Nat} {x : Nat} {r : List Nat}, M.top l = some (x, r) → M.colour x = 1 ∧ ∃ p, l = p ++ x :: r ∧ ∀ y ∈ p, M.colour y ≠ 1
  | [], _, _, h => by cases h
  | y :: l, x, r, h => by
    unfold Mk.top at h
    split at h
    · next hc => cases h; exact ⟨hc, [], rfl, by simp⟩
    · next hc =>
      obtain ⟨h1, p, h2, h3⟩ := Mk.top_some h
      exact ⟨h1, y :: p, by rw [h2]; rfl, fun z hz => by rcases List.mem_cons.1 hz with rfl | hz; exact hc; exact h3 z hz⟩
theorem Mk.top_none {M : Mk} : ∀ {l : List Nat}, M.top l = none → ∀ x ∈ l, M.colour x ≠ 1
  | [], _, _, h => by simp at h
  | y :: l, h, x, hx => by
    unfold Mk.top at h
    split at h
    · cases h
    · next hc => rcases List.mem_cons.1 hx with rfl | hx; exact hc; exact Mk.top_none h x hx
theorem Mk.greyL_getD (M : Mk) (i : Nat) : M.greyL.getD i false = (M.ms.getD i false && !(M.sc.getD i false)) := by
  unfold Mk.greyL
  by_cases h : i < M.ms.length
  · rw [List.getD_eq_getElem?_getD, List.getElem?_map, List.getElem?_range h]; rfl
  · rw [List.getD_eq_getElem?_getD, List.getElem?_eq_none (by simp; omega)]
    have : M.ms.getD i false = false := by rw [List.getD_eq_getElem?_getD, List.getElem?_eq_none (by omega)]; rfl
    rw [this]; rfl
theorem Mk.grey_some {M : Mk} {x : Nat} (h : M.grey = some x) : M.cur ≤ x ∧ M.colour x = 1 ∧ ∀ j, M.cur ≤ j → j < x → M.colour j ≠ 1 := by
  obtain ⟨h1, h2, _, h4⟩ := nextB_is h
  rw [M.greyL_getD] at h2
  simp only [Bool.and_eq_true, Bool.not_eq_true'] at h2
  refine ⟨h1, (M.colour_grey x).2 h2, fun j j1 j2 c => ?_⟩
  have := h4 j j1 j2
  rw [M.greyL_getD] at this
  obtain ⟨c1, c2⟩ := (M.colour_grey j).1 c
  rw [c1, c2] at this; cases this
theorem Mk.grey_none {M : Mk} (h : M.grey = none) : ∀ j, M.cur ≤ j → M.colour j ≠ 1 := fun j hj c => by
  have := nextB_not h j hj
  rw [M.greyL_getD] at this
  obtain ⟨c1, c2⟩ := (M.colour_grey j).1 c
  rw [c1, c2] at this; cases this
end

end Go.Proofs.YtfedgcdkagngnaaGreat

/- stack: New, Push, Pop, of numbers. -/
namespace Go.Proofs.YtfedgcdkagngnaaGreat
open Go.RowKit Go.Maps
set_option linter.unusedVariables false

/-- A stack in memory: its list, the last one at the end. -/
structure StkAt (w : World) (s : Nat) (v : Value) (l : List Nat) (most miss : Nat) : Prop where
  head : w.heap[s]? = some (.cells #[v, .int .i64 (most : Int), .int .i64 (miss : Int)] 225 (0, 0))
  own : OwnI w v l
  ne : ∀ b, rowOf v = some b → b ≠ s
def stkL (s : Nat) (v : Value) : List Nat := s :: (rowOf v).toList
theorem StkAt.mem {w : World} {s : Nat} {v : Value} {l : List Nat} {most miss : Nat} (h : StkAt w s v l most miss) : ∀ k ∈ stkL s v, k < w.heap.size := by
  intro k hk
  unfold stkL at hk
  rcases List.mem_cons.1 hk with rfl | hk
  · exact (Array.getElem?_eq_some_iff.1 h.head).1
  · exact h.own.lt k (by simpa using hk)
theorem StkAt.keep {w w' : World} {s : Nat} {v : Value} {l : List Nat} {most miss : Nat} (h : StkAt w s v l most miss) (hk : ∀ k ∈ stkL s v, w'.heap[k]? = w.heap[k]?) : StkAt w' s v l most miss :=
  ⟨(hk s (by simp [stkL])).trans h.head, h.own.keep (fun b hb => hk b (by simp [stkL, hb])), h.ne⟩
theorem StkAt.below {w w' : World} {s : Nat} {v : Value} {l : List Nat} {most miss : Nat} (h : StkAt w s v l most miss) (hb : Below w.heap.size w w') : StkAt w' s v l most miss := h.keep (fun k hk => hb.block k (h.mem k hk))
/-- What calls leave of a stack. -/
def StkGo (w w' : World) (s : Nat) (v : Value) (l : List Nat) (most miss : Nat) : Prop := ∃ v', StkAt w' s v' l most miss ∧ Touch (stkL s v) w w' ∧ ∀ b, rowOf v' = some b → rowOf v = some b ∨ w.heap.size ≤ b

theorem StkAt.put {w wd w4 : World} {s : Nat} {v v' : Value} {l l' : List Nat} {most miss : Nat} (h : StkAt w s v l most miss) (hb : Below w.heap.size w wd) (hg : wd.grownBy w4 (rowOf v)) (ho : OwnI w4 v' l')
    (hr : ∀ b, rowOf v' = some b → rowOf v = some b ∨ w.heap.size ≤ b) : StkGo w (w4.setCell ⟨s, 0, none⟩ v') s v l' most miss := by
  have hs := h.mem s (by simp [stkL])
  have hne : ∀ b, rowOf v' = some b → b ≠ s := fun b hb' e => by
    subst e
    rcases hr b hb' with c | c
    · exact h.ne b c rfl
    · omega
  have hk : ∀ k, k < w.heap.size → rowOf v ≠ some k → w4.heap[k]? = w.heap[k]? := fun k hk hn => (hg.block k (Nat.lt_of_lt_of_le hk hb.size) (fun e => hn e.symm)).trans (hb.block k hk)
  refine ⟨v', ⟨?_, ho.keep (fun b hb' => Below.heap_setCell _ _ _ b (hne b hb')), hne⟩, ⟨?_, ?_, ?_, ?_, fun k hk1 hk2 => ?_⟩, hr⟩
  · rw [heap_setCell_same w4 s 0 _ _ _ ((hk s hs (fun e => h.ne s e rfl)).trans h.head)]; rfl
  · exact hg.os.trans hb.os
  · exact hg.tape.trans hb.tape
  · exact hg.output.trans hb.output
  · have := hb.size; have := hg.size; simp; omega
  · unfold stkL at hk2
    simp only [List.mem_cons, Option.mem_toList, not_or] at hk2
    rw [Below.heap_setCell _ _ _ k hk2.1]
    exact hk k hk1 hk2.2
theorem StkAt.missed {w wd : World} {s : Nat} {v : Value} {l : List Nat} {most miss : Nat} (h : StkAt w s v l most miss) (hb : Below w.heap.size w wd) : StkGo w (wd.setCell ⟨s, 2, none⟩ (.int .i64 ((miss + 1 : Nat) : Int))) s v l most (miss + 1) := by
  have hs := h.mem s (by simp [stkL])
  refine ⟨v, ⟨?_, (h.own.keep (fun b hb' => (Below.heap_setCell _ _ _ b (h.ne b hb')).trans (hb.block b (h.own.lt b hb')))), h.ne⟩, (Touch.ofBelow hb).trans (Touch.setCell _ (by simp [stkL]) _), fun b hb => .inl hb⟩
  rw [heap_setCell_same wd s 2 _ _ _ ((hb.block s hs).trans h.head)]; rfl

set_option maxHeartbeats 1000000 in
theorem stknew_any (m : Int) (hm : m ≤ 1000000) (w : World) : Calls Tryz.prog 102 #[.int .i64 m] w fun e w' => ∃ s, e = .returned (.pointer (some ⟨s, 0, none⟩)) ∧ StkAt w' s (.slice none 0 0) [] m.toNat 0 ∧ Below w.heap.size w w' ∧ w.heap.size ≤ s := by
  obtain ⟨k, hk⟩ : ∃ k : Nat, k = m.toNat := ⟨_, rfl⟩
  have hmx : max m 0 = (k : Int) := by omega
  have hk9 : k ≤ 1000000 := by omega
  rw [← hk]
  have HS := Lib.hid (heap_alloc_new w (.cells #[.slice none 0 0, .int .i64 (k : Int), .int .i64 0] 225))
  have HB := Lib.hid (below_alloc w (.cells #[.slice none 0 0, .int .i64 (k : Int), .int .i64 0] 225))
  have HP : Hid (∀ w', w'.heap[w.heap.size]? = some (.cells #[.slice none 0 0, .int .i64 (k : Int), .int .i64 0] 225 (0, 0)) → Below w.heap.size w w' → (fun e w' => ∃ s, e = Ending.returned (.pointer (some ⟨s, 0, none⟩)) ∧ StkAt w' s (.slice none 0 0) [] k 0 ∧ Below w.heap.size w w' ∧ w.heap.size ≤ s) (.returned (.pointer (some ⟨w.heap.size, 0, none⟩))) w') := Lib.hid (fun w' h1 h2 => ⟨_, rfl, ⟨h1, OwnI.nil _, fun b hb => by cases hb⟩, h2, Nat.le_refl _⟩)
  generalize (fun e w' => ∃ s, e = Ending.returned (.pointer (some ⟨s, 0, none⟩)) ∧ StkAt w' s (.slice none 0 0) [] k 0 ∧ Below w.heap.size w w' ∧ w.heap.size ≤ s) = Post at *
  clear hk
  go_enter Tryz.func102, Tryz.ntmps102
  go_wp2_with fail
  exact HP.out _ HS.out HB.out

set_option maxHeartbeats 2000000 in
set_option maxRecDepth 20000 in
theorem stkpush_any {w : World} {s : Nat} {v : Value} {l : List Nat} {most miss : Nat} (h : StkAt w s v l most miss) (hm : miss ≤ 1000000) (hl : l.length ≤ 1000000) (x : Nat) :
    Calls Tryz.prog 103 #[.pointer (some ⟨s, 0, none⟩), .int .i64 (x : Int)] w fun e w' => e = .returned (.bool (decide (l.length < most))) ∧ (if l.length < most then StkGo w w' s v (l ++ [x]) most miss else StkGo w w' s v l most (miss + 1)) := by
  obtain ⟨a, c, rfl, hcs, hlc, hcm⟩ := h.own.cells
  have c0 : w.cell? ⟨s, 0, none⟩ = some (.slice a l.length c) := cell_of_row _ _ 0 _ _ _ h.head
  have c1 : w.cell? ⟨s, 1, none⟩ = some (.int .i64 (most : Int)) := cell_of_row _ _ 1 _ _ _ h.head
  have c2 : w.cell? ⟨s, 2, none⟩ = some (.int .i64 (miss : Int)) := cell_of_row _ _ 2 _ _ _ h.head
  have HR : Hid (RowAt w s 225 [.slice a l.length c, .int .i64 (most : Int), .int .i64 (miss : Int)]) := Lib.hid ⟨_, h.head, [], by simp⟩
  have HS := Lib.hid h
  by_cases hlt : l.length < most
  · have HP : Hid (∀ w', StkGo w w' s (.slice a l.length c) (l ++ [x]) most miss → (fun e w' => e = Ending.returned (.bool (decide (l.length < most))) ∧ (if l.length < most then StkGo w w' s (.slice a l.length c) (l ++ [x]) most miss else StkGo w w' s (.slice a l.length c) l most (miss + 1))) (.returned (.bool true)) w') := Lib.hid (fun w' h => ⟨by rw [decide_eq_true hlt], by rw [if_pos hlt]; exact h⟩)
    generalize (fun e w' => e = Ending.returned (.bool (decide (l.length < most))) ∧ (if l.length < most then StkGo w w' s (.slice a l.length c) (l ++ [x]) most miss else StkGo w w' s (.slice a l.length c) l most (miss + 1))) = Post at *
    obtain ⟨n, hn⟩ : ∃ n, n = l.length := ⟨_, rfl⟩
    rw [← hn] at c0 hlt HP HS hl HR
    have HN := Lib.hid hn
    clear h hcs hlc hn c2
    have r0 := fun x => later_cell c0 x
    have r1 := fun x => later_cell c1 x
    go_enter Tryz.func103, Tryz.ntmps103
    go_upto_region 1 with fail
    refine wp_region_later (by kernel_rfl) (by kernel_rfl) ?_
    repeat (quiet_step (fail))
    refine wpQuiet_nil ?_
    rintro w1 ⟨x1, hx1⟩
    have hb1 : Below w.heap.size w w1 := by rw [hx1]; exact x1.below
    have HS1 := Lib.hid (HS.out.below hb1)
    have HB1 := Lib.hid hb1
    have e0 : w1.cell? ⟨s, 0, none⟩ = some (.slice a n c) := cell_of_row _ _ 0 _ _ _ HS1.out.head
    have g0 : Hid (∀ i, w1.frozen? ⟨s, i, none⟩ = false) := Lib.hid (fun i => (HR.out.keep (hb1.block s HR.out.lt)).frozen i)
    have hlt' : decide (most ≤ n) = false := by simp; omega
    clear hx1 hb1 r0 r1 c0 c1
    have HO1 := Lib.hid HS1.out.own
    have HSl : Hid (s < w1.heap.size) := Lib.hid (HS1.out.mem s (by simp [stkL]))
    go_wp2_with (at_builtin; refine wpList_append_ownI (ys := [x]) (m := 1) (HO1.out.keep (fun b hb => (below_alloc _ _).block b (HO1.out.lt b hb))) (RowAt.cells ⟨_, heap_alloc_new _ _, [], rfl⟩) rfl (by have := HN.out; omega) rfl rfl rfl rfl ?_; intro v4 w4 ho4 hg4 hr4; have HO4 := Lib.hid ho4; have HG4 := Lib.hid hg4; have HR4 := Lib.hid hr4; have hs4 : w4.heap[s]? = w1.heap[s]? := (hg4.block s (Nat.lt_of_lt_of_le HSl.out (below_alloc _ _).size) (fun e => HS1.out.ne s e.symm rfl)).trans ((below_alloc _ _).block s HSl.out); have HK4 := Lib.hid hs4; have cx : w4.cell? ⟨s, 0, none⟩ = some (.slice a n c) := cell_of_row _ _ 0 _ _ _ (hs4.trans HS1.out.head); have fx : w4.frozen? ⟨s, 0, none⟩ = false := (show RowAt w4 s 225 [.slice a n c, .int .i64 (most : Int), .int .i64 (miss : Int)] from ⟨_, hs4.trans HS1.out.head, [], by simp⟩).frozen 0; clear ho4 hg4 hr4 hs4; obtain ⟨a4, c4, e4, _⟩ := HO4.out.cells; generalize (l ++ [x]).length = l4 at e4; subst e4)
    have HBd := Lib.hid (HB1.out.trans ((below_alloc w1 (.cells #[.int .i64 (x : Int)] 3)).mono HB1.out.size))
    refine HP.out _ (HS.out.put HBd.out HG4.out HO4.out (fun b hb => (HR4.out b hb).imp id (fun e => ?_)))
    rw [e]; exact HBd.out.size
  · have HP : Hid (∀ w', StkGo w w' s (.slice a l.length c) l most (miss + 1) → (fun e w' => e = Ending.returned (.bool (decide (l.length < most))) ∧ (if l.length < most then StkGo w w' s (.slice a l.length c) (l ++ [x]) most miss else StkGo w w' s (.slice a l.length c) l most (miss + 1))) (.returned (.bool false)) w') := Lib.hid (fun w' h => ⟨by rw [decide_eq_false hlt], by rw [if_neg hlt]; exact h⟩)
    generalize (fun e w' => e = Ending.returned (.bool (decide (l.length < most))) ∧ (if l.length < most then StkGo w w' s (.slice a l.length c) (l ++ [x]) most miss else StkGo w w' s (.slice a l.length c) l most (miss + 1))) = Post at *
    obtain ⟨n, hn⟩ : ∃ n, n = l.length := ⟨_, rfl⟩
    rw [← hn] at c0 hlt HP HS hl HR
    have HN := Lib.hid hn
    clear h hcs hlc hn c2
    have r0 := fun x => later_cell c0 x
    have r1 := fun x => later_cell c1 x
    go_enter Tryz.func103, Tryz.ntmps103
    go_upto_region 1 with fail
    refine wp_region_later (by kernel_rfl) (by kernel_rfl) ?_
    repeat (quiet_step (fail))
    refine wpQuiet_nil ?_
    rintro w1 ⟨x1, hx1⟩
    have hb1 : Below w.heap.size w w1 := by rw [hx1]; exact x1.below
    have HS1 := Lib.hid (HS.out.below hb1)
    have HB1 := Lib.hid hb1
    have e2 : w1.cell? ⟨s, 2, none⟩ = some (.int .i64 (miss : Int)) := cell_of_row _ _ 2 _ _ _ HS1.out.head
    have f2 : w1.frozen? ⟨s, 2, none⟩ = false := (HR.out.keep (hb1.block s HR.out.lt)).frozen 2
    have hlt' : decide (most ≤ n) = true := by simp; omega
    clear hx1 hb1 r0 r1 c0 c1
    go_wp2_with fail
    have := HP.out _ (HS.out.missed HB1.out)
    exact this

theorem elBI : Elem Tryz.prog 26 3 (.int .i64 0) 1 8 := Elem.mk' Tryz.underlying26 (by kernel_rfl) rfl (by decide)

set_option maxHeartbeats 2000000 in
theorem stkpop_none {w : World} {s : Nat} {v : Value} {most miss : Nat} (h : StkAt w s v [] most miss) :
    Calls Tryz.prog 106 #[.pointer (some ⟨s, 0, none⟩)] w fun e w' => e = .returned (.tuple #[.int .i64 0, .bool false]) ∧ Below w.heap.size w w' := by
  obtain ⟨a, c, rfl, _, _, _⟩ := h.own.cells
  have c0 : w.cell? ⟨s, 0, none⟩ = some (.slice a 0 c) := cell_of_row _ _ 0 _ _ _ h.head
  clear h
  go_enter Tryz.func106, Tryz.ntmps106
  go_wp2_with fail
  go_ret2
  exact ⟨rfl, Below.refl _ _⟩

set_option maxHeartbeats 2000000 in
set_option maxRecDepth 20000 in
theorem stkpop_some {w : World} {s : Nat} {v : Value} {l : List Nat} {x most miss : Nat} (h : StkAt w s v (l ++ [x]) most miss) (hl : l.length ≤ 1000000) :
    Calls Tryz.prog 106 #[.pointer (some ⟨s, 0, none⟩)] w fun e w' => e = .returned (.tuple #[.int .i64 (x : Int), .bool true]) ∧ StkGo w w' s v l most miss := by
  have HP : Hid (∀ w', StkGo w w' s v l most miss → (fun e w' => e = Ending.returned (.tuple #[.int .i64 (x : Int), .bool true]) ∧ StkGo w w' s v l most miss) (.returned (.tuple #[.int .i64 (x : Int), .bool true])) w') := Lib.hid (fun w' h => ⟨rfl, h⟩)
  generalize (fun e w' => e = Ending.returned (.tuple #[.int .i64 (x : Int), .bool true]) ∧ StkGo w w' s v l most miss) = Post at *
  obtain ⟨a, c, rfl, hcs, hlc, hcm⟩ := h.own.cells
  rw [List.length_append, List.length_singleton] at h HP hlc
  obtain ⟨n, hn⟩ : ∃ n, n = l.length := ⟨_, rfl⟩
  rw [← hn] at h HP hlc hl
  have HS := Lib.hid h
  have c0 : w.cell? ⟨s, 0, none⟩ = some (.slice a (n + 1) c) := cell_of_row _ _ 0 _ _ _ h.head
  have HR : Hid (RowAt w s 225 [.slice a (n + 1) c, .int .i64 (most : Int), .int .i64 (miss : Int)]) := Lib.hid ⟨_, h.head, [], by simp⟩
  obtain ⟨b, o, rfl, hbx, hcx⟩ := hcs.at (i := n) (by rw [List.length_map, List.length_append, List.length_singleton]; omega)
  have cx := hcx n (vi x) (by rw [List.getElem?_map, List.getElem?_append_right (by omega), hn]; simp)
  have HN := Lib.hid hn
  have hlc' : n + 1 ≤ c := hlc
  obtain ⟨n1, hn1'⟩ : ∃ n1, n1 = n + 1 := ⟨_, rfl⟩
  rw [← hn1'] at c0 HP HR HS hlc'
  have HN1 := Lib.hid hn1'
  have hn1 : (n1 : Int) - 1 = (n : Int) := by omega
  have hnl : n < n1 := by omega
  have hwn : IntKind.i64.wrap (n : Int) = (n : Int) := IntWalk.i64_in _ (by omega)
  have hnz : ((n1 : Int) == 0) = false := by simp; omega
  clear h hcs hcx hn hn1' hlc
  have r0 := fun x => later_cell c0 x
  have r1 := fun x => later_cell cx x
  go_enter Tryz.func106, Tryz.ntmps106
  go_upto_region 4 with fail
  refine wp_region_later (by kernel_rfl) (by kernel_rfl) ?_
  repeat (quiet_step (fail))
  refine wpQuiet_nil ?_
  rintro w1 ⟨x1, hx1⟩
  have hb1 : Below w.heap.size w w1 := by rw [hx1]; exact x1.below
  have HB1 := Lib.hid hb1
  have HS1 := Lib.hid (HS.out.below hb1)
  have e0 : w1.cell? ⟨s, 0, none⟩ = some (.slice (some ⟨b, o, none⟩) n1 c) := cell_of_row _ _ 0 _ _ _ HS1.out.head
  have q0 := fun x => later_cell e0 x
  clear hx1 hb1 r0 r1 c0 cx
  go_upto_region 5 with fail
  have hnc : n ≤ c := by omega
  refine wp_region_seg (C := fun w' => ∃ x : Later (w1), w' = x.val) [.fl [0, 1, 2, 3, 4, 5, 6, 7, 8, 9, 10, 11], .sq [12, 13, 14] false] (by kernel_rfl) (by kernel_rfl) (by intro c a d v w h; cases d <;> exact h) ?_
  simp only [segs, picks, List.getElem?_cons_succ, List.getElem?_cons_zero]
  have hC1 := later_drew (w1)
  refine wpSeg_fl hC1 ?_
  repeat (first | quiet_step (fail) | (refine wpQuiet_slice_to elBI n hn1 (by omega) hlc' rfl rfl rfl rfl ?_))
  refine wpQuiet_nil ?_
  have HBd := Lib.hid (HB1.out.trans ((later_below hC1).mono HB1.out.size))
  have HS2 := Lib.hid (HS1.out.below (later_below hC1))
  have HR2 := Lib.hid (HR.out.keep (HBd.out.block s HR.out.lt))
  generalize w1.drew = w2 at *
  have cz := HR2.out.cell (i := 0) rfl
  have fz := HR2.out.frozen 0
  clear q0 e0
  refine wpSeg_last ?_
  go_wp2_with fail
  refine HP.out _ ?_
  have hcut := (show OwnI w2 (.slice (some ⟨b, o, none⟩) n1 c) (l ++ [x]) from HS2.out.own).cutN (by simp [HN1.out, HN.out]) (show n ≤ n1 by omega)
  rw [show (l ++ [x]).take n = l by rw [HN.out]; simp] at hcut
  refine HS.out.put HBd.out (grown_self w2 _) hcut (fun b' hb' => .inl ?_)
  rw [← hb']; exact (rowOf_cut _ _ _ _)

end Go.Proofs.YtfedgcdkagngnaaGreat

/- free: Take. -/
namespace Go.Proofs.YtfedgcdkagngnaaGreat
open Go.RowKit Go.Maps
set_option linter.unusedVariables false

theorem FreeIn.below {w w' : World} {f mb n : Nat} {R : List Nat} {V : Nat → Value} {S : FL} (hi : FreeIn w f mb n V S)
    (h1 : f ∈ R) (h2 : mb ∈ R) (h3 : ∀ b ∈ R, b < w.heap.size) (h4 : ∀ j, j < 160 → ∀ b, rowOf (V j) = some b → b ∈ R) (hb : Below w.heap.size w w') : FreeIn w' f mb n V S := by
  have hk : ∀ k ∈ R, w'.heap[k]? = w.heap[k]? := fun k hk => hb.block k (h3 k hk)
  obtain ⟨M, hm, hv⟩ := hi.map
  exact ⟨(hk f h1).trans hi.head, ⟨M, hm.block (hk mb h2), hv⟩, fun i hi' => (hi.rows i hi').keep fun b hb => hk b (h4 i hi' b hb), hi.apart, hi.neF, hi.ne⟩

theorem index_int (b off l c i : Nat) (h : i < l) (W : World) : (Instr.indexAt 26 (.slice (some ⟨b, off, none⟩) l c) (.int .i64 (i : Int))).run Tryz.prog W = .ok (.pointer (some ⟨b, off + i, none⟩)) W := by
  have h2 : (sizeOf (Tryz.prog.elem 26)).run Tryz.prog W = .ok 1 W := by
    have e : Tryz.prog.elem 26 = 3 := by kernel_rfl
    rw [e]; exact Tryz.sizeOf3 W
  rw [run_indexAt_slice _ _ _ _ _ _ _ (by kernel_rfl), if_pos (by omega), h2]
  simp [Result.andThen, add_none]
/-- The call's own first block does not matter. -/
theorem FreeGo.own {w w0 w' : World} {f mb n q : Nat} {R : List Nat} {S : FL} (h : FreeGo w0 w' f mb n R S) (_hq : q = w.heap.size) (hb : Below w.heap.size w w0) : FreeGo w w' f mb n R S := by
  obtain ⟨R', h1, h2, h3⟩ := h
  exact ⟨R', h1, (Touch.ofBelow hb).trans h2, fun b hb' => (h3 b hb').imp id (fun c => Nat.le_trans hb.size c)⟩

set_option maxHeartbeats 4000000 in
set_option maxRecDepth 20000 in
theorem ftake_any {w : World} {f mb n : Nat} {R : List Nat} {S : FL} (h : FreeAt w f mb n R S) (hL : S.upto 1000000) (hn : n < 1000000000000) (m k : Nat) (hm4 : m < 4) (hk : k < 32) :
    Calls Tryz.prog 200 #[vfree f, .int .i64 (m : Int), .int .i64 (k : Int)] w (TookI w f mb (n + 2) R S m k) := by
  have HMem := Lib.hid (Mem.one w #[.int .i64 (m : Int), .int .i64 (k : Int)] 270)
  have HF0 := Lib.hid (h.below HMem.out.below)
  have HRlt := Lib.hid h.mem
  have HUp := Lib.hid hL
  have HPost : Hid (∀ w', (TookI w f mb (n + 2) R S m k (.returned (.tuple #[.int .i64 ((S.cell m k).getD 0 : Nat), .int .i64 (if (S.cell m k).isSome then 0 else 4)])) w' ↔ FreeGo w w' f mb (n + 2) R (S.taken m k))) := Lib.hid (fun w' => ⟨fun h => h.2, fun h => ⟨rfl, h⟩⟩)
  generalize TookI w f mb (n + 2) R S m k = Post at *
  clear h hL
  go_enter Tryz.func200, Tryz.ntmps200
  go_wp2_with fail
  refine (fright_any m k hm4 hk _).mono ?_
  rintro e w1 ⟨rfl, rfl⟩
  go_upto_region 4 with fail
  have HW0 := Lib.hid (below_alloc w (Obj.cells #[.int .i64 (m : Int), .int .i64 (k : Int)] 270))
  generalize hw0 : w.alloc _ = w0 at *
  obtain ⟨q, hq⟩ : ∃ q, q = w.heap.size := ⟨_, rfl⟩
  rw [← hq] at HMem HRlt ⊢
  have HQ := Lib.hid hq
  clear hq hw0
  have d0 := HMem.out.cell 0 0 rfl rfl
  have d1 := HMem.out.cell 0 1 rfl rfl
  have HQl := Lib.hid (HMem.out.glt 0 rfl)
  obtain ⟨V, hi, h1, h2, h3, h4⟩ := HF0.out
  have HI := Lib.hid hi
  have HR1 := Lib.hid h1
  have HR2 := Lib.hid h2
  have HR3 := Lib.hid h3
  have HR4 := Lib.hid h4
  have c32 := hi.m
  clear hi h1 h2 h3 h4
  have r0 := fun x => later_cell d0 x
  have r1 := fun x => later_cell d1 x
  have r2 := fun x => later_cell c32 x
  obtain ⟨ac, cc, ec, hcc, hcl, _, hcn⟩ := (HI.out.rows (slotI m k) (by unfold slotI; omega)).cells2
  rw [S.at_c m hk] at ec hcc hcl
  have HCc := Lib.hid hcc
  have HEc := Lib.hid ec
  clear hcc d0 d1 c32 ec
  obtain ⟨lc, hlc⟩ : ∃ lc, lc = (S.c m k).length := ⟨_, rfl⟩
  rw [← hlc] at HEc hcl
  have HLc := Lib.hid hlc
  clear hlc
  have hkey := key_slot (m : Int) (k : Int) (wf_small m (by omega)) (wf_small k (by omega))
  refine wp_region_seg (C := fun w' => ∃ x : Later (w0), w' = x.val) [.fl [0, 1, 2, 3, 4], .sq [5, 6, 7] false] (by kernel_rfl) (by kernel_rfl) (by intro c a d v w h; cases d <;> exact h) ?_
  simp only [segs, picks, List.getElem?_cons_succ, List.getElem?_cons_zero]
  have hC1 := later_drew (w0)
  refine wpSeg_fl hC1 ?_
  repeat (first | go_big_quiet_step (fail) | quiet_step (fail))
  refine wpQuiet_nil ?_
  have HD1 : Hid (Below w0.heap.size w0 w0.drew) := Lib.hid (later_below hC1)
  generalize w0.drew = wd at *
  have HId := Lib.hid (HI.out.below HR1.out HR2.out HR3.out HR4.out HD1.out)
  obtain ⟨M, hm, hv⟩ := HId.out.map
  have HM := Lib.hid hm
  have HVi := Lib.hid ((hv m k hm4 hk).trans HEc.out)
  clear hm hv
  refine wpSeg_last ?_
  go_upto_if 26 with (refine wpList_vlook rfl _ _ 244 rfl 270 26 keyed_slot Tryz.underlying244 _ (zero_ints _) mb n M rfl HM.out _ _ rfl hkey ?_; rw [HVi.out])
  go_cut [9, 10] from 27 (fun _ _ wc => Hid (FreeGo w0 wc f mb (n + 1) R (S.fill m k)))
  case first =>
    by_cases hz : lc = 0
    case neg =>
      have hz' : ((lc : Int) == 0) = false := by simpa using hz
      have HGo : Hid (FreeGo w0 wd f mb (n + 1) R (S.fill m k)) := Lib.hid (by
        have : S.fill m k = S := by unfold FL.fill; rw [if_neg]; intro e; have := HLc.out; rw [e] at this; exact hz (by simpa using this)
        rw [this]
        exact ((FreeGo.refl HF0.out).later HD1.out).mono (by omega))
      clear hz
      go_wp2_with fail
      go_meet
      case rel => exact HGo
    case pos =>
    subst hz
    have HC0 : Hid (S.c m k = []) := Lib.hid (List.length_eq_zero_iff.1 HLc.out.symm)
    obtain ⟨ag, cg, eg, hcg, hgl, _, hgn⟩ := (HId.out.rows k (by omega)).cells2
    rw [S.at_g hk] at eg hcg hgl
    have HOg : Hid (OwnI wd (V k) (S.g k)) := Lib.hid (by have := HId.out.rows k (by omega); rwa [S.at_g hk] at this)
    have HEg := Lib.hid eg
    have HCg := Lib.hid hcg
    have ck := HId.out.g hk
    rw [eg] at ck
    have HLg : Hid ((S.g k).length ≤ 1000000) := Lib.hid (by have := HUp.out k (by omega); rwa [S.at_g hk] at this)
    obtain ⟨lg, hlg⟩ : ∃ lg, lg = (S.g k).length := ⟨_, rfl⟩
    rw [← hlg] at ck HLg hgl HEg
    have HLge := Lib.hid hlg
    have hlgm := HLg.out
    clear hcg eg hlg
    obtain ⟨mn, hmn⟩ : ∃ mn, mn = min lg 4 := ⟨_, rfl⟩
    have hmn1 : min (lg : Int) 4 = (mn : Int) := by omega
    have hmn2 : (if (4 : Int) < (lg : Int) then 4 else (lg : Int)) = (mn : Int) := by split <;> omega
    have hmn3 : mn ≤ lg := by omega
    have HMn := Lib.hid hmn
    clear hmn
    obtain ⟨fr, hfr⟩ : ∃ fr : Nat, fr = lg - mn := ⟨_, rfl⟩
    have hfr1 : (lg : Int) - (mn : Int) = (fr : Int) := by omega
    have hfr2 : fr ≤ lg := by omega
    have HFr := Lib.hid hfr
    clear hfr
    go_upto_region 7 with fail
    have HMd := Lib.hid (HMem.out.later HD1.out)
    have d0 := HMd.out.cell 0 0 rfl rfl
    have d1 := HMd.out.cell 0 1 rfl rfl
    have c32 := HId.out.m
    have r0 := fun x => later_cell d0 x
    have r1 := fun x => later_cell d1 x
    have r2 := fun x => later_cell c32 x
    have r3 := fun x => later_cell ck x
    clear d0 d1 c32
    refine wp_region_seg (C := fun w' => ∃ x : Later (wd), w' = x.val) [.fl [0, 1, 2, 3, 4, 5, 6, 7, 8, 9, 10, 11, 12], .sq [13] true, .sq [14] false] (by kernel_rfl) (by kernel_rfl) (by intro c a d v w h; cases d <;> exact h) ?_
    simp only [segs, picks, List.getElem?_cons_succ, List.getElem?_cons_zero]
    have hC2 := later_drew (wd)
    refine wpSeg_fl hC2 ?_
    repeat (first | (refine wpQuiet_slice_from el_int (ad := ag) (n := lg) (cap := cg) fr rfl hfr2 hgl rfl rfl rfl rfl ?_) | go_big_quiet_step (fail) | quiet_step (fail))
    refine wpQuiet_nil ?_
    clear r0 r1 r2 r3
    obtain ⟨sa, hsa⟩ : ∃ sa, sa = (if cg = fr then ag else ag.map (·.add (fr * 1))) := ⟨_, rfl⟩
    rw [← hsa]
    obtain ⟨sl, hsl⟩ : ∃ sl, sl = lg - fr := ⟨_, rfl⟩
    rw [← hsl]
    obtain ⟨sc, hsc⟩ : ∃ sc, sc = cg - fr := ⟨_, rfl⟩
    rw [← hsc]
    have HD2 : Hid (Below wd.heap.size wd wd.drew) := Lib.hid (later_below hC2)
    have HCl : Hid (Calls Tryz.prog 221 #[.slice sa sl sc] wd.drew (NewI wd.drew ((S.g k).drop fr))) := Lib.hid (by
      refine cloneI_any _ _ _ _ (by rw [List.length_drop, ← HLge.out, hsl]) ?_ (by rw [List.length_drop, ← HLge.out]; omega) (fun h => ?_)
      · rw [List.map_drop, hsa, Nat.mul_one]
        exact (HCg.out.below HD2.out (Nat.le_refl _)).shift fr _ (fun e => by rw [List.length_map, ← HLge.out]; omega)
      · by_cases e : cg = fr
        · omega
        · rw [hsa, if_neg e] at h
          cases ag with
          | none => have := hgn rfl; omega
          | some d => cases h)
    generalize wd.drew = we at *
    clear hsa hsl hsc
    refine wpSeg_sq (fun K hK => ?_)
    go_wp2_with fail
    refine HCl.out.mono ?_
    rintro e w3 ⟨v3, rfl, ho3, hr3, hb3⟩
    have HO3 := Lib.hid ho3
    have HR3' := Lib.hid hr3
    have HB3 : Hid (Below wd.heap.size wd w3) := Lib.hid (HD2.out.trans (hb3.mono HD2.out.size))
    have HWe := Lib.hid HD2.out.size
    have hC3 := later_step hC2 hb3
    clear ho3 hr3 hb3
    go_wp2_with fail
    refine hK _ _ (fun _ => hC3) ?_
    clear hK K
    have HI3 := Lib.hid (HI.out.below HR1.out HR2.out HR3.out HR4.out (HD1.out.trans (HB3.out.mono HD1.out.size)))
    obtain ⟨M3, hm3, hv3⟩ := HI3.out.map
    have HM3 := Lib.hid hm3
    have HV3 := Lib.hid hv3
    have HNm : Hid (n < maxLen) := Lib.hid (by unfold maxLen; omega)
    clear hm3 hv3
    refine wpSeg_last ?_
    go_wp2_with (refine wpList_vstore rfl _ _ _ 244 rfl 270 26 keyed_slot Tryz.underlying244 mb n M3 rfl HM3.out HNm.out _ _ _ rfl rfl hkey ?_; intro w4 hm4' hg4; have HM4 := Lib.hid hm4'; have HG4 := Lib.hid hg4; clear hm4' hg4)
    have HFV0 : Hid (FreeV w0 f mb n V R S) := Lib.hid ⟨HI.out, HR1.out, HR2.out, HR3.out, HR4.out⟩
    have HB03 : Hid (Below w0.heap.size w0 w3) := Lib.hid (HD1.out.trans (HB3.out.mono HD1.out.size))
    have hr03 : ∀ b, rowOf v3 = some b → rowOf (V (slotI m k)) = some b ∨ w0.heap.size ≤ b := fun b hb => .inr (Nat.le_trans (Nat.le_trans HD1.out.size HWe.out) (HR3'.out b hb))
    have hst1 := step_c (o := some v3) HI.out hm4 hk HR1.out HR2.out HR3.out HV3.out HB03.out HM4.out rfl HG4.out HO3.out hr03
    have hos1 : w4.os = w0.os ∧ w4.tape = w0.tape ∧ w4.output = w0.output := ⟨HG4.out.os.trans HB03.out.os, HG4.out.tape.trans HB03.out.tape, HG4.out.output.trans HB03.out.output⟩
    have hsl : slotI m k < 160 := by unfold slotI; omega
    have HFV4 := Lib.hid (HFV0.out.step hsl hst1)
    have HT4 := Lib.hid (hst1.touch HFV0.out hsl hos1)
    have HVk : Hid ((if k = slotI m k then v3 else V k) = .slice ag lg cg) := Lib.hid (by rw [if_neg (by unfold slotI; omega)]; exact HEg.out)
    have HOk : Hid (OwnI w4 (.slice ag lg cg) (S.g k)) := Lib.hid (by
      have := HFV4.out.inn.rows k (by omega)
      rw [FL.at_g _ hk] at this
      rw [← HVk.out]; exact this)
    have ck4 : w4.cell? ⟨f, k, none⟩ = some (.slice ag lg cg) := (HFV4.out.inn.g hk).trans (congrArg some HVk.out)
    clear hst1 hos1 hr03 hC3 hC2 ck
    go_upto_region 8 with fail
    have r0 := fun x => later_cell ck4 x
    clear ck4
    refine wp_region_seg (C := fun w' => ∃ x : Later (w4), w' = x.val) [.fl [0, 1, 2, 3, 4, 5, 6, 7, 8, 9, 10, 11], .sq [12, 13] false] (by kernel_rfl) (by kernel_rfl) (by intro c a d v w h; cases d <;> exact h) ?_
    simp only [segs, picks, List.getElem?_cons_succ, List.getElem?_cons_zero]
    have hC5 := later_drew (w4)
    refine wpSeg_fl hC5 ?_
    repeat (first | (refine wpQuiet_slice_to el_int (ad := ag) (n := lg) (cap := cg) fr rfl hfr2 hgl rfl rfl rfl rfl ?_) | go_big_quiet_step (fail) | quiet_step (fail))
    refine wpQuiet_nil ?_
    clear r0
    have HD5 : Hid (Below w4.heap.size w4 w4.drew) := Lib.hid (later_below hC5)
    have HF5 : Hid (w4.drew.heap[f]? = w4.heap[f]?) := Lib.hid (HD5.out.block f (HFV4.out.lt f HFV4.out.f))
    have hst2 := step_g HFV4.out.inn hk HFV4.out.f HFV4.out.mb HFV4.out.lt HD5.out (grown_self _ _) ((HOk.out.keep (fun b hb => HD5.out.block b (HOk.out.lt b hb))).cutN HLge.out hfr2) (fun b hb => .inl (by
      rw [rowOf_cut ag fr lg cg] at hb
      exact (congrArg rowOf HVk.out).trans hb))
    have HGo : Hid (FreeGo w0 (w4.drew.setCell ⟨f, k, none⟩ (.slice ag fr cg)) f mb (n + 1) R (S.fill m k)) := Lib.hid (by
      have e : S.fill m k = (S.setC m k ((S.g k).drop fr)).setG k ((S.g k).take fr) := by
        unfold FL.fill
        rw [if_pos HC0.out, ← HLge.out, ← HMn.out, ← HFr.out]
        rfl
      rw [e]
      exact FreeGo.more HT4.out.1 HT4.out.2 HFV4.out (by omega) hst2 ⟨HD5.out.os, HD5.out.tape, HD5.out.output⟩)
    have fr5 : w4.drew.frozen? ⟨f, k, none⟩ = false := frozen_of_row _ _ _ _ _ (HF5.out.trans HFV4.out.inn.head)
    have ck5 : w4.drew.cell? ⟨f, k, none⟩ = some (.slice ag lg cg) := (cell_of_row _ _ k _ _ _ (HF5.out.trans HFV4.out.inn.head)).trans ((HFV4.out.inn.lt hk).trans (congrArg some HVk.out))
    clear hst2
    refine wpSeg_last ?_
    go_wp2_with fail
    go_meet
    case rel => exact HGo
  case rest =>
    have HGo := hcut
    have HRow0 := Lib.hid (HMem.out.at 0 rfl)
    clear hcut HMem HEc HCc HLc hcl hcn
    obtain ⟨T, hT⟩ : ∃ T, T = S.fill m k := ⟨_, rfl⟩
    have HCell : Hid (S.cell m k = (T.c m k).getLast? ∧ S.taken m k = T.setC m k (T.c m k).dropLast) := Lib.hid (by subst hT; exact ⟨rfl, rfl⟩)
    rw [← hT] at HGo
    have HTu : Hid ((T.c m k).length ≤ 1000000) := Lib.hid (by
      rw [hT]
      unfold FL.fill
      have h1 := HUp.out k (by omega)
      have h2 := HUp.out (slotI m k) (by unfold slotI; omega)
      rw [S.at_g hk] at h1
      rw [S.at_c m hk] at h2
      split
      · rw [FL.setC_c, if_pos ⟨rfl, rfl⟩, List.length_drop]; omega
      · exact h2)
    clear hT
    obtain ⟨R1, hfa, ht1, hr1⟩ := HGo.out
    obtain ⟨V1, hfv⟩ := hfa.v
    have HFV := Lib.hid hfv
    have HT1 := Lib.hid ht1
    have HR1' := Lib.hid hr1
    have HRow : Hid (RowAt wc q 270 [.int .i64 (m : Int), .int .i64 (k : Int)]) := Lib.hid (HRow0.out.keep (ht1.block q HQl.out (fun hm => Nat.lt_irrefl _ (HRlt.out q hm))))
    clear hfa hfv ht1 hr1 HGo
    have d0 := HRow.out.cell (i := 0) rfl
    have d1 := HRow.out.cell (i := 1) rfl
    have c32 := HFV.out.inn.m
    have r0 := fun x => later_cell d0 x
    have r1 := fun x => later_cell d1 x
    have r2 := fun x => later_cell c32 x
    obtain ⟨ao, co, eo, hco, hol, _, _⟩ := (HFV.out.inn.rows (slotI m k) (by unfold slotI; omega)).cells2
    rw [T.at_c m hk] at eo hco hol
    have HCo := Lib.hid hco
    have HEo := Lib.hid eo
    clear hco d0 d1 c32 eo
    obtain ⟨lo, hlo⟩ : ∃ lo, lo = (T.c m k).length := ⟨_, rfl⟩
    rw [← hlo] at HEo hol HTu
    have HLo := Lib.hid hlo
    have hlom := HTu.out
    clear hlo
    go_upto_region 9 with fail
    refine wp_region_seg (C := fun w' => ∃ x : Later (wc), w' = x.val) [.fl [0, 1, 2, 3, 4], .sq [5, 6] false] (by kernel_rfl) (by kernel_rfl) (by intro c a d v w h; cases d <;> exact h) ?_
    simp only [segs, picks, List.getElem?_cons_succ, List.getElem?_cons_zero]
    have hC1 := later_drew (wc)
    refine wpSeg_fl hC1 ?_
    repeat (first | go_big_quiet_step (fail) | quiet_step (fail))
    refine wpQuiet_nil ?_
    have HD6 : Hid (Below wc.heap.size wc wc.drew) := Lib.hid (later_below hC1)
    generalize wc.drew = wd at *
    have HFd := Lib.hid (HFV.out.below HD6.out)
    obtain ⟨M, hm, hv⟩ := HFd.out.inn.map
    have HM := Lib.hid hm
    have HV := Lib.hid hv
    have HVi := Lib.hid ((hv m k hm4 hk).trans HEo.out)
    clear hm hv
    by_cases hz : lo = 0
    · subst hz
      have HE : Hid (S.cell m k = none ∧ S.taken m k = T) := Lib.hid (by
        have h0 : T.c m k = [] := List.length_eq_zero_iff.1 HLo.out.symm
        refine ⟨by rw [HCell.out.1, h0]; rfl, ?_⟩
        rw [HCell.out.2]
        have := T.setC_same m k
        rw [h0] at this ⊢
        exact this)
      clear hol hlom
      refine wpSeg_last ?_
      go_wp2_with (refine wpList_vlook rfl _ _ 244 rfl 270 26 keyed_slot Tryz.underlying244 _ (zero_ints _) mb (n + 1) M rfl HM.out _ _ rfl hkey ?_; rw [HVi.out])
      have hp := (HPost.out wd).2 (by
        rw [HE.out.2]
        refine FreeGo.own ?_ HQ.out HW0.out
        exact ⟨R1, (HFd.out.at).mono (by omega), HT1.out.later HD6.out, HR1'.out⟩)
      rw [HE.out.1] at hp
      exact hp
    obtain ⟨lm, hlm⟩ : ∃ lm, lo = lm + 1 := ⟨lo - 1, by omega⟩
    have hz1 : (lo : Int) - 1 = (lm : Int) := by omega
    have hz2 : ((lo : Int) == 0) = false := by simp; omega
    have hlm1 : lm ≤ lo := by omega
    have hlt1 : lm < lo := by omega
    have HLm := Lib.hid hlm
    clear hlm
    clear hz
    obtain ⟨x, hx⟩ : ∃ x, (T.c m k)[lm]? = some x := ⟨_, List.getElem?_eq_getElem (by have := HLo.out; omega)⟩
    have HX := Lib.hid hx
    clear hx
    refine wpSeg_last ?_
    go_wp2_with (refine wpList_vlook rfl _ _ 244 rfl 270 26 keyed_slot Tryz.underlying244 _ (zero_ints _) mb (n + 1) M rfl HM.out _ _ rfl hkey ?_; rw [HVi.out])
    go_upto_region 12 with fail
    clear r0 r1 r2
    have HRowd := Lib.hid (HRow.out.keep (HD6.out.block q HRow.out.lt))
    have d0 := HRowd.out.cell (i := 0) rfl
    have d1 := HRowd.out.cell (i := 1) rfl
    have c32 := HFd.out.inn.m
    have r0 := fun x => later_cell d0 x
    have r1 := fun x => later_cell d1 x
    have r2 := fun x => later_cell c32 x
    clear d0 d1 c32
    refine wp_region_seg (C := fun w' => ∃ x : Later (wd), w' = x.val) [.fl [0, 1, 2, 3, 4, 5, 6, 7, 8, 9], .sq [10] false] (by kernel_rfl) (by kernel_rfl) (by intro c a d v w h; cases d <;> exact h) ?_
    simp only [segs, picks, List.getElem?_cons_succ, List.getElem?_cons_zero]
    have hC7 := later_drew (wd)
    refine wpSeg_fl hC7 ?_
    repeat (first | (refine wpQuiet_slice_to el_int (ad := ao) (n := lo) (cap := co) lm hz1 hlm1 hol rfl rfl rfl rfl ?_) | go_big_quiet_step (fail) | quiet_step (fail))
    refine wpQuiet_nil ?_
    clear r0 r1 r2
    have HD7 : Hid (Below wd.heap.size wd wd.drew) := Lib.hid (later_below hC7)
    generalize wd.drew = we at *
    have HFe := Lib.hid (HFd.out.below HD7.out)
    obtain ⟨M2, hm2, hv2⟩ := HFe.out.inn.map
    have HM2 := Lib.hid hm2
    have HV2 := Lib.hid hv2
    have HNm : Hid (n + 1 < maxLen) := Lib.hid (by unfold maxLen; omega)
    clear hm2 hv2
    refine wpSeg_last ?_
    go_wp2_with (refine wpList_vstore rfl _ _ _ 244 rfl 270 26 keyed_slot Tryz.underlying244 mb (n + 1) M2 rfl HM2.out HNm.out _ _ _ rfl rfl hkey ?_; intro w8 hm8 hg8; have HM8 := Lib.hid hm8; have HG8 := Lib.hid hg8; clear hm8 hg8)
    have hsl : slotI m k < 160 := by unfold slotI; omega
    have HOe : Hid (OwnI we (.slice ao lo co) (T.c m k)) := Lib.hid (by
      have := HFe.out.inn.rows (slotI m k) hsl
      rw [T.at_c m hk, HEo.out] at this
      exact this)
    have HO8 : Hid (OwnI w8 (.slice ao lo co) (T.c m k)) := Lib.hid (HOe.out.keep (fun b hb => HG8.out.block b (HOe.out.lt b hb) (fun e => by
      have h1 := (HFe.out.inn.neF (slotI m k) hsl).2
      rw [HEo.out] at h1
      exact h1 (by rw [hb]; exact e))))
    have hcx : ∃ b off, ao = some ⟨b, off, none⟩ ∧ w8.cell? ⟨b, off + lm, none⟩ = some (.int .i64 (x : Int)) := by
      obtain ⟨a', c', e', hc', _⟩ := HO8.out.cells
      injection e' with e1 e2 e3
      subst e1
      rcases hc' with h | ⟨b, off, e, h⟩
      · exfalso
        have := congrArg List.length h
        rw [List.length_map, ← HLo.out] at this
        simp at this; omega
      · exact ⟨b, off, e, h lm _ (by rw [List.getElem?_map, HX.out]; rfl)⟩
    obtain ⟨b, off, rfl, hcx⟩ := hcx
    have hst := step_c (o := some (.slice (some ⟨b, off, none⟩) lm co)) HFe.out.inn hm4 hk HFe.out.f HFe.out.mb HFe.out.lt HV2.out (Below.refl _ _) HM8.out rfl HG8.out (HOe.out.cutN HLo.out hlm1) (fun b' hb => .inl (by
      rw [HEo.out]
      exact (rowOf_cut _ _ _ _).trans hb))
    have hgo := FreeGo.more (((HT1.out.later HD6.out).later HD7.out)) HR1'.out HFe.out hsl hst ⟨HG8.out.os, HG8.out.tape, HG8.out.output⟩
    have HFin : Hid (S.cell m k = some x ∧ FreeGo w w8 f mb (n + 2) R (S.taken m k)) := Lib.hid (by
      refine ⟨by rw [HCell.out.1, List.getLast?_eq_getElem?, ← HLo.out, HLm.out]; exact HX.out, ?_⟩
      rw [HCell.out.2, show (T.c m k).dropLast = (T.c m k).take lm by rw [List.dropLast_eq_take, ← HLo.out, HLm.out]; rfl]
      exact hgo.own HQ.out HW0.out)
    clear hst hgo
    have hix := index_int b off lo co lm hlt1
    go_wp2_with fail
    rw [hix]
    go_wp2_with fail
    have hp := (HPost.out w8).2 HFin.out.2
    rw [HFin.out.1] at hp
    exact hp

end Go.Proofs.YtfedgcdkagngnaaGreat

/- free: Drain. -/
namespace Go.Proofs.YtfedgcdkagngnaaGreat
open Go.RowKit Go.Maps
set_option linter.unusedVariables false

def FL.drainTo (S : FL) (m i : Nat) : FL := ⟨fun k => if k < i then S.g k ++ S.c m k else S.g k, fun j k => if j = m ∧ k < i then [] else S.c j k⟩
theorem FL.drainTo_zero (S : FL) (m : Nat) : S.drainTo m 0 = S := FL.ext' (fun k => by unfold FL.drainTo; simp) (fun j k => by unfold FL.drainTo; simp)
theorem FL.drainTo_succ (S : FL) (m i : Nat) : S.drainTo m (i + 1) = ((S.drainTo m i).setG i ((S.drainTo m i).g i ++ (S.drainTo m i).c m i)).setC m i [] := by
  refine FL.ext' (fun k => ?_) (fun j k => ?_)
  · rw [FL.setC_g, FL.setG_g]
    unfold FL.drainTo
    dsimp only
    by_cases e : k = i
    · subst e; simp
    · rw [if_neg e]
      by_cases h : k < i
      · rw [if_pos h, if_pos (by omega)]
      · rw [if_neg h, if_neg (by omega)]
  · rw [FL.setC_c]
    unfold FL.drainTo
    dsimp only
    by_cases e : j = m ∧ k = i
    · rw [if_pos e, if_pos (by omega)]
    · rw [if_neg e, FL.setG_c]
      dsimp only
      by_cases h : j = m ∧ k < i
      · rw [if_pos h, if_pos (by omega)]
      · rw [if_neg h, if_neg (by omega)]
theorem FL.drainTo_lens {S : FL} {N : Nat} (h : S.upto N) {m i : Nat} (hm : m < 4) (hi : i < 32) : ((S.drainTo m i).g i).length ≤ N ∧ ((S.drainTo m i).c m i).length ≤ N := by
  have h1 := h i (by omega)
  have h2 := h (slotI m i) (by unfold slotI; omega)
  rw [S.at_g hi] at h1
  rw [S.at_c m hi] at h2
  unfold FL.drainTo
  simp
  exact ⟨h1, h2⟩

set_option maxHeartbeats 4000000 in
set_option maxRecDepth 20000 in
theorem fdrain_any {w : World} {f mb n : Nat} {R : List Nat} {S : FL} (h : FreeAt w f mb n R S) (hL : S.upto 1000000) (hn : n < 1000000000000) (m : Nat) (hm4 : m < 4) :
    Calls Tryz.prog 234 #[vfree f, .int .i64 (m : Int)] w fun e w' => e = .returned (.tuple #[]) ∧ FreeGo w w' f mb n R (S.drain m) := by
  have HF := Lib.hid h
  have HUp := Lib.hid hL
  clear h hL
  go_enter Tryz.func234, Tryz.ntmps234
  go_wp2_with fail
  go_loopw [6] (fun iv wr => ∃ i : Nat, i ≤ 32 ∧ iv = .int .i64 (i : Int) ∧ Hid (FreeGo w wr f mb n R (S.drainTo m i))) (fun iv _ => 32 - (intOf iv).toNat)
  case atStart => exact ⟨0, by omega, rfl, Lib.hid (by rw [FL.drainTo_zero]; exact FreeGo.refl HF.out)⟩
  case round =>
    obtain ⟨i, hi32, rfl, HGo⟩ := hrel
    by_cases hlt : i < 32
    case neg =>
      obtain rfl : i = 32 := by omega
      go_wp2_with fail
      go_end0
      exact ⟨rfl, HGo.out⟩
    obtain ⟨R1, hfa, ht1, hr1⟩ := HGo.out
    obtain ⟨V, hfv⟩ := hfa.v
    have HT1 := Lib.hid ht1
    have HR1 := Lib.hid hr1
    have HMem := Lib.hid (Mem.one wr #[.int .i64 (m : Int), .int .i64 (i : Int)] 270)
    have HFV := Lib.hid (hfv.below HMem.out.below)
    have HFVr := Lib.hid hfv.lt
    have HW0 := Lib.hid HMem.out.below
    have HStep : Hid (S.drainTo m (i + 1) = ((S.drainTo m i).setG i ((S.drainTo m i).g i ++ (S.drainTo m i).c m i)).setC m i []) := Lib.hid (FL.drainTo_succ S m i)
    have HLens := Lib.hid (FL.drainTo_lens HUp.out hm4 hlt)
    generalize S.drainTo m i = T at *
    clear hfa ht1 hr1
    go_upto_region 4 with fail
    obtain ⟨q, hq⟩ : ∃ q, q = wr.heap.size := ⟨_, rfl⟩
    have hqf : q ∉ (rowOf (V i)).toList := fun hm => by
      have h1 := hfv.lt q (hfv.rows i (by omega) q (by simpa using hm))
      rw [hq] at h1
      exact Nat.lt_irrefl _ h1
    clear hfv
    rw [← hq] at HMem ⊢
    have HQ := Lib.hid hq
    clear hq
    generalize wr.alloc _ = w0 at *
    have hfn : f ∉ (rowOf (V i)).toList := fun hm => (HFV.out.inn.neF i (by omega)).1 (by simpa using hm)
    have d0 := HMem.out.cell 0 0 rfl rfl
    have d1 := HMem.out.cell 0 1 rfl rfl
    obtain ⟨ac, cc, ec, hcc, hcl, _, hcn⟩ := (HFV.out.inn.rows (slotI m i) (by unfold slotI; omega)).cells2
    rw [T.at_c m hlt] at ec hcc hcl
    have HEc := Lib.hid ec
    have HCc := Lib.hid hcc
    have hkey := key_slot (m : Int) (i : Int) (wf_small m (by omega)) (wf_small i (by omega))
    have r0 := fun x => near_cell (L := (rowOf (V i)).toList) d0 hqf x
    have r1 := fun x => near_cell (L := (rowOf (V i)).toList) d1 hqf x
    have r2 := fun x => near_cell (L := (rowOf (V i)).toList) HFV.out.inn.m hfn x
    have r3 := fun x => near_cell (L := (rowOf (V i)).toList) (HFV.out.inn.g hlt) hfn x
    have HTn : Hid (Touch (rowOf (V i)).toList w0 w0.drew) := Lib.hid (Touch.ofBelow (later_below (later_drew w0)))
    have HD1 : Hid (Below w0.heap.size w0 w0.drew) := Lib.hid (later_below (later_drew w0))
    have hC1 := near_of HTn.out
    clear hcc ec hqf hfn d0 d1
    obtain ⟨lc, hlc⟩ : ∃ lc, lc = (T.c m i).length := ⟨_, rfl⟩
    rw [← hlc] at HEc hcl
    have HLc := Lib.hid hlc
    clear hlc
    refine wp_region_seg (C := fun w' => ∃ x : Near (rowOf (V i)).toList w0, w' = x.val) [.fl [0, 1, 2, 3, 4, 5, 6, 7, 8, 9, 10, 11, 12, 15, 16], .sq [13] true, .sq [14] true, .sq [17, 18] false] (by kernel_rfl) (by kernel_rfl) (by intro c a d v w h; cases d <;> exact h) ?_
    simp only [segs, picks, List.getElem?_cons_succ, List.getElem?_cons_zero]
    refine wpSeg_fl hC1 ?_
    repeat (first | go_big_quiet_step (fail) | quiet_step (fail))
    refine wpQuiet_nil ?_
    clear r0 r1 r2 r3
    generalize w0.drew = wd at *
    have HFd := Lib.hid (HFV.out.below HD1.out)
    obtain ⟨M, hm, hv⟩ := HFd.out.inn.map
    have HM := Lib.hid hm
    have HVi := Lib.hid ((hv m i hm4 hlt).trans HEc.out)
    clear hm hv
    refine wpSeg_sq (fun K hK => ?_)
    go_wp2_with (refine wpList_vlook rfl _ _ 244 rfl 270 26 keyed_slot Tryz.underlying244 _ (zero_ints _) mb n M rfl HM.out _ _ rfl hkey ?_; rw [HVi.out])
    go_wp2_with fail
    refine hK _ _ (fun _ => hC1) ?_
    clear hK K
    have HOd : Hid (OwnI wd (V i) (T.g i)) := Lib.hid (by
      have := HFd.out.inn.rows i (by omega)
      rwa [T.at_g hlt] at this)
    have HCd : Hid (Cells wd ac ((T.c m i).map vi)) := Lib.hid (HCc.out.below HD1.out (Nat.le_refl _))
    have HN1 : Hid ((T.g i).length + lc ≤ 1000000000000) := Lib.hid (by have := HLens.out; have := HLc.out; omega)
    refine wpSeg_sq (fun K hK => ?_)
    go_wp2_with (refine wpList_append_ownI (m := lc) HOd.out HCd.out HLc.out.symm HN1.out rfl rfl rfl rfl ?_; intro v' w1 ho hg hr; have HO1 := Lib.hid ho; have HG1 := Lib.hid hg; have HR := Lib.hid hr; clear ho hg hr)
    have HTn1 : Hid (Touch (rowOf (V i)).toList w0 w1) := Lib.hid (HTn.out.trans (grown_touchO HG1.out))
    have hC3 := near_of HTn1.out
    go_wp2_with fail
    refine hK _ _ (fun _ => hC3) ?_
    clear hK K
    have hst := step_g HFV.out.inn hlt HFV.out.f HFV.out.mb HFV.out.lt HD1.out HG1.out HO1.out (fun b hb => by
      rcases HR.out b hb with c | c
      · exact .inl c
      · exact .inr (by rw [c]; exact HD1.out.size))
    have hos : (w1.setCell ⟨f, i, none⟩ v').os = w0.os ∧ (w1.setCell ⟨f, i, none⟩ v').tape = w0.tape ∧ (w1.setCell ⟨f, i, none⟩ v').output = w0.output := ⟨HG1.out.os.trans HD1.out.os, HG1.out.tape.trans HD1.out.tape, HG1.out.output.trans HD1.out.output⟩
    have HFV2 := Lib.hid (HFV.out.step (by omega) hst)
    have HT2 := Lib.hid (hst.touch HFV.out (by omega) hos)
    have HF1 : Hid (w1.heap[f]? = some (.cells ((List.range 32).map V ++ [Value.map (some mb)]).toArray 247 (0, 0))) := Lib.hid (by
      have := (HG1.out.block f (Nat.lt_of_lt_of_le (HFV.out.lt f HFV.out.f) HD1.out.size) (fun e => (HFV.out.inn.neF i (by omega)).1 e.symm)).trans (HD1.out.block f (HFV.out.lt f HFV.out.f))
      exact this.trans HFV.out.inn.head)
    have fr : w1.frozen? ⟨f, i, none⟩ = false := frozen_of_row _ _ _ _ _ HF1.out
    have ck1 : w1.cell? ⟨f, i, none⟩ = some (V i) := (cell_of_row _ _ i _ _ _ HF1.out).trans (HFV.out.inn.lt hlt)
    have HRow2 : Hid (RowAt (w1.setCell ⟨f, i, none⟩ v') q 270 [.int .i64 (m : Int), .int .i64 (i : Int)]) := Lib.hid ((HMem.out.at 0 rfl).keep (HT2.out.1.block q (HMem.out.glt 0 rfl) (fun hm => by
      have h1 := HFVr.out q hm
      rw [HQ.out] at h1
      exact Nat.lt_irrefl _ h1)))
    obtain ⟨a', c', e', _⟩ := HO1.out.cells
    obtain ⟨l', hl'⟩ : ∃ l', l' = (T.g i ++ T.c m i).length := ⟨_, rfl⟩
    rw [← hl'] at e'
    subst e'
    clear hst hl' hos
    refine wpSeg_last ?_
    go_wp2_with fail
    generalize w1.setCell _ _ = w2 at *
    have hsl : slotI m i < 160 := by unfold slotI; omega
    go_upto_region 5 with fail
    have d0 := HRow2.out.cell (i := 0) rfl
    have d1 := HRow2.out.cell (i := 1) rfl
    have c32 := HFV2.out.inn.m
    have r0 := fun x => later_cell d0 x
    have r1 := fun x => later_cell d1 x
    have r2 := fun x => later_cell c32 x
    clear d0 d1 c32 hC1 hC3
    refine wp_region_seg (C := fun w' => ∃ x : Later (w2), w' = x.val) [.fl [0, 1, 2, 3, 4], .sq [5] false] (by kernel_rfl) (by kernel_rfl) (by intro c a d v w h; cases d <;> exact h) ?_
    simp only [segs, picks, List.getElem?_cons_succ, List.getElem?_cons_zero]
    have hC5 := later_drew (w2)
    refine wpSeg_fl hC5 ?_
    repeat (first | go_big_quiet_step (fail) | quiet_step (fail))
    refine wpQuiet_nil ?_
    clear r0 r1 r2
    have HD5 : Hid (Below w2.heap.size w2 w2.drew) := Lib.hid (later_below hC5)
    generalize w2.drew = w3 at *
    have HFV3 := Lib.hid (HFV2.out.below HD5.out)
    obtain ⟨M3, hm3, hv3⟩ := HFV3.out.inn.map
    have HM3 := Lib.hid hm3
    have HV3 := Lib.hid hv3
    clear hm3 hv3
    refine wpSeg_last ?_
    go_wp2_with (refine wpList_vdelete rfl _ _ 244 270 rfl 26 keyed_slot Tryz.underlying244 mb n M3 rfl HM3.out _ _ rfl hkey ?_; intro w4 hm4' hg4; have HM4 := Lib.hid hm4'; have HG4 := Lib.hid hg4; clear hm4' hg4)
    have hst := step_c (o := none) HFV3.out.inn hm4 hlt HFV3.out.f HFV3.out.mb HFV3.out.lt HV3.out (Below.refl _ _) HM4.out rfl HG4.out (OwnI.nil _) (fun b hb => by cases hb)
    have HNext : Hid (FreeGo w w4 f mb n R (S.drainTo m (i + 1))) := Lib.hid (by
      have e : S.drainTo m (i + 1) = (T.setG i (T.g i ++ T.c m i)).setC m i [] := HStep.out
      rw [e]
      have h1 := FreeGo.more (HT2.out.1.later HD5.out) HT2.out.2 HFV3.out hsl hst ⟨HG4.out.os, HG4.out.tape, HG4.out.output⟩
      exact FreeGo.trans (HT1.out.later HW0.out) (fun b hb => HR1.out b hb) (h1))
    clear hst
    go_wp2_with fail
    go_roundw
    case rel => exact ⟨i + 1, by omega, vint (by omega), HNext⟩
    case measure => simp [intOf]; omega

end Go.Proofs.YtfedgcdkagngnaaGreat

/- bman: Release, Geometry, FreeBlocks, Longest. -/
namespace Go.Proofs.YtfedgcdkagngnaaGreat
open Go.RowKit
set_option linter.unusedVariables false

theorem aggGe : Agg Tryz.prog 42 #[.int .i64 0] := ⟨⟨_, Tryz.underlying42, rfl⟩, by kernel_rfl⟩
set_option maxHeartbeats 1000000 in
theorem bgeom_any {w : World} {X : MF} {n B : Nat} {m : Bm} (h : ManAt w X n B m) :
    Calls Tryz.prog 72 #[.pointer (some ⟨X.m, 0, none⟩)] w fun e w' => e = .returned (vgeom (B : Int)) ∧ Below w.heap.size w w' := by
  have HM := Lib.hid (Mem.one w #[.int .i64 0] 42)
  have c2 := (h.below HM.out.below).c2
  clear h
  unfold vgeom
  go_enter Tryz.func72, Tryz.ntmps72
  go_upto_region 1 with fail
  generalize w.alloc _ = w0 at *
  obtain ⟨q, hq⟩ : ∃ q, q = w.heap.size := ⟨_, rfl⟩
  rw [← hq] at HM ⊢
  have HQ := Lib.hid hq
  clear hq
  go_wp2_with (refine wpList_store_mem aggGe HM.out 0 rfl rfl rfl rfl rfl rfl rfl rfl ?_; intro w9 h9 _; have H9 := Lib.hid h9; clear h9)
  refine bodyPost_ret (results_cell_row rfl _ _ _ _ _ _ _ rfl (H9.out.exact 0 rfl) Tryz.underlying42 rfl (by kernel_rfl)) rfl ⟨rfl, H9.out.below⟩

end Go.Proofs.YtfedgcdkagngnaaGreat

/- The reference's device: step, lines, flags. -/
namespace Go.Proofs.YtfedgcdkagngnaaGreat
open Go.RowKit
set_option linter.unusedVariables false

end Go.Proofs.YtfedgcdkagngnaaGreat

/- The reference's device: Store, Flush. -/
namespace Go.Proofs.YtfedgcdkagngnaaGreat
open Go.RowKit
set_option linter.unusedVariables false

/-- The document's device of the same state. -/
def Dev.ref (S : Dev) : RDev := ⟨S.cache, S.lasting, S.flushed, S.dirty, S.pending, S.steps, if S.armed = true then S.fuse else -1, S.dead⟩
/-- States that the document's device can follow. -/
structure Dev.fit (S : Dev) (N : Nat) : Prop where
  wf : S.wf
  ok : S.ok N
  arm : S.armed = true → 0 ≤ S.fuse

theorem Dev.fit.mono {S : Dev} {N M : Nat} (h : S.fit N) (hM : N ≤ M) : S.fit M := ⟨h.wf, h.ok.mono hM, h.arm⟩
theorem Dev.fit_fuse {S : Dev} {N : Nat} (h : S.fit N) : -1 ≤ S.ref.fuse ∧ S.ref.fuse < 9223372036854775808 := by
  unfold Dev.ref
  dsimp only
  have := h.ok
  unfold Dev.ok at this
  split
  · rename_i c; have := h.arm c; omega
  · omega
theorem Dev.step_fit {S : Dev} {N : Nat} (h : S.fit N) : S.step.fit (N + 1) := by
  refine ⟨Dev.step_wf h.wf, Dev.step_ok h.ok, ?_⟩
  unfold Dev.step
  have ha := h.arm
  have hst : S.stop = false → S.armed = true → ¬ S.fuse = 0 := fun h1 h2 => by unfold Dev.stop at h1; simp [h2] at h1; exact h1.2
  cases hs : S.stop
  · intro c
    have c1 := ha c
    have c2 := hst hs c
    simp at c1 c2 ⊢
    omega
  · exact ha
/-- A device's slices lie in a block. -/
def RIn (v : Value) (b : Nat) : Prop := ∃ cs, v = .agg cs ∧ ∃ (i : Nat) (x : Addr) (n c : Nat), cs[i]? = some (.slice (some x) n c) ∧ x.block = b
theorem rin8 {an al aw ad ap : Option Addr} {n1 c1 n2 c2 n3 c3 n4 c4 n5 c5 : Nat} {k1 k2 : IntKind} {i1 i2 : Int} {b1 : Bool} {b : Nat} :
    RIn (.agg #[.slice an n1 c1, .slice al n2 c2, .slice aw n3 c3, .slice ad n4 c4, .slice ap n5 c5, .int k1 i1, .int k2 i2, .bool b1]) b ↔ ∃ a ∈ [an, al, aw, ad, ap], ∃ x, a = some x ∧ x.block = b := by
  constructor
  · rintro ⟨cs, hcs, i, x, n, c, hi, hb⟩
    simp only [Value.agg.injEq] at hcs
    subst hcs
    rcases i with _ | _ | _ | _ | _ | _ | _ | _ | i
    all_goals first
      | (simp only [List.getElem?_toArray, List.getElem?_cons_zero, List.getElem?_cons_succ, Option.some.injEq, Value.slice.injEq] at hi; exact ⟨_, by simp, x, hi.1, hb⟩)
      | simp at hi
  · rintro ⟨a, ha, x, rfl, hb⟩
    simp only [List.mem_cons, List.not_mem_nil, or_false] at ha
    rcases ha with rfl | rfl | rfl | rfl | rfl
    · exact ⟨_, rfl, 0, x, _, _, rfl, hb⟩
    · exact ⟨_, rfl, 1, x, _, _, rfl, hb⟩
    · exact ⟨_, rfl, 2, x, _, _, rfl, hb⟩
    · exact ⟨_, rfl, 3, x, _, _, rfl, hb⟩
    · exact ⟨_, rfl, 4, x, _, _, rfl, hb⟩
theorem RAt.touch {w w' : World} {v : Value} {m : Nat} {R : RDev} (h : RAt w v m R) {L : List Nat} (ht : Touch L w w') (hL : m = 0 ∨ ∀ b, RIn v b → b ∉ L) : RAt w' v m R := by
  obtain ⟨an, cn, al, cl, aw, cw, ad, cd, ap, cp, rfl, h1, h2, h3, h4, h5⟩ := h.ex
  have key : ∀ (a : Option Addr) (vs : List Value), a ∈ [an, al, aw, ad, ap] → (m = 0 → vs = []) → Cells w a vs → Cells w' a vs := by
    intro a vs ha h0 hc
    rcases hc with hc | ⟨b, off, rfl, hc⟩
    · exact .inl hc
    · rcases hL with hm | hL
      · exact .inl (h0 hm)
      · exact .inr ⟨b, off, rfl, fun i v hi => cell_of_touch ht (hL b (rin8.2 ⟨_, ha, _, rfl, rfl⟩)) (hc i v hi)⟩
  have z : ∀ l : List Nat, l.length = 8 * m → m = 0 → l.map vu64 = [] := fun l hl hm => by subst hm; simp at hl; simp [hl]
  have z2 : ∀ l : List Bool, l.length = m → m = 0 → l.map Value.bool = [] := fun l hl hm => by subst hm; simp at hl; simp [hl]
  exact { h with ex := ⟨an, cn, al, cl, aw, cw, ad, cd, ap, cp, rfl, key _ _ (by simp) (z _ h.lenN) h1, key _ _ (by simp) (z _ h.lenL) h2, key _ _ (by simp) (z _ h.lenW) h3, key _ _ (by simp) (z2 _ h.lenD) h4, key _ _ (by simp) (z2 _ h.lenP) h5⟩ }
theorem RAt.old {w : World} {v : Value} {m : Nat} {R : RDev} (h : RAt w v m R) : m = 0 ∨ ∀ b, RIn v b → b < w.heap.size := by
  by_cases hm : m = 0
  · exact .inl hm
  refine .inr fun b hb => ?_
  obtain ⟨an, cn, al, cl, aw, cw, ad, cd, ap, cp, rfl, h1, h2, h3, h4, h5⟩ := h.ex
  rw [rin8] at hb
  obtain ⟨a, ha, x, rfl, rfl⟩ := hb
  have key : ∀ vs : List Value, vs ≠ [] → Cells w (some x) vs → x.block < w.heap.size := by
    intro vs hne hc
    rcases hc with hc | ⟨b', off, he, hc⟩
    · exact absurd hc hne
    · cases he
      cases vs with
      | nil => exact absurd rfl hne
      | cons x xs => exact World.block_lt_of_cell? _ _ (hc 0 x rfl)
  have z : ∀ l : List Nat, l.length = 8 * m → l.map vu64 ≠ [] := fun l hl h => by simp at h; subst h; simp at hl; omega
  have z2 : ∀ l : List Bool, l.length = m → l.map Value.bool ≠ [] := fun l hl h => by simp at h; subst h; simp at hl; omega
  simp only [List.mem_cons, List.not_mem_nil, or_false] at ha
  rcases ha with rfl | rfl | rfl | rfl | rfl
  · exact key _ (z _ h.lenN) h1
  · exact key _ (z _ h.lenL) h2
  · exact key _ (z _ h.lenW) h3
  · exact key _ (z2 _ h.lenD) h4
  · exact key _ (z2 _ h.lenP) h5

end Go.Proofs.YtfedgcdkagngnaaGreat

/- The reference's device: Flush. -/
namespace Go.Proofs.YtfedgcdkagngnaaGreat
open Go.RowKit
set_option linter.unusedVariables false

/-- The document's device, opened. -/
structure ROpen (w : World) (S : Dev) (an al aw ad ap : Option Addr) (m : Nat) (sv fz : Int) (dd : Bool) : Prop where
  k1 : Cells w an (S.cache.map vu64)
  k2 : Cells w al (S.lasting.map vu64)
  k3 : Cells w aw (S.flushed.map vu64)
  k4 : Cells w ad (S.dirty.map Value.bool)
  k5 : Cells w ap (S.pending.map Value.bool)
  hm : m = S.dirty.length
  hs : sv = S.steps
  hf : fz = S.ref.fuse
  hd : dd = S.dead
  cl : S.cache.length = 8 * m
theorem ropen {w : World} {v : Value} {S : Dev} (h : RAt w v S.dirty.length S.ref) {N : Nat} (hf : S.fit N) :
    ∃ an cn al cl aw cw ad cd ap cp m sv fz dd, v = .agg #[.slice an m cn, .slice al m cl, .slice aw m cw, .slice ad m cd, .slice ap m cp, .int .i64 sv, .int .i64 fz, .bool dd] ∧ ROpen w S an al aw ad ap m sv fz dd ∧ S.dirty.length = m ∧ m ≤ 125000 ∧ (0 ≤ sv ∧ sv ≤ N) ∧ (-1 ≤ fz ∧ fz < 9223372036854775808) := by
  obtain ⟨an, cn, al, cl, aw, cw, ad, cd, ap, cp, rfl, k1, k2, k3, k4, k5⟩ := h.ex
  have h1 := hf.ok
  unfold Dev.ok at h1
  have h2 := hf.wf.small
  have h3 := hf.wf.lenD
  exact ⟨an, cn, al, cl, aw, cw, ad, cd, ap, cp, _, _, _, _, rfl, ⟨k1, k2, k3, k4, k5, rfl, rfl, rfl, rfl, h3⟩, rfl, by omega, ⟨h1.1, h1.2.1⟩, Dev.fit_fuse hf⟩
theorem Dev.hold_wf {S : Dev} (h : S.wf) (j : Nat) (hj : j < S.dirty.length) : (S.hold j).wf := by
  have hs := seg_length S.cache j (by have := h.lenD; omega)
  unfold Dev.hold
  split
  · exact ⟨h.lenL, by show (splice _ _ _).length = _; rw [length_splice _ _ _ (by rw [hs, h.lenF, h.lenD]; omega)]; exact h.lenF, by simp [h.lenP], h.lenD, h.small, h.u64L, h.u64C, splice_lt _ h.u64F (seg_lt _ h.u64C)⟩
  · exact h
theorem Dev.flush_fit {S : Dev} {N : Nat} (h : S.fit N) (j : Int) : (S.flush j).fit (N + 1) := by
  have h1 := Dev.step_fit h
  unfold Dev.flush
  split
  · exact h.mono (by omega)
  · split
    · exact h1
    · rename_i c _
      have e4 := S.step_rest.2.2.2.1
      refine ⟨Dev.hold_wf h1.wf _ (by rw [e4]; omega), ?_, ?_⟩
      · have := Dev.hold_same S.step j.toNat
        unfold Dev.ok
        rw [this.1, this.2]
        exact h1.ok
      · unfold Dev.hold
        split <;> exact h1.arm
theorem Dev.flush_dl (S : Dev) (j : Int) : (S.flush j).dirty.length = S.dirty.length := by rw [(Dev.flush_len S j).2]

end Go.Proofs.YtfedgcdkagngnaaGreat

/- The reference's device: Fence. -/
namespace Go.Proofs.YtfedgcdkagngnaaGreat
open Go.RowKit
set_option linter.unusedVariables false

end Go.Proofs.YtfedgcdkagngnaaGreat

/- The reference's device: Persist, New. -/
namespace Go.Proofs.YtfedgcdkagngnaaGreat
open Go.RowKit
set_option linter.unusedVariables false

theorem flushRun_fit {S : Dev} {N : Nat} (h : S.fit N) (a : Nat) : ∀ k, (S.flushRun a k).dev.fit (N + k)
  | 0 => h
  | k + 1 => by
    rw [Dev.flushRun]
    split
    · exact (flushRun_fit h a k).mono (by omega)
    · exact Dev.flush_fit (flushRun_fit h a k) _
theorem flushRun_dl (S : Dev) (a : Nat) : ∀ k, (S.flushRun a k).dev.dirty.length = S.dirty.length
  | 0 => rfl
  | k + 1 => by
    rw [Dev.flushRun]
    split
    · exact flushRun_dl S a k
    · dsimp only; rw [Dev.flush_dl]; exact flushRun_dl S a k
end Go.Proofs.YtfedgcdkagngnaaGreat

/- nvm: Lines, Steps, Dead, All, Arm; the reference's: Dirty, All, New; slices compared. -/
namespace Go.Proofs.YtfedgcdkagngnaaGreat
open Go.RowKit
set_option linter.unusedVariables false

theorem owned_base {w : World} {base B e size n : Nat} {v : Value} {xs : List Value} (h : w.ownsRow base e size v n xs) (hB : B ≤ base) : w.ownsRow B e size v n xs := by
  refine ⟨h.1, ?_⟩
  rcases h.2 with hn | ⟨g, cap, cur, hv, hb, r⟩
  · exact .inl hn
  · exact .inr ⟨g, cap, cur, hv, Nat.le_trans hB hb, r⟩

end Go.Proofs.YtfedgcdkagngnaaGreat

/- nvm: Lasting. -/
namespace Go.Proofs.YtfedgcdkagngnaaGreat
open Go.RowKit
set_option linter.unusedVariables false

end Go.Proofs.YtfedgcdkagngnaaGreat

/- law03: Same. -/
namespace Go.Proofs.YtfedgcdkagngnaaGreat
open Go.RowKit
set_option linter.unusedVariables false

end Go.Proofs.YtfedgcdkagngnaaGreat

/- Plain: two devices that only differ in what no one sees; calls keep them alike. -/
namespace Go.Proofs.YtfedgcdkagngnaaGreat
set_option linter.unusedVariables false

theorem nat_ext {a b : List Nat} (hl : a.length = b.length) (h : ∀ i, a.getD i 0 = b.getD i 0) : a = b := by
  apply List.ext_getElem hl
  intro i h1 h2
  have := h i
  simpa [h1, h2] using this
theorem bool_ext {a b : List Bool} (hl : a.length = b.length) (h : ∀ i, a.getD i false = b.getD i false) : a = b := by
  apply List.ext_getElem hl
  intro i h1 h2
  have := h i
  simpa [h1, h2] using this

end Go.Proofs.YtfedgcdkagngnaaGreat

/- Plain: what was put lasts through every crash. -/
namespace Go.Proofs.YtfedgcdkagngnaaGreat
set_option linter.unusedVariables false

theorem Dev.store_ok0 {S : Dev} {i x : Nat} (h : S.storeE (i : Int) = 0) : i < S.cache.length ∧ (S.store (i : Int) x).cache = S.cache.set i x ∧ (S.store (i : Int) x).dirty = S.dirty.set (i / 8) true := by
  unfold Dev.storeE at h
  by_cases c1 : (i : Int) < 0 ∨ (S.cache.length : Int) ≤ (i : Int)
  · rw [if_pos c1] at h; simp at h
  rw [if_neg c1] at h
  cases c2 : S.stop
  · unfold Dev.store
    rw [if_neg c1, c2]
    simp only [Bool.false_eq_true, if_false]
    obtain ⟨e1, e2, e3, e4, e5⟩ := S.step_rest
    refine ⟨by omega, ?_, ?_⟩
    · simp [Dev.put, e2]
    · simp [Dev.put, e4]
  · rw [c2] at h; simp at h

/-- The words of headers that were put. -/
structure PutAt (S : Dev) (b : Nat) (l : List Hd) (i : Nat) (T : Dev) : Prop where
  inv : T.inv
  lenC : T.cache.length = S.cache.length
  lenD : T.dirty.length = S.dirty.length
  fits : i = 0 ∨ 256 + b + i ≤ S.cache.length
  cache : ∀ j, T.cache.getD j 0 = if 256 + b ≤ j ∧ j < 256 + b + i then encN ((j - 256 : Nat) : Int) (l.getD (j - 256 - b) default).k (l.getD (j - 256 - b) default).c (l.getD (j - 256 - b) default).l else S.cache.getD j 0
  dirty : ∀ q, (∀ k, k < i → (256 + b + k) / 8 ≠ q) → T.dirty.getD q false = S.dirty.getD q false

theorem putTo_at {S : Dev} (h : S.inv) (L : List Hd) (b : Nat) (l : List Hd) : ∀ i, (putTo S L b l i).err = 0 → PutAt S b l i (putTo S L b l i).dev
  | 0, _ => ⟨h, rfl, rfl, .inl rfl, fun j => by rw [if_neg (by omega)]; rfl, fun q _ => rfl⟩
  | i + 1, he => by
    have hst : putTo S L b l (i + 1) = putStep (putTo S L b l i) (b + i) (l.getD i default) := rfl
    rw [hst] at he ⊢
    unfold putStep at he ⊢
    by_cases h0 : (putTo S L b l i).err ≠ 0
    · rw [if_pos h0] at he; exact absurd he h0
    rw [if_neg h0] at he ⊢
    have t := putTo_at h L b l i (by simpa using h0)
    generalize (putTo S L b l i).dev = T at *
    dsimp only at he ⊢
    rw [show (256 + ((b + i : Nat) : Int)) = ((256 + b + i : Nat) : Int) by omega] at he ⊢
    obtain ⟨g1, g2, g3⟩ := Dev.store_ok0 (x := encN ((b + i : Nat) : Int) (l.getD i default).k (l.getD i default).c (l.getD i default).l) he
    have hlc := t.lenC
    have hwD := t.inv.wf.lenD
    refine ⟨Dev.store_inv t.inv _ _ (encN_lt _ _ _ _), by rw [g2]; simp [t.lenC], by rw [g3]; simp [t.lenD], .inr (by omega), fun j => ?_, fun q hq => ?_⟩
    · rw [g2, getD_setN _ _ _ _ g1, t.cache j]
      by_cases e : j = 256 + b + i
      · subst e
        rw [if_pos rfl, if_pos (by omega), show 256 + b + i - 256 = b + i by omega, show b + i - b = i by omega]
      · rw [if_neg e]
        by_cases c : 256 + b ≤ j ∧ j < 256 + b + i
        · rw [if_pos c, if_pos (by omega)]
        · rw [if_neg c, if_neg (by omega)]
    · rw [g3, getD_setB _ _ _ _ (by omega), if_neg (fun e => hq i (by omega) e.symm)]
      exact t.dirty q (fun k hk => hq k (by omega))

/-- All headers' words last. -/
structure Clean (S : Dev) (B : Nat) : Prop where
  inv : S.inv
  fits : 256 + B ≤ S.cache.length
  clean : ∀ b, 1 ≤ b → b < B → S.dirty.getD ((256 + b) / 8) false = false

theorem put_clean {S : Dev} {B : Nat} (h : Clean S B) {L : List Hd} (hL : L.length = B) {b : Int} {l : List Hd} (he : (putAll S L b l).err = 0) :
    Clean (putAll S L b l).dev B ∧ ∃ k : Nat, b = (k : Int) ∧ 1 ≤ k ∧ k + l.length ≤ B ∧ allRight l l.length ∧
      ∀ q, 1 ≤ q → q < B → (putAll S L b l).dev.cache.getD (256 + q) 0 = if k ≤ q ∧ q < k + l.length then encN (q : Int) (l.getD (q - k) default).k (l.getD (q - k) default).c (l.getD (q - k) default).l else S.cache.getD (256 + q) 0 := by
  unfold putAll at he ⊢
  by_cases c1 : b < 1 ∨ (L.length : Int) < b ∨ (L.length : Int) - b < (l.length : Int) ∨ ¬ allRight l l.length
  · rw [if_pos c1] at he; simp at he
  rw [if_neg c1] at he ⊢
  obtain ⟨k, rfl⟩ := Int.eq_ofNat_of_zero_le (show 0 ≤ b by omega)
  have hr : allRight l l.length := Decidable.byContradiction fun h => c1 (.inr (.inr (.inr h)))
  by_cases c2 : l.length = 0
  · rw [if_pos c2]
    exact ⟨h, k, rfl, by omega, by omega, hr, fun q _ _ => by rw [if_neg (by omega)]⟩
  rw [if_neg c2] at he ⊢
  rw [show ((k : Nat) : Int).toNat = k from rfl] at he ⊢
  unfold putIn at he ⊢
  by_cases c3 : (putTo S L k l l.length).err ≠ 0
  · rw [if_pos c3] at he; exact absurd he c3
  rw [if_neg c3] at he ⊢
  have t := putTo_at h.inv L k l l.length (by simpa using c3)
  generalize (putTo S L k l l.length).dev = T at *
  dsimp only at he ⊢
  rw [show (256 + (k : Int)) = ((256 + k : Nat) : Int) by omega] at he ⊢
  obtain ⟨q1, q2, q3, q4, q5⟩ := Dev.persist_clean t.inv (256 + k) l.length (by omega) he
  have hfit := h.fits
  refine ⟨⟨Dev.persist_inv t.inv _ _, by rw [q1, t.lenC]; exact hfit, fun q h1 h2 => ?_⟩, k, rfl, by omega, by omega, hr, fun q h1 h2 => ?_⟩
  · by_cases c : ∃ i, i < l.length ∧ (256 + k + i) / 8 = (256 + q) / 8
    · obtain ⟨i, hi, e⟩ := c
      rw [← e]
      exact q4 (256 + k + i) (by omega) (by omega)
    · refine q5 _ ?_
      rw [t.dirty _ (fun i hi e => c ⟨i, hi, e⟩)]
      exact h.clean q h1 h2
  · rw [q1, t.cache]
    by_cases c : k ≤ q ∧ q < k + l.length
    · rw [if_pos (by omega), if_pos c, show 256 + q - 256 = q by omega]
    · rw [if_neg (by omega), if_neg c]

theorem fmtTo_inv {S : Dev} (h : S.inv) (k : Nat) : (S.fmtTo k).inv := by
  induction k with
  | zero => exact h
  | succ k ih =>
    unfold Dev.fmtTo
    split
    · exact h
    · exact Dev.store_inv ih _ _ (encN_lt _ _ _ _)
theorem fmt_clean {S : Dev} (h : S.inv) (hv : S.live) (ho : S.ok 100) {B : Nat} (hB2 : 2 ≤ B) (hlen : 256 + B ≤ S.cache.length) : Clean (S.fmt B) B := by
  obtain ⟨p1, p2, p3, p5, p4⟩ := fmtTo_props hv ho B hlen
  have he := (p1.persist 257 (B - 1) (by omega) (by rw [p3, p5]; exact h.wf.lenD) (by rw [p3]; omega)).1
  unfold Dev.fmt
  rw [show ((B : Int) - 1) = ((B - 1 : Nat) : Int) by omega]
  rw [show ((257 : Nat) : Int) = 257 from rfl] at he
  have hi := fmtTo_inv h B
  obtain ⟨q1, q2, q3, q4, q5⟩ := Dev.persist_clean hi 257 (B - 1) (by omega) he
  rw [show ((257 : Nat) : Int) = 257 from rfl] at q1 q4
  exact ⟨Dev.persist_inv hi _ _, by rw [q1, p3]; exact hlen, fun b h1 h2 => q4 (256 + b) (by omega) (by omega)⟩

end Go.Proofs.YtfedgcdkagngnaaGreat

/- Plain: managers whose headers last; what calls do to them; what a crash leaves. -/
namespace Go.Proofs.YtfedgcdkagngnaaGreat
set_option linter.unusedVariables false

/-- Whatever becomes of a word is among these. -/
structure Among (S : Dev) (i : Nat) (V : Nat → Prop) : Prop where
  cache : V (S.cache.getD i 0)
  lasting : V (S.lasting.getD i 0)
  flushed : S.pending.getD (i / 8) false = true → V (S.flushed.getD i 0)

section
variable {S : Dev} {i : Nat} {V : Nat → Prop}
theorem Among.step (h : Among S i V) : Among S.step i V := by
  obtain ⟨e1, e2, e3, e4, e5⟩ := S.step_rest
  exact ⟨by rw [e2]; exact h.cache, by rw [e1]; exact h.lasting, fun hp => by rw [e3]; rw [e5] at hp; exact h.flushed hp⟩
theorem Among.store (h : Among S i V) (j : Int) (x : Nat) (hx : j = (i : Int) → V x) : Among (S.store j x) i V := by
  unfold Dev.store
  by_cases c : j < 0 ∨ (S.cache.length : Int) ≤ j
  · rw [if_pos c]; exact h
  · rw [if_neg c]
    split
    · exact h.step
    · have k := h.step
      obtain ⟨e1, e2, e3, e4, e5⟩ := S.step_rest
      refine ⟨?_, k.lasting, k.flushed⟩
      show V ((S.step.cache.set j.toNat x).getD i 0)
      rw [getD_setN _ _ _ _ (by rw [e2]; omega)]
      by_cases e : i = j.toNat
      · rw [if_pos e]; exact hx (by omega)
      · rw [if_neg e]; exact k.cache
theorem Among.hold (h : Among S i V) (hS : S.wf) (j : Nat) (hj : j < S.dirty.length) : Among (S.hold j) i V := by
  unfold Dev.hold
  split
  · have hD := hS.lenD
    refine ⟨h.cache, h.lasting, fun hp => ?_⟩
    dsimp only at hp ⊢
    rw [getD_setB _ _ _ _ (by rw [hS.lenP]; exact hj)] at hp
    rw [splice_seg_getD _ _ _ _ (by rw [hS.lenF]; omega) (by omega)]
    by_cases e : i / 8 = j
    · rw [if_pos e]; exact h.cache
    · rw [if_neg e] at hp ⊢
      exact h.flushed hp
  · exact h
theorem Among.flush (h : Among S i V) (hS : S.inv) (j : Int) : Among (S.flush j) i V := by
  unfold Dev.flush
  by_cases c : j < 0 ∨ (S.dirty.length : Int) ≤ j
  · rw [if_pos c]; exact h
  · rw [if_neg c]
    split
    · exact h.step
    · exact h.step.hold (Dev.step_wf hS.wf) _ (by rw [S.step_rest.2.2.2.1]; omega)
theorem Among.fence (h : Among S i V) (hS : S.wf) : Among S.fence i V := by
  cases hs : S.stop
  · have a := Dev.fence_at hS hs
    refine ⟨by rw [a.cache]; exact h.cache, ?_, fun hp => ?_⟩
    · rw [a.lasting i]
      by_cases c : i / 8 < S.dirty.length ∧ S.pending.getD (i / 8) false = true
      · rw [if_pos c]; exact h.flushed c.2
      · rw [if_neg c]; exact h.lasting
    · rw [a.flushed]
      rw [a.pending] at hp
      by_cases c : i / 8 < S.dirty.length
      · rw [if_pos c] at hp; cases hp
      · rw [if_neg c] at hp; exact h.flushed hp
  · unfold Dev.fence
    rw [hs]
    exact h.step
theorem Among.flushRun (h : Among S i V) (hS : S.inv) (a : Nat) : ∀ m, Among (S.flushRun a m).dev i V
  | 0 => h
  | m + 1 => by
    have := Among.flushRun h hS a m
    rw [Dev.flushRun]
    split
    · exact this
    · exact this.flush (Dev.flushRun_inv hS a m) _
theorem Among.persist (h : Among S i V) (hS : S.inv) (p n : Int) : Among (S.persist p n).dev i V := by
  unfold Dev.persist
  split
  · exact h
  · split
    · unfold Dev.persistN
      have := h.flushRun hS (p / 8).toNat ((p + n - 1) / 8 - p / 8 + 1).toNat
      split
      · exact this
      · exact this.fence (Dev.flushRun_inv hS _ _).wf
    · exact h.fence hS.wf
theorem Among.putTo (h : Among S i V) (L : List Hd) (b : Nat) (l : List Hd) (hx : ∀ k, k < l.length → i = 256 + b + k → V (encN ((b + k : Nat) : Int) (l.getD k default).k (l.getD k default).c (l.getD k default).l)) : ∀ k, k ≤ l.length → Among (putTo S L b l k).dev i V
  | 0, _ => h
  | k + 1, hk => by
    have := Among.putTo h L b l hx k (by omega)
    unfold Go.Proofs.YtfedgcdkagngnaaGreat.putTo putStep
    split
    · exact this
    · exact this.store _ _ (fun e => hx k (by omega) (by omega))
theorem Among.putAll (h : Among S i V) (hS : S.inv) (L : List Hd) (b : Int) (l : List Hd) (hx : ∀ k, k < l.length → (i : Int) = 256 + b + k → allRight l l.length → V (encN (b + k) (l.getD k default).k (l.getD k default).c (l.getD k default).l)) : Among (putAll S L b l).dev i V := by
  unfold Go.Proofs.YtfedgcdkagngnaaGreat.putAll
  by_cases c : b < 1 ∨ (L.length : Int) < b ∨ (L.length : Int) - b < (l.length : Int) ∨ ¬ allRight l l.length
  · rw [if_pos c]; exact h
  · rw [if_neg c]
    split
    · exact h
    · have hr : allRight l l.length := Decidable.byContradiction fun h => c (.inr (.inr (.inr h)))
      have t := h.putTo L b.toNat l (fun k hk e => by
        have := hx k hk (by omega) hr
        rw [show ((b.toNat + k : Nat) : Int) = b + k by omega]
        exact this) l.length (Nat.le_refl _)
      unfold putIn
      split
      · exact t
      · exact t.persist (putTo_inv hS _ _ _ _) _ _
end

/-- A manager all of whose headers last. -/
structure BmOk (B : Nat) (m : Bm) : Prop where
  lenL : m.list.length = B
  lenF : m.free.length = B
  clean : Clean m.dev B
  right : ∀ b, b < B → hdRight (m.list.getD b default).k (m.list.getD b default).c (m.list.getD b default).l = true
  word : ∀ b, 1 ≤ b → b < B → m.dev.cache.getD (256 + b) 0 = encN (b : Int) (m.list.getD b default).k (m.list.getD b default).c (m.list.getD b default).l
  free : ∀ b, fb m.free b = true ↔ 1 ≤ b ∧ b < B ∧ (m.list.getD b default).k = 0
  large : ∀ b, 1 ≤ b → b < B → (m.list.getD b default).k = 2 → (b : Int) + (m.list.getD b default).l ≤ B ∧ ∀ i : Nat, 1 ≤ i → (i : Int) < (m.list.getD b default).l → m.list.getD (b + i) default = ⟨3, 0, i⟩

/-- Words that are headers. -/
def IsHd (q : Nat) (x : Nat) : Prop := (decN (q : Int) x).code = 0

theorem BmOk.among {B : Nat} {m : Bm} (h : BmOk B m) {q : Nat} (h1 : 1 ≤ q) (h2 : q < B) : Among m.dev (256 + q) (fun x => x = encN (q : Int) (m.list.getD q default).k (m.list.getD q default).c (m.list.getD q default).l) := by
  have hc := h.clean.clean q h1 h2
  refine ⟨h.word q h1 h2, ?_, fun hp => ?_⟩
  · rw [h.clean.inv.sound _ hc]; exact h.word q h1 h2
  · have := h.clean.inv.pend _ hp
    rw [hc] at this; cases this
theorem Among.mono {S : Dev} {i : Nat} {V V' : Nat → Prop} (h : Among S i V) (hv : ∀ x, V x → V' x) : Among S i V' := ⟨hv _ h.cache, hv _ h.lasting, fun hp => hv _ (h.flushed hp)⟩

/-- What a call may do to headers: V: all versions are headers; those of blocks outside T are as they were. -/
def Stay (m m' : Bm) (B : Nat) (T : Nat → Prop) : Prop := m'.dev.inv ∧ m'.dev.cache.length = m.dev.cache.length ∧ ∀ q, 1 ≤ q → q < B → Among m'.dev (256 + q) (IsHd q) ∧ (¬ T q → Among m'.dev (256 + q) (fun x => x = encN (q : Int) (m.list.getD q default).k (m.list.getD q default).c (m.list.getD q default).l))

theorem isHd_enc {q : Nat} {k c l : Int} (h : hdRight k c l = true) : IsHd q (encN (q : Int) k c l) := by
  unfold IsHd; rw [dec_enc _ _ _ _ h]
theorem BmOk.stay {B : Nat} {m : Bm} (h : BmOk B m) (T : Nat → Prop) : Stay m m B T :=
  ⟨h.clean.inv, rfl, fun q h1 h2 => ⟨(h.among h1 h2).mono (fun x hx => by rw [hx]; exact isHd_enc (h.right q h2)), fun _ => h.among h1 h2⟩⟩

theorem store_clen (S : Dev) (i : Int) (x : Nat) : (S.store i x).cache.length = S.cache.length := by
  obtain ⟨_, e2, _⟩ := S.step_rest
  unfold Dev.store
  split
  · rfl
  · split
    · rw [e2]
    · show (S.step.cache.set i.toNat x).length = _
      rw [List.length_set, e2]
theorem flush_clen (S : Dev) (j : Int) : (S.flush j).cache.length = S.cache.length := by
  obtain ⟨_, e2, _⟩ := S.step_rest
  unfold Dev.flush
  split
  · rfl
  · split
    · rw [e2]
    · unfold Dev.hold
      split
      · dsimp only; rw [e2]
      · rw [e2]
theorem putTo_clen (S : Dev) (L : List Hd) (b : Nat) (l : List Hd) : ∀ i, (putTo S L b l i).dev.cache.length = S.cache.length
  | 0 => rfl
  | i + 1 => by
    have := putTo_clen S L b l i
    unfold putTo putStep
    split
    · exact this
    · dsimp only; rw [store_clen]; exact this
theorem flushRun_clen (S : Dev) (a : Nat) : ∀ m, (S.flushRun a m).dev.cache.length = S.cache.length
  | 0 => rfl
  | m + 1 => by
    have := flushRun_clen S a m
    rw [Dev.flushRun]
    split
    · exact this
    · dsimp only; rw [flush_clen]; exact this
theorem persist_clen {S : Dev} (h : S.inv) (p n : Int) : (S.persist p n).dev.cache.length = S.cache.length := by
  have hf : ∀ {U : Dev}, U.wf → U.fence.cache.length = U.cache.length := by
    intro U hU
    cases hs : U.stop
    · rw [(Dev.fence_at hU hs).cache]
    · unfold Dev.fence; rw [hs]; simp only [if_true]; rw [U.step_rest.2.1]
  unfold Dev.persist
  split
  · rfl
  · split
    · unfold Dev.persistN
      split
      · exact flushRun_clen _ _ _
      · dsimp only; rw [hf (Dev.flushRun_inv h _ _).wf]; exact flushRun_clen _ _ _
    · exact hf h.wf
theorem putAll_clen {S : Dev} (h : S.inv) (L : List Hd) (b : Int) (l : List Hd) : (putAll S L b l).dev.cache.length = S.cache.length := by
  unfold putAll
  split
  · rfl
  · split
    · rfl
    · unfold putIn
      split
      · exact putTo_clen _ _ _ _ _
      · dsimp only; rw [persist_clen (putTo_inv h _ _ _ _)]; exact putTo_clen _ _ _ _ _

theorem Stay.put {m m' : Bm} {B : Nat} {T : Nat → Prop} (h : Stay m m' B T) (L : List Hd) (b : Int) (l : List Hd) (f : List Bool) (l2 : List Hd) (hT : ∀ k : Nat, k < l.length → ∀ q : Nat, (q : Int) = b + k → T q) : Stay m ⟨(putAll m'.dev L b l).dev, l2, f⟩ B T := by
  obtain ⟨h1, h2, h3⟩ := h
  refine ⟨putAll_inv h1 _ _ _, by rw [← h2]; exact putAll_clen h1 _ _ _, fun q q1 q2 => ?_⟩
  obtain ⟨g1, g2⟩ := h3 q q1 q2
  refine ⟨g1.putAll h1 L b l (fun k hk e hr => ?_), fun hn => (g2 hn).putAll h1 L b l (fun k hk e _ => absurd (hT k hk q (by omega)) hn)⟩
  rw [show b + (k : Int) = (q : Int) by omega]
  exact isHd_enc (hr k hk)

end Go.Proofs.YtfedgcdkagngnaaGreat

/- Plain: what Small, Large, Release do to a manager all of whose headers last. -/
namespace Go.Proofs.YtfedgcdkagngnaaGreat
set_option linter.unusedVariables false

/-- Headers and their words. -/
structure BmW (B : Nat) (S : Dev) (L : List Hd) : Prop where
  lenL : L.length = B
  clean : Clean S B
  right : ∀ b, b < B → hdRight (L.getD b default).k (L.getD b default).c (L.getD b default).l = true
  word : ∀ b, 1 ≤ b → b < B → S.cache.getD (256 + b) 0 = encN (b : Int) (L.getD b default).k (L.getD b default).c (L.getD b default).l
theorem BmOk.w {B : Nat} {m : Bm} (h : BmOk B m) : BmW B m.dev m.list := ⟨h.lenL, h.clean, h.right, h.word⟩

theorem putTo_list (S : Dev) (L : List Hd) (b : Nat) (l : List Hd) : ∀ i, b + i ≤ L.length → (putTo S L b l i).err = 0 → ∀ q, (putTo S L b l i).list.getD q default = if b ≤ q ∧ q < b + i then l.getD (q - b) default else L.getD q default
  | 0, _, _, q => by rw [if_neg (by omega)]; rfl
  | i + 1, hi, he, q => by
    have hst : putTo S L b l (i + 1) = putStep (putTo S L b l i) (b + i) (l.getD i default) := rfl
    rw [hst] at he ⊢
    have hlen := putTo_len S L b l i
    unfold putStep at he ⊢
    by_cases h0 : (putTo S L b l i).err ≠ 0
    · rw [if_pos h0] at he; exact absurd he h0
    rw [if_neg h0] at he ⊢
    have ih := putTo_list S L b l i (by omega) (by simpa using h0) q
    dsimp only at he ⊢
    rw [if_pos he]
    rw [List.getD_eq_getElem?_getD, List.getElem?_set]
    by_cases e : b + i = q
    · rw [if_pos e, if_pos (by omega), if_pos (by omega), show q - b = i by omega]; rfl
    · rw [if_neg e, ← List.getD_eq_getElem?_getD, ih]
      by_cases c : b ≤ q ∧ q < b + i
      · rw [if_pos c, if_pos (by omega)]
      · rw [if_neg c, if_neg (by omega)]

theorem BmW.put {B : Nat} {S : Dev} {L : List Hd} (h : BmW B S L) {k : Nat} {l : List Hd} (hk1 : 1 ≤ k) (hkB : k + l.length ≤ B) (hr : allRight l l.length) (he : (putAll S L (k : Int) l).err = 0) :
    BmW B (putAll S L (k : Int) l).dev (putAll S L (k : Int) l).list ∧ ∀ q, (putAll S L (k : Int) l).list.getD q default = if k ≤ q ∧ q < k + l.length then l.getD (q - k) default else L.getD q default := by
  obtain ⟨hc, k', e, _, _, _, hw⟩ := put_clean h.clean h.lenL he
  obtain rfl : k' = k := by omega
  have hlist : ∀ q, (putAll S L (k' : Int) l).list.getD q default = if k' ≤ q ∧ q < k' + l.length then l.getD (q - k') default else L.getD q default := by
    intro q
    rw [putAll_in S hk1 (by rw [h.lenL]; exact hkB) hr] at he ⊢
    by_cases hl : l.length = 0
    · rw [if_pos hl, if_neg (by omega)]
    · rw [if_neg hl] at he ⊢
      unfold putIn at he ⊢
      by_cases c : (putTo S L k' l l.length).err ≠ 0
      · rw [if_pos c] at he; exact absurd he c
      · rw [if_neg c]
        exact putTo_list S L k' l l.length (by rw [h.lenL]; exact hkB) (by simpa using c) q
  refine ⟨⟨by rw [putAll_len, h.lenL], hc, fun b hb => ?_, fun b h1 h2 => ?_⟩, hlist⟩
  · rw [hlist b]
    by_cases c : k' ≤ b ∧ b < k' + l.length
    · rw [if_pos c]; exact hr _ (by omega)
    · rw [if_neg c]; exact h.right b hb
  · rw [hw b h1 h2, hlist b]
    by_cases c : k' ≤ b ∧ b < k' + l.length
    · rw [if_pos c, if_pos c]
    · rw [if_neg c, if_neg c]; exact h.word b h1 h2

theorem step_dead {S : Dev} (h : S.stop = true) : S.step.dead = true := by unfold Dev.step; rw [if_pos h]
theorem flush_dead {S : Dev} {j : Int} (h0 : 0 ≤ j) (h1 : j < S.dirty.length) (he : S.flushE j ≠ 0) : (S.flush j).dead = true := by
  unfold Dev.flushE at he
  unfold Dev.flush
  rw [if_neg (by omega)] at he ⊢
  by_cases hs : S.stop = true
  · rw [if_pos hs]; exact step_dead hs
  · rw [if_neg hs] at he; exact absurd rfl he
theorem fence_dead {S : Dev} (he : S.fenceE ≠ 0) : S.fence.dead = true := by
  unfold Dev.fenceE at he
  unfold Dev.fence
  by_cases hs : S.stop = true
  · rw [if_pos hs]; exact step_dead hs
  · rw [if_neg hs] at he; exact absurd rfl he
theorem flushRun_dead {S : Dev} (a : Nat) : ∀ m, a + m ≤ S.dirty.length → (S.flushRun a m).err ≠ 0 → (S.flushRun a m).dev.dead = true
  | 0, _, h => absurd rfl h
  | m + 1, hm, h => by
    rw [Dev.flushRun] at h ⊢
    by_cases c : (S.flushRun a m).err ≠ 0
    · rw [if_pos c] at h ⊢; exact flushRun_dead a m (by omega) h
    · rw [if_neg c] at h ⊢
      exact flush_dead (by omega) (by rw [flushRun_dl]; omega) h
theorem persist_dead {S : Dev} (hS : S.inv) {p n : Nat} (hn : 0 < n) (hp : p + n ≤ S.cache.length) (he : (S.persist p n).err ≠ 0) : (S.persist p n).dev.dead = true := by
  have hD := hS.wf.lenD
  unfold Dev.persist at he ⊢
  rw [if_neg (by omega), if_pos (by omega)] at he ⊢
  unfold Dev.persistN at he ⊢
  by_cases c : (S.flushRun ((p : Int) / 8).toNat (((p : Int) + n - 1) / 8 - (p : Int) / 8 + 1).toNat).err ≠ 0
  · rw [if_pos c] at he ⊢
    exact flushRun_dead _ _ (by omega) c
  · rw [if_neg c] at he ⊢
    exact fence_dead he
theorem store_dead {S : Dev} {j : Int} {x : Nat} (h0 : 0 ≤ j) (h1 : j < S.cache.length) (he : S.storeE j ≠ 0) : (S.store j x).dead = true := by
  unfold Dev.storeE at he
  unfold Dev.store
  rw [if_neg (by omega)] at he ⊢
  by_cases hs : S.stop = true
  · rw [if_pos hs]; exact step_dead hs
  · rw [if_neg hs] at he; exact absurd rfl he
theorem putTo_dead {S : Dev} (L : List Hd) (b : Nat) (l : List Hd) : ∀ i, 256 + b + i ≤ S.cache.length → (putTo S L b l i).err ≠ 0 → (putTo S L b l i).dev.dead = true
  | 0, _, h => absurd rfl h
  | i + 1, hi, h => by
    have hst : putTo S L b l (i + 1) = putStep (putTo S L b l i) (b + i) (l.getD i default) := rfl
    rw [hst] at h ⊢
    unfold putStep at h ⊢
    by_cases c : (putTo S L b l i).err ≠ 0
    · rw [if_pos c] at h ⊢; exact putTo_dead L b l i (by omega) h
    · rw [if_neg c] at h ⊢
      exact store_dead (by omega) (by rw [putTo_clen]; omega) h
theorem putAll_dead {S : Dev} (hS : S.inv) {L : List Hd} {k : Nat} {l : List Hd} (hk1 : 1 ≤ k) (hkB : k + l.length ≤ L.length) (hr : allRight l l.length) (hf : 256 + L.length ≤ S.cache.length) : (putAll S L (k : Int) l).err = 0 ∨ (putAll S L (k : Int) l).dev.dead = true := by
  by_cases he : (putAll S L (k : Int) l).err = 0
  · exact .inl he
  right
  rw [putAll_in S hk1 hkB hr] at he ⊢
  by_cases hl : l.length = 0
  · rw [if_pos hl] at he; exact absurd rfl he
  · rw [if_neg hl] at he ⊢
    unfold putIn at he ⊢
    by_cases c : (putTo S L k l l.length).err ≠ 0
    · rw [if_pos c]
      exact putTo_dead L k l l.length (by omega) c
    · rw [if_neg c] at he ⊢
      have : (256 : Int) + (k : Int) = ((256 + k : Nat) : Int) := by omega
      rw [this] at he ⊢
      exact persist_dead (putTo_inv hS L k l l.length) (by omega) (by rw [putTo_clen]; omega) he

theorem allRight_one {h : Hd} (hr : hdRight h.k h.c h.l = true) : allRight [h] [h].length := by
  intro i hi
  obtain rfl : i = 0 := by simp at hi; omega
  exact hr

variable {B : Nat} {m : Bm}
theorem run_free {f : List Bool} {a k n : Nat} (hr : IsRun (fb f) a k) (hn : n ≤ k) : ∀ q, a ≤ q → q < a + n → fb f q = true := fun q h1 h2 => hr.2.1 q h1 (by omega)

/-- Free blocks are no parts of a large object. -/
theorem BmOk.part {h : BmOk B m} {b i : Nat} (h1 : 1 ≤ b) (h2 : b < B) (hk : (m.list.getD b default).k = 2) (hi : 1 ≤ i) (hi2 : (i : Int) < (m.list.getD b default).l) : fb m.free (b + i) = false := by
  cases hq : fb m.free (b + i) with
  | false => rfl
  | true =>
    have := ((h.free (b + i)).1 hq).2.2
    rw [(h.large b h1 h2 hk).2 i hi hi2] at this
    cases this

theorem small_done (h : BmOk B m) (k : Int) : Stay m (m.small k).bm B (fun q => fb m.free q = true) ∧ ((m.small k).bm.dev.dead = true ∨ BmOk B (m.small k).bm) := by
  unfold Bm.small
  by_cases hr : hdRight 1 k 0 = false
  · rw [if_pos hr]; exact ⟨h.stay _, .inr h⟩
  rw [if_neg hr]
  have hr' : hdRight 1 k 0 = true := by simpa using hr
  by_cases ht : (takeR m.free 1).2.2 ≠ 0
  · rw [if_pos ht, takeR_err ht]; exact ⟨h.stay _, .inr h⟩
  rw [if_neg ht]
  obtain ⟨a, c, hta, hrun, hc, hfit⟩ := takeR_fit (l := m.free) (z := 1) (Nat.le_refl _) (by simpa using ht)
  have hta' : takeR m.free 1 = (setTo m.free a false 1, (a : Int), 0) := hta
  rw [hta']
  dsimp only
  have hfr := run_free hrun hc
  have hfa := hfr a (Nat.le_refl _) (by omega)
  obtain ⟨a1, a2, a3⟩ := (h.free a).1 hfa
  refine ⟨(h.stay _).put _ _ _ _ _ (fun j hj q e => ?_), ?_⟩
  · have : q = a := by simp at hj; omega
    subst this; exact hfa
  · have hone : allRight [(⟨1, k, 0⟩ : Hd)] [(⟨1, k, 0⟩ : Hd)].length := allRight_one hr'
    rcases putAll_dead h.clean.inv (L := m.list) a1 (by rw [h.lenL]; simp; omega) hone (by rw [h.lenL]; exact h.clean.fits) with he | hd
    · right
      obtain ⟨hw, hl⟩ := h.w.put a1 (by simp; omega) hone he
      have hl' : ∀ q, (putAll m.dev m.list (a : Int) [⟨1, k, 0⟩]).list.getD q default = if q = a then ⟨1, k, 0⟩ else m.list.getD q default := by
        intro q
        rw [hl q]
        by_cases e : q = a
        · subst e; rw [if_pos (by simp), if_pos rfl]; simp
        · rw [if_neg (by simp; omega), if_neg e]
      refine ⟨hw.lenL, by rw [setTo_length, h.lenF], hw.clean, hw.right, hw.word, fun q => ?_, fun q q1 q2 hq => ?_⟩
      · rw [setTo_ff hfit, hl' q]
        by_cases e : q = a
        · subst e
          rw [if_pos rfl]
          constructor
          · rintro ⟨h1, _⟩; exact absurd ⟨Nat.le_refl _, by omega⟩ h1
          · rintro ⟨_, _, h3⟩; cases h3
        · rw [if_neg e, ← h.free q]
          exact ⟨fun h => h.2, fun h => ⟨by omega, h⟩⟩
      · dsimp only at hq ⊢
        rw [hl' q] at hq ⊢
        by_cases e : q = a
        · rw [if_pos e] at hq; cases hq
        · rw [if_neg e] at hq ⊢
          obtain ⟨g1, g2⟩ := h.large q q1 q2 hq
          refine ⟨g1, fun i i1 i2 => ?_⟩
          rw [hl' (q + i), if_neg (fun e2 => by
            have := BmOk.part (h := h) q1 q2 hq i1 i2
            rw [e2, hfa] at this; cases this)]
          exact g2 i i1 i2
    · exact .inl hd

end Go.Proofs.YtfedgcdkagngnaaGreat

/- Plain: what Large and Release do to a manager all of whose headers last. -/
namespace Go.Proofs.YtfedgcdkagngnaaGreat
set_option linter.unusedVariables false

variable {B : Nat} {m : Bm}

theorem run_tail (n : Nat) : ((hdRun n n).drop 1).length = n - 1 ∧ ∀ i, i < n - 1 → ((hdRun n n).drop 1).getD i default = ⟨3, 0, ((i + 1 : Nat) : Int)⟩ := by
  refine ⟨by rw [List.length_drop, hdRun_len], fun i hi => ?_⟩
  rw [List.getD_eq_getElem?_getD, List.getElem?_drop, ← List.getD_eq_getElem?_getD, hdRun_getD n n (1 + i) (by omega), if_neg (by omega), show 1 + i = i + 1 by omega]

theorem large_done (h : BmOk B m) (z : Int) : Stay m (m.large z).bm B (fun q => fb m.free q = true) ∧ ((m.large z).bm.dev.dead = true ∨ BmOk B (m.large z).bm) := by
  unfold Bm.large
  by_cases hz : z < 1 ∨ 256 ≤ z
  · rw [if_pos hz]; exact ⟨h.stay _, .inr h⟩
  rw [if_neg hz]
  obtain ⟨n, rfl⟩ := Int.eq_ofNat_of_zero_le (show 0 ≤ z by omega)
  have hn1 : 1 ≤ n := by omega
  have hn2 : n < 256 := by omega
  rw [show ((n : Int)).toNat = n from rfl]
  by_cases ht : (takeR m.free n).2.2 ≠ 0
  · rw [if_pos ht, takeR_err ht]; exact ⟨h.stay _, .inr h⟩
  rw [if_neg ht]
  obtain ⟨a, c, hta, hrun, hc, hfit⟩ := takeR_fit (l := m.free) hn1 (by simpa using ht)
  rw [hta]
  dsimp only
  have hfr := run_free hrun hc
  have hfk : ∀ q, a ≤ q → q < a + n → 1 ≤ q ∧ q < B ∧ (m.list.getD q default).k = 0 := fun q h1 h2 => (h.free q).1 (hfr q h1 h2)
  have a1 := (hfk a (Nat.le_refl _) (by omega)).1
  have haB : a + n ≤ B := by rw [← h.lenF]; exact hfit
  obtain ⟨hlen, htl⟩ := run_tail n
  have hr1 : allRight ((hdRun n n).drop 1) ((hdRun n n).drop 1).length := by
    intro i hi
    rw [hlen] at hi
    rw [htl i hi]
    exact decide_eq_true (.inr (.inr ⟨.inr rfl, rfl, by dsimp only; omega⟩))
  have hs1 : Stay m ⟨(putAll m.dev m.list ((a : Int) + 1) ((hdRun n n).drop 1)).dev, (putAll m.dev m.list ((a : Int) + 1) ((hdRun n n).drop 1)).list, setTo m.free a false n⟩ B (fun q => fb m.free q = true) :=
    (h.stay _).put _ _ _ _ _ (fun j hj q e => hfr q (by omega) (by rw [hlen] at hj; omega))
  have e1 : (a : Int) + 1 = ((a + 1 : Nat) : Int) := by omega
  have hcase := putAll_dead h.clean.inv (L := m.list) (k := a + 1) (l := (hdRun n n).drop 1) (by omega) (by rw [h.lenL, hlen]; omega) hr1 (by rw [h.lenL]; exact h.clean.fits)
  rw [← e1] at hcase
  have hput := fun (he : (putAll m.dev m.list ((a : Int) + 1) ((hdRun n n).drop 1)).err = 0) => h.w.put (k := a + 1) (l := (hdRun n n).drop 1) (by omega) (by rw [hlen]; omega) hr1 (by rw [← e1]; exact he)
  rw [← e1] at hput
  generalize putAll m.dev m.list ((a : Int) + 1) ((hdRun n n).drop 1) = r1 at *
  by_cases he1 : r1.err ≠ 0
  · rw [if_pos he1]
    refine ⟨hs1, ?_⟩
    rcases hcase with h0 | hd
    · exact absurd h0 he1
    · exact .inl hd
  rw [if_neg he1]
  obtain ⟨hw1, hl1⟩ := hput (by simpa using he1)
  refine ⟨hs1.put _ _ _ _ _ (fun j hj q e => ?_), ?_⟩
  · have : q = a := by simp at hj; omega
    subst this; exact hfr q (Nat.le_refl _) (by omega)
  have hone : allRight [(⟨2, 0, (n : Int)⟩ : Hd)] [(⟨2, 0, (n : Int)⟩ : Hd)].length := allRight_one (decide_eq_true (.inr (.inr ⟨.inl rfl, rfl, by dsimp only; omega⟩)))
  rcases putAll_dead hw1.clean.inv (L := r1.list) a1 (by rw [hw1.lenL]; simp; omega) hone (by rw [hw1.lenL]; exact hw1.clean.fits) with he | hd
  · right
    obtain ⟨hw, hl⟩ := hw1.put a1 (by simp; omega) hone he
    have hl' : ∀ q, (putAll r1.dev r1.list (a : Int) [⟨2, 0, (n : Int)⟩]).list.getD q default = if q = a then ⟨2, 0, (n : Int)⟩ else if a ≤ q ∧ q < a + n then ⟨3, 0, ((q - a : Nat) : Int)⟩ else m.list.getD q default := by
      intro q
      rw [hl q]
      by_cases e : q = a
      · subst e; rw [if_pos (by simp), if_pos rfl]; simp
      · rw [if_neg (by simp; omega), if_neg e, hl1 q, hlen]
        by_cases c2 : a ≤ q ∧ q < a + n
        · rw [if_pos (by omega), if_pos c2, htl _ (by omega), show q - (a + 1) + 1 = q - a by omega]
        · rw [if_neg (by omega), if_neg c2]
    refine ⟨hw.lenL, by rw [setTo_length, h.lenF], hw.clean, hw.right, hw.word, fun q => ?_, fun q q1 q2 hq => ?_⟩
    · rw [setTo_ff hfit, hl' q]
      by_cases e : q = a
      · subst e
        rw [if_pos rfl]
        constructor
        · rintro ⟨h1, _⟩; exact absurd ⟨Nat.le_refl _, by omega⟩ h1
        · rintro ⟨_, _, h3⟩; cases h3
      · rw [if_neg e]
        by_cases c2 : a ≤ q ∧ q < a + n
        · rw [if_pos c2]
          constructor
          · rintro ⟨h1, _⟩; exact absurd c2 h1
          · rintro ⟨_, _, h3⟩; cases h3
        · rw [if_neg c2, ← h.free q]
          exact ⟨fun h => h.2, fun h => ⟨c2, h⟩⟩
    · dsimp only at hq ⊢
      rw [hl' q] at hq ⊢
      by_cases e : q = a
      · subst e
        rw [if_pos rfl] at hq ⊢
        dsimp only
        refine ⟨by omega, fun i i1 i2 => ?_⟩
        rw [hl' (q + i), if_neg (by omega), if_pos (by omega), show q + i - q = i by omega]
      · rw [if_neg e] at hq ⊢
        by_cases c2 : a ≤ q ∧ q < a + n
        · rw [if_pos c2] at hq; cases hq
        · rw [if_neg c2] at hq ⊢
          obtain ⟨g1, g2⟩ := h.large q q1 q2 hq
          refine ⟨g1, fun i i1 i2 => ?_⟩
          have hnf := BmOk.part (h := h) q1 q2 hq i1 i2
          have hno : ¬ (a ≤ q + i ∧ q + i < a + n) := fun c => by rw [hfr _ c.1 c.2] at hnf; cases hnf
          rw [hl' (q + i), if_neg (by omega), if_neg hno]
          exact g2 i i1 i2
  · exact .inl hd

end Go.Proofs.YtfedgcdkagngnaaGreat

/- Plain: what Small, Large, Release do to a manager whose device lives. -/
namespace Go.Proofs.YtfedgcdkagngnaaGreat
set_option linter.unusedVariables false

theorem putTo_live {S : Dev} (h : S.live) (L : List Hd) (b : Nat) (l : List Hd) : ∀ i, (putTo S L b l i).dev.live
  | 0 => h
  | i + 1 => by
    have hst : putTo S L b l (i + 1) = putStep (putTo S L b l i) (b + i) (l.getD i default) := rfl
    rw [hst]
    unfold putStep
    split
    · exact putTo_live h L b l i
    · exact (putTo_live h L b l i).store _ _
theorem putAll_live {S : Dev} (h : S.live) (hS : S.inv) {L : List Hd} {k : Nat} {l : List Hd} (hk1 : 1 ≤ k) (hkB : k + l.length ≤ L.length) (hr : allRight l l.length) (hf : 256 + L.length ≤ S.cache.length) :
    (putAll S L (k : Int) l).err = 0 ∧ (putAll S L (k : Int) l).dev.live := by
  have hl : (putAll S L (k : Int) l).dev.live := by
    rw [putAll_in S hk1 hkB hr]
    by_cases hl : l.length = 0
    · rw [if_pos hl]; exact h
    · rw [if_neg hl]
      unfold putIn
      by_cases c : (putTo S L k l l.length).err ≠ 0
      · rw [if_pos c]; exact putTo_live h L k l _
      · rw [if_neg c]
        have e : (256 : Int) + (k : Int) = ((256 + k : Nat) : Int) := by omega
        rw [e]
        exact (putTo_live h L k l _).persist_live _ _ (by omega) (putTo_inv hS L k l _).wf.lenD (by rw [putTo_clen]; omega)
  refine ⟨?_, hl⟩
  rcases putAll_dead hS hk1 hkB hr hf with h1 | h1
  · exact h1
  · rw [hl.1] at h1; cases h1

/-- Words that are no headers are as they were. -/
structure Far (B : Nat) (S T : Dev) : Prop where
  len : T.cache.length = S.cache.length
  word : ∀ j, ¬ (256 < j ∧ j < 256 + B) → T.cache.getD j 0 = S.cache.getD j 0
theorem Far.refl (B : Nat) (S : Dev) : Far B S S := ⟨rfl, fun _ _ => rfl⟩
theorem Far.trans {B : Nat} {S T U : Dev} (h : Far B S T) (k : Far B T U) : Far B S U := ⟨k.len.trans h.len, fun j hj => (k.word j hj).trans (h.word j hj)⟩

theorem put_far {S : Dev} {B : Nat} (h : Clean S B) {L : List Hd} (hL : L.length = B) {b : Int} {l : List Hd} (he : (putAll S L b l).err = 0) : Far B S (putAll S L b l).dev := by
  refine ⟨putAll_clen h.inv _ _ _, ?_⟩
  unfold putAll at he ⊢
  by_cases c1 : b < 1 ∨ (L.length : Int) < b ∨ (L.length : Int) - b < (l.length : Int) ∨ ¬ allRight l l.length
  · rw [if_pos c1] at he; simp at he
  rw [if_neg c1] at he ⊢
  obtain ⟨k, rfl⟩ := Int.eq_ofNat_of_zero_le (show 0 ≤ b by omega)
  by_cases c2 : l.length = 0
  · rw [if_pos c2]; exact fun _ _ => rfl
  rw [if_neg c2] at he ⊢
  rw [show ((k : Nat) : Int).toNat = k from rfl] at he ⊢
  unfold putIn at he ⊢
  by_cases c3 : (putTo S L k l l.length).err ≠ 0
  · rw [if_pos c3] at he; exact absurd he c3
  rw [if_neg c3] at he ⊢
  have t := putTo_at h.inv L k l l.length (by simpa using c3)
  generalize (putTo S L k l l.length).dev = T at *
  dsimp only at he ⊢
  rw [show (256 + (k : Int)) = ((256 + k : Nat) : Int) by omega] at he ⊢
  obtain ⟨q1, _⟩ := Dev.persist_clean t.inv (256 + k) l.length (by omega) he
  intro j hj
  rw [q1, t.cache, if_neg (by omega)]

variable {B : Nat} {m : Bm}
theorem live_alive {S : Dev} (h : S.live) (hd : S.dead = true) : False := by rw [h.1] at hd; cases hd

/-- A block of small objects is taken. -/
theorem small_live (h : BmOk B m) (hv : m.dev.live) (k : Nat) (hk : k < 32) :
    (m.small (k : Int) = ⟨m, 0, 4⟩ ∧ pick 1 (runsOf m.free) = none) ∨
    ∃ b : Nat, (m.small (k : Int)).b = (b : Int) ∧ (m.small (k : Int)).err = 0 ∧ 1 ≤ b ∧ b < B ∧ fb m.free b = true ∧ BmOk B (m.small (k : Int)).bm ∧ (m.small (k : Int)).bm.dev.live ∧ Far B m.dev (m.small (k : Int)).bm.dev ∧
      (∀ q, (m.small (k : Int)).bm.list.getD q default = if q = b then ⟨1, k, 0⟩ else m.list.getD q default) ∧ (m.small (k : Int)).bm.free = setTo m.free b false 1 ∧ pick 1 (runsOf m.free) ≠ none := by
  have hr : hdRight 1 (k : Int) 0 = true := decide_eq_true (.inr (.inl ⟨rfl, ⟨by omega, by omega⟩, rfl⟩))
  have hd := (small_done h (k : Int)).2
  unfold Bm.small at hd ⊢
  rw [if_neg (by rw [hr]; simp)] at hd ⊢
  cases hp : pick 1 (runsOf m.free) with
  | none =>
    have ht := takeR_none (l := m.free) (m := 1) (Nat.le_refl _) hp
    rw [show ((1 : Nat) : Int) = 1 from rfl] at ht
    rw [ht] at hd ⊢
    exact .inl ⟨rfl, rfl⟩
  | some x =>
    right
    have ht := takeR_some (l := m.free) (m := 1) (Nat.le_refl _) hp
    rw [show ((1 : Nat) : Int) = 1 from rfl] at ht
    rw [ht] at hd ⊢
    rw [if_neg (by simp)] at hd ⊢
    dsimp only at hd ⊢
    obtain ⟨hrun, hc⟩ := pick_run hp
    obtain ⟨a, c⟩ := x
    dsimp only at *
    have hfa := run_free hrun hc a (Nat.le_refl _) (by omega)
    obtain ⟨a1, a2, a3⟩ := (h.free a).1 hfa
    have hone : allRight [(⟨1, k, 0⟩ : Hd)] [(⟨1, k, 0⟩ : Hd)].length := allRight_one hr
    obtain ⟨he, hl⟩ := putAll_live hv h.clean.inv (L := m.list) (k := a) (l := [⟨1, k, 0⟩]) a1 (by rw [h.lenL]; simp; omega) hone (by rw [h.lenL]; exact h.clean.fits)
    obtain ⟨_, hls⟩ := h.w.put (k := a) (l := [⟨1, k, 0⟩]) a1 (by simp; omega) hone he
    refine ⟨a, by rw [if_pos he], he, a1, a2, hfa, hd.resolve_left (fun hd => live_alive hl hd), hl, put_far h.clean h.lenL he, fun q => ?_, rfl, by simp⟩
    rw [hls q]
    by_cases e : q = a
    · subst e; rw [if_pos (by simp), if_pos rfl]; simp
    · rw [if_neg (by simp; omega), if_neg e]

/-- Blocks of a large object are taken. -/
theorem large_live (h : BmOk B m) (hv : m.dev.live) (n : Nat) (h1 : 1 ≤ n) (h2 : n < 256) :
    (m.large (n : Int) = ⟨m, 0, 4⟩ ∧ pick n (runsOf m.free) = none) ∨
    ∃ b : Nat, (m.large (n : Int)).b = (b : Int) ∧ (m.large (n : Int)).err = 0 ∧ 1 ≤ b ∧ b + n ≤ B ∧ (∀ q, b ≤ q → q < b + n → fb m.free q = true) ∧ BmOk B (m.large (n : Int)).bm ∧ (m.large (n : Int)).bm.dev.live ∧ Far B m.dev (m.large (n : Int)).bm.dev ∧
      (∀ q, (m.large (n : Int)).bm.list.getD q default = if q = b then ⟨2, 0, n⟩ else if b ≤ q ∧ q < b + n then ⟨3, 0, ((q - b : Nat) : Int)⟩ else m.list.getD q default) ∧ (m.large (n : Int)).bm.free = setTo m.free b false n ∧ pick n (runsOf m.free) ≠ none := by
  have hd := (large_done h (n : Int)).2
  unfold Bm.large at hd ⊢
  rw [if_neg (by omega)] at hd ⊢
  rw [show ((n : Int)).toNat = n from rfl] at hd ⊢
  cases hp : pick n (runsOf m.free) with
  | none =>
    have ht := takeR_none (l := m.free) (m := n) h1 hp
    rw [ht] at hd ⊢
    exact .inl ⟨rfl, rfl⟩
  | some x =>
    right
    have ht := takeR_some (l := m.free) (m := n) h1 hp
    rw [ht] at hd ⊢
    rw [if_neg (by simp)] at hd ⊢
    dsimp only at hd ⊢
    obtain ⟨hrun, hc⟩ := pick_run hp
    have hrl := runEnds hrun
    obtain ⟨a, c⟩ := x
    dsimp only at *
    have hfr := run_free hrun hc
    have a1 := ((h.free a).1 (hfr a (Nat.le_refl _) (by omega))).1
    have haB : a + n ≤ B := by rw [← h.lenF]; omega
    obtain ⟨hlen, htl⟩ := run_tail n
    have hr1 : allRight ((hdRun n n).drop 1) ((hdRun n n).drop 1).length := by
      intro i hi
      rw [hlen] at hi
      rw [htl i hi]
      exact decide_eq_true (.inr (.inr ⟨.inr rfl, rfl, by dsimp only; omega⟩))
    have e1 : (a : Int) + 1 = ((a + 1 : Nat) : Int) := by omega
    obtain ⟨he1, hl1⟩ := putAll_live hv h.clean.inv (L := m.list) (k := a + 1) (l := (hdRun n n).drop 1) (by omega) (by rw [h.lenL, hlen]; omega) hr1 (by rw [h.lenL]; exact h.clean.fits)
    obtain ⟨hw1, hls1⟩ := h.w.put (k := a + 1) (l := (hdRun n n).drop 1) (by omega) (by rw [hlen]; omega) hr1 he1
    have hf1 := put_far h.clean h.lenL he1
    rw [← e1] at he1 hl1 hw1 hls1 hf1
    generalize putAll m.dev m.list ((a : Int) + 1) ((hdRun n n).drop 1) = r1 at *
    rw [if_neg (by rw [he1]; simp)] at hd ⊢
    dsimp only at hd ⊢
    have hone : allRight [(⟨2, 0, (n : Int)⟩ : Hd)] [(⟨2, 0, (n : Int)⟩ : Hd)].length := allRight_one (decide_eq_true (.inr (.inr ⟨.inl rfl, rfl, by dsimp only; omega⟩)))
    obtain ⟨he, hl⟩ := putAll_live hl1 hw1.clean.inv (L := r1.list) (k := a) (l := [⟨2, 0, (n : Int)⟩]) a1 (by rw [hw1.lenL]; simp; omega) hone (by rw [hw1.lenL]; exact hw1.clean.fits)
    obtain ⟨_, hls⟩ := hw1.put (k := a) (l := [⟨2, 0, (n : Int)⟩]) a1 (by simp; omega) hone he
    refine ⟨a, by rw [if_pos he], he, a1, haB, hfr, hd.resolve_left (fun hd => live_alive hl hd), hl, hf1.trans (put_far hw1.clean hw1.lenL he), fun q => ?_, rfl, by simp⟩
    rw [hls q]
    by_cases e : q = a
    · subst e; rw [if_pos (by simp), if_pos rfl]; simp
    · rw [if_neg (by simp; omega), if_neg e, hls1 q, hlen]
      by_cases c2 : a ≤ q ∧ q < a + n
      · rw [if_pos (by omega), if_pos c2, htl _ (by omega), show q - (a + 1) + 1 = q - a by omega]
      · rw [if_neg (by omega), if_neg c2]

end Go.Proofs.YtfedgcdkagngnaaGreat
