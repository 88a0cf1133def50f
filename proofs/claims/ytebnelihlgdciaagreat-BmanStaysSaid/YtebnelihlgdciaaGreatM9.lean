/- Parts of the proof, one behind the other: Yh, Yi, Yj, Yk, Yl, Ym, Ua, Dl, Ub. -/
import Derived.Test.YtebnelihlgdciaaGreatM8
import Derived.Deep.QuietTactic
import Derived.BigQuiet

/- The reference's manager by value; ref12: put, Run. -/
namespace Go.Proofs.YtebnelihlgdciaaGreat
open Go.RowKit
set_option linter.unusedVariables false

theorem RowX.set {W : World} {g e : Nat} {vs : List Value} {ex : Bool} (h : RowX W ⟨g, e, vs, ex⟩) (i : Nat) (v : Value) (hi : i < vs.length) : RowX (W.setCell ⟨g, i, none⟩ v) ⟨g, e, vs.set i v, ex⟩ := by
  obtain ⟨xs, h1, more, h2, h3⟩ := h
  dsimp only at h1 h2 h3
  refine ⟨_, heap_setCell_same W g i xs e v h1, more, ?_, h3⟩
  dsimp only
  rw [Array.toList_setIfInBounds, h2, List.set_append_left _ _ hi]

section
variable {P : Program} {w W : World} {ops : Array Oper} {rest : List Oper} {o : Oper} {a : Act} {Q : Exit → Act → World → Prop} {L : List Ent}
theorem run_storeCells_x {g off t : Nat} {ex : Bool} : ∀ (cs : List Value) (i : Nat) (w : World) (vs : List Value), RowX w ⟨g, t, vs, ex⟩ → off + i + cs.length ≤ vs.length → (∀ u ∈ cs, u.oneCell' = true) →
    ∃ w', (storeCells ⟨g, off, none⟩ cs i).run P w = .ok () w' ∧ RowX w' ⟨g, t, splice vs (off + i) cs, ex⟩ ∧ Touch [g] w w' := by
  intro cs
  induction cs with
  | nil =>
    intro i w vs hr hl h1
    refine ⟨w, by simp [storeCells], ?_, Touch.refl _ _⟩
    simpa [splice] using hr
  | cons c cs ih =>
    intro i w vs hr hl h1
    simp only [List.length_cons] at hl
    have hlt : off + i < vs.length := by omega
    have h2 := hr.set (off + i) c hlt
    obtain ⟨w', hw', hr', ht'⟩ := ih (i + 1) (w.setCell ⟨g, off + i, none⟩ c) (vs.set (off + i) c) h2 (by simp; omega) (fun u hu => h1 u (List.mem_cons_of_mem _ hu))
    refine ⟨w', ?_, ?_, (Touch.setCell _ (by simp) _).trans ht'⟩
    · have hcell : w.cell? ⟨g, off + i, none⟩ = some (vs[off + i]) := hr.row.cell (List.getElem?_eq_getElem hlt)
      have hfz : w.frozen? ⟨g, off + i, none⟩ = false := hr.row.frozen _
      simp only [storeCells, Sem.run_bind, add_none]
      rw [run_store P w _ c .plain (h1 c (by simp))]
      simp only [hcell, hfz, Result.andThen]
      exact hw'
    · have e : splice (vs.set (off + i) c) (off + (i + 1)) cs = splice vs (off + i) (c :: cs) := by
        unfold splice
        rw [show off + (i + 1) = (off + i) + 1 by omega, List.take_set, List.drop_set_of_lt (by omega), List.length_cons, show off + i + 1 + cs.length = off + i + (cs.length + 1) by omega]
        have e1 : (vs.take (off + i + 1)).set (off + i) c = vs.take (off + i) ++ [c] := by
          have hm : min (off + i) vs.length = off + i := Nat.min_eq_left (Nat.le_of_lt hlt)
          rw [List.take_succ_eq_append_getElem hlt, List.set_append_right _ _ (by simp; omega)]
          simp [hm]
        rw [e1]
        simp
      rw [← e]; exact hr'
/-- A struct is stored into a part of a box. -/
theorem wpList_store_box {ty : TypeId} {zs : Array Value} (A : Agg P ty zs) (h : Mem w W L) (k : Nat) {p x : Operand} {g e off : Nat} {vs : List Value} {ex : Bool} {cs : Array Value}
    (hgd : o.guard = none) (ho : o.op = .store ty p x) (hp : a.eval p = .pointer (some ⟨g, off, none⟩)) (hx : a.eval x = .agg cs) (hk : L[k]? = some ⟨g, e, vs, ex⟩) (hs : cs.size = zs.size) (hfit : off + cs.size ≤ vs.length) (h1 : cs.toList.all (·.oneCell') = true)
    (hK : ∀ W', Mem w W' (L.set k ⟨g, e, splice vs off cs.toList, ex⟩) → Touch [g] W W' → wpList P ops Q rest (a.put o.dst undef) W') : wpList P ops Q (o :: rest) a W := by
  refine wpList_plain hgd fun K hK' => ?_
  obtain ⟨w', hw', hr', ht'⟩ := run_storeCells_x (P := P) (off := off) cs.toList 0 W vs (h.rows _ (List.mem_of_getElem? hk)) (by simpa using hfit) (fun u hu => List.all_eq_true.1 h1 u hu)
  have hsz := A.size
  have hr2 : (storeVar ty ⟨g, off, none⟩ (.agg cs)).run P W = .ok () w' := by
    cases hq : P.info? ty with
    | none => simp [hq] at hsz
    | some inf =>
      have e : inf.size = cs.size := by simp [hq] at hsz; rw [hsz, hs]
      simp only [storeVar, Sem.run_bind, sizeOf, typeInfo]
      simp [hq, e, Value.cells, hw', Result.andThen]
  have hr3 : (Instr.storeAt ty (.pointer (some ⟨g, off, none⟩)) (.agg cs)).run P W = .ok () w' := by
    simp only [Instr.storeAt, Instr.sureAddr, Sem.run_bind, Sem.run_pure, Result.andThen]
    exact hr2
  unfold Oper.wp
  simp only [execOp, ho, hp, hx]
  simp only [Sem.run_bind, hr3, Result.andThen, Sem.run_pure]
  exact hK' _ _ (hK w' (h.upd k hk rfl ht' (by simpa using hr')) ht')
end

/-- Blocks that hold no two truths and no three numbers one behind the other. -/
def Odd (R : List Value) : Prop := (∀ i p q, R[i]? = some (.bool p) → R[i + 1]? = some (.bool q) → False) ∧ (∀ i k1 x k2 y k3 z, R[i]? = some (.int k1 x) → R[i + 1]? = some (.int k2 y) → R[i + 2]? = some (.int k3 z) → False)

theorem Cells.notBools {W : World} {a : Option Addr} {vs : List Bool} (h : Cells W a (vs.map Value.bool)) (hv : 2 ≤ vs.length) {q e : Nat} {R : List Value} (hr : RowX W ⟨q, e, R, true⟩) (hR : Odd R) : ∀ b o s, a = some ⟨b, o, s⟩ → b ≠ q := by
  rintro b o s rfl rfl
  rcases h with h | ⟨b', off, he, hc⟩
  · have := congrArg List.length h; rw [List.length_map] at this; simp only [List.length_nil] at this; omega
  · cases he
    have hx := hr.exact
    match vs, hv with
    | x :: y :: _, _ =>
      have c0 := hc 0 (.bool x) rfl
      have c1 := hc 1 (.bool y) rfl
      rw [cell_of_row _ _ _ _ _ _ hx] at c0 c1
      exact hR.1 o x y (by simpa using c0) (by simpa [Nat.add_assoc] using c1)
theorem Cells.notInts {W : World} {a : Option Addr} {vs : List Value} (h : Cells W a vs) (hv : ∃ k1 x k2 y k3 z r, vs = .int k1 x :: .int k2 y :: .int k3 z :: r) {q e : Nat} {R : List Value} (hr : RowX W ⟨q, e, R, true⟩) (hR : Odd R) : ∀ b o s, a = some ⟨b, o, s⟩ → b ≠ q := by
  rintro b o s rfl rfl
  obtain ⟨k1, x, k2, y, k3, z, r, rfl⟩ := hv
  rcases h with h | ⟨b', off, he, hc⟩
  · cases h
  · cases he
    have hx := hr.exact
    have c0 := hc 0 _ rfl
    have c1 := hc 1 _ rfl
    have c2 := hc 2 _ rfl
    rw [cell_of_row _ _ _ _ _ _ hx] at c0 c1 c2
    exact hR.2 o k1 x k2 y k3 z (by simpa using c0) (by simpa [Nat.add_assoc] using c1) (by simpa [Nat.add_assoc] using c2)

theorem nats3 {l : List Nat} (h : 3 ≤ l.length) : ∃ k1 x k2 y k3 z r, l.map vu64 = .int k1 x :: .int k2 y :: .int k3 z :: r := by
  match l, h with
  | a :: b :: c :: r, _ => exact ⟨_, _, _, _, _, _, _, rfl⟩
theorem hds3 {l : List Hd} (h : 1 ≤ l.length) : ∃ k1 x k2 y k3 z r, hdCs l = .int k1 x :: .int k2 y :: .int k3 z :: r := by
  match l, h with
  | a :: r, _ => exact ⟨_, _, _, _, _, _, hdCs r, rfl⟩

/-- A manager by value: its cells. -/
def mgA (D : Array Value) (x y : Value) : Array Value := (D.toList ++ [x, y]).toArray
def mgL (D : Array Value) (x y : Value) : List Value := D.toList ++ [x, y]
theorem mgA_list (D : Array Value) (x y : Value) : (mgA D x y).toList = mgL D x y := rfl
section
variable {D : Array Value} (hD : D.size = 8) (x y : Value)
include hD
theorem mgA_size : (mgA D x y).size = 10 := by simp [mgA, hD]
theorem mgL_len : (mgL D x y).length = 10 := by simp [mgL, hD]
theorem mgL_8 : (mgL D x y)[8]? = some x := by unfold mgL; rw [List.getElem?_append_right (by simp [hD])]; simp [hD]
theorem mgL_9 : (mgL D x y)[9]? = some y := by unfold mgL; rw [List.getElem?_append_right (by simp [hD])]; simp [hD]
theorem mgL_set8 (v : Value) : (mgL D x y).set 8 v = mgL D v y := by unfold mgL; rw [List.set_append_right _ _ (by simp [hD])]; simp [hD]
theorem mgL_set9 (v : Value) : (mgL D x y).set 9 v = mgL D x v := by unfold mgL; rw [List.set_append_right _ _ (by simp [hD])]; simp [hD]
theorem mgL_dev {E : Array Value} (hE : E.size = 8) : splice (mgL D x y) 0 E.toList = mgL E x y := by
  unfold splice mgL
  have : (0 + E.toList.length) = D.toList.length := by simp [hD, hE]
  rw [this, List.drop_left]; simp
theorem mgL_all {E : Array Value} (hE : E.size = 8) (x' y' : Value) : splice (mgL D x y) 0 (mgA E x' y').toList = mgL E x' y' := by
  rw [mgA_list]
  unfold splice
  rw [show 0 + (mgL E x' y').length = (mgL D x y).length by rw [mgL_len hD, mgL_len hE], List.drop_length]; simp
end
theorem mgL_D {D : Array Value} (x y : Value) (i : Nat) (v : Value) (h : D.toList[i]? = some v) : (mgL D x y)[i]? = some v := by
  unfold mgL
  rw [List.getElem?_append_left (List.getElem?_eq_some_iff.1 h).1]; exact h
theorem mgA_one {D : Array Value} {x y : Value} (hD : D.toList.all (·.oneCell') = true) (hx : x.oneCell' = true) (hy : y.oneCell' = true) : (mgA D x y).toList.all (·.oneCell') = true := by
  rw [mgA_list]; unfold mgL; rw [List.all_append, hD]; simp [hx, hy]

structure MgAt (w : World) (D : Array Value) (aL aF : Option Addr) (m B : Nat) (b : Bm) : Prop where
  dev : RAt w (.agg D) m b.dev.ref
  list : Cells w aL (hdCs b.list)
  free : Cells w aF (b.free.map Value.bool)
  lenL : b.list.length = B
  lenF : b.free.length = B
def mgV (D : Array Value) (aL : Option Addr) (cL : Nat) (aF : Option Addr) (cF B : Nat) : Value := .agg (mgA D (.slice aL B cL) (.slice aF B cF))

theorem MgAt.below {w w' : World} {D : Array Value} {aL aF : Option Addr} {m B : Nat} {b : Bm} (h : MgAt w D aL aF m B b) (hb : Below w.heap.size w w') : MgAt w' D aL aF m B b :=
  ⟨h.dev.below hb (Nat.le_refl _), h.list.below hb (Nat.le_refl _), h.free.below hb (Nat.le_refl _), h.lenL, h.lenF⟩

theorem RAt.odd {w : World} {D : Array Value} {m : Nat} {R : RDev} (h : RAt w (.agg D) m R) : Odd D.toList ∧ ∀ a c n a' c' n', Odd (mgL D (.slice a n c) (.slice a' n' c')) := by
  obtain ⟨an, cn, al, cl, aw, cw, ad, cd, ap, cp, he, _⟩ := h.ex
  cases he
  have key : ∀ (R : List Value), (∀ i, R[i]? = ([.slice an m cn, .slice al m cl, .slice aw m cw, .slice ad m cd, .slice ap m cp, .int .i64 0, .int .i64 0, .bool true] : List Value)[i]? ∨ (i = 5 ∨ i = 6 ∨ i = 7) ∨ (8 ≤ i ∧ ∀ v, R[i]? = some v → ∃ a n c, v = .slice a n c)) → (∀ v, R[7]? = some v → ∃ b, v = .bool b) → (∀ v, R[5]? = some v → ∃ k b, v = .int k b) → (∀ v, R[6]? = some v → ∃ k b, v = .int k b) → Odd R := by
    intro R hR h7 h5 h6
    have hb : ∀ i p, R[i]? = some (.bool p) → i = 7 := by
      intro i p hi
      rcases hR i with h | (h | h | h) | ⟨h1, h2⟩
      · rw [h] at hi
        rcases i with _ | _ | _ | _ | _ | _ | _ | _ | i <;> simp at hi ⊢
      · subst h; obtain ⟨k, b, e⟩ := h5 _ hi; cases e
      · subst h; obtain ⟨k, b, e⟩ := h6 _ hi; cases e
      · exact h
      · obtain ⟨a, n, c, e⟩ := h2 _ hi; cases e
    have hi' : ∀ i k x, R[i]? = some (.int k x) → i = 5 ∨ i = 6 := by
      intro i k x hi
      rcases hR i with h | (h | h | h) | ⟨h1, h2⟩
      · rw [h] at hi
        rcases i with _ | _ | _ | _ | _ | _ | _ | _ | i <;> simp at hi ⊢
      · exact .inl h
      · exact .inr h
      · subst h; obtain ⟨b, e⟩ := h7 _ hi; cases e
      · obtain ⟨a, n, c, e⟩ := h2 _ hi; cases e
    refine ⟨fun i p q h1 h2 => ?_, fun i k1 x k2 y k3 z h1 h2 h3 => ?_⟩
    · have := hb i p h1; have := hb (i + 1) q h2; omega
    · have := hi' i _ _ h1; have := hi' (i + 2) _ _ h3; omega
  constructor
  · refine key _ (fun i => ?_) (fun v hv => by simp at hv; exact ⟨_, hv.symm⟩) (fun v hv => by simp at hv; exact ⟨_, _, hv.symm⟩) (fun v hv => by simp at hv; exact ⟨_, _, hv.symm⟩)
    rcases i with _ | _ | _ | _ | _ | _ | _ | _ | i
    · exact .inl rfl
    · exact .inl rfl
    · exact .inl rfl
    · exact .inl rfl
    · exact .inl rfl
    · exact .inr (.inl (.inl rfl))
    · exact .inr (.inl (.inr (.inl rfl)))
    · exact .inr (.inl (.inr (.inr rfl)))
    · exact .inl rfl
  · intro a c n a' c' n'
    refine key _ (fun i => ?_) (fun v hv => by simp [mgL] at hv; exact ⟨_, hv.symm⟩) (fun v hv => by simp [mgL] at hv; exact ⟨_, _, hv.symm⟩) (fun v hv => by simp [mgL] at hv; exact ⟨_, _, hv.symm⟩)
    rcases i with _ | _ | _ | _ | _ | _ | _ | _ | _ | _ | i
    · exact .inl rfl
    · exact .inl rfl
    · exact .inl rfl
    · exact .inl rfl
    · exact .inl rfl
    · exact .inr (.inl (.inl rfl))
    · exact .inr (.inl (.inr (.inl rfl)))
    · exact .inr (.inl (.inr (.inr rfl)))
    · exact .inr (.inr ⟨by omega, fun v hv => by simp [mgL] at hv; exact ⟨_, _, _, hv.symm⟩⟩)
    · exact .inr (.inr ⟨by omega, fun v hv => by simp [mgL] at hv; exact ⟨_, _, _, hv.symm⟩⟩)
    · exact .inl (by simp [mgL])

theorem RAt.first {w : World} {D : Array Value} {m : Nat} {R : RDev} (h : RAt w (.agg D) m R) (x y : Value) : (∃ v, v = (mgL D x y).getD 0 undef ∧ ∃ a n c, v = .slice a n c) ∧ (mgL D x y)[0]? = some ((mgL D x y).getD 0 undef) := by
  obtain ⟨an, cn, al, cl, aw, cw, ad, cd, ap, cp, he, _⟩ := h.ex
  cases he
  exact ⟨⟨_, rfl, _, _, _, rfl⟩, rfl⟩
/-- What a manager refers to lies in no such block. -/
theorem RAt.not {W : World} {D : Array Value} {m : Nat} {R : RDev} (h : RAt W (.agg D) m R) (hm : 2 ≤ m) {q e : Nat} {Rw : List Value} (hr : RowX W ⟨q, e, Rw, true⟩) (hR : Odd Rw) : ∀ k, RIn (.agg D) k → k ≠ q := by
  obtain ⟨an, cn, al, cl, aw, cw, ad, cd, ap, cp, he, h1, h2, h3, h4, h5⟩ := h.ex
  cases he
  intro k hk
  rw [rin8] at hk
  obtain ⟨a, ha, x, rfl, rfl⟩ := hk
  simp only [List.mem_cons, List.not_mem_nil, or_false] at ha
  have n3 : ∀ l : List Nat, l.length = 8 * m → ∃ k1 x k2 y k3 z r, l.map vu64 = .int k1 x :: .int k2 y :: .int k3 z :: r := fun l hl => nats3 (by omega)
  obtain ⟨xb, xo, xs⟩ := x
  rcases ha with rfl | rfl | rfl | rfl | rfl
  · exact h1.notInts (n3 _ h.lenN) hr hR xb xo xs rfl
  · exact h2.notInts (n3 _ h.lenL) hr hR xb xo xs rfl
  · exact h3.notInts (n3 _ h.lenW) hr hR xb xo xs rfl
  · exact h4.notBools (by rw [h.lenD]; exact hm) hr hR xb xo xs rfl
  · exact h5.notBools (by rw [h.lenP]; exact hm) hr hR xb xo xs rfl
/-- A box is written: the manager stays. -/
theorem MgAt.touch {W W' : World} {D : Array Value} {aL aF : Option Addr} {m B : Nat} {b : Bm} (h : MgAt W D aL aF m B b) (hm : 2 ≤ m) (hB : 2 ≤ B) {q e : Nat} {Rw : List Value} (hr : RowX W ⟨q, e, Rw, true⟩) (hR : Odd Rw) (ht : Touch [q] W W') : MgAt W' D aL aF m B b :=
  ⟨h.dev.touch ht (.inr (fun k hk => by simp; exact h.dev.not hm hr hR k hk)), h.list.touched ht (fun b' o s e _ => h.list.notInts (hds3 (by rw [h.lenL]; omega)) hr hR b' o s e),
    h.free.touched ht (fun b' o s e _ => h.free.notBools (by rw [h.lenF]; exact hB) hr hR b' o s e), h.lenL, h.lenF⟩
theorem RAt.touchBox {W W' : World} {D : Array Value} {m : Nat} {R : RDev} (h : RAt W (.agg D) m R) (hm : 2 ≤ m) {q e : Nat} {Rw : List Value} (hr : RowX W ⟨q, e, Rw, true⟩) (hR : Odd Rw) (ht : Touch [q] W W') : RAt W' (.agg D) m R :=
  h.touch ht (.inr (fun k hk => by simp; exact h.not hm hr hR k hk))

/-- A block that a manager refers to. -/
def MgIn (D : Array Value) (aL aF : Option Addr) (k : Nat) : Prop := RIn (.agg D) k ∨ (∃ o s, aL = some ⟨k, o, s⟩) ∨ ∃ o s, aF = some ⟨k, o, s⟩
/-- A manager refers to no other old blocks than an earlier one. -/
def MgNew (N : Nat) (D : Array Value) (aL aF : Option Addr) (D' : Array Value) (aL' aF' : Option Addr) : Prop := ∀ k, MgIn D' aL' aF' k → MgIn D aL aF k ∨ N ≤ k
theorem MgNew.refl (N : Nat) (D : Array Value) (aL aF : Option Addr) : MgNew N D aL aF D aL aF := fun _ h => .inl h
theorem MgNew.trans {N M : Nat} {D D1 D2 : Array Value} {aL aF aL1 aF1 aL2 aF2 : Option Addr} (h1 : MgNew N D aL aF D1 aL1 aF1) (h2 : MgNew M D1 aL1 aF1 D2 aL2 aF2) (hN : N ≤ M) : MgNew N D aL aF D2 aL2 aF2 := fun k hk => by
  rcases h2 k hk with h | h
  · exact h1 k h
  · exact .inr (Nat.le_trans hN h)
theorem MgNew.mono {N M : Nat} {D D1 : Array Value} {aL aF aL1 aF1 : Option Addr} (h : MgNew M D aL aF D1 aL1 aF1) (hN : N ≤ M) : MgNew N D aL aF D1 aL1 aF1 := fun k hk => (h k hk).imp id (Nat.le_trans hN)
theorem MgNew.free {N : Nat} {D : Array Value} {aL aF aF' : Option Addr} (h : aF' = aF ∨ ∀ b o s, aF' = some ⟨b, o, s⟩ → N ≤ b) : MgNew N D aL aF D aL aF' := fun k hk => by
  rcases hk with hk | hk | ⟨o, s, hk⟩
  · exact .inl (.inl hk)
  · exact .inl (.inr (.inl hk))
  · rcases h with h | h
    · exact .inl (.inr (.inr ⟨o, s, h ▸ hk⟩))
    · exact .inr (h k o s hk)
theorem MgNew.put {N : Nat} {D D' : Array Value} {aL aL' aF : Option Addr} (h1 : ∀ k, RIn (.agg D') k → RIn (.agg D) k ∨ N ≤ k) (h2 : aL' = aL ∨ ∃ g, aL' = some ⟨g, 0, none⟩ ∧ N ≤ g) : MgNew N D aL aF D' aL' aF := fun k hk => by
  rcases hk with hk | ⟨o, s, hk⟩ | hk
  · exact (h1 k hk).imp .inl id
  · rcases h2 with h | ⟨g, h, hg⟩
    · exact .inl (.inr (.inl ⟨o, s, h ▸ hk⟩))
    · rw [h] at hk; cases hk; exact .inr hg
  · exact .inl (.inr (.inr hk))

def zeroM : Array Value := #[.slice none 0 0, .slice none 0 0, .slice none 0 0, .slice none 0 0, .slice none 0 0, .int .i64 0, .int .i64 0, .bool false, .slice none 0 0, .slice none 0 0]
theorem zeroM_mg : zeroM.toList = mgL zeroD (.slice none 0 0) (.slice none 0 0) := rfl
theorem aggMg : Agg Tryz.prog 35 zeroM := ⟨⟨_, Tryz.underlying35, rfl⟩, by kernel_rfl⟩
theorem odd_zeroD : Odd zeroD.toList := by
  refine ⟨fun i p q h1 h2 => ?_, fun i k1 x k2 y k3 z h1 h2 h3 => ?_⟩
  · rcases i with _ | _ | _ | _ | _ | _ | _ | i <;> simp [zeroD] at h1 h2
  · rcases i with _ | _ | _ | _ | _ | _ | _ | i <;> simp [zeroD] at h1 h2 h3
theorem odd_zeroM : Odd zeroM.toList := by
  refine ⟨fun i p q h1 h2 => ?_, fun i k1 x k2 y k3 z h1 h2 h3 => ?_⟩
  · rcases i with _ | _ | _ | _ | _ | _ | _ | _ | _ | i <;> simp [zeroM] at h1 h2
  · rcases i with _ | _ | _ | _ | _ | _ | _ | _ | i <;> simp [zeroM] at h1 h2 h3

end Go.Proofs.YtebnelihlgdciaaGreat

/- ref12: put, Run. -/
namespace Go.Proofs.YtebnelihlgdciaaGreat
open Go.RowKit
set_option linter.unusedVariables false

/-- What the reference's calls leave. -/
def MDone (w : World) (D0 : Array Value) (aL0 aF0 : Option Addr) (m B : Nat) (b : Bm) (err : Int) : Ending → World → Prop := fun e w' => ∃ D aL cL aF cF, e = .returned (.tuple #[mgV D aL cL aF cF B, .int .i64 err]) ∧ MgAt w' D aL aF m B b ∧ MgNew w.heap.size D0 aL0 aF0 D aL aF ∧ Below w.heap.size w w'
theorem infoM (cs : Array Value) (h : cs.size = 10) : (Tryz.prog.info? 35).map (·.size) = some cs.size := by
  rw [h]; kernel_rfl
theorem agg_eq {a b : Array Value} (h : a = b) : Value.agg a = Value.agg b := by rw [h]

set_option maxHeartbeats 4000000 in
set_option maxRecDepth 100000 in
theorem rput12_any {w : World} {D : Array Value} {aL aF : Option Addr} {m B : Nat} {b : Bm} (h : MgAt w D aL aF m B b) (hm : b.dev.dirty.length = m) (hm2 : 2 ≤ m) (hB2 : 2 ≤ B) (hB : B ≤ 1000) {N : Nat} (hN : N ≤ 100000000) (hf : b.dev.fit N) (cL cF : Nat)
    (a : Option Addr) (n cap : Nat) (l : List Hd) (hn : l.length = n) (hc : Cells w a (hdCs l)) (hn9 : n ≤ 2 ^ 63 - 1) (z : Int) (hz9 : -9223372036854775808 ≤ z ∧ z ≤ 9223372036854775807) :
    Calls Tryz.prog 54 #[mgV D aL cL aF cF B, .int .i64 z, .slice a n cap] w (MDone w D aL aF m B ⟨(putAll b.dev b.list z l).dev, (putAll b.dev b.list z l).list, b.free⟩ (putAll b.dev b.list z l).err) := by
  obtain ⟨hDs, hDo⟩ := h.dev.arr
  have HDs := Lib.hid hDs
  have HOd := Lib.hid h.dev.odd
  have HM := Lib.hid (Mem.two w (mgA D (.slice aL B cL) (.slice aF B cF)) 35 zeroM 35)
  have HA := Lib.hid (h.below HM.out.below)
  have HC := Lib.hid (hc.below HM.out.below (Nat.le_refl _))
  have HLn := Lib.hid h.lenL
  have HN := Lib.hid hn
  have HF := Lib.hid hf
  have HMl := Lib.hid hm
  unfold mgV
  rw [mgA_list] at HM
  generalize hr : putAll b.dev b.list z l = r at *
  generalize hP : MDone w D aL aF m B ⟨r.dev, r.list, b.free⟩ r.err = Post
  have HP := Lib.hid hP
  have HR := Lib.hid hr
  clear h hc hP hr hDs hDo hn hf hm
  go_enter Tryz.func54, Tryz.ntmps54
  go_upto_region 1 with fail
  rw [show (#[.slice none 0 0, .slice none 0 0, .slice none 0 0, .slice none 0 0, .slice none 0 0, .int .i64 0, .int .i64 0, .bool false, .slice none 0 0, .slice none 0 0] : Array Value) = zeroM from rfl]
  generalize (w.alloc _).alloc _ = w0 at *
  obtain ⟨q, hq⟩ : ∃ q, q = w.heap.size := ⟨_, rfl⟩
  rw [← hq] at HM ⊢
  have HQ := Lib.hid hq
  clear hq
  have c8 := HM.out.cell 0 8 rfl (mgL_8 HDs.out _ _)
  have HPut := Lib.hid (rput10_any HMl.out (by omega) HA.out.dev hN HF.out aL B cL b.list HLn.out hB HA.out.list a n cap l HN.out HC.out hn9 z hz9)
  rw [HR.out] at HPut
  go_wp2_with (refine wpList_load_arr aggRd D (fun i v hi => by rw [Nat.zero_add]; exact HM.out.cell 0 i rfl (mgL_D _ _ i v hi)) HDs.out rfl rfl rfl ?_)
  refine HPut.out.mono ?_
  rintro e w1 ⟨D1, aL1, cL1, rfl, hra1, hc1, hn1, hn2, hb1⟩
  have HNw : Hid (MgNew w.heap.size D aL aF D1 aL1 aF) := Lib.hid ((MgNew.put hn1 hn2).mono HM.out.below.size)
  clear hn1 hn2
  have HM1 := Lib.hid (HM.out.later hb1)
  have HLe : Hid (r.list.length = B) := Lib.hid (by rw [← HR.out, putAll_len]; exact HLn.out)
  have HA1 : Hid (MgAt w1 D1 aL1 aF m B ⟨r.dev, r.list, b.free⟩) := Lib.hid ⟨hra1, hc1, (HA.out.below hb1).free, HLe.out, HA.out.lenF⟩
  have HD1 := Lib.hid hra1.arr
  have HO1 := Lib.hid hra1.odd
  clear hra1 hc1 hb1 HM HA HPut c8
  have HM2 := Lib.hid (HM1.out.alloc zeroD 32)
  have HA2 := Lib.hid (HA1.out.below (below_alloc w1 (.cells zeroD 32)))
  clear HM1 HA1
  go_upto_region 2 with (rw [show (#[.slice none 0 0, .slice none 0 0, .slice none 0 0, .slice none 0 0, .slice none 0 0, .int .i64 0, .int .i64 0, .bool false] : Array Value) = zeroD from rfl]; refine wpList_store_mem aggRd HM2.out 2 rfl rfl rfl rfl rfl HD1.out.1 HD1.out.1.symm HD1.out.2 ?_; intro w3 h3 ht3; have HM3 := Lib.hid h3; have HT3 := Lib.hid ht3; clear h3 ht3)
  have HA3 := Lib.hid (HA2.out.touch hm2 hB2 (HM2.out.rows _ (List.mem_of_getElem? (i := 2) rfl)) odd_zeroD HT3.out)
  clear HM2 HA2 HT3
  go_upto_region 3 with (first
    | (refine wpList_load_box aggRd HM3.out 2 rfl HD1.out.1 rfl rfl rfl ?_)
    | (refine wpList_store_box aggRd HM3.out 0 rfl rfl rfl rfl rfl HD1.out.1 (by rw [mgL_len HDs.out, HD1.out.1]; decide) HD1.out.2 ?_; intro w4 h4 ht4; rw [mgL_dev HDs.out _ _ HD1.out.1] at h4; have HM4 := Lib.hid h4; have HT4 := Lib.hid ht4; have f8 := h4.frozen 0 8 rfl; have c8 := h4.cell 0 8 rfl (mgL_8 HD1.out.1 _ _); clear h4 ht4))
  have HA4 := Lib.hid (HA3.out.touch hm2 hB2 (HM3.out.rows _ (List.mem_of_getElem? (i := 0) rfl)) (HOd.out.2 _ _ _ _ _ _) HT4.out)
  have hs5 := HM4.out.set 0 8 (.slice aL1 B cL1) rfl (by rw [mgL_len HD1.out.1]; decide)
  rw [mgL_set8 HD1.out.1] at hs5
  have HM5 := Lib.hid hs5
  have HA5 := Lib.hid (HA4.out.touch hm2 hB2 (HM4.out.rows _ (List.mem_of_getElem? (i := 0) rfl)) (HO1.out.2 _ _ _ _ _ _) (Touch.setCell ⟨q, 8, none⟩ (by simp) (.slice aL1 B cL1)))
  clear hs5 HM4 HA4 HM3 HA3 HT4 f8 c8
  generalize w4.setCell _ _ = w5 at *
  go_wp2_with (first
    | (refine wpList_load_box (D := mgA D1 (.slice aL1 B cL1) (.slice aF B cF)) aggMg HM5.out 0 rfl (mgA_size HD1.out.1 _ _) rfl rfl rfl ?_)
    | (refine wpList_store_mem aggMg HM5.out 1 rfl rfl rfl rfl rfl (mgA_size HD1.out.1 _ _) (mgA_size HD1.out.1 _ _).symm (mgA_one HD1.out.2 rfl rfl) ?_; intro w9 h9 ht9; have H9 := Lib.hid h9; have HT9 := Lib.hid ht9; clear h9 ht9))
  refine bodyPost_ret (results_cell_row2 rfl _ _ _ _ _ _ _ rfl (H9.out.exact 1 rfl) Tryz.underlying35 rfl (infoM _ (mgA_size HD1.out.1 _ _))) rfl ?_
  rw [← HP.out]
  exact ⟨D1, aL1, cL1, aF, cF, rfl, HA5.out.touch hm2 hB2 (HM5.out.rows _ (List.mem_of_getElem? (i := 1) rfl)) odd_zeroM HT9.out, HNw.out, H9.out.below⟩

end Go.Proofs.YtebnelihlgdciaaGreat

/- ref12: Run, Small. -/
namespace Go.Proofs.YtebnelihlgdciaaGreat
open Go.RowKit
set_option linter.unusedVariables false

def MDone3 (w : World) (D0 : Array Value) (aL0 aF0 : Option Addr) (m B : Nat) (r : BmR) : Ending → World → Prop := fun e w' => ∃ D aL cL aF cF, e = .returned (.tuple #[mgV D aL cL aF cF B, .int .i64 r.b, .int .i64 r.err]) ∧ MgAt w' D aL aF m B r.bm ∧ MgNew w.heap.size D0 aL0 aF0 D aL aF ∧ Below w.heap.size w w'

theorem takeR_err {l : List Bool} {z : Int} (h : (takeR l z).2.2 ≠ 0) : (takeR l z).1 = l := by
  unfold takeR at h ⊢
  by_cases c : z < 1
  · rw [if_pos c]
  · rw [if_neg c] at h ⊢
    cases hp : pick z.toNat (runsOf l) with
    | none => rfl
    | some x => rw [hp] at h; exact absurd rfl h

set_option maxHeartbeats 2000000 in
set_option maxRecDepth 20000 in
theorem rrun12_any (n : Nat) (h1 : 1 ≤ n) (hn : n ≤ 1000) (w : World) : Calls Tryz.prog 55 #[.int .i64 (n : Int)] w (RunPost 113 n w) := by
  generalize hPo : RunPost 113 n w = Post
  have HPo := Lib.hid hPo
  have ho := World.ownsRow_lit (base := w.heap.size) (e := 113) (size := 3) w #[.int .i64 2, .int .i64 0, .int .i64 (n : Int)] 1 (Nat.le_refl _) (by unfold maxLen; omega) rfl
  have HO0 := Lib.hid ho
  have HB0 := Lib.hid (below_alloc w (.cells #[.int .i64 2, .int .i64 0, .int .i64 (n : Int)] 113))
  clear hPo ho
  go_enter Tryz.func55, Tryz.ntmps55
  go_wp2_with fail
  go_loopw [3, 4] (fun v i wr => ∃ b : Nat, 1 ≤ b ∧ b ≤ n ∧ i = .int .i64 (b : Int) ∧ wr.ownsRow w.heap.size 113 3 v b (hdCs (hdRun n b)) ∧ Below w.heap.size w wr) (fun _ i _ => n - (intOf i).toNat)
  case atStart => exact ⟨1, Nat.le_refl _, h1, rfl, HO0.out, HB0.out⟩
  case round =>
    obtain ⟨b, hb1, hbn, rfl, ho, hb⟩ := hrel
    obtain ⟨a1, c1, rfl, hc1, hm1⟩ := owned_form ho
    have HO1 := Lib.hid ho
    have HB := Lib.hid hb
    clear ho hb
    by_cases hlt : b < n
    · have hlt' : (b : Int) < (n : Int) := by omega
      have hL9 : b < 1000000000000 := by omega
      have hbase : Hid (w.heap.size ≤ wr.heap.size) := Lib.hid HB.out.size
      have hone : Hid (∀ u ∈ (#[Value.int .i64 3, Value.int .i64 0, Value.int .i64 (b : Int)] : Array Value).toList, u.oneCell' = true) := Lib.hid (by intro u hu; simp at hu; rcases hu with rfl | rfl | rfl <;> rfl)
      have HS : Hid (hdCs (hdRun n (b + 1)) = hdCs (hdRun n b) ++ [Value.int .i64 3, Value.int .i64 0, Value.int .i64 (b : Int)]) := Lib.hid (by rw [hdRun, if_neg (by omega), hdCs_append]; rfl)
      go_wp2_with (at_builtin; refine wpList_append_new (us := #[.int .i64 3, .int .i64 0, .int .i64 (b : Int)]) elRhd HO1.out rfl hone.out hL9 (by decide) hbase.out rfl rfl rfl (by simp [Act.eval]) ?_; intro g6 c6 w6 ho6 hg6 hc6 hm6 hb6 hl6; have HO6 := Lib.hid ho6; have HG6 := Lib.hid hg6; clear ho6 hg6)
      exact ⟨⟨b + 1, by omega, by omega, vint (by omega), by rw [HS.out]; exact HO6.out, below_grownBy HB.out HO1.out HG6.out (Nat.le_refl _) (Nat.le_refl _)⟩, by simp [intOf]; omega⟩
    · obtain rfl : b = n := by omega
      have hlt' : decide ((b : Int) < (b : Int)) = false := by simp
      go_wp2_with fail
      rw [← HPo.out]
      exact ⟨_, rfl, HO1.out, HB.out⟩

set_option maxHeartbeats 4000000 in
set_option maxRecDepth 100000 in
theorem rsmall_any {w : World} {D : Array Value} {aL aF : Option Addr} {m B : Nat} {b : Bm} (h : MgAt w D aL aF m B b) (hm : b.dev.dirty.length = m) (hm2 : 2 ≤ m) (hB2 : 2 ≤ B) (hB : B ≤ 1000) {N : Nat} (hN : N ≤ 100000000) (hf : b.dev.fit N) (cL cF : Nat) (k : Int) (hk9 : -9223372036854775808 ≤ k ∧ k ≤ 9223372036854775807) :
    Calls Tryz.prog 18 #[mgV D aL cL aF cF B, .int .i64 k] w (MDone3 w D aL aF m B (b.small k)) := by
  have HDs := Lib.hid h.dev.arr
  have HOd := Lib.hid h.dev.odd
  have HM := Lib.hid (Mem.two w (mgA D (.slice aL B cL) (.slice aF B cF)) 35 zeroM 35)
  have HA := Lib.hid (h.below HM.out.below)
  have HLn := Lib.hid h.lenL
  have HLf := Lib.hid h.lenF
  have HF := Lib.hid hf
  have HMl := Lib.hid hm
  unfold mgV
  rw [mgA_list] at HM
  generalize hr : b.small k = r at *
  generalize hP : MDone3 w D aL aF m B r = Post
  have HP := Lib.hid hP
  have HV := Lib.hid hr.symm
  unfold Bm.small at HV
  have HRt : Hid (hdRight 1 k 0 = decide (0 ≤ k ∧ k < 32)) := Lib.hid (by unfold hdRight; exact decide_eq_decide.2 ⟨fun h => by rcases h with h | h | h <;> omega, fun h => .inr (.inl ⟨rfl, h, rfl⟩)⟩)
  clear h hP hr hf hm
  go_enter Tryz.func18, Tryz.ntmps18
  go_upto_region 1 with fail
  rw [show (#[.slice none 0 0, .slice none 0 0, .slice none 0 0, .slice none 0 0, .slice none 0 0, .int .i64 0, .int .i64 0, .bool false, .slice none 0 0, .slice none 0 0] : Array Value) = zeroM from rfl]
  generalize (w.alloc _).alloc _ = w0 at *
  obtain ⟨q, hq⟩ : ∃ q, q = w.heap.size := ⟨_, rfl⟩
  rw [← hq] at HM ⊢
  have HQ := Lib.hid hq
  clear hq
  by_cases hk : k < 0 ∨ 32 ≤ k
  · have HE : Hid (r = ⟨b, 0, 1⟩) := Lib.hid (by rw [HV.out, if_pos (by rw [HRt.out]; simp; omega)])
    have hcase : k < 0 ∨ (0 ≤ k ∧ 32 ≤ k) := by omega
    clear hk
    rcases hcase with hk | ⟨hk1, hk⟩
    all_goals
      go_wp2_with (first
        | (refine wpList_load_box (D := mgA D (.slice aL B cL) (.slice aF B cF)) aggMg HM.out 0 rfl (mgA_size HDs.out.1 _ _) rfl rfl rfl ?_)
        | (refine wpList_store_mem aggMg HM.out 1 rfl rfl rfl rfl rfl (mgA_size HDs.out.1 _ _) (mgA_size HDs.out.1 _ _).symm (mgA_one HDs.out.2 rfl rfl) ?_; intro w9 h9 ht9; have H9 := Lib.hid h9; have HT9 := Lib.hid ht9; clear h9 ht9))
      refine bodyPost_ret (results_cell_first rfl _ _ _ _ _ _ _ rfl (H9.out.exact 1 rfl) Tryz.underlying35 rfl (infoM _ (mgA_size HDs.out.1 _ _))) rfl ?_
      rw [← HP.out, HE.out]
      exact ⟨D, aL, cL, aF, cF, rfl, HA.out.touch hm2 hB2 (HM.out.rows _ (List.mem_of_getElem? (i := 1) rfl)) odd_zeroM HT9.out, MgNew.refl _ _ _ _, H9.out.below⟩
  have HV2 : Hid (r = if (takeR b.free 1).2.2 ≠ 0 then ⟨⟨b.dev, b.list, (takeR b.free 1).1⟩, 0, (takeR b.free 1).2.2⟩ else
      ⟨⟨(putAll b.dev b.list (takeR b.free 1).2.1 [⟨1, k, 0⟩]).dev, (putAll b.dev b.list (takeR b.free 1).2.1 [⟨1, k, 0⟩]).list, (takeR b.free 1).1⟩, if (putAll b.dev b.list (takeR b.free 1).2.1 [⟨1, k, 0⟩]).err = 0 then (takeR b.free 1).2.1 else 0, (putAll b.dev b.list (takeR b.free 1).2.1 [⟨1, k, 0⟩]).err⟩) := Lib.hid (by rw [HV.out, if_neg (by rw [HRt.out]; simp; omega)])
  have q1 : decide (k < 0) = false := by simp; omega
  have q2 : decide (32 ≤ k) = false := by simp; omega
  have HEr := Lib.hid (takeR_err (l := b.free) (z := 1))
  have HT0 := Lib.hid (fun h => takeR_fit (l := b.free) (z := 1) (Nat.le_refl _) h)
  have c9 := HM.out.cell 0 9 rfl (mgL_9 HDs.out.1 _ _)
  clear HV HRt hk
  go_wp2_with fail
  refine (rtake_any aF B cF b.free HLf.out 1 _ HA.out.free (by omega)).mono ?_
  rintro e w1 ⟨aF1, cF1, rfl, hc1, hb1, hl1⟩
  have HN1 : Hid (MgNew w.heap.size D aL aF D aL aF1) := Lib.hid (MgNew.free (hl1.imp id (fun h b o s e => Nat.le_trans HM.out.below.size (h b o s e))))
  clear hl1
  rw [HLf.out]
  have HLf1 : Hid ((takeR b.free 1).1.length = B) := Lib.hid (by rw [takeR_len]; exact HLf.out)
  have HM1 := Lib.hid (HM.out.later hb1)
  have HA1 := Lib.hid (HA.out.below hb1)
  generalize takeR b.free 1 = t at *
  obtain ⟨f1, b1, e1⟩ := t
  dsimp only at hc1 HV2 HT0 HEr HLf1 ⊢
  have HC1 := Lib.hid hc1
  clear hc1 hb1 HM HA c9
  by_cases he : e1 = 0
  case neg =>
    have he' : (e1 != 0) = true := by simpa using he
    have hfe : f1 = b.free := HEr.out he
    subst hfe
    have HE : Hid (r = ⟨b, 0, e1⟩) := Lib.hid (by rw [HV2.out, if_pos he])
    clear he
    go_wp2_with (first
      | (refine wpList_load_box (D := mgA D (.slice aL B cL) (.slice aF B cF)) aggMg HM1.out 0 rfl (mgA_size HDs.out.1 _ _) rfl rfl rfl ?_)
      | (refine wpList_store_mem aggMg HM1.out 1 rfl rfl rfl rfl rfl (mgA_size HDs.out.1 _ _) (mgA_size HDs.out.1 _ _).symm (mgA_one HDs.out.2 rfl rfl) ?_; intro w9 h9 ht9; have H9 := Lib.hid h9; have HT9 := Lib.hid ht9; clear h9 ht9))
    refine bodyPost_ret (results_cell_first rfl _ _ _ _ _ _ _ rfl (H9.out.exact 1 rfl) Tryz.underlying35 rfl (infoM _ (mgA_size HDs.out.1 _ _))) rfl ?_
    rw [← HP.out, HE.out]
    exact ⟨D, aL, cL, aF, cF, rfl, HA1.out.touch hm2 hB2 (HM1.out.rows _ (List.mem_of_getElem? (i := 1) rfl)) odd_zeroM HT9.out, MgNew.refl _ _ _ _, H9.out.below⟩
  subst he
  obtain ⟨a1, k1, ht, _, _, hfit⟩ := HT0.out rfl
  obtain rfl : b1 = (a1 : Int) := congrArg (fun t => t.2.1) ht
  have hfit' : a1 + 1 ≤ B := by rw [← HLf.out]; exact hfit
  clear ht hfit HT0 HEr
  have HV3 : Hid (r = ⟨⟨(putAll b.dev b.list (a1 : Int) [⟨1, k, 0⟩]).dev, (putAll b.dev b.list (a1 : Int) [⟨1, k, 0⟩]).list, f1⟩, if (putAll b.dev b.list (a1 : Int) [⟨1, k, 0⟩]).err = 0 then (a1 : Int) else 0, (putAll b.dev b.list (a1 : Int) [⟨1, k, 0⟩]).err⟩) := Lib.hid (by rw [HV2.out, if_neg (by simp)])
  clear HV2
  have f9 := HM1.out.frozen 0 9 rfl
  have c9 := HM1.out.cell 0 9 rfl (mgL_9 HDs.out.1 _ _)
  have hs2 := HM1.out.set 0 9 (.slice aF1 B cF1) rfl (by rw [mgL_len HDs.out.1]; decide)
  rw [mgL_set9 HDs.out.1] at hs2
  have HM2 := Lib.hid hs2
  have HA2 : Hid (MgAt (w1.setCell ⟨q, 9, none⟩ (.slice aF1 B cF1)) D aL aF1 m B ⟨b.dev, b.list, f1⟩) := Lib.hid (MgAt.touch ⟨HA1.out.dev, HA1.out.list, HC1.out, HA1.out.lenL, HLf1.out⟩ hm2 hB2 (HM1.out.rows _ (List.mem_of_getElem? (i := 0) rfl)) (HOd.out.2 _ _ _ _ _ _) (Touch.setCell ⟨q, 9, none⟩ (by simp) (.slice aF1 B cF1)))
  go_upto_region 7 with fail
  generalize w1.setCell _ _ = w2 at *
  clear hs2 f9 c9 HM1 HA1 HC1
  have hbx := below_alloc w2 (.cells #[.int .i64 1, .int .i64 k, .int .i64 0] 113)
  have HPut := Lib.hid (rput12_any (HA2.out.below hbx) HMl.out hm2 hB2 hB hN HF.out cL cF1 (some ⟨w2.heap.size, 0, none⟩) 1 1 [⟨1, k, 0⟩] rfl (by rw [hdCs_single]; exact RowAt.cells ⟨_, heap_alloc_new _ _, [], rfl⟩) (by omega) (a1 : Int) (by omega))
  have HMx := Lib.hid (HM2.out.later hbx)
  unfold mgV at HPut
  dsimp only at HPut
  generalize putAll b.dev b.list (a1 : Int) [⟨1, k, 0⟩] = pr at *
  clear hbx HA2
  go_wp2_with (refine wpList_load_box (D := mgA D (.slice aL B cL) (.slice aF1 B cF1)) aggMg HM2.out 0 rfl (mgA_size HDs.out.1 _ _) rfl rfl rfl ?_)
  refine HPut.out.mono ?_
  rintro e w3 ⟨D3, aL3, cL3, aF3, cF3, rfl, ha3, hn3, hb3⟩
  have HN3 := Lib.hid (HN1.out.trans hn3 HMx.out.below.size)
  clear hn3
  have HM3 := Lib.hid (HMx.out.later hb3)
  have HA3 := Lib.hid ha3
  have HD3 := Lib.hid ha3.dev.arr
  have HO3 := Lib.hid ha3.dev.odd
  clear ha3 hb3 HPut HMx
  unfold mgV
  go_upto_region 8 with (refine wpList_store_box aggMg HM3.out 0 rfl rfl rfl rfl rfl (mgA_size HD3.out.1 _ _) (by rw [mgL_len HDs.out.1, mgA_size HD3.out.1]; decide) (mgA_one HD3.out.2 rfl rfl) ?_; intro w4 h4 ht4; rw [mgL_all HDs.out.1 _ _ HD3.out.1] at h4; have HM4 := Lib.hid h4; have HA4 := Lib.hid (HA3.out.touch hm2 hB2 (HM3.out.rows _ (List.mem_of_getElem? (i := 0) rfl)) (HOd.out.2 _ _ _ _ _ _) ht4); clear h4 ht4)
  clear HM3 HA3 HOd
  by_cases hz : pr.err = 0
  · have HE : Hid (r = ⟨⟨pr.dev, pr.list, f1⟩, (a1 : Int), 0⟩) := Lib.hid (by rw [HV3.out, if_pos hz, hz])
    rw [hz]
    go_wp2_with (first
      | (refine wpList_load_box (D := mgA D3 (.slice aL3 B cL3) (.slice aF3 B cF3)) aggMg HM4.out 0 rfl (mgA_size HD3.out.1 _ _) rfl rfl rfl ?_)
      | (refine wpList_store_mem aggMg HM4.out 1 rfl rfl rfl rfl rfl (mgA_size HD3.out.1 _ _) (mgA_size HD3.out.1 _ _).symm (mgA_one HD3.out.2 rfl rfl) ?_; intro w9 h9 ht9; have H9 := Lib.hid h9; have HT9 := Lib.hid ht9; clear h9 ht9))
    refine bodyPost_ret (results_cell_first rfl _ _ _ _ _ _ _ rfl (H9.out.exact 1 rfl) Tryz.underlying35 rfl (infoM _ (mgA_size HD3.out.1 _ _))) rfl ?_
    rw [← HP.out, HE.out]
    exact ⟨D3, aL3, cL3, aF3, cF3, rfl, HA4.out.touch hm2 hB2 (HM4.out.rows _ (List.mem_of_getElem? (i := 1) rfl)) odd_zeroM HT9.out, HN3.out, H9.out.below⟩
  · have HE : Hid (r = ⟨⟨pr.dev, pr.list, f1⟩, 0, pr.err⟩) := Lib.hid (by rw [HV3.out, if_neg hz])
    have hz' : (pr.err != 0) = true := by simpa using hz
    generalize pr.err = pe at *
    clear hz
    go_wp2_with (first
      | (refine wpList_load_box (D := mgA D3 (.slice aL3 B cL3) (.slice aF3 B cF3)) aggMg HM4.out 0 rfl (mgA_size HD3.out.1 _ _) rfl rfl rfl ?_)
      | (refine wpList_store_mem aggMg HM4.out 1 rfl rfl rfl rfl rfl (mgA_size HD3.out.1 _ _) (mgA_size HD3.out.1 _ _).symm (mgA_one HD3.out.2 rfl rfl) ?_; intro w9 h9 ht9; have H9 := Lib.hid h9; have HT9 := Lib.hid ht9; clear h9 ht9))
    refine bodyPost_ret (results_cell_first rfl _ _ _ _ _ _ _ rfl (H9.out.exact 1 rfl) Tryz.underlying35 rfl (infoM _ (mgA_size HD3.out.1 _ _))) rfl ?_
    rw [← HP.out, HE.out]
    exact ⟨D3, aL3, cL3, aF3, cF3, rfl, HA4.out.touch hm2 hB2 (HM4.out.rows _ (List.mem_of_getElem? (i := 1) rfl)) odd_zeroM HT9.out, HN3.out, H9.out.below⟩

end Go.Proofs.YtebnelihlgdciaaGreat

/- ref12: Large. -/
namespace Go.Proofs.YtebnelihlgdciaaGreat
open Go.RowKit
set_option linter.unusedVariables false

section
variable {P : Program} {C : World → Prop} {ops : Array Oper} {rest : List Oper} {o : Oper} {a : Act} {Q : Act → Prop}
theorem wpQuiet_slice_to {x hi : Operand} {t e : TypeId} {z : Value} {size bytes : Nat} (E : Elem P t e z size bytes) {ad : Option Addr} {n cap : Nat} {k : IntKind} {L : Int} (l : Nat)
    (hL : L = (l : Int)) (hl : l ≤ n) (hn : n ≤ cap)
    (hgd : o.guard = none) (ho : o.op = .slice t x none (some hi) none) (hx : a.eval x = .slice ad n cap) (hlo : a.eval hi = .int k L)
    (hK : wpQuiet P ops C Q rest (a.put o.dst (.slice ad l cap))) :
    wpQuiet P ops C Q (o :: rest) a := by
  subst hL
  have hw : Region.wanted o (yielded ops a.tmps) = true := by simp [Region.wanted, hgd]
  unfold wpQuiet
  rw [if_pos hw]
  refine ⟨_, fun w hC => ?_, hK⟩
  have hr := run_slice_any (w := w) E ad n cap 0 l none (some (.int k l)) (by
    have : (0 : Int) ≤ (l : Int) ∧ (l : Int) ≤ (cap : Int) := by omega
    simp [Instr.sliceBounds, Instr.sliceBound, asIntOf, hl, hn, Nat.le_trans hl hn])
  have e : (if cap = 0 then ad else ad.map (·.add (0 * size))) = ad := by
    split
    · rfl
    · cases ad <;> simp [Addr.add]
  rw [e] at hr
  unfold Oper.quietAt
  simp only [execOp, ho, hx, hlo, Option.map_some, Option.map_none]
  simp [hr, Result.andThen, Oper.quietUpon]
end

set_option maxHeartbeats 8000000 in
set_option maxRecDepth 100000 in
theorem rlarge_any {w : World} {D : Array Value} {aL aF : Option Addr} {m B : Nat} {b : Bm} (h : MgAt w D aL aF m B b) (hm : b.dev.dirty.length = m) (hm2 : 2 ≤ m) (hB2 : 2 ≤ B) (hB : B ≤ 1000) {N : Nat} (hN : N ≤ 90000000) (hf : b.dev.fit N) (cL cF : Nat) (z : Int) (hz9 : -9223372036854775808 ≤ z ∧ z ≤ 9223372036854775807) :
    Calls Tryz.prog 19 #[mgV D aL cL aF cF B, .int .i64 z] w (MDone3 w D aL aF m B (b.large z)) := by
  have HDs := Lib.hid h.dev.arr
  have HOd := Lib.hid h.dev.odd
  have HM := Lib.hid (Mem.two w (mgA D (.slice aL B cL) (.slice aF B cF)) 35 zeroM 35)
  have HA := Lib.hid (h.below HM.out.below)
  have HLn := Lib.hid h.lenL
  have HLf := Lib.hid h.lenF
  have HF := Lib.hid hf
  have HMl := Lib.hid hm
  have HFst := Lib.hid h.dev.first
  unfold mgV
  rw [mgA_list] at HM
  generalize hr : b.large z = r at *
  generalize hP : MDone3 w D aL aF m B r = Post
  have HP := Lib.hid hP
  have HV := Lib.hid hr.symm
  clear h hP hr hf hm
  go_enter Tryz.func19, Tryz.ntmps19
  go_upto_region 1 with fail
  rw [show (#[.slice none 0 0, .slice none 0 0, .slice none 0 0, .slice none 0 0, .slice none 0 0, .int .i64 0, .int .i64 0, .bool false, .slice none 0 0, .slice none 0 0] : Array Value) = zeroM from rfl]
  generalize (w.alloc _).alloc _ = w0 at *
  obtain ⟨q, hq⟩ : ∃ q, q = w.heap.size := ⟨_, rfl⟩
  rw [← hq] at HM ⊢
  have HQ := Lib.hid hq
  clear hq
  by_cases hk : z < 1 ∨ 256 ≤ z
  · have HE : Hid (r = ⟨b, 0, 1⟩) := Lib.hid (by rw [HV.out]; unfold Bm.large; rw [if_pos hk])
    have hcase : z < 1 ∨ (1 ≤ z ∧ 255 < z) := by omega
    clear hk
    rcases hcase with hk | ⟨hk1, hk⟩
    all_goals
      go_wp2_with (first
        | (refine wpList_load_box (D := mgA D (.slice aL B cL) (.slice aF B cF)) aggMg HM.out 0 rfl (mgA_size HDs.out.1 _ _) rfl rfl rfl ?_)
        | (refine wpList_store_mem aggMg HM.out 1 rfl rfl rfl rfl rfl (mgA_size HDs.out.1 _ _) (mgA_size HDs.out.1 _ _).symm (mgA_one HDs.out.2 rfl rfl) ?_; intro w9 h9 ht9; have H9 := Lib.hid h9; have HT9 := Lib.hid ht9; clear h9 ht9))
      refine bodyPost_ret (results_cell_first rfl _ _ _ _ _ _ _ rfl (H9.out.exact 1 rfl) Tryz.underlying35 rfl (infoM _ (mgA_size HDs.out.1 _ _))) rfl ?_
      rw [← HP.out, HE.out]
      exact ⟨D, aL, cL, aF, cF, rfl, HA.out.touch hm2 hB2 (HM.out.rows _ (List.mem_of_getElem? (i := 1) rfl)) odd_zeroM HT9.out, MgNew.refl _ _ _ _, H9.out.below⟩
  obtain ⟨k, rfl⟩ := Int.eq_ofNat_of_zero_le (show 0 ≤ z by omega)
  have hk1 : 1 ≤ k := by omega
  have hk2 : k < 256 := by omega
  have q1 : decide ((k : Int) < 1) = false := by simp; omega
  have q2 : decide (255 < (k : Int)) = false := by simp; omega
  have q2n : decide (255 < k) = false := by simp; omega
  have HV2 : Hid (r = if (takeR b.free k).2.2 ≠ 0 then ⟨⟨b.dev, b.list, (takeR b.free k).1⟩, 0, (takeR b.free k).2.2⟩ else
      (fun r1 : PutR => if r1.err ≠ 0 then ⟨⟨r1.dev, r1.list, (takeR b.free k).1⟩, 0, r1.err⟩ else
        (fun r2 : PutR => ⟨⟨r2.dev, r2.list, (takeR b.free k).1⟩, if r2.err = 0 then (takeR b.free k).2.1 else 0, r2.err⟩) (putAll r1.dev r1.list (takeR b.free k).2.1 [⟨2, 0, (k : Int)⟩]))
      (putAll b.dev b.list ((takeR b.free k).2.1 + 1) ((hdRun k k).drop 1))) := Lib.hid (by rw [HV.out]; unfold Bm.large; rw [if_neg hk]; rfl)
  have HEr := Lib.hid (takeR_err (l := b.free) (z := (k : Int)))
  have HT0 := Lib.hid (fun h => takeR_fit (l := b.free) hk1 h)
  have c9 := HM.out.cell 0 9 rfl (mgL_9 HDs.out.1 _ _)
  clear HV hk hz9
  go_wp2_with fail
  refine (rtake_any aF B cF b.free HLf.out k _ HA.out.free (by omega)).mono ?_
  rintro e w1 ⟨aF1, cF1, rfl, hc1, hb1, hl1⟩
  have HN1 : Hid (MgNew w.heap.size D aL aF D aL aF1) := Lib.hid (MgNew.free (hl1.imp id (fun h b o s e => Nat.le_trans HM.out.below.size (h b o s e))))
  clear hl1
  rw [HLf.out]
  have HLf1 : Hid ((takeR b.free k).1.length = B) := Lib.hid (by rw [takeR_len]; exact HLf.out)
  have HM1 := Lib.hid (HM.out.later hb1)
  have HA1 := Lib.hid (HA.out.below hb1)
  generalize takeR b.free k = t at *
  obtain ⟨f1, b1, e1⟩ := t
  dsimp only at hc1 HV2 HT0 HEr HLf1 ⊢
  have HC1 := Lib.hid hc1
  clear hc1 hb1 HM HA c9
  by_cases he : e1 = 0
  case neg =>
    have he' : (e1 != 0) = true := by simpa using he
    have hfe : f1 = b.free := HEr.out he
    subst hfe
    have HE : Hid (r = ⟨b, 0, e1⟩) := Lib.hid (by rw [HV2.out, if_pos he])
    clear he
    go_wp2_with (first
      | (refine wpList_load_box (D := mgA D (.slice aL B cL) (.slice aF B cF)) aggMg HM1.out 0 rfl (mgA_size HDs.out.1 _ _) rfl rfl rfl ?_)
      | (refine wpList_store_mem aggMg HM1.out 1 rfl rfl rfl rfl rfl (mgA_size HDs.out.1 _ _) (mgA_size HDs.out.1 _ _).symm (mgA_one HDs.out.2 rfl rfl) ?_; intro w9 h9 ht9; have H9 := Lib.hid h9; have HT9 := Lib.hid ht9; clear h9 ht9))
    refine bodyPost_ret (results_cell_first rfl _ _ _ _ _ _ _ rfl (H9.out.exact 1 rfl) Tryz.underlying35 rfl (infoM _ (mgA_size HDs.out.1 _ _))) rfl ?_
    rw [← HP.out, HE.out]
    exact ⟨D, aL, cL, aF, cF, rfl, HA1.out.touch hm2 hB2 (HM1.out.rows _ (List.mem_of_getElem? (i := 1) rfl)) odd_zeroM HT9.out, MgNew.refl _ _ _ _, H9.out.below⟩
  subst he
  obtain ⟨a1, k1, ht, _, _, hfit⟩ := HT0.out rfl
  obtain rfl : b1 = (a1 : Int) := congrArg (fun t => t.2.1) ht
  have hfit' : a1 + k ≤ B := by rw [← HLf.out]; exact hfit
  clear ht hfit HT0 HEr
  obtain ⟨r1, hr1⟩ : ∃ r1, r1 = putAll b.dev b.list ((a1 : Int) + 1) ((hdRun k k).drop 1) := ⟨_, rfl⟩
  have HR1 := Lib.hid hr1
  have HV3 : Hid (r = if r1.err ≠ 0 then ⟨⟨r1.dev, r1.list, f1⟩, 0, r1.err⟩ else
      ⟨⟨(putAll r1.dev r1.list (a1 : Int) [⟨2, 0, (k : Int)⟩]).dev, (putAll r1.dev r1.list (a1 : Int) [⟨2, 0, (k : Int)⟩]).list, f1⟩, if (putAll r1.dev r1.list (a1 : Int) [⟨2, 0, (k : Int)⟩]).err = 0 then (a1 : Int) else 0, (putAll r1.dev r1.list (a1 : Int) [⟨2, 0, (k : Int)⟩]).err⟩) := Lib.hid (by rw [HV2.out, if_neg (by simp), ← hr1])
  have HFit1 : Hid (r1.dev.fit (N + k + 200000) ∧ r1.dev.dirty.length = m) := Lib.hid (by
    rw [hr1]
    exact ⟨(putAll_fit HF.out b.list ((a1 : Int) + 1) ((hdRun k k).drop 1)).mono (by rw [List.length_drop, hdRun_len]; omega), by rw [putAll_dl]; exact HMl.out⟩)
  clear hr1 HV2
  have f9 := HM1.out.frozen 0 9 rfl
  have c9 := HM1.out.cell 0 9 rfl (mgL_9 HDs.out.1 _ _)
  have hs2 := HM1.out.set 0 9 (.slice aF1 B cF1) rfl (by rw [mgL_len HDs.out.1]; decide)
  rw [mgL_set9 HDs.out.1] at hs2
  have HM2 := Lib.hid hs2
  have HA2 : Hid (MgAt (w1.setCell ⟨q, 9, none⟩ (.slice aF1 B cF1)) D aL aF1 m B ⟨b.dev, b.list, f1⟩) := Lib.hid (MgAt.touch ⟨HA1.out.dev, HA1.out.list, HC1.out, HA1.out.lenL, HLf1.out⟩ hm2 hB2 (HM1.out.rows _ (List.mem_of_getElem? (i := 0) rfl)) (HOd.out.2 _ _ _ _ _ _) (Touch.setCell ⟨q, 9, none⟩ (by simp) (.slice aF1 B cF1)))
  go_upto_region 7 with fail
  generalize w1.setCell _ _ = w2 at *
  clear hs2 f9 c9 HM1 HA1 HC1
  go_wp2_with fail
  refine (rrun12_any k hk1 (by omega) _).mono ?_
  rintro e w3 ⟨v, rfl, ho3, hb3⟩
  have HM3 := Lib.hid (HM2.out.later hb3)
  have HA3 := Lib.hid (HA2.out.below hb3)
  obtain ⟨g, cc, rfl, hcc, _, hgb⟩ := owned_some ho3 (by omega)
  have HR3 := Lib.hid (owned_row ho3)
  clear ho3 hb3 hgb HA2 HM2
  have hw1 : IntKind.i64.wrap ((a1 : Int) + 1) = (a1 : Int) + 1 := IntWalk.i64_in _ (by omega)
  go_upto_region 8 with fail
  have hld : ∀ w', (∃ x : Later w3, w' = x.val) → ∀ i v, (mgA D (.slice aL B cL) (.slice aF1 B cF1)).toList[i]? = some v → w'.cell? ⟨q, 0 + i, none⟩ = some v := by
    rintro _ ⟨x, rfl⟩ i v hi
    rw [Nat.zero_add]
    exact later_cell (HM3.out.cell 0 i rfl hi) x
  refine wp_region_tr (C := fun w' => ∃ x : Later (w3), w' = x.val) (.fl [0, 1, 2, 3, 4] (.sq [5, 6] false (.pu [7, 8] (.sq [9, 10] false (.nil))))) (by kernel_rfl) (by kernel_rfl) (by intro c a d v w h; cases d <;> exact h) ?_
  simp only [trO, picks, List.getElem?_cons_succ, List.getElem?_cons_zero]
  have hC1 := later_drew (w3)
  refine wpTr_fl hC1 ?_
  repeat (first | (refine wpQuiet_load_arr (D := mgA D (.slice aL B cL) (.slice aF1 B cF1)) aggMg hld (mgA_size HDs.out.1 _ _) rfl rfl rfl ?_) | (refine wpQuiet_slice_from elRhd (ad := some ⟨g, 0, none⟩) (n := k) (cap := cc) 1 rfl (by omega) hcc rfl rfl rfl rfl ?_) | go_big_quiet_step (fail) | quiet_step (fail))
  refine wpQuiet_nil ?_
  clear hld
  have HCs : Hid (Cells w3.drew (if cc = 1 then some ⟨g, 0, none⟩ else (some (⟨g, 0, none⟩ : Addr)).map (·.add (1 * 3))) (hdCs ((hdRun k k).drop 1))) := Lib.hid (by
    have h1 := (Cells.below HR3.out.cells (later_below hC1) (Nat.le_refl _)).shift (1 * 3) (cc = 1) (fun h => by rw [hdCs_length, hdRun_len]; omega)
    have h2 : (hdCs (hdRun k k)).drop (1 * 3) = hdCs ((hdRun k k).drop 1) := by
      have e : hdRun k k = (hdRun k k).take 1 ++ (hdRun k k).drop 1 := (List.take_append_drop _ _).symm
      have hl : (hdCs ((hdRun k k).take 1)).length = 1 * 3 := by rw [hdCs_length, List.length_take, hdRun_len, Nat.min_eq_left (by omega)]
      conv => lhs; rw [e]
      rw [hdCs_append, ← hl, List.drop_left]
    rw [h2] at h1
    exact h1)
  generalize (if cc = 1 then some (⟨g, 0, none⟩ : Addr) else (some (⟨g, 0, none⟩ : Addr)).map (·.add (1 * 3))) = ad at *
  have HPut := Lib.hid (rput12_any (HA3.out.below (later_below hC1)) HMl.out hm2 hB2 hB (by omega) HF.out cL cF1 ad (k - 1) (cc - 1) ((hdRun k k).drop 1) (by rw [List.length_drop, hdRun_len]) HCs.out (by omega) ((a1 : Int) + 1) (by omega))
  have HM4 := Lib.hid (HM3.out.later (later_below hC1))
  have HR4 := Lib.hid (HR3.out.keep ((later_below hC1).block g HR3.out.lt))
  unfold mgV at HPut
  dsimp only at HPut
  rw [← HR1.out] at HPut
  clear HCs HM3 HA3 HR3
  refine wpTr_sq (fun K hK => ?_)
  go_wp2_with fail
  refine HPut.out.mono ?_
  rintro e w5 ⟨D3, aL3, cL3, aF3, cF3, rfl, ha5, hn5, hb5⟩
  have HN3 := Lib.hid (HN1.out.trans hn5 HM4.out.below.size)
  clear hn5
  have HM5 := Lib.hid (HM4.out.later hb5)
  have HA5 := Lib.hid ha5
  have HD3 := Lib.hid ha5.dev.arr
  have HO3 := Lib.hid ha5.dev.odd
  have HR5 := Lib.hid (HR4.out.keep (hb5.block g HR4.out.lt))
  have HGq : Hid (g ≠ q) := Lib.hid (by
    rintro rfl
    have h1 := HR4.out.cell (i := 0) (v := .int .i64 2) (by
      have := hdCs_at (hdRun k k) 0 (by rw [hdRun_len]; omega) 0 (.int .i64 2) (by rw [hdRun_getD k k 0 hk1]; rfl)
      simpa using this)
    have h2 := HM4.out.cell 0 0 rfl (HFst.out (.slice aL B cL) (.slice aF1 B cF1)).2
    rw [h1] at h2
    obtain ⟨x, hx, a9, n9, c9, hx2⟩ := (HFst.out (.slice aL B cL) (.slice aF1 B cF1)).1
    rw [← hx, hx2] at h2
    cases h2)
  clear ha5 hb5 HPut HM4 HR4 hC1
  unfold mgV
  go_wp2_with fail
  refine hK _ _ (fun h => nomatch h) ?_
  clear hK K
  refine wpTr_pu ?_
  repeat (first | go_big_quiet_step (fail) | quiet_step (fail))
  refine wpQuiet_nil ?_
  refine wpTr_last ?_
  go_upto_region 9 with (refine wpList_store_box aggMg HM5.out 0 rfl rfl rfl rfl rfl (mgA_size HD3.out.1 _ _) (by rw [mgL_len HDs.out.1, mgA_size HD3.out.1]; decide) (mgA_one HD3.out.2 rfl rfl) ?_; intro w6 h6 ht6; rw [mgL_all HDs.out.1 _ _ HD3.out.1] at h6; have HM6 := Lib.hid h6; have HA6 := Lib.hid (HA5.out.touch hm2 hB2 (HM5.out.rows _ (List.mem_of_getElem? (i := 0) rfl)) (HOd.out.2 _ _ _ _ _ _) ht6); have HR6 := Lib.hid (HR5.out.keep (ht6.block g HR5.out.lt (by simp; exact HGq.out))); clear h6 ht6)
  clear HM5 HA5 HR5
  obtain ⟨e1, he1⟩ : ∃ e1, e1 = r1.err := ⟨_, rfl⟩
  rw [← he1] at HV3 ⊢
  clear he1
  by_cases hz : e1 = 0
  case neg =>
    have hz' : (e1 != 0) = true := by simpa using hz
    have HE : Hid (r = ⟨⟨r1.dev, r1.list, f1⟩, 0, e1⟩) := Lib.hid (by rw [HV3.out, if_pos hz])
    clear hz
    go_wp2_with (first
      | (refine wpList_load_box (D := mgA D3 (.slice aL3 B cL3) (.slice aF3 B cF3)) aggMg HM6.out 0 rfl (mgA_size HD3.out.1 _ _) rfl rfl rfl ?_)
      | (refine wpList_store_mem aggMg HM6.out 1 rfl rfl rfl rfl rfl (mgA_size HD3.out.1 _ _) (mgA_size HD3.out.1 _ _).symm (mgA_one HD3.out.2 rfl rfl) ?_; intro w9 h9 ht9; have H9 := Lib.hid h9; have HT9 := Lib.hid ht9; clear h9 ht9))
    refine bodyPost_ret (results_cell_first rfl _ _ _ _ _ _ _ rfl (H9.out.exact 1 rfl) Tryz.underlying35 rfl (infoM _ (mgA_size HD3.out.1 _ _))) rfl ?_
    rw [← HP.out, HE.out]
    exact ⟨D3, aL3, cL3, aF3, cF3, rfl, HA6.out.touch hm2 hB2 (HM6.out.rows _ (List.mem_of_getElem? (i := 1) rfl)) odd_zeroM HT9.out, HN3.out, H9.out.below⟩
  subst hz
  have HV4 : Hid (r = ⟨⟨(putAll r1.dev r1.list (a1 : Int) [⟨2, 0, (k : Int)⟩]).dev, (putAll r1.dev r1.list (a1 : Int) [⟨2, 0, (k : Int)⟩]).list, f1⟩, if (putAll r1.dev r1.list (a1 : Int) [⟨2, 0, (k : Int)⟩]).err = 0 then (a1 : Int) else 0, (putAll r1.dev r1.list (a1 : Int) [⟨2, 0, (k : Int)⟩]).err⟩) := Lib.hid (by rw [HV3.out, if_neg (by simp)])
  clear HV3
  go_upto_region 11 with fail
  have hld : ∀ w', (∃ x : Later w6, w' = x.val) → ∀ i v, (mgA D3 (.slice aL3 B cL3) (.slice aF3 B cF3)).toList[i]? = some v → w'.cell? ⟨q, 0 + i, none⟩ = some v := by
    rintro _ ⟨x, rfl⟩ i v hi
    rw [Nat.zero_add]
    exact later_cell (HM6.out.cell 0 i rfl hi) x
  refine wp_region_tr (C := fun w' => ∃ x : Later (w6), w' = x.val) (.fl [0, 1, 2, 3] (.sq [4, 5] false (.pu [6, 7] (.sq [8, 9] false (.nil))))) (by kernel_rfl) (by kernel_rfl) (by intro c a d v w h; cases d <;> exact h) ?_
  simp only [trO, picks, List.getElem?_cons_succ, List.getElem?_cons_zero]
  have hC1 := later_drew (w6)
  refine wpTr_fl hC1 ?_
  repeat (first | (refine wpQuiet_load_arr (D := mgA D3 (.slice aL3 B cL3) (.slice aF3 B cF3)) aggMg hld (mgA_size HD3.out.1 _ _) rfl rfl rfl ?_) | (refine wpQuiet_slice_to elRhd (ad := some ⟨g, 0, none⟩) (n := k) (cap := cc) 1 rfl (by omega) hcc rfl rfl rfl rfl ?_) | go_big_quiet_step (fail) | quiet_step (fail))
  refine wpQuiet_nil ?_
  clear hld
  have HC1 : Hid (Cells w6.drew (some ⟨g, 0, none⟩) (hdCs [⟨2, 0, (k : Int)⟩])) := Lib.hid (by
    have h1 := (Cells.below HR6.out.cells (later_below hC1) (Nat.le_refl _)).take 3
    have h2 : (hdCs (hdRun k k)).take 3 = hdCs [⟨2, 0, (k : Int)⟩] := by
      have e : hdRun k k = (hdRun k k).take 1 ++ (hdRun k k).drop 1 := (List.take_append_drop _ _).symm
      have e1 : (hdRun k k).take 1 = [⟨2, 0, (k : Int)⟩] := by
        have hg := hdRun_getD k k 0 hk1
        have hl := hdRun_len k k
        generalize hdRun k k = L at *
        match L, hl, hg with
        | [], hl, _ => simp at hl; omega
        | x :: r, _, hg => simp at hg; simp [hg]
      rw [e1] at e
      rw [e, hdCs_append, hdCs_single]; rfl
    rw [h2] at h1
    exact h1)
  have HPut := Lib.hid (rput12_any (HA6.out.below (later_below hC1)) HFit1.out.2 hm2 hB2 hB (by omega) HFit1.out.1 cL3 cF3 (some ⟨g, 0, none⟩) 1 cc [⟨2, 0, (k : Int)⟩] rfl HC1.out (by omega) (a1 : Int) (by omega))
  have HMx := Lib.hid (HM6.out.later (later_below hC1))
  unfold mgV at HPut
  dsimp only at HPut
  generalize putAll r1.dev r1.list (a1 : Int) [⟨2, 0, (k : Int)⟩] = pr at *
  clear HC1 HM6 HA6 HR6
  refine wpTr_sq (fun K hK => ?_)
  go_wp2_with fail
  refine HPut.out.mono ?_
  rintro e w7 ⟨D4, aL4, cL4, aF4, cF4, rfl, ha7, hn7, hb7⟩
  have HN4 := Lib.hid (HN3.out.trans hn7 HMx.out.below.size)
  clear hn7
  have HM7 := Lib.hid (HMx.out.later hb7)
  have HA7 := Lib.hid ha7
  have HD4 := Lib.hid ha7.dev.arr
  clear ha7 hb7 HPut HMx hC1
  unfold mgV
  go_wp2_with fail
  refine hK _ _ (fun h => nomatch h) ?_
  clear hK K
  refine wpTr_pu ?_
  repeat (first | go_big_quiet_step (fail) | quiet_step (fail))
  refine wpQuiet_nil ?_
  refine wpTr_last ?_
  go_upto_region 12 with (refine wpList_store_box aggMg HM7.out 0 rfl rfl rfl rfl rfl (mgA_size HD4.out.1 _ _) (by rw [mgL_len HD3.out.1, mgA_size HD4.out.1]; decide) (mgA_one HD4.out.2 rfl rfl) ?_; intro w8 h8 ht8; rw [mgL_all HD3.out.1 _ _ HD4.out.1] at h8; have HM8 := Lib.hid h8; have HA8 := Lib.hid (HA7.out.touch hm2 hB2 (HM7.out.rows _ (List.mem_of_getElem? (i := 0) rfl)) (HO3.out.2 _ _ _ _ _ _) ht8); clear h8 ht8)
  clear HM7 HA7
  by_cases hz : pr.err = 0
  · have HE : Hid (r = ⟨⟨pr.dev, pr.list, f1⟩, (a1 : Int), 0⟩) := Lib.hid (by rw [HV4.out, if_pos hz, hz])
    rw [hz]
    go_wp2_with (first
      | (refine wpList_load_box (D := mgA D4 (.slice aL4 B cL4) (.slice aF4 B cF4)) aggMg HM8.out 0 rfl (mgA_size HD4.out.1 _ _) rfl rfl rfl ?_)
      | (refine wpList_store_mem aggMg HM8.out 1 rfl rfl rfl rfl rfl (mgA_size HD4.out.1 _ _) (mgA_size HD4.out.1 _ _).symm (mgA_one HD4.out.2 rfl rfl) ?_; intro w9 h9 ht9; have H9 := Lib.hid h9; have HT9 := Lib.hid ht9; clear h9 ht9))
    refine bodyPost_ret (results_cell_first rfl _ _ _ _ _ _ _ rfl (H9.out.exact 1 rfl) Tryz.underlying35 rfl (infoM _ (mgA_size HD4.out.1 _ _))) rfl ?_
    rw [← HP.out, HE.out]
    exact ⟨D4, aL4, cL4, aF4, cF4, rfl, HA8.out.touch hm2 hB2 (HM8.out.rows _ (List.mem_of_getElem? (i := 1) rfl)) odd_zeroM HT9.out, HN4.out, H9.out.below⟩
  · have HE : Hid (r = ⟨⟨pr.dev, pr.list, f1⟩, 0, pr.err⟩) := Lib.hid (by rw [HV4.out, if_neg hz])
    have hz' : (pr.err != 0) = true := by simpa using hz
    generalize pr.err = pe at *
    clear hz
    go_wp2_with (first
      | (refine wpList_load_box (D := mgA D4 (.slice aL4 B cL4) (.slice aF4 B cF4)) aggMg HM8.out 0 rfl (mgA_size HD4.out.1 _ _) rfl rfl rfl ?_)
      | (refine wpList_store_mem aggMg HM8.out 1 rfl rfl rfl rfl rfl (mgA_size HD4.out.1 _ _) (mgA_size HD4.out.1 _ _).symm (mgA_one HD4.out.2 rfl rfl) ?_; intro w9 h9 ht9; have H9 := Lib.hid h9; have HT9 := Lib.hid ht9; clear h9 ht9))
    refine bodyPost_ret (results_cell_first rfl _ _ _ _ _ _ _ rfl (H9.out.exact 1 rfl) Tryz.underlying35 rfl (infoM _ (mgA_size HD4.out.1 _ _))) rfl ?_
    rw [← HP.out, HE.out]
    exact ⟨D4, aL4, cL4, aF4, cF4, rfl, HA8.out.touch hm2 hB2 (HM8.out.rows _ (List.mem_of_getElem? (i := 1) rfl)) odd_zeroM HT9.out, HN4.out, H9.out.below⟩

end Go.Proofs.YtebnelihlgdciaaGreat

/- ref12: Release. -/
namespace Go.Proofs.YtebnelihlgdciaaGreat
open Go.RowKit
set_option linter.unusedVariables false

theorem relN_max {k c l : Int} (h : hdRight k c l = true) (hk : k = 1 ∨ k = 2) : relN ⟨k, c, l⟩ = max 1 l ∧ l ≤ 255 := by
  have := of_decide_eq_true h
  unfold HdRight at this
  unfold relN
  dsimp only
  rcases hk with rfl | rfl
  · rw [if_pos rfl]; omega
  · rw [if_neg (by decide)]; omega

set_option maxHeartbeats 8000000 in
set_option maxRecDepth 100000 in
theorem rrelease_any {w : World} {D : Array Value} {aL aF : Option Addr} {m B : Nat} {b : Bm} (h : MgAt w D aL aF m B b) (hm : b.dev.dirty.length = m) (hm2 : 2 ≤ m) (hB2 : 2 ≤ B) (hB : B ≤ 1000) {N : Nat} (hN : N ≤ 90000000) (hf : b.dev.fit N) (cL cF : Nat)
    (hrt : ∀ i, i < b.list.length → hdRight (b.list.getD i default).k (b.list.getD i default).c (b.list.getD i default).l = true) (z : Int) (hz9 : -9223372036854775808 ≤ z ∧ z ≤ 9223372036854775807) :
    Calls Tryz.prog 21 #[mgV D aL cL aF cF B, .int .i64 z] w (MDone w D aL aF m B (b.release z).bm (b.release z).err) := by
  have HDs := Lib.hid h.dev.arr
  have HOd := Lib.hid h.dev.odd
  have HM := Lib.hid (Mem.two w (mgA D (.slice aL B cL) (.slice aF B cF)) 35 zeroM 35)
  have HA := Lib.hid (h.below HM.out.below)
  have HLn := Lib.hid h.lenL
  have HLf := Lib.hid h.lenF
  have HF := Lib.hid hf
  have HMl := Lib.hid hm
  unfold mgV
  rw [mgA_list] at HM
  have HC := Lib.hid h.list
  have HG : Hid (∀ j : Nat, z = (j : Int) → 1 ≤ j → j < B → hdGet b.list z = b.list.getD j default) := Lib.hid (fun j e h1 h2 => by subst e; unfold hdGet; rw [if_neg (by rw [h.lenL]; omega)]; rfl)
  have HGo : Hid (z < 1 ∨ (B : Int) ≤ z → hdGet b.list z = ⟨0, 0, 0⟩) := Lib.hid (fun e => by unfold hdGet; rw [if_pos (by rw [h.lenL]; exact e)])
  have HRt : Hid (∀ i, i < B → hdRight (b.list.getD i default).k (b.list.getD i default).c (b.list.getD i default).l = true) := Lib.hid (fun i hi => hrt i (by rw [h.lenL]; exact hi))
  have HV : Hid (b.release z = if (hdGet b.list z).k ≠ 1 ∧ (hdGet b.list z).k ≠ 2 then ⟨b, 0, 42⟩ else
    (fun r1 : PutR => if r1.err ≠ 0 then ⟨⟨r1.dev, r1.list, b.free⟩, 0, r1.err⟩ else
    (fun r2 : PutR => if r2.err ≠ 0 then ⟨⟨r2.dev, r2.list, b.free⟩, 0, r2.err⟩ else ⟨⟨r2.dev, r2.list, (giveR b.free z (relN (hdGet b.list z))).1⟩, 0, (giveR b.free z (relN (hdGet b.list z))).2⟩)
      (putAll r1.dev r1.list (z + 1) (List.replicate (relN (hdGet b.list z) - 1).toNat ⟨0, 0, 0⟩)))
    (putAll b.dev b.list z [⟨0, 0, 0⟩])) := Lib.hid rfl
  generalize hr : b.release z = r at *
  generalize hP : MDone w D aL aF m B r.bm r.err = Post
  have HP := Lib.hid hP
  clear h hP hr hf hm hrt
  go_enter Tryz.func21, Tryz.ntmps21
  go_upto_region 1 with fail
  rw [show (#[.slice none 0 0, .slice none 0 0, .slice none 0 0, .slice none 0 0, .slice none 0 0, .int .i64 0, .int .i64 0, .bool false, .slice none 0 0, .slice none 0 0] : Array Value) = zeroM from rfl]
  generalize (w.alloc _).alloc _ = w0 at *
  obtain ⟨q, hq⟩ : ∃ q, q = w.heap.size := ⟨_, rfl⟩
  rw [← hq] at HM ⊢
  have HQ := Lib.hid hq
  clear hq
  have c8 := HM.out.cell 0 8 rfl (mgL_8 HDs.out.1 _ _)
  by_cases hz1 : z < 1
  · have HE : Hid (r = ⟨b, 0, 42⟩) := Lib.hid (by rw [HV.out, HGo.out (.inl hz1)]; rfl)
    go_upto_region 2 with fail
    go_wp2_with (first
      | (refine wpList_load_box (D := mgA D (.slice aL B cL) (.slice aF B cF)) aggMg HM.out 0 rfl (mgA_size HDs.out.1 _ _) rfl rfl rfl ?_)
      | (refine wpList_store_mem aggMg HM.out 1 rfl rfl rfl rfl rfl (mgA_size HDs.out.1 _ _) (mgA_size HDs.out.1 _ _).symm (mgA_one HDs.out.2 rfl rfl) ?_; intro w9 h9 ht9; have H9 := Lib.hid h9; have HT9 := Lib.hid ht9; clear h9 ht9))
    refine bodyPost_ret (results_cell_row2 rfl _ _ _ _ _ _ _ rfl (H9.out.exact 1 rfl) Tryz.underlying35 rfl (infoM _ (mgA_size HDs.out.1 _ _))) rfl ?_
    rw [← HP.out, HE.out]
    exact ⟨D, aL, cL, aF, cF, rfl, HA.out.touch hm2 hB2 (HM.out.rows _ (List.mem_of_getElem? (i := 1) rfl)) odd_zeroM HT9.out, MgNew.refl _ _ _ _, H9.out.below⟩
  by_cases hz2 : (B : Int) ≤ z
  · have HE : Hid (r = ⟨b, 0, 42⟩) := Lib.hid (by rw [HV.out, HGo.out (.inr hz2)]; rfl)
    go_upto_region 2 with fail
    go_wp2_with (first
      | (refine wpList_load_box (D := mgA D (.slice aL B cL) (.slice aF B cF)) aggMg HM.out 0 rfl (mgA_size HDs.out.1 _ _) rfl rfl rfl ?_)
      | (refine wpList_store_mem aggMg HM.out 1 rfl rfl rfl rfl rfl (mgA_size HDs.out.1 _ _) (mgA_size HDs.out.1 _ _).symm (mgA_one HDs.out.2 rfl rfl) ?_; intro w9 h9 ht9; have H9 := Lib.hid h9; have HT9 := Lib.hid ht9; clear h9 ht9))
    refine bodyPost_ret (results_cell_row2 rfl _ _ _ _ _ _ _ rfl (H9.out.exact 1 rfl) Tryz.underlying35 rfl (infoM _ (mgA_size HDs.out.1 _ _))) rfl ?_
    rw [← HP.out, HE.out]
    exact ⟨D, aL, cL, aF, cF, rfl, HA.out.touch hm2 hB2 (HM.out.rows _ (List.mem_of_getElem? (i := 1) rfl)) odd_zeroM HT9.out, MgNew.refl _ _ _ _, H9.out.below⟩
  obtain ⟨j, rfl⟩ := Int.eq_ofNat_of_zero_le (show 0 ≤ z by omega)
  have hj1 : 1 ≤ j := by omega
  have hjB : j < B := by omega
  have hg := HG.out j rfl hj1 hjB
  have hrj := HRt.out j hjB
  obtain ⟨hk, hc, hl, he⟩ := hdGetD b.list j
  rw [he] at hg hrj
  rw [hg] at HV
  dsimp only at HV hrj
  obtain ⟨bl, ol, hae, d0, d1, d2⟩ := hd_cells (HC.out.below HM.out.below (Nat.le_refl _)) (by rw [HLn.out]; exact hjB) he
  subst hae
  have q1 : decide ((j : Int) < 1) = false := by simp; omega
  have q2 : decide ((B : Int) ≤ (j : Int)) = false := by simp; omega
  have q2n : decide (B ≤ j) = false := by simp; omega
  have q3 : (j : Int) < (B : Int) := by omega
  have HRj := Lib.hid hrj
  clear hz1 hz2 hz9 hg he d1 HG HGo HRt hrj HC
  by_cases h12 : hk ≠ 1 ∧ hk ≠ 2
  · have HE : Hid (r = ⟨b, 0, 42⟩) := Lib.hid (by rw [HV.out, if_pos h12])
    have k1 : (hk != 1) = true := by simpa using h12.1
    have k2 : (hk != 2) = true := by simpa using h12.2
    clear h12
    go_upto_region 2 with fail
    go_wp2_with (first
      | (refine wpList_load_box (D := mgA D (.slice (some ⟨bl, ol, none⟩) B cL) (.slice aF B cF)) aggMg HM.out 0 rfl (mgA_size HDs.out.1 _ _) rfl rfl rfl ?_)
      | (refine wpList_store_mem aggMg HM.out 1 rfl rfl rfl rfl rfl (mgA_size HDs.out.1 _ _) (mgA_size HDs.out.1 _ _).symm (mgA_one HDs.out.2 rfl rfl) ?_; intro w9 h9 ht9; have H9 := Lib.hid h9; have HT9 := Lib.hid ht9; clear h9 ht9))
    refine bodyPost_ret (results_cell_row2 rfl _ _ _ _ _ _ _ rfl (H9.out.exact 1 rfl) Tryz.underlying35 rfl (infoM _ (mgA_size HDs.out.1 _ _))) rfl ?_
    rw [← HP.out, HE.out]
    exact ⟨D, (some ⟨bl, ol, none⟩), cL, aF, cF, rfl, HA.out.touch hm2 hB2 (HM.out.rows _ (List.mem_of_getElem? (i := 1) rfl)) odd_zeroM HT9.out, MgNew.refl _ _ _ _, H9.out.below⟩
  obtain ⟨hmx, hl9⟩ := relN_max HRj.out (by omega)
  obtain ⟨y, hy⟩ : ∃ y : Nat, max 1 hl = ((y + 1 : Nat) : Int) := ⟨(max 1 hl - 1).toNat, by omega⟩
  have hy9 : y ≤ 255 := by omega
  rw [hmx, hy, show (((y + 1 : Nat) : Int) - 1).toNat = y by omega] at HV
  obtain ⟨r1, hr1⟩ : ∃ r1, r1 = putAll b.dev b.list (j : Int) [⟨0, 0, 0⟩] := ⟨_, rfl⟩
  obtain ⟨r2, hr2⟩ : ∃ r2, r2 = putAll r1.dev r1.list ((j : Int) + 1) (List.replicate y ⟨0, 0, 0⟩) := ⟨_, rfl⟩
  have HV2 : Hid (r = if r1.err ≠ 0 then ⟨⟨r1.dev, r1.list, b.free⟩, 0, r1.err⟩ else
    if r2.err ≠ 0 then ⟨⟨r2.dev, r2.list, b.free⟩, 0, r2.err⟩ else ⟨⟨r2.dev, r2.list, (giveR b.free j ((y + 1 : Nat) : Int)).1⟩, 0, (giveR b.free j ((y + 1 : Nat) : Int)).2⟩) := Lib.hid (by rw [HV.out, if_neg h12, hr2, hr1])
  have HR1 : Hid (r1 = putAll b.dev b.list (j : Int) (List.replicate 1 ⟨0, 0, 0⟩)) := Lib.hid hr1
  have HR2 := Lib.hid hr2
  have HFit1 : Hid (r1.dev.fit (N + 1 + 200000) ∧ r1.dev.dirty.length = m) := Lib.hid (by
    rw [hr1]
    exact ⟨putAll_fit HF.out b.list (j : Int) [⟨0, 0, 0⟩], by rw [putAll_dl]; exact HMl.out⟩)
  have hcase : hk = 1 ∨ hk = 2 := by omega
  obtain ⟨z1, hz1⟩ : ∃ z1 : Int, z1 = ((y + 1 : Nat) : Int) := ⟨_, rfl⟩
  have hmx2 : max 1 hl = z1 := by rw [hy, hz1]
  have HZ1 := Lib.hid hz1
  have hz3 : IntKind.i64.wrap (z1 - 1) = (y : Int) := by rw [IntWalk.i64_in _ (by omega)]; omega
  have hw1 : IntKind.i64.wrap ((j : Int) + 1) = (j : Int) + 1 := IntWalk.i64_in _ (by omega)
  rw [← hz1] at HV2
  clear h12 hr1 hr2 HV hmx hy HRj hz1
  go_cut [34] from 79 (fun v wc => v = .bool false ∧ wc = w0)
  case first =>
    rcases hcase with rfl | rfl
    · go_wp2_with fail
      go_meet
      case rel => exact ⟨rfl, rfl⟩
    · go_wp2_with fail
      go_meet
      case rel => exact ⟨rfl, rfl⟩
  case rest =>
    obtain ⟨rfl, rfl⟩ := hcut
    go_upto_region 3 with fail
    go_cut [6] from 79 (fun v wd => v = .int .i64 z1 ∧ wd = wc)
    case first =>
      have hmx3 : max hl 1 = z1 := by rw [Int.max_comm]; exact hmx2
      go_wp2_with fail
      go_meet
      case rel => exact ⟨rfl, rfl⟩
    case rest =>
      obtain ⟨rfl, rfl⟩ := hcut
      clear hcase d0 d2 c8 q1 q2 q2n q3 hmx2
      go_upto_region 4 with fail
      have hld : ∀ w', (∃ x : Later wc, w' = x.val) → ∀ i v, (mgA D (.slice (some ⟨bl, ol, none⟩) B cL) (.slice aF B cF)).toList[i]? = some v → w'.cell? ⟨q, 0 + i, none⟩ = some v := by
        rintro _ ⟨x, rfl⟩ i v hi
        rw [Nat.zero_add]
        exact later_cell (HM.out.cell 0 i rfl hi) x
      refine wp_region_tr (C := fun w' => ∃ x : Later (wc), w' = x.val) (.fl [0, 1] (.sq [2] true (.sq [3, 4] false (.pu [5, 6] (.sq [7, 8] false (.nil)))))) (by kernel_rfl) (by kernel_rfl) (by intro c a d v w h; cases d <;> exact h) ?_
      simp only [trO, picks, List.getElem?_cons_succ, List.getElem?_cons_zero]
      have hC1 := later_drew (wc)
      refine wpTr_fl hC1 ?_
      repeat (first | (refine wpQuiet_load_arr (D := mgA D (.slice (some ⟨bl, ol, none⟩) B cL) (.slice aF B cF)) aggMg hld (mgA_size HDs.out.1 _ _) rfl rfl rfl ?_) | go_big_quiet_step (fail) | quiet_step (fail))
      refine wpQuiet_nil ?_
      clear hld
      have HMd := Lib.hid (HM.out.later (later_below hC1))
      have HAd := Lib.hid (HA.out.below (later_below hC1))
      generalize wc.drew = wd at *
      refine wpTr_sq (fun K hK => ?_)
      go_wp2_with (at_make; refine wpList_make_rows elRhd wd.heap.size 1 (z := .int .i64 0) (by intro i hi; simp at hi; rcases i with _ | _ | _ | i <;> first | rfl | omega) (by omega) (by omega) (by omega) (by decide) (Nat.le_refl _) rfl rfl rfl rfl ?_; intro we hown hgrow; have HOe := Lib.hid hown; have HGe := Lib.hid hgrow; clear hown hgrow)
      have HBe := Lib.hid (below_grown HGe.out (Nat.le_refl _))
      have hC2 := later_step hC1 HBe.out
      have HPut := Lib.hid (rput12_any (HAd.out.below HBe.out) HMl.out hm2 hB2 hB (by omega) HF.out cL cF (some ⟨wd.heap.size, 0, none⟩) 1 1 (List.replicate 1 ⟨0, 0, 0⟩) (by simp) (by rw [hdCs_zeros]; exact Cells.owned2 HOe.out) (by omega) (j : Int) (by omega))
      have HMe := Lib.hid (HMd.out.later HBe.out)
      unfold mgV at HPut
      try dsimp only at HPut
      rw [← HR1.out] at HPut
      clear HMd HAd HA HOe HGe HBe
      go_wp2_with fail
      refine hK _ _ (fun _ => hC2) ?_
      clear hK K
      refine wpTr_sq (fun K hK => ?_)
      go_wp2_with fail
      refine HPut.out.mono ?_
      rintro e wf ⟨D3, aL3, cL3, aF3, cF3, rfl, haf, hnf, hbf⟩
      have HNw3 := Lib.hid ((MgNew.refl w.heap.size D (some ⟨bl, ol, none⟩) aF).trans hnf HMe.out.below.size)
      clear hnf
      have HMf := Lib.hid (HMe.out.later hbf)
      have HAf := Lib.hid haf
      have HD3 := Lib.hid haf.dev.arr
      have HO3 := Lib.hid haf.dev.odd
      clear haf hbf HPut HMe hC1 hC2
      unfold mgV
      go_wp2_with fail
      refine hK _ _ (fun h => nomatch h) ?_
      clear hK K
      refine wpTr_pu ?_
      repeat (first | go_big_quiet_step (fail) | quiet_step (fail))
      refine wpQuiet_nil ?_
      refine wpTr_last ?_
      go_upto_region 5 with (refine wpList_store_box aggMg HMf.out 0 rfl rfl rfl rfl rfl (mgA_size HD3.out.1 _ _) (by rw [mgL_len HDs.out.1, mgA_size HD3.out.1]; decide) (mgA_one HD3.out.2 rfl rfl) ?_; intro w3 hg htg; rw [mgL_all HDs.out.1 _ _ HD3.out.1] at hg; have HM3 := Lib.hid hg; have HA3 := Lib.hid (HAf.out.touch hm2 hB2 (HMf.out.rows _ (List.mem_of_getElem? (i := 0) rfl)) (HOd.out.2 _ _ _ _ _ _) htg); clear hg htg)
      clear HMf HAf
      obtain ⟨e1, he1⟩ : ∃ e1, e1 = r1.err := ⟨_, rfl⟩
      rw [← he1] at HV2 ⊢
      clear he1
      by_cases hz : e1 = 0
      case neg =>
        have hz' : (e1 != 0) = true := by simpa using hz
        have HE : Hid (r = ⟨⟨r1.dev, r1.list, b.free⟩, 0, e1⟩) := Lib.hid (by rw [HV2.out, if_pos hz])
        clear hz
        go_wp2_with (first
          | (refine wpList_load_box (D := mgA D3 (.slice aL3 B cL3) (.slice aF3 B cF3)) aggMg HM3.out 0 rfl (mgA_size HD3.out.1 _ _) rfl rfl rfl ?_)
          | (refine wpList_store_mem aggMg HM3.out 1 rfl rfl rfl rfl rfl (mgA_size HD3.out.1 _ _) (mgA_size HD3.out.1 _ _).symm (mgA_one HD3.out.2 rfl rfl) ?_; intro w9 h9 ht9; have H9 := Lib.hid h9; have HT9 := Lib.hid ht9; clear h9 ht9))
        refine bodyPost_ret (results_cell_row2 rfl _ _ _ _ _ _ _ rfl (H9.out.exact 1 rfl) Tryz.underlying35 rfl (infoM _ (mgA_size HD3.out.1 _ _))) rfl ?_
        rw [← HP.out, HE.out]
        exact ⟨D3, aL3, cL3, aF3, cF3, rfl, HA3.out.touch hm2 hB2 (HM3.out.rows _ (List.mem_of_getElem? (i := 1) rfl)) odd_zeroM HT9.out, HNw3.out, H9.out.below⟩
      subst hz
      have HV3 : Hid (r = if r2.err ≠ 0 then ⟨⟨r2.dev, r2.list, b.free⟩, 0, r2.err⟩ else ⟨⟨r2.dev, r2.list, (giveR b.free j z1).1⟩, 0, (giveR b.free j z1).2⟩) := Lib.hid (by rw [HV2.out, if_neg (by simp)])
      clear HV2
      go_upto_region 7 with fail
      have hld : ∀ w', (∃ x : Later w3, w' = x.val) → ∀ i v, (mgA D3 (.slice aL3 B cL3) (.slice aF3 B cF3)).toList[i]? = some v → w'.cell? ⟨q, 0 + i, none⟩ = some v := by
        rintro _ ⟨x, rfl⟩ i v hi
        rw [Nat.zero_add]
        exact later_cell (HM3.out.cell 0 i rfl hi) x
      refine wp_region_tr (C := fun w' => ∃ x : Later (w3), w' = x.val) (.fl [0, 1, 2, 3, 4] (.sq [5] true (.sq [6, 7] false (.pu [8, 9] (.sq [10, 11] false (.nil)))))) (by kernel_rfl) (by kernel_rfl) (by intro c a d v w h; cases d <;> exact h) ?_
      simp only [trO, picks, List.getElem?_cons_succ, List.getElem?_cons_zero]
      have hC1 := later_drew (w3)
      refine wpTr_fl hC1 ?_
      repeat (first | (refine wpQuiet_load_arr (D := mgA D3 (.slice aL3 B cL3) (.slice aF3 B cF3)) aggMg hld (mgA_size HD3.out.1 _ _) rfl rfl rfl ?_) | go_big_quiet_step (fail) | quiet_step (fail))
      refine wpQuiet_nil ?_
      clear hld
      have HMd := Lib.hid (HM3.out.later (later_below hC1))
      have HAd := Lib.hid (HA3.out.below (later_below hC1))
      generalize w3.drew = wd at *
      refine wpTr_sq (fun K hK => ?_)
      go_wp2_with (at_make; refine wpList_make_rows elRhd wd.heap.size y (z := .int .i64 0) (by intro i hi; simp at hi; rcases i with _ | _ | _ | i <;> first | rfl | omega) (by omega) (by omega) (by omega) (by decide) (Nat.le_refl _) rfl rfl rfl rfl ?_; intro we hown hgrow; have HOe := Lib.hid hown; have HGe := Lib.hid hgrow; clear hown hgrow)
      have HBe := Lib.hid (below_grown HGe.out (Nat.le_refl _))
      have hC2 := later_step hC1 HBe.out
      have HPut := Lib.hid (rput12_any (HAd.out.below HBe.out) HFit1.out.2 hm2 hB2 hB (by omega) HFit1.out.1 cL3 cF3 (some ⟨wd.heap.size, 0, none⟩) y y (List.replicate y ⟨0, 0, 0⟩) (by simp) (by rw [hdCs_zeros]; exact Cells.owned2 HOe.out) (by omega) ((j : Int) + 1) (by omega))
      have HMe := Lib.hid (HMd.out.later HBe.out)
      unfold mgV at HPut
      try dsimp only at HPut
      rw [← HR2.out] at HPut
      clear HMd HAd HA3 HOe HGe HBe
      go_wp2_with fail
      refine hK _ _ (fun _ => hC2) ?_
      clear hK K
      refine wpTr_sq (fun K hK => ?_)
      go_wp2_with fail
      refine HPut.out.mono ?_
      rintro e wf ⟨D4, aL4, cL4, aF4, cF4, rfl, haf, hnf, hbf⟩
      have HNw4 := Lib.hid (HNw3.out.trans hnf HMe.out.below.size)
      clear hnf
      have HMf := Lib.hid (HMe.out.later hbf)
      have HAf := Lib.hid haf
      have HD4 := Lib.hid haf.dev.arr
      have HO4 := Lib.hid haf.dev.odd
      clear haf hbf HPut HMe hC1 hC2
      unfold mgV
      go_wp2_with fail
      refine hK _ _ (fun h => nomatch h) ?_
      clear hK K
      refine wpTr_pu ?_
      repeat (first | go_big_quiet_step (fail) | quiet_step (fail))
      refine wpQuiet_nil ?_
      refine wpTr_last ?_
      go_upto_region 8 with (refine wpList_store_box aggMg HMf.out 0 rfl rfl rfl rfl rfl (mgA_size HD4.out.1 _ _) (by rw [mgL_len HD3.out.1, mgA_size HD4.out.1]; decide) (mgA_one HD4.out.2 rfl rfl) ?_; intro w4 hg htg; rw [mgL_all HD3.out.1 _ _ HD4.out.1] at hg; have HM4 := Lib.hid hg; have HA4 := Lib.hid (HAf.out.touch hm2 hB2 (HMf.out.rows _ (List.mem_of_getElem? (i := 0) rfl)) (HO3.out.2 _ _ _ _ _ _) htg); clear hg htg)
      clear HMf HAf
      obtain ⟨e2, he2⟩ : ∃ e2, e2 = r2.err := ⟨_, rfl⟩
      rw [← he2] at HV3 ⊢
      clear he2
      by_cases hz : e2 = 0
      case neg =>
        have hz' : (e2 != 0) = true := by simpa using hz
        have HE : Hid (r = ⟨⟨r2.dev, r2.list, b.free⟩, 0, e2⟩) := Lib.hid (by rw [HV3.out, if_pos hz])
        clear hz
        go_wp2_with (first
          | (refine wpList_load_box (D := mgA D4 (.slice aL4 B cL4) (.slice aF4 B cF4)) aggMg HM4.out 0 rfl (mgA_size HD4.out.1 _ _) rfl rfl rfl ?_)
          | (refine wpList_store_mem aggMg HM4.out 1 rfl rfl rfl rfl rfl (mgA_size HD4.out.1 _ _) (mgA_size HD4.out.1 _ _).symm (mgA_one HD4.out.2 rfl rfl) ?_; intro w9 h9 ht9; have H9 := Lib.hid h9; have HT9 := Lib.hid ht9; clear h9 ht9))
        refine bodyPost_ret (results_cell_row2 rfl _ _ _ _ _ _ _ rfl (H9.out.exact 1 rfl) Tryz.underlying35 rfl (infoM _ (mgA_size HD4.out.1 _ _))) rfl ?_
        rw [← HP.out, HE.out]
        exact ⟨D4, aL4, cL4, aF4, cF4, rfl, HA4.out.touch hm2 hB2 (HM4.out.rows _ (List.mem_of_getElem? (i := 1) rfl)) odd_zeroM HT9.out, HNw4.out, H9.out.below⟩
      subst hz
      have HE0 : Hid (r = ⟨⟨r2.dev, r2.list, (giveR b.free j z1).1⟩, 0, (giveR b.free j z1).2⟩) := Lib.hid (by rw [HV3.out, if_neg (by simp)])
      clear HV3
      have c9 := HM4.out.cell 0 9 rfl (mgL_9 HD4.out.1 _ _)
      go_wp2_with fail
      refine (rgive_any aF4 B cF4 b.free HLf.out j z1 _ HA4.out.free (by omega)).mono ?_
      rintro e w5 ⟨aF5, cF5, rfl, hc5, hb5, hl5⟩
      have HN5 : Hid (MgNew w.heap.size D (some ⟨bl, ol, none⟩) aF D4 aL4 aF5) := Lib.hid (HNw4.out.trans (MgNew.free hl5) HM4.out.below.size)
      clear hl5
      rw [HLf.out]
      have HLf5 : Hid ((giveR b.free j z1).1.length = B) := Lib.hid (by rw [giveR_len]; exact HLf.out)
      have HM5 := Lib.hid (HM4.out.later hb5)
      have HA5 := Lib.hid (HA4.out.below hb5)
      generalize giveR b.free j z1 = t at *
      obtain ⟨f5, e5⟩ := t
      dsimp only at hc5 HE0 HLf5 ⊢
      have HC5 := Lib.hid hc5
      clear hc5 hb5 HM4 HA4 c9
      have f9 := HM5.out.frozen 0 9 rfl
      have c9 := HM5.out.cell 0 9 rfl (mgL_9 HD4.out.1 _ _)
      have hs6 := HM5.out.set 0 9 (.slice aF5 B cF5) rfl (by rw [mgL_len HD4.out.1]; decide)
      rw [mgL_set9 HD4.out.1] at hs6
      have HM6 := Lib.hid hs6
      have HA6 : Hid (MgAt (w5.setCell ⟨q, 9, none⟩ (.slice aF5 B cF5)) D4 aL4 aF5 m B ⟨r2.dev, r2.list, f5⟩) := Lib.hid (MgAt.touch ⟨HA5.out.dev, HA5.out.list, HC5.out, HA5.out.lenL, HLf5.out⟩ hm2 hB2 (HM5.out.rows _ (List.mem_of_getElem? (i := 0) rfl)) (HO4.out.2 _ _ _ _ _ _) (Touch.setCell ⟨q, 9, none⟩ (by simp) (.slice aF5 B cF5)))
      go_upto_region 11 with fail
      generalize w5.setCell _ _ = w6 at *
      clear hs6 f9 c9 HM5 HA5 HC5
      go_wp2_with (first
        | (refine wpList_load_box (D := mgA D4 (.slice aL4 B cL4) (.slice aF5 B cF5)) aggMg HM6.out 0 rfl (mgA_size HD4.out.1 _ _) rfl rfl rfl ?_)
        | (refine wpList_store_mem aggMg HM6.out 1 rfl rfl rfl rfl rfl (mgA_size HD4.out.1 _ _) (mgA_size HD4.out.1 _ _).symm (mgA_one HD4.out.2 rfl rfl) ?_; intro w9 h9 ht9; have H9 := Lib.hid h9; have HT9 := Lib.hid ht9; clear h9 ht9))
      refine bodyPost_ret (results_cell_row2 rfl _ _ _ _ _ _ _ rfl (H9.out.exact 1 rfl) Tryz.underlying35 rfl (infoM _ (mgA_size HD4.out.1 _ _))) rfl ?_
      rw [← HP.out, HE0.out]
      exact ⟨D4, aL4, cL4, aF5, cF5, rfl, HA6.out.touch hm2 hB2 (HM6.out.rows _ (List.mem_of_getElem? (i := 1) rfl)) odd_zeroM HT9.out, HN5.out, H9.out.below⟩

end Go.Proofs.YtebnelihlgdciaaGreat

/- ref12: Open. -/
namespace Go.Proofs.YtebnelihlgdciaaGreat
open Go.RowKit
set_option linter.unusedVariables false

def frL (ks : Nat → Bool) (k : Nat) : List Bool := (List.range k).map fun i => decide (1 ≤ i) && ks i
theorem frL_succ (ks : Nat → Bool) (k : Nat) : frL ks (k + 1) = frL ks k ++ [decide (1 ≤ k) && ks k] := by simp [frL, List.range_succ]
theorem frL_len (ks : Nat → Bool) (k : Nat) : (frL ks k).length = k := by simp [frL]
theorem frL_free (ks : Nat → Bool) (B : Nat) : frL ks B = freeL ks B B := by
  unfold frL freeL
  apply List.map_congr_left
  intro i hi
  have : i < B := by simpa using hi
  simp [this]
theorem owned_touchd {w w' : World} {base e size n d : Nat} {v : Value} {xs : List Value} (h : w.ownsRow base e size v n xs) (ht : Touch [d] w w') (hd : d < base) : w'.ownsRow base e size v n xs := by
  refine ⟨h.1, ?_⟩
  rcases h.2 with hn | ⟨g, cap, cur, rfl, h1, hg, r⟩
  · exact .inl hn
  · exact .inr ⟨g, cap, cur, rfl, h1, by rw [ht.block g (Array.getElem?_eq_some_iff.1 hg).1 (by simp; omega)]; exact hg, r⟩

theorem one_cell_bool (b : Bool) : ∀ u ∈ (#[Value.bool b] : Array Value).toList, u.oneCell' = true := by intro u hu; simp at hu; subst hu; rfl

theorem Mem.grow {w W W' : World} {L : List Ent} (h : Mem w W L) {base : Nat} (hb : Below base W W') (hL : ∀ x ∈ L, x.g < base) (hw : w.heap.size ≤ base) : Mem w W' L :=
  ⟨h.below.trans (hb.mono hw), fun x hx => (h.rows x hx).keep (hb.block _ (hL x hx)), h.base, h.nd⟩

/-- What opening leaves. -/
def MOpen (w : World) (D0 : Array Value) (aL0 : Option Addr) (m B : Nat) (b : Bm) : Ending → World → Prop := fun e w' => ∃ D aL cL aF cF, e = .returned (mgV D aL cL aF cF B) ∧ MgAt w' D aL aF m B b ∧ MgNew w.heap.size D0 aL0 none D aL aF ∧ Below w.heap.size w w'

set_option maxHeartbeats 4000000 in
set_option maxRecDepth 100000 in
theorem ropen12_any {w : World} {D : Array Value} {S : Dev} {m : Nat} (hm2 : 2 ≤ m) (h : RAt w (.agg D) m S.ref) (aL : Option Addr) (B cL : Nat) (L : List Hd) (hLn : L.length = B) (hB2 : 2 ≤ B) (hB : B ≤ 1000) (hcL : Cells w aL (hdCs L)) :
    Calls Tryz.prog 38 #[.agg D, .slice aL B cL] w (MOpen w D aL m B ⟨S, L, freeL (freeAt L) B B⟩) := by
  have HDs := Lib.hid h.arr
  have HOd := Lib.hid h.odd
  have HM := Lib.hid (Mem.two w D 32 zeroM 35)
  have HRA := Lib.hid h
  have HLn := Lib.hid hLn
  rw [← frL_free]
  generalize hP : MOpen w D aL m B ⟨S, L, frL (freeAt L) B⟩ = Post
  have HP0 := Lib.hid hP
  have HC0 := Lib.hid hcL
  obtain ⟨an, cn, al, cl, aw, cw, ad, cd, ap, cp, he, y1, y2, y3, y4, y5⟩ := h.ex
  cases he
  clear y1 y2 y3 y4 y5 h hP hcL hLn
  generalize S.ref.steps = sv at *
  generalize S.ref.fuse = fz at *
  generalize S.ref.dead = dd at *
  obtain ⟨D, hD⟩ : ∃ D : Array Value, D = #[.slice an m cn, .slice al m cl, .slice aw m cw, .slice ad m cd, .slice ap m cp, .int .i64 sv, .int .i64 fz, .bool dd] := ⟨_, rfl⟩
  have HD := Lib.hid hD
  have HP : Hid (MOpen w D aL m B ⟨S, L, frL (freeAt L) B⟩ = Post) := Lib.hid (by rw [hD]; exact HP0.out)
  clear HP0
  have HAr : Hid ((#[.slice an m cn, .slice al m cl, .slice aw m cw, .slice ad m cd, .slice ap m cp, .int .i64 sv, .int .i64 fz, .bool dd, .slice aL B cL, .slice none 0 0] : Array Value) = mgA D (.slice aL B cL) (.slice none 0 0)) := Lib.hid (by rw [hD]; rfl)
  go_enter Tryz.func38, Tryz.ntmps38
  go_upto_region 1 with fail
  rw [show (#[.slice none 0 0, .slice none 0 0, .slice none 0 0, .slice none 0 0, .slice none 0 0, .int .i64 0, .int .i64 0, .bool false, .slice none 0 0, .slice none 0 0] : Array Value) = zeroM from rfl]
  generalize (w.alloc _).alloc _ = w0 at *
  obtain ⟨q, hq⟩ : ∃ q, q = w.heap.size := ⟨_, rfl⟩
  rw [← hq] at HM ⊢
  have HQ := Lib.hid hq
  have d0 := HM.out.cell 0 0 rfl rfl
  have d1 := HM.out.cell 0 1 rfl rfl
  have d2 := HM.out.cell 0 2 rfl rfl
  have d3 := HM.out.cell 0 3 rfl rfl
  have d4 := HM.out.cell 0 4 rfl rfl
  have d5 := HM.out.cell 0 5 rfl rfl
  have d6 := HM.out.cell 0 6 rfl rfl
  have d7 := HM.out.cell 0 7 rfl rfl
  have HM1 := Lib.hid (HM.out.alloc zeroM 35)
  clear hq hD
  go_upto_region 2 with (rw [show (#[.slice none 0 0, .slice none 0 0, .slice none 0 0, .slice none 0 0, .slice none 0 0, .int .i64 0, .int .i64 0, .bool false, .slice none 0 0, .slice none 0 0] : Array Value) = zeroM from rfl]; refine wpList_store_mem aggMg HM1.out 2 rfl rfl rfl rfl rfl rfl rfl rfl ?_; intro w2 h2 ht2; have HM2 := Lib.hid h2; have HT2 := Lib.hid ht2; clear h2 ht2)
  rw [HAr.out, ← HD.out] at HM2
  rw [← HD.out] at HDs HOd HRA
  rw [mgA_list] at HM2
  obtain ⟨p, hp⟩ : ∃ p, p = w0.heap.size := ⟨_, rfl⟩
  rw [← hp] at HM2 ⊢
  have HPw := Lib.hid hp
  clear hp HM HM1 HT2 d0 d1 d2 d3 d4 d5 d6 d7 HAr
  have HLt : Hid (∀ v, ∀ x ∈ ([⟨q, 32, D.toList, true⟩, ⟨q + 1, 35, zeroM.toList, true⟩, ⟨p, 35, mgL D (.slice aL B cL) v, true⟩] : List Ent), x.g < w2.heap.size) := Lib.hid (fun v x hx => by
    have h0 := HM2.out.glt 0 rfl
    have h1 := HM2.out.glt 1 rfl
    have h2 := HM2.out.glt 2 rfl
    simp only [List.mem_cons, List.not_mem_nil, or_false] at hx
    rcases hx with rfl | rfl | rfl <;> assumption)
  have HW2 := Lib.hid (HM2.out.below.size)
  go_wp2_with fail
  go_loopw [6] (fun i wr => ∃ (k : Nat) (v : Value), k ≤ B ∧ i = .int .i64 (k : Int) ∧ Mem w wr [⟨q, 32, D.toList, true⟩, ⟨q + 1, 35, zeroM.toList, true⟩, ⟨p, 35, mgL D (.slice aL B cL) v, true⟩] ∧
      wr.ownsRow w2.heap.size 4 1 v k ((frL (freeAt L) k).map Value.bool) ∧ w2.heap.size ≤ wr.heap.size) (fun i _ => B - (intOf i).toNat)
  case atStart => exact ⟨0, .slice none 0 0, Nat.zero_le _, rfl, HM2.out, ⟨rfl, .inl ⟨rfl, rfl⟩⟩, Nat.le_refl _⟩
  case round =>
    obtain ⟨k, v, hkB, rfl, hmem, ho, hsz⟩ := hrel
    obtain ⟨a1, c1, rfl, hc1, hm1⟩ := owned_form ho
    have HMm := Lib.hid hmem
    have HO := Lib.hid ho
    have c9 := hmem.cell 2 9 rfl (mgL_9 HDs.out.1 _ _)
    have hpw : p < w2.heap.size := HM2.out.glt 2 rfl
    clear hmem ho
    by_cases hlt : k < B
    · have hlt' : (k : Int) < (B : Int) := by omega
      obtain ⟨b1, o1, hae, kd, hfk, dk⟩ := hd_kind (HC0.out.below HMm.out.below (Nat.le_refl _)) (j := k) (by rw [HLn.out]; exact hlt)
      subst hae
      have HS := Lib.hid (frL_succ (freeAt L) k)
      rw [hfk] at HS
      obtain ⟨bv, hbv⟩ : ∃ bv, bv = (decide (1 ≤ k) && (kd == 0)) := ⟨_, rfl⟩
      rw [← hbv] at HS
      have hk9 : k < 1000000000000 := by omega
      have hbase := Lib.hid hsz
      have hcase : (k = 0 ∧ bv = false) ∨ (0 < k ∧ bv = (kd == 0)) := by
        by_cases h0 : k = 0
        · exact .inl ⟨h0, by rw [hbv, h0]; rfl⟩
        · exact .inr ⟨by omega, by rw [hbv, decide_eq_true (by omega), Bool.true_and]⟩
      clear hbv hc1 hm1
      have hcase2 : (decide (0 < (k : Int)) = false ∧ decide (0 < k) = false ∧ bv = false) ∨ (decide (0 < (k : Int)) = true ∧ decide (0 < k) = true ∧ bv = (kd == 0)) := by
        rcases hcase with ⟨h, h2⟩ | ⟨h, h2⟩
        · exact .inl ⟨by simp; omega, by simp; omega, h2⟩
        · exact .inr ⟨by simp; omega, by simp; omega, h2⟩
      clear hcase
      rcases hcase2 with ⟨hk0, hk0n, rfl⟩ | ⟨hk0, hk0n, rfl⟩
      all_goals
        go_upto_region 5 with fail
        have r0 := fun x => later_cell c9 x
        have r1 := fun x => later_cell dk x
        have hkz : (k : Int) < (B : Int) := by omega
        refine wp_region_tr (C := fun w' => ∃ x : Later (wr), w' = x.val) (.fl [0, 1, 2, 3, 4, 5, 6, 7, 8, 9, 10, 11] (.sq [12] true (.sq [13, 14, 15] false (.nil)))) (by kernel_rfl) (by kernel_rfl) (by intro c a d v w h; cases d <;> exact h) ?_
        simp only [trO, picks, List.getElem?_cons_succ, List.getElem?_cons_zero]
        have hC1 := later_drew (wr)
        refine wpTr_fl hC1 ?_
        repeat (first | go_big_quiet_step (fail) | quiet_step (fail))
        refine wpQuiet_nil ?_
        clear r0 r1
        have HMd := Lib.hid (HMm.out.later (later_below hC1))
        have HOd2 := Lib.hid (owned_below HO.out (later_below hC1) (Nat.le_refl _))
        have hbd : Hid (w2.heap.size ≤ wr.drew.heap.size) := Lib.hid (Nat.le_trans hbase.out (later_below hC1).size)
        generalize wr.drew = wd at *
        refine wpTr_sq (fun K hK => ?_)
        go_wp2_with fail
        have hbx := fun b => below_alloc wd (.cells #[Value.bool b] 4)
        refine hK _ _ (fun _ => later_step hC1 (hbx _)) ?_
        clear hK K
        refine wpTr_last ?_
        go_wp2_with (at_builtin; refine wpList_append_new elBool HOd2.out rfl (one_cell_bool _) hk9 (by decide) hbd.out rfl rfl rfl (by simp [Act.eval]) ?_; intro g6 c6 w6 ho6 hg6 hc6 hm6 hb6 hl6; have HO6 := Lib.hid ho6; have HM6 := Lib.hid (HMd.out.grow (below_grownBy (Below.refl _ _) HOd2.out hg6 hbd.out (Nat.le_refl _)) (HLt.out _) HW2.out); have HZ6 := Lib.hid (Nat.le_trans hbd.out hg6.size); have f9 := HM6.out.frozen 2 9 rfl; have c9x := HM6.out.cell 2 9 rfl (mgL_9 HDs.out.1 _ _); clear ho6 hg6)
        have hs7 := HM6.out.set 2 9 (.slice (some ⟨g6, 0, none⟩) (k + 1) c6) rfl (by rw [mgL_len HDs.out.1]; decide)
        rw [mgL_set9 HDs.out.1] at hs7
        go_roundw
        case rel =>
          refine ⟨k + 1, _, by omega, vint (by omega), hs7, ?_, ?_⟩
          · rw [HS.out, List.map_append]
            exact owned_touchd HO6.out (Touch.setCell ⟨p, 9, none⟩ (by simp) _) hpw
          · exact Nat.le_trans HZ6.out (Touch.setCell (L := [p]) ⟨p, 9, none⟩ (by simp) _).size
        case measure => simp [intOf]; omega
    · obtain rfl : k = B := by omega
      have hlt' : decide ((k : Int) < (k : Int)) = false := by simp
      go_wp2_with (first
        | (refine wpList_load_box (D := mgA D (.slice aL k cL) (.slice a1 k c1)) aggMg HMm.out 2 rfl (mgA_size HDs.out.1 _ _) rfl rfl rfl ?_)
        | (refine wpList_store_mem aggMg HMm.out 1 rfl rfl rfl rfl rfl (mgA_size HDs.out.1 _ _) (mgA_size HDs.out.1 _ _).symm (mgA_one HDs.out.2 rfl rfl) ?_; intro w9 h9 ht9; have H9 := Lib.hid h9; have HT9 := Lib.hid ht9; clear h9 ht9))
      refine bodyPost_ret (results_cell_row rfl _ _ _ _ _ _ _ rfl (H9.out.exact 1 rfl) Tryz.underlying35 rfl (infoM _ (mgA_size HDs.out.1 _ _))) rfl ?_
      rw [← HP.out]
      refine ⟨D, aL, cL, a1, c1, by rw [HD.out]; rfl, ⟨HRA.out.below H9.out.below (Nat.le_refl _), HC0.out.below H9.out.below (Nat.le_refl _), ?_, HLn.out, frL_len _ _⟩, MgNew.free (.inr (fun b o s e => ?_)), H9.out.below⟩
      · exact Cells.owned2 (owned_touchd HO.out HT9.out (by have := HM2.out.glt 1 rfl; omega))
      · subst e
        have := owned_addr HO.out _ rfl
        exact Nat.le_trans HW2.out this

end Go.Proofs.YtebnelihlgdciaaGreat

/- nvm: Lines, Steps, Dead, All, Arm; the reference's: Dirty, All, New; slices compared. -/
namespace Go.Proofs.YtebnelihlgdciaaGreat
open Go.RowKit
set_option linter.unusedVariables false

set_option maxHeartbeats 400000 in
theorem dlines_any {w : World} {F : Foot} {S : Dev} (h : DevAt w F S) :
    Calls Tryz.prog 78 #[vdev F] w fun e w' => e = .returned (.int .i64 (S.dirty.length : Nat)) ∧ w = w' := by
  have c1 : w.cell? ⟨F.d, 3, none⟩ = some (.slice (some ⟨F.t, 0, none⟩) S.dirty.length F.ct) := cell_of_row _ _ 3 _ _ _ h.head
  clear h
  go_enter Tryz.func78, Tryz.ntmps78
  go_wp2_with fail
  go_ret
  exact ⟨rfl, rfl⟩
set_option maxHeartbeats 400000 in
theorem dsteps_any {w : World} {F : Foot} {S : Dev} (h : DevAt w F S) :
    Calls Tryz.prog 36 #[vdev F] w fun e w' => e = .returned (.int .i64 S.steps) ∧ w = w' := by
  have c1 : w.cell? ⟨F.d, 5, none⟩ = some (.int .i64 S.steps) := cell_of_row _ _ 5 _ _ _ h.head
  clear h
  go_enter Tryz.func36, Tryz.ntmps36
  go_wp2_with fail
  go_ret
  exact ⟨rfl, rfl⟩
set_option maxHeartbeats 400000 in
theorem ddead_any {w : World} {F : Foot} {S : Dev} (h : DevAt w F S) :
    Calls Tryz.prog 6 #[vdev F] w fun e w' => e = .returned (.bool S.dead) ∧ w = w' := by
  have c1 : w.cell? ⟨F.d, 8, none⟩ = some (.bool S.dead) := cell_of_row _ _ 8 _ _ _ h.head
  clear h
  go_enter Tryz.func6, Tryz.ntmps6
  go_wp2_with fail
  go_ret
  exact ⟨rfl, rfl⟩
set_option maxHeartbeats 400000 in
theorem dall_any {w : World} {F : Foot} {S : Dev} (h : DevAt w F S) :
    Calls Tryz.prog 35 #[vdev F] w fun e w' => ∃ v, e = .returned v ∧ w'.ownsRow w.heap.size 77 1 v S.cache.length (S.lasting.map vu64) ∧ Below w.heap.size w w' := by
  have c1 : w.cell? ⟨F.d, 0, none⟩ = some (.slice (some ⟨F.l, 0, none⟩) S.cache.length F.cl) := cell_of_row _ _ 0 _ _ _ h.head
  have HL := Lib.hid h.lenL
  have HR := Lib.hid h.lasting
  have hsm := h.small
  clear h
  go_enter Tryz.func35, Tryz.ntmps35
  go_wp2_with fail
  refine (clone_any F.l 0 F.cl S.lasting HL.out w (fun i v hi => by rw [Nat.zero_add]; exact HR.out.cell hi) (by rw [HL.out]; exact hsm)).mono ?_
  rintro e w1 ⟨v, rfl, ho, hb, _⟩
  have HO := Lib.hid ho
  have HB := Lib.hid hb
  clear ho hb
  go_wp2_with fail
  go_ret
  exact ⟨v, rfl, HO.out, HB.out⟩

/-- A device is armed. -/
def Dev.arm (S : Dev) (n : Int) : Dev := { S with fuse := n, armed := decide (0 ≤ n) }
set_option maxHeartbeats 1000000 in
theorem darm_any {w : World} {F : Foot} {S : Dev} (h : DevAt w F S) (n : Int) :
    Calls Tryz.prog 22 #[vdev F, .int .i64 n] w fun e w' => e = .returned (.tuple #[]) ∧ DevAt w' F (S.arm n) ∧ Touch [F.d] w w' := by
  have hh := h.head
  have c6 : w.cell? ⟨F.d, 6, none⟩ = some (.int .i64 S.fuse) := cell_of_row _ _ 6 _ _ _ hh
  have c7 : w.cell? ⟨F.d, 7, none⟩ = some (.bool S.armed) := cell_of_row _ _ 7 _ _ _ hh
  have z6 : w.frozen? ⟨F.d, 6, none⟩ = false := frozen_of_row _ _ 6 _ _ hh
  have z7 : w.frozen? ⟨F.d, 7, none⟩ = false := frozen_of_row _ _ 7 _ _ hh
  have HF : Hid (DevAt ((w.setCell ⟨F.d, 6, none⟩ (.int .i64 n)).setCell ⟨F.d, 7, none⟩ (.bool (decide (0 ≤ n)))) F (S.arm n) ∧ Touch [F.d] w ((w.setCell ⟨F.d, 6, none⟩ (.int .i64 n)).setCell ⟨F.d, 7, none⟩ (.bool (decide (0 ≤ n))))) := by
    have t : Touch [F.d] w ((w.setCell ⟨F.d, 6, none⟩ (.int .i64 n)).setCell ⟨F.d, 7, none⟩ (.bool (decide (0 ≤ n)))) := (Touch.setCell _ (by simp) _).trans (Touch.setCell _ (by simp) _)
    refine Lib.hid ⟨h.head' ?_ t ⟨rfl, rfl, rfl, rfl, rfl⟩, t⟩
    rw [heap_setCell_same _ F.d 7 _ _ _ (heap_setCell_same w F.d 6 _ _ _ hh)]; rfl
  clear hh h
  go_enter Tryz.func22, Tryz.ntmps22
  go_wp2_with fail
  go_end0
  exact ⟨rfl, HF.out⟩

set_option maxHeartbeats 1000000 in
set_option maxRecDepth 20000 in
theorem rints_eq (a b : Option Addr) (n cap cap2 : Nat) (l : List Nat) (hn : l.length = n) (w : World) (hc : Cells w a (l.map vi)) (hc2 : Cells w b (l.map vi)) (hl : n ≤ 1000000000) :
    Calls Tryz.prog 79 #[.slice a n cap, .slice b n cap2] w fun e w' => e = .returned (.bool true) ∧ ∃ q, w' = w.drewN q := by
  have HN := Lib.hid hn
  have HC := Lib.hid hc
  have HC2 := Lib.hid hc2
  clear hn hc hc2
  have hne : (n != n) = false := by simp
  have hne2 : ((n : Int) != (n : Int)) = false := by simp
  go_enter Tryz.func79, Tryz.ntmps79
  go_wp2_with fail
  go_loopw [5] (fun i wr => ∃ k : Nat, k ≤ n ∧ i = .int .i64 k ∧ ∃ q, wr = w.drewN q) (fun i _ => n - (intOf i).toNat)
  case atStart => exact ⟨0, Nat.zero_le _, rfl, 0, rfl⟩
  case round =>
    obtain ⟨k, hk, rfl, q, rfl⟩ := hrel
    by_cases hlt : k < n
    · have hlt' : (k : Int) < (n : Int) := by omega
      have hkl : k < l.length := by rw [HN.out]; exact hlt
      obtain ⟨b1, o1, rfl, _, h1⟩ := HC.out.atMap 0 hkl
      obtain ⟨b2, o2, rfl, _, h2⟩ := HC2.out.atMap 0 hkl
      have d0 := h1 k hkl
      have d1 := h2 k hkl
      clear h1 h2 hkl
      generalize l.getD k 0 = x at *
      have hx : ((x : Int) != (x : Int)) = false := by simp
      have hx2 : (x != x) = false := by simp
      go_wp2_with fail
      go_quiet (fail)
      go_wp2_with fail
      exact ⟨⟨k + 1, by omega, vint (by omega), _, rfl⟩, by simp [intOf]; omega⟩
    · obtain rfl : k = n := by omega
      have hlt' : decide ((k : Int) < (k : Int)) = false := by simp
      go_wp2_with fail
      go_ret
      exact ⟨rfl, _, rfl⟩
set_option maxHeartbeats 1000000 in
set_option maxRecDepth 20000 in
theorem rsame_eq (a b : Option Addr) (n cap cap2 : Nat) (l : List Nat) (hn : l.length = n) (w : World) (hc : Cells w a (l.map vu64)) (hc2 : Cells w b (l.map vu64)) (hl : n ≤ 1000000000) :
    Calls Tryz.prog 81 #[.slice a n cap, .slice b n cap2] w fun e w' => e = .returned (.bool true) ∧ ∃ q, w' = w.drewN q := by
  have HN := Lib.hid hn
  have HC := Lib.hid hc
  have HC2 := Lib.hid hc2
  clear hn hc hc2
  have hne : (n != n) = false := by simp
  have hne2 : ((n : Int) != (n : Int)) = false := by simp
  go_enter Tryz.func81, Tryz.ntmps81
  go_wp2_with fail
  go_loopw [5] (fun i wr => ∃ k : Nat, k ≤ n ∧ i = .int .i64 k ∧ ∃ q, wr = w.drewN q) (fun i _ => n - (intOf i).toNat)
  case atStart => exact ⟨0, Nat.zero_le _, rfl, 0, rfl⟩
  case round =>
    obtain ⟨k, hk, rfl, q, rfl⟩ := hrel
    by_cases hlt : k < n
    · have hlt' : (k : Int) < (n : Int) := by omega
      have hkl : k < l.length := by rw [HN.out]; exact hlt
      obtain ⟨b1, o1, rfl, _, h1⟩ := HC.out.atMap 0 hkl
      obtain ⟨b2, o2, rfl, _, h2⟩ := HC2.out.atMap 0 hkl
      have d0 := h1 k hkl
      have d1 := h2 k hkl
      clear h1 h2 hkl
      generalize l.getD k 0 = x at *
      have hx : ((x : Int) != (x : Int)) = false := by simp
      have hx2 : (x != x) = false := by simp
      go_wp2_with fail
      go_quiet (fail)
      go_wp2_with fail
      exact ⟨⟨k + 1, by omega, vint (by omega), _, rfl⟩, by simp [intOf]; omega⟩
    · obtain rfl : k = n := by omega
      have hlt' : decide ((k : Int) < (k : Int)) = false := by simp
      go_wp2_with fail
      go_ret
      exact ⟨rfl, _, rfl⟩

theorem owned_base {w : World} {base B e size n : Nat} {v : Value} {xs : List Value} (h : w.ownsRow base e size v n xs) (hB : B ≤ base) : w.ownsRow B e size v n xs := by
  refine ⟨h.1, ?_⟩
  rcases h.2 with hn | ⟨g, cap, cur, hv, hb, r⟩
  · exact .inl hn
  · exact .inr ⟨g, cap, cur, hv, Nat.le_trans hB hb, r⟩

set_option maxHeartbeats 1000000 in
set_option maxRecDepth 20000 in
theorem rdirty_any {w : World} {v : Value} {S : Dev} {m : Nat} (hm : S.dirty.length = m) (h : RAt w v m S.ref) (hm8 : m ≤ 125000) :
    Calls Tryz.prog 80 #[v] w fun e w' => ∃ v', e = .returned v' ∧ w'.ownsRow w.heap.size 3 1 v' (dirtyL S.dirty m).length ((dirtyL S.dirty m).map vi) ∧ Below w.heap.size w w' := by
  obtain ⟨an, cn, al, cl, aw, cw, ad, cd, ap, cp, rfl, k1, k2, k3, k4, k5⟩ := h.ex
  have HK : Hid (Cells w ad (S.dirty.map Value.bool)) := Lib.hid k4
  clear h k1 k2 k3 k4 k5
  generalize S.ref.steps = sv at *
  generalize S.ref.fuse = fz at *
  generalize S.ref.dead = dd at *
  have HM := Lib.hid hm
  clear hm
  have HMm := Lib.hid (Mem.one w #[.slice an m cn, .slice al m cl, .slice aw m cw, .slice ad m cd, .slice ap m cp, .int .i64 sv, .int .i64 fz, .bool dd] 32)
  go_enter Tryz.func80, Tryz.ntmps80
  go_upto_region 1 with fail
  generalize w.alloc _ = w0 at *
  obtain ⟨q, hq⟩ : ∃ q, q = w.heap.size := ⟨_, rfl⟩
  rw [← hq] at HMm ⊢
  have HQ := Lib.hid hq
  clear hq
  go_wp2_with fail
  go_loopw [3, 4] (fun v i wr => ∃ k : Nat, k ≤ m ∧ i = .int .i64 k ∧ wr.ownsRow w0.heap.size 3 1 v (dirtyL S.dirty k).length ((dirtyL S.dirty k).map vi) ∧ Below w0.heap.size w0 wr) (fun _ i _ => m - (intOf i).toNat)
  case atStart => exact ⟨0, Nat.zero_le _, rfl, ⟨rfl, .inl ⟨rfl, rfl⟩⟩, Below.refl _ _⟩
  case round =>
    obtain ⟨k, hk, rfl, ho, hb⟩ := hrel
    obtain ⟨a1, c1', rfl, hc1, hm1⟩ := owned_form ho
    have hdl := dirtyL_len S.dirty k
    have c3 := (HMm.out.later hb).cell 0 3 rfl rfl
    have HO := Lib.hid ho
    have HB := Lib.hid hb
    clear ho hb
    by_cases hlt : k < m
    · have hlt' : (k : Int) < (m : Int) := by omega
      have HS : Hid (dirtyL S.dirty (k + 1) = dirtyL S.dirty k ++ (if S.dirty.getD k false then [k] else [])) := Lib.hid rfl
      obtain ⟨b1, o1, rfl, _, hcs⟩ := (HK.out.below (HMm.out.later HB.out).below (Nat.le_refl _)).atMap false (show k < S.dirty.length by rw [HM.out]; exact hlt)
      have d0 := hcs k (by rw [HM.out]; exact hlt)
      clear hcs
      generalize hq : S.dirty.getD k false = bk at *
      cases bk
      · clear hq
        go_wp2_with fail
        refine ⟨⟨k + 1, by omega, vint (by omega), ?_, HB.out⟩, by simp [intOf]; omega⟩
        rw [HS.out]
        simpa using HO.out
      · have hone : Hid (∀ u ∈ (#[Value.int .i64 (k : Int)] : Array Value).toList, u.oneCell' = true) := Lib.hid (by intro u hu; simp at hu; subst hu; rfl)
        have hbase : Hid (w0.heap.size ≤ wr.heap.size) := Lib.hid HB.out.size
        have hk9 : Hid ((dirtyL S.dirty k).length < 1000000000000) := Lib.hid (by omega)
        clear hq hdl hc1 hm1
        generalize hz : (dirtyL S.dirty k).length = z at *
        have HZ := Lib.hid hz
        clear hz
        go_wp2_with (at_builtin; refine wpList_append_new (us := #[.int .i64 (k : Int)]) elInt HO.out rfl hone.out hk9.out (by decide) hbase.out rfl rfl rfl (by simp [Act.eval]) ?_; intro g6 c6 w6 ho6 hg6 hc6 hm6 hb6 hl6; have HO6 := Lib.hid ho6; have HG6 := Lib.hid hg6; clear ho6 hg6)
        refine ⟨⟨k + 1, by omega, vint (by omega), ?_, below_grownBy HB.out HO.out HG6.out (Nat.le_refl _) (Nat.le_refl _)⟩, by simp [intOf]; omega⟩
        rw [HS.out]
        simpa [HZ.out] using HO6.out
    · obtain rfl : k = m := by omega
      have hlt' : decide ((k : Int) < (k : Int)) = false := by simp
      go_wp2_with fail
      go_ret
      exact ⟨_, rfl, owned_base HO.out HMm.out.below.size, HMm.out.below.trans (HB.out.mono HMm.out.below.size)⟩

theorem seg_cells {w : World} {b off : Nat} {l : List Nat} (h : Cells w (some ⟨b, off, none⟩) (l.map vu64)) (k : Nat) : Cells w (some ⟨b, off + k * 8, none⟩) ((seg l k).map vu64) := by
  have := (h.drop (8 * k)).take 8
  rw [Nat.mul_comm k 8]
  unfold seg
  rw [List.map_take, List.map_drop]
  exact this
theorem take_seg (l : List Nat) (k m : Nat) (hl : l.length = 8 * m) (hk : k < m) : l.take (8 * (k + 1)) = l.take (8 * k) ++ seg l k := by
  unfold seg
  rw [show 8 * (k + 1) = 8 * k + 8 by omega, List.take_add]

set_option maxHeartbeats 1000000 in
set_option maxRecDepth 20000 in
theorem rall_any (a : Option Addr) (m cap : Nat) (l : List Nat) (w : World) (hc : Cells w a (l.map vu64)) (hl : l.length = 8 * m) (hm8 : m ≤ 125000) :
    Calls Tryz.prog 82 #[.slice a m cap] w fun e w' => ∃ v, e = .returned v ∧ w'.ownsRow w.heap.size 77 1 v (8 * m) (l.map vu64) ∧ Below w.heap.size w w' := by
  have HC := Lib.hid hc
  have HL := Lib.hid hl
  clear hc hl
  go_enter Tryz.func82, Tryz.ntmps82
  go_wp2_with fail
  go_loopw [3, 4] (fun v i wr => ∃ k : Nat, k ≤ m ∧ i = .int .i64 k ∧ wr.ownsRow w.heap.size 77 1 v (8 * k) ((l.take (8 * k)).map vu64) ∧ Below w.heap.size w wr) (fun _ i _ => m - (intOf i).toNat)
  case atStart => exact ⟨0, Nat.zero_le _, rfl, ⟨rfl, .inl ⟨rfl, rfl⟩⟩, Below.refl _ _⟩
  case round =>
    obtain ⟨k, hk, rfl, ho, hb⟩ := hrel
    obtain ⟨a1, c1, rfl, hc1, hm1⟩ := owned_form ho
    have HO := Lib.hid ho
    have HB := Lib.hid hb
    clear ho hb
    by_cases hlt : k < m
    · have hlt' : (k : Int) < (m : Int) := by omega
      have hlt8 : k * 8 < l.length := by rw [HL.out]; omega
      obtain ⟨b1, o1, rfl, hb1, _⟩ := (HC.out.below HB.out (Nat.le_refl _)).atMap 0 hlt8
      have HSeg := Lib.hid (seg_cells (HC.out.below HB.out (Nat.le_refl _)) k)
      have HSl : Hid (((seg l k).map vu64).length = 8 * 1) := Lib.hid (by rw [List.length_map, seg_length _ _ (by rw [HL.out]; omega)])
      have HT := Lib.hid (take_seg l k m HL.out hlt)
      have hone : Hid (∀ u ∈ (seg l k).map vu64, u.oneCell' = true) := Lib.hid (one_cells _)
      have hbase : Hid (w.heap.size ≤ wr.heap.size) := Lib.hid HB.out.size
      have hk9 : 8 * k + 8 < 1000000000000 := by omega
      clear hlt8 hc1 hm1
      go_wp2_with (at_builtin; refine wpList_append_cells (m := 8) (c := 8) el64 HO.out HSeg.out (by rw [HSl.out]) hone.out hk9 (by decide) hbase.out rfl rfl rfl rfl ?_; intro v6 w6 ho6 hg6 _; have HO6 := Lib.hid ho6; have HG6 := Lib.hid hg6; clear ho6 hg6)
      refine ⟨⟨k + 1, by omega, vint (by omega), ?_, below_grownBy HB.out HO.out HG6.out (Nat.le_refl _) (Nat.le_refl _)⟩, by simp [intOf]; omega⟩
      rw [HT.out, List.map_append]
      exact HO6.out
    · obtain rfl : k = m := by omega
      have hlt' : decide ((k : Int) < (k : Int)) = false := by simp
      go_wp2_with fail
      go_ret
      refine ⟨_, rfl, ?_, HB.out⟩
      have := HO.out
      rwa [List.take_of_length_le (by rw [HL.out]; exact Nat.le_refl _)] at this

end Go.Proofs.YtebnelihlgdciaaGreat

/- nvm: Lasting. -/
namespace Go.Proofs.YtebnelihlgdciaaGreat
open Go.RowKit
set_option linter.unusedVariables false

set_option maxHeartbeats 1000000 in
theorem dlasting_any {w : World} {F : Foot} {S : Dev} (h : DevAt w F S) (i : Int) :
    Calls Tryz.prog 83 #[vdev F, .int .i64 i] w fun e w' => e = .returned (vu64 (peek S.lasting i)) ∧ w = w' := by
  have c1 : w.cell? ⟨F.d, 0, none⟩ = some (.slice (some ⟨F.l, 0, none⟩) S.cache.length F.cl) := cell_of_row _ _ 0 _ _ _ h.head
  have hll := h.lenL
  have HR := Lib.hid h.lasting
  by_cases h0 : i < 0
  · have HP : Hid (peek S.lasting i = 0) := Lib.hid (by unfold peek; rw [if_neg (by omega)])
    clear h hll
    go_enter Tryz.func83, Tryz.ntmps83
    go_wp2_with fail
    go_ret
    exact ⟨ret_int (by rw [HP.out]; rfl), rfl⟩
  obtain ⟨j, rfl⟩ := Int.eq_ofNat_of_zero_le (show 0 ≤ i by omega)
  by_cases h1 : j < S.cache.length
  · have h1' : decide ((S.cache.length : Int) ≤ (j : Int)) = false := by simp; omega
    have h1n : decide (S.cache.length ≤ j) = false := by simp; omega
    have HP : Hid (peek S.lasting (j : Int) = S.lasting.getD j 0) := Lib.hid (by unfold peek; rw [if_pos (by omega)]; rfl)
    have d0 : w.cell? ⟨F.l, j, none⟩ = some (vu64 (S.lasting.getD j 0)) := HR.out.cell (by simp [show j < S.lasting.length by omega])
    clear h hll
    generalize S.lasting.getD j 0 = y at *
    go_enter Tryz.func83, Tryz.ntmps83
    go_wp2_with fail
    go_ret
    exact ⟨by rw [HP.out]; rfl, rfl⟩
  · have h1' : (S.cache.length : Int) ≤ (j : Int) := by omega
    have h1n : S.cache.length ≤ j := by omega
    have HP : Hid (peek S.lasting (j : Int) = 0) := Lib.hid (by unfold peek; rw [if_pos (by omega)]; show S.lasting.getD j 0 = 0; exact getD_zero_of (by omega))
    clear h hll
    go_enter Tryz.func83, Tryz.ntmps83
    go_wp2_with fail
    go_ret
    exact ⟨ret_int (by rw [HP.out]; rfl), rfl⟩

end Go.Proofs.YtebnelihlgdciaaGreat

/- law03: Same. -/
namespace Go.Proofs.YtebnelihlgdciaaGreat
open Go.RowKit
set_option linter.unusedVariables false

set_option maxHeartbeats 4000000 in
set_option maxRecDepth 100000 in
theorem same3_like {w : World} {F : Foot} {v : Value} {S T : Dev} {m : Nat} (hm : S.dirty.length = m) (hd : DevAt w F S) (h : RAt w v m T.ref) (z1 : T.cache = S.cache) (z2 : T.lasting = S.lasting) (z3 : T.dirty = S.dirty) (z4 : T.steps = S.steps) (z5 : T.dead = S.dead) :
    Calls Tryz.prog 50 #[vdev F, v] w fun e w' => e = .returned (.bool true) ∧ Below w.heap.size w w' := by
  have hwf := hd.wf
  have hcl : S.cache.length = 8 * m := by have := hwf.lenD; rw [hm] at this; exact this
  have hm8 : m ≤ 125000 := by have := hwf.small; omega
  obtain ⟨an, cn, al, cl, aw, cw, ad, cd, ap, cp, rfl, k1, k2, k3, k4, k5⟩ := h.ex
  have HK1 : Hid (Cells w an (S.cache.map vu64)) := Lib.hid (by rw [← z1]; exact k1)
  have HK2 : Hid (Cells w al (S.lasting.map vu64)) := Lib.hid (by rw [← z2]; exact k2)
  have HLL : Hid (S.lasting.length = 8 * m) := Lib.hid (by rw [hwf.lenL]; exact hcl)
  have HRA := Lib.hid h
  clear k1 k2 k3 k4 k5 h hwf
  have HZ3 := Lib.hid z3
  rw [show T.ref.steps = S.steps from z4, show T.ref.dead = S.dead from z5] at *
  generalize hfz : T.ref.fuse = fz at *
  have HDSt := Lib.hid (fun W (h : DevAt W F S) => dsteps_any h)
  have HDDd := Lib.hid (fun W (h : DevAt W F S) => ddead_any h)
  generalize hsv : S.steps = sv at *
  generalize hdd : S.dead = dd at *
  have HD := Lib.hid hd
  have HMm := Lib.hid hm
  have HCL := Lib.hid hcl
  clear hfz hsv hdd hd hm hcl z1 z2 z3 z4 z5
  unfold vdev at *
  have HM := Lib.hid (Mem.one w #[.slice an m cn, .slice al m cl, .slice aw m cw, .slice ad m cd, .slice ap m cp, .int .i64 sv, .int .i64 fz, .bool dd] 32)
  go_enter Tryz.func50, Tryz.ntmps50
  go_upto_region 1 with fail
  generalize w.alloc _ = w0 at *
  obtain ⟨q, hq⟩ : ∃ q, q = w.heap.size := ⟨_, rfl⟩
  rw [← hq] at HM ⊢
  have HQ := Lib.hid hq
  clear hq
  have HD0 := Lib.hid (HD.out.below HM.out.below)
  have HRA0 := Lib.hid (HRA.out.below HM.out.below (Nat.le_refl _))
  have HK10 := Lib.hid (HK1.out.below HM.out.below (Nat.le_refl _))
  have HK20 := Lib.hid (HK2.out.below HM.out.below (Nat.le_refl _))
  have d0 := HM.out.cell 0 0 rfl rfl
  have d1 := HM.out.cell 0 1 rfl rfl
  have d2 := HM.out.cell 0 2 rfl rfl
  have d3 := HM.out.cell 0 3 rfl rfl
  have d4 := HM.out.cell 0 4 rfl rfl
  have d5 := HM.out.cell 0 5 rfl rfl
  have d6 := HM.out.cell 0 6 rfl rfl
  have d7 := HM.out.cell 0 7 rfl rfl
  have r0 := fun x => later_cell d0 x
  have r1 := fun x => later_cell d1 x
  have r2 := fun x => later_cell d2 x
  have r3 := fun x => later_cell d3 x
  have r4 := fun x => later_cell d4 x
  have r5 := fun x => later_cell d5 x
  have r6 := fun x => later_cell d6 x
  have r7 := fun x => later_cell d7 x
  clear d0 d1 d2 d3 d4 d5 d6 d7 HD HRA HK1 HK2
  have hn1 : (8 * (m : Int) != 8 * (m : Int)) = false := by simp
  have hn1' : (((8 * m : Nat) : Int) != 8 * (m : Int)) = false := by simp
  have hn2 : ((m : Int) != (m : Int)) = false := by simp
  have hn2' : (m != m) = false := by simp
  have hn3 : (sv != sv) = false := by simp
  have hn4 : (dd != dd) = false := by simp
  refine wp_region_seg (C := fun w' => ∃ x : Later (w0), w' = x.val) [.fl [0, 2, 3, 4, 5], .sq [1] true, .sq [6, 7] false, .fl [8, 10, 11, 12], .sq [9] true, .sq [13, 14, 15] false, .fl [16, 18, 19], .sq [17] true, .sq [20, 21, 22] false, .fl [23, 25, 26], .sq [24] true, .sq [27, 28, 29] false, .fl [30, 32], .sq [31] true, .sq [33, 34, 35, 36, 37] false, .fl [38, 40, 41], .sq [39] true, .sq [42, 43, 44, 45] false] (by kernel_rfl) (by kernel_rfl) (by intro c a d v w h; cases d <;> exact h) ?_
  simp only [segs, picks, List.getElem?_cons_succ, List.getElem?_cons_zero]
  have hC1 := later_drew (w0)
  refine wpSeg_fl hC1 ?_
  repeat (first | go_big_quiet_step (fail) | quiet_step (fail))
  refine wpQuiet_nil ?_
  refine wpSeg_sq (fun K hK => ?_)
  go_wp2_with fail
  refine (dlen_any (HD0.out.below (later_below hC1))).mono ?_
  rintro e w2 ⟨rfl, rfl⟩
  rw [HCL.out]
  go_wp2_with fail
  refine hK _ _ (fun _ => hC1) ?_
  clear hK K
  refine wpSeg_sq (fun K hK => ?_)
  go_wp2_with fail
  go_wp2_with fail
  refine hK _ _ (fun h => nomatch h) ?_
  clear hK K
  refine wpSeg_fl hC1 ?_
  repeat (first | go_big_quiet_step (fail) | quiet_step (fail))
  refine wpQuiet_nil ?_
  refine wpSeg_sq (fun K hK => ?_)
  go_wp2_with fail
  refine (dlines_any (HD0.out.below (later_below hC1))).mono ?_
  rintro e w2 ⟨rfl, rfl⟩
  rw [HMm.out]
  go_wp2_with fail
  refine hK _ _ (fun _ => hC1) ?_
  clear hK K
  refine wpSeg_sq (fun K hK => ?_)
  go_wp2_with fail
  go_wp2_with fail
  refine hK _ _ (fun h => nomatch h) ?_
  clear hK K
  refine wpSeg_fl hC1 ?_
  repeat (first | go_big_quiet_step (fail) | quiet_step (fail))
  refine wpQuiet_nil ?_
  refine wpSeg_sq (fun K hK => ?_)
  go_wp2_with fail
  refine (HDSt.out _ (HD0.out.below (later_below hC1))).mono ?_
  rintro e w2 ⟨rfl, rfl⟩
  go_wp2_with fail
  refine hK _ _ (fun _ => hC1) ?_
  clear hK K
  refine wpSeg_sq (fun K hK => ?_)
  go_wp2_with fail
  go_wp2_with fail
  refine hK _ _ (fun h => nomatch h) ?_
  clear hK K
  refine wpSeg_fl hC1 ?_
  repeat (first | go_big_quiet_step (fail) | quiet_step (fail))
  refine wpQuiet_nil ?_
  refine wpSeg_sq (fun K hK => ?_)
  go_wp2_with fail
  refine (HDDd.out _ (HD0.out.below (later_below hC1))).mono ?_
  rintro e w2 ⟨rfl, rfl⟩
  go_wp2_with fail
  refine hK _ _ (fun _ => hC1) ?_
  clear hK K
  refine wpSeg_sq (fun K hK => ?_)
  go_wp2_with fail
  go_wp2_with fail
  refine hK _ _ (fun h => nomatch h) ?_
  clear hK K
  refine wpSeg_fl hC1 ?_
  repeat (first | go_big_quiet_step (fail) | quiet_step (fail))
  refine wpQuiet_nil ?_
  refine wpSeg_sq (fun K hK => ?_)
  go_wp2_with fail
  refine (dirty_any (HD0.out.below (later_below hC1))).mono ?_
  rintro e w2 ⟨v2, rfl, ho2, hb2⟩
  obtain ⟨a2, c2, rfl, hc2, hm2⟩ := owned_form ho2
  have hC2 := later_step hC1 hb2
  rw [HMm.out] at ho2 ⊢
  have HO2 := Lib.hid (Cells.owned ho2)
  clear ho2 hb2 hc2 hm2
  go_wp2_with fail
  refine hK _ _ (fun _ => hC2) ?_
  clear hK K
  refine wpSeg_sq (fun K hK => ?_)
  go_wp2_with fail
  refine (rdirty_any (S := T) (by rw [HZ3.out]; exact HMm.out) (HRA0.out.below (later_below hC2) (Nat.le_refl _)) hm8).mono ?_
  rw [HZ3.out]
  rintro e w3 ⟨v3, rfl, ho3, hb3⟩
  obtain ⟨a3, c3, rfl, hc3, hm3⟩ := owned_form ho3
  have hC3 := later_step hC2 hb3
  have HO3 := Lib.hid (Cells.owned ho3)
  have HO2' := Lib.hid (HO2.out.below hb3 (Nat.le_refl _))
  have hdl : (dirtyL S.dirty m).length ≤ 1000000000 := by have := dirtyL_len S.dirty m; omega
  clear ho3 hb3 hc3 hm3
  go_wp2_with fail
  refine (rints_eq a2 a3 _ c2 c3 (dirtyL S.dirty m) rfl _ HO2'.out HO3.out hdl).mono ?_
  rintro e w4 ⟨rfl, q4, rfl⟩
  have hC4 := later_drewN hC3 q4
  clear HO2 HO3 HO2'
  go_wp2_with fail
  refine hK _ _ (fun h => nomatch h) ?_
  clear hK K
  refine wpSeg_fl hC4 ?_
  repeat (first | go_big_quiet_step (fail) | quiet_step (fail))
  refine wpQuiet_nil ?_
  refine wpSeg_sq (fun K hK => ?_)
  go_wp2_with fail
  refine (dall_any (HD0.out.below (later_below hC4))).mono ?_
  rintro e w5 ⟨v5, rfl, ho5, hb5⟩
  obtain ⟨a5, c5, rfl, hc5, hm5⟩ := owned_form ho5
  have hC5 := later_step hC4 hb5
  rw [HCL.out] at ho5 ⊢
  have HO5 := Lib.hid (Cells.owned ho5)
  clear ho5 hb5 hc5 hm5
  go_wp2_with fail
  refine hK _ _ (fun _ => hC5) ?_
  clear hK K
  refine wpSeg_last ?_
  go_wp2_with fail
  refine (rall_any al m cl S.lasting _ (HK20.out.below (later_below hC5) (Nat.le_refl _)) HLL.out hm8).mono ?_
  rintro e w6 ⟨v6, rfl, ho6, hb6⟩
  obtain ⟨a6, c6, rfl, hc6, hm6⟩ := owned_form ho6
  have hC6 := later_step hC5 hb6
  have HO6 := Lib.hid (Cells.owned ho6)
  have HO5' := Lib.hid (HO5.out.below hb6 (Nat.le_refl _))
  clear ho6 hb6 hc6 hm6
  go_wp2_with fail
  refine (rsame_eq a5 a6 (8 * m) c5 c6 S.lasting HLL.out _ HO5'.out HO6.out (by omega)).mono ?_
  rintro e w7 ⟨rfl, q7, rfl⟩
  have HB7 := Lib.hid (later_below (later_drewN hC6 q7))
  clear HO5 HO6 HO5' hC1 hC2 hC3 hC4 hC5 hC6 r0 r1 r2 r3 r4 r5 r6 r7
  generalize w6.drewN q7 = w8 at *
  go_wp2_with fail
  go_loopw [5] (fun i wr => ∃ k : Nat, k ≤ 8 * m ∧ i = .int .i64 k ∧ Below w0.heap.size w0 wr) (fun i _ => 8 * m - (intOf i).toNat)
  case atStart => exact ⟨0, Nat.zero_le _, rfl, HB7.out⟩
  case round =>
    obtain ⟨k, hk, rfl, hb⟩ := hrel
    have c0 := (HM.out.later hb).cell 0 0 rfl rfl
    have c1 := (HM.out.later hb).cell 0 1 rfl rfl
    have HB := Lib.hid hb
    clear hb
    by_cases hlt : k < 8 * m
    · have hlt' : (k : Int) < 8 * (m : Int) := by omega
      have HDk := Lib.hid (HD0.out.below HB.out)
      have HK1k := Lib.hid (HK10.out.below HB.out (Nat.le_refl _))
      have HK2k := Lib.hid (HK20.out.below HB.out (Nat.le_refl _))
      have HGet := Lib.hid (fun W (h : DevAt W F S) => dget_any h (k : Int))
      have HLas := Lib.hid (fun W (h : DevAt W F S) => dlasting_any h (k : Int))
      have HRg1 := Lib.hid (fun W (h : Cells W an (S.cache.map vu64)) => rget_any an m cn S.cache W h HCL.out (by omega) (k : Int))
      have HRg2 := Lib.hid (fun W (h : Cells W al (S.lasting.map vu64)) => rget_any al m cl S.lasting W h HLL.out (by omega) (k : Int))
      generalize peek S.cache (k : Int) = x at *
      generalize peek S.lasting (k : Int) = y at *
      have hx1 : ((x : Int) != (x : Int)) = false := by simp
      have hx2 : (x != x) = false := by simp
      have hy1 : ((y : Int) != (y : Int)) = false := by simp
      have hy2 : (y != y) = false := by simp
      have r0 := fun x => later_cell c0 x
      have r1 := fun x => later_cell c1 x
      unfold vdev at HGet HLas
      clear HB7
      go_upto_region 6 with fail
      refine wp_region_seg (C := fun w' => ∃ x : Later (wr), w' = x.val) [.fl [0, 1, 3, 4, 5], .sq [2] true, .sq [6, 7, 8] false, .fl [9, 10, 12, 13, 14], .sq [11] true, .sq [15, 16, 17] false] (by kernel_rfl) (by kernel_rfl) (by intro c a d v w h; cases d <;> exact h) ?_
      simp only [segs, picks, List.getElem?_cons_succ, List.getElem?_cons_zero]
      have hC1 := later_drew (wr)
      refine wpSeg_fl hC1 ?_
      repeat (first | go_big_quiet_step (fail) | quiet_step (fail))
      refine wpQuiet_nil ?_
      refine wpSeg_sq (fun K hK => ?_)
      go_wp2_with fail
      refine (HGet.out _ (HDk.out.below (later_below hC1))).mono ?_
      rintro e w2 ⟨rfl, rfl⟩
      go_wp2_with fail
      refine hK _ _ (fun _ => hC1) ?_
      clear hK K
      refine wpSeg_sq (fun K hK => ?_)
      go_wp2_with fail
      refine (HRg1.out _ (HK1k.out.below (later_below hC1) (Nat.le_refl _))).mono ?_
      rintro e w2 ⟨rfl, rfl⟩
      go_wp2_with fail
      refine hK _ _ (fun h => nomatch h) ?_
      clear hK K
      refine wpSeg_fl hC1 ?_
      repeat (first | go_big_quiet_step (fail) | quiet_step (fail))
      refine wpQuiet_nil ?_
      refine wpSeg_sq (fun K hK => ?_)
      go_wp2_with fail
      refine (HLas.out _ (HDk.out.below (later_below hC1))).mono ?_
      rintro e w2 ⟨rfl, rfl⟩
      go_wp2_with fail
      refine hK _ _ (fun _ => hC1) ?_
      clear hK K
      refine wpSeg_last ?_
      go_wp2_with fail
      refine (HRg2.out _ (HK2k.out.below (later_below hC1) (Nat.le_refl _))).mono ?_
      rintro e w2 ⟨rfl, rfl⟩
      go_wp2_with fail
      exact ⟨⟨k + 1, by omega, vint (by omega), HB.out.trans ((later_below hC1).mono HB.out.size)⟩, by simp [intOf]; omega⟩
    · obtain rfl : k = 8 * m := by omega
      have hlt' : decide (((8 * m : Nat) : Int) < 8 * (m : Int)) = false := by simp
      have hlt2 : decide (8 * (m : Int) < 8 * (m : Int)) = false := by simp
      go_wp2_with fail
      go_ret
      exact ⟨rfl, (HM.out.later HB.out).below⟩

theorem same3_any {w : World} {F : Foot} {v : Value} {S : Dev} {m : Nat} (hm : S.dirty.length = m) (hd : DevAt w F S) (h : RAt w v m S.ref) :
    Calls Tryz.prog 50 #[vdev F, v] w fun e w' => e = .returned (.bool true) ∧ Below w.heap.size w w' := same3_like hm hd h rfl rfl rfl rfl rfl

end Go.Proofs.YtebnelihlgdciaaGreat
