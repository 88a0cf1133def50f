/- Parts of the proof, one behind the other: Mem, Mix, Mr, Mx, Tr, Sc, Ix, Iy, Iz, Ig, It. -/
import Derived.Test.YtlaaamaaabcfeaaM1
import Derived.Laws.OwnMore
import Derived.WalkKit
import Derived.Carry

/- The blocks that a call has made, as a list: what lies in each of them; all else is as it was. -/
namespace Go.Proofs.Ytlaaamaaabcfeaa
open Go.RowKit
set_option linter.unusedVariables false

/-- A block: its number, its elements' type, its first cells; are these all? -/
structure Ent where
  g : Nat
  e : Nat
  vs : List Value
  ex : Bool

def RowX (W : World) (x : Ent) : Prop := ∃ xs : Array Value, W.heap[x.g]? = some (.cells xs x.e (0, 0)) ∧ ∃ more, xs.toList = x.vs ++ more ∧ (x.ex = true → more = [])

theorem RowX.row {W : World} {x : Ent} (h : RowX W x) : RowAt W x.g x.e x.vs := by
  obtain ⟨xs, h1, more, h2, _⟩ := h
  exact ⟨xs, h1, more, h2⟩
theorem RowX.of {W : World} {g e : Nat} {vs : List Value} (h : RowAt W g e vs) : RowX W ⟨g, e, vs, false⟩ := by
  obtain ⟨xs, h1, more, h2⟩ := h
  exact ⟨xs, h1, more, h2, fun h => by cases h⟩
theorem RowX.lt {W : World} {x : Ent} (h : RowX W x) : x.g < W.heap.size := h.row.lt
theorem RowX.keep {W W' : World} {x : Ent} (h : RowX W x) (hk : W'.heap[x.g]? = W.heap[x.g]?) : RowX W' x := by
  obtain ⟨xs, h1, r⟩ := h
  exact ⟨xs, hk.trans h1, r⟩
theorem RowX.exact {W : World} {g e : Nat} {vs : List Value} (h : RowX W ⟨g, e, vs, true⟩) : W.heap[g]? = some (.cells vs.toArray e (0, 0)) := by
  obtain ⟨xs, h1, more, h2, h3⟩ := h
  have := h3 rfl
  subst this
  simp at h2
  subst h2
  simpa using h1

structure Mem (w W : World) (L : List Ent) : Prop where
  below : Below w.heap.size w W
  rows : ∀ x ∈ L, RowX W x
  base : ∀ x ∈ L, w.heap.size ≤ x.g
  nd : (L.map Ent.g).Nodup

theorem Mem.start (w : World) : Mem w w [] := ⟨Below.refl _ _, by simp, by simp, by simp⟩
theorem Mem.lt {w W : World} {L : List Ent} (h : Mem w W L) : ∀ x ∈ L, x.g < W.heap.size := fun x hx => (h.rows x hx).lt
theorem Mem.later {w W W' : World} {L : List Ent} (h : Mem w W L) (hb : Below W.heap.size W W') : Mem w W' L :=
  ⟨h.below.trans (hb.mono h.below.size), fun x hx => (h.rows x hx).keep (hb.block _ (h.lt x hx)), h.base, h.nd⟩
theorem Mem.add {w W W' : World} {L : List Ent} (h : Mem w W L) (hb : Below W.heap.size W W') {x : Ent} (hx : RowX W' x) (hg : W.heap.size ≤ x.g) : Mem w W' (L ++ [x]) := by
  have h' := h.later hb
  refine ⟨h'.below, fun y hy => ?_, fun y hy => ?_, ?_⟩
  · rcases List.mem_append.1 hy with hy | hy
    · exact h'.rows y hy
    · obtain rfl : y = x := by simpa using hy
      exact hx
  · rcases List.mem_append.1 hy with hy | hy
    · exact h.base y hy
    · obtain rfl : y = x := by simpa using hy
      exact Nat.le_trans h.below.size hg
  · rw [List.map_append, List.nodup_append]
    refine ⟨h.nd, by simp, ?_⟩
    intro a ha b hb' e
    simp at hb'
    subst hb'
    subst e
    obtain ⟨y, hy, rfl'⟩ := List.mem_map.1 ha
    have := h.lt y hy
    omega
theorem Mem.alloc {w W : World} {L : List Ent} (h : Mem w W L) (cs : Array Value) (t : Nat) : Mem w (W.alloc (.cells cs t)) (L ++ [⟨W.heap.size, t, cs.toList, true⟩]) :=
  h.add (below_alloc W _) ⟨cs, heap_alloc_new W _, [], by simp, fun _ => rfl⟩ (Nat.le_refl _)
theorem Mem.one (w : World) (cs : Array Value) (t : Nat) : Mem w (w.alloc (.cells cs t)) [⟨w.heap.size, t, cs.toList, true⟩] := (Mem.start w).alloc cs t
theorem Mem.two (w : World) (cs : Array Value) (t : Nat) (cs' : Array Value) (t' : Nat) : Mem w ((w.alloc (.cells cs t)).alloc (.cells cs' t')) [⟨w.heap.size, t, cs.toList, true⟩, ⟨w.heap.size + 1, t', cs'.toList, true⟩] := by
  have h := (Mem.one w cs t).alloc cs' t'
  simpa using h
/-- A new row. -/
theorem Mem.row {w W W' : World} {L : List Ent} (h : Mem w W L) (hb : Below W.heap.size W W') {g e : Nat} {vs : List Value} (hx : RowAt W' g e vs) (hg : W.heap.size ≤ g) : Mem w W' (L ++ [⟨g, e, vs, false⟩]) :=
  h.add hb (RowX.of hx) hg

theorem Mem.at {w W : World} {L : List Ent} (h : Mem w W L) (k : Nat) {g e : Nat} {vs : List Value} {ex : Bool} (hk : L[k]? = some ⟨g, e, vs, ex⟩) : RowAt W g e vs := (h.rows _ (List.mem_of_getElem? hk)).row
theorem Mem.exact {w W : World} {L : List Ent} (h : Mem w W L) (k : Nat) {g e : Nat} {vs : List Value} (hk : L[k]? = some ⟨g, e, vs, true⟩) : W.heap[g]? = some (.cells vs.toArray e (0, 0)) := (h.rows _ (List.mem_of_getElem? hk)).exact
theorem Mem.cell {w W : World} {L : List Ent} (h : Mem w W L) (k i : Nat) {g e : Nat} {vs : List Value} {ex : Bool} {v : Value} (hk : L[k]? = some ⟨g, e, vs, ex⟩) (hi : vs[i]? = some v) : W.cell? ⟨g, i, none⟩ = some v := (h.at k hk).cell hi
theorem Mem.frozen {w W : World} {L : List Ent} (h : Mem w W L) (k i : Nat) {g e : Nat} {vs : List Value} {ex : Bool} (hk : L[k]? = some ⟨g, e, vs, ex⟩) : W.frozen? ⟨g, i, none⟩ = false := (h.at k hk).frozen i
theorem Mem.glt {w W : World} {L : List Ent} (h : Mem w W L) (k : Nat) {g e : Nat} {vs : List Value} {ex : Bool} (hk : L[k]? = some ⟨g, e, vs, ex⟩) : g < W.heap.size := (h.at k hk).lt
theorem Mem.gbase {w W : World} {L : List Ent} (h : Mem w W L) (k : Nat) {g e : Nat} {vs : List Value} {ex : Bool} (hk : L[k]? = some ⟨g, e, vs, ex⟩) : w.heap.size ≤ g := h.base _ (List.mem_of_getElem? hk)

theorem below_touched {B : Nat} {L : List Nat} {w w1 w2 : World} (h : Below B w w1) (ht : Touch L w1 w2) (hL : ∀ k ∈ L, B ≤ k) (hB : B ≤ w.heap.size) : Below B w w2 :=
  h.trans (ht.below (Nat.le_trans hB h.size) hL)
/-- One block changes. -/
theorem Mem.upd {w W W' : World} {L : List Ent} (h : Mem w W L) (k : Nat) {x y : Ent} (hk : L[k]? = some x) (hg : y.g = x.g) (ht : Touch [x.g] W W') (hy : RowX W' y) : Mem w W' (L.set k y) := by
  have hx := List.mem_of_getElem? hk
  have hkl : k < L.length := (List.getElem?_eq_some_iff.1 hk).1
  have hmap : (L.set k y).map Ent.g = L.map Ent.g := by
    rw [List.map_set]
    apply List.ext_getElem?
    intro i
    rw [List.getElem?_set]
    split
    · rename_i e
      subst e
      simp [hkl, hg]
      have := (List.getElem?_eq_some_iff.1 hk).2
      rw [this]
    · rfl
  refine ⟨below_touched h.below ht (by simpa using h.base x hx) (Nat.le_refl _), fun z hz => ?_, fun z hz => ?_, by rw [hmap]; exact h.nd⟩
  · obtain ⟨j, hj, rfl⟩ := List.mem_iff_getElem.1 hz
    rw [List.getElem_set] at hz ⊢
    split
    · exact hy
    · rename_i hne
      have hj' : j < L.length := by simpa using hj
      refine (h.rows _ (List.getElem_mem hj')).keep (ht.block _ (h.lt _ (List.getElem_mem hj')) ?_)
      simp
      intro e
      have e1 : (L.map Ent.g)[j]'(by simpa using hj') = (L.map Ent.g)[k]'(by simpa using hkl) := by
        simp [e, (List.getElem?_eq_some_iff.1 hk).2]
      exact hne (((List.getElem_inj h.nd).1 e1).symm)
  · obtain ⟨j, hj, rfl⟩ := List.mem_iff_getElem.1 hz
    rw [List.getElem_set]
    split
    · rw [hg]; exact h.base x hx
    · exact h.base _ (List.getElem_mem _)

theorem Mem.set {w W : World} {L : List Ent} (h : Mem w W L) (k i : Nat) (v : Value) {g e : Nat} {vs : List Value} {ex : Bool} (hk : L[k]? = some ⟨g, e, vs, ex⟩) (hi : i < vs.length) : Mem w (W.setCell ⟨g, i, none⟩ v) (L.set k ⟨g, e, vs.set i v, ex⟩) := by
  refine h.upd k hk rfl (Touch.setCell _ (by simp) _) ?_
  obtain ⟨xs, h1, more, h2, h3⟩ := h.rows _ (List.mem_of_getElem? hk)
  dsimp only at h1 h2 h3
  refine ⟨_, heap_setCell_same W g i xs e v h1, more, ?_, h3⟩
  dsimp only
  rw [Array.toList_setIfInBounds, h2, List.set_append_left _ _ hi]

section
variable {P : Program} {w W : World} {ops : Array Oper} {rest : List Oper} {o : Oper} {a : Act} {Q : Exit → Act → World → Prop} {L : List Ent}

/-- A struct or an array is loaded from such a block. -/
theorem wpList_load_mem {ty : TypeId} {zs : Array Value} (A : Agg P ty zs) (h : Mem w W L) (k : Nat) {p : Operand} {g e : Nat} {vs : List Value} {ex : Bool}
    (hgd : o.guard = none) (ho : o.op = .load ty p) (hp : a.eval p = .pointer (some ⟨g, 0, none⟩)) (hk : L[k]? = some ⟨g, e, vs, ex⟩) (hs : vs.length = zs.size)
    (hK : wpList P ops Q rest (a.put o.dst (.agg vs.toArray)) W) : wpList P ops Q (o :: rest) a W :=
  wpList_load_part A vs (fun i v hi => by rw [Nat.zero_add]; exact h.cell k i hk hi) hs hgd ho hp hK

/-- A struct or an array is stored into such a block, whole. -/
theorem wpList_store_mem {ty : TypeId} {zs : Array Value} (A : Agg P ty zs) (h : Mem w W L) (k : Nat) {p x : Operand} {g e : Nat} {vs : List Value} {cs : Array Value}
    (hgd : o.guard = none) (ho : o.op = .store ty p x) (hp : a.eval p = .pointer (some ⟨g, 0, none⟩)) (hx : a.eval x = .agg cs) (hk : L[k]? = some ⟨g, e, vs, true⟩) (hs : cs.size = zs.size) (hv : vs.length = cs.size) (h1 : cs.toList.all (·.oneCell') = true)
    (hK : ∀ W', Mem w W' (L.set k ⟨g, e, cs.toList, true⟩) → Touch [g] W W' → wpList P ops Q rest (a.put o.dst undef) W') : wpList P ops Q (o :: rest) a W := by
  refine wpList_store_row A (h.exact k hk) hs (by simpa using hv) (by rw [← Array.all_toList]; exact h1) hgd ho hp hx ?_
  intro W' hg hgr hsz
  have ht : Touch [g] W W' := ⟨hgr.os, hgr.tape, hgr.output, hgr.size, fun j hj hn => hgr.block j hj (fun e => hn (by simp at e; simp [e]))⟩
  exact hK W' (h.upd k hk rfl ht ⟨cs, hg, [], by simp, fun _ => rfl⟩) ht

/-- .. into a part of it. -/
theorem wpList_store_mem_part {ty : TypeId} {zs : Array Value} (A : Agg P ty zs) (h : Mem w W L) (k : Nat) {p x : Operand} {g e off : Nat} {vs : List Value} {ex : Bool} {cs : Array Value}
    (hgd : o.guard = none) (ho : o.op = .store ty p x) (hp : a.eval p = .pointer (some ⟨g, off, none⟩)) (hx : a.eval x = .agg cs) (hk : L[k]? = some ⟨g, e, vs, ex⟩) (hs : cs.size = zs.size) (hfit : off + cs.size ≤ vs.length) (h1 : cs.toList.all (·.oneCell') = true)
    (hK : ∀ W', Mem w W' (L.set k ⟨g, e, splice vs off cs.toList, false⟩) → Touch [g] W W' → wpList P ops Q rest (a.put o.dst undef) W') : wpList P ops Q (o :: rest) a W :=
  wpList_store_part A (h.at k hk) hs hfit (fun u hu => List.all_eq_true.1 h1 u hu) hgd ho hp hx (fun W' hr ht => hK W' (h.upd k hk rfl ht (RowX.of hr)) ht)

theorem run_append_owned_none' {base t ty e : Nat} {i : TypeInfo} {size c : Nat} (ht : P.underlying t = some (.slice e)) (hi : P.info? e = some i)
    {v : Value} {n : Nat} {xs : List Value} (hown : W.ownsRow base e size v n xs) : (Builtin.append_ #[t, t] ty #[v, .slice none 0 c]).run P W = .ok v W := by
  rcases hown.2 with ⟨rfl, rfl⟩ | ⟨g, cap, cur, rfl, _, _, hnc, _⟩
  · simp [Builtin.append_, run_underlying ht, sizeOf, typeInfo, hi, Builtin.lenOf, Builtin.firstCells]
  · simp [Builtin.append_, run_underlying ht, sizeOf, typeInfo, hi, Builtin.lenOf, Builtin.firstCells, hnc, storeCells]

/-- 'append(xs, ys...)', ys any slice whose cells are known. -/
theorem wpList_append_cells {s x : Operand} {t e : TypeId} {z : Value} {size bytes base n m c : Nat} {v : Value} {xs ys : List Value} {ad : Option Addr} (E : Elem P t e z size bytes)
    (hown : W.ownsRow base e size v n xs) (hc : Cells W ad ys) (hl : ys.length = m * size) (h1 : ∀ u ∈ ys, u.oneCell' = true)
    (hn : n + m < 1000000000000) (hby : bytes ≤ 64) (hbase : base ≤ W.heap.size)
    (hgd : o.guard = none) (ho : o.op = .call { callee := .builtin .append, args := #[s, x], argTypes := #[t, t] })
    (hs : a.eval s = v) (hx : a.eval x = .slice ad m c)
    (hK : ∀ v' w', w'.ownsRow base e size v' (n + m) (xs ++ ys) → W.grownBy w' v.ownBlock → (v' = .slice none 0 0 → v = .slice none 0 0 ∧ m = 0) → wpList P ops Q rest (a.put o.dst v') w') :
    wpList P ops Q (o :: rest) a W := by
  cases ad with
  | none =>
    have hy : ys = [] := by rcases hc with h | ⟨b, off, h, _⟩; exact h; cases h
    subst hy
    have hm : m = 0 := by
      have := E.pos
      rcases Nat.mul_eq_zero.1 hl.symm with h | h
      · exact h
      · omega
    subst hm
    obtain ⟨i, i1, _⟩ := E.info
    refine wpList_plain hgd fun K hK' => ?_
    have hrun := run_append_owned_none' (P := P) (W := W) (ty := o.type) (c := c) E.under i1 hown
    unfold Oper.wp
    simp [execOp, ho, resolve, invoke, builtin, hs, hx, hrun, Result.andThen]
    exact hK' _ _ (hK v W (by simpa using hown) ⟨rfl, rfl, rfl, Nat.le_refl _, fun _ _ _ => rfl⟩ (fun h => ⟨h, rfl⟩))
  | some d =>
    refine wpList_append_many E hown hl ?_ h1 hn hby hbase hgd ho hs hx (fun v' w' a b c => hK v' w' a b c.1)
    intro j u hj
    rcases hc with h | ⟨b, off, h, hc⟩
    · rw [h] at hj; simp at hj
    · cases h
      rw [add_none]
      exact hc j u hj

/-- An owned row that is not nil, as a new block. -/
theorem owned_new {w w' : World} {e size n : Nat} {v : Value} {xs : List Value} (h : w'.ownsRow w.heap.size e size v n xs) (hv : v ≠ .slice none 0 0) :
    ∃ g c, v = .slice (some ⟨g, 0, none⟩) n c ∧ w.heap.size ≤ g ∧ n ≤ c ∧ c ≤ maxLen ∧ RowAt w' g e xs := by
  rcases h.2 with ⟨h0, _⟩ | ⟨g, cap, cur, rfl, hb, hg, h1, h2, h3, h4⟩
  · exact absurd h0 hv
  · exact ⟨g, cap, rfl, hb, h1, h2, cur, hg, cur.toList.drop (n * size), by rw [← h4, List.take_append_drop]⟩
end

/-- What a function leaves that copies a slice. -/
def Copied (e n : Nat) (vs : List Value) (w : World) : Ending → World → Prop := fun r w' => ∃ g c, r = .returned (.slice (some ⟨g, 0, none⟩) n c) ∧ w.heap.size ≤ g ∧ n ≤ c ∧ c ≤ maxLen ∧ RowAt w' g e vs ∧ Below w.heap.size w w'

end Go.Proofs.Ytlaaamaaabcfeaa

/- Regions that draw their order: operations that only read may float; all others come one behind the other. One walk, the reading ones as early as can be, serves every order. -/
namespace Go.Proofs.Ytlaaamaaabcfeaa
open Go.RowKit
set_option linter.unusedVariables false

section
variable {P : Program} {ops : Array Oper} {md : Region.Mode} {C : World → Prop} {Q : Exit → Act → World → Prop}

/-- Such an operation may be taken first, if whatever may still come ahead of it is loose. -/
theorem wpAnyF_early {loose : Nat → Bool} {i f : Nat} {oi : Oper} {v : Value} (hi : ops[i]? = some oi) (hsel : ∀ (j : Nat) (o : Oper) cs b, ops[j]? = some o → o.op ≠ .select cs b)
    (hQ : ∀ c a d v w, Q (.panic c) (a.put d v) w → Q (.panic c) a w) :
    ∀ (fuel : Nat) (listed : Array Bool) (a : Act) (w : World),
      (∀ j oj, ops[j]? = some oj → j ≠ i → listed.getD j true = false → waitsFor md ops f j i = true ∨ loose j = true) →
      (∀ j oj, ops[j]? = some oj → j ≠ i → listed.getD j true = false → (∀ e ∈ oj.after, Region.binds md e = true → e.on ≠ i) → oi.apart ops oj = true) →
      i ∈ Region.ready md ops listed → Shut md ops listed → Stays P ops C oi v a → C w →
      wpAnyF P md ops Q C loose fuel (listed.setIfInBounds i true) (a.put oi.dst v) w → wpAnyF P md ops Q C loose (fuel + 1) listed a w := by
  intro fuel
  induction fuel with
  | zero =>
    intro listed a w _ _ hr _ hy hC H
    refine ⟨fun h => (by rw [h] at hr; cases hr), fun j hj => ?_⟩
    by_cases hji : j = i
    · subst hji; exact hy.wpOp hi hC ⟨fun _ => hC, H⟩
    · have := ready_mono hj hji
      rw [H.1] at this
      cases this
  | succ fuel ih =>
    intro listed a w hl hfree hr hsh hy hC H
    refine ⟨fun h => (by rw [h] at hr; cases hr), fun j hj => ?_⟩
    by_cases hji : j = i
    · subst hji; exact hy.wpOp hi hC ⟨fun _ => hC, H⟩
    · have h1 := H.2 j (ready_mono hj hji)
      obtain ⟨hjun, oj, hoj, hall⟩ := mem_ready.1 hj
      have hiun : listed.getD i false = false := by
        have h0 := (mem_ready.1 hr).1
        rcases Nat.lt_or_ge i listed.size with h' | h'
        · simp [h'] at h0 ⊢; exact h0
        · simp [Array.getElem?_eq_none h']
      have hnot : ∀ e ∈ oj.after, Region.binds md e = true → e.on ≠ i := fun e he hb heq => by
        have h1 := hall e he hb
        rw [heq, hiun] at h1
        cases h1
      have hlo : loose j = true := by
        rcases hl j oj hoj hji hjun with h | h
        · have := waitsFor_listed hsh f j i oj hoj hall h
          rw [hiun] at this
          cases this
        · exact h
      have h2 := wpOp_putF (C := C) hoj (hfree j oj hoj hji hjun hnot) (fun cs b => hsel i oi cs b hi) (fun cs b => hsel j oj cs b hoj) hQ hy h1
      have hun' : ∀ k, (listed.setIfInBounds j true).getD k true = false → listed.getD k true = false := fun k hun => by
        by_cases hjk : j = k
        · subst hjk; exact hjun
        · rw [getD_set_ne true hjk] at hun; exact hun
      refine wpOp_mono (fun a' w' h3 => ⟨h3.2.1, ih (listed.setIfInBounds j true) a' w' (fun k ok hk hki hun => hl k ok hk hki (hun' k hun)) (fun k ok hk hki hun hno => hfree k ok hk hki (hun' k hun) hno) (ready_mono hr (Ne.symm hji)) (hsh.set hj) h3.1 (h3.2.1 hlo) ?_⟩) h2
      rw [Array.setIfInBounds_comm _ _ hji]
      exact h3.2.2

/-- Is there an operation that only reads and that may come ahead of j as well as behind it? -/
def looseOf (md : Region.Mode) (ops : Array Oper) (j : Nat) : Bool :=
  (List.range ops.size).any fun i => i != j && (match ops[i]? with | some o => calm o.op | none => false) && !waitsFor md ops ops.size j i && !waitsFor md ops ops.size i j

def mixFrom (md : Region.Mode) (ops : Array Oper) : List (Nat × Bool) → Array Bool → Bool
  | [], listed => (Region.ready md ops listed).isEmpty
  | (k, lo) :: is, listed => (lo == looseOf md ops k) && (match ops[k]? with
      | none => false
      | some o => if calm o.op then (Region.ready md ops listed).contains k && Region.free md ops listed k && ((List.range ops.size).all fun j => j == k || listed.getD j true || waitsFor md ops ops.size j k || looseOf md ops j)
        else Region.ready md ops listed == [k]) && mixFrom md ops is (listed.setIfInBounds k true)
def mixB (md : Region.Mode) (ops : Array Oper) (is : List (Nat × Bool)) : Bool := Region.noSelect ops && is.length == ops.size && mixFrom md ops is (Array.replicate ops.size false)

/-- The walk, in an order in which reading operations come as early as they can. The Boolean: is it loose? -/
def wpMix (P : Program) (ops : Array Oper) (C : World → Prop) (Q : Exit → Act → World → Prop) : List (Oper × Bool) → Act → World → Prop
  | [], a, w => Q .normal a w
  | (o, lo) :: rest, a, w => if calm o.op then ∃ v, Stays P ops C o v a ∧ C w ∧ wpMix P ops C Q rest (a.put o.dst v) w
      else wpList P ops (Exit.then (fun a' w' => (lo = true → C w') ∧ wpMix P ops C Q rest a' w') Q) [o] a w

def mixList (l : List Oper) : List (Nat × Bool) → List (Oper × Bool)
  | [] => []
  | (k, lo) :: is => match l[k]? with
    | some o => (o, lo) :: mixList l is
    | none => mixList l is

theorem mix_ok (hs : Region.noSelect ops = true) (hQ : ∀ c a d v w, Q (.panic c) (a.put d v) w → Q (.panic c) a w) : ∀ (is : List (Nat × Bool)) (listed : Array Bool) (a : Act) (w : World), Shut md ops listed →
    mixFrom md ops is listed = true → wpMix P ops C Q (mixList ops.toList is) a w → wpAnyF P md ops Q C (looseOf md ops) is.length listed a w := by
  intro is
  induction is with
  | nil =>
    intro listed a w _ hB h
    exact ⟨by simpa [mixFrom] using hB, by simpa [wpMix, mixList] using h⟩
  | cons p is ih =>
    obtain ⟨k, lo⟩ := p
    intro listed a w hsh hB h
    simp only [mixFrom, Bool.and_eq_true, beq_iff_eq] at hB
    obtain ⟨⟨rfl, hB1⟩, hB2⟩ := hB
    cases hk : ops[k]? with
    | none => rw [hk] at hB1; cases hB1
    | some o =>
      rw [hk] at hB1
      have e : mixList ops.toList ((k, looseOf md ops k) :: is) = (o, looseOf md ops k) :: mixList ops.toList is := by simp [mixList, hk]
      rw [e] at h
      by_cases hc : calm o.op = true
      · simp only [hc, if_true, Bool.and_eq_true] at hB1
        simp only [wpMix, hc, if_true] at h
        obtain ⟨⟨hr, hf⟩, hlo⟩ := hB1
        obtain ⟨v, hy, hC, h⟩ := h
        have hrk : k ∈ Region.ready md ops listed := by simpa using hr
        refine wpAnyF_early (f := ops.size) hk (Region.noSelect_spec hs) hQ is.length listed a w ?_ (Region.free_spec hk hf) hrk hsh hy hC (ih _ _ _ (hsh.set hrk) hB2 h)
        intro j oj hj hjk hun
        simp only [List.all_eq_true, List.mem_range, Bool.or_eq_true, beq_iff_eq] at hlo
        rcases hlo j (Array.getElem?_eq_some_iff.1 hj).1 with ((h | h) | h) | h
        · exact absurd h hjk
        · rw [hun] at h; cases h
        · exact .inl h
        · exact .inr h
      · simp only [hc, Bool.false_eq_true, if_false, beq_iff_eq] at hB1
        simp only [wpMix, hc, Bool.false_eq_true, if_false] at h
        have hrk : k ∈ Region.ready md ops listed := by rw [hB1]; simp
        refine ⟨fun h' => (by rw [hB1] at h'; cases h'), fun i hi => ?_⟩
        rw [hB1] at hi
        obtain rfl : i = k := by simpa using hi
        unfold wpOp
        simp only [hk]
        unfold wpList at h
        have hmono : ∀ a' w', wpList P ops (Exit.then (fun a' w' => (looseOf md ops i = true → C w') ∧ wpMix P ops C Q (mixList ops.toList is) a' w') Q) [] a' w' →
            (looseOf md ops i = true → C w') ∧ wpAnyF P md ops Q C (looseOf md ops) is.length (listed.setIfInBounds i true) a' w' := by
          intro a' w' h'
          unfold wpList at h'
          exact ⟨h'.1, ih _ _ _ (hsh.set hrk) hB2 h'.2⟩
        by_cases hw : Region.wanted o (yielded ops a.tmps) = true
        · rw [if_pos hw] at h ⊢
          rcases h with h | h
          · refine .inl ?_
            have h := Oper.wp_mono hmono h
            unfold Oper.wp at *
            generalize (execOp a.eval o).run P w = r at *
            cases r with
            | ok n w' =>
              cases n <;> simp only [Oper.upon] at h ⊢ <;> try exact h
            | halt x w' => cases x <;> simp only [Oper.upon] at h ⊢ <;> exact h
          · exact .inr h
        · rw [if_neg hw] at h ⊢
          exact hmono _ _ h

/-- One walk serves every order. -/
theorem wp_region_mix {id : Nat} {a : Act} {w : World} {l : List Oper} (is : List (Nat × Bool)) (hm : P.follows .mixedOrders = true) (hB : mixB .any l.toArray is = true)
    (hQ : ∀ c a d v w, Q (.panic c) (a.put d v) w → Q (.panic c) a w) 
    (h : wpMix P l.toArray C Q (mixList l is) a w.drew) : (Code.region id l.toArray true).wp P Q a w := by
  simp only [mixB, Bool.and_eq_true, beq_iff_eq] at hB
  refine wp_region_any hm (wpAny_of_F (C := C) (loose := looseOf .any l.toArray) _ _ _ _ ?_)
  have := mix_ok (md := .any) (C := C) hB.1.1 hQ is (Array.replicate l.toArray.size false) a w.drew (shut_none _) hB.2 h
  rw [hB.1.2] at this
  exact this

theorem wpMix_nil {a : Act} {w : World} (h : Q .normal a w) : wpMix P ops C Q [] a w := h
theorem wpMix_calm {o : Oper} {lo : Bool} {rest : List (Oper × Bool)} {a : Act} {w : World} (hcal : calm o.op = true) (hC : C w) (h : wpQuiet P ops C (fun a' => wpMix P ops C Q rest a' w) [o] a) : wpMix P ops C Q ((o, lo) :: rest) a w := by
  unfold wpMix
  rw [if_pos hcal]
  unfold wpQuiet at h
  by_cases hw : Region.wanted o (yielded ops a.tmps) = true
  · rw [if_pos hw] at h
    obtain ⟨v, h1, h2⟩ := h
    refine ⟨v, .inl ⟨hw, fun x hx => ?_⟩, hC, h2⟩
    have h3 := h1 x hx
    unfold Oper.quietAt at h3
    cases hq : (execOp a.eval o).run P x with
    | ok nx w2 =>
      obtain ⟨u, rfl⟩ := calm_value hcal hq
      rw [hq] at h3
      simp only [Oper.quietUpon] at h3
      rw [h3.1, h3.2]
    | halt x' w2 => rw [hq] at h3; simp only [Oper.quietUpon] at h3
  · rw [if_neg hw] at h
    exact ⟨undef, .inr ⟨by simpa using hw, rfl⟩, hC, h⟩
theorem wpMix_hard {o : Oper} {lo : Bool} {rest : List (Oper × Bool)} {a : Act} {w : World} (hcal : calm o.op = false)
    (h : ∀ K : Act → World → Prop, (∀ a' w', (lo = true → C w') → wpMix P ops C Q rest a' w' → K a' w') → wpList P ops (Exit.then K Q) [o] a w) : wpMix P ops C Q ((o, lo) :: rest) a w := by
  unfold wpMix
  simp only [hcal, Bool.false_eq_true, if_false]
  exact h _ (fun _ _ h1 h2 => ⟨h1, h2⟩)

end

theorem later_step {w v v' : World} (h : ∃ x : Later w, v = x.val) (hb : Below v.heap.size v v') : ∃ x : Later w, v' = x.val := by
  obtain ⟨x, rfl⟩ := h
  exact ⟨⟨v', x.below.trans (hb.mono x.below.size)⟩, rfl⟩
theorem later_below {w v : World} (h : ∃ x : Later w, v = x.val) : Below w.heap.size w v := by
  obtain ⟨x, rfl⟩ := h
  exact x.below
theorem later_drew (w : World) : ∃ x : Later w, w.drew = x.val := ⟨⟨w.drew, (Below.refl _ _).drew⟩, rfl⟩
theorem later_drewN {w v : World} (h : ∃ x : Later w, v = x.val) (q : Nat) : ∃ x : Later w, v.drewN q = x.val := by
  obtain ⟨x, rfl⟩ := h
  exact ⟨⟨_, by have := x.below; exact ⟨this.os, this.tape, this.output, by simpa using this.size, by simpa using this.block⟩⟩, rfl⟩

/-- What the worlds of a region have in common: nothing but some blocks differs. -/
structure Near (L : List Nat) (w : World) where
  val : World
  size : w.heap.size ≤ val.heap.size
  block : ∀ k, k < w.heap.size → k ∉ L → val.heap[k]? = w.heap[k]?
instance (L : List Nat) (w : World) : Nonempty (Near L w) := ⟨⟨w, Nat.le_refl _, fun _ _ _ => rfl⟩⟩
theorem near_cell {L : List Nat} {w : World} {p : Addr} {v : Value} (h : w.cell? p = some v) (hL : p.block ∉ L) (x : Near L w) : x.val.cell? p = some v := by
  have := x.block p.block (World.block_lt_of_cell? _ _ h) hL
  unfold World.cell? at *
  rw [this]; exact h

end Go.Proofs.Ytlaaamaaabcfeaa

/- The same without the rest of the memory: blocks from B on, where older ones may change. -/
namespace Go.Proofs.Ytlaaamaaabcfeaa
open Go.RowKit
set_option linter.unusedVariables false

structure MemR (B : Nat) (W : World) (L : List Ent) : Prop where
  rows : ∀ x ∈ L, RowX W x
  base : ∀ x ∈ L, B ≤ x.g
  nd : (L.map Ent.g).Nodup
  size : B ≤ W.heap.size

theorem Mem.r {w W : World} {L : List Ent} (h : Mem w W L) : MemR w.heap.size W L := ⟨h.rows, h.base, h.nd, h.below.size⟩
theorem MemR.lt {B : Nat} {W : World} {L : List Ent} (h : MemR B W L) : ∀ x ∈ L, x.g < W.heap.size := fun x hx => (h.rows x hx).lt
theorem MemR.later {B : Nat} {W W' : World} {L : List Ent} (h : MemR B W L) (hb : Below W.heap.size W W') : MemR B W' L :=
  ⟨fun x hx => (h.rows x hx).keep (hb.block _ (h.lt x hx)), h.base, h.nd, Nat.le_trans h.size hb.size⟩
/-- Older blocks change. -/
theorem MemR.touch {B : Nat} {W W' : World} {L : List Ent} (h : MemR B W L) {X : List Nat} (ht : Touch X W W') (hX : ∀ k ∈ X, k < B) : MemR B W' L :=
  ⟨fun x hx => (h.rows x hx).keep (ht.block _ (h.lt x hx) (fun hm => by have := hX _ hm; have := h.base x hx; omega)), h.base, h.nd, Nat.le_trans h.size ht.size⟩
/-- Blocks of others change. -/
theorem MemR.apart {B : Nat} {W W' : World} {L : List Ent} (h : MemR B W L) {X : List Nat} (ht : Touch X W W') (hX : ∀ x ∈ L, x.g ∉ X) : MemR B W' L :=
  ⟨fun x hx => (h.rows x hx).keep (ht.block _ (h.lt x hx) (hX x hx)), h.base, h.nd, Nat.le_trans h.size ht.size⟩
theorem MemR.add {B : Nat} {W W' : World} {L : List Ent} (h : MemR B W L) (hb : Below W.heap.size W W') {x : Ent} (hx : RowX W' x) (hg : W.heap.size ≤ x.g) : MemR B W' (L ++ [x]) := by
  have h' := h.later hb
  refine ⟨fun y hy => ?_, fun y hy => ?_, ?_, h'.size⟩
  · rcases List.mem_append.1 hy with hy | hy
    · exact h'.rows y hy
    · obtain rfl : y = x := by simpa using hy
      exact hx
  · rcases List.mem_append.1 hy with hy | hy
    · exact h.base y hy
    · obtain rfl : y = x := by simpa using hy
      exact Nat.le_trans h.size hg
  · rw [List.map_append, List.nodup_append]
    refine ⟨h.nd, by simp, ?_⟩
    intro a ha b hb' e
    simp at hb'
    subst hb'
    subst e
    obtain ⟨y, hy, rfl'⟩ := List.mem_map.1 ha
    have := h.lt y hy
    omega
theorem MemR.front {B : Nat} {W : World} {L E : List Ent} (h : MemR B W (L ++ E)) : MemR B W L :=
  ⟨fun x hx => h.rows x (List.mem_append_left _ hx), fun x hx => h.base x (List.mem_append_left _ hx), (List.nodup_append.1 (by have := h.nd; rwa [List.map_append] at this)).1, h.size⟩
theorem near_of {X : List Nat} {w W : World} (h : Touch X w W) : ∃ x : Near X w, W = x.val := ⟨⟨W, h.size, h.block⟩, rfl⟩
theorem MemR.alloc {B : Nat} {W : World} {L : List Ent} (h : MemR B W L) (cs : Array Value) (t : Nat) : MemR B (W.alloc (.cells cs t)) (L ++ [⟨W.heap.size, t, cs.toList, true⟩]) :=
  h.add (below_alloc W _) ⟨cs, heap_alloc_new W _, [], by simp, fun _ => rfl⟩ (Nat.le_refl _)
theorem MemR.row {B : Nat} {W W' : World} {L : List Ent} (h : MemR B W L) (hb : Below W.heap.size W W') {g e : Nat} {vs : List Value} (hx : RowAt W' g e vs) (hg : W.heap.size ≤ g) : MemR B W' (L ++ [⟨g, e, vs, false⟩]) :=
  h.add hb (RowX.of hx) hg
theorem MemR.at {B : Nat} {W : World} {L : List Ent} (h : MemR B W L) (k : Nat) {g e : Nat} {vs : List Value} {ex : Bool} (hk : L[k]? = some ⟨g, e, vs, ex⟩) : RowAt W g e vs := (h.rows _ (List.mem_of_getElem? hk)).row
theorem MemR.exact {B : Nat} {W : World} {L : List Ent} (h : MemR B W L) (k : Nat) {g e : Nat} {vs : List Value} (hk : L[k]? = some ⟨g, e, vs, true⟩) : W.heap[g]? = some (.cells vs.toArray e (0, 0)) := (h.rows _ (List.mem_of_getElem? hk)).exact
theorem MemR.cell {B : Nat} {W : World} {L : List Ent} (h : MemR B W L) (k i : Nat) {g e : Nat} {vs : List Value} {ex : Bool} {v : Value} (hk : L[k]? = some ⟨g, e, vs, ex⟩) (hi : vs[i]? = some v) : W.cell? ⟨g, i, none⟩ = some v := (h.at k hk).cell hi
theorem MemR.frozen {B : Nat} {W : World} {L : List Ent} (h : MemR B W L) (k i : Nat) {g e : Nat} {vs : List Value} {ex : Bool} (hk : L[k]? = some ⟨g, e, vs, ex⟩) : W.frozen? ⟨g, i, none⟩ = false := (h.at k hk).frozen i
theorem MemR.glt {B : Nat} {W : World} {L : List Ent} (h : MemR B W L) (k : Nat) {g e : Nat} {vs : List Value} {ex : Bool} (hk : L[k]? = some ⟨g, e, vs, ex⟩) : g < W.heap.size := (h.at k hk).lt
theorem MemR.gbase {B : Nat} {W : World} {L : List Ent} (h : MemR B W L) (k : Nat) {g e : Nat} {vs : List Value} {ex : Bool} (hk : L[k]? = some ⟨g, e, vs, ex⟩) : B ≤ g := h.base _ (List.mem_of_getElem? hk)
theorem MemR.upd {B : Nat} {W W' : World} {L : List Ent} (h : MemR B W L) (k : Nat) {x y : Ent} (hk : L[k]? = some x) (hg : y.g = x.g) (ht : Touch [x.g] W W') (hy : RowX W' y) : MemR B W' (L.set k y) := by
  have hx := List.mem_of_getElem? hk
  have hkl : k < L.length := (List.getElem?_eq_some_iff.1 hk).1
  have hmap : (L.set k y).map Ent.g = L.map Ent.g := by
    rw [List.map_set]
    apply List.ext_getElem?
    intro i
    rw [List.getElem?_set]
    split
    · rename_i e
      subst e
      simp [hkl, hg]
      have := (List.getElem?_eq_some_iff.1 hk).2
      rw [this]
    · rfl
  refine ⟨fun z hz => ?_, fun z hz => ?_, by rw [hmap]; exact h.nd, Nat.le_trans h.size ht.size⟩
  · obtain ⟨j, hj, rfl⟩ := List.mem_iff_getElem.1 hz
    rw [List.getElem_set] at hz ⊢
    split
    · exact hy
    · rename_i hne
      have hj' : j < L.length := by simpa using hj
      refine (h.rows _ (List.getElem_mem hj')).keep (ht.block _ (h.lt _ (List.getElem_mem hj')) ?_)
      simp
      intro e
      have e1 : (L.map Ent.g)[j]'(by simpa using hj') = (L.map Ent.g)[k]'(by simpa using hkl) := by
        simp [e, (List.getElem?_eq_some_iff.1 hk).2]
      exact hne (((List.getElem_inj h.nd).1 e1).symm)
  · obtain ⟨j, hj, rfl⟩ := List.mem_iff_getElem.1 hz
    rw [List.getElem_set]
    split
    · rw [hg]; exact h.base x hx
    · exact h.base _ (List.getElem_mem _)
theorem MemR.set {B : Nat} {W : World} {L : List Ent} (h : MemR B W L) (k i : Nat) (v : Value) {g e : Nat} {vs : List Value} {ex : Bool} (hk : L[k]? = some ⟨g, e, vs, ex⟩) (hi : i < vs.length) : MemR B (W.setCell ⟨g, i, none⟩ v) (L.set k ⟨g, e, vs.set i v, ex⟩) := by
  refine h.upd k hk rfl (Touch.setCell _ (by simp) _) ?_
  obtain ⟨xs, h1, more, h2, h3⟩ := h.rows _ (List.mem_of_getElem? hk)
  dsimp only at h1 h2 h3
  refine ⟨_, heap_setCell_same W g i xs e v h1, more, ?_, h3⟩
  dsimp only
  rw [Array.toList_setIfInBounds, h2, List.set_append_left _ _ hi]

/-- Newer blocks do not matter. -/
theorem Touch.own {X : List Nat} {w W W' : World} (h : Touch X w W) {Y : List Nat} (ht : Touch Y W W') (hY : ∀ k ∈ Y, w.heap.size ≤ k ∨ k ∈ X) : Touch X w W' :=
  ⟨ht.os.trans h.os, ht.tape.trans h.tape, ht.output.trans h.output, Nat.le_trans h.size ht.size, fun k hk hn => (ht.block k (Nat.lt_of_lt_of_le hk h.size) (fun hm => (hY k hm).elim (fun h => by omega) hn)).trans (h.block k hk hn)⟩
theorem Touch.later {X : List Nat} {w W W' : World} (h : Touch X w W) (hb : Below W.heap.size W W') : Touch X w W' := h.trans (Touch.ofBelow hb)

section
variable {P : Program} {B : Nat} {W : World} {ops : Array Oper} {rest : List Oper} {o : Oper} {a : Act} {Q : Exit → Act → World → Prop} {L : List Ent}

theorem wpList_load_r {ty : TypeId} {zs : Array Value} (A : Agg P ty zs) (h : MemR B W L) (k : Nat) {p : Operand} {g e : Nat} {vs : List Value} {ex : Bool}
    (hgd : o.guard = none) (ho : o.op = .load ty p) (hp : a.eval p = .pointer (some ⟨g, 0, none⟩)) (hk : L[k]? = some ⟨g, e, vs, ex⟩) (hs : vs.length = zs.size)
    (hK : wpList P ops Q rest (a.put o.dst (.agg vs.toArray)) W) : wpList P ops Q (o :: rest) a W :=
  wpList_load_part A vs (fun i v hi => by rw [Nat.zero_add]; exact h.cell k i hk hi) hs hgd ho hp hK
theorem wpList_store_r {ty : TypeId} {zs : Array Value} (A : Agg P ty zs) (h : MemR B W L) (k : Nat) {p x : Operand} {g e : Nat} {vs : List Value} {cs : Array Value}
    (hgd : o.guard = none) (ho : o.op = .store ty p x) (hp : a.eval p = .pointer (some ⟨g, 0, none⟩)) (hx : a.eval x = .agg cs) (hk : L[k]? = some ⟨g, e, vs, true⟩) (hs : cs.size = zs.size) (hv : vs.length = cs.size) (h1 : cs.toList.all (·.oneCell') = true)
    (hK : ∀ W', MemR B W' (L.set k ⟨g, e, cs.toList, true⟩) → Touch [g] W W' → wpList P ops Q rest (a.put o.dst undef) W') : wpList P ops Q (o :: rest) a W := by
  refine wpList_store_row A (h.exact k hk) hs (by simpa using hv) (by rw [← Array.all_toList]; exact h1) hgd ho hp hx ?_
  intro W' hg hgr hsz
  have ht : Touch [g] W W' := ⟨hgr.os, hgr.tape, hgr.output, hgr.size, fun j hj hn => hgr.block j hj (fun e => hn (by simp at e; simp [e]))⟩
  exact hK W' (h.upd k hk rfl ht ⟨cs, hg, [], by simp, fun _ => rfl⟩) ht
end

end Go.Proofs.Ytlaaamaaabcfeaa

/- Regions that draw their order, in segments: reading operations that may float are taken as early as they can; all others come one behind the other. One walk serves every order. -/
namespace Go.Proofs.Ytlaaamaaabcfeaa
open Go.RowKit
set_option linter.unusedVariables false

/-- A segment: reading operations that float; or operations one by one (lo: is its last one loose?). -/
inductive Seg where
  | fl (ks : List Nat)
  | sq (ks : List Nat) (lo : Bool)
inductive SegO where
  | fl (os : List Oper)
  | sq (os : List Oper) (lo : Bool)

section
variable {P : Program} {ops : Array Oper} {md : Region.Mode} {C : World → Prop} {Q : Exit → Act → World → Prop}

def picks (l : List Oper) : List Nat → List Oper
  | [] => []
  | k :: ks => match l[k]? with
    | some o => o :: picks l ks
    | none => picks l ks
def segs (l : List Oper) : List Seg → List SegO
  | [] => []
  | .fl ks :: r => .fl (picks l ks) :: segs l r
  | .sq ks lo :: r => .sq (picks l ks) lo :: segs l r

def flFrom (md : Region.Mode) (ops : Array Oper) : List Nat → Array Bool → Bool × Array Bool
  | [], listed => (true, listed)
  | k :: ks, listed => match ops[k]? with
    | none => (false, listed)
    | some o => let r := flFrom md ops ks (listed.setIfInBounds k true)
      (calm o.op && (Region.ready md ops listed).contains k && Region.free md ops listed k && ((List.range ops.size).all fun j => j == k || listed.getD j true || waitsFor md ops ops.size j k || looseOf md ops j) && r.1, r.2)
def sqFrom (md : Region.Mode) (ops : Array Oper) (lo : Bool) : List Nat → Array Bool → Bool × Array Bool
  | [], listed => (true, listed)
  | k :: ks, listed => match ops[k]? with
    | none => (false, listed)
    | some _ => let r := sqFrom md ops lo ks (listed.setIfInBounds k true)
      (Region.ready md ops listed == [k] && (!looseOf md ops k || (lo && ks.isEmpty)) && r.1, r.2)
def segFrom (md : Region.Mode) (ops : Array Oper) : List Seg → Array Bool → Bool
  | [], listed => (Region.ready md ops listed).isEmpty
  | .fl ks :: r, listed => let x := flFrom md ops ks listed; x.1 && segFrom md ops r x.2
  | .sq ks lo :: r, listed => let x := sqFrom md ops lo ks listed; x.1 && segFrom md ops r x.2
def segLen : List Seg → Nat
  | [] => 0
  | .fl ks :: r => segLen r + ks.length
  | .sq ks _ :: r => segLen r + ks.length
def segB (md : Region.Mode) (ops : Array Oper) (is : List Seg) : Bool := Region.noSelect ops && segLen is == ops.size && segFrom md ops is (Array.replicate ops.size false)

/-- The walk. -/
def wpSeg (P : Program) (ops : Array Oper) (C : World → Prop) (Q : Exit → Act → World → Prop) : List SegO → Act → World → Prop
  | [], a, w => Q .normal a w
  | .fl os :: r, a, w => C w ∧ wpQuiet P ops C (fun a' => wpSeg P ops C Q r a' w) os a
  | .sq os lo :: r, a, w => wpList P ops (Exit.then (fun a' w' => (lo = true → C w') ∧ wpSeg P ops C Q r a' w') Q) os a w

theorem fl_ok (hs : Region.noSelect ops = true) (hQ : ∀ c a d v w, Q (.panic c) (a.put d v) w → Q (.panic c) a w) {m : Nat} {R : Act → Prop} {w : World} (hC : C w) : ∀ (ks : List Nat) (listed : Array Bool) (a : Act), Shut md ops listed → (flFrom md ops ks listed).1 = true →
    (∀ a', Shut md ops (flFrom md ops ks listed).2 → R a' → wpAnyF P md ops Q C (looseOf md ops) m (flFrom md ops ks listed).2 a' w) →
    wpQuiet P ops C R (picks ops.toList ks) a → wpAnyF P md ops Q C (looseOf md ops) (m + ks.length) listed a w := by
  intro ks
  induction ks with
  | nil =>
    intro listed a hsh _ hR h
    exact hR a hsh (by simpa [picks, wpQuiet] using h)
  | cons k ks ih =>
    intro listed a hsh hB hR h
    cases hk : ops[k]? with
    | none => simp [flFrom, hk] at hB
    | some o =>
      have e : picks ops.toList (k :: ks) = o :: picks ops.toList ks := by simp [picks, hk]
      rw [e] at h
      simp only [flFrom, hk, Bool.and_eq_true] at hB hR
      obtain ⟨⟨⟨⟨hc, hr⟩, hf⟩, hlo⟩, hB'⟩ := hB
      have hrk : k ∈ Region.ready md ops listed := by simpa using hr
      obtain ⟨v, hy, hK⟩ : ∃ v, Stays P ops C o v a ∧ wpQuiet P ops C R (picks ops.toList ks) (a.put o.dst v) := by
        unfold wpQuiet at h
        by_cases hw : Region.wanted o (yielded ops a.tmps) = true
        · rw [if_pos hw] at h
          obtain ⟨v, h1, h2⟩ := h
          refine ⟨v, .inl ⟨hw, fun x hx => ?_⟩, h2⟩
          have h3 := h1 x hx
          unfold Oper.quietAt at h3
          cases hq : (execOp a.eval o).run P x with
          | ok nx w2 =>
            obtain ⟨u, rfl⟩ := calm_value hc hq
            rw [hq] at h3
            simp only [Oper.quietUpon] at h3
            rw [h3.1, h3.2]
          | halt x' w2 => rw [hq] at h3; simp only [Oper.quietUpon] at h3
        · rw [if_neg hw] at h
          exact ⟨undef, .inr ⟨by simpa using hw, rfl⟩, h⟩
      refine wpAnyF_early (f := ops.size) hk (Region.noSelect_spec hs) hQ (m + ks.length) listed a w ?_ (Region.free_spec hk hf) hrk hsh hy hC (ih _ _ (hsh.set hrk) hB' hR hK)
      intro j oj hj hjk hun
      simp only [List.all_eq_true, List.mem_range, Bool.or_eq_true, beq_iff_eq] at hlo
      rcases hlo j (Array.getElem?_eq_some_iff.1 hj).1 with ((h | h) | h) | h
      · exact absurd h hjk
      · rw [hun] at h; cases h
      · exact .inl h
      · exact .inr h

theorem sq_ok {m : Nat} {lo : Bool} {R : Act → World → Prop} : ∀ (ks : List Nat) (listed : Array Bool) (a : Act) (w : World), Shut md ops listed → (sqFrom md ops lo ks listed).1 = true →
    (∀ a' w', Shut md ops (sqFrom md ops lo ks listed).2 → (lo = true → C w') → R a' w' → wpAnyF P md ops Q C (looseOf md ops) m (sqFrom md ops lo ks listed).2 a' w') →
    wpList P ops (Exit.then (fun a' w' => (lo = true → C w') ∧ R a' w') Q) (picks ops.toList ks) a w → wpAnyF P md ops Q C (looseOf md ops) (m + ks.length) listed a w := by
  intro ks
  induction ks with
  | nil =>
    intro listed a w hsh _ hR h
    have h : (lo = true → C w) ∧ R a w := by simpa [picks, wpList, Exit.then] using h
    exact hR a w hsh h.1 h.2
  | cons k ks ih =>
    intro listed a w hsh hB hR h
    cases hk : ops[k]? with
    | none => simp [sqFrom, hk] at hB
    | some o =>
      have e : picks ops.toList (k :: ks) = o :: picks ops.toList ks := by simp [picks, hk]
      rw [e] at h
      simp only [sqFrom, hk, Bool.and_eq_true, beq_iff_eq] at hB hR
      obtain ⟨⟨hr, hlo⟩, hB'⟩ := hB
      have hrk : k ∈ Region.ready md ops listed := by rw [hr]; simp
      refine ⟨fun h' => (by rw [hr] at h'; cases h'), fun i hi => ?_⟩
      rw [hr] at hi
      obtain rfl : i = k := by simpa using hi
      unfold wpOp
      simp only [hk]
      unfold wpList at h
      have hmono : ∀ a' w', wpList P ops (Exit.then (fun a' w' => (lo = true → C w') ∧ R a' w') Q) (picks ops.toList ks) a' w' →
          (looseOf md ops i = true → C w') ∧ wpAnyF P md ops Q C (looseOf md ops) (m + ks.length) (listed.setIfInBounds i true) a' w' := by
        intro a' w' h'
        refine ⟨fun hl => ?_, ih _ _ _ (hsh.set hrk) hB' hR h'⟩
        simp only [hl, Bool.not_true, Bool.false_or, Bool.and_eq_true, List.isEmpty_iff] at hlo
        obtain ⟨hlo1, rfl⟩ := hlo
        have h' : (lo = true → C w') ∧ R a' w' := by simpa [picks, wpList, Exit.then] using h'
        exact h'.1 hlo1
      by_cases hw : Region.wanted o (yielded ops a.tmps) = true
      · rw [if_pos hw] at h ⊢
        rcases h with h | h
        · refine .inl ?_
          have h := Oper.wp_mono hmono h
          unfold Oper.wp at *
          generalize (execOp a.eval o).run P w = r at *
          cases r with
          | ok n w' => cases n <;> simp only [Oper.upon] at h ⊢ <;> exact h
          | halt x w' => cases x <;> simp only [Oper.upon] at h ⊢ <;> exact h
        · exact .inr h
      · rw [if_neg hw] at h ⊢
        exact hmono _ _ h

theorem seg_ok (hs : Region.noSelect ops = true) (hQ : ∀ c a d v w, Q (.panic c) (a.put d v) w → Q (.panic c) a w) : ∀ (is : List Seg) (listed : Array Bool) (a : Act) (w : World), Shut md ops listed →
    segFrom md ops is listed = true → wpSeg P ops C Q (segs ops.toList is) a w → wpAnyF P md ops Q C (looseOf md ops) (segLen is) listed a w := by
  intro is
  induction is with
  | nil =>
    intro listed a w _ hB h
    exact ⟨by simpa [segFrom] using hB, by simpa [wpSeg, segs] using h⟩
  | cons s is ih =>
    intro listed a w hsh hB h
    cases s with
    | fl ks =>
      simp only [segFrom, Bool.and_eq_true] at hB
      simp only [segs, wpSeg] at h
      exact fl_ok hs hQ h.1 ks listed a hsh hB.1 (fun a' hsh' hR => ih _ a' w hsh' hB.2 hR) h.2
    | sq ks lo =>
      simp only [segFrom, Bool.and_eq_true] at hB
      simp only [segs, wpSeg] at h
      exact sq_ok ks listed a w hsh hB.1 (fun a' w' hsh' _ hR => ih _ a' w' hsh' hB.2 hR) h

/-- One walk serves every order. -/
theorem wp_region_seg {id : Nat} {a : Act} {w : World} {l : List Oper} (is : List Seg) (hm : P.follows .mixedOrders = true) (hB : segB .any l.toArray is = true)
    (hQ : ∀ c a d v w, Q (.panic c) (a.put d v) w → Q (.panic c) a w)
    (h : wpSeg P l.toArray C Q (segs l is) a w.drew) : (Code.region id l.toArray true).wp P Q a w := by
  simp only [segB, Bool.and_eq_true, beq_iff_eq] at hB
  refine wp_region_any hm (wpAny_of_F (C := C) (loose := looseOf .any l.toArray) _ _ _ _ ?_)
  have := seg_ok (md := .any) (C := C) hB.1.1 hQ is (Array.replicate l.toArray.size false) a w.drew (shut_none _) hB.2 h
  rw [hB.1.2] at this
  exact this

theorem wpSeg_fl {os : List Oper} {r : List SegO} {a : Act} {w : World} (hC : C w) (h : wpQuiet P ops C (fun a' => wpSeg P ops C Q r a' w) os a) : wpSeg P ops C Q (.fl os :: r) a w := ⟨hC, h⟩
theorem wpSeg_sq {os : List Oper} {lo : Bool} {r : List SegO} {a : Act} {w : World}
    (h : ∀ K : Act → World → Prop, (∀ a' w', (lo = true → C w') → wpSeg P ops C Q r a' w' → K a' w') → wpList P ops (Exit.then K Q) os a w) : wpSeg P ops C Q (.sq os lo :: r) a w :=
  h _ (fun _ _ h1 h2 => ⟨h1, h2⟩)
theorem wpSeg_nil {a : Act} {w : World} (h : Q .normal a w) : wpSeg P ops C Q [] a w := h
theorem exit_then_self (Q : Exit → Act → World → Prop) : Exit.then (Q .normal) Q = Q := by
  funext e a w
  cases e <;> rfl
/-- The last segment. -/
theorem wpSeg_last {os : List Oper} {a : Act} {w : World} (h : wpList P ops Q os a w) : wpSeg P ops C Q [.sq os false] a w := by
  unfold wpSeg
  have e : (fun a' w' => (false = true → C w') ∧ wpSeg P ops C Q [] a' w') = Q .normal := by
    funext a' w'
    simp [wpSeg]
  rw [e, exit_then_self]
  exact h

end
end Go.Proofs.Ytlaaamaaabcfeaa

/- Regions that draw their order, as a tree: operations that load float, those that look at no memory float without a condition; of two others that may come next either may. -/
namespace Go.Proofs.Ytlaaamaaabcfeaa
open Go.RowKit
set_option linter.unusedVariables false

/-- fl: reading operations; pu: such that look at no memory; sq: one by one; br: either of two. -/
inductive Tr where
  | nil
  | fl (ks : List Nat) (t : Tr)
  | pu (ks : List Nat) (t : Tr)
  | sq (ks : List Nat) (lo : Bool) (t : Tr)
  | br (k1 : Nat) (lo1 : Bool) (t1 : Tr) (k2 : Nat) (lo2 : Bool) (t2 : Tr)
inductive TrO where
  | nil
  | fl (os : List Oper) (t : TrO)
  | pu (os : List Oper) (t : TrO)
  | sq (os : List Oper) (lo : Bool) (t : TrO)
  | br (os1 : List Oper) (lo1 : Bool) (t1 : TrO) (os2 : List Oper) (lo2 : Bool) (t2 : TrO)

def isLoad : Op → Bool
  | .load .. => true
  | _ => false

section
variable {P : Program} {ops : Array Oper} {md : Region.Mode} {C : World → Prop} {Q : Exit → Act → World → Prop}

/-- An operation that looks at no memory may be taken first, whatever else may come ahead of it. -/
theorem wpAnyF_pure {loose : Nat → Bool} {i : Nat} {oi : Oper} {v : Value} (hi : ops[i]? = some oi) (hsel : ∀ (j : Nat) (o : Oper) cs b, ops[j]? = some o → o.op ≠ .select cs b)
    (hQ : ∀ c a d v w, Q (.panic c) (a.put d v) w → Q (.panic c) a w) (hlo : loose i = false) :
    ∀ (fuel : Nat) (listed : Array Bool) (a : Act) (w : World),
      (∀ j oj, ops[j]? = some oj → j ≠ i → listed.getD j true = false → (∀ e ∈ oj.after, Region.binds md e = true → e.on ≠ i) → oi.apart ops oj = true) →
      i ∈ Region.ready md ops listed → Stays P ops (fun _ => True) oi v a →
      wpAnyF P md ops Q C loose fuel (listed.setIfInBounds i true) (a.put oi.dst v) w → wpAnyF P md ops Q C loose (fuel + 1) listed a w := by
  intro fuel
  induction fuel with
  | zero =>
    intro listed a w _ hr hy H
    refine ⟨fun h => (by rw [h] at hr; cases hr), fun j hj => ?_⟩
    by_cases hji : j = i
    · subst hji; exact hy.wpOp hi trivial ⟨fun h => (by rw [hlo] at h; cases h), H⟩
    · have := ready_mono hj hji
      rw [H.1] at this
      cases this
  | succ fuel ih =>
    intro listed a w hfree hr hy H
    refine ⟨fun h => (by rw [h] at hr; cases hr), fun j hj => ?_⟩
    by_cases hji : j = i
    · subst hji; exact hy.wpOp hi trivial ⟨fun h => (by rw [hlo] at h; cases h), H⟩
    · have h1 := H.2 j (ready_mono hj hji)
      obtain ⟨hjun, oj, hoj, hall⟩ := mem_ready.1 hj
      have hiun : listed.getD i false = false := by
        have h0 := (mem_ready.1 hr).1
        rcases Nat.lt_or_ge i listed.size with h' | h'
        · simp [h'] at h0 ⊢; exact h0
        · simp [Array.getElem?_eq_none h']
      have hnot : ∀ e ∈ oj.after, Region.binds md e = true → e.on ≠ i := fun e he hb heq => by
        have h1 := hall e he hb
        rw [heq, hiun] at h1
        cases h1
      have h2 := wpOp_putF (C := fun _ => True) hoj (hfree j oj hoj hji hjun hnot) (fun cs b => hsel i oi cs b hi) (fun cs b => hsel j oj cs b hoj) hQ hy h1
      have hun' : ∀ k, (listed.setIfInBounds j true).getD k true = false → listed.getD k true = false := fun k hun => by
        by_cases hjk : j = k
        · subst hjk; exact hjun
        · rw [getD_set_ne true hjk] at hun; exact hun
      refine wpOp_mono (fun a' w' h3 => ⟨h3.2.1, ih (listed.setIfInBounds j true) a' w' (fun k ok hk hki hun hno => hfree k ok hk hki (hun' k hun) hno) (ready_mono hr (Ne.symm hji)) h3.1 ?_⟩) h2
      rw [Array.setIfInBounds_comm _ _ hji]
      exact h3.2.2

/-- Is there an operation that loads and that may come ahead of j as well as behind it? -/
def looseL (md : Region.Mode) (ops : Array Oper) (j : Nat) : Bool :=
  (List.range ops.size).any fun i => i != j && (match ops[i]? with | some o => isLoad o.op | none => false) && !waitsFor md ops ops.size j i && !waitsFor md ops ops.size i j

def flL (md : Region.Mode) (ops : Array Oper) : List Nat → Array Bool → Bool × Array Bool
  | [], listed => (true, listed)
  | k :: ks, listed => match ops[k]? with
    | none => (false, listed)
    | some o => let r := flL md ops ks (listed.setIfInBounds k true)
      (calm o.op && (Region.ready md ops listed).contains k && Region.free md ops listed k && ((List.range ops.size).all fun j => j == k || listed.getD j true || waitsFor md ops ops.size j k || looseL md ops j) && r.1, r.2)
def puL (md : Region.Mode) (ops : Array Oper) : List Nat → Array Bool → Bool × Array Bool
  | [], listed => (true, listed)
  | k :: ks, listed => match ops[k]? with
    | none => (false, listed)
    | some o => let r := puL md ops ks (listed.setIfInBounds k true)
      (calm o.op && (Region.ready md ops listed).contains k && Region.free md ops listed k && !looseL md ops k && r.1, r.2)
def sqL (md : Region.Mode) (ops : Array Oper) (lo : Bool) : List Nat → Array Bool → Bool × Array Bool
  | [], listed => (true, listed)
  | k :: ks, listed => match ops[k]? with
    | none => (false, listed)
    | some _ => let r := sqL md ops lo ks (listed.setIfInBounds k true)
      (Region.ready md ops listed == [k] && (!looseL md ops k || (lo && ks.isEmpty)) && r.1, r.2)
def trLen : Tr → Nat
  | .nil => 0
  | .fl ks t => trLen t + ks.length
  | .pu ks t => trLen t + ks.length
  | .sq ks _ t => trLen t + ks.length
  | .br _ _ t1 _ _ _ => trLen t1 + 1
def trL (md : Region.Mode) (ops : Array Oper) : Tr → Array Bool → Bool
  | .nil, listed => (Region.ready md ops listed).isEmpty
  | .fl ks t, listed => let x := flL md ops ks listed; x.1 && trL md ops t x.2
  | .pu ks t, listed => let x := puL md ops ks listed; x.1 && trL md ops t x.2
  | .sq ks lo t, listed => let x := sqL md ops lo ks listed; x.1 && trL md ops t x.2
  | .br k1 lo1 t1 k2 lo2 t2, listed => Region.ready md ops listed == [k1, k2] && (!looseL md ops k1 || lo1) && (!looseL md ops k2 || lo2) && trLen t1 == trLen t2 && (ops[k1]?).isSome && (ops[k2]?).isSome &&
      trL md ops t1 (listed.setIfInBounds k1 true) && trL md ops t2 (listed.setIfInBounds k2 true)
def trB (md : Region.Mode) (ops : Array Oper) (t : Tr) : Bool := Region.noSelect ops && trLen t == ops.size && trL md ops t (Array.replicate ops.size false)

def trO (l : List Oper) : Tr → TrO
  | .nil => .nil
  | .fl ks t => .fl (picks l ks) (trO l t)
  | .pu ks t => .pu (picks l ks) (trO l t)
  | .sq ks lo t => .sq (picks l ks) lo (trO l t)
  | .br k1 lo1 t1 k2 lo2 t2 => .br (picks l [k1]) lo1 (trO l t1) (picks l [k2]) lo2 (trO l t2)

/-- The walk. -/
def wpTr (P : Program) (ops : Array Oper) (C : World → Prop) (Q : Exit → Act → World → Prop) : TrO → Act → World → Prop
  | .nil, a, w => Q .normal a w
  | .fl os t, a, w => C w ∧ wpQuiet P ops C (fun a' => wpTr P ops C Q t a' w) os a
  | .pu os t, a, w => wpQuiet P ops (fun _ => True) (fun a' => wpTr P ops C Q t a' w) os a
  | .sq os lo t, a, w => wpList P ops (Exit.then (fun a' w' => (lo = true → C w') ∧ wpTr P ops C Q t a' w') Q) os a w
  | .br os1 lo1 t1 os2 lo2 t2, a, w => wpList P ops (Exit.then (fun a' w' => (lo1 = true → C w') ∧ wpTr P ops C Q t1 a' w') Q) os1 a w ∧ wpList P ops (Exit.then (fun a' w' => (lo2 = true → C w') ∧ wpTr P ops C Q t2 a' w') Q) os2 a w

theorem stays_of {C : World → Prop} {o : Oper} {a : Act} {K : Act → Prop} {ks : List Oper} (hcalm : calm o.op = true) (h : wpQuiet P ops C K (o :: ks) a) : ∃ v, Stays P ops C o v a ∧ wpQuiet P ops C K ks (a.put o.dst v) := by
  simp only [wpQuiet] at h
  by_cases hw : Region.wanted o (yielded ops a.tmps) = true
  · rw [if_pos hw] at h
    obtain ⟨v, h1, h2⟩ := h
    refine ⟨v, .inl ⟨hw, fun x hx => ?_⟩, h2⟩
    have h3 := h1 x hx
    unfold Oper.quietAt at h3
    cases hq : (execOp a.eval o).run P x with
    | ok nx w2 =>
      obtain ⟨u, rfl⟩ := calm_value hcalm hq
      rw [hq] at h3
      simp only [Oper.quietUpon] at h3
      rw [h3.1, h3.2]
    | halt x' w2 => rw [hq] at h3; simp only [Oper.quietUpon] at h3
  · rw [if_neg hw] at h
    exact ⟨undef, .inr ⟨by simpa using hw, rfl⟩, h⟩

theorem flL_ok (hs : Region.noSelect ops = true) (hQ : ∀ c a d v w, Q (.panic c) (a.put d v) w → Q (.panic c) a w) {m : Nat} {R : Act → Prop} {w : World} (hC : C w) : ∀ (ks : List Nat) (listed : Array Bool) (a : Act), Shut md ops listed → (flL md ops ks listed).1 = true →
    (∀ a', Shut md ops (flL md ops ks listed).2 → R a' → wpAnyF P md ops Q C (looseL md ops) m (flL md ops ks listed).2 a' w) →
    wpQuiet P ops C R (picks ops.toList ks) a → wpAnyF P md ops Q C (looseL md ops) (m + ks.length) listed a w := by
  intro ks
  induction ks with
  | nil =>
    intro listed a hsh _ hR h
    exact hR a hsh (by simpa [picks, wpQuiet] using h)
  | cons k ks ih =>
    intro listed a hsh hB hR h
    cases hk : ops[k]? with
    | none => simp [flL, hk] at hB
    | some o =>
      have e : picks ops.toList (k :: ks) = o :: picks ops.toList ks := by simp [picks, hk]
      rw [e] at h
      simp only [flL, hk, Bool.and_eq_true] at hB hR
      obtain ⟨⟨⟨⟨hc, hr⟩, hf⟩, hlo⟩, hB'⟩ := hB
      have hrk : k ∈ Region.ready md ops listed := by simpa using hr
      obtain ⟨v, hy, hK⟩ := stays_of hc h
      refine wpAnyF_early (f := ops.size) hk (Region.noSelect_spec hs) hQ (m + ks.length) listed a w ?_ (Region.free_spec hk hf) hrk hsh hy hC (ih _ _ (hsh.set hrk) hB' hR hK)
      intro j oj hj hjk hun
      simp only [List.all_eq_true, List.mem_range, Bool.or_eq_true, beq_iff_eq] at hlo
      rcases hlo j (Array.getElem?_eq_some_iff.1 hj).1 with ((h | h) | h) | h
      · exact absurd h hjk
      · rw [hun] at h; cases h
      · exact .inl h
      · exact .inr h
theorem puL_ok (hs : Region.noSelect ops = true) (hQ : ∀ c a d v w, Q (.panic c) (a.put d v) w → Q (.panic c) a w) {m : Nat} {R : Act → Prop} {w : World} : ∀ (ks : List Nat) (listed : Array Bool) (a : Act), Shut md ops listed → (puL md ops ks listed).1 = true →
    (∀ a', Shut md ops (puL md ops ks listed).2 → R a' → wpAnyF P md ops Q C (looseL md ops) m (puL md ops ks listed).2 a' w) →
    wpQuiet P ops (fun _ => True) R (picks ops.toList ks) a → wpAnyF P md ops Q C (looseL md ops) (m + ks.length) listed a w := by
  intro ks
  induction ks with
  | nil =>
    intro listed a hsh _ hR h
    exact hR a hsh (by simpa [picks, wpQuiet] using h)
  | cons k ks ih =>
    intro listed a hsh hB hR h
    cases hk : ops[k]? with
    | none => simp [puL, hk] at hB
    | some o =>
      have e : picks ops.toList (k :: ks) = o :: picks ops.toList ks := by simp [picks, hk]
      rw [e] at h
      simp only [puL, hk, Bool.and_eq_true, Bool.not_eq_true'] at hB hR
      obtain ⟨⟨⟨⟨hc, hr⟩, hf⟩, hlo⟩, hB'⟩ := hB
      have hrk : k ∈ Region.ready md ops listed := by simpa using hr
      obtain ⟨v, hy, hK⟩ := stays_of hc h
      exact wpAnyF_pure hk (Region.noSelect_spec hs) hQ hlo (m + ks.length) listed a w (Region.free_spec hk hf) hrk hy (ih _ _ (hsh.set hrk) hB' hR hK)

/-- One operation that comes next. -/
theorem oneL_ok {m : Nat} {lo : Bool} {R : Act → World → Prop} {k : Nat} {o : Oper} (hk : ops[k]? = some o) {L : Array Bool} {a : Act} {w : World} (hlo : looseL md ops k = true → lo = true)
    (hR : ∀ a' w', (lo = true → C w') → R a' w' → wpAnyF P md ops Q C (looseL md ops) m L a' w')
    (h : wpList P ops (Exit.then (fun a' w' => (lo = true → C w') ∧ R a' w') Q) [o] a w) : wpOp P ops Q k (fun a' w' => (looseL md ops k = true → C w') ∧ wpAnyF P md ops Q C (looseL md ops) m L a' w') a w := by
  unfold wpOp
  simp only [hk]
  unfold wpList at h
  have hmono : ∀ a' w', wpList P ops (Exit.then (fun a' w' => (lo = true → C w') ∧ R a' w') Q) [] a' w' → (looseL md ops k = true → C w') ∧ wpAnyF P md ops Q C (looseL md ops) m L a' w' := by
    intro a' w' h'
    have h' : (lo = true → C w') ∧ R a' w' := by simpa [wpList, Exit.then] using h'
    exact ⟨fun hl => h'.1 (hlo hl), hR a' w' h'.1 h'.2⟩
  by_cases hw : Region.wanted o (yielded ops a.tmps) = true
  · rw [if_pos hw] at h ⊢
    rcases h with h | h
    · refine .inl ?_
      have h := Oper.wp_mono hmono h
      unfold Oper.wp at *
      generalize (execOp a.eval o).run P w = r at *
      cases r with
      | ok n w' => cases n <;> simp only [Oper.upon] at h ⊢ <;> exact h
      | halt x w' => cases x <;> simp only [Oper.upon] at h ⊢ <;> exact h
    · exact .inr h
  · rw [if_neg hw] at h ⊢
    exact hmono _ _ h

theorem sqL_ok {m : Nat} {lo : Bool} {R : Act → World → Prop} : ∀ (ks : List Nat) (listed : Array Bool) (a : Act) (w : World), Shut md ops listed → (sqL md ops lo ks listed).1 = true →
    (∀ a' w', Shut md ops (sqL md ops lo ks listed).2 → (lo = true → C w') → R a' w' → wpAnyF P md ops Q C (looseL md ops) m (sqL md ops lo ks listed).2 a' w') →
    wpList P ops (Exit.then (fun a' w' => (lo = true → C w') ∧ R a' w') Q) (picks ops.toList ks) a w → wpAnyF P md ops Q C (looseL md ops) (m + ks.length) listed a w := by
  intro ks
  induction ks with
  | nil =>
    intro listed a w hsh _ hR h
    have h : (lo = true → C w) ∧ R a w := by simpa [picks, wpList, Exit.then] using h
    exact hR a w hsh h.1 h.2
  | cons k ks ih =>
    intro listed a w hsh hB hR h
    cases hk : ops[k]? with
    | none => simp [sqL, hk] at hB
    | some o =>
      have e : picks ops.toList (k :: ks) = o :: picks ops.toList ks := by simp [picks, hk]
      rw [e] at h
      simp only [sqL, hk, Bool.and_eq_true, beq_iff_eq] at hB hR
      obtain ⟨⟨hr, hlo⟩, hB'⟩ := hB
      have hrk : k ∈ Region.ready md ops listed := by rw [hr]; simp
      refine ⟨fun h' => (by rw [hr] at h'; cases h'), fun i hi => ?_⟩
      rw [hr] at hi
      obtain rfl : i = k := by simpa using hi
      unfold wpOp
      simp only [hk]
      unfold wpList at h
      have hmono : ∀ a' w', wpList P ops (Exit.then (fun a' w' => (lo = true → C w') ∧ R a' w') Q) (picks ops.toList ks) a' w' →
          (looseL md ops i = true → C w') ∧ wpAnyF P md ops Q C (looseL md ops) (m + ks.length) (listed.setIfInBounds i true) a' w' := by
        intro a' w' h'
        refine ⟨fun hl => ?_, ih _ _ _ (hsh.set hrk) hB' hR h'⟩
        simp only [hl, Bool.not_true, Bool.false_or, Bool.and_eq_true, List.isEmpty_iff] at hlo
        obtain ⟨hlo1, rfl⟩ := hlo
        have h' : (lo = true → C w') ∧ R a' w' := by simpa [picks, wpList, Exit.then] using h'
        exact h'.1 hlo1
      by_cases hw : Region.wanted o (yielded ops a.tmps) = true
      · rw [if_pos hw] at h ⊢
        rcases h with h | h
        · refine .inl ?_
          have h := Oper.wp_mono hmono h
          unfold Oper.wp at *
          generalize (execOp a.eval o).run P w = r at *
          cases r with
          | ok n w' => cases n <;> simp only [Oper.upon] at h ⊢ <;> exact h
          | halt x w' => cases x <;> simp only [Oper.upon] at h ⊢ <;> exact h
        · exact .inr h
      · rw [if_neg hw] at h ⊢
        exact hmono _ _ h

theorem tr_ok (hs : Region.noSelect ops = true) (hQ : ∀ c a d v w, Q (.panic c) (a.put d v) w → Q (.panic c) a w) : ∀ (t : Tr) (listed : Array Bool) (a : Act) (w : World), Shut md ops listed →
    trL md ops t listed = true → wpTr P ops C Q (trO ops.toList t) a w → wpAnyF P md ops Q C (looseL md ops) (trLen t) listed a w := by
  intro t
  induction t with
  | nil =>
    intro listed a w _ hB h
    exact ⟨by simpa [trL] using hB, by simpa [wpTr, trO] using h⟩
  | fl ks t ih =>
    intro listed a w hsh hB h
    simp only [trL, Bool.and_eq_true] at hB
    simp only [trO, wpTr] at h
    exact flL_ok hs hQ h.1 ks listed a hsh hB.1 (fun a' hsh' hR => ih _ a' w hsh' hB.2 hR) h.2
  | pu ks t ih =>
    intro listed a w hsh hB h
    simp only [trL, Bool.and_eq_true] at hB
    simp only [trO, wpTr] at h
    exact puL_ok hs hQ ks listed a hsh hB.1 (fun a' hsh' hR => ih _ a' w hsh' hB.2 hR) h
  | sq ks lo t ih =>
    intro listed a w hsh hB h
    simp only [trL, Bool.and_eq_true] at hB
    simp only [trO, wpTr] at h
    exact sqL_ok ks listed a w hsh hB.1 (fun a' w' hsh' _ hR => ih _ a' w' hsh' hB.2 hR) h
  | br k1 lo1 t1 k2 lo2 t2 ih1 ih2 =>
    intro listed a w hsh hB h
    simp only [trL, Bool.and_eq_true, beq_iff_eq] at hB
    obtain ⟨⟨⟨⟨⟨⟨⟨hr, hl1⟩, hl2⟩, hlen⟩, ho1⟩, ho2⟩, hB1⟩, hB2⟩ := hB
    obtain ⟨o1, ho1⟩ := Option.isSome_iff_exists.1 ho1
    obtain ⟨o2, ho2⟩ := Option.isSome_iff_exists.1 ho2
    simp only [trO, wpTr] at h
    have e1 : picks ops.toList [k1] = [o1] := by simp [picks, ho1]
    have e2 : picks ops.toList [k2] = [o2] := by simp [picks, ho2]
    rw [e1, e2] at h
    refine ⟨fun h' => (by rw [hr] at h'; cases h'), fun i hi => ?_⟩
    have hri := hi
    rw [hr] at hi
    simp only [List.mem_cons, List.not_mem_nil, or_false] at hi
    rcases hi with rfl | rfl
    · exact oneL_ok ho1 (fun hl => by simpa [hl] using hl1) (fun a' w' _ hR => ih1 _ a' w' (hsh.set hri) hB1 hR) h.1
    · exact oneL_ok ho2 (fun hl => by simpa [hl] using hl2) (fun a' w' _ hR => by have := ih2 _ a' w' (hsh.set hri) hB2 hR; rw [← hlen] at this; exact this) h.2

/-- One walk for each branch serves every order. -/
theorem wp_region_tr {id : Nat} {a : Act} {w : World} {l : List Oper} (t : Tr) (hm : P.follows .mixedOrders = true) (hB : trB .any l.toArray t = true)
    (hQ : ∀ c a d v w, Q (.panic c) (a.put d v) w → Q (.panic c) a w)
    (h : wpTr P l.toArray C Q (trO l t) a w.drew) : (Code.region id l.toArray true).wp P Q a w := by
  simp only [trB, Bool.and_eq_true, beq_iff_eq] at hB
  refine wp_region_any hm (wpAny_of_F (C := C) (loose := looseL .any l.toArray) _ _ _ _ ?_)
  have := tr_ok (md := .any) (C := C) hB.1.1 hQ t (Array.replicate l.toArray.size false) a w.drew (shut_none _) hB.2 h
  rw [hB.1.2] at this
  exact this

theorem wpTr_fl {os : List Oper} {t : TrO} {a : Act} {w : World} (hC : C w) (h : wpQuiet P ops C (fun a' => wpTr P ops C Q t a' w) os a) : wpTr P ops C Q (.fl os t) a w := ⟨hC, h⟩
theorem wpTr_pu {os : List Oper} {t : TrO} {a : Act} {w : World} (h : wpQuiet P ops (fun _ => True) (fun a' => wpTr P ops C Q t a' w) os a) : wpTr P ops C Q (.pu os t) a w := h
theorem wpTr_sq {os : List Oper} {lo : Bool} {t : TrO} {a : Act} {w : World}
    (h : ∀ K : Act → World → Prop, (∀ a' w', (lo = true → C w') → wpTr P ops C Q t a' w' → K a' w') → wpList P ops (Exit.then K Q) os a w) : wpTr P ops C Q (.sq os lo t) a w :=
  h _ (fun _ _ h1 h2 => ⟨h1, h2⟩)
theorem wpTr_br {os1 os2 : List Oper} {lo1 lo2 : Bool} {t1 t2 : TrO} {a : Act} {w : World} (h1 : wpTr P ops C Q (.sq os1 lo1 t1) a w) (h2 : wpTr P ops C Q (.sq os2 lo2 t2) a w) : wpTr P ops C Q (.br os1 lo1 t1 os2 lo2 t2) a w := ⟨h1, h2⟩
theorem wpTr_nil {a : Act} {w : World} (h : Q .normal a w) : wpTr P ops C Q .nil a w := h
/-- The last segment. -/
theorem wpTr_last {os : List Oper} {a : Act} {w : World} (h : wpList P ops Q os a w) : wpTr P ops C Q (.sq os false .nil) a w := by
  unfold wpTr
  have e : (fun a' w' => (false = true → C w') ∧ wpTr P ops C Q .nil a' w') = Q .normal := by
    funext a' w'
    simp [wpTr]
  rw [e, exit_then_self]
  exact h
end

end Go.Proofs.Ytlaaamaaabcfeaa

/- Spans: their cells; law10.Spans at alike spans. -/
namespace Go.Proofs.Ytlaaamaaabcfeaa
open Go.RowKit
set_option linter.unusedVariables false

/-- A span: its first block, how many. -/
abbrev Sp := Nat × Nat
def spCs (l : List Sp) : List Value := l.flatMap fun s => [.int .i64 s.1, .int .i64 s.2]
theorem spCs_length (l : List Sp) : (spCs l).length = 2 * l.length := by
  induction l with
  | nil => rfl
  | cons h l ih => simp only [spCs, List.flatMap_cons, List.length_append, List.length_cons] at *; rw [ih]; simp; omega
theorem spCs_append (l m : List Sp) : spCs (l ++ m) = spCs l ++ spCs m := by simp [spCs]
theorem spCs_last (l : List Sp) (s n : Nat) : (spCs (l ++ [(s, n)]))[l.length * 2]? = some (.int .i64 (s : Int)) ∧ (spCs (l ++ [(s, n)]))[l.length * 2 + 1]? = some (.int .i64 (n : Int)) := by
  have hl := spCs_length l
  rw [spCs_append]
  constructor
  · rw [List.getElem?_append_right (by omega), show l.length * 2 - (spCs l).length = 0 by omega]; rfl
  · rw [List.getElem?_append_right (by omega), show l.length * 2 + 1 - (spCs l).length = 1 by omega]; rfl
theorem spCs_bump (l : List Sp) (s n m : Nat) : (spCs (l ++ [(s, n)])).set (l.length * 2 + 1) (.int .i64 (m : Int)) = spCs (l ++ [(s, m)]) := by
  have hl := spCs_length l
  rw [spCs_append, spCs_append, List.set_append_right _ _ (by omega), show l.length * 2 + 1 - (spCs l).length = 1 by omega]
  rfl

def bump (l : List Sp) : List Sp := match l.getLast? with
  | none => l
  | some s => l.dropLast ++ [(s.1, s.2 + 1)]
theorem bump_last (l : List Sp) (s n : Nat) : bump (l ++ [(s, n)]) = l ++ [(s, n + 1)] := by simp [bump]
theorem sp_cells {w : World} {a : Option Addr} {l : List Sp} (h : Cells w a (spCs l)) {j : Nat} (hj : j < l.length) {s n : Nat} (he : l.getD j (0, 0) = (s, n)) :
    ∃ b off, a = some ⟨b, off, none⟩ ∧ w.cell? ⟨b, off + j * 2, none⟩ = some (.int .i64 (s : Int)) ∧ w.cell? ⟨b, off + j * 2 + 1, none⟩ = some (.int .i64 (n : Int)) := by
  have e : l = (l.take j ++ [(s, n)]) ++ l.drop (j + 1) := by
    have : l[j] = (s, n) := by rw [← he]; simp [hj]
    rw [← this, ← List.take_succ_eq_append_getElem hj, List.take_append_drop]
  have hl := spCs_last (l.take j) s n
  have hjl : (l.take j).length = j := by simp; omega
  rw [hjl] at hl
  have hlen := spCs_length (l.take j ++ [(s, n)])
  simp [hjl] at hlen
  rcases h with h | ⟨b, off, rfl, h⟩
  · have := congrArg List.length h
    rw [spCs_length] at this
    simp only [List.length_nil] at this
    omega
  · refine ⟨b, off, rfl, h (j * 2) _ ?_, h (j * 2 + 1) _ ?_⟩
    · rw [e, spCs_append, List.getElem?_append_left (by simp [spCs_length]; omega)]; exact hl.1
    · rw [e, spCs_append, List.getElem?_append_left (by simp [spCs_length]; omega)]; exact hl.2

set_option maxHeartbeats 1000000 in
set_option maxRecDepth 20000 in
theorem lspans_same (a b : Option Addr) (n cap cap2 : Nat) (l : List Sp) (hn : l.length = n) (w : World) (hc : Cells w a (spCs l)) (hc2 : Cells w b (spCs l)) (hl : n ≤ 1000) :
    Calls Try.prog 25 #[.slice a n cap, .slice b n cap2] w fun e w' => e = .returned (.bool true) ∧ ∃ q, w' = w.drewN q := by
  have HN := Lib.hid hn
  have HC := Lib.hid hc
  have HC2 := Lib.hid hc2
  have hne : (n != n) = false := by simp
  have hne2 : ((n : Int) != (n : Int)) = false := by simp
  clear hn hc hc2
  go_enter Try.func25, Try.ntmps25
  go_wp2_with fail
  go_loopw [5] (fun i wr => ∃ k : Nat, k ≤ n ∧ i = .int .i64 k ∧ ∃ q, wr = w.drewN q) (fun i _ => n - (intOf i).toNat)
  case atStart => exact ⟨0, Nat.zero_le _, rfl, 0, rfl⟩
  case round =>
    obtain ⟨k, hk, rfl, q, rfl⟩ := hrel
    by_cases hlt : k < n
    · have hlt' : (k : Int) < (n : Int) := by omega
      have hkl : k < l.length := by rw [HN.out]; exact hlt
      obtain ⟨s, m, e1⟩ : ∃ s m, l.getD k (0, 0) = (s, m) := ⟨_, _, rfl⟩
      obtain ⟨b1, o1, rfl, d0, d1⟩ := sp_cells HC.out hkl e1
      obtain ⟨b2, o2, rfl, d3, d4⟩ := sp_cells HC2.out hkl e1
      have hs : (s != s) = false := by simp
      have hs2 : ((s : Int) != (s : Int)) = false := by simp
      have hm : (m != m) = false := by simp
      have hm2 : ((m : Int) != (m : Int)) = false := by simp
      clear e1 hkl
      go_wp2_with fail
      go_quiet (fail)
      go_wp2_with fail
      exact ⟨⟨k + 1, by omega, vint (by omega), _, rfl⟩, by simp [intOf]; omega⟩
    · obtain rfl : k = n := by omega
      have hlt' : decide ((k : Int) < (k : Int)) = false := by simp
      go_wp2_with fail
      go_ret
      exact ⟨rfl, _, rfl⟩

end Go.Proofs.Ytlaaamaaabcfeaa

/- runs: an index of free runs in memory; New, Has, Total, Longest, drop, add. -/
namespace Go.Proofs.Ytlaaamaaabcfeaa
open Go.RowKit Go.Maps
set_option linter.unusedVariables false

/-- The three blocks of an index: the struct, the runs by their starts, by their ends. -/
structure Tri where
  p : Nat
  s : Nat
  e : Nat
def Tri.list (T : Tri) : List Nat := [T.p, T.s, T.e]

structure MapsAt (w : World) (T : Tri) (n lim : Nat) (M E : Int → Option Int) : Prop where
  head : w.heap[T.p]? = some (.cells #[.map (some T.s), .map (some T.e), .int .i64 (lim : Int)] 54 (0, 0))
  byS : IMap Try.prog 3 w T.s n M
  byE : IMap Try.prog 3 w T.e n E
  ne1 : T.p ≠ T.s
  ne2 : T.p ≠ T.e
  ne3 : T.s ≠ T.e

theorem MapsAt.row {w : World} {T : Tri} {n lim : Nat} {M E : Int → Option Int} (h : MapsAt w T n lim M E) : RowAt w T.p 54 [.map (some T.s), .map (some T.e), .int .i64 (lim : Int)] := ⟨_, h.head, [], rfl⟩
theorem MapsAt.keep {w w' : World} {T : Tri} {n lim : Nat} {M E : Int → Option Int} (h : MapsAt w T n lim M E) (hk : ∀ k ∈ T.list, w'.heap[k]? = w.heap[k]?) : MapsAt w' T n lim M E := by
  have h1 := hk T.p (by simp [Tri.list])
  have h2 := hk T.s (by simp [Tri.list])
  have h3 := hk T.e (by simp [Tri.list])
  exact ⟨h1.trans h.head, h.byS.block h2, h.byE.block h3, h.ne1, h.ne2, h.ne3⟩
theorem MapsAt.mem {w : World} {T : Tri} {n lim : Nat} {M E : Int → Option Int} (h : MapsAt w T n lim M E) : ∀ k ∈ T.list, k < w.heap.size := by
  have h1 := h.row.lt
  have h2 := h.byS.lt
  have h3 := h.byE.lt
  simp only [Tri.list, List.mem_cons, List.not_mem_nil, or_false, forall_eq_or_imp, forall_eq]
  exact ⟨h1, h2, h3⟩
theorem MapsAt.below {w w' : World} {T : Tri} {n lim : Nat} {M E : Int → Option Int} (h : MapsAt w T n lim M E) (hb : Below w.heap.size w w') : MapsAt w' T n lim M E := h.keep (fun k hk => hb.block k (h.mem k hk))
theorem MapsAt.mono {w : World} {T : Tri} {n m lim : Nat} {M E : Int → Option Int} (h : MapsAt w T n lim M E) (hn : n ≤ m) : MapsAt w T m lim M E := ⟨h.head, h.byS.mono hn, h.byE.mono hn, h.ne1, h.ne2, h.ne3⟩

/-- An index of free runs: l: which blocks are free. -/
def IxAt (w : World) (T : Tri) (n : Nat) (l : List Bool) : Prop := ∃ M E, MapsAt w T n l.length M E ∧ MOf l M ∧ EOf l E

theorem IxAt.below {w w' : World} {T : Tri} {n : Nat} {l : List Bool} (h : IxAt w T n l) (hb : Below w.heap.size w w') : IxAt w' T n l := by
  obtain ⟨M, E, h1, h2⟩ := h; exact ⟨M, E, h1.below hb, h2⟩
theorem IxAt.keep {w w' : World} {T : Tri} {n : Nat} {l : List Bool} (h : IxAt w T n l) (hk : ∀ k ∈ T.list, w'.heap[k]? = w.heap[k]?) : IxAt w' T n l := by
  obtain ⟨M, E, h1, h2⟩ := h; exact ⟨M, E, h1.keep hk, h2⟩
theorem IxAt.mem {w : World} {T : Tri} {n : Nat} {l : List Bool} (h : IxAt w T n l) : ∀ k ∈ T.list, k < w.heap.size := by
  obtain ⟨M, E, h1, h2⟩ := h; exact h1.mem

/-- What a run's numbers are. -/
theorem MOf.bounds {l : List Bool} {M : Int → Option Int} (h : MOf l M) {s c : Int} (hm : M s = some c) : 0 ≤ s ∧ 1 ≤ c ∧ s + c ≤ l.length := by
  obtain ⟨h1, h2, h3⟩ := (h s c).1 hm
  have := runEnds h3
  have := h3.1
  omega

/-- Is a block free, whatever its number. -/
def hasB (l : List Bool) (b : Int) : Bool := decide (0 ≤ b) && fb l b.toNat

theorem hasB_hit {l : List Bool} {M : Int → Option Int} (h : MOf l M) {s c b : Int} (hm : M s = some c) (h1 : s ≤ b) (h2 : b < s + c) : hasB l b = true := by
  obtain ⟨h3, h4, h5⟩ := (h s c).1 hm
  have := h5.2.1 b.toNat (by omega) (by omega)
  unfold hasB
  rw [this]
  simp; omega
theorem hasB_miss {l : List Bool} {M : Int → Option Int} (h : MOf l M) {b : Int} (hn : ∀ s c, M s = some c → ¬ (s ≤ b ∧ b < s + c)) : hasB l b = false := by
  unfold hasB
  by_cases hb : 0 ≤ b
  · cases hf : fb l b.toNat with
    | false => simp
    | true =>
      obtain ⟨s, n, h1, h2, h3⟩ := has_run (f := fb l) (L := l.length) (fun x hx => fb_far l x hx) hf
      exact absurd ⟨by omega, by omega⟩ (hn s n ((h s n).2 ⟨by omega, by omega, by simpa using h1⟩))
  · simp [hb]

theorem grown_one {w w' : World} {r B : Nat} (h : w.grownBy w' (some r)) (hr : B ≤ r) (hB : B ≤ w.heap.size) : Below B w w' :=
  ⟨h.os, h.tape, h.output, h.size, fun k hk => h.block k (by omega) (by simp; omega)⟩
theorem grown_touch {w w' : World} {r : Nat} {L : List Nat} (h : w.grownBy w' (some r)) (hr : r ∈ L) : Touch L w w' :=
  ⟨h.os, h.tape, h.output, h.size, fun k hk hn => h.block k hk (by simp; intro e; exact hn (by rw [e]; exact hr))⟩
theorem grown_none {w w' : World} (h : w.grownBy w' none) : Below w.heap.size w w' :=
  ⟨h.os, h.tape, h.output, h.size, fun k hk => h.block k hk (by simp)⟩

set_option maxHeartbeats 1000000 in
theorem has_any {w : World} {T : Tri} {n : Nat} {l : List Bool} (h : IxAt w T n l) (hl : l.length ≤ 1000000000000) (b : Int) :
    Calls Try.prog 8 #[.pointer (some ⟨T.p, 0, none⟩), .int .i64 b] w fun e w' => e = .returned (.bool (hasB l b)) ∧ Below w.heap.size w w' := by
  obtain ⟨M, E, hA, hMO, _⟩ := h
  have e0 : w.cell? ⟨T.p, 0, none⟩ = some (.map (some T.s)) := hA.row.cell rfl
  have HS := Lib.hid hA.byS
  have HMO := Lib.hid hMO
  have HL := Lib.hid hl
  clear hA hMO hl
  go_enter Try.func8, Try.ntmps8
  go_wp2_with (at_range; refine wpList_irange rfl _ 52 rfl 3 Try.underlying3 Try.underlying52 T.s n M rfl HS.out ?_; intro w0 cnt0 hr0 hg0 hs0)
  have HR0 := Lib.hid hr0
  have HB0 := Lib.hid (grown_none hg0)
  clear hr0 hg0 hs0
  go_frame
  go_loopw [5] (fun _ wr => ∃ (L : Int → Bool) (cnt : Nat), IRange Try.prog 3 wr T.s w.heap.size n M L cnt ∧ Below w.heap.size w wr ∧ ∀ s c, M s = some c → L s = false → ¬ (s ≤ b ∧ b < s + c)) (fun _ wr => wr.rangeLeft T.s w.heap.size)
  case atStart => exact ⟨_, _, HR0.out, HB0.out, fun s c h1 h2 => by rw [h1] at h2; cases h2⟩
  case round =>
    obtain ⟨L, cnt, hr, hb, hun⟩ := hrel
    have HR := Lib.hid hr
    have HB := Lib.hid hb
    have HU := Lib.hid hun
    clear hr hb hun
    go_wp2_with (at_next; refine wpList_inext rfl _ rfl 3 Try.underlying3 T.s w.heap.size n M _ _ rfl HR.out ?_ ?_)
    · intro h0
      have hres : hasB l b = false := hasB_miss HMO.out (fun s c hm => HU.out s c hm (h0 s))
      clear h0
      go_wp2_with fail
      go_ret
      rw [hres]
      exact ⟨rfl, HB.out⟩
    · intro x c w1 cnt1 hwx hwc hL hMx hr1 hlt hg1 hs1 hen
      obtain ⟨g1, g2, g3⟩ := HMO.out.bounds hMx
      have g4 := HL.out
      have HR1 := Lib.hid hr1
      have HB1 : Hid (Below w.heap.size w w1) := Lib.hid (HB.out.trans (grown_one hg1 (Nat.le_refl _) HB.out.size))
      have HMx := Lib.hid hMx
      have HLt := Lib.hid hlt
      clear hL hMx hr1 hlt hg1 hs1 hwx hwc
      by_cases hit : x ≤ b ∧ b < x + c
      · obtain ⟨h1, h2⟩ := hit
        have hres : hasB l b = true := hasB_hit HMO.out HMx.out h1 h2
        have HRes := Lib.hid hres
        clear hres
        go_wp2_with fail
        go_ret
        rw [HRes.out]
        exact ⟨rfl, HB1.out⟩
      · have hit' : b < x ∨ (x ≤ b ∧ x + c ≤ b) := by omega
        have HU1 : Hid (∀ s d, M s = some d → (L s && !decide (s = x)) = false → ¬ (s ≤ b ∧ b < s + d)) := Lib.hid (by
          intro s d hm hls
          by_cases e : s = x
          · subst e
            rw [HMx.out] at hm
            cases hm
            exact hit
          · simp [e] at hls
            exact HU.out s d hm hls)
        clear hit
        rcases hit' with h1 | ⟨h1, h2⟩
        all_goals
          go_wp2_with fail
          go_roundw
          case rel => exact ⟨_, _, HR1.out, HB1.out, HU1.out⟩
          case measure => rw [HR1.out.left_eq, HR.out.left_eq]; exact HLt.out

end Go.Proofs.Ytlaaamaaabcfeaa

/- runs: drop, add, New. -/
namespace Go.Proofs.Ytlaaamaaabcfeaa
open Go.RowKit Go.Maps
set_option linter.unusedVariables false

def mdel (M : Int → Option Int) (y : Int) : Int → Option Int := fun z => if z = y then none else M z
def mput (M : Int → Option Int) (y c : Int) : Int → Option Int := fun z => if z = y then some c else M z

theorem i64wf {x : Int} (h1 : -9223372036854775808 ≤ x) (h2 : x < 9223372036854775808) : (Lit.int .i64 x).wf = true := by
  simp [Lit.wf, IntKind.has, IntKind.min, IntKind.max, IntKind.bits, IntKind.signed]
  omega

set_option maxHeartbeats 1000000 in
theorem drop_any {w : World} {T : Tri} {n lim : Nat} {M E : Int → Option Int} (h : MapsAt w T n lim M E) {s c : Int} (hm : M s = some c) (h1 : 0 ≤ s) (h2 : 0 ≤ c) (h3 : s + c ≤ 1000000000000) :
    Calls Try.prog 20 #[.pointer (some ⟨T.p, 0, none⟩), .int .i64 s] w fun e w' => e = .returned (.tuple #[]) ∧ MapsAt w' T n lim (mdel M s) (mdel E (s + c)) ∧ Touch [T.s, T.e] w w' := by
  have e0 : w.cell? ⟨T.p, 0, none⟩ = some (.map (some T.s)) := h.row.cell rfl
  have e1 : w.cell? ⟨T.p, 1, none⟩ = some (.map (some T.e)) := h.row.cell rfl
  have hnp : T.p ∉ [T.s, T.e] := by have := h.ne1; have := h.ne2; simp; omega
  have r0 := fun x => near_cell (L := [T.s, T.e]) e0 hnp x
  have r1 := fun x => near_cell (L := [T.s, T.e]) e1 hnp x
  have HM := Lib.hid hm
  have HA := Lib.hid h
  have HNp := Lib.hid hnp
  have HN3 := Lib.hid h.ne3
  have HW := Lib.hid (i64wf (x := s) (by omega) (by omega))
  have HW2 := Lib.hid (i64wf (x := s + c) (by omega) (by omega))
  clear hm h e0 e1 hnp
  go_enter Try.func20, Try.ntmps20
  go_wp2_with fail
  have HC0 : ∃ x : Near [T.s, T.e] w, w.drew = x.val := near_of (Touch.ofBelow (later_below (later_drew w)))
  refine wp_region_seg (C := fun w' => ∃ x : Near [T.s, T.e] w, w' = x.val) [.fl [0, 1, 2, 3, 4, 5, 6, 7, 8, 9], .sq [10] true, .fl [11], .sq [12] false] (by kernel_rfl) (by kernel_rfl) (by intro c a d v w h; cases d <;> exact h) ?_
  simp only [segs, picks, List.getElem?_cons_succ, List.getElem?_cons_zero]
  refine wpSeg_fl HC0 ?_
  repeat (first | go_big_quiet_step (fail) | quiet_step (fail))
  refine wpQuiet_nil ?_
  have HA0 := Lib.hid (HA.out.below (later_below (later_drew w)))
  have HT0 := Lib.hid (Touch.ofBelow (L := [T.s, T.e]) (later_below (later_drew w)))
  generalize w.drew = w0 at *
  refine wpSeg_sq (fun K hK => ?_)
  go_wp2_with (refine wpList_ilook rfl _ _ 52 rfl 3 Try.underlying3 Try.underlying52 (by kernel_rfl) T.s n M rfl HA0.out.byS s rfl HW.out ?_; rw [HM.out, Option.getD_some])
  go_wp2_with fail
  refine hK _ _ (fun _ => HC0) ?_
  clear hK K
  refine wpSeg_fl HC0 ?_
  repeat (first | go_big_quiet_step (fail) | quiet_step (fail))
  refine wpQuiet_nil ?_
  refine wpSeg_last ?_
  go_wp2_with (first | (refine wpList_idelete rfl _ _ 52 3 rfl Try.underlying3 Try.underlying52 T.e n E rfl HA0.out.byE (s + c) rfl HW2.out ?_; intro w2 hE2 hg2; have HE2 := Lib.hid hE2; have HG2 := Lib.hid hg2; have HT2 : Hid (Touch [T.s, T.e] w w2) := Lib.hid (HT0.out.trans (grown_touch hg2 (by simp))); have HS2 := Lib.hid (HA0.out.byS.kept hg2 (by simp; exact HN3.out)); have e0 : w2.cell? ⟨T.p, 0, none⟩ = some (.map (some T.s)) := cell_of_row _ _ 0 _ _ _ ((HT2.out.block T.p (HA.out.row.lt) HNp.out).trans HA.out.head); clear hE2 hg2 HC0 r0 r1) | (refine wpList_idelete rfl _ _ 52 3 rfl Try.underlying3 Try.underlying52 T.s n M rfl HS2.out s rfl HW.out ?_; intro w3 hS3 hg3; have HS3 := Lib.hid hS3; have HG3 := Lib.hid hg3; clear hS3 hg3))
  go_end0
  have ht : Touch [T.s] w2 w3 := grown_touch HG3.out (by simp)
  refine ⟨rfl, ⟨?_, HS3.out, HE2.out.kept HG3.out (by simp; exact fun e => HN3.out e.symm), HA.out.ne1, HA.out.ne2, HA.out.ne3⟩, HT2.out.trans (grown_touch HG3.out (by simp))⟩
  exact (ht.block T.p (Nat.lt_of_lt_of_le HA.out.row.lt HT2.out.size) (by have := HNp.out; simp at this ⊢; exact this.1)).trans ((HT2.out.block T.p (HA.out.row.lt) HNp.out).trans HA.out.head)

set_option maxHeartbeats 1000000 in
theorem add_any {w : World} {T : Tri} {n lim : Nat} {M E : Int → Option Int} (h : MapsAt w T n lim M E) (hn : n < 1000000000000) {s c : Int} (h1 : 0 ≤ s) (h2 : 0 ≤ c) (h3 : s + c ≤ 1000000000000) :
    Calls Try.prog 21 #[.pointer (some ⟨T.p, 0, none⟩), .int .i64 s, .int .i64 c] w fun e w' => e = .returned (.tuple #[]) ∧ MapsAt w' T (n + 1) lim (mput M s c) (mput E (s + c) s) ∧ Touch [T.s, T.e] w w' := by
  have e0 : w.cell? ⟨T.p, 0, none⟩ = some (.map (some T.s)) := h.row.cell rfl
  have e1 : w.cell? ⟨T.p, 1, none⟩ = some (.map (some T.e)) := h.row.cell rfl
  have hnp : T.p ∉ [T.s, T.e] := by have := h.ne1; have := h.ne2; simp; omega
  have r0 := fun x => near_cell (L := [T.s, T.e]) e0 hnp x
  have r1 := fun x => near_cell (L := [T.s, T.e]) e1 hnp x
  have HA := Lib.hid h
  have HNp := Lib.hid hnp
  have HN3 := Lib.hid h.ne3
  have HW := Lib.hid (i64wf (x := s) (by omega) (by omega))
  have HWc := Lib.hid (i64wf (x := c) (by omega) (by omega))
  have HW2 := Lib.hid (i64wf (x := s + c) (by omega) (by omega))
  have HNm : Hid (n < maxLen) := Lib.hid (by unfold maxLen; omega)
  clear h e0 e1 hnp
  go_enter Try.func21, Try.ntmps21
  go_wp2_with fail
  have HC0 : ∃ x : Near [T.s, T.e] w, w.drew = x.val := near_of (Touch.ofBelow (later_below (later_drew w)))
  refine wp_region_seg (C := fun w' => ∃ x : Near [T.s, T.e] w, w' = x.val) [.fl [0, 1, 2, 3, 4, 5, 6, 7, 8, 9, 10, 11, 12, 13], .sq [14] true, .fl [15], .sq [16] true, .sq [17] true, .fl [18], .sq [19] false] (by kernel_rfl) (by kernel_rfl) (by intro c a d v w h; cases d <;> exact h) ?_
  simp only [segs, picks, List.getElem?_cons_succ, List.getElem?_cons_zero]
  refine wpSeg_fl HC0 ?_
  repeat (first | go_big_quiet_step (fail) | quiet_step (fail))
  refine wpQuiet_nil ?_
  have HA0 := Lib.hid (HA.out.below (later_below (later_drew w)))
  have HT0 := Lib.hid (Touch.ofBelow (L := [T.s, T.e]) (later_below (later_drew w)))
  generalize w.drew = w0 at *
  refine wpSeg_sq (fun K hK => ?_)
  go_wp2_with (refine wpList_ientry rfl _ _ 52 rfl 3 Try.underlying3 Try.underlying52 (fun _ => by kernel_rfl) T.s n M rfl HA0.out.byS HNm.out s rfl HW.out ?_; intro w1 v1 st1 hp1 hg1; have HP1 := Lib.hid hp1; have HT1 : Hid (Touch [T.s, T.e] w w1) := Lib.hid (HT0.out.trans (grown_touch hg1 (by simp))); have HE1 := Lib.hid (HA0.out.byE.kept hg1 (by simp; exact fun e => HN3.out e.symm)); have hC1 := near_of HT1.out; clear hp1 hg1; unfold goInt)
  go_wp2_with fail
  refine hK _ _ (fun _ => hC1) ?_
  clear hK K
  refine wpSeg_fl hC1 ?_
  repeat (first | go_big_quiet_step (fail) | quiet_step (fail))
  refine wpQuiet_nil ?_
  refine wpSeg_sq (fun K hK => ?_)
  go_wp2_with (refine wpList_ientryStore rfl _ _ _ 52 rfl 3 T.s n M s st1 c rfl rfl rfl HP1.out HWc.out ?_; intro w2 hs2 hg2; have HS2 := Lib.hid hs2; have HT2 : Hid (Touch [T.s, T.e] w w2) := Lib.hid (HT1.out.trans (grown_touch hg2 (by simp))); have HE2 := Lib.hid (HE1.out.kept hg2 (by simp; exact fun e => HN3.out e.symm)); have hC2 := near_of HT2.out; clear hs2 hg2 hC1)
  go_wp2_with fail
  refine hK _ _ (fun _ => hC2) ?_
  clear hK K
  refine wpSeg_sq (fun K hK => ?_)
  go_wp2_with (refine wpList_ientry rfl _ _ 52 rfl 3 Try.underlying3 Try.underlying52 (fun _ => by kernel_rfl) T.e n E rfl HE2.out HNm.out (s + c) rfl HW2.out ?_; intro w3 v3 st3 hp3 hg3; have HP3 := Lib.hid hp3; have HT3 : Hid (Touch [T.s, T.e] w w3) := Lib.hid (HT2.out.trans (grown_touch hg3 (by simp))); have HS3 := Lib.hid (HS2.out.kept hg3 (by simp; exact HN3.out)); have hC3 := near_of HT3.out; clear hp3 hg3; unfold goInt)
  go_wp2_with fail
  refine hK _ _ (fun _ => hC3) ?_
  clear hK K
  refine wpSeg_fl hC3 ?_
  repeat (first | go_big_quiet_step (fail) | quiet_step (fail))
  refine wpQuiet_nil ?_
  refine wpSeg_last ?_
  go_wp2_with (refine wpList_ientryStore rfl _ _ _ 52 rfl 3 T.e n E (s + c) st3 s rfl rfl rfl HP3.out HW.out ?_; intro w4 he4 hg4; have HE4 := Lib.hid he4; have HT4 : Hid (Touch [T.s, T.e] w w4) := Lib.hid (HT3.out.trans (grown_touch hg4 (by simp))); have HS4 := Lib.hid (HS3.out.kept hg4 (by simp; exact HN3.out)); clear he4 hg4)
  go_end0
  exact ⟨rfl, ⟨(HT4.out.block T.p (HA.out.row.lt) HNp.out).trans HA.out.head, HS4.out, HE4.out, HA.out.ne1, HA.out.ne2, HA.out.ne3⟩, HT4.out⟩

theorem mof_new {l : List Bool} (h : ∀ b, fb l b = false) : MOf l fun _ => none := mof_nil h

theorem made_ix (w : World) (m : Nat) : IxAt (((w.alloc (.map #[] 0)).alloc (.map #[] 0)).alloc (.cells #[.map (some w.heap.size), .map (some (w.heap.size + 1)), .int .i64 (m : Int)] 54)) ⟨w.heap.size + 1 + 1, w.heap.size, w.heap.size + 1⟩ 0 (List.replicate m false) ∧
    Below w.heap.size w (((w.alloc (.map #[] 0)).alloc (.map #[] 0)).alloc (.cells #[.map (some w.heap.size), .map (some (w.heap.size + 1)), .int .i64 (m : Int)] 54)) := by
  have hfb : ∀ b, fb (List.replicate m false) b = false := fun b => by unfold fb; simp [List.getD_eq_getElem?_getD, List.getElem?_replicate]; split <;> rfl
  refine ⟨⟨fun _ => none, fun _ => none, ⟨?_, ((IMap.made w Try.prog 3).alloc _).alloc _, ?_, by simp; omega, by simp, by simp⟩, mof_nil hfb, eof_nil hfb⟩, ((Below.refl _ _).alloc (Nat.le_refl _) _).alloc (by simp) _ |>.alloc (by simp; omega) _⟩
  · have := heap_alloc_new ((w.alloc (.map #[] 0)).alloc (.map #[] 0)) (.cells #[.map (some w.heap.size), .map (some (w.heap.size + 1)), .int .i64 (m : Int)] 54)
    rw [List.length_replicate]
    simpa using this
  · have := (IMap.made (w.alloc (.map #[] 0)) Try.prog 3).alloc (.cells #[.map (some w.heap.size), .map (some (w.heap.size + 1)), .int .i64 (m : Int)] 54)
    simpa using this

set_option maxHeartbeats 1000000 in
theorem inew_any (k : Int) (w : World) (hk : k ≤ 1000000000000) :
    Calls Try.prog 16 #[.int .i64 k] w fun e w' => ∃ T : Tri, e = .returned (.pointer (some ⟨T.p, 0, none⟩)) ∧ (∀ b ∈ T.list, w.heap.size ≤ b) ∧ IxAt w' T 0 (List.replicate k.toNat false) ∧ Below w.heap.size w w' := by
  have hmm := @run_makeMap Try.prog
  by_cases h0 : k < 0
  · have h1 := Lib.hid (made_ix w 0)
    have h2 : Hid (k.toNat = 0) := Lib.hid (by omega)
    go_enter Try.func16, Try.ntmps16
    go_wp2_with fail
    go_ret
    refine ⟨⟨w.heap.size + 1 + 1, w.heap.size, w.heap.size + 1⟩, rfl, by simp [Tri.list]; omega, ?_, h1.out.2⟩
    rw [h2.out]; exact h1.out.1
  · obtain ⟨m, rfl⟩ := Int.eq_ofNat_of_zero_le (show 0 ≤ k by omega)
    have h1 := Lib.hid (made_ix w m)
    go_enter Try.func16, Try.ntmps16
    go_wp2_with fail
    go_ret
    refine ⟨⟨w.heap.size + 1 + 1, w.heap.size, w.heap.size + 1⟩, rfl, by simp [Tri.list]; omega, ?_, h1.out.2⟩
    exact h1.out.1

end Go.Proofs.Ytlaaamaaabcfeaa

/- runs: what is told of an index: how many blocks are free, the longest run. -/
namespace Go.Proofs.Ytlaaamaaabcfeaa
open Go.RowKit Go.Maps
set_option linter.unusedVariables false

/-- A map of runs is gone over: done, and still to come. -/
structure Part (l : List Bool) (M : Int → Option Int) (L : Int → Bool) (done rest : List Sp) : Prop where
  perm : (done ++ rest).Perm (runsOf l)
  left : ∀ s n : Nat, (s, n) ∈ rest ↔ L s = true ∧ M s = some (n : Int)

theorem Part.start {l : List Bool} {M : Int → Option Int} (h : MOf l M) : Part l M (fun x => (M x).isSome) [] (runsOf l) := by
  refine ⟨List.Perm.refl _, fun s n => ?_⟩
  rw [(runsOf_is l).mem]
  constructor
  · intro hr
    have hm := (h (s : Int) (n : Int)).2 ⟨by omega, by omega, by simpa using hr⟩
    exact ⟨by rw [hm]; rfl, hm⟩
  · rintro ⟨_, h1⟩
    simpa using ((h _ _).1 h1).2.2

theorem Part.step {l : List Bool} {M : Int → Option Int} {L : Int → Bool} {done rest : List Sp} (h : Part l M L done rest) (hM : MOf l M) {x c : Int} (hx : L x = true) (hm : M x = some c) :
    ∃ s k : Nat, x = s ∧ c = k ∧ (s, k) ∈ rest ∧ Part l M (fun z => L z && !decide (z = x)) (done ++ [(s, k)]) (rest.erase (s, k)) := by
  obtain ⟨h1, h2, h3⟩ := (hM _ _).1 hm
  obtain ⟨s, rfl⟩ := Int.eq_ofNat_of_zero_le h1
  obtain ⟨k, rfl⟩ := Int.eq_ofNat_of_zero_le h2
  have hin : (s, k) ∈ rest := (h.left s k).2 ⟨hx, hm⟩
  have hnd : rest.Nodup := by
    have := (h.perm.nodup_iff).2 (rising_nodup (runsOf_is l).rising)
    exact (List.nodup_append.1 this).2.1
  refine ⟨s, k, rfl, rfl, hin, ?_, fun a n => ?_⟩
  · refine List.Perm.trans ?_ h.perm
    rw [List.append_assoc]
    exact List.Perm.append_left _ (List.perm_cons_erase hin).symm
  · rw [hnd.mem_erase_iff, h.left]
    constructor
    · rintro ⟨h4, h5, h6⟩
      refine ⟨?_, h6⟩
      rw [h5]
      by_cases e : (a : Int) = (s : Int)
      · exfalso
        rw [e, hm] at h6
        have : a = s := by omega
        have : k = n := by injection h6 with h7; omega
        exact h4 (by subst this; simp; omega)
      · simp [e]
    · rintro ⟨h4, h5⟩
      simp at h4
      exact ⟨fun e => h4.2 (by cases e; rfl), h4.1, h5⟩

theorem Part.finish {l : List Bool} {M : Int → Option Int} {L : Int → Bool} {done rest : List Sp} (h : Part l M L done rest) (h0 : ∀ x, L x = false) : done.Perm (runsOf l) := by
  have : rest = [] := List.eq_nil_iff_forall_not_mem.2 fun x hx => by
    have := ((h.left x.1 x.2).1 hx).1
    rw [h0] at this; cases this
  have h1 := h.perm
  rw [this, List.append_nil] at h1
  exact h1

theorem sum_app (a b : List Sp) : sumOf (a ++ b) = sumOf a + sumOf b := by simp [sumOf]
theorem sum_runsTo (f : Nat → Bool) : ∀ L, sumOf (runsTo f L) ≤ L
  | 0 => by simp [runsTo, sumOf]
  | b + 1 => by
    have ih := sum_runsTo f b
    unfold runsTo
    split
    · split
      · split
        · simp [sumOf]
        · rename_i x hx
          obtain ⟨ys, hy⟩ := List.getLast?_eq_some_iff.1 hx
          rw [hy, sum_app] at ih
          rw [hy, List.dropLast_concat, sum_app]
          simp [sumOf] at ih ⊢
          omega
      · rw [sum_app]; simp [sumOf]; simp [sumOf] at ih; omega
    · omega
theorem sum_runsOf (l : List Bool) : sumOf (runsOf l) ≤ l.length := sum_runsTo _ _
theorem Part.sum_le {l : List Bool} {M : Int → Option Int} {L : Int → Bool} {done rest : List Sp} (h : Part l M L done rest) : sumOf done ≤ l.length := by
  have := sum_perm h.perm
  rw [sum_app] at this
  have := sum_runsOf l
  omega

set_option maxHeartbeats 1000000 in
theorem total_any {w : World} {T : Tri} {n : Nat} {l : List Bool} (h : IxAt w T n l) (hl : l.length ≤ 1000000000000) :
    Calls Try.prog 26 #[.pointer (some ⟨T.p, 0, none⟩)] w fun e w' => e = .returned (.int .i64 (sumOf (runsOf l) : Nat)) ∧ Below w.heap.size w w' := by
  obtain ⟨M, E, hA, hMO, _⟩ := h
  have e0 : w.cell? ⟨T.p, 0, none⟩ = some (.map (some T.s)) := hA.row.cell rfl
  have HS := Lib.hid hA.byS
  have HMO := Lib.hid hMO
  clear hA hMO
  go_enter Try.func26, Try.ntmps26
  go_wp2_with (at_range; refine wpList_irange rfl _ 52 rfl 3 Try.underlying3 Try.underlying52 T.s n M rfl HS.out ?_; intro w0 cnt0 hr0 hg0 hs0)
  have HR0 := Lib.hid hr0
  have HB0 := Lib.hid (grown_none hg0)
  clear hr0 hg0 hs0
  go_frame
  go_loopw [3] (fun v wr => ∃ (L : Int → Bool) (cnt : Nat) (done rest : List Sp) (t : Nat), v = .int .i64 (t : Int) ∧ t = sumOf done ∧ IRange Try.prog 3 wr T.s w.heap.size n M L cnt ∧ Below w.heap.size w wr ∧ Part l M L done rest) (fun _ wr => wr.rangeLeft T.s w.heap.size)
  case atStart => exact ⟨_, _, [], runsOf l, 0, rfl, rfl, HR0.out, HB0.out, Part.start HMO.out⟩
  case round =>
    obtain ⟨L, cnt, done, rest, t, rfl, ht, hr, hb, hp⟩ := hrel
    have HR := Lib.hid hr
    have HB := Lib.hid hb
    have HT := Lib.hid ht
    have HP := Lib.hid hp
    clear hr hb hp ht
    go_wp2_with (at_next; refine wpList_inext rfl _ rfl 3 Try.underlying3 T.s w.heap.size n M _ _ rfl HR.out ?_ ?_)
    · intro h0
      have HE := Lib.hid (sum_perm (HP.out.finish h0))
      clear h0
      go_wp2_with fail
      go_ret
      rw [← HE.out, ← HT.out]
      exact ⟨rfl, HB.out⟩
    · intro x c w1 cnt1 hwx hwc hL hMx hr1 hlt hg1 hs1 hen
      obtain ⟨s, k, rfl, rfl, _, hp1⟩ := HP.out.step HMO.out hL hMx
      have h9 := hp1.sum_le
      rw [sum_add, ← HT.out] at h9
      dsimp only at h9
      have hP1 := Lib.hid hp1
      have HR1 := Lib.hid hr1
      have HB1 : Hid (Below w.heap.size w w1) := Lib.hid (HB.out.trans (grown_one hg1 (Nat.le_refl _) HB.out.size))
      have HLt := Lib.hid hlt
      clear hL hMx hr1 hlt hg1 hs1 hwx hwc hp1
      go_wp2_with fail
      go_roundw
      case rel => exact ⟨_, _, _, _, t + k, vint (by omega), by rw [sum_add, HT.out], HR1.out, HB1.out, hP1.out⟩
      case measure => rw [HR1.out.left_eq, HR.out.left_eq]; exact HLt.out

set_option maxHeartbeats 1000000 in
theorem longest_any {w : World} {T : Tri} {n : Nat} {l : List Bool} (h : IxAt w T n l) (hl : l.length ≤ 1000000000000) :
    Calls Try.prog 11 #[.pointer (some ⟨T.p, 0, none⟩)] w fun e w' => e = .returned (.int .i64 (longOf (runsOf l) : Nat)) ∧ Below w.heap.size w w' := by
  obtain ⟨M, E, hA, hMO, _⟩ := h
  have e0 : w.cell? ⟨T.p, 0, none⟩ = some (.map (some T.s)) := hA.row.cell rfl
  have HS := Lib.hid hA.byS
  have HMO := Lib.hid hMO
  clear hA hMO
  go_enter Try.func11, Try.ntmps11
  go_wp2_with (at_range; refine wpList_irange rfl _ 52 rfl 3 Try.underlying3 Try.underlying52 T.s n M rfl HS.out ?_; intro w0 cnt0 hr0 hg0 hs0)
  have HR0 := Lib.hid hr0
  have HB0 := Lib.hid (grown_none hg0)
  clear hr0 hg0 hs0
  go_frame
  go_loopw [3] (fun v wr => ∃ (L : Int → Bool) (cnt : Nat) (done rest : List Sp) (t : Nat), v = .int .i64 (t : Int) ∧ t = longOf done ∧ IRange Try.prog 3 wr T.s w.heap.size n M L cnt ∧ Below w.heap.size w wr ∧ Part l M L done rest) (fun _ wr => wr.rangeLeft T.s w.heap.size)
  case atStart => exact ⟨_, _, [], runsOf l, 0, rfl, rfl, HR0.out, HB0.out, Part.start HMO.out⟩
  case round =>
    obtain ⟨L, cnt, done, rest, t, rfl, ht, hr, hb, hp⟩ := hrel
    have HR := Lib.hid hr
    have HB := Lib.hid hb
    have HT := Lib.hid ht
    have HP := Lib.hid hp
    clear hr hb hp ht
    go_wp2_with (at_next; refine wpList_inext rfl _ rfl 3 Try.underlying3 T.s w.heap.size n M _ _ rfl HR.out ?_ ?_)
    · intro h0
      have HE := Lib.hid (long_perm (HP.out.finish h0))
      clear h0
      go_wp2_with fail
      go_ret
      rw [← HE.out, ← HT.out]
      exact ⟨rfl, HB.out⟩
    · intro x c w1 cnt1 hwx hwc hL hMx hr1 hlt hg1 hs1 hen
      obtain ⟨s, k, rfl, rfl, _, hp1⟩ := HP.out.step HMO.out hL hMx
      have hP1 := Lib.hid hp1
      have HR1 := Lib.hid hr1
      have HB1 : Hid (Below w.heap.size w w1) := Lib.hid (HB.out.trans (grown_one hg1 (Nat.le_refl _) HB.out.size))
      have HLt := Lib.hid hlt
      clear hL hMx hr1 hlt hg1 hs1 hwx hwc hp1
      go_wp2_with fail
      go_roundw
      case rel => exact ⟨_, _, _, _, max t k, vint (by omega), by rw [long_add, HT.out], HR1.out, HB1.out, hP1.out⟩
      case measure => rw [HR1.out.left_eq, HR.out.left_eq]; exact HLt.out

end Go.Proofs.Ytlaaamaaabcfeaa

/- runs: Give. -/
namespace Go.Proofs.Ytlaaamaaabcfeaa
open Go.RowKit Go.Maps
set_option linter.unusedVariables false

/-- What Give leaves in the maps. -/
theorem give_end {l : List Bool} {M E M2 E2 : Int → Option Int} {a m s0 e0 : Nat} (hM : MOf l M) (hE : EOf l E) (hm : 1 ≤ m) (ha : a + m ≤ l.length) (h0 : anyFree l a m = false)
    (hs : s0 = a ∧ E a = none ∨ E a = some (s0 : Int)) (he : e0 = a + m ∧ M ((a : Int) + m) = none ∨ M ((a : Int) + m) = some ((e0 : Int) - (a + m)))
    (hM2 : ∀ s, s ≠ (s0 : Int) → M2 s = if s = (a : Int) + m then none else M s) (hE2 : ∀ e, e ≠ (e0 : Int) → E2 e = if e = (a : Int) then none else E e) :
    MOf (setTo l a true m) (mput M2 s0 ((e0 : Int) - s0)) ∧ EOf (setTo l a true m) (mput E2 e0 s0) ∧ s0 ≤ a ∧ a + m ≤ e0 ∧ e0 ≤ l.length := by
  have hfa : fb l a = false := anyFree_false h0 a (Nat.le_refl _) (by omega)
  have hS : s0 = a ∧ (∀ b, b + 1 = a → fb l b = false) ∨ s0 < a ∧ IsRun (fb l) s0 (a - s0) := by
    rcases hs with ⟨h1, h2⟩ | h1
    · refine .inl ⟨h1, fun b hb => ?_⟩
      cases hf : fb l b with
      | false => rfl
      | true =>
        exfalso
        obtain ⟨s, n, hr, h3, h4⟩ := has_run (f := fb l) (L := l.length) (fun x hx => fb_far l x hx) hf
        have h5 : s + n = a := by
          rcases Nat.lt_or_ge a (s + n) with h6 | h6
          · have := hr.2.1 a (by omega) h6; rw [hfa] at this; cases this
          · omega
        have := (hE (a : Int) (s : Int)).2 ⟨by omega, by omega, by rw [show ((a : Int) - (s : Int)).toNat = n by omega]; exact hr⟩
        rw [h2] at this; cases this
    · obtain ⟨h2, h3, h4⟩ := (hE _ _).1 h1
      have e : ((a : Int) - (s0 : Int)).toNat = a - s0 := by omega
      rw [e] at h4
      have := h4.1
      exact .inr ⟨by omega, h4⟩
  have hEE : e0 = a + m ∧ fb l (a + m) = false ∨ a + m < e0 ∧ IsRun (fb l) (a + m) (e0 - (a + m)) := by
    rcases he with ⟨h1, h2⟩ | h1
    · refine .inl ⟨h1, ?_⟩
      cases hf : fb l (a + m) with
      | false => rfl
      | true =>
        exfalso
        obtain ⟨s, n, hr, h3, h4⟩ := has_run (f := fb l) (L := l.length) (fun x hx => fb_far l x hx) hf
        have h5 : s = a + m := by
          rcases Nat.lt_or_ge s (a + m) with h6 | h6
          · have := hr.2.1 (a + m - 1) (by omega) (by omega); rw [anyFree_false h0 _ (by omega) (by omega)] at this; cases this
          · omega
        have := (hM ((a : Int) + m) (n : Int)).2 ⟨by omega, by omega, by rw [show ((a : Int) + m).toNat = s by omega]; simpa using hr⟩
        rw [h2] at this; cases this
    · obtain ⟨h2, h3, h4⟩ := (hM _ _).1 h1
      have e1 : ((a : Int) + (m : Int)).toNat = a + m := by omega
      have e2 : ((e0 : Int) - ((a : Int) + (m : Int))).toNat = e0 - (a + m) := by omega
      rw [e1, e2] at h4
      have := h4.1
      exact .inr ⟨by omega, h4⟩
  have hb1 : s0 ≤ a := by rcases hS with ⟨h, _⟩ | ⟨h, _⟩ <;> omega
  have hb2 : a + m ≤ e0 := by rcases hEE with ⟨h, _⟩ | ⟨h, _⟩ <;> omega
  have hb3 : e0 ≤ l.length := by
    rcases hEE with ⟨h, _⟩ | ⟨h, hr⟩
    · omega
    · have := runEnds hr; omega
  refine ⟨give_M hM hm ha h0 hS hEE (by simp [mput]) ?_ ?_, give_E hE hm ha h0 hS hEE (by simp [mput]) ?_ ?_, hb1, hb2, hb3⟩
  · intro s h1 h2
    simp only [mput, if_neg h1]
    rw [hM2 s h1]
    rcases h2 with h2 | h2
    · rw [if_pos h2]
    · exfalso
      obtain ⟨h3, h4, h5⟩ := (hM _ _).1 h2
      have h6 := h5.1
      rcases hS with ⟨_, h7⟩ | ⟨h7, h8⟩
      · have := h5.2.1 (a - 1) (by omega) (by omega); rw [h7 _ (by omega)] at this; cases this
      · have := (h5.back h8 (by omega)).1; omega
  · intro s h1 h2 h3
    simp only [mput, if_neg h1]
    rw [hM2 s h1, if_neg h2]
  · intro e h1 h2
    simp only [mput, if_neg h1]
    rw [hE2 e h1]
    rcases h2 with h2 | h2
    · rw [if_pos h2]
    · exfalso
      obtain ⟨h3, h4, h5⟩ := (hE _ _).1 h2
      have h6 := h5.1
      have e1 : ((a : Int) + (m : Int)).toNat = a + m := by omega
      rw [e1] at h5
      rcases hEE with ⟨_, h7⟩ | ⟨h7, h8⟩
      · have := h5.2.1 (a + m) (by omega) (by omega); rw [h7] at this; cases this
      · have := h5.one h8; omega
  · intro e h1 h2 h3
    simp only [mput, if_neg h1]
    rw [hE2 e h1, if_neg h2]

theorem IxAt.mono {w : World} {T : Tri} {n m : Nat} {l : List Bool} (h : IxAt w T n l) (hn : n ≤ m) : IxAt w T m l := by
  obtain ⟨M, E, h1, h2⟩ := h; exact ⟨M, E, h1.mono hn, h2⟩

theorem hasB_nat (l : List Bool) (b : Nat) : hasB l (b : Int) = fb l b := by simp [hasB]
theorem anyFree_next (l : List Bool) (a b : Nat) (h : a ≤ b) : anyFree l a (b + 1 - a) = (anyFree l a (b - a) || fb l b) := by
  rw [show b + 1 - a = (b - a) + 1 by omega, anyFree, show a + (b - a) = b by omega]

/-- What Give leaves. -/
def GivePost (w : World) (T : Tri) (n : Nat) (l : List Bool) (a m : Int) : Ending → World → Prop := fun e w' =>
  e = .returned (.int .i64 (giveR l a m).2) ∧ IxAt w' T (n + 1) (giveR l a m).1 ∧ Touch [T.s, T.e] w w'

theorem giveR_arg {l : List Bool} {a m : Int} (h : a < 1 ∨ m < 1 ∨ (l.length : Int) ≤ a ∨ (l.length : Int) - a < m) : giveR l a m = (l, 1) := by
  unfold giveR; rw [if_pos h]
theorem giveR_twice {l : List Bool} {a m : Nat} (h : 1 ≤ a ∧ 1 ≤ m ∧ a + m ≤ l.length) (h0 : anyFree l a m = true) : giveR l a m = (l, 41) := by
  unfold giveR; rw [if_neg (by omega)]; simp [h0]
theorem giveR_ok {l : List Bool} {a m : Nat} (h : 1 ≤ a ∧ 1 ≤ m ∧ a + m ≤ l.length) (h0 : anyFree l a m = false) : giveR l a m = (setTo l a true m, 0) := by
  unfold giveR; rw [if_neg (by omega)]; simp [h0]

set_option maxHeartbeats 1000000 in
theorem igive_arg {w : World} {T : Tri} {n : Nat} {l : List Bool} (h : IxAt w T n l) (hl : l.length ≤ 1000000000000) (a m : Int) (hbad : a < 1 ∨ m < 1 ∨ (l.length : Int) ≤ a ∨ (l.length : Int) - a < m) :
    Calls Try.prog 12 #[.pointer (some ⟨T.p, 0, none⟩), .int .i64 a, .int .i64 m] w (GivePost w T n l a m) := by
  have hR := giveR_arg hbad
  have HP : Hid (GivePost w T n l a m (.returned (.int .i64 1)) w) := Lib.hid (by unfold GivePost; rw [hR]; exact ⟨rfl, h.mono (by omega), Touch.refl _ _⟩)
  obtain ⟨M, E, hA, _, _⟩ := h
  have e2 : w.cell? ⟨T.p, 2, none⟩ = some (.int .i64 (l.length : Int)) := hA.row.cell rfl
  have hcase : a < 1 ∨ (1 ≤ a ∧ m < 1) ∨ (1 ≤ a ∧ 1 ≤ m ∧ (l.length : Int) ≤ a) ∨ (1 ≤ a ∧ 1 ≤ m ∧ a < (l.length : Int) ∧ (l.length : Int) - a < m) := by omega
  clear hA hR hbad
  generalize GivePost w T n l a m = Post at *
  generalize l.length = len at *
  rcases hcase with h1 | ⟨h1, h2⟩ | ⟨h1, h2, h3⟩ | ⟨h1, h2, h3, h4⟩
  all_goals
    go_enter Try.func12, Try.ntmps12
    go_wp2_with fail
    exact HP.out

theorem MapsAt.cast {w : World} {T : Tri} {n lim : Nat} {M E M' E' : Int → Option Int} (h : MapsAt w T n lim M E) (h1 : M = M') (h2 : E = E') : MapsAt w T n lim M' E' := by
  subst h1; subst h2; exact h
theorem mdel_put {M : Int → Option Int} {x : Int} (h : M x = none) : mdel M x = M := by
  funext z; unfold mdel; by_cases e : z = x
  · rw [if_pos e, e, h]
  · rw [if_neg e]

/-- The last part of Give: the blocks join what they touch behind them. -/
theorem give_post {w w' : World} {T : Tri} {n : Nat} {l : List Bool} {a m s0 e0 : Nat} {M E M2 E2 : Int → Option Int} (hb : 1 ≤ a ∧ 1 ≤ m ∧ a + m ≤ l.length) (h0 : anyFree l a m = false) (hM : MOf l M) (hE : EOf l E)
    (hs : s0 = a ∧ E a = none ∨ E a = some (s0 : Int)) (he : e0 = a + m ∧ M ((a : Int) + m) = none ∨ M ((a : Int) + m) = some ((e0 : Int) - (a + m)))
    (hM2 : ∀ s, s ≠ (s0 : Int) → M2 s = if s = (a : Int) + m then none else M s) (hE2 : ∀ e, e ≠ (e0 : Int) → E2 e = if e = (a : Int) then none else E e)
    (hA : MapsAt w' T (n + 1) l.length (mput M2 s0 ((e0 : Int) - s0)) (mput E2 e0 s0)) (ht : Touch [T.s, T.e] w w') : GivePost w T n l a m (.returned (.int .i64 0)) w' := by
  obtain ⟨h1, h2, _⟩ := give_end hM hE hb.2.1 hb.2.2 h0 hs he hM2 hE2
  unfold GivePost
  rw [giveR_ok hb h0]
  exact ⟨rfl, ⟨_, _, by rw [setTo_length]; exact hA, h1, h2⟩, ht⟩

set_option maxHeartbeats 4000000 in
theorem igive_fit {w : World} {T : Tri} {n : Nat} {l : List Bool} (h : IxAt w T n l) (hl : l.length ≤ 1000000000000) (hn : n < 1000000000000) (a m : Nat) (hb : 1 ≤ a ∧ 1 ≤ m ∧ a + m ≤ l.length) :
    Calls Try.prog 12 #[.pointer (some ⟨T.p, 0, none⟩), .int .i64 (a : Int), .int .i64 (m : Int)] w (GivePost w T n l a m) := by
  have HI := Lib.hid h
  have HB := Lib.hid hb
  have HTw : Hid (anyFree l a m = true → ∀ w', Below w.heap.size w w' → GivePost w T n l a m (.returned (.int .i64 41)) w') := Lib.hid (fun hf w' hb' => by
    unfold GivePost; rw [giveR_twice hb hf]; exact ⟨rfl, (h.mono (by omega)).below hb', Touch.ofBelow hb'⟩)
  obtain ⟨M, E, hA, hM, hE⟩ := h
  have e2 : w.cell? ⟨T.p, 2, none⟩ = some (.int .i64 (l.length : Int)) := hA.row.cell rfl
  have HA := Lib.hid hA
  have HM := Lib.hid hM
  have HE := Lib.hid hE
  obtain ⟨g1, g2, g3⟩ := hb
  have HEnd : Hid (∀ (s0 e0 : Nat) (M2 E2 : Int → Option Int) (w' : World), anyFree l a m = false → (s0 = a ∧ E a = none ∨ E a = some (s0 : Int)) → (e0 = a + m ∧ M ((a : Int) + m) = none ∨ M ((a : Int) + m) = some ((e0 : Int) - (a + m))) →
      (∀ s, s ≠ (s0 : Int) → M2 s = if s = (a : Int) + m then none else M s) → (∀ e, e ≠ (e0 : Int) → E2 e = if e = (a : Int) then none else E e) →
      MapsAt w' T (n + 1) l.length (mput M2 s0 ((e0 : Int) - s0)) (mput E2 e0 s0) → Touch [T.s, T.e] w w' → GivePost w T n l a m (.returned (.int .i64 0)) w') :=
    Lib.hid (fun s0 e0 M2 E2 w' h0 hs he hM2 hE2 hA ht => give_post HB.out h0 hM hE hs he hM2 hE2 hA ht)
  clear hA hM hE
  generalize GivePost w T n l a m = Post at *
  obtain ⟨len, hlen⟩ : ∃ len, len = l.length := ⟨_, rfl⟩
  rw [← hlen] at g3 hl e2
  have HLen := Lib.hid hlen
  clear hlen
  have q1 : decide ((a : Int) < 1) = false := by simp; omega
  have q2 : decide ((m : Int) < 1) = false := by simp; omega
  have q3 : decide (len ≤ a) = false := by simp; omega
  have q4 : decide ((len : Int) - (a : Int) < (m : Int)) = false := by simp; omega
  go_enter Try.func12, Try.ntmps12
  go_wp2_with fail
  go_loopw [6, 7] (fun _ i wr => ∃ b : Nat, a ≤ b ∧ b ≤ a + m ∧ i = .int .i64 (b : Int) ∧ anyFree l a (b - a) = false ∧ Below w.heap.size w wr) (fun _ i _ => a + m - (intOf i).toNat)
  case atStart => exact ⟨a, Nat.le_refl _, by omega, rfl, by rw [Nat.sub_self]; rfl, Below.refl _ _⟩
  case round =>
    obtain ⟨b, hab, hbm, rfl, hfree, hbe⟩ := hrel
    have HF := Lib.hid hfree
    have HBe := Lib.hid hbe
    clear hfree hbe
    by_cases hlt : b < a + m
    · have hlt' : (b : Int) < (a : Int) + (m : Int) := by omega
      cases hfb : fb l b with
      | true =>
        have hall : anyFree l a m = true := anyFree_one hab hlt hfb
        have HAll := Lib.hid hall
        have HHas : Hid (hasB l (b : Int) = true) := Lib.hid (by rw [hasB_nat]; exact hfb)
        clear hall hfb
        go_wp2_with fail
        refine (has_any (HI.out.below HBe.out) (by rw [← HLen.out]; exact hl) (b : Int)).mono ?_
        rintro e w1 ⟨rfl, hb1⟩
        rw [HHas.out]
        have HB1 := Lib.hid hb1
        clear hb1
        go_wp2_with fail
        exact HTw.out HAll.out _ (HBe.out.trans (HB1.out.mono HBe.out.size))
      | false =>
        have HN : Hid (anyFree l a (b + 1 - a) = false) := Lib.hid (by rw [anyFree_next l a b hab, HF.out, hfb]; rfl)
        have HHas : Hid (hasB l (b : Int) = false) := Lib.hid (by rw [hasB_nat]; exact hfb)
        clear hfb
        go_wp2_with fail
        refine (has_any (HI.out.below HBe.out) (by rw [← HLen.out]; exact hl) (b : Int)).mono ?_
        rintro e w1 ⟨rfl, hb1⟩
        rw [HHas.out]
        have HB1 := Lib.hid hb1
        clear hb1
        go_wp2_with fail
        go_roundw
        case rel =>
          exact ⟨b + 1, by omega, by omega, vint (by omega), HN.out, HBe.out.trans (HB1.out.mono HBe.out.size)⟩
        case measure => simp [intOf]; omega
    · obtain rfl : b = a + m := by omega
      have HFr : Hid (anyFree l a m = false) := Lib.hid (by have := HF.out; rwa [show a + m - a = m by omega] at this)
      have HA1 := Lib.hid (HA.out.below HBe.out)
      have HT1 := Lib.hid (Touch.ofBelow (L := [T.s, T.e]) HBe.out)
      clear hlt hab hbm HF
      have f0 : wr.cell? ⟨T.p, 0, none⟩ = some (.map (some T.s)) := HA1.out.row.cell rfl
      have f1 : wr.cell? ⟨T.p, 1, none⟩ = some (.map (some T.e)) := HA1.out.row.cell rfl
      have hlt' : decide (((a + m : Nat) : Int) < (a : Int) + (m : Int)) = false := by simp
      have HWa := Lib.hid (i64wf (x := (a : Int)) (by omega) (by omega))
      have HWe := Lib.hid (i64wf (x := (a : Int) + (m : Int)) (by omega) (by omega))
      obtain ⟨ea, hea⟩ : ∃ ea, E (a : Int) = ea := ⟨_, rfl⟩
      obtain ⟨mb, hmb⟩ : ∃ mb, M ((a : Int) + m) = mb := ⟨_, rfl⟩
      have hbeh : mb = none ∨ ∃ e0 : Nat, mb = some ((e0 : Int) - ((a : Int) + (m : Int))) ∧ a + m < e0 ∧ e0 ≤ len := by
        cases mb with
        | none => exact .inl rfl
        | some c =>
          have h1 := HM.out.bounds hmb
          rw [← HLen.out] at h1
          exact .inr ⟨(c + ((a : Int) + m)).toNat, by congr 1; omega, by omega, by omega⟩
      have HMb := Lib.hid hmb
      clear hmb
      cases ea with
      | none =>
        have HEa := Lib.hid hea
        clear hea
        rcases hbeh with rfl | ⟨e0, rfl, h1, h2⟩
        · go_wp2_with (first | (refine wpList_ilook_ok rfl _ _ 52 rfl 3 Try.underlying3 Try.underlying52 (by kernel_rfl) T.e n E rfl HA1.out.byE (a : Int) rfl HWa.out ?_; rw [HEa.out, Option.getD_none, Option.isSome_none]) | (refine wpList_ilook_ok rfl _ _ 52 rfl 3 Try.underlying3 Try.underlying52 (by kernel_rfl) T.s n M rfl HA1.out.byS ((a : Int) + (m : Int)) rfl HWe.out ?_; rw [HMb.out, Option.getD_none, Option.isSome_none]))
          refine (add_any HA1.out hn (s := (a : Int)) (c := (m : Int)) (by omega) (by omega) (by omega)).mono ?_
          rintro e w2 ⟨rfl, hA2, ht2⟩
          have HA2 := Lib.hid hA2
          have HT2 := Lib.hid ht2
          clear hA2 ht2
          go_wp2_with fail
          refine HEnd.out a (a + m) M E _ HFr.out (.inl ⟨rfl, HEa.out⟩) (.inl ⟨rfl, HMb.out⟩) (fun s _ => ?_) (fun e _ => ?_) ?_ (HT1.out.trans HT2.out)
          · by_cases x : s = (a : Int) + m
            · rw [if_pos x, x, HMb.out]
            · rw [if_neg x]
          · by_cases x : e = (a : Int)
            · rw [if_pos x, x, HEa.out]
            · rw [if_neg x]
          · exact HA2.out.cast (by congr 1; omega) (by congr 1)
        · go_wp2_with (first | (refine wpList_ilook_ok rfl _ _ 52 rfl 3 Try.underlying3 Try.underlying52 (by kernel_rfl) T.e n E rfl HA1.out.byE (a : Int) rfl HWa.out ?_; rw [HEa.out, Option.getD_none, Option.isSome_none]) | (refine wpList_ilook_ok rfl _ _ 52 rfl 3 Try.underlying3 Try.underlying52 (by kernel_rfl) T.s n M rfl HA1.out.byS ((a : Int) + (m : Int)) rfl HWe.out ?_; rw [HMb.out, Option.getD_some, Option.isSome_some]))
          refine (drop_any HA1.out HMb.out (by omega) (by omega) (by omega)).mono ?_
          rintro e w2 ⟨rfl, hA2, ht2⟩
          have HA2 := Lib.hid hA2
          have HT2 := Lib.hid ht2
          clear hA2 ht2
          go_wp2_with fail
          refine (add_any HA2.out hn (by omega) (by omega) (by omega)).mono ?_
          rintro e w3 ⟨rfl, hA3, ht3⟩
          have HA3 := Lib.hid hA3
          have HT3 := Lib.hid ht3
          clear hA3 ht3
          go_wp2_with fail
          refine HEnd.out a e0 (mdel M ((a : Int) + m)) (mdel E ((a : Int) + m + ((e0 : Int) - ((a : Int) + m)))) _ HFr.out (.inl ⟨rfl, HEa.out⟩) (.inr HMb.out) (fun s _ => rfl) (fun e he => ?_) ?_ (HT1.out.trans (HT2.out.trans HT3.out))
          · unfold mdel
            rw [if_neg (by omega)]
            by_cases x : e = (a : Int)
            · rw [if_pos x, x, HEa.out]
            · rw [if_neg x]
          · exact HA3.out.cast (by congr 1; omega) (by congr 1; omega)
      | some before =>
        obtain ⟨k1, k2, k3⟩ := (HE.out _ _).1 hea
        have k4 := k3.1
        obtain ⟨s0, rfl⟩ := Int.eq_ofNat_of_zero_le k1
        have HEa := Lib.hid hea
        have HMs : Hid (M (s0 : Int) = some ((a : Int) - (s0 : Int))) := Lib.hid ((HM.out _ _).2 ⟨by omega, by omega, k3⟩)
        have hsa : (s0 : Int) < (a : Int) := by omega
        clear hea k1 k2 k3 k4
        have HWs := Lib.hid (i64wf (x := (s0 : Int)) (by omega) (by omega))
        have HWe2 := Lib.hid (i64wf (x := (s0 : Int) + ((m : Int) + ((a : Int) - (s0 : Int)))) (by omega) (by omega))
        have HMb2 : Hid (mdel M s0 ((s0 : Int) + ((m : Int) + ((a : Int) - (s0 : Int)))) = mb) := Lib.hid (by
          rw [show (s0 : Int) + ((m : Int) + ((a : Int) - (s0 : Int))) = (a : Int) + m by omega]
          unfold mdel; rw [if_neg (by omega)]; exact HMb.out)
        go_wp2_with (first | (refine wpList_ilook_ok rfl _ _ 52 rfl 3 Try.underlying3 Try.underlying52 (by kernel_rfl) T.e n E rfl HA1.out.byE (a : Int) rfl HWa.out ?_; rw [HEa.out, Option.getD_some, Option.isSome_some]) | (refine wpList_ilook rfl _ _ 52 rfl 3 Try.underlying3 Try.underlying52 (by kernel_rfl) T.s n M rfl HA1.out.byS (s0 : Int) rfl HWs.out ?_; rw [HMs.out, Option.getD_some]))
        refine (drop_any HA1.out HMs.out (by omega) (by omega) (by omega)).mono ?_
        rintro e w2 ⟨rfl, hA2, ht2⟩
        have HA2 := Lib.hid hA2
        have HT2 := Lib.hid ht2
        have f2 : w2.cell? ⟨T.p, 0, none⟩ = some (.map (some T.s)) := HA2.out.row.cell rfl
        clear hA2 ht2
        rcases hbeh with rfl | ⟨e0, rfl, h1, h2⟩
        · go_wp2_with (refine wpList_ilook_ok rfl _ _ 52 rfl 3 Try.underlying3 Try.underlying52 (by kernel_rfl) T.s n (mdel M s0) rfl HA2.out.byS ((s0 : Int) + ((m : Int) + ((a : Int) - (s0 : Int)))) rfl HWe2.out ?_; rw [HMb2.out, Option.getD_none, Option.isSome_none])
          refine (add_any HA2.out hn (by omega) (by omega) (by omega)).mono ?_
          rintro e w3 ⟨rfl, hA3, ht3⟩
          have HA3 := Lib.hid hA3
          have HT3 := Lib.hid ht3
          clear hA3 ht3
          go_wp2_with fail
          refine HEnd.out s0 (a + m) (mdel M s0) (mdel E ((s0 : Int) + ((a : Int) - (s0 : Int)))) _ HFr.out (.inr HEa.out) (.inl ⟨rfl, HMb.out⟩) (fun s hs => ?_) (fun e _ => ?_) ?_ (HT1.out.trans (HT2.out.trans HT3.out))
          · unfold mdel
            rw [if_neg hs]
            by_cases x : s = (a : Int) + m
            · rw [if_pos x, x, HMb.out]
            · rw [if_neg x]
          · unfold mdel; rw [show (s0 : Int) + ((a : Int) - (s0 : Int)) = a by omega]
          · exact HA3.out.cast (by congr 1; omega) (by congr 1; omega)
        · go_wp2_with (refine wpList_ilook_ok rfl _ _ 52 rfl 3 Try.underlying3 Try.underlying52 (by kernel_rfl) T.s n (mdel M s0) rfl HA2.out.byS ((s0 : Int) + ((m : Int) + ((a : Int) - (s0 : Int)))) rfl HWe2.out ?_; rw [HMb2.out, Option.getD_some, Option.isSome_some])
          refine (drop_any HA2.out HMb2.out (by omega) (by omega) (by omega)).mono ?_
          rintro e w3 ⟨rfl, hA3, ht3⟩
          have HA3 := Lib.hid hA3
          have HT3 := Lib.hid ht3
          clear hA3 ht3
          go_wp2_with fail
          refine (add_any HA3.out hn (by omega) (by omega) (by omega)).mono ?_
          rintro e w4 ⟨rfl, hA4, ht4⟩
          have HA4 := Lib.hid hA4
          have HT4 := Lib.hid ht4
          clear hA4 ht4
          go_wp2_with fail
          refine HEnd.out s0 e0 _ _ _ HFr.out (.inr HEa.out) (.inr HMb.out) (fun s hs => ?_) (fun e he => ?_) (HA4.out.cast (M' := mput (mdel (mdel M s0) ((s0 : Int) + ((m : Int) + ((a : Int) - (s0 : Int))))) s0 ((e0 : Int) - s0)) (E' := mput (mdel (mdel E ((s0 : Int) + ((a : Int) - (s0 : Int)))) ((s0 : Int) + ((m : Int) + ((a : Int) - (s0 : Int))) + ((e0 : Int) - ((a : Int) + (m : Int))))) e0 s0) (by congr 1; omega) (by congr 1; omega)) (HT1.out.trans (HT2.out.trans (HT3.out.trans HT4.out)))
          · unfold mdel
            rw [show (s0 : Int) + ((m : Int) + ((a : Int) - (s0 : Int))) = (a : Int) + m by omega, if_neg hs]
          · unfold mdel
            rw [if_neg (by omega), show (s0 : Int) + ((a : Int) - (s0 : Int)) = a by omega]

end Go.Proofs.Ytlaaamaaabcfeaa

/- runs: Take. -/
namespace Go.Proofs.Ytlaaamaaabcfeaa
open Go.RowKit Go.Maps
set_option linter.unusedVariables false

/-- What Take leaves. -/
def TakePost (w : World) (T : Tri) (k : Nat) (l : List Bool) (n : Int) : Ending → World → Prop := fun e w' =>
  e = .returned (.tuple #[.int .i64 (takeR l n).2.1, .int .i64 (takeR l n).2.2]) ∧ IxAt w' T (k + 1) (takeR l n).1 ∧ Touch [T.s, T.e] w w'

theorem takeR_arg {l : List Bool} {n : Int} (h : n < 1) : takeR l n = (l, 0, 1) := by unfold takeR; rw [if_pos h]
theorem takeR_none {l : List Bool} {m : Nat} (h : 1 ≤ m) (hp : pick m (runsOf l) = none) : takeR l m = (l, 0, 4) := by
  unfold takeR; rw [if_neg (by omega)]; simp [hp]
theorem takeR_some {l : List Bool} {m : Nat} (h : 1 ≤ m) {x : Sp} (hp : pick m (runsOf l) = some x) : takeR l m = (setTo l x.1 false m, (x.1 : Int), 0) := by
  unfold takeR; rw [if_neg (by omega)]; simp [hp]

theorem best_mem {n : Nat} {A B : List Sp} (h : ∀ x, x ∈ A ↔ x ∈ B) {o : Option Sp} (hb : Best n (fun s k => (s, k) ∈ A) o) : Best n (fun s k => (s, k) ∈ B) o := by
  have : (fun s k => (s, k) ∈ A) = fun s k => (s, k) ∈ B := by funext s k; exact propext (h (s, k))
  rw [← this]; exact hb
theorem best_add {n s0 k0 : Nat} {done : List Sp} {o : Option Sp} (h : Best n (fun s k => (s, k) ∈ done) o) : Best n (fun s k => (s, k) ∈ done ++ [(s0, k0)]) (if better n o s0 k0 then some (s0, k0) else o) :=
  best_step h fun s k => by rw [List.mem_append, List.mem_singleton, Prod.ext_iff]

def bestI : Option Sp → Int
  | none => -1
  | some x => x.1

theorem IMap.look {P : Program} {k t : TypeId} {w : World} {b n : Nat} {M : Int → Option Int} (h : IMap P k w b n M) (hk : P.underlying k = some (.int .i64)) (ht : P.underlying t = some (.map k k)) (hz : (zeroValue k).run P w = .ok (.int .i64 0) w)
    {y c : Int} (hm : M y = some c) : (Instr.lookup t (.map (some b)) (.int .i64 y) false).run P w = .ok (.int .i64 c) w := by
  have hw := h.wf hk hm
  obtain ⟨D, ho, hT⟩ := h
  obtain ⟨c', hrun, hat, _⟩ := ho.lookup_int (int_keyed hk) ht hk hz (keyOf_int_mk hk hw)
  rw [hT.get y, hm] at hat
  have e : c = c' := by injection hat with h1; injection h1
  rw [hrun, e]

theorem take_end {w w' : World} {T : Tri} {n : Nat} {l : List Bool} {M E M' E' : Int → Option Int} {a k m : Nat} (hM : MOf l M) (hE : EOf l E) (hm : 1 ≤ m) (hp : pick m (runsOf l) = some (a, k))
    (hA : MapsAt w' T (n + 1) l.length M' E') (ht : Touch [T.s, T.e] w w')
    (h1 : M' ((a : Int) + m) = if m < k then some ((k : Int) - m) else M ((a : Int) + m)) (h2 : M' a = none) (h3 : ∀ s, s ≠ (a : Int) → s ≠ (a : Int) + m → M' s = M s)
    (h4 : E' ((a : Int) + k) = if m < k then some ((a : Int) + m) else none) (h5 : ∀ e, e ≠ (a : Int) + k → E' e = E e) :
    TakePost w T n l m (.returned (.tuple #[.int .i64 (a : Int), .int .i64 0])) w' := by
  obtain ⟨hr, hk⟩ := pick_run hp
  unfold TakePost
  rw [takeR_some hm hp]
  exact ⟨rfl, ⟨M', E', by rw [setTo_length]; exact hA, take_M hM hr hm hk h1 h2 h3, take_E hE hr hm hk h4 h5⟩, ht⟩

set_option maxHeartbeats 4000000 in
theorem itake_any {w : World} {T : Tri} {n : Nat} {l : List Bool} (h : IxAt w T n l) (hl : l.length ≤ 1000000000000) (hn : n < 1000000000000) (z : Int) :
    Calls Try.prog 10 #[.pointer (some ⟨T.p, 0, none⟩), .int .i64 z] w (TakePost w T n l z) := by
  by_cases hz : z < 1
  · have HP : Hid (TakePost w T n l z (.returned (.tuple #[.int .i64 0, .int .i64 1])) w) := Lib.hid (by unfold TakePost; rw [takeR_arg hz]; exact ⟨rfl, h.mono (by omega), Touch.refl _ _⟩)
    generalize TakePost w T n l z = Post at *
    clear h
    go_enter Try.func10, Try.ntmps10
    go_wp2_with fail
    exact HP.out
  obtain ⟨m, rfl⟩ := Int.eq_ofNat_of_zero_le (show 0 ≤ z by omega)
  have hm1 : 1 ≤ m := by omega
  have HNone : Hid (pick m (runsOf l) = none → ∀ w', Below w.heap.size w w' → TakePost w T n l m (.returned (.tuple #[.int .i64 0, .int .i64 4])) w') := Lib.hid (fun hp w' hb => by
    unfold TakePost; rw [takeR_none hm1 hp]; exact ⟨rfl, (h.mono (by omega)).below hb, Touch.ofBelow hb⟩)
  obtain ⟨M, E, hA, hM, hE⟩ := h
  have HEnd : Hid (∀ (a k : Nat) (M' E' : Int → Option Int) (w' : World), pick m (runsOf l) = some (a, k) → MapsAt w' T (n + 1) l.length M' E' → Touch [T.s, T.e] w w' →
      (M' ((a : Int) + m) = if m < k then some ((k : Int) - m) else M ((a : Int) + m)) → M' a = none → (∀ s, s ≠ (a : Int) → s ≠ (a : Int) + m → M' s = M s) →
      (E' ((a : Int) + k) = if m < k then some ((a : Int) + m) else none) → (∀ e, e ≠ (a : Int) + k → E' e = E e) → TakePost w T n l m (.returned (.tuple #[.int .i64 (a : Int), .int .i64 0])) w') :=
    Lib.hid (fun a k M' E' w' hp hA ht h1 h2 h3 h4 h5 => take_end hM hE hm1 hp hA ht h1 h2 h3 h4 h5)
  have e0 : w.cell? ⟨T.p, 0, none⟩ = some (.map (some T.s)) := hA.row.cell rfl
  have HA := Lib.hid hA
  have HMO := Lib.hid hM
  have HL := Lib.hid hl
  clear hA hM hE hl hz
  generalize TakePost w T n l m = Post at *
  have q1 : decide ((m : Int) < 1) = false := by simp; omega
  go_enter Try.func10, Try.ntmps10
  go_wp2_with (at_range; refine wpList_irange rfl _ 52 rfl 3 Try.underlying3 Try.underlying52 T.s n M rfl HA.out.byS ?_; intro w0 cnt0 hr0 hg0 hs0)
  have HR0 := Lib.hid hr0
  have HB0 := Lib.hid (grown_none hg0)
  clear hr0 hg0 hs0
  go_frame
  go_loopw [6] (fun v wr => ∃ (L : Int → Bool) (cnt : Nat) (done rest : List Sp) (o : Option Sp) (b : Int), v = .int .i64 b ∧ b = bestI o ∧ IRange Try.prog 3 wr T.s w.heap.size n M L cnt ∧ Below w.heap.size w wr ∧ Part l M L done rest ∧ Best m (fun s k => (s, k) ∈ done) o) (fun _ wr => wr.rangeLeft T.s w.heap.size)
  case atStart => exact ⟨_, _, [], runsOf l, none, -1, rfl, rfl, HR0.out, HB0.out, Part.start HMO.out, fun s k hk => by simp at hk⟩
  case round =>
    obtain ⟨L, cnt, done, rest, o, b, rfl, hbo, hr, hb, hp, hbest⟩ := hrel
    have HR := Lib.hid hr
    have HB := Lib.hid hb
    have HBo := Lib.hid hbo
    have HP := Lib.hid hp
    have HBest := Lib.hid hbest
    clear hr hb hp hbo hbest
    go_wp2_with (at_next; refine wpList_inext rfl _ rfl 3 Try.underlying3 T.s w.heap.size n M _ _ rfl HR.out ?_ ?_)
    · intro h0
      have hperm := HP.out.finish h0
      have hbb := best_mem (fun x => hperm.mem_iff) HBest.out
      have hpk : pick m (runsOf l) = o := best_one (pick_best (runsOf_is l).rising) hbb
      have HPk := Lib.hid hpk
      have HA1 := Lib.hid (HA.out.below HB.out)
      have HT1 := Lib.hid (Touch.ofBelow (L := [T.s, T.e]) HB.out)
      have f0 : wr.cell? ⟨T.p, 0, none⟩ = some (.map (some T.s)) := HA1.out.row.cell rfl
      clear h0 hperm hbb hpk
      cases o with
      | none =>
        obtain rfl : b = -1 := HBo.out
        go_wp2_with fail
        exact HNone.out HPk.out _ HB.out
      | some x =>
        obtain ⟨a, k⟩ := x
        obtain rfl : b = (a : Int) := HBo.out
        obtain ⟨hr, hk⟩ := pick_run HPk.out
        dsimp only at hr hk
        have hin := runEnds hr
        have HMa : Hid (M (a : Int) = some (k : Int)) := Lib.hid ((HMO.out _ _).2 ⟨by omega, by omega, by simpa using hr⟩)
        have hlen := HL.out
        clear hr
        have q2 : decide ((a : Int) < 0) = false := by simp
        have hq := HA1.out.byS.look Try.underlying3 (t := 52) Try.underlying52 (by kernel_rfl) HMa.out
        by_cases hkm : m < k
        · go_wp2_with fail
          refine (drop_any HA1.out HMa.out (by omega) (by omega) (by omega)).mono ?_
          rintro e w2 ⟨rfl, hA2, ht2⟩
          have HA2 := Lib.hid hA2
          have HT2 := Lib.hid ht2
          clear hA2 ht2
          have hkm' : (m : Int) < (k : Int) := by omega
          go_wp2_with fail
          refine (add_any HA2.out hn (by omega) (by omega) (by omega)).mono ?_
          rintro e w3 ⟨rfl, hA3, ht3⟩
          have HA3 := Lib.hid hA3
          have HT3 := Lib.hid ht3
          clear hA3 ht3
          go_wp2_with fail
          refine HEnd.out a k _ _ _ HPk.out HA3.out (HT1.out.trans (HT2.out.trans HT3.out)) ?_ ?_ (fun s h1 h2 => ?_) ?_ (fun e h1 => ?_)
          · rw [if_pos hkm]; simp [mput]
          · unfold mput mdel; rw [if_neg (by omega), if_pos rfl]
          · unfold mput mdel; rw [if_neg h2, if_neg h1]
          · rw [if_pos hkm]; unfold mput; rw [if_pos (by omega)]
          · unfold mput mdel; rw [if_neg (by omega), if_neg h1]
        · obtain rfl : k = m := by omega
          go_wp2_with fail
          refine (drop_any HA1.out HMa.out (by omega) (by omega) (by omega)).mono ?_
          rintro e w2 ⟨rfl, hA2, ht2⟩
          have HA2 := Lib.hid hA2
          have HT2 := Lib.hid ht2
          clear hA2 ht2
          go_wp2_with fail
          refine HEnd.out a k _ _ _ HPk.out (HA2.out.mono (by omega)) (HT1.out.trans HT2.out) ?_ ?_ (fun s h1 h2 => ?_) ?_ (fun e h1 => ?_)
          · rw [if_neg hkm]; unfold mdel; rw [if_neg (by omega)]
          · unfold mdel; rw [if_pos rfl]
          · unfold mdel; rw [if_neg h1]
          · rw [if_neg hkm]; unfold mdel; rw [if_pos rfl]
          · unfold mdel; rw [if_neg h1]
    · intro x c w1 cnt1 hwx hwc hL hMx hr1 hlt hg1 hs1 hen
      obtain ⟨s, k, rfl, rfl, _, hp1⟩ := HP.out.step HMO.out hL hMx
      have HP1 := Lib.hid hp1
      have HR1 := Lib.hid hr1
      have HB1 : Hid (Below w.heap.size w w1) := Lib.hid (HB.out.trans (grown_one hg1 (Nat.le_refl _) HB.out.size))
      have HLt := Lib.hid hlt
      have f0 : w1.cell? ⟨T.p, 0, none⟩ = some (.map (some T.s)) := (HA.out.below HB1.out).row.cell rfl
      have HBA := Lib.hid (best_add (s0 := s) (k0 := k) HBest.out)
      clear hL hMx hr1 hlt hg1 hs1 hwx hwc hp1
      by_cases hkm : m ≤ k
      · have hkm' : (m : Int) ≤ (k : Int) := by omega
        cases o with
        | none =>
          obtain rfl : b = -1 := HBo.out
          have HN : Hid (Best m (fun a b => (a, b) ∈ done ++ [(s, k)]) (some (s, k))) := Lib.hid (by have := HBA.out; rwa [if_pos (by simp [better, hkm])] at this)
          go_wp2_with fail
          go_roundw
          case rel => exact ⟨_, _, _, _, some (s, k), (s : Int), rfl, rfl, HR1.out, HB1.out, HP1.out, HN.out⟩
          case measure => rw [HR1.out.left_eq, HR.out.left_eq]; exact HLt.out
        | some x =>
          obtain ⟨a, d⟩ := x
          obtain rfl : b = (a : Int) := HBo.out
          have hmem : (a, d) ∈ runsOf l := HP.out.perm.mem_iff.1 (List.mem_append_left _ HBest.out.1)
          have hM1 : M (a : Int) = some (d : Int) := (HMO.out _ _).2 ⟨by omega, by omega, by simpa using ((runsOf_is l).mem a d).1 hmem⟩
          have hq := (HA.out.below HB1.out).byS.look Try.underlying3 (t := 52) Try.underlying52 (by kernel_rfl) hM1
          have q2 : decide ((a : Int) < 0) = false := by simp
          clear hmem hM1
          rcases Nat.lt_trichotomy k d with h1 | h1 | h1
          · have HN : Hid (Best m (fun a b => (a, b) ∈ done ++ [(s, k)]) (some (s, k))) := Lib.hid (by have := HBA.out; rwa [if_pos (by simp [better, hkm]; omega)] at this)
            go_wp2_with fail
            go_roundw
            case rel => exact ⟨_, _, _, _, some (s, k), (s : Int), rfl, rfl, HR1.out, HB1.out, HP1.out, HN.out⟩
            case measure => rw [HR1.out.left_eq, HR.out.left_eq]; exact HLt.out
          · subst h1
            by_cases h2 : s < a
            · have HN : Hid (Best m (fun a b => (a, b) ∈ done ++ [(s, k)]) (some (s, k))) := Lib.hid (by have := HBA.out; rwa [if_pos (by simp [better, hkm]; omega)] at this)
              go_wp2_with fail
              go_roundw
              case rel => exact ⟨_, _, _, _, some (s, k), (s : Int), rfl, rfl, HR1.out, HB1.out, HP1.out, HN.out⟩
              case measure => rw [HR1.out.left_eq, HR.out.left_eq]; exact HLt.out
            · have HN : Hid (Best m (fun a b => (a, b) ∈ done ++ [(s, k)]) (some (a, k))) := Lib.hid (by have := HBA.out; rwa [if_neg (by simp [better, hkm]; omega)] at this)
              go_wp2_with fail
              go_roundw
              case rel => exact ⟨_, _, _, _, some (a, k), (a : Int), rfl, rfl, HR1.out, HB1.out, HP1.out, HN.out⟩
              case measure => rw [HR1.out.left_eq, HR.out.left_eq]; exact HLt.out
          · have HN : Hid (Best m (fun a b => (a, b) ∈ done ++ [(s, k)]) (some (a, d))) := Lib.hid (by have := HBA.out; rwa [if_neg (by simp [better, hkm]; omega)] at this)
            have q3 : (k == d) = false := by simp; omega
            have q4 : ((k : Int) == (d : Int)) = false := by simp; omega
            go_wp2_with fail
            go_roundw
            case rel => exact ⟨_, _, _, _, some (a, d), (a : Int), rfl, rfl, HR1.out, HB1.out, HP1.out, HN.out⟩
            case measure => rw [HR1.out.left_eq, HR.out.left_eq]; exact HLt.out
      · have HN : Hid (Best m (fun a b => (a, b) ∈ done ++ [(s, k)]) o) := Lib.hid (by have := HBA.out; rwa [if_neg (by simp [better, hkm])] at this)
        have q5 : decide ((m : Int) ≤ (k : Int)) = false := by simp; omega
        go_wp2_with fail
        go_roundw
        case rel => exact ⟨_, _, _, _, o, b, rfl, HBo.out, HR1.out, HB1.out, HP1.out, HN.out⟩
        case measure => rw [HR1.out.left_eq, HR.out.left_eq]; exact HLt.out

end Go.Proofs.Ytlaaamaaabcfeaa
