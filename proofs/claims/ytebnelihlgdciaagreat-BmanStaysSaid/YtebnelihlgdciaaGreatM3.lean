/- Parts of the proof, one behind the other: Mix, Mr, Mx, Tr, Bt, Cp, Cr, Cs, HdA, HdB, HdC, Bk, HdD. -/
import Derived.Test.YtebnelihlgdciaaGreatM2
import Derived.Laws.BitsAllLaws

/- Regions that draw their order: operations that only read may float; all others come one behind the other. One walk, the reading ones as early as can be, serves every order. -/
namespace Go.Proofs.YtebnelihlgdciaaGreat
open Go.RowKit
set_option linter.unusedVariables false

section
variable {P : Program} {ops : Array Oper} {md : Region.Mode} {C : World → Prop} {Q : Exit → Act → World → Prop}

/-- Such an operation may be taken first, if whatever may still come ahead of it is loose. -/
theorem wpAnyF_early {loose : Nat → Bool} {i f : Nat} {oi : Oper} {v : Value} (hi : ops[i]? = some oi) (hsel : ∀ (j : Nat) (o : Oper) cs b, ops[j]? = some o → o.op ≠ .select cs b)
    (hQ : ∀ c a d v w, Q (.panic c) (a.put d v) w → Q (.panic c) a w) :
    ∀ (fuel : Nat) (listed : Array Bool) (a : Act) (w : World),
      (∀ j oj, ops[j]? = some oj → j ≠ i → listed.getD j true = false → waitsFor md ops f j i = true ∨ loose j = true) →
      (∀ j oj, ops[j]? = some oj → j ≠ i → listed.getD j true = false → (∀ e ∈ oj.after, Region.binds md e = true → e.on ≠ i) → oi.apart ops oj = true) →
      i ∈ Region.ready md ops listed → Shut md ops listed → Stays P ops C oi v a → C w →
      wpAnyF P md ops Q C loose fuel (listed.setIfInBounds i true) (a.put oi.dst v) w → wpAnyF P md ops Q C loose (fuel + 1) listed a w := by
  intro fuel
  induction fuel with
  | zero =>
    intro listed a w _ _ hr _ hy hC H
    refine ⟨fun h => (by rw [h] at hr; cases hr), fun j hj => ?_⟩
    by_cases hji : j = i
    · subst hji; exact hy.wpOp hi hC ⟨fun _ => hC, H⟩
    · have := ready_mono hj hji
      rw [H.1] at this
      cases this
  | succ fuel ih =>
    intro listed a w hl hfree hr hsh hy hC H
    refine ⟨fun h => (by rw [h] at hr; cases hr), fun j hj => ?_⟩
    by_cases hji : j = i
    · subst hji; exact hy.wpOp hi hC ⟨fun _ => hC, H⟩
    · have h1 := H.2 j (ready_mono hj hji)
      obtain ⟨hjun, oj, hoj, hall⟩ := mem_ready.1 hj
      have hiun : listed.getD i false = false := by
        have h0 := (mem_ready.1 hr).1
        rcases Nat.lt_or_ge i listed.size with h' | h'
        · simp [h'] at h0 ⊢; exact h0
        · simp [Array.getElem?_eq_none h']
      have hnot : ∀ e ∈ oj.after, Region.binds md e = true → e.on ≠ i := fun e he hb heq => by
        have h1 := hall e he hb
        rw [heq, hiun] at h1
        cases h1
      have hlo : loose j = true := by
        rcases hl j oj hoj hji hjun with h | h
        · have := waitsFor_listed hsh f j i oj hoj hall h
          rw [hiun] at this
          cases this
        · exact h
      have h2 := wpOp_putF (C := C) hoj (hfree j oj hoj hji hjun hnot) (fun cs b => hsel i oi cs b hi) (fun cs b => hsel j oj cs b hoj) hQ hy h1
      have hun' : ∀ k, (listed.setIfInBounds j true).getD k true = false → listed.getD k true = false := fun k hun => by
        by_cases hjk : j = k
        · subst hjk; exact hjun
        · rw [getD_set_ne true hjk] at hun; exact hun
      refine wpOp_mono (fun a' w' h3 => ⟨h3.2.1, ih (listed.setIfInBounds j true) a' w' (fun k ok hk hki hun => hl k ok hk hki (hun' k hun)) (fun k ok hk hki hun hno => hfree k ok hk hki (hun' k hun) hno) (ready_mono hr (Ne.symm hji)) (hsh.set hj) h3.1 (h3.2.1 hlo) ?_⟩) h2
      rw [Array.setIfInBounds_comm _ _ hji]
      exact h3.2.2

/-- Is there an operation that only reads and that may come ahead of j as well as behind it? -/
def looseOf (md : Region.Mode) (ops : Array Oper) (j : Nat) : Bool :=
  (List.range ops.size).any fun i => i != j && (match ops[i]? with | some o => calm o.op | none => false) && !waitsFor md ops ops.size j i && !waitsFor md ops ops.size i j

def mixFrom (md : Region.Mode) (ops : Array Oper) : List (Nat × Bool) → Array Bool → Bool
  | [], listed => (Region.ready md ops listed).isEmpty
  | (k, lo) :: is, listed => (lo == looseOf md ops k) && (match ops[k]? with
      | none => false
      | some o => if calm o.op then (Region.ready md ops listed).contains k && Region.free md ops listed k && ((List.range ops.size).all fun j => j == k || listed.getD j true || waitsFor md ops ops.size j k || looseOf md ops j)
        else Region.ready md ops listed == [k]) && mixFrom md ops is (listed.setIfInBounds k true)
def mixB (md : Region.Mode) (ops : Array Oper) (is : List (Nat × Bool)) : Bool := Region.noSelect ops && is.length == ops.size && mixFrom md ops is (Array.replicate ops.size false)

/-- The walk, in an order in which reading operations come as early as they can. The Boolean: is it loose? -/
def wpMix (P : Program) (ops : Array Oper) (C : World → Prop) (Q : Exit → Act → World → Prop) : List (Oper × Bool) → Act → World → Prop
  | [], a, w => Q .normal a w
  | (o, lo) :: rest, a, w => if calm o.op then ∃ v, Stays P ops C o v a ∧ C w ∧ wpMix P ops C Q rest (a.put o.dst v) w
      else wpList P ops (Exit.then (fun a' w' => (lo = true → C w') ∧ wpMix P ops C Q rest a' w') Q) [o] a w

def mixList (l : List Oper) : List (Nat × Bool) → List (Oper × Bool)
  | [] => []
  | (k, lo) :: is => match l[k]? with
    | some o => (o, lo) :: mixList l is
    | none => mixList l is

theorem mix_ok (hs : Region.noSelect ops = true) (hQ : ∀ c a d v w, Q (.panic c) (a.put d v) w → Q (.panic c) a w) : ∀ (is : List (Nat × Bool)) (listed : Array Bool) (a : Act) (w : World), Shut md ops listed →
    mixFrom md ops is listed = true → wpMix P ops C Q (mixList ops.toList is) a w → wpAnyF P md ops Q C (looseOf md ops) is.length listed a w := by
  intro is
  induction is with
  | nil =>
    intro listed a w _ hB h
    exact ⟨by simpa [mixFrom] using hB, by simpa [wpMix, mixList] using h⟩
  | cons p is ih =>
    obtain ⟨k, lo⟩ := p
    intro listed a w hsh hB h
    simp only [mixFrom, Bool.and_eq_true, beq_iff_eq] at hB
    obtain ⟨⟨rfl, hB1⟩, hB2⟩ := hB
    cases hk : ops[k]? with
    | none => rw [hk] at hB1; cases hB1
    | some o =>
      rw [hk] at hB1
      have e : mixList ops.toList ((k, looseOf md ops k) :: is) = (o, looseOf md ops k) :: mixList ops.toList is := by simp [mixList, hk]
      rw [e] at h
      by_cases hc : calm o.op = true
      · simp only [hc, if_true, Bool.and_eq_true] at hB1
        simp only [wpMix, hc, if_true] at h
        obtain ⟨⟨hr, hf⟩, hlo⟩ := hB1
        obtain ⟨v, hy, hC, h⟩ := h
        have hrk : k ∈ Region.ready md ops listed := by simpa using hr
        refine wpAnyF_early (f := ops.size) hk (Region.noSelect_spec hs) hQ is.length listed a w ?_ (Region.free_spec hk hf) hrk hsh hy hC (ih _ _ _ (hsh.set hrk) hB2 h)
        intro j oj hj hjk hun
        simp only [List.all_eq_true, List.mem_range, Bool.or_eq_true, beq_iff_eq] at hlo
        rcases hlo j (Array.getElem?_eq_some_iff.1 hj).1 with ((h | h) | h) | h
        · exact absurd h hjk
        · rw [hun] at h; cases h
        · exact .inl h
        · exact .inr h
      · simp only [hc, Bool.false_eq_true, if_false, beq_iff_eq] at hB1
        simp only [wpMix, hc, Bool.false_eq_true, if_false] at h
        have hrk : k ∈ Region.ready md ops listed := by rw [hB1]; simp
        refine ⟨fun h' => (by rw [hB1] at h'; cases h'), fun i hi => ?_⟩
        rw [hB1] at hi
        obtain rfl : i = k := by simpa using hi
        unfold wpOp
        simp only [hk]
        unfold wpList at h
        have hmono : ∀ a' w', wpList P ops (Exit.then (fun a' w' => (looseOf md ops i = true → C w') ∧ wpMix P ops C Q (mixList ops.toList is) a' w') Q) [] a' w' →
            (looseOf md ops i = true → C w') ∧ wpAnyF P md ops Q C (looseOf md ops) is.length (listed.setIfInBounds i true) a' w' := by
          intro a' w' h'
          unfold wpList at h'
          exact ⟨h'.1, ih _ _ _ (hsh.set hrk) hB2 h'.2⟩
        by_cases hw : Region.wanted o (yielded ops a.tmps) = true
        · rw [if_pos hw] at h ⊢
          rcases h with h | h
          · refine .inl ?_
            have h := Oper.wp_mono hmono h
            unfold Oper.wp at *
            generalize (execOp a.eval o).run P w = r at *
            cases r with
            | ok n w' =>
              cases n <;> simp only [Oper.upon] at h ⊢ <;> try exact h
            | halt x w' => cases x <;> simp only [Oper.upon] at h ⊢ <;> exact h
          · exact .inr h
        · rw [if_neg hw] at h ⊢
          exact hmono _ _ h

/-- One walk serves every order. -/
theorem wp_region_mix {id : Nat} {a : Act} {w : World} {l : List Oper} (is : List (Nat × Bool)) (hm : P.follows .mixedOrders = true) (hB : mixB .any l.toArray is = true)
    (hQ : ∀ c a d v w, Q (.panic c) (a.put d v) w → Q (.panic c) a w) 
    (h : wpMix P l.toArray C Q (mixList l is) a w.drew) : (Code.region id l.toArray true).wp P Q a w := by
  simp only [mixB, Bool.and_eq_true, beq_iff_eq] at hB
  refine wp_region_any hm (wpAny_of_F (C := C) (loose := looseOf .any l.toArray) _ _ _ _ ?_)
  have := mix_ok (md := .any) (C := C) hB.1.1 hQ is (Array.replicate l.toArray.size false) a w.drew (shut_none _) hB.2 h
  rw [hB.1.2] at this
  exact this

theorem wpMix_nil {a : Act} {w : World} (h : Q .normal a w) : wpMix P ops C Q [] a w := h
theorem wpMix_calm {o : Oper} {lo : Bool} {rest : List (Oper × Bool)} {a : Act} {w : World} (hcal : calm o.op = true) (hC : C w) (h : wpQuiet P ops C (fun a' => wpMix P ops C Q rest a' w) [o] a) : wpMix P ops C Q ((o, lo) :: rest) a w := by
  unfold wpMix
  rw [if_pos hcal]
  unfold wpQuiet at h
  by_cases hw : Region.wanted o (yielded ops a.tmps) = true
  · rw [if_pos hw] at h
    obtain ⟨v, h1, h2⟩ := h
    refine ⟨v, .inl ⟨hw, fun x hx => ?_⟩, hC, h2⟩
    have h3 := h1 x hx
    unfold Oper.quietAt at h3
    cases hq : (execOp a.eval o).run P x with
    | ok nx w2 =>
      obtain ⟨u, rfl⟩ := calm_value hcal hq
      rw [hq] at h3
      simp only [Oper.quietUpon] at h3
      rw [h3.1, h3.2]
    | halt x' w2 => rw [hq] at h3; simp only [Oper.quietUpon] at h3
  · rw [if_neg hw] at h
    exact ⟨undef, .inr ⟨by simpa using hw, rfl⟩, hC, h⟩
theorem wpMix_hard {o : Oper} {lo : Bool} {rest : List (Oper × Bool)} {a : Act} {w : World} (hcal : calm o.op = false)
    (h : ∀ K : Act → World → Prop, (∀ a' w', (lo = true → C w') → wpMix P ops C Q rest a' w' → K a' w') → wpList P ops (Exit.then K Q) [o] a w) : wpMix P ops C Q ((o, lo) :: rest) a w := by
  unfold wpMix
  simp only [hcal, Bool.false_eq_true, if_false]
  exact h _ (fun _ _ h1 h2 => ⟨h1, h2⟩)

end

theorem later_step {w v v' : World} (h : ∃ x : Later w, v = x.val) (hb : Below v.heap.size v v') : ∃ x : Later w, v' = x.val := by
  obtain ⟨x, rfl⟩ := h
  exact ⟨⟨v', x.below.trans (hb.mono x.below.size)⟩, rfl⟩
theorem later_below {w v : World} (h : ∃ x : Later w, v = x.val) : Below w.heap.size w v := by
  obtain ⟨x, rfl⟩ := h
  exact x.below
theorem later_drew (w : World) : ∃ x : Later w, w.drew = x.val := ⟨⟨w.drew, (Below.refl _ _).drew⟩, rfl⟩
theorem later_drewN {w v : World} (h : ∃ x : Later w, v = x.val) (q : Nat) : ∃ x : Later w, v.drewN q = x.val := by
  obtain ⟨x, rfl⟩ := h
  exact ⟨⟨_, by have := x.below; exact ⟨this.os, this.tape, this.output, by simpa using this.size, by simpa using this.block⟩⟩, rfl⟩

/-- What the worlds of a region have in common: nothing but some blocks differs. -/
structure Near (L : List Nat) (w : World) where
  val : World
  size : w.heap.size ≤ val.heap.size
  block : ∀ k, k < w.heap.size → k ∉ L → val.heap[k]? = w.heap[k]?
instance (L : List Nat) (w : World) : Nonempty (Near L w) := ⟨⟨w, Nat.le_refl _, fun _ _ _ => rfl⟩⟩
theorem near_cell {L : List Nat} {w : World} {p : Addr} {v : Value} (h : w.cell? p = some v) (hL : p.block ∉ L) (x : Near L w) : x.val.cell? p = some v := by
  have := x.block p.block (World.block_lt_of_cell? _ _ h) hL
  unfold World.cell? at *
  rw [this]; exact h

end Go.Proofs.YtebnelihlgdciaaGreat

/- The same without the rest of the memory: blocks from B on, where older ones may change. -/
namespace Go.Proofs.YtebnelihlgdciaaGreat
open Go.RowKit
set_option linter.unusedVariables false

structure MemR (B : Nat) (W : World) (L : List Ent) : Prop where
  rows : ∀ x ∈ L, RowX W x
  base : ∀ x ∈ L, B ≤ x.g
  nd : (L.map Ent.g).Nodup
  size : B ≤ W.heap.size

theorem Mem.r {w W : World} {L : List Ent} (h : Mem w W L) : MemR w.heap.size W L := ⟨h.rows, h.base, h.nd, h.below.size⟩
theorem MemR.lt {B : Nat} {W : World} {L : List Ent} (h : MemR B W L) : ∀ x ∈ L, x.g < W.heap.size := fun x hx => (h.rows x hx).lt
theorem MemR.later {B : Nat} {W W' : World} {L : List Ent} (h : MemR B W L) (hb : Below W.heap.size W W') : MemR B W' L :=
  ⟨fun x hx => (h.rows x hx).keep (hb.block _ (h.lt x hx)), h.base, h.nd, Nat.le_trans h.size hb.size⟩
/-- Older blocks change. -/
theorem MemR.touch {B : Nat} {W W' : World} {L : List Ent} (h : MemR B W L) {X : List Nat} (ht : Touch X W W') (hX : ∀ k ∈ X, k < B) : MemR B W' L :=
  ⟨fun x hx => (h.rows x hx).keep (ht.block _ (h.lt x hx) (fun hm => by have := hX _ hm; have := h.base x hx; omega)), h.base, h.nd, Nat.le_trans h.size ht.size⟩
/-- Blocks of others change. -/
theorem MemR.apart {B : Nat} {W W' : World} {L : List Ent} (h : MemR B W L) {X : List Nat} (ht : Touch X W W') (hX : ∀ x ∈ L, x.g ∉ X) : MemR B W' L :=
  ⟨fun x hx => (h.rows x hx).keep (ht.block _ (h.lt x hx) (hX x hx)), h.base, h.nd, Nat.le_trans h.size ht.size⟩
theorem MemR.add {B : Nat} {W W' : World} {L : List Ent} (h : MemR B W L) (hb : Below W.heap.size W W') {x : Ent} (hx : RowX W' x) (hg : W.heap.size ≤ x.g) : MemR B W' (L ++ [x]) := by
  have h' := h.later hb
  refine ⟨fun y hy => ?_, fun y hy => ?_, ?_, h'.size⟩
  · rcases List.mem_append.1 hy with hy | hy
    · exact h'.rows y hy
    · obtain rfl : y = x := by simpa using hy
      exact hx
  · rcases List.mem_append.1 hy with hy | hy
    · exact h.base y hy
    · obtain rfl : y = x := by simpa using hy
      exact Nat.le_trans h.size hg
  · rw [List.map_append, List.nodup_append]
    refine ⟨h.nd, by simp, ?_⟩
    intro a ha b hb' e
    simp at hb'
    subst hb'
    subst e
    obtain ⟨y, hy, rfl'⟩ := List.mem_map.1 ha
    have := h.lt y hy
    omega
theorem MemR.front {B : Nat} {W : World} {L E : List Ent} (h : MemR B W (L ++ E)) : MemR B W L :=
  ⟨fun x hx => h.rows x (List.mem_append_left _ hx), fun x hx => h.base x (List.mem_append_left _ hx), (List.nodup_append.1 (by have := h.nd; rwa [List.map_append] at this)).1, h.size⟩
theorem near_of {X : List Nat} {w W : World} (h : Touch X w W) : ∃ x : Near X w, W = x.val := ⟨⟨W, h.size, h.block⟩, rfl⟩
theorem MemR.alloc {B : Nat} {W : World} {L : List Ent} (h : MemR B W L) (cs : Array Value) (t : Nat) : MemR B (W.alloc (.cells cs t)) (L ++ [⟨W.heap.size, t, cs.toList, true⟩]) :=
  h.add (below_alloc W _) ⟨cs, heap_alloc_new W _, [], by simp, fun _ => rfl⟩ (Nat.le_refl _)
theorem MemR.row {B : Nat} {W W' : World} {L : List Ent} (h : MemR B W L) (hb : Below W.heap.size W W') {g e : Nat} {vs : List Value} (hx : RowAt W' g e vs) (hg : W.heap.size ≤ g) : MemR B W' (L ++ [⟨g, e, vs, false⟩]) :=
  h.add hb (RowX.of hx) hg
theorem MemR.at {B : Nat} {W : World} {L : List Ent} (h : MemR B W L) (k : Nat) {g e : Nat} {vs : List Value} {ex : Bool} (hk : L[k]? = some ⟨g, e, vs, ex⟩) : RowAt W g e vs := (h.rows _ (List.mem_of_getElem? hk)).row
theorem MemR.exact {B : Nat} {W : World} {L : List Ent} (h : MemR B W L) (k : Nat) {g e : Nat} {vs : List Value} (hk : L[k]? = some ⟨g, e, vs, true⟩) : W.heap[g]? = some (.cells vs.toArray e (0, 0)) := (h.rows _ (List.mem_of_getElem? hk)).exact
theorem MemR.cell {B : Nat} {W : World} {L : List Ent} (h : MemR B W L) (k i : Nat) {g e : Nat} {vs : List Value} {ex : Bool} {v : Value} (hk : L[k]? = some ⟨g, e, vs, ex⟩) (hi : vs[i]? = some v) : W.cell? ⟨g, i, none⟩ = some v := (h.at k hk).cell hi
theorem MemR.frozen {B : Nat} {W : World} {L : List Ent} (h : MemR B W L) (k i : Nat) {g e : Nat} {vs : List Value} {ex : Bool} (hk : L[k]? = some ⟨g, e, vs, ex⟩) : W.frozen? ⟨g, i, none⟩ = false := (h.at k hk).frozen i
theorem MemR.glt {B : Nat} {W : World} {L : List Ent} (h : MemR B W L) (k : Nat) {g e : Nat} {vs : List Value} {ex : Bool} (hk : L[k]? = some ⟨g, e, vs, ex⟩) : g < W.heap.size := (h.at k hk).lt
theorem MemR.gbase {B : Nat} {W : World} {L : List Ent} (h : MemR B W L) (k : Nat) {g e : Nat} {vs : List Value} {ex : Bool} (hk : L[k]? = some ⟨g, e, vs, ex⟩) : B ≤ g := h.base _ (List.mem_of_getElem? hk)
theorem MemR.upd {B : Nat} {W W' : World} {L : List Ent} (h : MemR B W L) (k : Nat) {x y : Ent} (hk : L[k]? = some x) (hg : y.g = x.g) (ht : Touch [x.g] W W') (hy : RowX W' y) : MemR B W' (L.set k y) := by
  have hx := List.mem_of_getElem? hk
  have hkl : k < L.length := (List.getElem?_eq_some_iff.1 hk).1
  have hmap : (L.set k y).map Ent.g = L.map Ent.g := by
    rw [List.map_set]
    apply List.ext_getElem?
    intro i
    rw [List.getElem?_set]
    split
    · rename_i e
      subst e
      simp [hkl, hg]
      have := (List.getElem?_eq_some_iff.1 hk).2
      rw [this]
    · rfl
  refine ⟨fun z hz => ?_, fun z hz => ?_, by rw [hmap]; exact h.nd, Nat.le_trans h.size ht.size⟩
  · obtain ⟨j, hj, rfl⟩ := List.mem_iff_getElem.1 hz
    rw [List.getElem_set] at hz ⊢
    split
    · exact hy
    · rename_i hne
      have hj' : j < L.length := by simpa using hj
      refine (h.rows _ (List.getElem_mem hj')).keep (ht.block _ (h.lt _ (List.getElem_mem hj')) ?_)
      simp
      intro e
      have e1 : (L.map Ent.g)[j]'(by simpa using hj') = (L.map Ent.g)[k]'(by simpa using hkl) := by
        simp [e, (List.getElem?_eq_some_iff.1 hk).2]
      exact hne (((List.getElem_inj h.nd).1 e1).symm)
  · obtain ⟨j, hj, rfl⟩ := List.mem_iff_getElem.1 hz
    rw [List.getElem_set]
    split
    · rw [hg]; exact h.base x hx
    · exact h.base _ (List.getElem_mem _)
theorem MemR.set {B : Nat} {W : World} {L : List Ent} (h : MemR B W L) (k i : Nat) (v : Value) {g e : Nat} {vs : List Value} {ex : Bool} (hk : L[k]? = some ⟨g, e, vs, ex⟩) (hi : i < vs.length) : MemR B (W.setCell ⟨g, i, none⟩ v) (L.set k ⟨g, e, vs.set i v, ex⟩) := by
  refine h.upd k hk rfl (Touch.setCell _ (by simp) _) ?_
  obtain ⟨xs, h1, more, h2, h3⟩ := h.rows _ (List.mem_of_getElem? hk)
  dsimp only at h1 h2 h3
  refine ⟨_, heap_setCell_same W g i xs e v h1, more, ?_, h3⟩
  dsimp only
  rw [Array.toList_setIfInBounds, h2, List.set_append_left _ _ hi]

/-- Newer blocks do not matter. -/
theorem Touch.own {X : List Nat} {w W W' : World} (h : Touch X w W) {Y : List Nat} (ht : Touch Y W W') (hY : ∀ k ∈ Y, w.heap.size ≤ k ∨ k ∈ X) : Touch X w W' :=
  ⟨ht.os.trans h.os, ht.tape.trans h.tape, ht.output.trans h.output, Nat.le_trans h.size ht.size, fun k hk hn => (ht.block k (Nat.lt_of_lt_of_le hk h.size) (fun hm => (hY k hm).elim (fun h => by omega) hn)).trans (h.block k hk hn)⟩
theorem Touch.later {X : List Nat} {w W W' : World} (h : Touch X w W) (hb : Below W.heap.size W W') : Touch X w W' := h.trans (Touch.ofBelow hb)

section
variable {P : Program} {B : Nat} {W : World} {ops : Array Oper} {rest : List Oper} {o : Oper} {a : Act} {Q : Exit → Act → World → Prop} {L : List Ent}

theorem wpList_load_r {ty : TypeId} {zs : Array Value} (A : Agg P ty zs) (h : MemR B W L) (k : Nat) {p : Operand} {g e : Nat} {vs : List Value} {ex : Bool}
    (hgd : o.guard = none) (ho : o.op = .load ty p) (hp : a.eval p = .pointer (some ⟨g, 0, none⟩)) (hk : L[k]? = some ⟨g, e, vs, ex⟩) (hs : vs.length = zs.size)
    (hK : wpList P ops Q rest (a.put o.dst (.agg vs.toArray)) W) : wpList P ops Q (o :: rest) a W :=
  wpList_load_part A vs (fun i v hi => by rw [Nat.zero_add]; exact h.cell k i hk hi) hs hgd ho hp hK
theorem wpList_store_r {ty : TypeId} {zs : Array Value} (A : Agg P ty zs) (h : MemR B W L) (k : Nat) {p x : Operand} {g e : Nat} {vs : List Value} {cs : Array Value}
    (hgd : o.guard = none) (ho : o.op = .store ty p x) (hp : a.eval p = .pointer (some ⟨g, 0, none⟩)) (hx : a.eval x = .agg cs) (hk : L[k]? = some ⟨g, e, vs, true⟩) (hs : cs.size = zs.size) (hv : vs.length = cs.size) (h1 : cs.toList.all (·.oneCell') = true)
    (hK : ∀ W', MemR B W' (L.set k ⟨g, e, cs.toList, true⟩) → Touch [g] W W' → wpList P ops Q rest (a.put o.dst undef) W') : wpList P ops Q (o :: rest) a W := by
  refine wpList_store_row A (h.exact k hk) hs (by simpa using hv) (by rw [← Array.all_toList]; exact h1) hgd ho hp hx ?_
  intro W' hg hgr hsz
  have ht : Touch [g] W W' := ⟨hgr.os, hgr.tape, hgr.output, hgr.size, fun j hj hn => hgr.block j hj (fun e => hn (by simp at e; simp [e]))⟩
  exact hK W' (h.upd k hk rfl ht ⟨cs, hg, [], by simp, fun _ => rfl⟩) ht
end

end Go.Proofs.YtebnelihlgdciaaGreat

/- Regions that draw their order, in segments: reading operations that may float are taken as early as they can; all others come one behind the other. One walk serves every order. -/
namespace Go.Proofs.YtebnelihlgdciaaGreat
open Go.RowKit
set_option linter.unusedVariables false

/-- A segment: reading operations that float; or operations one by one (lo: is its last one loose?). -/
inductive Seg where
  | fl (ks : List Nat)
  | sq (ks : List Nat) (lo : Bool)
inductive SegO where
  | fl (os : List Oper)
  | sq (os : List Oper) (lo : Bool)

section
variable {P : Program} {ops : Array Oper} {md : Region.Mode} {C : World → Prop} {Q : Exit → Act → World → Prop}

def picks (l : List Oper) : List Nat → List Oper
  | [] => []
  | k :: ks => match l[k]? with
    | some o => o :: picks l ks
    | none => picks l ks
def segs (l : List Oper) : List Seg → List SegO
  | [] => []
  | .fl ks :: r => .fl (picks l ks) :: segs l r
  | .sq ks lo :: r => .sq (picks l ks) lo :: segs l r

def flFrom (md : Region.Mode) (ops : Array Oper) : List Nat → Array Bool → Bool × Array Bool
  | [], listed => (true, listed)
  | k :: ks, listed => match ops[k]? with
    | none => (false, listed)
    | some o => let r := flFrom md ops ks (listed.setIfInBounds k true)
      (calm o.op && (Region.ready md ops listed).contains k && Region.free md ops listed k && ((List.range ops.size).all fun j => j == k || listed.getD j true || waitsFor md ops ops.size j k || looseOf md ops j) && r.1, r.2)
def sqFrom (md : Region.Mode) (ops : Array Oper) (lo : Bool) : List Nat → Array Bool → Bool × Array Bool
  | [], listed => (true, listed)
  | k :: ks, listed => match ops[k]? with
    | none => (false, listed)
    | some _ => let r := sqFrom md ops lo ks (listed.setIfInBounds k true)
      (Region.ready md ops listed == [k] && (!looseOf md ops k || (lo && ks.isEmpty)) && r.1, r.2)
def segFrom (md : Region.Mode) (ops : Array Oper) : List Seg → Array Bool → Bool
  | [], listed => (Region.ready md ops listed).isEmpty
  | .fl ks :: r, listed => let x := flFrom md ops ks listed; x.1 && segFrom md ops r x.2
  | .sq ks lo :: r, listed => let x := sqFrom md ops lo ks listed; x.1 && segFrom md ops r x.2
def segLen : List Seg → Nat
  | [] => 0
  | .fl ks :: r => segLen r + ks.length
  | .sq ks _ :: r => segLen r + ks.length
def segB (md : Region.Mode) (ops : Array Oper) (is : List Seg) : Bool := Region.noSelect ops && segLen is == ops.size && segFrom md ops is (Array.replicate ops.size false)

/-- The walk. -/
def wpSeg (P : Program) (ops : Array Oper) (C : World → Prop) (Q : Exit → Act → World → Prop) : List SegO → Act → World → Prop
  | [], a, w => Q .normal a w
  | .fl os :: r, a, w => C w ∧ wpQuiet P ops C (fun a' => wpSeg P ops C Q r a' w) os a
  | .sq os lo :: r, a, w => wpList P ops (Exit.then (fun a' w' => (lo = true → C w') ∧ wpSeg P ops C Q r a' w') Q) os a w

theorem fl_ok (hs : Region.noSelect ops = true) (hQ : ∀ c a d v w, Q (.panic c) (a.put d v) w → Q (.panic c) a w) {m : Nat} {R : Act → Prop} {w : World} (hC : C w) : ∀ (ks : List Nat) (listed : Array Bool) (a : Act), Shut md ops listed → (flFrom md ops ks listed).1 = true →
    (∀ a', Shut md ops (flFrom md ops ks listed).2 → R a' → wpAnyF P md ops Q C (looseOf md ops) m (flFrom md ops ks listed).2 a' w) →
    wpQuiet P ops C R (picks ops.toList ks) a → wpAnyF P md ops Q C (looseOf md ops) (m + ks.length) listed a w := by
  intro ks
  induction ks with
  | nil =>
    intro listed a hsh _ hR h
    exact hR a hsh (by simpa [picks, wpQuiet] using h)
  | cons k ks ih =>
    intro listed a hsh hB hR h
    cases hk : ops[k]? with
    | none => simp [flFrom, hk] at hB
    | some o =>
      have e : picks ops.toList (k :: ks) = o :: picks ops.toList ks := by simp [picks, hk]
      rw [e] at h
      simp only [flFrom, hk, Bool.and_eq_true] at hB hR
      obtain ⟨⟨⟨⟨hc, hr⟩, hf⟩, hlo⟩, hB'⟩ := hB
      have hrk : k ∈ Region.ready md ops listed := by simpa using hr
      obtain ⟨v, hy, hK⟩ : ∃ v, Stays P ops C o v a ∧ wpQuiet P ops C R (picks ops.toList ks) (a.put o.dst v) := by
        unfold wpQuiet at h
        by_cases hw : Region.wanted o (yielded ops a.tmps) = true
        · rw [if_pos hw] at h
          obtain ⟨v, h1, h2⟩ := h
          refine ⟨v, .inl ⟨hw, fun x hx => ?_⟩, h2⟩
          have h3 := h1 x hx
          unfold Oper.quietAt at h3
          cases hq : (execOp a.eval o).run P x with
          | ok nx w2 =>
            obtain ⟨u, rfl⟩ := calm_value hc hq
            rw [hq] at h3
            simp only [Oper.quietUpon] at h3
            rw [h3.1, h3.2]
          | halt x' w2 => rw [hq] at h3; simp only [Oper.quietUpon] at h3
        · rw [if_neg hw] at h
          exact ⟨undef, .inr ⟨by simpa using hw, rfl⟩, h⟩
      refine wpAnyF_early (f := ops.size) hk (Region.noSelect_spec hs) hQ (m + ks.length) listed a w ?_ (Region.free_spec hk hf) hrk hsh hy hC (ih _ _ (hsh.set hrk) hB' hR hK)
      intro j oj hj hjk hun
      simp only [List.all_eq_true, List.mem_range, Bool.or_eq_true, beq_iff_eq] at hlo
      rcases hlo j (Array.getElem?_eq_some_iff.1 hj).1 with ((h | h) | h) | h
      · exact absurd h hjk
      · rw [hun] at h; cases h
      · exact .inl h
      · exact .inr h

theorem sq_ok {m : Nat} {lo : Bool} {R : Act → World → Prop} : ∀ (ks : List Nat) (listed : Array Bool) (a : Act) (w : World), Shut md ops listed → (sqFrom md ops lo ks listed).1 = true →
    (∀ a' w', Shut md ops (sqFrom md ops lo ks listed).2 → (lo = true → C w') → R a' w' → wpAnyF P md ops Q C (looseOf md ops) m (sqFrom md ops lo ks listed).2 a' w') →
    wpList P ops (Exit.then (fun a' w' => (lo = true → C w') ∧ R a' w') Q) (picks ops.toList ks) a w → wpAnyF P md ops Q C (looseOf md ops) (m + ks.length) listed a w := by
  intro ks
  induction ks with
  | nil =>
    intro listed a w hsh _ hR h
    have h : (lo = true → C w) ∧ R a w := by simpa [picks, wpList, Exit.then] using h
    exact hR a w hsh h.1 h.2
  | cons k ks ih =>
    intro listed a w hsh hB hR h
    cases hk : ops[k]? with
    | none => simp [sqFrom, hk] at hB
    | some o =>
      have e : picks ops.toList (k :: ks) = o :: picks ops.toList ks := by simp [picks, hk]
      rw [e] at h
      simp only [sqFrom, hk, Bool.and_eq_true, beq_iff_eq] at hB hR
      obtain ⟨⟨hr, hlo⟩, hB'⟩ := hB
      have hrk : k ∈ Region.ready md ops listed := by rw [hr]; simp
      refine ⟨fun h' => (by rw [hr] at h'; cases h'), fun i hi => ?_⟩
      rw [hr] at hi
      obtain rfl : i = k := by simpa using hi
      unfold wpOp
      simp only [hk]
      unfold wpList at h
      have hmono : ∀ a' w', wpList P ops (Exit.then (fun a' w' => (lo = true → C w') ∧ R a' w') Q) (picks ops.toList ks) a' w' →
          (looseOf md ops i = true → C w') ∧ wpAnyF P md ops Q C (looseOf md ops) (m + ks.length) (listed.setIfInBounds i true) a' w' := by
        intro a' w' h'
        refine ⟨fun hl => ?_, ih _ _ _ (hsh.set hrk) hB' hR h'⟩
        simp only [hl, Bool.not_true, Bool.false_or, Bool.and_eq_true, List.isEmpty_iff] at hlo
        obtain ⟨hlo1, rfl⟩ := hlo
        have h' : (lo = true → C w') ∧ R a' w' := by simpa [picks, wpList, Exit.then] using h'
        exact h'.1 hlo1
      by_cases hw : Region.wanted o (yielded ops a.tmps) = true
      · rw [if_pos hw] at h ⊢
        rcases h with h | h
        · refine .inl ?_
          have h := Oper.wp_mono hmono h
          unfold Oper.wp at *
          generalize (execOp a.eval o).run P w = r at *
          cases r with
          | ok n w' => cases n <;> simp only [Oper.upon] at h ⊢ <;> exact h
          | halt x w' => cases x <;> simp only [Oper.upon] at h ⊢ <;> exact h
        · exact .inr h
      · rw [if_neg hw] at h ⊢
        exact hmono _ _ h

theorem seg_ok (hs : Region.noSelect ops = true) (hQ : ∀ c a d v w, Q (.panic c) (a.put d v) w → Q (.panic c) a w) : ∀ (is : List Seg) (listed : Array Bool) (a : Act) (w : World), Shut md ops listed →
    segFrom md ops is listed = true → wpSeg P ops C Q (segs ops.toList is) a w → wpAnyF P md ops Q C (looseOf md ops) (segLen is) listed a w := by
  intro is
  induction is with
  | nil =>
    intro listed a w _ hB h
    exact ⟨by simpa [segFrom] using hB, by simpa [wpSeg, segs] using h⟩
  | cons s is ih =>
    intro listed a w hsh hB h
    cases s with
    | fl ks =>
      simp only [segFrom, Bool.and_eq_true] at hB
      simp only [segs, wpSeg] at h
      exact fl_ok hs hQ h.1 ks listed a hsh hB.1 (fun a' hsh' hR => ih _ a' w hsh' hB.2 hR) h.2
    | sq ks lo =>
      simp only [segFrom, Bool.and_eq_true] at hB
      simp only [segs, wpSeg] at h
      exact sq_ok ks listed a w hsh hB.1 (fun a' w' hsh' _ hR => ih _ a' w' hsh' hB.2 hR) h

/-- One walk serves every order. -/
theorem wp_region_seg {id : Nat} {a : Act} {w : World} {l : List Oper} (is : List Seg) (hm : P.follows .mixedOrders = true) (hB : segB .any l.toArray is = true)
    (hQ : ∀ c a d v w, Q (.panic c) (a.put d v) w → Q (.panic c) a w)
    (h : wpSeg P l.toArray C Q (segs l is) a w.drew) : (Code.region id l.toArray true).wp P Q a w := by
  simp only [segB, Bool.and_eq_true, beq_iff_eq] at hB
  refine wp_region_any hm (wpAny_of_F (C := C) (loose := looseOf .any l.toArray) _ _ _ _ ?_)
  have := seg_ok (md := .any) (C := C) hB.1.1 hQ is (Array.replicate l.toArray.size false) a w.drew (shut_none _) hB.2 h
  rw [hB.1.2] at this
  exact this

theorem wpSeg_fl {os : List Oper} {r : List SegO} {a : Act} {w : World} (hC : C w) (h : wpQuiet P ops C (fun a' => wpSeg P ops C Q r a' w) os a) : wpSeg P ops C Q (.fl os :: r) a w := ⟨hC, h⟩
theorem wpSeg_sq {os : List Oper} {lo : Bool} {r : List SegO} {a : Act} {w : World}
    (h : ∀ K : Act → World → Prop, (∀ a' w', (lo = true → C w') → wpSeg P ops C Q r a' w' → K a' w') → wpList P ops (Exit.then K Q) os a w) : wpSeg P ops C Q (.sq os lo :: r) a w :=
  h _ (fun _ _ h1 h2 => ⟨h1, h2⟩)
theorem wpSeg_nil {a : Act} {w : World} (h : Q .normal a w) : wpSeg P ops C Q [] a w := h
theorem exit_then_self (Q : Exit → Act → World → Prop) : Exit.then (Q .normal) Q = Q := by
  funext e a w
  cases e <;> rfl
/-- The last segment. -/
theorem wpSeg_last {os : List Oper} {a : Act} {w : World} (h : wpList P ops Q os a w) : wpSeg P ops C Q [.sq os false] a w := by
  unfold wpSeg
  have e : (fun a' w' => (false = true → C w') ∧ wpSeg P ops C Q [] a' w') = Q .normal := by
    funext a' w'
    simp [wpSeg]
  rw [e, exit_then_self]
  exact h

end
end Go.Proofs.YtebnelihlgdciaaGreat

/- Regions that draw their order, as a tree: operations that load float, those that look at no memory float without a condition; of two others that may come next either may. -/
namespace Go.Proofs.YtebnelihlgdciaaGreat
open Go.RowKit
set_option linter.unusedVariables false

/-- fl: reading operations; pu: such that look at no memory; sq: one by one; br: either of two. -/
inductive Tr where
  | nil
  | fl (ks : List Nat) (t : Tr)
  | pu (ks : List Nat) (t : Tr)
  | sq (ks : List Nat) (lo : Bool) (t : Tr)
  | br (k1 : Nat) (lo1 : Bool) (t1 : Tr) (k2 : Nat) (lo2 : Bool) (t2 : Tr)
inductive TrO where
  | nil
  | fl (os : List Oper) (t : TrO)
  | pu (os : List Oper) (t : TrO)
  | sq (os : List Oper) (lo : Bool) (t : TrO)
  | br (os1 : List Oper) (lo1 : Bool) (t1 : TrO) (os2 : List Oper) (lo2 : Bool) (t2 : TrO)

def isLoad : Op → Bool
  | .load .. => true
  | _ => false

section
variable {P : Program} {ops : Array Oper} {md : Region.Mode} {C : World → Prop} {Q : Exit → Act → World → Prop}

/-- An operation that looks at no memory may be taken first, whatever else may come ahead of it. -/
theorem wpAnyF_pure {loose : Nat → Bool} {i : Nat} {oi : Oper} {v : Value} (hi : ops[i]? = some oi) (hsel : ∀ (j : Nat) (o : Oper) cs b, ops[j]? = some o → o.op ≠ .select cs b)
    (hQ : ∀ c a d v w, Q (.panic c) (a.put d v) w → Q (.panic c) a w) (hlo : loose i = false) :
    ∀ (fuel : Nat) (listed : Array Bool) (a : Act) (w : World),
      (∀ j oj, ops[j]? = some oj → j ≠ i → listed.getD j true = false → (∀ e ∈ oj.after, Region.binds md e = true → e.on ≠ i) → oi.apart ops oj = true) →
      i ∈ Region.ready md ops listed → Stays P ops (fun _ => True) oi v a →
      wpAnyF P md ops Q C loose fuel (listed.setIfInBounds i true) (a.put oi.dst v) w → wpAnyF P md ops Q C loose (fuel + 1) listed a w := by
  intro fuel
  induction fuel with
  | zero =>
    intro listed a w _ hr hy H
    refine ⟨fun h => (by rw [h] at hr; cases hr), fun j hj => ?_⟩
    by_cases hji : j = i
    · subst hji; exact hy.wpOp hi trivial ⟨fun h => (by rw [hlo] at h; cases h), H⟩
    · have := ready_mono hj hji
      rw [H.1] at this
      cases this
  | succ fuel ih =>
    intro listed a w hfree hr hy H
    refine ⟨fun h => (by rw [h] at hr; cases hr), fun j hj => ?_⟩
    by_cases hji : j = i
    · subst hji; exact hy.wpOp hi trivial ⟨fun h => (by rw [hlo] at h; cases h), H⟩
    · have h1 := H.2 j (ready_mono hj hji)
      obtain ⟨hjun, oj, hoj, hall⟩ := mem_ready.1 hj
      have hiun : listed.getD i false = false := by
        have h0 := (mem_ready.1 hr).1
        rcases Nat.lt_or_ge i listed.size with h' | h'
        · simp [h'] at h0 ⊢; exact h0
        · simp [Array.getElem?_eq_none h']
      have hnot : ∀ e ∈ oj.after, Region.binds md e = true → e.on ≠ i := fun e he hb heq => by
        have h1 := hall e he hb
        rw [heq, hiun] at h1
        cases h1
      have h2 := wpOp_putF (C := fun _ => True) hoj (hfree j oj hoj hji hjun hnot) (fun cs b => hsel i oi cs b hi) (fun cs b => hsel j oj cs b hoj) hQ hy h1
      have hun' : ∀ k, (listed.setIfInBounds j true).getD k true = false → listed.getD k true = false := fun k hun => by
        by_cases hjk : j = k
        · subst hjk; exact hjun
        · rw [getD_set_ne true hjk] at hun; exact hun
      refine wpOp_mono (fun a' w' h3 => ⟨h3.2.1, ih (listed.setIfInBounds j true) a' w' (fun k ok hk hki hun hno => hfree k ok hk hki (hun' k hun) hno) (ready_mono hr (Ne.symm hji)) h3.1 ?_⟩) h2
      rw [Array.setIfInBounds_comm _ _ hji]
      exact h3.2.2

/-- Is there an operation that loads and that may come ahead of j as well as behind it? -/
def looseL (md : Region.Mode) (ops : Array Oper) (j : Nat) : Bool :=
  (List.range ops.size).any fun i => i != j && (match ops[i]? with | some o => isLoad o.op | none => false) && !waitsFor md ops ops.size j i && !waitsFor md ops ops.size i j

def flL (md : Region.Mode) (ops : Array Oper) : List Nat → Array Bool → Bool × Array Bool
  | [], listed => (true, listed)
  | k :: ks, listed => match ops[k]? with
    | none => (false, listed)
    | some o => let r := flL md ops ks (listed.setIfInBounds k true)
      (calm o.op && (Region.ready md ops listed).contains k && Region.free md ops listed k && ((List.range ops.size).all fun j => j == k || listed.getD j true || waitsFor md ops ops.size j k || looseL md ops j) && r.1, r.2)
def puL (md : Region.Mode) (ops : Array Oper) : List Nat → Array Bool → Bool × Array Bool
  | [], listed => (true, listed)
  | k :: ks, listed => match ops[k]? with
    | none => (false, listed)
    | some o => let r := puL md ops ks (listed.setIfInBounds k true)
      (calm o.op && (Region.ready md ops listed).contains k && Region.free md ops listed k && !looseL md ops k && r.1, r.2)
def sqL (md : Region.Mode) (ops : Array Oper) (lo : Bool) : List Nat → Array Bool → Bool × Array Bool
  | [], listed => (true, listed)
  | k :: ks, listed => match ops[k]? with
    | none => (false, listed)
    | some _ => let r := sqL md ops lo ks (listed.setIfInBounds k true)
      (Region.ready md ops listed == [k] && (!looseL md ops k || (lo && ks.isEmpty)) && r.1, r.2)
def trLen : Tr → Nat
  | .nil => 0
  | .fl ks t => trLen t + ks.length
  | .pu ks t => trLen t + ks.length
  | .sq ks _ t => trLen t + ks.length
  | .br _ _ t1 _ _ _ => trLen t1 + 1
def trL (md : Region.Mode) (ops : Array Oper) : Tr → Array Bool → Bool
  | .nil, listed => (Region.ready md ops listed).isEmpty
  | .fl ks t, listed => let x := flL md ops ks listed; x.1 && trL md ops t x.2
  | .pu ks t, listed => let x := puL md ops ks listed; x.1 && trL md ops t x.2
  | .sq ks lo t, listed => let x := sqL md ops lo ks listed; x.1 && trL md ops t x.2
  | .br k1 lo1 t1 k2 lo2 t2, listed => Region.ready md ops listed == [k1, k2] && (!looseL md ops k1 || lo1) && (!looseL md ops k2 || lo2) && trLen t1 == trLen t2 && (ops[k1]?).isSome && (ops[k2]?).isSome &&
      trL md ops t1 (listed.setIfInBounds k1 true) && trL md ops t2 (listed.setIfInBounds k2 true)
def trB (md : Region.Mode) (ops : Array Oper) (t : Tr) : Bool := Region.noSelect ops && trLen t == ops.size && trL md ops t (Array.replicate ops.size false)

def trO (l : List Oper) : Tr → TrO
  | .nil => .nil
  | .fl ks t => .fl (picks l ks) (trO l t)
  | .pu ks t => .pu (picks l ks) (trO l t)
  | .sq ks lo t => .sq (picks l ks) lo (trO l t)
  | .br k1 lo1 t1 k2 lo2 t2 => .br (picks l [k1]) lo1 (trO l t1) (picks l [k2]) lo2 (trO l t2)

/-- The walk. -/
def wpTr (P : Program) (ops : Array Oper) (C : World → Prop) (Q : Exit → Act → World → Prop) : TrO → Act → World → Prop
  | .nil, a, w => Q .normal a w
  | .fl os t, a, w => C w ∧ wpQuiet P ops C (fun a' => wpTr P ops C Q t a' w) os a
  | .pu os t, a, w => wpQuiet P ops (fun _ => True) (fun a' => wpTr P ops C Q t a' w) os a
  | .sq os lo t, a, w => wpList P ops (Exit.then (fun a' w' => (lo = true → C w') ∧ wpTr P ops C Q t a' w') Q) os a w
  | .br os1 lo1 t1 os2 lo2 t2, a, w => wpList P ops (Exit.then (fun a' w' => (lo1 = true → C w') ∧ wpTr P ops C Q t1 a' w') Q) os1 a w ∧ wpList P ops (Exit.then (fun a' w' => (lo2 = true → C w') ∧ wpTr P ops C Q t2 a' w') Q) os2 a w

theorem stays_of {C : World → Prop} {o : Oper} {a : Act} {K : Act → Prop} {ks : List Oper} (hcalm : calm o.op = true) (h : wpQuiet P ops C K (o :: ks) a) : ∃ v, Stays P ops C o v a ∧ wpQuiet P ops C K ks (a.put o.dst v) := by
  simp only [wpQuiet] at h
  by_cases hw : Region.wanted o (yielded ops a.tmps) = true
  · rw [if_pos hw] at h
    obtain ⟨v, h1, h2⟩ := h
    refine ⟨v, .inl ⟨hw, fun x hx => ?_⟩, h2⟩
    have h3 := h1 x hx
    unfold Oper.quietAt at h3
    cases hq : (execOp a.eval o).run P x with
    | ok nx w2 =>
      obtain ⟨u, rfl⟩ := calm_value hcalm hq
      rw [hq] at h3
      simp only [Oper.quietUpon] at h3
      rw [h3.1, h3.2]
    | halt x' w2 => rw [hq] at h3; simp only [Oper.quietUpon] at h3
  · rw [if_neg hw] at h
    exact ⟨undef, .inr ⟨by simpa using hw, rfl⟩, h⟩

theorem flL_ok (hs : Region.noSelect ops = true) (hQ : ∀ c a d v w, Q (.panic c) (a.put d v) w → Q (.panic c) a w) {m : Nat} {R : Act → Prop} {w : World} (hC : C w) : ∀ (ks : List Nat) (listed : Array Bool) (a : Act), Shut md ops listed → (flL md ops ks listed).1 = true →
    (∀ a', Shut md ops (flL md ops ks listed).2 → R a' → wpAnyF P md ops Q C (looseL md ops) m (flL md ops ks listed).2 a' w) →
    wpQuiet P ops C R (picks ops.toList ks) a → wpAnyF P md ops Q C (looseL md ops) (m + ks.length) listed a w := by
  intro ks
  induction ks with
  | nil =>
    intro listed a hsh _ hR h
    exact hR a hsh (by simpa [picks, wpQuiet] using h)
  | cons k ks ih =>
    intro listed a hsh hB hR h
    cases hk : ops[k]? with
    | none => simp [flL, hk] at hB
    | some o =>
      have e : picks ops.toList (k :: ks) = o :: picks ops.toList ks := by simp [picks, hk]
      rw [e] at h
      simp only [flL, hk, Bool.and_eq_true] at hB hR
      obtain ⟨⟨⟨⟨hc, hr⟩, hf⟩, hlo⟩, hB'⟩ := hB
      have hrk : k ∈ Region.ready md ops listed := by simpa using hr
      obtain ⟨v, hy, hK⟩ := stays_of hc h
      refine wpAnyF_early (f := ops.size) hk (Region.noSelect_spec hs) hQ (m + ks.length) listed a w ?_ (Region.free_spec hk hf) hrk hsh hy hC (ih _ _ (hsh.set hrk) hB' hR hK)
      intro j oj hj hjk hun
      simp only [List.all_eq_true, List.mem_range, Bool.or_eq_true, beq_iff_eq] at hlo
      rcases hlo j (Array.getElem?_eq_some_iff.1 hj).1 with ((h | h) | h) | h
      · exact absurd h hjk
      · rw [hun] at h; cases h
      · exact .inl h
      · exact .inr h
theorem puL_ok (hs : Region.noSelect ops = true) (hQ : ∀ c a d v w, Q (.panic c) (a.put d v) w → Q (.panic c) a w) {m : Nat} {R : Act → Prop} {w : World} : ∀ (ks : List Nat) (listed : Array Bool) (a : Act), Shut md ops listed → (puL md ops ks listed).1 = true →
    (∀ a', Shut md ops (puL md ops ks listed).2 → R a' → wpAnyF P md ops Q C (looseL md ops) m (puL md ops ks listed).2 a' w) →
    wpQuiet P ops (fun _ => True) R (picks ops.toList ks) a → wpAnyF P md ops Q C (looseL md ops) (m + ks.length) listed a w := by
  intro ks
  induction ks with
  | nil =>
    intro listed a hsh _ hR h
    exact hR a hsh (by simpa [picks, wpQuiet] using h)
  | cons k ks ih =>
    intro listed a hsh hB hR h
    cases hk : ops[k]? with
    | none => simp [puL, hk] at hB
    | some o =>
      have e : picks ops.toList (k :: ks) = o :: picks ops.toList ks := by simp [picks, hk]
      rw [e] at h
      simp only [puL, hk, Bool.and_eq_true, Bool.not_eq_true'] at hB hR
      obtain ⟨⟨⟨⟨hc, hr⟩, hf⟩, hlo⟩, hB'⟩ := hB
      have hrk : k ∈ Region.ready md ops listed := by simpa using hr
      obtain ⟨v, hy, hK⟩ := stays_of hc h
      exact wpAnyF_pure hk (Region.noSelect_spec hs) hQ hlo (m + ks.length) listed a w (Region.free_spec hk hf) hrk hy (ih _ _ (hsh.set hrk) hB' hR hK)

/-- One operation that comes next. -/
theorem oneL_ok {m : Nat} {lo : Bool} {R : Act → World → Prop} {k : Nat} {o : Oper} (hk : ops[k]? = some o) {L : Array Bool} {a : Act} {w : World} (hlo : looseL md ops k = true → lo = true)
    (hR : ∀ a' w', (lo = true → C w') → R a' w' → wpAnyF P md ops Q C (looseL md ops) m L a' w')
    (h : wpList P ops (Exit.then (fun a' w' => (lo = true → C w') ∧ R a' w') Q) [o] a w) : wpOp P ops Q k (fun a' w' => (looseL md ops k = true → C w') ∧ wpAnyF P md ops Q C (looseL md ops) m L a' w') a w := by
  unfold wpOp
  simp only [hk]
  unfold wpList at h
  have hmono : ∀ a' w', wpList P ops (Exit.then (fun a' w' => (lo = true → C w') ∧ R a' w') Q) [] a' w' → (looseL md ops k = true → C w') ∧ wpAnyF P md ops Q C (looseL md ops) m L a' w' := by
    intro a' w' h'
    have h' : (lo = true → C w') ∧ R a' w' := by simpa [wpList, Exit.then] using h'
    exact ⟨fun hl => h'.1 (hlo hl), hR a' w' h'.1 h'.2⟩
  by_cases hw : Region.wanted o (yielded ops a.tmps) = true
  · rw [if_pos hw] at h ⊢
    rcases h with h | h
    · refine .inl ?_
      have h := Oper.wp_mono hmono h
      unfold Oper.wp at *
      generalize (execOp a.eval o).run P w = r at *
      cases r with
      | ok n w' => cases n <;> simp only [Oper.upon] at h ⊢ <;> exact h
      | halt x w' => cases x <;> simp only [Oper.upon] at h ⊢ <;> exact h
    · exact .inr h
  · rw [if_neg hw] at h ⊢
    exact hmono _ _ h

theorem sqL_ok {m : Nat} {lo : Bool} {R : Act → World → Prop} : ∀ (ks : List Nat) (listed : Array Bool) (a : Act) (w : World), Shut md ops listed → (sqL md ops lo ks listed).1 = true →
    (∀ a' w', Shut md ops (sqL md ops lo ks listed).2 → (lo = true → C w') → R a' w' → wpAnyF P md ops Q C (looseL md ops) m (sqL md ops lo ks listed).2 a' w') →
    wpList P ops (Exit.then (fun a' w' => (lo = true → C w') ∧ R a' w') Q) (picks ops.toList ks) a w → wpAnyF P md ops Q C (looseL md ops) (m + ks.length) listed a w := by
  intro ks
  induction ks with
  | nil =>
    intro listed a w hsh _ hR h
    have h : (lo = true → C w) ∧ R a w := by simpa [picks, wpList, Exit.then] using h
    exact hR a w hsh h.1 h.2
  | cons k ks ih =>
    intro listed a w hsh hB hR h
    cases hk : ops[k]? with
    | none => simp [sqL, hk] at hB
    | some o =>
      have e : picks ops.toList (k :: ks) = o :: picks ops.toList ks := by simp [picks, hk]
      rw [e] at h
      simp only [sqL, hk, Bool.and_eq_true, beq_iff_eq] at hB hR
      obtain ⟨⟨hr, hlo⟩, hB'⟩ := hB
      have hrk : k ∈ Region.ready md ops listed := by rw [hr]; simp
      refine ⟨fun h' => (by rw [hr] at h'; cases h'), fun i hi => ?_⟩
      rw [hr] at hi
      obtain rfl : i = k := by simpa using hi
      unfold wpOp
      simp only [hk]
      unfold wpList at h
      have hmono : ∀ a' w', wpList P ops (Exit.then (fun a' w' => (lo = true → C w') ∧ R a' w') Q) (picks ops.toList ks) a' w' →
          (looseL md ops i = true → C w') ∧ wpAnyF P md ops Q C (looseL md ops) (m + ks.length) (listed.setIfInBounds i true) a' w' := by
        intro a' w' h'
        refine ⟨fun hl => ?_, ih _ _ _ (hsh.set hrk) hB' hR h'⟩
        simp only [hl, Bool.not_true, Bool.false_or, Bool.and_eq_true, List.isEmpty_iff] at hlo
        obtain ⟨hlo1, rfl⟩ := hlo
        have h' : (lo = true → C w') ∧ R a' w' := by simpa [picks, wpList, Exit.then] using h'
        exact h'.1 hlo1
      by_cases hw : Region.wanted o (yielded ops a.tmps) = true
      · rw [if_pos hw] at h ⊢
        rcases h with h | h
        · refine .inl ?_
          have h := Oper.wp_mono hmono h
          unfold Oper.wp at *
          generalize (execOp a.eval o).run P w = r at *
          cases r with
          | ok n w' => cases n <;> simp only [Oper.upon] at h ⊢ <;> exact h
          | halt x w' => cases x <;> simp only [Oper.upon] at h ⊢ <;> exact h
        · exact .inr h
      · rw [if_neg hw] at h ⊢
        exact hmono _ _ h

theorem tr_ok (hs : Region.noSelect ops = true) (hQ : ∀ c a d v w, Q (.panic c) (a.put d v) w → Q (.panic c) a w) : ∀ (t : Tr) (listed : Array Bool) (a : Act) (w : World), Shut md ops listed →
    trL md ops t listed = true → wpTr P ops C Q (trO ops.toList t) a w → wpAnyF P md ops Q C (looseL md ops) (trLen t) listed a w := by
  intro t
  induction t with
  | nil =>
    intro listed a w _ hB h
    exact ⟨by simpa [trL] using hB, by simpa [wpTr, trO] using h⟩
  | fl ks t ih =>
    intro listed a w hsh hB h
    simp only [trL, Bool.and_eq_true] at hB
    simp only [trO, wpTr] at h
    exact flL_ok hs hQ h.1 ks listed a hsh hB.1 (fun a' hsh' hR => ih _ a' w hsh' hB.2 hR) h.2
  | pu ks t ih =>
    intro listed a w hsh hB h
    simp only [trL, Bool.and_eq_true] at hB
    simp only [trO, wpTr] at h
    exact puL_ok hs hQ ks listed a hsh hB.1 (fun a' hsh' hR => ih _ a' w hsh' hB.2 hR) h
  | sq ks lo t ih =>
    intro listed a w hsh hB h
    simp only [trL, Bool.and_eq_true] at hB
    simp only [trO, wpTr] at h
    exact sqL_ok ks listed a w hsh hB.1 (fun a' w' hsh' _ hR => ih _ a' w' hsh' hB.2 hR) h
  | br k1 lo1 t1 k2 lo2 t2 ih1 ih2 =>
    intro listed a w hsh hB h
    simp only [trL, Bool.and_eq_true, beq_iff_eq] at hB
    obtain ⟨⟨⟨⟨⟨⟨⟨hr, hl1⟩, hl2⟩, hlen⟩, ho1⟩, ho2⟩, hB1⟩, hB2⟩ := hB
    obtain ⟨o1, ho1⟩ := Option.isSome_iff_exists.1 ho1
    obtain ⟨o2, ho2⟩ := Option.isSome_iff_exists.1 ho2
    simp only [trO, wpTr] at h
    have e1 : picks ops.toList [k1] = [o1] := by simp [picks, ho1]
    have e2 : picks ops.toList [k2] = [o2] := by simp [picks, ho2]
    rw [e1, e2] at h
    refine ⟨fun h' => (by rw [hr] at h'; cases h'), fun i hi => ?_⟩
    have hri := hi
    rw [hr] at hi
    simp only [List.mem_cons, List.not_mem_nil, or_false] at hi
    rcases hi with rfl | rfl
    · exact oneL_ok ho1 (fun hl => by simpa [hl] using hl1) (fun a' w' _ hR => ih1 _ a' w' (hsh.set hri) hB1 hR) h.1
    · exact oneL_ok ho2 (fun hl => by simpa [hl] using hl2) (fun a' w' _ hR => by have := ih2 _ a' w' (hsh.set hri) hB2 hR; rw [← hlen] at this; exact this) h.2

/-- One walk for each branch serves every order. -/
theorem wp_region_tr {id : Nat} {a : Act} {w : World} {l : List Oper} (t : Tr) (hm : P.follows .mixedOrders = true) (hB : trB .any l.toArray t = true)
    (hQ : ∀ c a d v w, Q (.panic c) (a.put d v) w → Q (.panic c) a w)
    (h : wpTr P l.toArray C Q (trO l t) a w.drew) : (Code.region id l.toArray true).wp P Q a w := by
  simp only [trB, Bool.and_eq_true, beq_iff_eq] at hB
  refine wp_region_any hm (wpAny_of_F (C := C) (loose := looseL .any l.toArray) _ _ _ _ ?_)
  have := tr_ok (md := .any) (C := C) hB.1.1 hQ t (Array.replicate l.toArray.size false) a w.drew (shut_none _) hB.2 h
  rw [hB.1.2] at this
  exact this

theorem wpTr_fl {os : List Oper} {t : TrO} {a : Act} {w : World} (hC : C w) (h : wpQuiet P ops C (fun a' => wpTr P ops C Q t a' w) os a) : wpTr P ops C Q (.fl os t) a w := ⟨hC, h⟩
theorem wpTr_pu {os : List Oper} {t : TrO} {a : Act} {w : World} (h : wpQuiet P ops (fun _ => True) (fun a' => wpTr P ops C Q t a' w) os a) : wpTr P ops C Q (.pu os t) a w := h
theorem wpTr_sq {os : List Oper} {lo : Bool} {t : TrO} {a : Act} {w : World}
    (h : ∀ K : Act → World → Prop, (∀ a' w', (lo = true → C w') → wpTr P ops C Q t a' w' → K a' w') → wpList P ops (Exit.then K Q) os a w) : wpTr P ops C Q (.sq os lo t) a w :=
  h _ (fun _ _ h1 h2 => ⟨h1, h2⟩)
theorem wpTr_br {os1 os2 : List Oper} {lo1 lo2 : Bool} {t1 t2 : TrO} {a : Act} {w : World} (h1 : wpTr P ops C Q (.sq os1 lo1 t1) a w) (h2 : wpTr P ops C Q (.sq os2 lo2 t2) a w) : wpTr P ops C Q (.br os1 lo1 t1 os2 lo2 t2) a w := ⟨h1, h2⟩
theorem wpTr_nil {a : Act} {w : World} (h : Q .normal a w) : wpTr P ops C Q .nil a w := h
/-- The last segment. -/
theorem wpTr_last {os : List Oper} {a : Act} {w : World} (h : wpList P ops Q os a w) : wpTr P ops C Q (.sq os false .nil) a w := by
  unfold wpTr
  have e : (fun a' w' => (false = true → C w') ∧ wpTr P ops C Q .nil a' w') = Q .normal := by
    funext a' w'
    simp [wpTr]
  rw [e, exit_then_self]
  exact h
end

end Go.Proofs.YtebnelihlgdciaaGreat

/- bits: mask, Get, Put. -/
namespace Go.Proofs.YtebnelihlgdciaaGreat
open Go.RowKit
set_option linter.unusedVariables false

theorem pow_lt64 {k : Nat} (h : k < 64) : 2 ^ k < 18446744073709551616 := Nat.pow_lt_pow_right (by decide : 1 < 2) (show k < 64 from h)

set_option maxHeartbeats 400000 in
theorem mask_any (k : Nat) (h0 : 0 < k) (h : k < 64) (w : World) : Calls Tryz.prog 90 #[.int .i64 (k : Int)] w fun e w' => e = .returned (vu64 (2 ^ k - 1)) ∧ w = w' := by
  have hp := pow_lt64 h
  have h1 : 0 < 2 ^ k := Nat.two_pow_pos k
  have e1 : (2 : Int) ^ k = ((2 ^ k : Nat) : Int) := by push_cast; rfl
  have E := Lib.hid e1
  clear e1
  go_enter Tryz.func90, Tryz.ntmps90
  go_wp2_with fail
  go_ret
  refine ⟨ret_int ?_, rfl⟩
  rw [E.out, IntKind.wrap_u64, IntKind.wrap_u64]
  omega

/-- A field. -/
def fieldN (x at_ k : Nat) : Nat := x / 2 ^ at_ % 2 ^ k
theorem fieldN_lt (x a k : Nat) : fieldN x a k < 2 ^ k := Nat.mod_lt _ (Nat.two_pow_pos k)

theorem and_mask (y k : Nat) (hy : y < 18446744073709551616) (h : k < 64) : bits BinOp.and IntKind.u64 (y : Int) ((2 ^ k - 1 : Nat) : Int) = ((y % 2 ^ k : Nat) : Int) := by
  have hp := pow_lt64 h
  rw [u64_and_nat y (2 ^ k - 1) hy (by omega), Nat.and_two_pow_sub_one_eq_mod]

set_option maxHeartbeats 400000 in
theorem get_any (x a k : Nat) (hx : x < 18446744073709551616) (ha : a < 64) (h0 : 0 < k) (h : k < 64) (w : World) :
    Calls Tryz.prog 60 #[vu64 x, .int .i64 (a : Int), .int .i64 (k : Int)] w fun e w' => e = .returned (vu64 (fieldN x a k)) ∧ w = w' := by
  have hy : x / 2 ^ a < 18446744073709551616 := Nat.lt_of_le_of_lt (Nat.div_le_self _ _) hx
  have HY : Hid ((x : Int) / 2 ^ a = ((x / 2 ^ a : Nat) : Int)) := Lib.hid (by push_cast; rfl)
  have HF : Hid (fieldN x a k = x / 2 ^ a % 2 ^ k) := Lib.hid rfl
  have HM := Lib.hid (and_mask _ k hy h)
  obtain ⟨m, hm⟩ : ∃ m, m = 2 ^ k - 1 := ⟨_, rfl⟩
  rw [← hm] at HM
  have HMM := Lib.hid hm
  clear hm
  go_enter Tryz.func60, Tryz.ntmps60
  go_wp2_with fail
  refine (mask_any k h0 h _).mono ?_
  rintro e w1 ⟨rfl, rfl⟩
  rw [← HMM.out]
  go_wp2_with fail
  go_ret
  refine ⟨ret_int ?_, rfl⟩
  rw [HY.out, HM.out, HF.out]

/-- A field above others is set: what was there of it is nought. -/
theorem put_val (x a k n : Nat) (hx : x < 2 ^ a) (hn : n < 2 ^ k) (h : a + k < 64) :
    bits BinOp.or IntKind.u64 (bits BinOp.andNot IntKind.u64 (x : Int) (((2 ^ k - 1) * 2 ^ a : Nat) : Int)) (bits BinOp.and IntKind.u64 ((n * 2 ^ a : Nat) : Int) (((2 ^ k - 1) * 2 ^ a : Nat) : Int)) = ((x + n * 2 ^ a : Nat) : Int) := by
  have p1 := pow_lt64 (show a < 64 by omega)
  have p2 : 2 ^ k * 2 ^ a < 18446744073709551616 := by rw [← Nat.pow_add, Nat.add_comm]; exact pow_lt64 h
  have q1 : n * 2 ^ a ≤ 2 ^ k * 2 ^ a := Nat.mul_le_mul_right _ (by omega)
  have q2 : (2 ^ k - 1) * 2 ^ a ≤ 2 ^ k * 2 ^ a := Nat.mul_le_mul_right _ (by omega)
  have z : x < 18446744073709551616 := by omega
  rw [u64_andNot_nat _ _ z (by omega), u64_and_nat _ _ (by omega) (by omega)]
  have e1 : x &&& (18446744073709551615 - (2 ^ k - 1) * 2 ^ a) = x := by
    apply Nat.eq_of_testBit_eq
    intro i
    have e : 18446744073709551615 - (2 ^ k - 1) * 2 ^ a = 2 ^ 64 - ((2 ^ k - 1) * 2 ^ a + 1) := by omega
    rw [Nat.testBit_and, e, Nat.testBit_two_pow_sub_succ (by omega)]
    by_cases hi : i < a
    · have : ((2 ^ k - 1) * 2 ^ a).testBit i = false := by rw [Nat.mul_comm, Nat.testBit_two_pow_mul]; simp; omega
      rw [this]; simp; omega
    · have : x.testBit i = false := Nat.testBit_lt_two_pow (Nat.lt_of_lt_of_le hx (Nat.pow_le_pow_right (by decide) (by omega)))
      rw [this]; simp
  have e2 : n * 2 ^ a &&& (2 ^ k - 1) * 2 ^ a = n * 2 ^ a := by
    rw [← Nat.shiftLeft_eq, ← Nat.shiftLeft_eq, ← Nat.shiftLeft_and_distrib, Nat.and_two_pow_sub_one_eq_mod, Nat.mod_eq_of_lt hn]
  rw [e1, e2, u64_or_nat _ _ z (by omega)]
  congr 1
  have := Nat.two_pow_add_eq_or_of_lt (i := a) hx n
  rw [Nat.or_comm, Nat.mul_comm n, ← this, Nat.add_comm]

set_option maxHeartbeats 400000 in
theorem put_any (x a k n : Nat) (hx : x < 2 ^ a) (hn : n < 2 ^ k) (h : a + k < 64) (h0 : 0 < k) (w : World) :
    Calls Tryz.prog 91 #[vu64 x, .int .i64 (a : Int), .int .i64 (k : Int), vu64 n] w fun e w' => e = .returned (vu64 (x + n * 2 ^ a)) ∧ w = w' := by
  have hv := put_val x a k n hx hn h
  have p2 : 2 ^ k * 2 ^ a < 18446744073709551616 := by rw [← Nat.pow_add, Nat.add_comm]; exact pow_lt64 h
  have q1 : n * 2 ^ a ≤ 2 ^ k * 2 ^ a := Nat.mul_le_mul_right _ (by omega)
  have q2 : (2 ^ k - 1) * 2 ^ a ≤ 2 ^ k * 2 ^ a := Nat.mul_le_mul_right _ (by omega)
  have z : x < 18446744073709551616 := Nat.lt_trans hx (pow_lt64 (by omega))
  have w1 : IntKind.u64.wrap (((2 ^ k - 1 : Nat) : Int) * 2 ^ a) = (((2 ^ k - 1) * 2 ^ a : Nat) : Int) := by
    rw [show ((2 ^ k - 1 : Nat) : Int) * 2 ^ a = (((2 ^ k - 1) * 2 ^ a : Nat) : Int) by push_cast; rfl, IntKind.wrap_u64]; omega
  have w2 : IntKind.u64.wrap ((n : Int) * 2 ^ a) = ((n * 2 ^ a : Nat) : Int) := by
    rw [show (n : Int) * 2 ^ a = ((n * 2 ^ a : Nat) : Int) by push_cast; rfl, IntKind.wrap_u64]; omega
  obtain ⟨m, hm⟩ : ∃ m, m = 2 ^ k - 1 := ⟨_, rfl⟩
  rw [← hm] at hv w1
  have HM := Lib.hid hm
  have HV := Lib.hid hv
  have W1 := Lib.hid w1
  have W2 := Lib.hid w2
  have ha : a < 64 := by omega
  have hk : k < 64 := by omega
  clear hm hv w1 w2 p2 q1 q2
  go_enter Tryz.func91, Tryz.ntmps91
  go_wp2_with fail
  refine (mask_any k h0 hk _).mono ?_
  rintro e w1 ⟨rfl, rfl⟩
  rw [← HM.out]
  go_wp2_with fail
  go_ret
  refine ⟨ret_int ?_, rfl⟩
  rw [W1.out, W2.out, HV.out]

end Go.Proofs.YtebnelihlgdciaaGreat

/- CRC-32, plainly: bit by bit, and by a table of sixteen. -/
namespace Go.Proofs.YtebnelihlgdciaaGreat
set_option linter.unusedVariables false

def poly : Nat := 3988292384

/-- One bit. -/
def bitN (s : Nat) : Nat := if s % 2 = 1 then (s / 2) ^^^ poly else s / 2

theorem bitN_xor (x y : Nat) : bitN (x ^^^ y) = bitN x ^^^ bitN y := by
  have hd : (x ^^^ y) / 2 = x / 2 ^^^ y / 2 := Nat.xor_div_two
  have hm : (x ^^^ y) % 2 = (x % 2 + y % 2) % 2 := by
    have h := @Nat.xor_mod_two_eq_one x y
    omega
  unfold bitN
  rw [hd, hm]
  rcases Nat.mod_two_eq_zero_or_one x with hx | hx <;> rcases Nat.mod_two_eq_zero_or_one y with hy | hy <;> rw [hx, hy] <;> simp
  · rw [Nat.xor_assoc]
  · rw [Nat.xor_assoc, Nat.xor_assoc, Nat.xor_comm poly]
  · generalize x / 2 = a
    generalize y / 2 = b
    rw [show a ^^^ poly ^^^ (b ^^^ poly) = a ^^^ b ^^^ (poly ^^^ poly) by
      rw [Nat.xor_assoc, Nat.xor_assoc, ← Nat.xor_assoc poly b poly, Nat.xor_comm poly b, Nat.xor_assoc]]
    simp

theorem bitN_two (q : Nat) : bitN (2 * q) = q := by unfold bitN; rw [if_neg (by omega)]; omega

def bit4 (s : Nat) : Nat := bitN (bitN (bitN (bitN s)))
theorem bit4_xor (x y : Nat) : bit4 (x ^^^ y) = bit4 x ^^^ bit4 y := by unfold bit4; rw [bitN_xor, bitN_xor, bitN_xor, bitN_xor]

theorem bit4_up (q : Nat) : bit4 (16 * q) = q := by
  unfold bit4
  rw [show 16 * q = 2 * (2 * (2 * (2 * q))) by omega, bitN_two, bitN_two, bitN_two, bitN_two]

def tableL : List Nat := [0, 498536548, 997073096, 651767980, 1994146192, 1802195444, 1303535960, 1342533948, 3988292384, 4027552580, 3604390888, 3412177804, 2607071920, 2262029012, 2685067896, 3183342108]

theorem bit4_low : ∀ i : Nat, i < 16 → bit4 i = tableL.getD i 0 := by decide

theorem split16 (x : Nat) : x = (16 * (x / 16)) ^^^ (x % 16) := by
  have h : 16 * (x / 16) ||| x % 16 = 16 * (x / 16) + x % 16 := by
    have := Nat.two_pow_add_eq_or_of_lt (i := 4) (b := x % 16) (Nat.mod_lt _ (by decide)) (x / 16)
    simpa using this.symm
  have h2 : 16 * (x / 16) ^^^ x % 16 = 16 * (x / 16) ||| x % 16 := by
    apply Nat.eq_of_testBit_eq
    intro i
    rw [Nat.testBit_xor, Nat.testBit_or]
    by_cases hi : i < 4
    · have : (16 * (x / 16)).testBit i = false := by
        rw [show 16 * (x / 16) = 2 ^ 4 * (x / 16) by rfl, Nat.testBit_two_pow_mul]
        simp; omega
      rw [this]; simp
    · have : (x % 16).testBit i = false := by
        rw [show x % 16 = x % 2 ^ 4 by rfl, Nat.testBit_mod_two_pow]
        simp; omega
      rw [this]; simp
  rw [h2, h]; omega

theorem bit4_eq (x : Nat) : bit4 x = tableL.getD (x % 16) 0 ^^^ (x / 16) := by
  conv => lhs; rw [split16 x]
  rw [bit4_xor, bit4_up, bit4_low _ (Nat.mod_lt _ (by decide)), Nat.xor_comm]

def tabN (i : Nat) : Nat := tableL.getD (i % 16) 0

/-- One nibble, as the program does it: the low four bits of a byte b. -/
def nib (s b : Nat) : Nat := tabN (s % 256 ^^^ b) ^^^ (s / 16)

theorem xor_mod16 (s b : Nat) : (s % 256 ^^^ b) % 16 = (s ^^^ b) % 16 := by
  have h := fun x y => @Nat.xor_mod_two_pow x y 4
  simp only [show (2:Nat) ^ 4 = 16 by rfl] at h
  rw [h, h, Nat.mod_mod_of_dvd _ (by decide : 16 ∣ 256)]

theorem bit4_nib (s b : Nat) : bit4 (s ^^^ b) = nib s b ^^^ (b / 16) := by
  have hd : (s ^^^ b) / 16 = s / 16 ^^^ b / 16 := by
    have := @Nat.xor_div_two_pow s b 4
    simpa using this
  rw [bit4_eq, nib, tabN, xor_mod16, hd, Nat.xor_assoc]

/-- One byte. -/
def byteN (s b : Nat) : Nat := bit4 (bit4 (s ^^^ b))

theorem byteN_nib (s b : Nat) (h : b < 256) : nib (nib s b) (b / 16) = byteN s b := by
  have h0 : b / 16 / 16 = 0 := by omega
  unfold byteN
  rw [bit4_nib, bit4_nib, h0, Nat.xor_zero]

theorem poly_lt : poly < 2 ^ 32 := by decide
theorem bitN_lt (s : Nat) (h : s < 2 ^ 32) : bitN s < 2 ^ 32 := by
  unfold bitN
  split
  · exact Nat.xor_lt_two_pow (by omega) poly_lt
  · omega

theorem bit4_lt (s : Nat) (h : s < 2 ^ 32) : bit4 s < 2 ^ 32 := bitN_lt _ (bitN_lt _ (bitN_lt _ (bitN_lt _ h)))
theorem byteN_lt (s b : Nat) (h : s < 2 ^ 32) (hb : b < 256) : byteN s b < 2 ^ 32 := bit4_lt _ (bit4_lt _ (Nat.xor_lt_two_pow h (by omega)))
theorem tableL_lt (i : Nat) : tableL.getD i 0 < 2 ^ 32 := by
  by_cases h : i < 16
  · have : ∀ i : Nat, i < 16 → tableL.getD i 0 < 2 ^ 32 := by decide
    exact this i h
  · rw [List.getD_eq_getElem?_getD, List.getElem?_eq_none (by show 16 ≤ i; omega)]; decide
theorem nib_lt (s b : Nat) (h : s < 2 ^ 32) : nib s b < 2 ^ 32 := Nat.xor_lt_two_pow (tableL_lt _) (by omega)

theorem not32 (x : Nat) (h : x < 2 ^ 32) : 4294967295 ^^^ x = 4294967295 - x := by
  apply Nat.eq_of_testBit_eq
  intro i
  have e1 : (4294967295 : Nat) = 2 ^ 32 - 1 := by decide
  have e2 : 4294967295 - x = 2 ^ 32 - (x + 1) := by omega
  rw [e2, Nat.testBit_two_pow_sub_succ h, Nat.testBit_xor, e1, Nat.testBit_two_pow_sub_one]
  by_cases hi : i < 32
  · simp [hi]
  · have : x.testBit i = false := Nat.testBit_lt_two_pow (Nat.lt_of_lt_of_le h (Nat.pow_le_pow_right (by decide) (by omega)))
    simp [hi, this]

/-- The sum of bytes behind others. -/
def foldN (s : Nat) (l : List Nat) : Nat := l.foldl byteN s
def moreN (s : Nat) (l : List Nat) : Nat := 4294967295 - foldN (4294967295 - s) l
theorem foldN_lt (l : List Nat) (h : ∀ z ∈ l, z < 256) : ∀ s, s < 2 ^ 32 → foldN s l < 2 ^ 32 := by
  induction l with
  | nil => intro s hs; exact hs
  | cons z l ih => intro s hs; exact ih (fun y hy => h y (by simp [hy])) _ (byteN_lt s z hs (h z (by simp)))
theorem foldN_take (s : Nat) (l : List Nat) (k : Nat) (h : k < l.length) : foldN s (l.take (k + 1)) = byteN (foldN s (l.take k)) (l.getD k 0) := by
  have e : l.getD k 0 = l[k] := by simp [h]
  rw [List.take_succ_eq_append_getElem h, e]
  unfold foldN
  rw [List.foldl_append]; rfl
theorem moreN_lt (s : Nat) (l : List Nat) : moreN s l < 2 ^ 32 := by unfold moreN; omega

end Go.Proofs.YtebnelihlgdciaaGreat

/- crc: its table, its sums. -/
namespace Go.Proofs.YtebnelihlgdciaaGreat
open Go.RowKit
set_option linter.unusedVariables false

abbrev vu32 (n : Nat) : Value := .int .u32 (n : Int)

def tableV : Array Value := (tableL.map vu32).toArray
theorem tableV_at (k : Nat) (h : k < 16) : tableV[k]? = some (vu32 (tableL.getD k 0)) := by
  have hj : k < tableL.length := h
  simp only [tableV, List.getElem?_toArray, List.getElem?_map, List.getElem?_eq_getElem hj, Option.map_some, List.getD_eq_getElem?_getD, Option.getD_some]

set_option maxHeartbeats 400000 in
set_option maxRecDepth 100000 in
theorem table_any (x : Nat) (hx : x < 256) (w : World) : Calls Tryz.prog 133 #[vu8 x] w fun e w' => e = .returned (vu32 (tabN x)) ∧ w = w' := by
  have HV := Lib.hid (tableV_at (x % 16) (Nat.mod_lt _ (by decide)))
  go_enter Tryz.func133, Tryz.ntmps133
  go_wp2_with (refine wpList_index_arr (x % 16) Tryz.underlying193 Tryz.underlying119 rfl (by kernel_rfl) (by omega) (by omega) HV.out rfl rfl rfl rfl ?_)
  go_ret
  exact ⟨ret_int (by rw [tabN, List.getD_eq_getElem?_getD]), rfl⟩

theorem not_val (s : Nat) (h : s < 2 ^ 32) : bits BinOp.xor IntKind.u32 IntKind.u32.max (s : Int) = ((4294967295 - s : Nat) : Int) := by
  have e : IntKind.u32.max = ((4294967295 : Nat) : Int) := by decide
  rw [e, u32_xor_nat _ _ (by decide) h, not32 s h]

theorem nib_val1 (s b : Nat) (h : s < 2 ^ 32) (hb : b < 256) : bits BinOp.xor IntKind.u8 ((s : Int) % 256) (b : Int) = ((s % 256 ^^^ b : Nat) : Int) := by
  rw [show (s : Int) % 256 = ((s % 256 : Nat) : Int) by omega, u8_xor_nat _ _ (Nat.mod_lt _ (by decide)) hb]

theorem nib_val2 (s b : Nat) (h : s < 2 ^ 32) : bits BinOp.xor IntKind.u32 ((tabN (s % 256 ^^^ b) : Nat) : Int) ((s : Int) / 16) = ((nib s b : Nat) : Int) := by
  rw [show (s : Int) / 16 = ((s / 16 : Nat) : Int) by omega, u32_xor_nat _ _ (show tabN _ < 4294967296 from tableL_lt _) (by omega)]; rfl

set_option maxHeartbeats 400000 in
theorem more_any (s : Nat) (hs : s < 2 ^ 32) (a : Option Addr) {n : Nat} (cap : Nat) (zs : List Nat) (hn : zs.length = n) (w : World) (hcs : Cells w a (zs.map vu8)) (hz : ∀ z ∈ zs, z < 256) (hl : zs.length ≤ 1000000) :
    Calls Tryz.prog 130 #[vu32 s, .slice a n cap] w fun e w' => e = .returned (vu32 (moreN s zs)) ∧ w = w' := by
  subst hn
  have HZ := Lib.hid hz
  clear hz
  go_enter Tryz.func130, Tryz.ntmps130
  go_wp2_with fail
  rw [not_val s hs]
  have hs0 : 4294967295 - s < 2 ^ 32 := by omega
  obtain ⟨q, hq⟩ : ∃ q, q = 4294967295 - s := ⟨_, rfl⟩
  rw [← hq] at hs0 ⊢
  have HQ := Lib.hid hq
  clear hq
  go_loop [0, 11] (fun v i => ∃ k : Nat, k ≤ zs.length ∧ i = .int .i64 k ∧ v = vu32 (foldN q (zs.take k))) (fun _ i => zs.length - (intOf i).toNat)
  case atStart => exact ⟨0, Nat.zero_le _, rfl, rfl⟩
  case round =>
    obtain ⟨k, hk, rfl, rfl⟩ := hrel
    by_cases hlt : k < zs.length
    · obtain ⟨b, off, rfl, hbs, hc⟩ := hcs.atMap 0 hlt
      have hcell : w.cell? ⟨b, off + k, none⟩ = some (.int .u8 (zs.getD k 0 : Nat)) := hc k hlt
      have hx := HZ.out (zs.getD k 0) (by simp [hlt])
      have hf := foldN_lt (zs.take k) (fun z hz => HZ.out z (List.mem_of_mem_take hz)) q hs0
      have HS := Lib.hid (foldN_take q zs k hlt)
      clear hc
      generalize zs.getD k 0 = x at *
      generalize foldN q (zs.take k) = s1 at *
      have HB := Lib.hid (byteN_nib s1 x hx)
      have hn1 := nib_lt s1 x hf
      go_wp2_with fail
      rw [nib_val1 s1 x hf hx]
      refine (table_any _ (Nat.xor_lt_two_pow (n := 8) (Nat.mod_lt _ (by decide)) hx) _).mono ?_
      rintro e w1 ⟨rfl, rfl⟩
      go_wp2_with fail
      rw [nib_val2 s1 x hf]
      generalize nib s1 x = s2 at *
      have hx2 : x / 16 < 256 := by omega
      rw [show (x : Int) / 16 = ((x / 16 : Nat) : Int) by omega]
      generalize x / 16 = x2 at *
      go_wp2_with fail
      rw [nib_val1 s2 x2 hn1 hx2]
      refine (table_any _ (Nat.xor_lt_two_pow (n := 8) (Nat.mod_lt _ (by decide)) hx2) _).mono ?_
      rintro e w1 ⟨rfl, rfl⟩
      go_wp2_with fail
      rw [nib_val2 s2 x2 hn1, HB.out, ← HS.out]
      exact ⟨⟨k + 1, by omega, vint (by omega), rfl⟩, by simp [intOf]; omega⟩
    · obtain rfl : k = zs.length := by omega
      rw [List.take_length]
      have hf := foldN_lt zs HZ.out q hs0
      have HM : Hid (moreN s zs = 4294967295 - foldN q zs) := Lib.hid (by rw [HQ.out]; rfl)
      generalize foldN q zs = s1 at *
      go_wp2_with fail
      go_ret
      exact ⟨ret_int (by rw [not_val s1 hf, HM.out]), rfl⟩

set_option maxHeartbeats 400000 in
theorem sum_any (a : Option Addr) {n : Nat} (cap : Nat) (zs : List Nat) (hn : zs.length = n) (w : World) (hcs : Cells w a (zs.map vu8)) (hz : ∀ z ∈ zs, z < 256) (hl : zs.length ≤ 1000000) :
    Calls Tryz.prog 126 #[.slice a n cap] w fun e w' => e = .returned (vu32 (moreN 0 zs)) ∧ w = w' := by
  go_enter Tryz.func126, Tryz.ntmps126
  go_wp2_with fail
  refine (more_any 0 (by decide) a cap zs hn w hcs hz hl).mono ?_
  rintro e w2 ⟨rfl, rfl⟩
  go_wp2_with fail
  go_ret
  exact ⟨rfl, rfl⟩

def wordsN (ws : List Nat) : Nat := moreN 0 (unpack ws)

set_option maxHeartbeats 400000 in
theorem crcWords_any (a : Option Addr) {n : Nat} (cap : Nat) (ws : List Nat) (hn : ws.length = n) (w : World) (h : Cells w a (ws.map vu64)) (hz : ∀ z ∈ ws, z < 18446744073709551616) (hl : ws.length ≤ 1000) :
    Calls Tryz.prog 113 #[.slice a n cap] w fun e w' => e = .returned (vu32 (wordsN ws)) ∧ Below w.heap.size w w' := by
  go_enter Tryz.func113, Tryz.ntmps113
  go_wp2_with fail
  refine (bytes_any a cap ws hn w h hz (by omega)).mono ?_
  rintro e w1 ⟨v, rfl, ho, hb⟩
  obtain ⟨a1, c1, rfl, _, _⟩ := owned_form ho
  have hcs := Cells.owned ho
  have hl1 : (unpack ws).length ≤ 1000000 := by rw [unpack_length]; omega
  have hz1 := unpack_lt ws
  clear ho
  go_wp2_with fail
  refine (sum_any a1 c1 (unpack ws) rfl w1 hcs hz1 hl1).mono ?_
  rintro e w2 ⟨rfl, rfl⟩
  go_wp2_with fail
  go_ret
  exact ⟨rfl, hb⟩

/-- A number below its sum. -/
def sealN (n place : Nat) : Nat := wordsN [n, place] * 4294967296 + n

theorem wordsN_lt (ws : List Nat) : wordsN ws < 4294967296 := moreN_lt _ _

/-- A place, as a word. -/
def pl (p : Int) : Nat := (p % 18446744073709551616).toNat
theorem pl_lt (p : Int) : pl p < 18446744073709551616 := by unfold pl; omega

theorem pl_wrap (p : Int) : IntKind.u64.wrap p = (pl p : Int) := by rw [IntKind.wrap_u64]; unfold pl; omega

theorem seal_val (n : Nat) (h : n < 4294967296) (x : Nat) (hx : x < 4294967296) : bits BinOp.or IntKind.u64 ((x : Int) * 4294967296) (n : Int) = ((x * 4294967296 + n : Nat) : Int) := by
  have e : ((x : Int) * 4294967296) = ((x * 4294967296 : Nat) : Int) := by omega
  rw [e, u64_or_nat _ _ (by omega) (by omega)]
  have := Nat.two_pow_add_eq_or_of_lt (i := 32) (b := n) h x
  congr 1
  rw [Nat.mul_comm x]
  exact this.symm

set_option maxHeartbeats 400000 in
theorem seal_any (n : Nat) (p : Int) (hn : n < 4294967296) (w : World) :
    Calls Tryz.prog 89 #[vu32 n, .int .i64 p] w fun e w' => e = .returned (vu64 (sealN n (pl p))) ∧ Below w.heap.size w w' := by
  go_enter Tryz.func89, Tryz.ntmps89
  go_wp2_with fail
  rw [pl_wrap p]
  have hp := pl_lt p
  obtain ⟨q, hq⟩ : ∃ q, q = pl p := ⟨_, rfl⟩
  rw [← hq] at hp ⊢
  have HQ := Lib.hid hq
  clear hq
  have HS : Hid (sealN n q = wordsN [n, q] * 4294967296 + n) := Lib.hid rfl
  have hb0 := below_alloc w (Obj.cells #[Value.int IntKind.u64 (n : Int), Value.int IntKind.u64 (q : Int)] 77)
  have hc0 : Cells (w.alloc (Obj.cells #[Value.int IntKind.u64 (n : Int), Value.int IntKind.u64 (q : Int)] 77)) (some ⟨w.heap.size, 0, none⟩) ([n, q].map vu64) := by
    refine .inr ⟨_, _, rfl, fun i v hi => ?_⟩
    rw [Nat.zero_add]
    refine cell_alloc_new _ _ _ _ _ ?_
    simpa using hi
  generalize w.alloc (Obj.cells #[Value.int IntKind.u64 (n : Int), Value.int IntKind.u64 (q : Int)] 77) = w0 at *
  refine (crcWords_any _ 2 [n, q] rfl w0 hc0 (by simp; omega) (by simp)).mono ?_
  rintro e w1 ⟨rfl, hb1⟩
  have hb := hb0.trans (hb1.mono hb0.size)
  have hw := wordsN_lt [n, q]
  generalize wordsN [n, q] = x at *
  clear hb0 hb1 hc0
  go_wp2_with fail
  go_ret
  exact ⟨ret_int (by rw [seal_val n hn x hw, ← HQ.out, HS.out]), hb⟩

theorem sealN_mod (n q : Nat) (h : n < 4294967296) : sealN n q % 4294967296 = n := by unfold sealN; omega
theorem sealN_lt (n q : Nat) (h : n < 4294967296) : sealN n q < 18446744073709551616 := by have := wordsN_lt [n, q]; unfold sealN; omega

/-- The number of a sealed word. -/
def openN (x q : Nat) : Option Nat := if sealN (x % 4294967296) q = x then some (x % 4294967296) else none

/-- What crc.Open answers. -/
def openV : Option Nat → Value
  | some n => .tuple #[vu32 n, .bool true]
  | none => .tuple #[vu32 0, .bool false]

set_option maxHeartbeats 400000 in
theorem open_any (x : Nat) (p : Int) (hx : x < 18446744073709551616) (w : World) :
    Calls Tryz.prog 59 #[vu64 x, .int .i64 p] w fun e w' => e = .returned (openV (openN x (pl p))) ∧ Below w.heap.size w w' := by
  go_enter Tryz.func59, Tryz.ntmps59
  go_wp2_with fail
  rw [show (x : Int) % 4294967296 = ((x % 4294967296 : Nat) : Int) by omega]
  have hn : x % 4294967296 < 4294967296 := Nat.mod_lt _ (by decide)
  have HO : Hid (openN x (pl p) = if sealN (x % 4294967296) (pl p) = x then some (x % 4294967296) else none) := Lib.hid rfl
  generalize x % 4294967296 = n at *
  refine (seal_any n p hn w).mono ?_
  rintro e w1 ⟨rfl, hb⟩
  have hs := sealN_lt n (pl p) hn
  generalize sealN n (pl p) = y at *
  by_cases he : y = x
  · have HV : Hid (openV (openN x (pl p)) = .tuple #[vu32 n, .bool true]) := Lib.hid (by rw [HO.out, if_pos he]; rfl)
    subst he
    go_wp2_with fail
    go_ret2
    exact ⟨by rw [HV.out]; rfl, hb⟩
  · have HV : Hid (openV (openN x (pl p)) = .tuple #[vu32 0, .bool false]) := Lib.hid (by rw [HO.out, if_neg he]; rfl)
    have he' : ¬ ((y : Int) = (x : Int)) := by omega
    clear he
    go_wp2_with fail
    go_ret2
    exact ⟨by rw [HV.out]; rfl, hb⟩

end Go.Proofs.YtebnelihlgdciaaGreat

/- The reference's crc. -/
namespace Go.Proofs.YtebnelihlgdciaaGreat
open Go.RowKit
set_option linter.unusedVariables false

def itN : Nat → Nat → Nat
  | 0, x => x
  | t + 1, x => bitN (itN t x)
theorem itN_eight (s b : Nat) : itN 8 (s ^^^ b) = byteN s b := rfl
theorem itN_lt (t x : Nat) (h : x < 2 ^ 32) : itN t x < 2 ^ 32 := by
  induction t with
  | zero => exact h
  | succ t ih => exact bitN_lt _ ih

theorem bit_odd (s : Nat) (h : s < 2 ^ 32) : bits BinOp.xor IntKind.u32 ((s / 2 : Nat) : Int) 3988292384 = ((s / 2 ^^^ poly : Nat) : Int) :=
  u32_xor_nat (s / 2) 3988292384 (by omega) (by decide)

set_option maxHeartbeats 400000 in
theorem rmore_any (s : Nat) (hs : s < 2 ^ 32) (a : Option Addr) {n : Nat} (cap : Nat) (zs : List Nat) (hn : zs.length = n) (w : World) (hcs : Cells w a (zs.map vu8)) (hz : ∀ z ∈ zs, z < 256) (hl : zs.length ≤ 1000000) :
    Calls Tryz.prog 131 #[vu32 s, .slice a n cap] w fun e w' => e = .returned (vu32 (moreN s zs)) ∧ w = w' := by
  subst hn
  have HZ := Lib.hid hz
  clear hz
  go_enter Tryz.func131, Tryz.ntmps131
  go_wp2_with fail
  have hs0 : 4294967295 - s < 2 ^ 32 := by omega
  rw [show (4294967295 : Int) - (s : Int) = ((4294967295 - s : Nat) : Int) by omega]
  obtain ⟨q, hq⟩ : ∃ q, q = 4294967295 - s := ⟨_, rfl⟩
  rw [← hq] at hs0 ⊢
  have HQ := Lib.hid hq
  clear hq
  go_loop [5, 6] (fun v i => ∃ k : Nat, k ≤ zs.length ∧ i = .int .i64 k ∧ v = vu32 (foldN q (zs.take k))) (fun _ i => zs.length - (intOf i).toNat)
  case atStart => exact ⟨0, Nat.zero_le _, rfl, rfl⟩
  case round =>
    obtain ⟨k, hk, rfl, rfl⟩ := hrel
    by_cases hlt : k < zs.length
    · obtain ⟨b, off, rfl, hbs, hc⟩ := hcs.atMap 0 hlt
      have hcell : w.cell? ⟨b, off + k, none⟩ = some (.int .u8 (zs.getD k 0 : Nat)) := hc k hlt
      have hx := HZ.out (zs.getD k 0) (by simp [hlt])
      have hf := foldN_lt (zs.take k) (fun z hz => HZ.out z (List.mem_of_mem_take hz)) q hs0
      have HS := Lib.hid (foldN_take q zs k hlt)
      clear hc
      generalize zs.getD k 0 = x at *
      generalize foldN q (zs.take k) = s1 at *
      have hy : s1 ^^^ x < 2 ^ 32 := Nat.xor_lt_two_pow hf (by omega)
      have HE := Lib.hid (itN_eight s1 x)
      go_wp2_with fail
      rw [u32_xor_nat s1 x hf (by omega)]
      generalize s1 ^^^ x = y at *
      go_loop [5, 7] (fun v i => ∃ t : Nat, t ≤ 8 ∧ i = .int .i64 t ∧ v = vu32 (itN t y)) (fun _ i => 8 - (intOf i).toNat)
      case atStart => exact ⟨0, Nat.zero_le _, rfl, rfl⟩
      case round =>
        obtain ⟨t, ht, rfl, rfl⟩ := hrel
        by_cases hlt8 : t < 8
        · have hz := itN_lt t y hy
          have HI : Hid (itN (t + 1) y = bitN (itN t y)) := Lib.hid rfl
          generalize itN t y = z at *
          by_cases hm : z % 2 = 1
          · have HB : Hid (bitN z = (z / 2) ^^^ poly) := Lib.hid (by unfold bitN; rw [if_pos hm])
            have HX := Lib.hid (bit_odd z hz)
            have hm' : (z : Int) % 2 = 1 := by omega
            clear hm
            go_wp2_with fail
            refine ⟨⟨t + 1, by omega, vint (by omega), ?_⟩, by simp [intOf]; omega⟩
            rw [HI.out, HB.out]
            exact vint HX.out
          · have HB : Hid (bitN z = z / 2) := Lib.hid (by unfold bitN; rw [if_neg hm])
            have hm' : (z : Int) % 2 = 0 := by omega
            clear hm
            go_wp2_with fail
            refine ⟨⟨t + 1, by omega, vint (by omega), ?_⟩, by simp [intOf]; omega⟩
            rw [HI.out, HB.out]
            exact vint (by omega)
        · obtain rfl : t = 8 := by omega
          go_wp2_with fail
          refine ⟨⟨k + 1, by omega, vint (by omega), ?_⟩, by simp [intOf]; omega⟩
          rw [HS.out, HE.out]
    · obtain rfl : k = zs.length := by omega
      rw [List.take_length]
      have hf := foldN_lt zs HZ.out q hs0
      have HM : Hid (moreN s zs = 4294967295 - foldN q zs) := Lib.hid (by rw [HQ.out]; rfl)
      generalize foldN q zs = s1 at *
      go_wp2_with fail
      go_ret
      exact ⟨ret_int (by rw [HM.out]; omega), rfl⟩

set_option maxHeartbeats 400000 in
theorem rcrcWords_any (a : Option Addr) {n : Nat} (cap : Nat) (ws : List Nat) (hn : ws.length = n) (w : World) (h : Cells w a (ws.map vu64)) (hz : ∀ z ∈ ws, z < 18446744073709551616) (hl : ws.length ≤ 1000) :
    Calls Tryz.prog 128 #[.slice a n cap] w fun e w' => e = .returned (vu32 (wordsN ws)) ∧ Below w.heap.size w w' := by
  go_enter Tryz.func128, Tryz.ntmps128
  go_wp2_with fail
  refine (rbytes_any a cap ws hn w h hz (by omega)).mono ?_
  rintro e w1 ⟨v, rfl, ho, hb⟩
  obtain ⟨a1, c1, rfl, _, _⟩ := owned_form ho
  have hcs := Cells.owned ho
  have hl1 : (unpack ws).length ≤ 1000000 := by rw [unpack_length]; omega
  have hz1 := unpack_lt ws
  clear ho
  go_wp2_with fail
  refine (rmore_any 0 (by decide) a1 c1 (unpack ws) rfl w1 hcs hz1 hl1).mono ?_
  rintro e w2 ⟨rfl, rfl⟩
  go_wp2_with fail
  go_ret
  exact ⟨rfl, hb⟩

set_option maxHeartbeats 400000 in
theorem rseal_any (n : Nat) (p : Int) (hn : n < 4294967296) (w : World) :
    Calls Tryz.prog 115 #[vu32 n, .int .i64 p] w fun e w' => e = .returned (vu64 (sealN n (pl p))) ∧ Below w.heap.size w w' := by
  go_enter Tryz.func115, Tryz.ntmps115
  go_wp2_with fail
  rw [pl_wrap p]
  have hp := pl_lt p
  obtain ⟨q, hq⟩ : ∃ q, q = pl p := ⟨_, rfl⟩
  rw [← hq] at hp ⊢
  have HQ := Lib.hid hq
  clear hq
  have HS : Hid (sealN n q = wordsN [n, q] * 4294967296 + n) := Lib.hid rfl
  have hb0 := below_alloc w (Obj.cells #[Value.int IntKind.u64 (n : Int), Value.int IntKind.u64 (q : Int)] 77)
  have hc0 : Cells (w.alloc (Obj.cells #[Value.int IntKind.u64 (n : Int), Value.int IntKind.u64 (q : Int)] 77)) (some ⟨w.heap.size, 0, none⟩) ([n, q].map vu64) := by
    refine .inr ⟨_, _, rfl, fun i v hi => ?_⟩
    rw [Nat.zero_add]
    refine cell_alloc_new _ _ _ _ _ ?_
    simpa using hi
  generalize w.alloc (Obj.cells #[Value.int IntKind.u64 (n : Int), Value.int IntKind.u64 (q : Int)] 77) = w0 at *
  refine (rcrcWords_any _ 2 [n, q] rfl w0 hc0 (by simp; omega) (by simp)).mono ?_
  rintro e w1 ⟨rfl, hb1⟩
  have hb := hb0.trans (hb1.mono hb0.size)
  have hw := wordsN_lt [n, q]
  generalize wordsN [n, q] = x at *
  clear hb0 hb1 hc0
  go_wp2_with fail
  go_ret
  exact ⟨ret_int (by rw [← HQ.out, HS.out]; omega), hb⟩

set_option maxHeartbeats 400000 in
theorem ropen_any (x : Nat) (p : Int) (hx : x < 18446744073709551616) (w : World) :
    Calls Tryz.prog 98 #[vu64 x, .int .i64 p] w fun e w' => e = .returned (openV (openN x (pl p))) ∧ Below w.heap.size w w' := by
  go_enter Tryz.func98, Tryz.ntmps98
  go_wp2_with fail
  rw [show (x : Int) % 4294967296 = ((x % 4294967296 : Nat) : Int) by omega]
  have hn : x % 4294967296 < 4294967296 := Nat.mod_lt _ (by decide)
  have HO : Hid (openN x (pl p) = if sealN (x % 4294967296) (pl p) = x then some (x % 4294967296) else none) := Lib.hid rfl
  generalize x % 4294967296 = n at *
  refine (rseal_any n p hn w).mono ?_
  rintro e w1 ⟨rfl, hb⟩
  have hs := sealN_lt n (pl p) hn
  generalize sealN n (pl p) = y at *
  by_cases he : y = x
  · have HV : Hid (openV (openN x (pl p)) = .tuple #[vu32 n, .bool true]) := Lib.hid (by rw [HO.out, if_pos he]; rfl)
    subst he
    go_wp2_with fail
    go_ret2
    exact ⟨by rw [HV.out]; rfl, hb⟩
  · have HV : Hid (openV (openN x (pl p)) = .tuple #[vu32 0, .bool false]) := Lib.hid (by rw [HO.out, if_neg he]; rfl)
    have he' : ¬ ((y : Int) = (x : Int)) := by omega
    clear he
    go_wp2_with fail
    go_ret2
    exact ⟨by rw [HV.out]; rfl, hb⟩

end Go.Proofs.YtebnelihlgdciaaGreat

/- Headers of blocks: their words; the reference's. -/
namespace Go.Proofs.YtebnelihlgdciaaGreat
open Go.RowKit
set_option linter.unusedVariables false

/-- May a header be? -/
def HdRight (k c l : Int) : Prop := (k = 0 ∧ c = 0 ∧ l = 0) ∨ (k = 1 ∧ (0 ≤ c ∧ c < 32) ∧ l = 0) ∨ ((k = 2 ∨ k = 3) ∧ c = 0 ∧ 1 ≤ l ∧ l < 256)
instance (k c l : Int) : Decidable (HdRight k c l) := by unfold HdRight; infer_instance
def hdRight (k c l : Int) : Bool := decide (HdRight k c l)

abbrev vhd (k c l : Int) : Value := .agg #[.int .i64 k, .int .i64 c, .int .i64 l]

theorem hdR_t {k c l : Int} (h : HdRight k c l) : true = hdRight k c l := (decide_eq_true h).symm
theorem hdR_f {k c l : Int} (h : ¬ HdRight k c l) : false = hdRight k c l := (decide_eq_false h).symm

set_option maxHeartbeats 1000000 in
theorem bright_any (k c l : Int) (w : World) : Calls Tryz.prog 42 #[vhd k c l] w fun e w' => e = .returned (.bool (hdRight k c l)) ∧ Below w.heap.size w w' := by
  have HB := Lib.hid (below_alloc w)
  by_cases h1 : k = 1
  · subst h1
    have HR : Hid (hdRight 1 c l = (decide (0 ≤ c ∧ c < 32) && decide (l = 0))) := Lib.hid (by unfold hdRight HdRight; simp)
    go_enter Tryz.func42, Tryz.ntmps42
    go_wp2_with fail
    refine (cright_any _ _).mono ?_
    rintro e w1 ⟨rfl, rfl⟩
    by_cases hc : 0 ≤ c ∧ c < 32
    · rw [decide_eq_true hc] at HR ⊢
      clear hc
      go_wp2_with fail
      all_goals
        go_ret
        exact ⟨ret_bool (by rw [HR.out]; rw [Bool.eq_iff_iff]; simp [*]), HB.out _⟩
    · rw [decide_eq_false hc] at HR ⊢
      clear hc
      go_wp2_with fail
      all_goals
        go_ret
        exact ⟨ret_bool (by rw [HR.out]; rw [Bool.eq_iff_iff]; simp [*]), HB.out _⟩
  go_enter Tryz.func42, Tryz.ntmps42
  go_wp2_with fail
  all_goals
    go_ret
    refine ⟨ret_bool ?_, HB.out _⟩
    clear HB
    simp only [beq_iff_eq, beq_eq_false_iff_ne] at *
    first
      | exact hdR_t (by unfold HdRight; omega)
      | exact hdR_f (by unfold HdRight; omega)
      | (by_cases hl : l < 256
         · exact (decide_eq_true hl).trans (hdR_t (by unfold HdRight; omega))
         · exact (decide_eq_false hl).trans (hdR_f (by unfold HdRight; omega)))

/-- A header's number; its word. -/
def hdN (k c l : Int) : Nat := (k + 4 * c + 256 * l).toNat
def encN (b k c l : Int) : Nat := if hdRight k c l = true then sealN (hdN k c l) (pl (256 + b)) else 0

theorem hd_small {k c l : Int} (h : hdRight k c l = true) : (0 ≤ k ∧ k < 4) ∧ (0 ≤ c ∧ c < 64) ∧ (0 ≤ l ∧ l < 65536) := by
  have := of_decide_eq_true h
  unfold HdRight at this
  omega

theorem hdN_lt {k c l : Int} (h : hdRight k c l = true) : hdN k c l < 4294967296 := by
  have := hd_small h
  unfold hdN
  omega

theorem encN_lt (b k c l : Int) : encN b k c l < 18446744073709551616 := by
  unfold encN
  split
  · rename_i h; exact sealN_lt _ _ (hdN_lt h)
  · decide

set_option maxHeartbeats 1000000 in
theorem bencode_any (b k c l : Int) (hb0 : 0 ≤ b) (hb1 : b ≤ 1000000) (w : World) : Calls Tryz.prog 61 #[.int .i64 b, vhd k c l] w fun e w' => e = .returned (vu64 (encN b k c l)) ∧ Below w.heap.size w w' := by
  have hb := below_alloc w (Obj.cells #[Value.int .i64 k, Value.int .i64 c, Value.int .i64 l] 58)
  have hg := heap_alloc_new w (Obj.cells #[Value.int .i64 k, Value.int .i64 c, Value.int .i64 l] 58)
  go_enter Tryz.func61, Tryz.ntmps61
  go_wp2_with fail
  generalize w.alloc (Obj.cells #[Value.int .i64 k, Value.int .i64 c, Value.int .i64 l] 58) = w0 at *
  refine (bright_any k c l w0).mono ?_
  rintro e w1 ⟨rfl, hb1⟩
  have hgl : w.heap.size < w0.heap.size := (Array.getElem?_eq_some_iff.1 hg).1
  have hbb := hb.trans (hb1.mono hb.size)
  have hg1 : w1.heap[w.heap.size]? = _ := (hb1.block _ hgl).trans hg
  have c0 : w1.cell? ⟨w.heap.size, 0, none⟩ = some (.int .i64 k) := cell_of_row _ _ 0 _ _ _ hg1
  have c1 : w1.cell? ⟨w.heap.size, 1, none⟩ = some (.int .i64 c) := cell_of_row _ _ 1 _ _ _ hg1
  have c2 : w1.cell? ⟨w.heap.size, 2, none⟩ = some (.int .i64 l) := cell_of_row _ _ 2 _ _ _ hg1
  clear hb hb1 hg hgl hg1
  cases hr : hdRight k c l
  · have HE : Hid (encN b k c l = 0) := Lib.hid (by unfold encN; rw [hr]; rfl)
    clear hr
    go_wp2_with fail
    go_ret
    exact ⟨ret_int (by rw [HE.out]; rfl), hbb⟩
  · have HE : Hid (encN b k c l = sealN (hdN k c l) (pl (256 + b))) := Lib.hid (by unfold encN; rw [hr]; rfl)
    have hn := hdN_lt hr
    obtain ⟨⟨k0, k1⟩, ⟨c0', c1'⟩, l0, l1⟩ := hd_small hr
    have HN : Hid (hdN k c l = (k.toNat + c.toNat * 4 + l.toNat * 256)) := Lib.hid (by unfold hdN; omega)
    clear hr
    obtain ⟨k, rfl⟩ := Int.eq_ofNat_of_zero_le k0
    obtain ⟨c, rfl⟩ := Int.eq_ofNat_of_zero_le c0'
    obtain ⟨l, rfl⟩ := Int.eq_ofNat_of_zero_le l0
    simp only [Int.toNat_natCast] at HN
    have P0 : Hid (Calls Tryz.prog 91 #[vu64 0, .int .i64 0, .int .i64 2, vu64 k] w1 fun e w' => e = .returned (vu64 k) ∧ w1 = w') := Lib.hid (by have := put_any 0 0 2 k (by decide) (by omega) (by decide) (by decide) w1; simpa using this)
    have P1 : Hid (Calls Tryz.prog 91 #[vu64 k, .int .i64 2, .int .i64 6, vu64 c] w1 fun e w' => e = .returned (vu64 (k + c * 4)) ∧ w1 = w') := Lib.hid (put_any k 2 6 c (by omega) (by omega) (by decide) (by decide) w1)
    have P2 : Hid (Calls Tryz.prog 91 #[vu64 (k + c * 4), .int .i64 8, .int .i64 16, vu64 l] w1 fun e w' => e = .returned (vu64 (k + c * 4 + l * 256)) ∧ w1 = w') := Lib.hid (put_any (k + c * 4) 8 16 l (by omega) (by omega) (by decide) (by decide) w1)
    go_wp2_with fail
    refine P0.out.mono ?_
    rintro e w2 ⟨rfl, rfl⟩
    go_wp2_with fail
    refine P1.out.mono ?_
    rintro e w2 ⟨rfl, rfl⟩
    go_wp2_with fail
    refine P2.out.mono ?_
    rintro e w2 ⟨rfl, rfl⟩
    rw [← HN.out]
    generalize hdN (k : Int) (c : Int) (l : Int) = n at *
    clear P0 P1 P2
    go_wp2_with fail
    refine (seal_any n _ hn _).mono ?_
    rintro e w2 ⟨rfl, hb2⟩
    rw [← HE.out]
    go_wp2_with fail
    go_ret
    exact ⟨rfl, hbb.trans (hb2.mono hbb.size)⟩

end Go.Proofs.YtebnelihlgdciaaGreat

/- Headers of blocks: decoded. -/
namespace Go.Proofs.YtebnelihlgdciaaGreat
open Go.RowKit
set_option linter.unusedVariables false

/-- Two results: a struct or an array in a block of its own, and a slot. -/
theorem results_cell_row2 {P : Program} {fn : Func} {p u : Tmp} {ty : TypeId} (h : fn.results = #[.cell p ty, .tmp u]) (tmps : Array Value) (w : World) (g : Nat) (t : TypeId) (cs : Array Value) (fr : Nat × Nat) (d : TypeDesc)
    (hp : tmps.getD p undef = .pointer (some ⟨g, 0, none⟩)) (hg : w.heap[g]? = some (.cells cs t fr))
    (hu : P.underlying ty = some d) (hd : (match d with | .struct _ | .array _ _ => true | _ => false) = true) (hi : (P.info? ty).map (·.size) = some cs.size) :
    (results fn tmps).run P w = .ok (.tuple #[.agg cs, tmps.getD u undef]) w := by
  have hp' : tmps[p]?.getD undef = .pointer (some ⟨g, 0, none⟩) := by simpa using hp
  simp [results, h, hp', asAddr, run_loadVar_row w g t ty cs fr d hg hu hd hi]

theorem aggHd : Agg Tryz.prog 58 #[.int .i64 0, .int .i64 0, .int .i64 0] := ⟨⟨_, Tryz.underlying58, rfl⟩, by kernel_rfl⟩
theorem aggRh : Agg Tryz.prog 113 #[.int .i64 0, .int .i64 0, .int .i64 0] := ⟨⟨_, Tryz.underlying113, rfl⟩, by kernel_rfl⟩

/-- What a word is as a block's header: kind, class, length, the error's number. -/
structure Dec where
  k : Int
  c : Int
  l : Int
  code : Int
/-- Of a sealed number. -/
def decS (b : Int) (x n : Nat) : Dec :=
  if encN b (n % 4 : Nat) (n / 4 % 64 : Nat) (n / 256 % 65536 : Nat) = x then (if hdRight (n % 4 : Nat) (n / 4 % 64 : Nat) (n / 256 % 65536 : Nat) = true then ⟨(n % 4 : Nat), (n / 4 % 64 : Nat), (n / 256 % 65536 : Nat), 0⟩ else ⟨0, 0, 0, 26⟩) else ⟨0, 0, 0, 26⟩
def decN (b : Int) (x : Nat) : Dec := ((openN x (pl (256 + b))).map (decS b x)).getD ⟨0, 0, 0, 25⟩
def Dec.val (d : Dec) : Value := .tuple #[vhd d.k d.c d.l, .int .i64 d.code]

theorem decN_none {b : Int} {x : Nat} (h : openN x (pl (256 + b)) = none) : (decN b x).val = .tuple #[vhd 0 0 0, .int .i64 25] := by unfold decN; rw [h]; rfl
theorem decN_some {b : Int} {x n : Nat} (h : openN x (pl (256 + b)) = some n) : decN b x = decS b x n := by unfold decN; rw [h]; rfl
theorem openN_some {x q n : Nat} (h : openN x q = some n) : n < 4294967296 ∧ n = x % 4294967296 := by
  unfold openN at h
  split at h
  · cases h; exact ⟨Nat.mod_lt _ (by decide), rfl⟩
  · cases h
theorem right_zero : hdRight 0 0 0 = true := by decide
/-- A word that is its header's word: then that one may be. -/
theorem enc_right {b : Int} {x n : Nat} (h : openN x (pl (256 + b)) = some n) (he : encN b (n % 4 : Nat) (n / 4 % 64 : Nat) (n / 256 % 65536 : Nat) = x) : hdRight (n % 4 : Nat) (n / 4 % 64 : Nat) (n / 256 % 65536 : Nat) = true := by
  obtain ⟨h1, h2⟩ := openN_some h
  cases hr : hdRight (n % 4 : Nat) (n / 4 % 64 : Nat) (n / 256 % 65536 : Nat)
  · unfold encN at he
    rw [hr] at he
    simp at he
    subst he
    subst h2
    exact absurd right_zero (by simpa using hr)
  · rfl
theorem decN_ok {b : Int} {x n : Nat} (h : openN x (pl (256 + b)) = some n) (he : encN b (n % 4 : Nat) (n / 4 % 64 : Nat) (n / 256 % 65536 : Nat) = x) :
    (decN b x).val = .tuple #[vhd (n % 4 : Nat) (n / 4 % 64 : Nat) (n / 256 % 65536 : Nat), .int .i64 0] := by
  have hr := enc_right h he
  rw [decN_some h, decS, if_pos he, if_pos hr]; rfl
theorem decN_bad {b : Int} {x n : Nat} (h : openN x (pl (256 + b)) = some n) (he : encN b (n % 4 : Nat) (n / 4 % 64 : Nat) (n / 256 % 65536 : Nat) ≠ x) :
    (decN b x).val = .tuple #[vhd 0 0 0, .int .i64 26] := by
  rw [decN_some h, decS, if_neg he]; rfl

end Go.Proofs.YtebnelihlgdciaaGreat

/- bhead.Decode. -/
namespace Go.Proofs.YtebnelihlgdciaaGreat
open Go.RowKit
set_option linter.unusedVariables false

theorem bits_sum (n : Nat) : n % 4 < 4 ∧ n / 4 % 64 < 64 ∧ n / 256 % 65536 < 65536 := by omega

set_option maxHeartbeats 1000000 in
theorem bdecode_any (b : Int) (x : Nat) (hb0 : 0 ≤ b) (hb1' : b ≤ 1000000) (hx : x < 18446744073709551616) (w : World) :
    Calls Tryz.prog 23 #[.int .i64 b, vu64 x] w fun e w' => e = .returned (decN b x).val ∧ Below w.heap.size w w' := by
  have hbA := below_alloc w (Obj.cells #[Value.int .i64 0, Value.int .i64 0, Value.int .i64 0] 58)
  have hg := heap_alloc_new w (Obj.cells #[Value.int .i64 0, Value.int .i64 0, Value.int .i64 0] 58)
  go_enter Tryz.func23, Tryz.ntmps23
  go_wp2_with fail
  generalize w.alloc (Obj.cells #[Value.int .i64 0, Value.int .i64 0, Value.int .i64 0] 58) = w0 at *
  refine (open_any x _ hx w0).mono ?_
  rintro e w1 ⟨rfl, hbo⟩
  have hgl : w.heap.size < w0.heap.size := (Array.getElem?_eq_some_iff.1 hg).1
  have hbb := hbA.trans (hbo.mono hbA.size)
  have hg1 : w1.heap[w.heap.size]? = _ := (hbo.block _ hgl).trans hg
  clear hbA hbo hg hgl
  cases ho : openN x (pl (256 + b)) with
  | none =>
    have HV := Lib.hid (decN_none ho)
    clear ho
    simp only [openV]
    go_wp2_with (refine wpList_store_row (cs := #[.int .i64 0, .int .i64 0, .int .i64 0]) aggHd hg1 rfl rfl (by simp [Value.oneCell']) rfl rfl rfl rfl ?_; intro w2 hg2 hgr2 hs2)
    refine bodyPost_ret (results_cell_row2 (p := 4) (u := 5) rfl _ _ _ _ _ _ _ rfl hg2 Tryz.underlying58 rfl (by kernel_rfl)) rfl ⟨by rw [HV.out]; rfl, ?_⟩
    exact hbb.grown hgr2 hbb.size (fun k e => by cases e; omega)
  | some n =>
    obtain ⟨hn, -⟩ := openN_some ho
    have HK := Lib.hid (decN_ok ho)
    have HL := Lib.hid (decN_bad ho)
    clear ho
    simp only [openV]
    have G0 : Hid (∀ w, Calls Tryz.prog 60 #[vu64 n, .int .i64 0, .int .i64 2] w fun e w' => e = .returned (vu64 (n % 4)) ∧ w = w') := Lib.hid (fun w => by have := get_any n 0 2 (by omega) (by decide) (by decide) (by decide) w; simpa [fieldN] using this)
    have G1 : Hid (∀ w, Calls Tryz.prog 60 #[vu64 n, .int .i64 2, .int .i64 6] w fun e w' => e = .returned (vu64 (n / 4 % 64)) ∧ w = w') := Lib.hid (fun w => get_any n 2 6 (by omega) (by decide) (by decide) (by decide) w)
    have G2 : Hid (∀ w, Calls Tryz.prog 60 #[vu64 n, .int .i64 8, .int .i64 16] w fun e w' => e = .returned (vu64 (n / 256 % 65536)) ∧ w = w') := Lib.hid (fun w => get_any n 8 16 (by omega) (by decide) (by decide) (by decide) w)
    obtain ⟨h4, h64, h6⟩ := bits_sum n
    generalize n % 4 = k at *
    generalize n / 4 % 64 = c at *
    generalize n / 256 % 65536 = l at *
    go_wp2_with fail
    refine (G0.out _).mono ?_
    rintro e w2 ⟨rfl, rfl⟩
    go_wp2_with fail
    refine (G1.out _).mono ?_
    rintro e w2 ⟨rfl, rfl⟩
    go_wp2_with fail
    refine (G2.out _).mono ?_
    rintro e w2 ⟨rfl, rfl⟩
    clear G0 G1 G2
    go_wp2_with fail
    have hb1 := below_alloc w1 (Obj.cells #[Value.int .i64 (k : Int), Value.int .i64 (c : Int), Value.int .i64 (l : Int)] 58)
    have hg2 := heap_alloc_new w1 (Obj.cells #[Value.int .i64 (k : Int), Value.int .i64 (c : Int), Value.int .i64 (l : Int)] 58)
    generalize w1.alloc (Obj.cells #[Value.int .i64 (k : Int), Value.int .i64 (c : Int), Value.int .i64 (l : Int)] 58) = w2 at *
    refine (bencode_any b k c l hb0 hb1' w2).mono ?_
    rintro e w3 ⟨rfl, hb3⟩
    have hgl : w.heap.size < w1.heap.size := (Array.getElem?_eq_some_iff.1 hg1).1
    have hgl2 : w1.heap.size < w2.heap.size := (Array.getElem?_eq_some_iff.1 hg2).1
    have hb3' := hbb.trans ((hb1.trans (hb3.mono hb1.size)).mono hbb.size)
    have hg3 : w3.heap[w.heap.size]? = _ := (hb3.block _ (by omega)).trans ((hb1.block _ hgl).trans hg1)
    have hg4 : w3.heap[w1.heap.size]? = _ := (hb3.block _ hgl2).trans hg2
    have he := encN_lt b k c l
    clear hb1 hb3 hg1 hg2 hbb
    generalize encN b k c l = y at *
    by_cases hyx : y = x
    · have HV := Lib.hid (HK.out hyx)
      subst hyx
      have d0 : w3.cell? ⟨w1.heap.size, 0, none⟩ = some (.int .i64 k) := cell_of_row _ _ 0 _ _ _ hg4
      have d1 : w3.cell? ⟨w1.heap.size, 1, none⟩ = some (.int .i64 c) := cell_of_row _ _ 1 _ _ _ hg4
      have d2 : w3.cell? ⟨w1.heap.size, 2, none⟩ = some (.int .i64 l) := cell_of_row _ _ 2 _ _ _ hg4
      go_wp2_with (refine wpList_store_row (cs := #[.int .i64 k, .int .i64 c, .int .i64 l]) aggHd hg3 rfl rfl (by simp [Value.oneCell']) rfl rfl rfl rfl ?_; intro w4 hg5 hgr4 hs4)
      refine bodyPost_ret (results_cell_row2 (p := 4) (u := 5) rfl _ _ _ _ _ _ _ rfl hg5 Tryz.underlying58 rfl (by kernel_rfl)) rfl ⟨by rw [HV.out]; rfl, ?_⟩
      exact hb3'.grown hgr4 hb3'.size (fun k e => by cases e; omega)
    · have HV := Lib.hid (HL.out hyx)
      have hne : ¬ ((y : Int) = (x : Int)) := by omega
      clear hyx
      go_wp2_with (refine wpList_store_row (cs := #[.int .i64 0, .int .i64 0, .int .i64 0]) aggHd hg3 rfl rfl (by simp [Value.oneCell']) rfl rfl rfl rfl ?_; intro w4 hg5 hgr4 hs4)
      refine bodyPost_ret (results_cell_row2 (p := 4) (u := 5) rfl _ _ _ _ _ _ _ rfl hg5 Tryz.underlying58 rfl (by kernel_rfl)) rfl ⟨by rw [HV.out]; rfl, ?_⟩
      exact hb3'.grown hgr4 hb3'.size (fun k e => by cases e; omega)

end Go.Proofs.YtebnelihlgdciaaGreat

/- blocks: Read, Open. -/
namespace Go.Proofs.YtebnelihlgdciaaGreat
open Go.RowKit
set_option linter.unusedVariables false

/-- A block's header. -/
structure Hd where
  k : Int
  c : Int
  l : Int
deriving DecidableEq
instance : Inhabited Hd := ⟨⟨0, 0, 0⟩⟩
def Hd.cs (h : Hd) : List Value := [.int .i64 h.k, .int .i64 h.c, .int .i64 h.l]
def hdCs (l : List Hd) : List Value := l.flatMap Hd.cs
theorem hdCs_length (l : List Hd) : (hdCs l).length = 3 * l.length := by
  induction l with
  | nil => rfl
  | cons h l ih => simp only [hdCs, List.flatMap_cons, List.length_append, List.length_cons] at *; rw [ih]; simp [Hd.cs]; omega
theorem hdCs_append (l m : List Hd) : hdCs (l ++ m) = hdCs l ++ hdCs m := by simp [hdCs]
theorem hdCs_at (l : List Hd) (i : Nat) (hi : i < l.length) : ∀ j v, (l.getD i default).cs[j]? = some v → (hdCs l)[i * 3 + j]? = some v := by
  intro j v hj
  have e : l = l.take i ++ (l[i] :: l.drop (i + 1)) := by simp
  have hl : (hdCs (l.take i)).length = i * 3 := by rw [hdCs_length, List.length_take, Nat.min_eq_left (by omega)]; omega
  have hg : l.getD i default = l[i] := by simp [hi]
  rw [hg] at hj
  have hj3 : j < (l[i]).cs.length := (List.getElem?_eq_some_iff.1 hj).1
  rw [e, hdCs_append, List.getElem?_append_right (by omega), hl, show i * 3 + j - i * 3 = j by omega]
  simp only [hdCs, List.flatMap_cons]
  rw [List.getElem?_append_left hj3]
  exact hj
theorem hdCs_one (l : List Hd) : ∀ u ∈ hdCs l, u.oneCell' = true := by
  intro u hu
  simp only [hdCs, List.mem_flatMap, Hd.cs, List.mem_cons, List.not_mem_nil, or_false] at hu
  obtain ⟨h, _, rfl | rfl | rfl⟩ := hu <;> rfl

/-- The header that a word is; of block 0 none. -/
def hdF (f : Nat → Nat) (b : Nat) : Hd := if b = 0 then ⟨0, 0, 0⟩ else ⟨(decN b (f b)).k, (decN b (f b)).c, (decN b (f b)).l⟩
def hds (f : Nat → Nat) (k : Nat) : List Hd := (List.range k).map (hdF f)
theorem hds_length (f : Nat → Nat) (k : Nat) : (hds f k).length = k := by simp [hds]
theorem hds_succ (f : Nat → Nat) (k : Nat) : hds f (k + 1) = hds f k ++ [hdF f k] := by simp [hds, List.range_succ]
def AllOk (f : Nat → Nat) (k : Nat) : Prop := ∀ b, 1 ≤ b → b < k → (decN b (f b)).code = 0

/-- What reading all headers answers. -/
def ReadPost (t : Nat) (f : Nat → Nat) (B : Nat) (w : World) : Ending → World → Prop := fun en w' => Below w.heap.size w w' ∧
  ((AllOk f B ∧ ∃ g c, en = .returned (.tuple #[.slice (some ⟨g, 0, none⟩) B c, .int .i64 0, .int .i64 0]) ∧ w.heap.size ≤ g ∧ B ≤ c ∧ RowAt w' g t (hdCs (hds f B))) ∨
   (∃ b : Nat, 1 ≤ b ∧ b < B ∧ AllOk f b ∧ (decN b (f b)).code ≠ 0 ∧ en = .returned (.tuple #[.slice none 0 0, .int .i64 b, .int .i64 21])))

theorem AllOk.succ {f : Nat → Nat} {k : Nat} (h : AllOk f k) (hk : (decN k (f k)).code = 0) : AllOk f (k + 1) := by
  intro b h1 h2
  by_cases e : b = k
  · subst e; exact hk
  · exact h b h1 (by omega)

theorem elHd : Elem Tryz.prog 38 58 (.agg #[.int .i64 0, .int .i64 0, .int .i64 0]) 3 24 := Elem.mk' Tryz.underlying38 (by kernel_rfl) rfl (by decide)

theorem row_step (f : Nat → Nat) (B k : Nat) (hk : k < B) (h : Hd) (he : h = hdF f k) : splice (hdCs (hds f k) ++ List.replicate (3 * (B - k)) (.int .i64 0)) (k * 3) h.cs = hdCs (hds f (k + 1)) ++ List.replicate (3 * (B - (k + 1))) (.int .i64 0) := by
  subst he
  have hl : (hdCs (hds f k)).length = k * 3 := by rw [hdCs_length, hds_length]; omega
  rw [hds_succ, hdCs_append]
  unfold splice
  rw [List.take_left' hl, ← hl, List.drop_length_add_append]
  have : List.drop (hdF f k).cs.length (List.replicate (3 * (B - k)) (Value.int .i64 0)) = List.replicate (3 * (B - (k + 1))) (.int .i64 0) := by
    simp [Hd.cs]; omega
  rw [this]
  simp [hdCs]

theorem peek_lt {l : List Nat} (h : ∀ z ∈ l, z < 18446744073709551616) (i : Int) : peek l i < 18446744073709551616 := by
  unfold peek
  split
  · by_cases hi : i.toNat < l.length
    · simp only [List.getD_eq_getElem?_getD, List.getElem?_eq_getElem hi, Option.getD_some]
      exact h _ (List.getElem_mem hi)
    · simp only [List.getD_eq_getElem?_getD, List.getElem?_eq_none (by omega : l.length ≤ i.toNat), Option.getD_none]
      decide
  · decide

theorem cell_of_touch {L : List Nat} {w w' : World} (h : Touch L w w') {p : Addr} {v : Value} (hp : p.block ∉ L) (hc : w.cell? p = some v) : w'.cell? p = some v := by
  rw [World.cell?_of_block (w := w) (h.block p.block (World.block_lt_of_cell? _ _ hc) hp)]; exact hc
theorem below_touch {B : Nat} {L : List Nat} {w w1 w2 : World} (h : Below B w w1) (ht : Touch L w1 w2) (hL : ∀ k ∈ L, B ≤ k) (hB : B ≤ w.heap.size) : Below B w w2 :=
  h.trans (ht.below (Nat.le_trans hB h.size) hL)

def devWord (S : Dev) (b : Nat) : Nat := peek S.cache (256 + (b : Int))

set_option maxHeartbeats 2000000 in
set_option maxRecDepth 100000 in
theorem read_any {w : World} {F : Foot} {S : Dev} (h : DevAt w F S) (B : Nat) (hB1 : 1 ≤ B) (hB : B ≤ 1000) :
    Calls Tryz.prog 10 #[vdev F, vgeom B] w (ReadPost 58 (devWord S) B w) := by
  have HD := Lib.hid h
  have HP : Hid (ReadPost 58 (devWord S) B w = ReadPost 58 (devWord S) B w) := Lib.hid rfl
  generalize hP : ReadPost 58 (devWord S) B w = Post at HP ⊢
  have HPE := Lib.hid hP
  clear h hP HP
  go_enter Tryz.func10, Tryz.ntmps10
  have hbx : Below w.heap.size w (w.alloc (.cells #[.int .i64 (B : Int)] 43)) := below_alloc _ _
  have hcx : (w.alloc (.cells #[.int .i64 (B : Int)] 43)).cell? ⟨w.heap.size, 0, none⟩ = some (.int .i64 (B : Int)) := cell_alloc_new _ _ _ 0 _ rfl
  have hsx : (w.alloc (.cells #[.int .i64 (B : Int)] 43)).heap.size = w.heap.size + 1 := by simp
  have HSX := Lib.hid hsx
  clear hsx
  go_wp2_with (first
    | (at_make; refine wpList_make_rows elHd (w.heap.size + 1) B (z := .int .i64 0) (by intro i hi; simp at hi; rcases i with _ | _ | _ | i <;> first | rfl | omega) (by omega) (by omega) (by omega) (by decide) (by simp) rfl rfl rfl rfl ?_; intro w1 hown hgrow))
  try rw [HSX.out] at hown
  try rw [HSX.out]
  have hb1 : Below w.heap.size w w1 := hbx.trans (below_grown hgrow (by rw [HSX.out]; omega))
  have hc1 : w1.cell? ⟨w.heap.size, 0, none⟩ = some (.int .i64 (B : Int)) := by
    rw [(below_grown hgrow (Nat.le_refl _)).cell (p := ⟨w.heap.size, 0, none⟩) (by rw [HSX.out]; simp)]; exact hcx
  have hr1 : RowAt w1 (w.heap.size + 1) 58 (List.replicate (B * 3) (.int .i64 0)) := owned_row hown
  have HR1 := Lib.hid hr1
  have HB1 := Lib.hid hb1
  clear hbx hcx hown hgrow hr1 hb1 HSX
  obtain ⟨gx, hgx⟩ : ∃ gx, gx = w.heap.size := ⟨_, rfl⟩
  obtain ⟨g, hg⟩ : ∃ g, g = w.heap.size + 1 := ⟨_, rfl⟩
  have HG : Hid (gx = w.heap.size ∧ g = w.heap.size + 1) := Lib.hid ⟨hgx, hg⟩
  rw [← hg] at HR1 ⊢
  rw [← hgx] at hc1 ⊢
  have hgne : gx ≠ g := by omega
  clear hgx hg
  go_loopw [8] (fun i wr => ∃ k : Nat, 1 ≤ k ∧ k ≤ B ∧ i = .int .i64 k ∧ AllOk (devWord S) k ∧ RowAt wr g 58 (hdCs (hds (devWord S) k) ++ List.replicate (3 * (B - k)) (.int .i64 0)) ∧ wr.cell? ⟨gx, 0, none⟩ = some (.int .i64 (B : Int)) ∧ Below w.heap.size w wr) (fun i _ => B - (intOf i).toNat)
  case atStart => exact ⟨1, Nat.le_refl _, hB1, rfl, (fun b h1 h2 => by omega), by
      have e : hdCs (hds (devWord S) 1) ++ List.replicate (3 * (B - 1)) (Value.int .i64 0) = List.replicate (B * 3) (Value.int .i64 0) := by
        have : hdCs (hds (devWord S) 1) = List.replicate 3 (Value.int .i64 0) := rfl
        rw [this, List.replicate_append_replicate]
        congr 1
        omega
      rw [e]; exact HR1.out, hc1, HB1.out⟩
  case round =>
    clear hc1 HR1 HB1
    obtain ⟨k, hk1, hk2, rfl, hok, hr, hcx, hb⟩ := hrel
    have HOK := Lib.hid hok
    have HR := Lib.hid hr
    have HB := Lib.hid hb
    have HDr := Lib.hid (HD.out.below hb)
    clear hok hr hb
    by_cases hlt : k < B
    · have hlt' : (k : Int) < (B : Int) := by omega
      go_wp2_with fail
      refine (gheader_any _ _ _ (by omega)).mono ?_
      rintro e w2 ⟨rfl, hb2⟩
      have HH : Hid (hdAt (B : Int) (k : Int) = 256 + (k : Int)) := Lib.hid (by unfold hdAt; rw [if_neg (by omega)])
      rw [HH.out]
      have HD2 := Lib.hid (HDr.out.below hb2)
      have HB2 := Lib.hid hb2
      clear hb2
      go_wp2_with fail
      refine (dget_any HD2.out _).mono ?_
      rintro e w3 ⟨rfl, rfl⟩
      have hx : devWord S k < 18446744073709551616 := peek_lt HD2.out.u64C _
      have HX : Hid (peek S.cache (256 + (k : Int)) = devWord S k) := Lib.hid rfl
      rw [HX.out]
      go_wp2_with fail
      refine (bdecode_any (k : Int) (devWord S k) (by omega) (by omega) hx _).mono ?_
      rintro e w4 ⟨rfl, hb4⟩
      have HF : Hid (⟨(decN k (devWord S k)).k, (decN k (devWord S k)).c, (decN k (devWord S k)).l⟩ = hdF (devWord S) k) := Lib.hid (by unfold hdF; rw [if_neg (by omega)])
      have HC : Hid ((decN k (devWord S k)).code = 0 ∨ (decN k (devWord S k)).code ≠ 0) := Lib.hid (by omega)
      have HOK2 : Hid ((decN k (devWord S k)).code = 0 → AllOk (devWord S) (k + 1)) := Lib.hid (fun h => HOK.out.succ h)
      have HBad : Hid ((decN k (devWord S k)).code ≠ 0 → ∀ w', Below w.heap.size w w' → Post (.returned (.tuple #[.slice none 0 0, .int .i64 k, .int .i64 21])) w') := Lib.hid (fun h w' hw' => by
        rw [← HPE.out]; exact ⟨hw', .inr ⟨k, hk1, hlt, HOK.out, h, rfl⟩⟩)
      unfold Dec.val
      generalize decN k (devWord S k) = dd at *
      obtain ⟨dk, dc, dl, dcode⟩ := dd
      dsimp only at *
      have hb24 : Below wr.heap.size wr w4 := HB2.out.trans (hb4.mono HB2.out.size)
      have HB4 := Lib.hid hb24
      clear hb4 hb24 HB2 HD2
      rcases HC.out with hz | hz
      · subst hz
        have hok2 := HOK2.out rfl
        have HOK3 := Lib.hid hok2
        have hr4 : RowAt w4 g 58 _ := HR.out.keep (HB4.out.block g HR.out.lt)
        have hcx4 : w4.cell? ⟨gx, 0, none⟩ = some (.int .i64 (B : Int)) := below_cells HB4.out hcx (Nat.le_refl _)
        have hgl : g < w4.heap.size := hr4.lt
        have hgxl : gx < w4.heap.size := World.block_lt_of_cell? _ _ hcx4
        have HR4 := Lib.hid hr4
        have HCX4 := Lib.hid hcx4
        clear hok2 hr4 hcx hcx4
        have hb5 := below_alloc w4 (Obj.cells #[Value.int .i64 dk, Value.int .i64 dc, Value.int .i64 dl] 58)
        have HR5 : Hid (RowAt (w4.alloc (Obj.cells #[Value.int .i64 dk, Value.int .i64 dc, Value.int .i64 dl] 58)) g 58 (hdCs (hds (devWord S) k) ++ List.replicate (3 * (B - k)) (.int .i64 0))) := Lib.hid (HR4.out.keep (hb5.block g hgl))
        have HCX5 : Hid ((w4.alloc (Obj.cells #[Value.int .i64 dk, Value.int .i64 dc, Value.int .i64 dl] 58)).cell? ⟨gx, 0, none⟩ = some (.int .i64 (B : Int))) := Lib.hid (below_cells hb5 HCX4.out (Nat.le_refl _))
        have HB5 : Hid (Below w.heap.size w (w4.alloc (Obj.cells #[Value.int .i64 dk, Value.int .i64 dc, Value.int .i64 dl] 58))) := Lib.hid (HB.out.trans ((HB4.out.trans (hb5.mono HB4.out.size)).mono HB.out.size))
        have hlen : Hid (k * 3 + 3 ≤ (hdCs (hds (devWord S) k) ++ List.replicate (3 * (B - k)) (Value.int .i64 0)).length) := Lib.hid (by rw [List.length_append, hdCs_length, hds_length, List.length_replicate]; omega)
        have hone : Hid (∀ u ∈ (#[Value.int .i64 dk, Value.int .i64 dc, Value.int .i64 dl] : Array Value).toList, u.oneCell' = true) := Lib.hid (by intro u hu; simp at hu; rcases hu with rfl | rfl | rfl <;> rfl)
        clear hb5 HR4 HCX4 HB4
        go_wp2_with (refine wpList_store_part (off := k * 3) (cs := #[.int .i64 dk, .int .i64 dc, .int .i64 dl]) aggHd HR5.out rfl hlen.out hone.out rfl rfl rfl rfl ?_; intro w6 hr6 ht6; have HR6 := Lib.hid hr6; have HT6 := Lib.hid ht6; clear hr6 ht6)
        refine ⟨⟨k + 1, by omega, by omega, vint (by omega), HOK3.out, ?_, ?_, ?_⟩, by simp [intOf]; omega⟩
        · have := HR6.out
          rw [show #[Value.int .i64 dk, Value.int .i64 dc, Value.int .i64 dl].toList = (⟨dk, dc, dl⟩ : Hd).cs from rfl, row_step _ _ _ hlt _ HF.out] at this
          exact this
        · exact cell_of_touch HT6.out (by simp; exact hgne) HCX5.out
        · exact below_touch HB5.out HT6.out (by have := HG.out; simp; omega) (Nat.le_refl _)
      · have hz1 : (dcode != 0) = true := by simpa using hz
        have HZ := Lib.hid (HBad.out hz)
        have HBE : Hid (Below w.heap.size w w4) := Lib.hid (HB.out.trans (HB4.out.mono HB.out.size))
        clear hz HBad HC HOK2
        go_wp2_with fail
        go_ret3
        exact HZ.out _ (HBE.out.alloc (HBE.out.size) _)
    · obtain rfl : k = B := by omega
      have hlt' : decide ((k : Int) < (k : Int)) = false := by simp
      go_wp2_with fail
      go_ret3
      rw [← HPE.out]
      refine ⟨HB.out, .inl ⟨HOK.out, g, k, rfl, by have := HG.out; omega, Nat.le_refl _, ?_⟩⟩
      have := HR.out
      simpa using this

end Go.Proofs.YtebnelihlgdciaaGreat

/- The reference's headers of blocks. -/
namespace Go.Proofs.YtebnelihlgdciaaGreat
open Go.RowKit
set_option linter.unusedVariables false

set_option maxHeartbeats 1000000 in
theorem rhright_any (k c l : Int) (w : World) : Calls Tryz.prog 100 #[vhd k c l] w fun e w' => e = .returned (.bool (hdRight k c l)) ∧ Below w.heap.size w w' := by
  have HB := Lib.hid (below_alloc w)
  go_enter Tryz.func100, Tryz.ntmps100
  go_wp2_with fail
  all_goals
    go_ret
    refine ⟨ret_bool ?_, HB.out _⟩
    clear HB
    simp only [beq_iff_eq, beq_eq_false_iff_ne] at *
    first
      | exact hdR_t (by unfold HdRight; omega)
      | exact hdR_f (by unfold HdRight; omega)
      | (by_cases hl : l ≤ 255
         · exact (decide_eq_true hl).trans (hdR_t (by unfold HdRight; omega))
         · exact (decide_eq_false hl).trans (hdR_f (by unfold HdRight; omega)))
      | (by_cases hl : l = 0
         · exact (beq_iff_eq.2 hl).trans (hdR_t (by unfold HdRight; omega))
         · exact (beq_eq_false_iff_ne.2 hl).trans (hdR_f (by unfold HdRight; omega)))

set_option maxHeartbeats 1000000 in
theorem rencode_any (b k c l : Int) (hb0 : 0 ≤ b) (hb1 : b ≤ 1000000) (w : World) : Calls Tryz.prog 99 #[.int .i64 b, vhd k c l] w fun e w' => e = .returned (vu64 (encN b k c l)) ∧ Below w.heap.size w w' := by
  have hb := below_alloc w (Obj.cells #[Value.int .i64 k, Value.int .i64 c, Value.int .i64 l] 113)
  have hg := heap_alloc_new w (Obj.cells #[Value.int .i64 k, Value.int .i64 c, Value.int .i64 l] 113)
  go_enter Tryz.func99, Tryz.ntmps99
  go_wp2_with fail
  generalize w.alloc (Obj.cells #[Value.int .i64 k, Value.int .i64 c, Value.int .i64 l] 113) = w0 at *
  refine (rhright_any k c l w0).mono ?_
  rintro e w1 ⟨rfl, hb1⟩
  have hgl : w.heap.size < w0.heap.size := (Array.getElem?_eq_some_iff.1 hg).1
  have hbb := hb.trans (hb1.mono hb.size)
  have hg1 : w1.heap[w.heap.size]? = _ := (hb1.block _ hgl).trans hg
  have c0 : w1.cell? ⟨w.heap.size, 0, none⟩ = some (.int .i64 k) := cell_of_row _ _ 0 _ _ _ hg1
  have c1 : w1.cell? ⟨w.heap.size, 1, none⟩ = some (.int .i64 c) := cell_of_row _ _ 1 _ _ _ hg1
  have c2 : w1.cell? ⟨w.heap.size, 2, none⟩ = some (.int .i64 l) := cell_of_row _ _ 2 _ _ _ hg1
  clear hb hb1 hg hgl hg1
  cases hr : hdRight k c l
  · have HE : Hid (encN b k c l = 0) := Lib.hid (by unfold encN; rw [hr]; rfl)
    clear hr
    go_wp2_with fail
    go_ret
    exact ⟨ret_int (by rw [HE.out]; rfl), hbb⟩
  · have HE : Hid (encN b k c l = sealN (hdN k c l) (pl (256 + b))) := Lib.hid (by unfold encN; rw [hr]; rfl)
    have hn := hdN_lt hr
    obtain ⟨⟨k0, k1⟩, ⟨c0', c1'⟩, l0, l1⟩ := hd_small hr
    have HN : Hid (k + 4 * c + 256 * l = (hdN k c l : Int)) := Lib.hid (by unfold hdN; omega)
    clear hr
    generalize hdN k c l = n at *
    go_wp2_with fail
    rw [HN.out]
    refine (rseal_any n _ hn _).mono ?_
    rintro e w2 ⟨rfl, hb2⟩
    rw [← HE.out]
    go_wp2_with fail
    go_ret
    exact ⟨rfl, hbb.trans (hb2.mono hbb.size)⟩

set_option maxHeartbeats 1000000 in
theorem rdecode_any (b : Int) (x : Nat) (hb0 : 0 ≤ b) (hb1' : b ≤ 1000000) (hx : x < 18446744073709551616) (w : World) :
    Calls Tryz.prog 69 #[.int .i64 b, vu64 x] w fun e w' => e = .returned (decN b x).val ∧ Below w.heap.size w w' := by
  have hbA := below_alloc w (Obj.cells #[Value.int .i64 0, Value.int .i64 0, Value.int .i64 0] 113)
  have hg := heap_alloc_new w (Obj.cells #[Value.int .i64 0, Value.int .i64 0, Value.int .i64 0] 113)
  go_enter Tryz.func69, Tryz.ntmps69
  go_wp2_with fail
  generalize w.alloc (Obj.cells #[Value.int .i64 0, Value.int .i64 0, Value.int .i64 0] 113) = w0 at *
  refine (ropen_any x _ hx w0).mono ?_
  rintro e w1 ⟨rfl, hbo⟩
  have hgl : w.heap.size < w0.heap.size := (Array.getElem?_eq_some_iff.1 hg).1
  have hbb := hbA.trans (hbo.mono hbA.size)
  have hg1 : w1.heap[w.heap.size]? = _ := (hbo.block _ hgl).trans hg
  clear hbA hbo hg hgl
  cases ho : openN x (pl (256 + b)) with
  | none =>
    have HV := Lib.hid (decN_none ho)
    clear ho
    simp only [openV]
    go_wp2_with (refine wpList_store_row (cs := #[.int .i64 0, .int .i64 0, .int .i64 0]) aggRh hg1 rfl rfl (by simp [Value.oneCell']) rfl rfl rfl rfl ?_; intro w2 hg2 hgr2 hs2)
    refine bodyPost_ret (results_cell_row2 (p := 4) (u := 5) rfl _ _ _ _ _ _ _ rfl hg2 Tryz.underlying113 rfl (by kernel_rfl)) rfl ⟨by rw [HV.out]; rfl, ?_⟩
    exact hbb.grown hgr2 hbb.size (fun k e => by cases e; omega)
  | some n =>
    obtain ⟨hn, -⟩ := openN_some ho
    have HK := Lib.hid (decN_ok ho)
    have HRr := Lib.hid (fun he => enc_right (b := b) ho he)
    have HL := Lib.hid (decN_bad ho)
    clear ho
    simp only [openV]
    obtain ⟨h4, h64, h6⟩ := bits_sum n
    go_wp2_with fail
    rw [show (n : Int) % 4 = ((n % 4 : Nat) : Int) by omega, show (n : Int) / 4 % 64 = ((n / 4 % 64 : Nat) : Int) by omega, show (n : Int) / 256 % 65536 = ((n / 256 % 65536 : Nat) : Int) by omega]
    generalize n % 4 = k at *
    generalize n / 4 % 64 = c at *
    generalize n / 256 % 65536 = l at *
    have hb1 := below_alloc w1 (Obj.cells #[Value.int .i64 (k : Int), Value.int .i64 (c : Int), Value.int .i64 (l : Int)] 113)
    have hg2 := heap_alloc_new w1 (Obj.cells #[Value.int .i64 (k : Int), Value.int .i64 (c : Int), Value.int .i64 (l : Int)] 113)
    generalize w1.alloc (Obj.cells #[Value.int .i64 (k : Int), Value.int .i64 (c : Int), Value.int .i64 (l : Int)] 113) = w2 at *
    refine (rencode_any b k c l hb0 hb1' w2).mono ?_
    rintro e w3 ⟨rfl, hb3⟩
    have hgl : w.heap.size < w1.heap.size := (Array.getElem?_eq_some_iff.1 hg1).1
    have hgl2 : w1.heap.size < w2.heap.size := (Array.getElem?_eq_some_iff.1 hg2).1
    have hb3' := hbb.trans ((hb1.trans (hb3.mono hb1.size)).mono hbb.size)
    have hg3 : w3.heap[w.heap.size]? = _ := (hb3.block _ (by omega)).trans ((hb1.block _ hgl).trans hg1)
    have hg4 : w3.heap[w1.heap.size]? = _ := (hb3.block _ hgl2).trans hg2
    have he := encN_lt b k c l
    clear hb1 hb3 hg1 hg2 hbb
    generalize encN b k c l = y at *
    by_cases hyx : y = x
    · have HV := Lib.hid (HK.out hyx)
      have hrt := HRr.out hyx
      subst hyx
      have d0 : w3.cell? ⟨w1.heap.size, 0, none⟩ = some (.int .i64 k) := cell_of_row _ _ 0 _ _ _ hg4
      have d1 : w3.cell? ⟨w1.heap.size, 1, none⟩ = some (.int .i64 c) := cell_of_row _ _ 1 _ _ _ hg4
      have d2 : w3.cell? ⟨w1.heap.size, 2, none⟩ = some (.int .i64 l) := cell_of_row _ _ 2 _ _ _ hg4
      go_wp2_with fail
      refine (rhright_any k c l w3).mono ?_
      rintro e w5 ⟨rfl, hb5⟩
      have hb5' := hb3'.trans (hb5.mono hb3'.size)
      have hg3' : w5.heap[w.heap.size]? = _ := (hb5.block _ (Array.getElem?_eq_some_iff.1 hg3).1).trans hg3
      have hg4' : w5.heap[w1.heap.size]? = _ := (hb5.block _ (Array.getElem?_eq_some_iff.1 hg4).1).trans hg4
      have d0 : w5.cell? ⟨w1.heap.size, 0, none⟩ = some (.int .i64 k) := cell_of_row _ _ 0 _ _ _ hg4'
      have d1 : w5.cell? ⟨w1.heap.size, 1, none⟩ = some (.int .i64 c) := cell_of_row _ _ 1 _ _ _ hg4'
      have d2 : w5.cell? ⟨w1.heap.size, 2, none⟩ = some (.int .i64 l) := cell_of_row _ _ 2 _ _ _ hg4'
      rw [hrt]
      clear hb5 hg3 hg4 hrt HRr HK HL
      go_wp2_with (refine wpList_store_row (cs := #[.int .i64 k, .int .i64 c, .int .i64 l]) aggRh hg3' rfl rfl (by simp [Value.oneCell']) rfl rfl rfl rfl ?_; intro w4 hg5 hgr4 hs4)
      refine bodyPost_ret (results_cell_row2 (p := 4) (u := 5) rfl _ _ _ _ _ _ _ rfl hg5 Tryz.underlying113 rfl (by kernel_rfl)) rfl ⟨by rw [HV.out]; rfl, ?_⟩
      exact hb5'.grown hgr4 hb5'.size (fun k e => by cases e; omega)
    · have HV := Lib.hid (HL.out hyx)
      have hne : ¬ ((y : Int) = (x : Int)) := by omega
      clear hyx
      go_wp2_with (refine wpList_store_row (cs := #[.int .i64 0, .int .i64 0, .int .i64 0]) aggRh hg3 rfl rfl (by simp [Value.oneCell']) rfl rfl rfl rfl ?_; intro w4 hg5 hgr4 hs4)
      refine bodyPost_ret (results_cell_row2 (p := 4) (u := 5) rfl _ _ _ _ _ _ _ rfl hg5 Tryz.underlying113 rfl (by kernel_rfl)) rfl ⟨by rw [HV.out]; rfl, ?_⟩
      exact hb3'.grown hgr4 hb3'.size (fun k e => by cases e; omega)

end Go.Proofs.YtebnelihlgdciaaGreat
