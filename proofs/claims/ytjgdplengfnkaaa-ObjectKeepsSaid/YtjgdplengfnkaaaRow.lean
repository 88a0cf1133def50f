/- What a slice reads as in a world, and how that stays while only new memory is written. -/
import Derived.Test.YtjgdplengfnkaaaRows
import Derived.WalkKit
import Derived.WalkSpells
import Derived.WalkLawsBesides
import Derived.Lib.Hide
import Derived.Deep.Onto
import Derived.Lib.ConvBytes
import Derived.Laws.AppendOwnNone
import Derived.Deep.WholeRow
import Derived.Laws.BytesArg
namespace Go.Proofs.Ytjgdplengfnkaaa
open Go.RowKit
set_option linter.unusedVariables false

abbrev vu64 (n : Nat) : Value := .int .u64 (n : Int)
abbrev vu8 (n : Nat) : Value := .int .u8 (n : Int)

/-- The bytes of a text, as numbers; and back. -/
def bytesOf (s : ByteArray) : List Nat := s.data.toList.map UInt8.toNat
def strOf (ns : List Nat) : ByteArray := ⟨(ns.map UInt8.ofNat).toArray⟩

theorem bytesOf_length (s : ByteArray) : (bytesOf s).length = s.size := by simp [bytesOf]
theorem bytesOf_lt (s : ByteArray) : ∀ z ∈ bytesOf s, z < 256 := by
  intro z hz
  simp only [bytesOf, List.mem_map] at hz
  obtain ⟨u, _, rfl⟩ := hz
  exact u.toNat_lt
theorem strOf_bytesOf (s : ByteArray) : strOf (bytesOf s) = s := by
  have e : (UInt8.ofNat ∘ UInt8.toNat) = id := by funext u; simp
  simp [strOf, bytesOf, e]

/-- From address a on the cells hold the values vs. -/
def Cells (w : World) (a : Option Addr) (vs : List Value) : Prop :=
  vs = [] ∨ ∃ b off, a = some ⟨b, off, none⟩ ∧ ∀ i v, vs[i]? = some v → w.cell? ⟨b, off + i, none⟩ = some v

theorem Cells.nil (w : World) (a : Option Addr) : Cells w a [] := .inl rfl

theorem Cells.at {w : World} {a : Option Addr} {vs : List Value} (h : Cells w a vs) {i : Nat} (hi : i < vs.length) :
    ∃ b off, a = some ⟨b, off, none⟩ ∧ b < w.heap.size ∧ ∀ i v, vs[i]? = some v → w.cell? ⟨b, off + i, none⟩ = some v := by
  rcases h with rfl | ⟨b, off, rfl, hc⟩
  · simp at hi
  · exact ⟨b, off, rfl, World.block_lt_of_cell? _ _ (hc i _ (List.getElem?_eq_getElem hi)), hc⟩

/-- The same over a list of data, each of one cell. -/
theorem Cells.atMap {α : Type} {f : α → Value} {w : World} {a : Option Addr} {xs : List α} (h : Cells w a (xs.map f)) (d : α) {i : Nat} (hi : i < xs.length) :
    ∃ b off, a = some ⟨b, off, none⟩ ∧ b < w.heap.size ∧ ∀ i, i < xs.length → w.cell? ⟨b, off + i, none⟩ = some (f (xs.getD i d)) := by
  obtain ⟨b, off, rfl, hb, hc⟩ := h.at (i := i) (by simpa using hi)
  exact ⟨b, off, rfl, hb, fun j hj => hc j _ (by simp [hj])⟩

theorem Cells.below {w w' : World} {a : Option Addr} {vs : List Value} {B : Nat} (h : Cells w a vs) (hb : Below B w w') (hB : w.heap.size ≤ B) : Cells w' a vs := by
  rcases h with hn | ⟨b, off, rfl, hc⟩
  · exact .inl hn
  · refine .inr ⟨b, off, rfl, fun i v hi => ?_⟩
    rw [hb.cell (p := ⟨b, off + i, none⟩) (Nat.lt_of_lt_of_le (World.block_lt_of_cell? _ _ (hc i v hi)) hB)]
    exact hc i v hi

/-- A row that the call owns can be read. -/
theorem Cells.owned {w : World} {base e n cap : Nat} {a : Option Addr} {xs : List Value} (h : w.ownsRow base e 1 (.slice a n cap) n xs) : Cells w a xs := by
  rcases h.2 with ⟨_, h0⟩ | ⟨g, cap', cur, hv, _⟩
  · exact .inl (List.eq_nil_of_length_eq_zero (by have := h.1; omega))
  · refine .inr ⟨g, 0, by simp at hv; exact hv.1, fun i v hi => ?_⟩
    simp at hv
    obtain ⟨rfl, _⟩ := hv
    have := h.cells (g := g) rfl i v hi
    have ha : (⟨g, 0, none⟩ : Addr).add i = ⟨g, 0 + i, none⟩ := by unfold Addr.add; split <;> simp_all
    rwa [ha] at this

theorem Cells.drop {w : World} {b off : Nat} {vs : List Value} (h : Cells w (some ⟨b, off, none⟩) vs) (k : Nat) : Cells w (some ⟨b, off + k, none⟩) (vs.drop k) := by
  rcases h with rfl | ⟨b', off', he, hc⟩
  · exact .inl (by simp)
  · simp at he
    obtain ⟨rfl, rfl⟩ := he
    refine .inr ⟨b, off + k, rfl, fun i v hi => ?_⟩
    rw [List.getElem?_drop] at hi
    rw [Nat.add_assoc]
    exact hc _ _ hi

theorem Cells.take {w : World} {a : Option Addr} {vs : List Value} (h : Cells w a vs) (k : Nat) : Cells w a (vs.take k) := by
  rcases h with rfl | ⟨b, off, rfl, hc⟩
  · exact .inl (by simp)
  · refine .inr ⟨b, off, rfl, fun i v hi => ?_⟩
    rw [List.getElem?_take] at hi
    split at hi
    · exact hc _ _ hi
    · simp at hi

/-- The value of a slice that the call owns. -/
theorem owned_form {w : World} {base e size n : Nat} {v : Value} {xs : List Value} (h : w.ownsRow base e size v n xs) : ∃ a cap, v = .slice a n cap ∧ n ≤ cap ∧ cap ≤ maxLen := by
  rcases h.2 with ⟨rfl, rfl⟩ | ⟨g, cap, cur, rfl, _, _, h1, h2, _⟩
  · exact ⟨none, 0, rfl, Nat.le_refl _, Nat.zero_le _⟩
  · exact ⟨_, _, rfl, h1, h2⟩

theorem owned_below {w w' : World} {base e size n B : Nat} {v : Value} {xs : List Value} (h : w.ownsRow base e size v n xs) (hb : Below B w w') (hB : w.heap.size ≤ B) : w'.ownsRow base e size v n xs := by
  refine ⟨h.1, ?_⟩
  rcases h.2 with hn | ⟨g, cap, cur, rfl, h1, hg, r⟩
  · exact .inl hn
  · exact .inr ⟨g, cap, cur, rfl, h1, by rw [hb.block g (Nat.lt_of_lt_of_le (Array.getElem?_eq_some_iff.1 hg).1 hB)]; exact hg, r⟩

theorem cell_alloc_new (w : World) (cs : Array Value) (t : TypeId) (j : Nat) (v : Value) (h : cs[j]? = some v) : (w.alloc (.cells cs t)).cell? ⟨w.heap.size, j, none⟩ = some v := by
  rw [cell_of_row _ _ j cs t (0, 0) (heap_alloc_new w _)]; exact h

theorem below_alloc (w : World) (o : Obj) : Below w.heap.size w (w.alloc o) := (Below.refl _ _).alloc (Nat.le_refl _) o

theorem grown_heap {w w' : World} {v : Value} {base e size n g : Nat} {xs : List Value} {o : Obj} (hg : w.grownBy w' v.ownBlock) (ho : w.ownsRow base e size v n xs) (hb : g < base) (h : w.heap[g]? = some o) : w'.heap[g]? = some o := by
  rw [hg.block g (Array.getElem?_eq_some_iff.1 h).1 (fun c => by have := (ho.lt g c.symm).1; omega)]; exact h

theorem below_grown {B : Nat} {w w' : World} (h : w.grownBy w' none) (hB : B ≤ w.heap.size) : Below B w w' := (Below.refl B w).grown h hB (fun _ e => by cases e)

theorem made_cells (v : Value) (n : Nat) (h : v.cells = #[v]) : (madeCells v.cells (n * 1)).toList = List.replicate n v := by
  rw [h, Nat.mul_one]
  apply List.ext_getElem
  · simp [madeCells]
  · intro i h1 h2; simp [madeCells, Nat.mod_one]

/-- A slice type t of elements e: the element's zero cells, how many cells, how many bytes. -/
structure Elem (P : Program) (t e : TypeId) (z : Value) (size bytes : Nat) : Prop where
  under : P.underlying t = some (.slice e)
  info : ∃ i, P.info? e = some i ∧ i.zero = some z ∧ i.size = size ∧ i.bytes = bytes
  cells : z.cells.size = size
  pos : 0 < size

theorem Elem.mk' {P : Program} {t e : TypeId} {z : Value} {size bytes : Nat} (h1 : P.underlying t = some (.slice e)) (h2 : (P.info? e).map (fun i => (i.zero, i.size, i.bytes)) = some (some z, size, bytes)) (h3 : z.cells.size = size) (h4 : 0 < size) : Elem P t e z size bytes :=
  ⟨h1, info_parts h2, h3, h4⟩

section laws
variable {P : Program} {w : World} {ops : Array Oper} {rest : List Oper} {o : Oper} {a : Act} {Q : Exit → Act → World → Prop}

theorem grownBy_of_alloc {w w' : World} {ob : Obj} {row : Option Nat} (h : (w.alloc ob).grownBy w' row) : w.grownBy w' row :=
  ⟨h.os, h.tape, h.output, Nat.le_trans (by simp) h.size, fun k hk hr => (h.block k (by simp; omega) hr).trans (Below.heap_alloc w ob k hk)⟩

/-- 'append(xs, x)', x of one cell: it was laid into a new block of one cell just before. -/
theorem wpList_append_one {s x : Operand} {t e : TypeId} {z : Value} {bytes base n : Nat} {v u : Value} {xs : List Value} (E : Elem P t e z 1 bytes)
    (hown : w.ownsRow base e 1 v n xs) (hu : u.oneCell' = true) (hn : n < 1000000000000) (hby : bytes ≤ 64) (hbase : base ≤ w.heap.size)
    (hgd : o.guard = none) (ho : o.op = .call { callee := .builtin .append, args := #[s, x], argTypes := #[t, t] })
    (hs : a.eval s = v) (hx : a.eval x = .slice (some ⟨w.heap.size, 0, none⟩) 1 1)
    (hK : ∀ v' w', w'.ownsRow base e 1 v' (n + 1) (xs ++ [u]) → w.grownBy w' v.ownBlock → v' ≠ .slice none 0 0 → wpList P ops Q rest (a.put o.dst v') w') :
    wpList P ops Q (o :: rest) a (w.alloc (.cells #[u] e)) := by
  obtain ⟨i, h1, h2, h3, h4⟩ := E.info
  refine wpList_append_own _ hgd s x t ho base e i z 1 bytes E.under h1 h2 h3 h4 E.cells (by decide) v n xs hs (hown.alloc _) ⟨w.heap.size, 0, none⟩ 1 1 [u] hx rfl (cell_one_new w u e) (by simpa using hu) (by unfold maxLen; omega) ?_ (by simp; omega) ?_
  · have : (n + 1) * bytes ≤ 1000000000000 * 64 := Nat.mul_le_mul (by omega) hby
    omega
  · intro v' w' h1 h2 h3
    exact hK v' w' h1 (grownBy_of_alloc h2) (fun e => by have := (h3.1 e).2; omega)

/-- 'append(xs, T{..})': the element was laid into a new block just before. -/
theorem wpList_append_built {s x : Operand} {t e : TypeId} {z : Value} {size bytes base n : Nat} {v : Value} {xs : List Value} {us : Array Value} (E : Elem P t e z size bytes)
    (hown : w.ownsRow base e size v n xs) (hus : us.size = size) (hu : ∀ u ∈ us.toList, u.oneCell' = true) (hn : n < 1000000000000) (hby : bytes ≤ 64) (hbase : base ≤ w.heap.size)
    (hgd : o.guard = none) (ho : o.op = .call { callee := .builtin .append, args := #[s, x], argTypes := #[t, t] })
    (hs : a.eval s = v) (hx : a.eval x = .slice (some ⟨w.heap.size, 0, none⟩) 1 1)
    (hK : ∀ v' w', w'.ownsRow base e size v' (n + 1) (xs ++ us.toList) → w.grownBy w' v.ownBlock → v' ≠ .slice none 0 0 → wpList P ops Q rest (a.put o.dst v') w') :
    wpList P ops Q (o :: rest) a (w.alloc (.cells us e)) := by
  obtain ⟨i, h1, h2, h3, h4⟩ := E.info
  refine wpList_append_own _ hgd s x t ho base e i z size bytes E.under h1 h2 h3 h4 E.cells E.pos v n xs hs (hown.alloc _) ⟨w.heap.size, 0, none⟩ 1 1 us.toList hx (by simpa using hus) ?_ hu (by unfold maxLen; omega) ?_ (by simp; omega) ?_
  · intro j u hj
    have e : (⟨w.heap.size, 0, none⟩ : Addr).add j = ⟨w.heap.size, j, none⟩ := by unfold Addr.add; split <;> simp_all
    rw [e]
    exact cell_alloc_new w us _ j u (by simpa using hj)
  · have : (n + 1) * bytes ≤ 1000000000000 * 64 := Nat.mul_le_mul (by omega) hby
    omega
  · intro v' w' h1 h2 h3
    exact hK v' w' h1 (grownBy_of_alloc h2) (fun e => by have := (h3.1 e).2; omega)

/-- 'append(xs, ys...)', ys not nil. -/
theorem wpList_append_many {s x : Operand} {t e : TypeId} {z : Value} {size bytes base n m c : Nat} {v : Value} {xs ys : List Value} {ad : Addr} (E : Elem P t e z size bytes)
    (hown : w.ownsRow base e size v n xs) (hl : ys.length = m * size) (hys : ∀ j u, ys[j]? = some u → w.cell? (ad.add j) = some u) (h1 : ∀ u ∈ ys, u.oneCell' = true)
    (hn : n + m < 1000000000000) (hby : bytes ≤ 64) (hbase : base ≤ w.heap.size)
    (hgd : o.guard = none) (ho : o.op = .call { callee := .builtin .append, args := #[s, x], argTypes := #[t, t] })
    (hs : a.eval s = v) (hx : a.eval x = .slice (some ad) m c)
    (hK : ∀ v' w', w'.ownsRow base e size v' (n + m) (xs ++ ys) → w.grownBy w' v.ownBlock → (v' = .slice none 0 0 ↔ v = .slice none 0 0 ∧ m = 0) → wpList P ops Q rest (a.put o.dst v') w') :
    wpList P ops Q (o :: rest) a w := by
  obtain ⟨i, i1, i2, i3, i4⟩ := E.info
  refine wpList_append_own _ hgd s x t ho base e i z size bytes E.under i1 i2 i3 i4 E.cells E.pos v n xs hs hown ad m c ys hx hl hys h1 (by unfold maxLen; omega) ?_ hbase hK
  have : (n + m) * bytes ≤ 1000000000000 * 64 := Nat.mul_le_mul (by omega) hby
  omega

/-- 'make([]T, 0, n)'. -/
theorem wpList_make_cap {l c : Operand} {t e : TypeId} {z : Value} {size bytes : Nat} (E : Elem P t e z size bytes) (base n : Nat) {kl kc : IntKind} {C : Int}
    (hC : C = (n : Int)) (hn : n < 1000000000000) (hby : bytes ≤ 64) (hbase : base ≤ w.heap.size)
    (hgd : o.guard = none) (ho : o.op = .makeSlice t l c) (hl : a.eval l = .int kl 0) (hc : a.eval c = .int kc C)
    (hK : ∀ w', w'.ownsRow base e size (.slice (some ⟨w.heap.size, 0, none⟩) 0 n) 0 [] → w.grownBy w' none → wpList P ops Q rest (a.put o.dst (.slice (some ⟨w.heap.size, 0, none⟩) 0 n)) w') :
    wpList P ops Q (o :: rest) a w := by
  obtain ⟨i, i1, i2, i3, i4⟩ := E.info
  refine wpList_make_own _ hgd l c t ho base e i z size E.under i1 i2 i3 kl kc C n hl hc hC ?_ (by unfold maxLen; omega) hbase hK
  rw [i4]
  have : bytes * n ≤ 64 * 1000000000000 := Nat.mul_le_mul hby (by omega)
  omega

/-- 'make([]T, n)', T of one cell. -/
theorem wpList_make_len {l c : Operand} {t e : TypeId} {z : Value} {bytes : Nat} (E : Elem P t e z 1 bytes) (base n : Nat) {kl kc : IntKind} {L C : Int} (hz : z.cells = #[z])
    (hL : L = (n : Int)) (hC : C = (n : Int)) (hn : n < 1000000000000) (hby : bytes ≤ 64) (hbase : base ≤ w.heap.size)
    (hgd : o.guard = none) (ho : o.op = .makeSlice t l c) (hl : a.eval l = .int kl L) (hc : a.eval c = .int kc C)
    (hK : ∀ w', w'.ownsRow base e 1 (.slice (some ⟨w.heap.size, 0, none⟩) n n) n (List.replicate n z) → w.grownBy w' none → wpList P ops Q rest (a.put o.dst (.slice (some ⟨w.heap.size, 0, none⟩) n n)) w') :
    wpList P ops Q (o :: rest) a w := by
  obtain ⟨i, i1, i2, i3, i4⟩ := E.info
  refine wpList_make_full _ hgd l c t ho base e i z 1 E.under i1 i2 i3 kl kc L C n hl hc hL hC ?_ (by unfold maxLen; omega) hbase ?_
  · rw [i4]
    have : bytes * n ≤ 64 * 1000000000000 := Nat.mul_le_mul hby (by omega)
    omega
  · rw [made_cells z n hz]
    exact hK

/-- 'append(xs, ys...)', both rows that the call made, either of them nil or not. -/
theorem wpList_append_rows {s x : Operand} {t e : TypeId} {z : Value} {size bytes base base2 n m : Nat} {v v2 : Value} {xs ys : List Value} (E : Elem P t e z size bytes)
    (hown : w.ownsRow base e size v n xs) (hsrc : w.ownsRow base2 e size v2 m ys) (h1 : ∀ u ∈ ys, u.oneCell' = true)
    (hn : n + m < 1000000000000) (hby : bytes ≤ 64) (hbase : base ≤ w.heap.size)
    (hgd : o.guard = none) (ho : o.op = .call { callee := .builtin .append, args := #[s, x], argTypes := #[t, t] })
    (hs : a.eval s = v) (hx : a.eval x = v2)
    (hK : ∀ v' w', w'.ownsRow base e size v' (n + m) (xs ++ ys) → w.grownBy w' v.ownBlock → wpList P ops Q rest (a.put o.dst v') w') :
    wpList P ops Q (o :: rest) a w := by
  rcases hsrc.2 with ⟨rfl, rfl⟩ | ⟨g, cap, cur, rfl, _⟩
  · obtain ⟨i, i1, _⟩ := E.info
    have hy : ys = [] := List.eq_nil_of_length_eq_zero (by have := hsrc.1; simpa using this)
    subst hy
    refine wpList_append_own_none hgd s x t ho base e i size E.under i1 v n xs hs hown hx (hK v w (by simpa using hown) ⟨rfl, rfl, rfl, Nat.le_refl _, fun _ _ _ => rfl⟩)
  · exact wpList_append_many E hown hsrc.1 (fun j u hj => hsrc.cells (g := g) rfl j u hj) h1 hn hby hbase hgd ho hs hx (fun v' w' a b _ => hK v' w' a b)

theorem run_slice_any {t e : TypeId} {z : Value} {size bytes : Nat} (E : Elem P t e z size bytes) (ad : Option Addr) (n cap l h : Nat) (low high : Option Value)
    (hb : (Instr.sliceBounds true n cap low high none).run P w = .ok (l, h, cap) w) :
    (Instr.sliceAt t (.slice ad n cap) low high none).run P w = .ok (.slice (if cap = l then ad else ad.map (·.add (l * size))) (h - l) (cap - l)) w := by
  obtain ⟨i, i1, i2, i3, i4⟩ := E.info
  simp [Instr.sliceAt, Instr.slice, run_underlying E.under, hb, sizeOf, typeInfo, i1, i3]

theorem Cells.shift {w : World} {ad : Option Addr} {vs : List Value} (h : Cells w ad vs) (k : Nat) (c : Prop) [Decidable c] (hc : c → vs.length ≤ k) : Cells w (if c then ad else ad.map (·.add k)) (vs.drop k) := by
  split
  · rename_i hc'
    rw [List.drop_eq_nil_of_le (hc hc')]
    exact Cells.nil _ _
  · rcases h with rfl | ⟨b, off, rfl, hcs⟩
    · simp; exact Cells.nil _ _
    · have e : (⟨b, off, none⟩ : Addr).add k = ⟨b, off + k, none⟩ := by unfold Addr.add; split <;> simp_all
      simp only [Option.map_some, e]
      exact Cells.drop (.inr ⟨b, off, rfl, hcs⟩) k

/-- 'xs[lo:]'. -/
theorem wpList_slice_from {x lo : Operand} {t e : TypeId} {z : Value} {size bytes : Nat} (E : Elem P t e z size bytes) {ad : Option Addr} {n cap : Nat} {k : IntKind} {L : Int} (l : Nat) {vs : List Value}
    (hc : Cells w ad vs) (hlen : vs.length = n * size) (hL : L = (l : Int)) (hl : l ≤ n) (hn : n ≤ cap)
    (hgd : o.guard = none) (ho : o.op = .slice t x (some lo) none none) (hx : a.eval x = .slice ad n cap) (hlo : a.eval lo = .int k L)
    (hK : ∀ ad', Cells w ad' (vs.drop (l * size)) → wpList P ops Q rest (a.put o.dst (.slice ad' (n - l) (cap - l))) w) :
    wpList P ops Q (o :: rest) a w := by
  refine wpList_plain hgd fun K hK' => ?_
  subst hL
  have hr := run_slice_any (w := w) E ad n cap l n (some (.int k l)) none (by
    have : (0 : Int) ≤ (l : Int) ∧ (l : Int) ≤ (n : Int) := by omega
    simp [Instr.sliceBounds, Instr.sliceBound, asIntOf, hl, hn, Nat.le_trans hl hn])
  unfold Oper.wp
  simp only [execOp, ho, hx, hlo, Option.map_some, Option.map_none]
  simp [hr, Result.andThen]
  exact hK' _ _ (hK _ (hc.shift (l * size) (cap = l) (fun h => by rw [hlen]; exact Nat.mul_le_mul_right _ (by omega))))

/-- 'xs[:hi]'. -/
theorem wpList_slice_to {x hi : Operand} {t e : TypeId} {z : Value} {size bytes : Nat} (E : Elem P t e z size bytes) {ad : Option Addr} {n cap : Nat} {k : IntKind} {H : Int} (h : Nat) {vs : List Value}
    (hc : Cells w ad vs) (hlen : vs.length = n * size) (hH : H = (h : Int)) (hl : h ≤ n) (hn : n ≤ cap)
    (hgd : o.guard = none) (ho : o.op = .slice t x none (some hi) none) (hx : a.eval x = .slice ad n cap) (hlo : a.eval hi = .int k H)
    (hK : Cells w ad (vs.take (h * size)) → wpList P ops Q rest (a.put o.dst (.slice ad h cap)) w) :
    wpList P ops Q (o :: rest) a w := by
  refine wpList_plain hgd fun K hK' => ?_
  subst hH
  have hr := run_slice_any (w := w) E ad n cap 0 h none (some (.int k h)) (by
    have : (0 : Int) ≤ (h : Int) ∧ (h : Int) ≤ (cap : Int) := by omega
    simp [Instr.sliceBounds, Instr.sliceBound, asIntOf, hl, hn, Nat.le_trans hl hn])
  have e : (if cap = 0 then ad else ad.map (·.add (0 * size))) = ad := by
    split
    · rfl
    · cases ad <;> simp [Addr.add]
  rw [e] at hr
  unfold Oper.wp
  simp only [execOp, ho, hx, hlo, Option.map_some, Option.map_none]
  simp [hr, Result.andThen]
  exact hK' _ _ (hK (hc.take _))

/-- 'xs[lo:hi]'. -/
theorem wpList_slice_mid {x lo hi : Operand} {t e : TypeId} {z : Value} {size bytes : Nat} (E : Elem P t e z size bytes) {ad : Option Addr} {n cap : Nat} {k k' : IntKind} {L H : Int} (l h : Nat) {vs : List Value}
    (hc : Cells w ad vs) (hlen : vs.length = n * size) (hL : L = (l : Int)) (hH : H = (h : Int)) (hl : l ≤ h) (hh : h ≤ n) (hn : n ≤ cap)
    (hgd : o.guard = none) (ho : o.op = .slice t x (some lo) (some hi) none) (hx : a.eval x = .slice ad n cap) (hlo : a.eval lo = .int k L) (hhi : a.eval hi = .int k' H)
    (hK : ∀ ad', ad' = (if cap = l then ad else ad.map (·.add (l * size))) → Cells w ad' ((vs.drop (l * size)).take ((h - l) * size)) → wpList P ops Q rest (a.put o.dst (.slice ad' (h - l) (cap - l))) w) :
    wpList P ops Q (o :: rest) a w := by
  refine wpList_plain hgd fun K hK' => ?_
  subst hL
  subst hH
  have hr := run_slice_any (w := w) E ad n cap l h (some (.int k l)) (some (.int k' h)) (by
    have h1 : (0 : Int) ≤ (l : Int) ∧ (l : Int) ≤ (h : Int) := by omega
    have h2 : (0 : Int) ≤ (h : Int) ∧ (h : Int) ≤ (cap : Int) := by omega
    simp [Instr.sliceBounds, Instr.sliceBound, asIntOf, hl, Nat.le_trans hh hn])
  unfold Oper.wp
  simp only [execOp, ho, hx, hlo, hhi, Option.map_some]
  simp [hr, Result.andThen]
  exact hK' _ _ (hK _ rfl ((hc.shift (l * size) (cap = l) (fun h => by rw [hlen]; exact Nat.mul_le_mul_right _ (by omega))).take _))

/-- A struct or array type: its zero, its cells. -/
structure Agg (P : Program) (ty : TypeId) (zs : Array Value) : Prop where
  desc : ∃ d, P.underlying ty = some d ∧ (match d with | .struct _ | .array _ _ => true | _ => false) = true
  info : (P.info? ty).map (fun i => (i.zero, i.size)) = some (some (.agg zs), zs.size)

theorem Agg.size {ty : TypeId} {zs : Array Value} (A : Agg P ty zs) : (P.info? ty).map (·.size) = some zs.size := (zero_of_info A.info).2

/-- 'var x T', T a struct or an array, its address taken. -/
theorem wpList_alloc_agg {ty : TypeId} {zs : Array Value} (A : Agg P ty zs) (hgd : o.guard = none) (ho : o.op = .alloc ty)
    (hK : ∀ w', w'.heap[w.heap.size]? = some (.cells zs ty (0, 0)) → w.grownBy w' none → w'.heap.size = w.heap.size + 1 → wpList P ops Q rest (a.put o.dst (.pointer (some ⟨w.heap.size, 0, none⟩))) w') :
    wpList P ops Q (o :: rest) a w := by
  refine wpList_plain hgd fun K hK' => ?_
  have hz := (zero_of_info A.info).1
  have hr : (Instr.alloc ty true (.tuple #[])).run P w = .ok (.pointer (some ⟨w.heap.size, 0, none⟩)) (w.alloc (.cells zs ty)) := by
    simp [Instr.alloc, hz, newVar, newRow, Value.cells]
  unfold Oper.wp
  simp only [execOp, ho]
  simp [hr, Result.andThen]
  exact hK' _ _ (hK _ (heap_alloc_new w _) (World.grownBy_alloc w _ none) (by simp))

/-- A struct or an array, whole, into a block of its own. -/
theorem wpList_store_row {ty : TypeId} {zs : Array Value} (A : Agg P ty zs) {p x : Operand} {g : Nat} {t : TypeId} {old cs : Array Value} (hg : w.heap[g]? = some (.cells old t (0, 0)))
    (hs : cs.size = zs.size) (hold : old.size = cs.size) (h1 : cs.all (·.oneCell') = true)
    (hgd : o.guard = none) (ho : o.op = .store ty p x) (hp : a.eval p = .pointer (some ⟨g, 0, none⟩)) (hx : a.eval x = .agg cs)
    (hK : ∀ w', w'.heap[g]? = some (.cells cs t (0, 0)) → w.grownBy w' (some g) → w'.heap.size = w.heap.size → wpList P ops Q rest (a.put o.dst undef) w') :
    wpList P ops Q (o :: rest) a w := by
  refine wpList_plain hgd fun K hK' => ?_
  have hr := run_storeVar_row (P := P) w g t ty old cs hg (by rw [A.size, hs]) hold h1
  have hr2 : (Instr.storeAt ty (.pointer (some ⟨g, 0, none⟩)) (.agg cs)).run P w = .ok () (w.setRow g cs) := by
    simp only [Instr.storeAt, Instr.sureAddr, Sem.run_bind, Sem.run_pure, Result.andThen]
    exact hr
  unfold Oper.wp
  simp only [execOp, ho, hp, hx]
  simp only [Sem.run_bind, hr2, Result.andThen, Sem.run_pure]
  exact hK' _ _ (hK _ (setRow_heap w g old cs t _ hg) ⟨rfl, rfl, rfl, by simp, fun k _ hk => setRow_other w g k _ (fun e => hk (by rw [e]))⟩ (by simp))

/-- 'arr[i]', arr an array by value, its elements of one cell. -/
theorem wpList_index_arr {ty e : TypeId} {n : Nat} {d : TypeDesc} {x ix : Operand} {cs : Array Value} {k : IntKind} {I : Int} (i : Nat) (hu : P.underlying ty = some (.array n e)) (he : P.underlying e = some d)
    (hd : (match d with | .struct _ | .array _ _ => true | _ => false) = false) (hi : (P.info? e).map (·.size) = some 1) (hI : I = (i : Int)) (hn : i < n) {v : Value} (hv : cs[i]? = some v)
    (hgd : o.guard = none) (ho : o.op = .index ty x ix) (hx : a.eval x = .agg cs) (hix : a.eval ix = .int k I)
    (hK : wpList P ops Q rest (a.put o.dst v) w) : wpList P ops Q (o :: rest) a w := by
  refine wpList_plain hgd fun K hK' => ?_
  subst hI
  have hagg : (isAgg e).run P w = .ok false w := by
    unfold isAgg
    rw [Sem.run_bind, run_underlying he w]
    cases d <;> simp_all
  have hr : (Instr.index ty (.agg cs) (.int k i)).run P w = .ok v w := by
    cases hq : P.info? e with
    | none => simp [hq] at hi
    | some inf =>
      have hs : inf.size = 1 := by simpa [hq] using hi
      have h2 : (i : Int) < (n : Int) := by omega
      simp [Instr.index, asIntOf, run_underlying hu, sizeOf, typeInfo, hq, hs, hn, part, hagg, hv]
  unfold Oper.wp
  simp only [execOp, ho, hx, hix]
  simp [hr, Result.andThen]
  exact hK' _ _ hK

/-- '[]byte(s)': a new row. -/
theorem wpList_bytes_of {x : Operand} {src dst e : TypeId} {s : ByteArray} (h1 : P.underlying src = some .string) (h2 : P.underlying dst = some (.slice e)) (h3 : P.underlying e = some (.int .u8))
    (hgd : o.guard = none) (ho : o.op = .convert src dst x) (hx : a.eval x = .string s)
    (hK : ∀ c w', Cells w' (some ⟨w.heap.size, 0, none⟩) ((bytesOf s).map vu8) → w.grownBy w' none → w'.heap.size = w.heap.size + 1 → wpList P ops Q rest (a.put o.dst (.slice (some ⟨w.heap.size, 0, none⟩) s.size c)) w') :
    wpList P ops Q (o :: rest) a w := by
  refine wpList_plain hgd fun K hK' => ?_
  have hr := Lib.run_convert_string_bytes (P := P) w src dst e s h1 h2 h3
  unfold Oper.wp
  simp only [execOp, ho, hx]
  simp [hr, Result.andThen]
  refine hK' _ _ (hK _ _ ?_ ?_ (Lib.bytesWorld_size w e s))
  · refine .inr ⟨_, _, rfl, fun i v hi => ?_⟩
    rw [List.getElem?_map] at hi
    obtain ⟨n, hn, rfl⟩ := Option.map_eq_some_iff.1 hi
    unfold bytesOf at hn
    rw [List.getElem?_map] at hn
    obtain ⟨u, hu, rfl⟩ := Option.map_eq_some_iff.1 hn
    have hl : i < s.size := by
      have := (List.getElem?_eq_some_iff.1 hu).1
      simpa using this
    rw [Nat.zero_add, Lib.bytesWorld_cell w e s i hl]
    simp only [List.getD_eq_getElem?_getD, hu, Option.getD_some]
  · exact ⟨rfl, rfl, rfl, by rw [Lib.bytesWorld_size]; omega, fun k hk _ => Lib.bytesWorld_at_old w e s k hk⟩

/-- 'string(b)'. -/
theorem wpList_string_of {x : Operand} {src dst e : TypeId} {ad : Option Addr} {c : Nat} {ns : List Nat} (h1 : P.underlying src = some (.slice e)) (h2 : P.underlying e = some (.int .u8)) (h3 : P.underlying dst = some .string)
    (hc : Cells w ad (ns.map vu8)) (hgd : o.guard = none) (ho : o.op = .convert src dst x) (hx : a.eval x = .slice ad ns.length c)
    (hK : wpList P ops Q rest (a.put o.dst (.string (strOf ns))) w) :
    wpList P ops Q (o :: rest) a w := by
  refine wpList_plain hgd fun K hK' => ?_
  have hr : (convert src dst (.slice ad ns.length c)).run P w = .ok (.string (strOf ns)) w := by
    rcases hc with h0 | ⟨b, off, rfl, hc⟩
    · have hn : ns = [] := by simpa using h0
      subst hn
      cases ad with
      | none => rw [run_convert_bytes_nil w src e h1 h2 _ _ dst h3]; rfl
      | some d =>
        rw [run_convert_bytes_string w src dst e (some d) _ c h1 h2 h3]
        have := run_bytesToString (P := P) w d 0 c [] (by simp [loadCells, loadCellsFrom])
        simp only [List.length_nil]
        rw [this]; rfl
    · rw [run_convert_bytes_arg w src e h1 h2 b off ns.length c (ns.map (fun n : Nat => (n : Int))) (by simp) ?_ dst h3]
      · congr 2
        simp [strOfNums, strOf]
      · intro i hi
        rw [hc i (vu8 (ns.getD i 0)) (by simp [hi])]
        simp [hi]
  unfold Oper.wp
  simp only [execOp, ho, hx]
  simp [hr, Result.andThen]
  exact hK' _ _ hK
end laws

theorem below_grownBy {B : Nat} {w0 w w' : World} {base e size n : Nat} {v : Value} {xs : List Value} (h : Below B w0 w) (ho : w.ownsRow base e size v n xs) (hg : w.grownBy w' v.ownBlock) (hB : B ≤ w0.heap.size) (hb : B ≤ base) : Below B w0 w' :=
  h.grown hg (Nat.le_trans hB h.size) (fun k e => Nat.le_trans hb (ho.lt k e).1)

theorem one_cells {k : IntKind} (ns : List Nat) : ∀ u ∈ ns.map (fun n : Nat => Value.int k (n : Int)), u.oneCell' = true := by
  intro u hu
  simp only [List.mem_map] at hu
  obtain ⟨n, _, rfl⟩ := hu
  rfl

theorem vint {k : IntKind} {a b : Int} (h : a = b) : Value.int k a = Value.int k b := by rw [h]
theorem ret_int {k : IntKind} {a b : Int} (h : a = b) : Ending.returned (.int k a) = .returned (.int k b) := by rw [h]
theorem ret_bool {a b : Bool} (h : a = b) : Ending.returned (.bool a) = .returned (.bool b) := by rw [h]

end Go.Proofs.Ytjgdplengfnkaaa
