/- Parts of the proof, one behind the other: Row, Cp, A, Pw, B, C, Cr, D, Cs, Ra, Reg, Aa, Dv, Dw, Tail. -/
import Derived.Test.YtpohaahihdhleaaGreatRows
import Derived.WalkKit
import Derived.WalkSpells
import Derived.WalkLawsBesides
import Derived.Lib.Hide
import Derived.Deep.Onto
import Derived.Lib.ConvBytes
import Derived.Laws.AppendOwnNone
import Derived.Deep.WholeRow
import Derived.Laws.BytesArg
import Derived.Laws.BitsAllLaws
import Derived.Deep.QuietTactic
import Derived.BigQuiet
import Derived.OwnWalk
import Derived.Laws.CopyOwn
set_option linter.unusedVariables false
namespace Go.Proofs.YtpohaahihdhleaaGreat
theorem LH {p : Prop} (h : p) : RowKit.Hid p := Lib.hid h
open Go.RowKit
abbrev vu64 (n : Nat) : Value := .int .u64 (n : Int)
abbrev vu8 (n : Nat) : Value := .int .u8 (n : Int)
def bytesOf (s : ByteArray) : List Nat := s.data.toList.map UInt8.toNat
theorem bytesOf_lt (s : ByteArray) : ∀ z ∈ bytesOf s, z < 256 := by
 intro z hz
 simp only [bytesOf, List.mem_map] at hz
 obtain ⟨u, _, rfl⟩ := hz
 exact u.toNat_lt
def Cells (w : World) (a : Option Addr) (vs : List Value) : Prop :=
 vs = [] ∨ ∃ b off, a = some ⟨b, off, none⟩ ∧ ∀ i v, vs[i]? = some v → w.cell? ⟨b, off + i, none⟩ = some v
theorem Cells.nil (w : World) (a : Option Addr) : Cells w a [] := .inl rfl
theorem Cells.at {w : World} {a : Option Addr} {vs : List Value} (h : Cells w a vs) {i : Nat} (hi : i < vs.length) :
  ∃ b off, a = some ⟨b, off, none⟩ ∧ b < w.heap.size ∧ ∀ i v, vs[i]? = some v → w.cell? ⟨b, off + i, none⟩ = some v := by
 rcases h with rfl | ⟨b, off, rfl, hc⟩
 ·simp at hi
 ·exact ⟨b, off, rfl, World.block_lt_of_cell? _ _ (hc i _ (List.getElem?_eq_getElem hi)), hc⟩
theorem Cells.atMap {α : Type} {f : α → Value} {w : World} {a : Option Addr} {xs : List α} (h : Cells w a (xs.map f)) (d : α) {i : Nat} (hi : i < xs.length) :
  ∃ b off, a = some ⟨b, off, none⟩ ∧ b < w.heap.size ∧ ∀ i, i < xs.length → w.cell? ⟨b, off + i, none⟩ = some (f (xs.getD i d)) := by
 obtain ⟨b, off, rfl, hb, hc⟩ := h.at (i := i) (by simpa using hi)
 exact ⟨b, off, rfl, hb, fun j hj => hc j _ (by simp [hj])⟩
theorem Cells.below {w w' : World} {a : Option Addr} {vs : List Value} {B : Nat} (h : Cells w a vs) (hb : Below B w w') (hB : w.heap.size ≤ B) : Cells w' a vs := by
 rcases h with hn | ⟨b, off, rfl, hc⟩
 ·exact .inl hn
 ·refine .inr ⟨b, off, rfl, fun i v hi => ?_⟩
  rw [hb.cell (p := ⟨b, off + i, none⟩) (Nat.lt_of_lt_of_le (World.block_lt_of_cell? _ _ (hc i v hi)) hB)]
  exact hc i v hi
theorem Cells.owned {w : World} {base e n cap : Nat} {a : Option Addr} {xs : List Value} (h : w.ownsRow base e 1 (.slice a n cap) n xs) : Cells w a xs := by
 rcases h.2 with ⟨_, h0⟩ | ⟨g, cap', cur, hv, _⟩
 ·exact .inl (List.eq_nil_of_length_eq_zero (by have := h.1; omega))
 ·refine .inr ⟨g, 0, by simp at hv; exact hv.1, fun i v hi => ?_⟩
  simp at hv
  obtain ⟨rfl, _⟩ := hv
  have := h.cells (g := g) rfl i v hi
  have ha : (⟨g, 0, none⟩ : Addr).add i = ⟨g, 0 + i, none⟩ := by unfold Addr.add; split <;> simp_all
  rwa [ha] at this
theorem Cells.drop {w : World} {b off : Nat} {vs : List Value} (h : Cells w (some ⟨b, off, none⟩) vs) (k : Nat) : Cells w (some ⟨b, off + k, none⟩) (vs.drop k) := by
 rcases h with rfl | ⟨b', off', he, hc⟩
 ·exact .inl (by simp)
 ·simp at he
  obtain ⟨rfl, rfl⟩ := he
  refine .inr ⟨b, off + k, rfl, fun i v hi => ?_⟩
  rw [List.getElem?_drop] at hi
  rw [Nat.add_assoc]
  exact hc _ _ hi
theorem Cells.take {w : World} {a : Option Addr} {vs : List Value} (h : Cells w a vs) (k : Nat) : Cells w a (vs.take k) := by
 rcases h with rfl | ⟨b, off, rfl, hc⟩
 ·exact .inl (by simp)
 ·refine .inr ⟨b, off, rfl, fun i v hi => ?_⟩
  rw [List.getElem?_take] at hi
  split at hi
  ·exact hc _ _ hi
  ·simp at hi
theorem owned_form {w : World} {base e size n : Nat} {v : Value} {xs : List Value} (h : w.ownsRow base e size v n xs) : ∃ a cap, v = .slice a n cap ∧ n ≤ cap ∧ cap ≤ maxLen := by
 rcases h.2 with ⟨rfl, rfl⟩ | ⟨g, cap, cur, rfl, _, _, h1, h2, _⟩
 ·exact ⟨none, 0, rfl, Nat.le_refl _, Nat.zero_le _⟩
 ·exact ⟨_, _, rfl, h1, h2⟩
theorem owned_below {w w' : World} {base e size n B : Nat} {v : Value} {xs : List Value} (h : w.ownsRow base e size v n xs) (hb : Below B w w') (hB : w.heap.size ≤ B) : w'.ownsRow base e size v n xs := by
 refine ⟨h.1, ?_⟩
 rcases h.2 with hn | ⟨g, cap, cur, rfl, h1, hg, r⟩
 ·exact .inl hn
 ·exact .inr ⟨g, cap, cur, rfl, h1, by rw [hb.block g (Nat.lt_of_lt_of_le (Array.getElem?_eq_some_iff.1 hg).1 hB)]; exact hg, r⟩
theorem cell_alloc_new (w : World) (cs : Array Value) (t : TypeId) (j : Nat) (v : Value) (h : cs[j]? = some v) : (w.alloc (.cells cs t)).cell? ⟨w.heap.size, j, none⟩ = some v := by
 rw [cell_of_row _ _ j cs t (0, 0) (heap_alloc_new w _)]; exact h
theorem below_alloc (w : World) (o : Obj) : Below w.heap.size w (w.alloc o) := (Below.refl _ _).alloc (Nat.le_refl _) o
theorem grown_heap {w w' : World} {v : Value} {base e size n g : Nat} {xs : List Value} {o : Obj} (hg : w.grownBy w' v.ownBlock) (ho : w.ownsRow base e size v n xs) (hb : g < base) (h : w.heap[g]? = some o) : w'.heap[g]? = some o := by
 rw [hg.block g (Array.getElem?_eq_some_iff.1 h).1 (fun c => by have := (ho.lt g c.symm).1; omega)]; exact h
theorem below_grown {B : Nat} {w w' : World} (h : w.grownBy w' none) (hB : B ≤ w.heap.size) : Below B w w' := (Below.refl B w).grown h hB (fun _ e => by cases e)
theorem made_cells (v : Value) (n : Nat) (h : v.cells = #[v]) : (madeCells v.cells (n * 1)).toList = List.replicate n v := by
 rw [h, Nat.mul_one]
 apply List.ext_getElem
 ·simp [madeCells]
 ·intro i h1 h2; simp [madeCells, Nat.mod_one]
structure Elem (P : Program) (t e : TypeId) (z : Value) (size bytes : Nat) : Prop where
 under : P.underlying t = some (.slice e)
 info : ∃ i, P.info? e = some i ∧ i.zero = some z ∧ i.size = size ∧ i.bytes = bytes
 cells : z.cells.size = size
 pos : 0 < size
theorem Elem.mk' {P : Program} {t e : TypeId} {z : Value} {size bytes : Nat} (h1 : P.underlying t = some (.slice e)) (h2 : (P.info? e).map (fun i => (i.zero, i.size, i.bytes)) = some (some z, size, bytes)) (h3 : z.cells.size = size) (h4 : 0 < size) : Elem P t e z size bytes :=
 ⟨h1, info_parts h2, h3, h4⟩
section laws
variable {P : Program} {w : World} {ops : Array Oper} {rest : List Oper} {o : Oper} {a : Act} {Q : Exit → Act → World → Prop}
theorem grownBy_of_alloc {w w' : World} {ob : Obj} {row : Option Nat} (h : (w.alloc ob).grownBy w' row) : w.grownBy w' row :=
 ⟨h.os, h.tape, h.output, Nat.le_trans (by simp) h.size, fun k hk hr => (h.block k (by simp; omega) hr).trans (Below.heap_alloc w ob k hk)⟩
theorem wpList_append_one {s x : Operand} {t e : TypeId} {z : Value} {bytes base n : Nat} {v u : Value} {xs : List Value} (E : Elem P t e z 1 bytes)
  (hown : w.ownsRow base e 1 v n xs) (hu : u.oneCell' = true) (hn : n < 1000000000000) (hby : bytes ≤ 64) (hbase : base ≤ w.heap.size)
  (hgd : o.guard = none) (ho : o.op = .call { callee := .builtin .append, args := #[s, x], argTypes := #[t, t] })
  (hs : a.eval s = v) (hx : a.eval x = .slice (some ⟨w.heap.size, 0, none⟩) 1 1)
  (hK : ∀ v' w', w'.ownsRow base e 1 v' (n + 1) (xs ++ [u]) → w.grownBy w' v.ownBlock → v' ≠ .slice none 0 0 → wpList P ops Q rest (a.put o.dst v') w') :
  wpList P ops Q (o :: rest) a (w.alloc (.cells #[u] e)) := by
 obtain ⟨i, h1, h2, h3, h4⟩ := E.info
 refine wpList_append_own _ hgd s x t ho base e i z 1 bytes E.under h1 h2 h3 h4 E.cells (by decide) v n xs hs (hown.alloc _) ⟨w.heap.size, 0, none⟩ 1 1 [u] hx rfl (cell_one_new w u e) (by simpa using hu) (by unfold maxLen; omega) ?_ (by simp; omega) ?_
 ·have : (n + 1) * bytes ≤ 1000000000000 * 64 := Nat.mul_le_mul (by omega) hby
  omega
 ·intro v' w' h1 h2 h3
  exact hK v' w' h1 (grownBy_of_alloc h2) (fun e => by have := (h3.1 e).2; omega)
theorem wpList_append_built {s x : Operand} {t e : TypeId} {z : Value} {size bytes base n : Nat} {v : Value} {xs : List Value} {us : Array Value} (E : Elem P t e z size bytes)
  (hown : w.ownsRow base e size v n xs) (hus : us.size = size) (hu : ∀ u ∈ us.toList, u.oneCell' = true) (hn : n < 1000000000000) (hby : bytes ≤ 64) (hbase : base ≤ w.heap.size)
  (hgd : o.guard = none) (ho : o.op = .call { callee := .builtin .append, args := #[s, x], argTypes := #[t, t] })
  (hs : a.eval s = v) (hx : a.eval x = .slice (some ⟨w.heap.size, 0, none⟩) 1 1)
  (hK : ∀ v' w', w'.ownsRow base e size v' (n + 1) (xs ++ us.toList) → w.grownBy w' v.ownBlock → v' ≠ .slice none 0 0 → wpList P ops Q rest (a.put o.dst v') w') :
  wpList P ops Q (o :: rest) a (w.alloc (.cells us e)) := by
 obtain ⟨i, h1, h2, h3, h4⟩ := E.info
 refine wpList_append_own _ hgd s x t ho base e i z size bytes E.under h1 h2 h3 h4 E.cells E.pos v n xs hs (hown.alloc _) ⟨w.heap.size, 0, none⟩ 1 1 us.toList hx (by simpa using hus) ?_ hu (by unfold maxLen; omega) ?_ (by simp; omega) ?_
 ·intro j u hj
  have e : (⟨w.heap.size, 0, none⟩ : Addr).add j = ⟨w.heap.size, j, none⟩ := by unfold Addr.add; split <;> simp_all
  rw [e]
  exact cell_alloc_new w us _ j u (by simpa using hj)
 ·have : (n + 1) * bytes ≤ 1000000000000 * 64 := Nat.mul_le_mul (by omega) hby
  omega
 ·intro v' w' h1 h2 h3
  exact hK v' w' h1 (grownBy_of_alloc h2) (fun e => by have := (h3.1 e).2; omega)
theorem wpList_append_many {s x : Operand} {t e : TypeId} {z : Value} {size bytes base n m c : Nat} {v : Value} {xs ys : List Value} {ad : Addr} (E : Elem P t e z size bytes)
  (hown : w.ownsRow base e size v n xs) (hl : ys.length = m * size) (hys : ∀ j u, ys[j]? = some u → w.cell? (ad.add j) = some u) (h1 : ∀ u ∈ ys, u.oneCell' = true)
  (hn : n + m < 1000000000000) (hby : bytes ≤ 64) (hbase : base ≤ w.heap.size)
  (hgd : o.guard = none) (ho : o.op = .call { callee := .builtin .append, args := #[s, x], argTypes := #[t, t] })
  (hs : a.eval s = v) (hx : a.eval x = .slice (some ad) m c)
  (hK : ∀ v' w', w'.ownsRow base e size v' (n + m) (xs ++ ys) → w.grownBy w' v.ownBlock → (v' = .slice none 0 0 ↔ v = .slice none 0 0 ∧ m = 0) → wpList P ops Q rest (a.put o.dst v') w') :
  wpList P ops Q (o :: rest) a w := by
 obtain ⟨i, i1, i2, i3, i4⟩ := E.info
 refine wpList_append_own _ hgd s x t ho base e i z size bytes E.under i1 i2 i3 i4 E.cells E.pos v n xs hs hown ad m c ys hx hl hys h1 (by unfold maxLen; omega) ?_ hbase hK
 have : (n + m) * bytes ≤ 1000000000000 * 64 := Nat.mul_le_mul (by omega) hby
 omega
theorem wpList_make_cap {l c : Operand} {t e : TypeId} {z : Value} {size bytes : Nat} (E : Elem P t e z size bytes) (base n : Nat) {kl kc : IntKind} {C : Int}
  (hC : C = (n : Int)) (hn : n < 1000000000000) (hby : bytes ≤ 64) (hbase : base ≤ w.heap.size)
  (hgd : o.guard = none) (ho : o.op = .makeSlice t l c) (hl : a.eval l = .int kl 0) (hc : a.eval c = .int kc C)
  (hK : ∀ w', w'.ownsRow base e size (.slice (some ⟨w.heap.size, 0, none⟩) 0 n) 0 [] → w.grownBy w' none → wpList P ops Q rest (a.put o.dst (.slice (some ⟨w.heap.size, 0, none⟩) 0 n)) w') :
  wpList P ops Q (o :: rest) a w := by
 obtain ⟨i, i1, i2, i3, i4⟩ := E.info
 refine wpList_make_own _ hgd l c t ho base e i z size E.under i1 i2 i3 kl kc C n hl hc hC ?_ (by unfold maxLen; omega) hbase hK
 rw [i4]
 have : bytes * n ≤ 64 * 1000000000000 := Nat.mul_le_mul hby (by omega)
 omega
theorem wpList_make_len {l c : Operand} {t e : TypeId} {z : Value} {bytes : Nat} (E : Elem P t e z 1 bytes) (base n : Nat) {kl kc : IntKind} {L C : Int} (hz : z.cells = #[z])
  (hL : L = (n : Int)) (hC : C = (n : Int)) (hn : n < 1000000000000) (hby : bytes ≤ 64) (hbase : base ≤ w.heap.size)
  (hgd : o.guard = none) (ho : o.op = .makeSlice t l c) (hl : a.eval l = .int kl L) (hc : a.eval c = .int kc C)
  (hK : ∀ w', w'.ownsRow base e 1 (.slice (some ⟨w.heap.size, 0, none⟩) n n) n (List.replicate n z) → w.grownBy w' none → wpList P ops Q rest (a.put o.dst (.slice (some ⟨w.heap.size, 0, none⟩) n n)) w') :
  wpList P ops Q (o :: rest) a w := by
 obtain ⟨i, i1, i2, i3, i4⟩ := E.info
 refine wpList_make_full _ hgd l c t ho base e i z 1 E.under i1 i2 i3 kl kc L C n hl hc hL hC ?_ (by unfold maxLen; omega) hbase ?_
 ·rw [i4]
  have : bytes * n ≤ 64 * 1000000000000 := Nat.mul_le_mul hby (by omega)
  omega
 ·rw [made_cells z n hz]
  exact hK
theorem wpList_append_rows {s x : Operand} {t e : TypeId} {z : Value} {size bytes base base2 n m : Nat} {v v2 : Value} {xs ys : List Value} (E : Elem P t e z size bytes)
  (hown : w.ownsRow base e size v n xs) (hsrc : w.ownsRow base2 e size v2 m ys) (h1 : ∀ u ∈ ys, u.oneCell' = true)
  (hn : n + m < 1000000000000) (hby : bytes ≤ 64) (hbase : base ≤ w.heap.size)
  (hgd : o.guard = none) (ho : o.op = .call { callee := .builtin .append, args := #[s, x], argTypes := #[t, t] })
  (hs : a.eval s = v) (hx : a.eval x = v2)
  (hK : ∀ v' w', w'.ownsRow base e size v' (n + m) (xs ++ ys) → w.grownBy w' v.ownBlock → wpList P ops Q rest (a.put o.dst v') w') :
  wpList P ops Q (o :: rest) a w := by
 rcases hsrc.2 with ⟨rfl, rfl⟩ | ⟨g, cap, cur, rfl, _⟩
 ·obtain ⟨i, i1, _⟩ := E.info
  have hy : ys = [] := List.eq_nil_of_length_eq_zero (by have := hsrc.1; simpa using this)
  subst hy
  refine wpList_append_own_none hgd s x t ho base e i size E.under i1 v n xs hs hown hx (hK v w (by simpa using hown) ⟨rfl, rfl, rfl, Nat.le_refl _, fun _ _ _ => rfl⟩)
 ·exact wpList_append_many E hown hsrc.1 (fun j u hj => hsrc.cells (g := g) rfl j u hj) h1 hn hby hbase hgd ho hs hx (fun v' w' a b _ => hK v' w' a b)
theorem run_slice_any {t e : TypeId} {z : Value} {size bytes : Nat} (E : Elem P t e z size bytes) (ad : Option Addr) (n cap l h : Nat) (low high : Option Value)
  (hb : (Instr.sliceBounds true n cap low high none).run P w = .ok (l, h, cap) w) :
  (Instr.sliceAt t (.slice ad n cap) low high none).run P w = .ok (.slice (if cap = l then ad else ad.map (·.add (l * size))) (h - l) (cap - l)) w := by
 obtain ⟨i, i1, i2, i3, i4⟩ := E.info
 simp [Instr.sliceAt, Instr.slice, run_underlying E.under, hb, sizeOf, typeInfo, i1, i3]
structure Agg (P : Program) (ty : TypeId) (zs : Array Value) : Prop where
 desc : ∃ d, P.underlying ty = some d ∧ (match d with | .struct _ | .array _ _ => true | _ => false) = true
 info : (P.info? ty).map (fun i => (i.zero, i.size)) = some (some (.agg zs), zs.size)
theorem Agg.size {ty : TypeId} {zs : Array Value} (A : Agg P ty zs) : (P.info? ty).map (·.size) = some zs.size := (zero_of_info A.info).2
theorem wpList_alloc_agg {ty : TypeId} {zs : Array Value} (A : Agg P ty zs) (hgd : o.guard = none) (ho : o.op = .alloc ty)
  (hK : ∀ w', w'.heap[w.heap.size]? = some (.cells zs ty (0, 0)) → w.grownBy w' none → w'.heap.size = w.heap.size + 1 → wpList P ops Q rest (a.put o.dst (.pointer (some ⟨w.heap.size, 0, none⟩))) w') :
  wpList P ops Q (o :: rest) a w := by
 refine wpList_plain hgd fun K hK' => ?_
 have hz := (zero_of_info A.info).1
 have hr : (Instr.alloc ty true (.tuple #[])).run P w = .ok (.pointer (some ⟨w.heap.size, 0, none⟩)) (w.alloc (.cells zs ty)) := by
  simp [Instr.alloc, hz, newVar, newRow, Value.cells]
 unfold Oper.wp
 simp only [execOp, ho]
 simp [hr, Result.andThen]
 exact hK' _ _ (hK _ (heap_alloc_new w _) (World.grownBy_alloc w _ none) (by simp))
theorem wpList_store_row {ty : TypeId} {zs : Array Value} (A : Agg P ty zs) {p x : Operand} {g : Nat} {t : TypeId} {old cs : Array Value} (hg : w.heap[g]? = some (.cells old t (0, 0)))
  (hs : cs.size = zs.size) (hold : old.size = cs.size) (h1 : cs.all (·.oneCell') = true)
  (hgd : o.guard = none) (ho : o.op = .store ty p x) (hp : a.eval p = .pointer (some ⟨g, 0, none⟩)) (hx : a.eval x = .agg cs)
  (hK : ∀ w', w'.heap[g]? = some (.cells cs t (0, 0)) → w.grownBy w' (some g) → w'.heap.size = w.heap.size → wpList P ops Q rest (a.put o.dst undef) w') :
  wpList P ops Q (o :: rest) a w := by
 refine wpList_plain hgd fun K hK' => ?_
 have hr := run_storeVar_row (P := P) w g t ty old cs hg (by rw [A.size, hs]) hold h1
 have hr2 : (Instr.storeAt ty (.pointer (some ⟨g, 0, none⟩)) (.agg cs)).run P w = .ok () (w.setRow g cs) := by
  simp only [Instr.storeAt, Instr.sureAddr, Sem.run_bind, Sem.run_pure, Result.andThen]
  exact hr
 unfold Oper.wp
 simp only [execOp, ho, hp, hx]
 simp only [Sem.run_bind, hr2, Result.andThen, Sem.run_pure]
 exact hK' _ _ (hK _ (setRow_heap w g old cs t _ hg) ⟨rfl, rfl, rfl, by simp, fun k _ hk => setRow_other w g k _ (fun e => hk (by rw [e]))⟩ (by simp))
theorem wpList_index_arr {ty e : TypeId} {n : Nat} {d : TypeDesc} {x ix : Operand} {cs : Array Value} {k : IntKind} {I : Int} (i : Nat) (hu : P.underlying ty = some (.array n e)) (he : P.underlying e = some d)
  (hd : (match d with | .struct _ | .array _ _ => true | _ => false) = false) (hi : (P.info? e).map (·.size) = some 1) (hI : I = (i : Int)) (hn : i < n) {v : Value} (hv : cs[i]? = some v)
  (hgd : o.guard = none) (ho : o.op = .index ty x ix) (hx : a.eval x = .agg cs) (hix : a.eval ix = .int k I)
  (hK : wpList P ops Q rest (a.put o.dst v) w) : wpList P ops Q (o :: rest) a w := by
 refine wpList_plain hgd fun K hK' => ?_
 subst hI
 have hagg : (isAgg e).run P w = .ok false w := by
  unfold isAgg
  rw [Sem.run_bind, run_underlying he w]
  cases d <;> simp_all
 have hr : (Instr.index ty (.agg cs) (.int k i)).run P w = .ok v w := by
  cases hq : P.info? e with
  | none => simp [hq] at hi
  | some inf =>
   have hs : inf.size = 1 := by simpa [hq] using hi
   have h2 : (i : Int) < (n : Int) := by omega
   simp [Instr.index, asIntOf, run_underlying hu, sizeOf, typeInfo, hq, hs, hn, part, hagg, hv]
 unfold Oper.wp
 simp only [execOp, ho, hx, hix]
 simp [hr, Result.andThen]
 exact hK' _ _ hK
end laws
theorem below_grownBy {B : Nat} {w0 w w' : World} {base e size n : Nat} {v : Value} {xs : List Value} (h : Below B w0 w) (ho : w.ownsRow base e size v n xs) (hg : w.grownBy w' v.ownBlock) (hB : B ≤ w0.heap.size) (hb : B ≤ base) : Below B w0 w' :=
 h.grown hg (Nat.le_trans hB h.size) (fun k e => Nat.le_trans hb (ho.lt k e).1)
theorem one_cells {k : IntKind} (ns : List Nat) : ∀ u ∈ ns.map (fun n : Nat => Value.int k (n : Int)), u.oneCell' = true := by
 intro u hu
 simp only [List.mem_map] at hu
 obtain ⟨n, _, rfl⟩ := hu
 rfl
theorem vint {k : IntKind} {a b : Int} (h : a = b) : Value.int k a = Value.int k b := by rw [h]
theorem ret_int {k : IntKind} {a b : Int} (h : a = b) : Ending.returned (.int k a) = .returned (.int k b) := by rw [h]
theorem ret_bool {a b : Bool} (h : a = b) : Ending.returned (.bool a) = .returned (.bool b) := by rw [h]
end Go.Proofs.YtpohaahihdhleaaGreat
namespace Go.Proofs.YtpohaahihdhleaaGreat
def poly : Nat := 3988292384
def bitN (s : Nat) : Nat := if s % 2 = 1 then (s / 2) ^^^ poly else s / 2
theorem bitN_xor (x y : Nat) : bitN (x ^^^ y) = bitN x ^^^ bitN y := by
 have hd : (x ^^^ y) / 2 = x / 2 ^^^ y / 2 := Nat.xor_div_two
 have hm : (x ^^^ y) % 2 = (x % 2 + y % 2) % 2 := by
  have h := @Nat.xor_mod_two_eq_one x y
  omega
 unfold bitN
 rw [hd, hm]
 rcases Nat.mod_two_eq_zero_or_one x with hx | hx <;> rcases Nat.mod_two_eq_zero_or_one y with hy | hy <;> rw [hx, hy] <;> simp
 ·rw [Nat.xor_assoc]
 ·rw [Nat.xor_assoc, Nat.xor_assoc, Nat.xor_comm poly]
 ·generalize x / 2 = a
  generalize y / 2 = b
  rw [show a ^^^ poly ^^^ (b ^^^ poly) = a ^^^ b ^^^ (poly ^^^ poly) by
   rw [Nat.xor_assoc, Nat.xor_assoc, ← Nat.xor_assoc poly b poly, Nat.xor_comm poly b, Nat.xor_assoc]]
  simp
theorem bitN_two (q : Nat) : bitN (2 * q) = q := by unfold bitN; rw [if_neg (by omega)]; omega
def bit4 (s : Nat) : Nat := bitN (bitN (bitN (bitN s)))
theorem bit4_xor (x y : Nat) : bit4 (x ^^^ y) = bit4 x ^^^ bit4 y := by unfold bit4; rw [bitN_xor, bitN_xor, bitN_xor, bitN_xor]
theorem bit4_up (q : Nat) : bit4 (16 * q) = q := by
 unfold bit4
 rw [show 16 * q = 2 * (2 * (2 * (2 * q))) by omega, bitN_two, bitN_two, bitN_two, bitN_two]
def tableL : List Nat := [0, 498536548, 997073096, 651767980, 1994146192, 1802195444, 1303535960, 1342533948, 3988292384, 4027552580, 3604390888, 3412177804, 2607071920, 2262029012, 2685067896, 3183342108]
theorem bit4_low : ∀ i : Nat, i < 16 → bit4 i = tableL.getD i 0 := by decide
theorem split16 (x : Nat) : x = (16 * (x / 16)) ^^^ (x % 16) := by
 have h : 16 * (x / 16) ||| x % 16 = 16 * (x / 16) + x % 16 := by
  have := Nat.two_pow_add_eq_or_of_lt (i := 4) (b := x % 16) (Nat.mod_lt _ (by decide)) (x / 16)
  simpa using this.symm
 have h2 : 16 * (x / 16) ^^^ x % 16 = 16 * (x / 16) ||| x % 16 := by
  apply Nat.eq_of_testBit_eq
  intro i
  rw [Nat.testBit_xor, Nat.testBit_or]
  by_cases hi : i < 4
  ·have : (16 * (x / 16)).testBit i = false := by
    rw [show 16 * (x / 16) = 2 ^ 4 * (x / 16) by rfl, Nat.testBit_two_pow_mul]
    simp; omega
   rw [this]; simp
  ·have : (x % 16).testBit i = false := by
    rw [show x % 16 = x % 2 ^ 4 by rfl, Nat.testBit_mod_two_pow]
    simp; omega
   rw [this]; simp
 rw [h2, h]; omega
theorem bit4_eq (x : Nat) : bit4 x = tableL.getD (x % 16) 0 ^^^ (x / 16) := by
 conv => lhs; rw [split16 x]
 rw [bit4_xor, bit4_up, bit4_low _ (Nat.mod_lt _ (by decide)), Nat.xor_comm]
def tabN (i : Nat) : Nat := tableL.getD (i % 16) 0
def nib (s b : Nat) : Nat := tabN (s % 256 ^^^ b) ^^^ (s / 16)
theorem xor_mod16 (s b : Nat) : (s % 256 ^^^ b) % 16 = (s ^^^ b) % 16 := by
 have h := fun x y => @Nat.xor_mod_two_pow x y 4
 simp only [show (2:Nat) ^ 4 = 16 by rfl] at h
 rw [h, h, Nat.mod_mod_of_dvd _ (by decide : 16 ∣ 256)]
theorem bit4_nib (s b : Nat) : bit4 (s ^^^ b) = nib s b ^^^ (b / 16) := by
 have hd : (s ^^^ b) / 16 = s / 16 ^^^ b / 16 := by
  have := @Nat.xor_div_two_pow s b 4
  simpa using this
 rw [bit4_eq, nib, tabN, xor_mod16, hd, Nat.xor_assoc]
def byteN (s b : Nat) : Nat := bit4 (bit4 (s ^^^ b))
theorem byteN_nib (s b : Nat) (h : b < 256) : nib (nib s b) (b / 16) = byteN s b := by
 have h0 : b / 16 / 16 = 0 := by omega
 unfold byteN
 rw [bit4_nib, bit4_nib, h0, Nat.xor_zero]
theorem poly_lt : poly < 2 ^ 32 := by decide
theorem bitN_lt (s : Nat) (h : s < 2 ^ 32) : bitN s < 2 ^ 32 := by
 unfold bitN
 split
 ·exact Nat.xor_lt_two_pow (by omega) poly_lt
 ·omega
theorem bit4_lt (s : Nat) (h : s < 2 ^ 32) : bit4 s < 2 ^ 32 := bitN_lt _ (bitN_lt _ (bitN_lt _ (bitN_lt _ h)))
theorem byteN_lt (s b : Nat) (h : s < 2 ^ 32) (hb : b < 256) : byteN s b < 2 ^ 32 := bit4_lt _ (bit4_lt _ (Nat.xor_lt_two_pow h (by omega)))
theorem tableL_lt (i : Nat) : tableL.getD i 0 < 2 ^ 32 := by
 by_cases h : i < 16
 ·have : ∀ i : Nat, i < 16 → tableL.getD i 0 < 2 ^ 32 := by decide
  exact this i h
 ·rw [List.getD_eq_getElem?_getD, List.getElem?_eq_none (by show 16 ≤ i; omega)]; decide
theorem nib_lt (s b : Nat) (h : s < 2 ^ 32) : nib s b < 2 ^ 32 := Nat.xor_lt_two_pow (tableL_lt _) (by omega)
theorem not32 (x : Nat) (h : x < 2 ^ 32) : 4294967295 ^^^ x = 4294967295 - x := by
 apply Nat.eq_of_testBit_eq
 intro i
 have e1 : (4294967295 : Nat) = 2 ^ 32 - 1 := by decide
 have e2 : 4294967295 - x = 2 ^ 32 - (x + 1) := by omega
 rw [e2, Nat.testBit_two_pow_sub_succ h, Nat.testBit_xor, e1, Nat.testBit_two_pow_sub_one]
 by_cases hi : i < 32
 ·simp [hi]
 ·have : x.testBit i = false := Nat.testBit_lt_two_pow (Nat.lt_of_lt_of_le h (Nat.pow_le_pow_right (by decide) (by omega)))
  simp [hi, this]
def foldN (s : Nat) (l : List Nat) : Nat := l.foldl byteN s
def moreN (s : Nat) (l : List Nat) : Nat := 4294967295 - foldN (4294967295 - s) l
theorem foldN_lt (l : List Nat) (h : ∀ z ∈ l, z < 256) : ∀ s, s < 2 ^ 32 → foldN s l < 2 ^ 32 := by
 induction l with
 | nil => intro s hs; exact hs
 | cons z l ih => intro s hs; exact ih (fun y hy => h y (by simp [hy])) _ (byteN_lt s z hs (h z (by simp)))
theorem foldN_take (s : Nat) (l : List Nat) (k : Nat) (h : k < l.length) : foldN s (l.take (k + 1)) = byteN (foldN s (l.take k)) (l.getD k 0) := by
 have e : l.getD k 0 = l[k] := by simp [h]
 rw [List.take_succ_eq_append_getElem h, e]
 unfold foldN
 rw [List.foldl_append]; rfl
theorem moreN_lt (s : Nat) (l : List Nat) : moreN s l < 2 ^ 32 := by unfold moreN; omega
end Go.Proofs.YtpohaahihdhleaaGreat
namespace Go.Proofs.YtpohaahihdhleaaGreat
open Go.RowKit
def upN (n size : Int) : Int := if n ≤ 0 ∨ size ≤ 0 then 0 else (n - 1) / size + 1
set_option maxHeartbeats 400000 in
theorem up_any (n s : Int) (w : World) (h1 : n ≤ 4611686018427387904) (h2 : s ≤ 4611686018427387904) :
  Calls Tryz.prog 42 #[.int .i64 n, .int .i64 s] w fun e w' => e = .returned (.int .i64 (upN n s)) ∧ w = w' := by
 by_cases a : n ≤ 0
 ·go_enter Tryz.func42, Tryz.ntmps42
  go_wp2
  go_ret
  exact ⟨by simp [upN, a], rfl⟩
 ·by_cases b : s ≤ 0
  ·go_enter Tryz.func42, Tryz.ntmps42
   go_wp2
   go_ret
   exact ⟨by simp [upN, b], rfl⟩
  ·have h3 : 0 ≤ (n - 1) / s := Int.ediv_nonneg (by omega) (by omega)
   have h4 : (n - 1) / s ≤ n - 1 := Int.ediv_le_self _ (by omega)
   go_enter Tryz.func42, Tryz.ntmps42
   go_wp2
   go_ret
   exact ⟨ret_int (by rw [upN, if_neg (by omega)]), rfl⟩
set_option maxHeartbeats 400000 in
theorem cright_any (k : Int) (w : World) : Calls Tryz.prog 131 #[.int .i64 k] w fun e w' => e = .returned (.bool (decide (0 ≤ k ∧ k < 32))) ∧ w = w' := by
 by_cases h1 : 0 ≤ k
 ·by_cases h2 : k < 32
  ·go_enter Tryz.func131, Tryz.ntmps131
   go_wp2
   go_ret
   exact ⟨ret_bool (by simp [h1, h2]), rfl⟩
  ·go_enter Tryz.func131, Tryz.ntmps131
   go_wp2
   go_ret
   exact ⟨ret_bool (by simp [h2]), rfl⟩
 ·go_enter Tryz.func131, Tryz.ntmps131
  go_wp2
  go_ret
  exact ⟨ret_bool (by simp; omega), rfl⟩
end Go.Proofs.YtpohaahihdhleaaGreat
namespace Go.Proofs.YtpohaahihdhleaaGreat
def bytes8 (w : Nat) : List Nat :=
 [w % 256, w / 256 % 256, w / 65536 % 256, w / 16777216 % 256, w / 4294967296 % 256, w / 1099511627776 % 256, w / 281474976710656 % 256, w / 72057594037927936 % 256]
def unpack (ws : List Nat) : List Nat := ws.flatMap bytes8
theorem unpack_length (ws : List Nat) : (unpack ws).length = 8 * ws.length := by
 induction ws with
 | nil => rfl
 | cons a l ih => simp [unpack, List.flatMap_cons] at ih ⊢; rw [ih]; simp [bytes8]; omega
theorem unpack_lt (ws : List Nat) : ∀ x ∈ unpack ws, x < 256 := by
 intro x hx
 simp only [unpack, List.mem_flatMap, bytes8] at hx
 obtain ⟨a, _, hx⟩ := hx
 simp at hx
 omega
end Go.Proofs.YtpohaahihdhleaaGreat
namespace Go.Proofs.YtpohaahihdhleaaGreat
open Go.RowKit
theorem el64 : Elem Tryz.prog 31 40 (.int .u64 0) 1 8 := Elem.mk' Tryz.underlying31 (by kernel_rfl) rfl (by decide)
theorem el8 : Elem Tryz.prog 79 5 (.int .u8 0) 1 1 := Elem.mk' Tryz.underlying79 (by kernel_rfl) rfl (by decide)
theorem byte_val (x t : Nat) (ht : t < 8) : (x : Int) / 2 ^ (8 * t) % 256 = (((bytes8 x).getD t 0 : Nat) : Int) := by
 have c : t = 0 ∨ t = 1 ∨ t = 2 ∨ t = 3 ∨ t = 4 ∨ t = 5 ∨ t = 6 ∨ t = 7 := by omega
 rcases c with rfl | rfl | rfl | rfl | rfl | rfl | rfl | rfl <;> simp [bytes8]
theorem unpack_take (ws : List Nat) (k : Nat) (h : k < ws.length) : unpack (ws.take (k + 1)) = unpack (ws.take k) ++ bytes8 (ws.getD k 0) := by
 have e : ws.getD k 0 = ws[k] := by simp [h]
 rw [List.take_succ_eq_append_getElem h, e]
 unfold unpack
 rw [List.flatMap_append]
 simp
theorem bytes8_take (x t : Nat) (h : t < 8) : (bytes8 x).take (t + 1) = (bytes8 x).take t ++ [(bytes8 x).getD t 0] := by
 have c : t = 0 ∨ t = 1 ∨ t = 2 ∨ t = 3 ∨ t = 4 ∨ t = 5 ∨ t = 6 ∨ t = 7 := by omega
 rcases c with rfl | rfl | rfl | rfl | rfl | rfl | rfl | rfl <;> rfl
def unTo (ws : List Nat) (k t : Nat) : List Nat := unpack (ws.take k) ++ (bytes8 (ws.getD k 0)).take t
theorem unTo_zero (ws : List Nat) (k : Nat) : unTo ws k 0 = unpack (ws.take k) := by simp [unTo]
theorem unTo_eight (ws : List Nat) (k : Nat) (h : k < ws.length) : unTo ws k 8 = unTo ws (k + 1) 0 := by
 rw [unTo_zero, unpack_take ws k h]; rfl
theorem unTo_step (ws : List Nat) (k t : Nat) (h : t < 8) : unTo ws k (t + 1) = unTo ws k t ++ [(bytes8 (ws.getD k 0)).getD t 0] := by
 unfold unTo; rw [bytes8_take _ _ h, List.append_assoc]
theorem unTo_len (ws : List Nat) (k t : Nat) (hk : k ≤ ws.length) : (unTo ws k t).length ≤ 8 * ws.length + 8 := by
 unfold unTo
 rw [List.length_append, unpack_length, List.length_take, List.length_take]
 have : (bytes8 (ws.getD k 0)).length = 8 := rfl
 omega
set_option maxHeartbeats 400000 in
theorem bytes_any (a : Option Addr) {n : Nat} (cap : Nat) (ws : List Nat) (hn : ws.length = n) (w : World) (h : Cells w a (ws.map vu64)) (hz : ∀ z ∈ ws, z < 18446744073709551616) (hl : ws.length ≤ 1000000) :
  Calls Tryz.prog 170 #[.slice a n cap] w fun e w' => ∃ v, e = .returned v ∧ w'.ownsRow w.heap.size 5 1 v (unpack ws).length ((unpack ws).map vu8) ∧ Below w.heap.size w w' := by
 subst hn
 have HZ := LH hz
 clear hz
 go_enter Tryz.func170, Tryz.ntmps170
 go_wp2_with (at_make; refine wpList_make_cap el8 w.heap.size (8 * ws.length) (by omega) (by omega) (by decide) (Nat.le_refl _) rfl rfl rfl rfl ?_; intro w1 hown hgrow)
 go_loopw [3, 13] (fun v i wr => ∃ k : Nat, k ≤ ws.length ∧ i = .int .i64 k ∧ wr.ownsRow w.heap.size 5 1 v (unTo ws k 0).length ((unTo ws k 0).map vu8) ∧ Below w.heap.size w wr)
  (fun _ i _ => ws.length - (intOf i).toNat)
 case atStart => exact ⟨0, Nat.zero_le _, rfl, hown, below_grown hgrow (Nat.le_refl _)⟩
 case round =>
  obtain ⟨k, hk, rfl, ho, hb⟩ := hrel
  by_cases hlt : k < ws.length
  ·obtain ⟨b, off, rfl, hbs, hc⟩ := h.atMap 0 hlt
   have hcell : wr.cell? ⟨b, off + k, none⟩ = some (.int .u64 (ws.getD k 0 : Nat)) := by rw [hb.cell (p := ⟨b, off + k, none⟩) hbs]; exact hc k hlt
   obtain ⟨x, hx⟩ : ∃ x, x = ws.getD k 0 := ⟨_, rfl⟩
   rw [← hx] at hcell
   have HX := LH hx
   clear hc hx
   go_wp2
   obtain ⟨wo, rfl⟩ : ∃ wo : World, wo = wr := ⟨_, rfl⟩
   go_loopw [3, 17] (fun v i wr => ∃ t : Nat, t ≤ 8 ∧ i = .int .i64 t ∧ wr.ownsRow w.heap.size 5 1 v (unTo ws k t).length ((unTo ws k t).map vu8) ∧ Below w.heap.size w wr)
    (fun _ i _ => 8 - (intOf i).toNat)
   case atStart => exact ⟨0, by omega, rfl, ho, hb⟩
   case round =>
    clear ho hb
    obtain ⟨t, ht, rfl, ho, hb⟩ := hrel
    by_cases hlt8 : t < 8
    ·have HB := LH (byte_val x t hlt8)
     have HS := LH (unTo_step ws k t hlt8)
     have hln := unTo_len ws k t hk
     go_wp2_with (at_builtin; refine wpList_append_one el8 ho rfl (by omega) (by decide) hb.size rfl rfl rfl rfl ?_; intro v' w2 ho2 hg2 _)
     have hb2 := below_grownBy hb ho hg2 (Nat.le_refl _) (Nat.le_refl _)
     rw [HB.out, HX.out] at ho2
     have ho3 : w2.ownsRow w.heap.size 5 1 v' (unTo ws k (t + 1)).length ((unTo ws k (t + 1)).map vu8) := by
      rw [HS.out, List.map_append, List.length_append]; exact ho2
     clear ho2 ho hg2 hb
     go_wp2
     go_roundw
     case rel => exact ⟨t + 1, by omega, by go_num, ho3, hb2⟩
     case measure => simp [intOf]; omega
    ·obtain rfl : t = 8 := by omega
     go_wp2
     go_roundw
     case rel => exact ⟨k + 1, by omega, by go_num, by rw [← unTo_eight ws k hlt]; exact ho, hb⟩
     case measure => simp [intOf]; omega
  ·go_wp2
   go_ret
   have he : k = ws.length := by omega
   subst he
   rw [unTo_zero, List.take_length] at ho
   exact ⟨_, rfl, ho, hb⟩
abbrev vu32 (n : Nat) : Value := .int .u32 (n : Int)
def tableV : Array Value := (tableL.map vu32).toArray
theorem tableV_at (k : Nat) (h : k < 16) : tableV[k]? = some (vu32 (tableL.getD k 0)) := by
 have hj : k < tableL.length := h
 simp only [tableV, List.getElem?_toArray, List.getElem?_map, List.getElem?_eq_getElem hj, Option.map_some, List.getD_eq_getElem?_getD, Option.getD_some]
set_option maxHeartbeats 400000 in
set_option maxRecDepth 100000 in
theorem table_any (x : Nat) (hx : x < 256) (w : World) : Calls Tryz.prog 214 #[vu8 x] w fun e w' => e = .returned (vu32 (tabN x)) ∧ w = w' := by
 have HV := LH (tableV_at (x % 16) (Nat.mod_lt _ (by decide)))
 go_enter Tryz.func214, Tryz.ntmps214
 go_wp2_with (refine wpList_index_arr (x % 16) Tryz.underlying305 Tryz.underlying166 rfl (by kernel_rfl) (by omega) (by omega) HV.out rfl rfl rfl rfl ?_)
 go_ret
 exact ⟨ret_int (by rw [tabN, List.getD_eq_getElem?_getD]), rfl⟩
theorem not_val (s : Nat) (h : s < 2 ^ 32) : bits BinOp.xor IntKind.u32 IntKind.u32.max (s : Int) = ((4294967295 - s : Nat) : Int) := by
 have e : IntKind.u32.max = ((4294967295 : Nat) : Int) := by decide
 rw [e, u32_xor_nat _ _ (by decide) h, not32 s h]
theorem nib_val1 (s b : Nat) (h : s < 2 ^ 32) (hb : b < 256) : bits BinOp.xor IntKind.u8 ((s : Int) % 256) (b : Int) = ((s % 256 ^^^ b : Nat) : Int) := by
 rw [show (s : Int) % 256 = ((s % 256 : Nat) : Int) by omega, u8_xor_nat _ _ (Nat.mod_lt _ (by decide)) hb]
theorem nib_val2 (s b : Nat) (h : s < 2 ^ 32) : bits BinOp.xor IntKind.u32 ((tabN (s % 256 ^^^ b) : Nat) : Int) ((s : Int) / 16) = ((nib s b : Nat) : Int) := by
 rw [show (s : Int) / 16 = ((s / 16 : Nat) : Int) by omega, u32_xor_nat _ _ (show tabN _ < 4294967296 from tableL_lt _) (by omega)]; rfl
set_option maxHeartbeats 400000 in
theorem more_any (s : Nat) (hs : s < 2 ^ 32) (a : Option Addr) {n : Nat} (cap : Nat) (zs : List Nat) (hn : zs.length = n) (w : World) (hcs : Cells w a (zs.map vu8)) (hz : ∀ z ∈ zs, z < 256) (hl : zs.length ≤ 1000000) :
  Calls Tryz.prog 199 #[vu32 s, .slice a n cap] w fun e w' => e = .returned (vu32 (moreN s zs)) ∧ w = w' := by
 subst hn
 have HZ := LH hz
 clear hz
 go_enter Tryz.func199, Tryz.ntmps199
 go_wp2_with fail
 rw [not_val s hs]
 have hs0 : 4294967295 - s < 2 ^ 32 := by omega
 obtain ⟨q, hq⟩ : ∃ q, q = 4294967295 - s := ⟨_, rfl⟩
 rw [← hq] at hs0 ⊢
 have HQ := LH hq
 clear hq
 go_loop [0, 11] (fun v i => ∃ k : Nat, k ≤ zs.length ∧ i = .int .i64 k ∧ v = vu32 (foldN q (zs.take k))) (fun _ i => zs.length - (intOf i).toNat)
 case atStart => exact ⟨0, Nat.zero_le _, rfl, rfl⟩
 case round =>
  obtain ⟨k, hk, rfl, rfl⟩ := hrel
  by_cases hlt : k < zs.length
  ·obtain ⟨b, off, rfl, hbs, hc⟩ := hcs.atMap 0 hlt
   have hcell : w.cell? ⟨b, off + k, none⟩ = some (.int .u8 (zs.getD k 0 : Nat)) := hc k hlt
   have hx := HZ.out (zs.getD k 0) (by simp [hlt])
   have hf := foldN_lt (zs.take k) (fun z hz => HZ.out z (List.mem_of_mem_take hz)) q hs0
   have HS := LH (foldN_take q zs k hlt)
   clear hc
   generalize zs.getD k 0 = x at *
   generalize foldN q (zs.take k) = s1 at *
   have HB := LH (byteN_nib s1 x hx)
   have hn1 := nib_lt s1 x hf
   go_wp2_with fail
   rw [nib_val1 s1 x hf hx]
   refine (table_any _ (Nat.xor_lt_two_pow (n := 8) (Nat.mod_lt _ (by decide)) hx) _).mono ?_
   rintro e w1 ⟨rfl, rfl⟩
   go_wp2_with fail
   rw [nib_val2 s1 x hf]
   generalize nib s1 x = s2 at *
   have hx2 : x / 16 < 256 := by omega
   rw [show (x : Int) / 16 = ((x / 16 : Nat) : Int) by omega]
   generalize x / 16 = x2 at *
   go_wp2_with fail
   rw [nib_val1 s2 x2 hn1 hx2]
   refine (table_any _ (Nat.xor_lt_two_pow (n := 8) (Nat.mod_lt _ (by decide)) hx2) _).mono ?_
   rintro e w1 ⟨rfl, rfl⟩
   go_wp2_with fail
   rw [nib_val2 s2 x2 hn1, HB.out, ← HS.out]
   exact ⟨⟨k + 1, by omega, vint (by omega), rfl⟩, by simp [intOf]; omega⟩
  ·obtain rfl : k = zs.length := by omega
   rw [List.take_length]
   have hf := foldN_lt zs HZ.out q hs0
   have HM : Hid (moreN s zs = 4294967295 - foldN q zs) := LH (by rw [HQ.out]; rfl)
   generalize foldN q zs = s1 at *
   go_wp2_with fail
   go_ret
   exact ⟨ret_int (by rw [not_val s1 hf, HM.out]), rfl⟩
set_option maxHeartbeats 400000 in
theorem sum_any (a : Option Addr) {n : Nat} (cap : Nat) (zs : List Nat) (hn : zs.length = n) (w : World) (hcs : Cells w a (zs.map vu8)) (hz : ∀ z ∈ zs, z < 256) (hl : zs.length ≤ 1000000) :
  Calls Tryz.prog 169 #[.slice a n cap] w fun e w' => e = .returned (vu32 (moreN 0 zs)) ∧ w = w' := by
 go_enter Tryz.func169, Tryz.ntmps169
 go_wp2_with fail
 refine (more_any 0 (by decide) a cap zs hn w hcs hz hl).mono ?_
 rintro e w2 ⟨rfl, rfl⟩
 go_wp2_with fail
 go_ret
 exact ⟨rfl, rfl⟩
def wordsN (ws : List Nat) : Nat := moreN 0 (unpack ws)
set_option maxHeartbeats 400000 in
theorem crcWords_any (a : Option Addr) {n : Nat} (cap : Nat) (ws : List Nat) (hn : ws.length = n) (w : World) (h : Cells w a (ws.map vu64)) (hz : ∀ z ∈ ws, z < 18446744073709551616) (hl : ws.length ≤ 1000) :
  Calls Tryz.prog 137 #[.slice a n cap] w fun e w' => e = .returned (vu32 (wordsN ws)) ∧ Below w.heap.size w w' := by
 go_enter Tryz.func137, Tryz.ntmps137
 go_wp2_with fail
 refine (bytes_any a cap ws hn w h hz (by omega)).mono ?_
 rintro e w1 ⟨v, rfl, ho, hb⟩
 obtain ⟨a1, c1, rfl, _, _⟩ := owned_form ho
 have hcs := Cells.owned ho
 have hl1 : (unpack ws).length ≤ 1000000 := by rw [unpack_length]; omega
 have hz1 := unpack_lt ws
 clear ho
 go_wp2_with fail
 refine (sum_any a1 c1 (unpack ws) rfl w1 hcs hz1 hl1).mono ?_
 rintro e w2 ⟨rfl, rfl⟩
 go_wp2_with fail
 go_ret
 exact ⟨rfl, hb⟩
def sealN (n place : Nat) : Nat := wordsN [n, place] * 4294967296 + n
theorem wordsN_lt (ws : List Nat) : wordsN ws < 4294967296 := moreN_lt _ _
def pl (p : Int) : Nat := (p % 18446744073709551616).toNat
theorem pl_lt (p : Int) : pl p < 18446744073709551616 := by unfold pl; omega
theorem pl_wrap (p : Int) : IntKind.u64.wrap p = (pl p : Int) := by rw [IntKind.wrap_u64]; unfold pl; omega
theorem seal_val (n : Nat) (h : n < 4294967296) (x : Nat) (hx : x < 4294967296) : bits BinOp.or IntKind.u64 ((x : Int) * 4294967296) (n : Int) = ((x * 4294967296 + n : Nat) : Int) := by
 have e : ((x : Int) * 4294967296) = ((x * 4294967296 : Nat) : Int) := by omega
 rw [e, u64_or_nat _ _ (by omega) (by omega)]
 have := Nat.two_pow_add_eq_or_of_lt (i := 32) (b := n) h x
 congr 1
 rw [Nat.mul_comm x]
 exact this.symm
set_option maxHeartbeats 400000 in
theorem seal_any (n : Nat) (p : Int) (hn : n < 4294967296) (w : World) :
  Calls Tryz.prog 152 #[vu32 n, .int .i64 p] w fun e w' => e = .returned (vu64 (sealN n (pl p))) ∧ Below w.heap.size w w' := by
 go_enter Tryz.func152, Tryz.ntmps152
 go_wp2_with fail
 rw [pl_wrap p]
 have hp := pl_lt p
 obtain ⟨q, hq⟩ : ∃ q, q = pl p := ⟨_, rfl⟩
 rw [← hq] at hp ⊢
 have HQ := LH hq
 clear hq
 have HS : Hid (sealN n q = wordsN [n, q] * 4294967296 + n) := LH rfl
 have hb0 := below_alloc w (Obj.cells #[Value.int IntKind.u64 (n : Int), Value.int IntKind.u64 (q : Int)] 40)
 have hc0 : Cells (w.alloc (Obj.cells #[Value.int IntKind.u64 (n : Int), Value.int IntKind.u64 (q : Int)] 40)) (some ⟨w.heap.size, 0, none⟩) ([n, q].map vu64) := by
  refine .inr ⟨_, _, rfl, fun i v hi => ?_⟩
  rw [Nat.zero_add]
  refine cell_alloc_new _ _ _ _ _ ?_
  simpa using hi
 generalize w.alloc (Obj.cells #[Value.int IntKind.u64 (n : Int), Value.int IntKind.u64 (q : Int)] 40) = w0 at *
 refine (crcWords_any _ 2 [n, q] rfl w0 hc0 (by simp; omega) (by simp)).mono ?_
 rintro e w1 ⟨rfl, hb1⟩
 have hb := hb0.trans (hb1.mono hb0.size)
 have hw := wordsN_lt [n, q]
 generalize wordsN [n, q] = x at *
 clear hb0 hb1 hc0
 go_wp2_with fail
 go_ret
 exact ⟨ret_int (by rw [seal_val n hn x hw, ← HQ.out, HS.out]), hb⟩
theorem sealN_lt (n q : Nat) (h : n < 4294967296) : sealN n q < 18446744073709551616 := by have := wordsN_lt [n, q]; unfold sealN; omega
def openN (x q : Nat) : Option Nat := if sealN (x % 4294967296) q = x then some (x % 4294967296) else none
def openV : Option Nat → Value
 | some n => .tuple #[vu32 n, .bool true]
 | none => .tuple #[vu32 0, .bool false]
set_option maxHeartbeats 400000 in
theorem open_any (x : Nat) (p : Int) (hx : x < 18446744073709551616) (w : World) :
  Calls Tryz.prog 138 #[vu64 x, .int .i64 p] w fun e w' => e = .returned (openV (openN x (pl p))) ∧ Below w.heap.size w w' := by
 go_enter Tryz.func138, Tryz.ntmps138
 go_wp2_with fail
 rw [show (x : Int) % 4294967296 = ((x % 4294967296 : Nat) : Int) by omega]
 have hn : x % 4294967296 < 4294967296 := Nat.mod_lt _ (by decide)
 have HO : Hid (openN x (pl p) = if sealN (x % 4294967296) (pl p) = x then some (x % 4294967296) else none) := LH rfl
 generalize x % 4294967296 = n at *
 refine (seal_any n p hn w).mono ?_
 rintro e w1 ⟨rfl, hb⟩
 have hs := sealN_lt n (pl p) hn
 generalize sealN n (pl p) = y at *
 by_cases he : y = x
 ·have HV : Hid (openV (openN x (pl p)) = .tuple #[vu32 n, .bool true]) := LH (by rw [HO.out, if_pos he]; rfl)
  subst he
  go_wp2_with fail
  go_ret2
  exact ⟨by rw [HV.out]; rfl, hb⟩
 ·have HV : Hid (openV (openN x (pl p)) = .tuple #[vu32 0, .bool false]) := LH (by rw [HO.out, if_neg he]; rfl)
  have he' : ¬ ((y : Int) = (x : Int)) := by omega
  clear he
  go_wp2_with fail
  go_ret2
  exact ⟨by rw [HV.out]; rfl, hb⟩
theorem byte_quo (x t : Nat) (ht : t < 8) : x / 256 ^ t % 256 = (bytes8 x).getD t 0 := by
 have c : t = 0 ∨ t = 1 ∨ t = 2 ∨ t = 3 ∨ t = 4 ∨ t = 5 ∨ t = 6 ∨ t = 7 := by omega
 rcases c with rfl | rfl | rfl | rfl | rfl | rfl | rfl | rfl <;> simp [bytes8]
theorem quo_lt (x t : Nat) (h : x < 18446744073709551616) : x / 256 ^ t < 18446744073709551616 := Nat.lt_of_le_of_lt (Nat.div_le_self _ _) h
theorem quo_succ (x t : Nat) : x / 256 ^ t / 256 = x / 256 ^ (t + 1) := by rw [Nat.div_div_eq_div_mul, Nat.pow_succ]
theorem getD64 {ws : List Nat} (h : ∀ z ∈ ws, z < 18446744073709551616) (i : Nat) : ws.getD i 0 < 18446744073709551616 := by
 rw [List.getD_eq_getElem?_getD]
 by_cases c : i < ws.length
 ·rw [List.getElem?_eq_getElem c]; exact h _ (List.getElem_mem c)
 ·rw [List.getElem?_eq_none (by omega)]; simp
set_option maxHeartbeats 400000 in
theorem rbytes_any (a : Option Addr) {n : Nat} (cap : Nat) (ws : List Nat) (hn : ws.length = n) (w : World) (h : Cells w a (ws.map vu64)) (hz : ∀ z ∈ ws, z < 18446744073709551616) (hl : ws.length ≤ 1000000) :
  Calls Tryz.prog 136 #[.slice a n cap] w fun e w' => ∃ v, e = .returned v ∧ w'.ownsRow w.heap.size 5 1 v (unpack ws).length ((unpack ws).map vu8) ∧ Below w.heap.size w w' := by
 subst hn
 have HZ := LH hz
 clear hz
 go_enter Tryz.func136, Tryz.ntmps136
 go_wp2
 go_loopw [3, 4] (fun v i wr => ∃ k : Nat, k ≤ ws.length ∧ i = .int .i64 k ∧ wr.ownsRow w.heap.size 5 1 v (unTo ws k 0).length ((unTo ws k 0).map vu8) ∧ Below w.heap.size w wr)
  (fun _ i _ => ws.length - (intOf i).toNat)
 case atStart => exact ⟨0, Nat.zero_le _, rfl, World.ownsRow_nil _ _ _ _, Below.refl _ _⟩
 case round =>
  obtain ⟨k, hk, rfl, ho, hb⟩ := hrel
  by_cases hlt : k < ws.length
  ·obtain ⟨b, off, rfl, hbs, hc⟩ := h.atMap 0 hlt
   have hcell : wr.cell? ⟨b, off + k, none⟩ = some (.int .u64 (ws.getD k 0 : Nat)) := by rw [hb.cell (p := ⟨b, off + k, none⟩) hbs]; exact hc k hlt
   have hx64 := getD64 HZ.out k
   obtain ⟨x, hx⟩ : ∃ x, x = ws.getD k 0 := ⟨_, rfl⟩
   rw [← hx] at hcell hx64
   have HX := LH hx
   clear hc hx
   go_wp2
   obtain ⟨wo, rfl⟩ : ∃ wo : World, wo = wr := ⟨_, rfl⟩
   go_loopw [3, 5, 6] (fun v y i wr => ∃ t : Nat, t ≤ 8 ∧ i = .int .i64 t ∧ y = .int .u64 (x / 256 ^ t : Nat) ∧ wr.ownsRow w.heap.size 5 1 v (unTo ws k t).length ((unTo ws k t).map vu8) ∧ Below w.heap.size w wr)
    (fun _ _ i _ => 8 - (intOf i).toNat)
   case atStart => exact ⟨0, by omega, rfl, by simp, ho, hb⟩
   case round =>
    clear ho hb
    obtain ⟨t, ht, rfl, rfl, ho, hb⟩ := hrel
    by_cases hlt8 : t < 8
    ·have HB := LH (byte_quo x t hlt8)
     have HS := LH (unTo_step ws k t hlt8)
     have HQ := LH (quo_succ x t)
     have hy := quo_lt x t hx64
     generalize x / 256 ^ t = y at *
     have hln := unTo_len ws k t hk
     go_wp2_with (at_builtin; refine wpList_append_one el8 ho rfl (by omega) (by decide) hb.size rfl rfl rfl rfl ?_; intro v' w2 ho2 hg2 _)
     have hb2 := below_grownBy hb ho hg2 (Nat.le_refl _) (Nat.le_refl _)
     have ho3 : w2.ownsRow w.heap.size 5 1 v' (unTo ws k (t + 1)).length ((unTo ws k (t + 1)).map vu8) := by
      have e : ((y : Int) % 256) = (((bytes8 (ws.getD k 0)).getD t 0 : Nat) : Int) := by rw [← HX.out, ← HB.out]; omega
      rw [e] at ho2
      rw [HS.out, List.map_append, List.length_append]; exact ho2
     refine ⟨⟨t + 1, by omega, by go_num, ?_, ho3, hb2⟩, by simp [intOf]; omega⟩
     have := HQ.out
     congr 1
     omega
    ·obtain rfl : t = 8 := by omega
     go_wp2
     go_roundw
     case rel => exact ⟨k + 1, by omega, by go_num, by rw [← unTo_eight ws k hlt]; exact ho, hb⟩
     case measure => simp [intOf]; omega
  ·go_wp2
   go_ret
   have he : k = ws.length := by omega
   subst he
   rw [unTo_zero, List.take_length] at ho
   exact ⟨_, rfl, ho, hb⟩
theorem getD_ext {xs ys : List Nat} (hl : xs.length = ys.length) (h : ∀ i, i < xs.length → xs.getD i 0 = ys.getD i 0) : xs = ys := by
 apply List.ext_getElem hl
 intro i h1 h2
 have := h i h1
 rwa [List.getD_eq_getElem?_getD, List.getD_eq_getElem?_getD, List.getElem?_eq_getElem h1, List.getElem?_eq_getElem h2] at this
def itN : Nat → Nat → Nat
 | 0, x => x
 | t + 1, x => bitN (itN t x)
theorem itN_eight (s b : Nat) : itN 8 (s ^^^ b) = byteN s b := rfl
theorem itN_lt (t x : Nat) (h : x < 2 ^ 32) : itN t x < 2 ^ 32 := by
 induction t with
 | zero => exact h
 | succ t ih => exact bitN_lt _ ih
theorem bit_odd (s : Nat) (h : s < 2 ^ 32) : bits BinOp.xor IntKind.u32 ((s / 2 : Nat) : Int) 3988292384 = ((s / 2 ^^^ poly : Nat) : Int) :=
 u32_xor_nat (s / 2) 3988292384 (by omega) (by decide)
set_option maxHeartbeats 400000 in
theorem rmore_any (s : Nat) (hs : s < 2 ^ 32) (a : Option Addr) {n : Nat} (cap : Nat) (zs : List Nat) (hn : zs.length = n) (w : World) (hcs : Cells w a (zs.map vu8)) (hz : ∀ z ∈ zs, z < 256) (hl : zs.length ≤ 1000000) :
  Calls Tryz.prog 135 #[vu32 s, .slice a n cap] w fun e w' => e = .returned (vu32 (moreN s zs)) ∧ w = w' := by
 subst hn
 have HZ := LH hz
 clear hz
 go_enter Tryz.func135, Tryz.ntmps135
 go_wp2_with fail
 have hs0 : 4294967295 - s < 2 ^ 32 := by omega
 rw [show (4294967295 : Int) - (s : Int) = ((4294967295 - s : Nat) : Int) by omega]
 obtain ⟨q, hq⟩ : ∃ q, q = 4294967295 - s := ⟨_, rfl⟩
 rw [← hq] at hs0 ⊢
 have HQ := LH hq
 clear hq
 go_loop [5, 6] (fun v i => ∃ k : Nat, k ≤ zs.length ∧ i = .int .i64 k ∧ v = vu32 (foldN q (zs.take k))) (fun _ i => zs.length - (intOf i).toNat)
 case atStart => exact ⟨0, Nat.zero_le _, rfl, rfl⟩
 case round =>
  obtain ⟨k, hk, rfl, rfl⟩ := hrel
  by_cases hlt : k < zs.length
  ·obtain ⟨b, off, rfl, hbs, hc⟩ := hcs.atMap 0 hlt
   have hcell : w.cell? ⟨b, off + k, none⟩ = some (.int .u8 (zs.getD k 0 : Nat)) := hc k hlt
   have hx := HZ.out (zs.getD k 0) (by simp [hlt])
   have hf := foldN_lt (zs.take k) (fun z hz => HZ.out z (List.mem_of_mem_take hz)) q hs0
   have HS := LH (foldN_take q zs k hlt)
   clear hc
   generalize zs.getD k 0 = x at *
   generalize foldN q (zs.take k) = s1 at *
   have hy : s1 ^^^ x < 2 ^ 32 := Nat.xor_lt_two_pow hf (by omega)
   have HE := LH (itN_eight s1 x)
   go_wp2_with fail
   rw [u32_xor_nat s1 x hf (by omega)]
   generalize s1 ^^^ x = y at *
   go_loop [5, 7] (fun v i => ∃ t : Nat, t ≤ 8 ∧ i = .int .i64 t ∧ v = vu32 (itN t y)) (fun _ i => 8 - (intOf i).toNat)
   case atStart => exact ⟨0, Nat.zero_le _, rfl, rfl⟩
   case round =>
    obtain ⟨t, ht, rfl, rfl⟩ := hrel
    by_cases hlt8 : t < 8
    ·have hz := itN_lt t y hy
     have HI : Hid (itN (t + 1) y = bitN (itN t y)) := LH rfl
     generalize itN t y = z at *
     by_cases hm : z % 2 = 1
     ·have HB : Hid (bitN z = (z / 2) ^^^ poly) := LH (by unfold bitN; rw [if_pos hm])
      have HX := LH (bit_odd z hz)
      have hm' : (z : Int) % 2 = 1 := by omega
      clear hm
      go_wp2_with fail
      refine ⟨⟨t + 1, by omega, vint (by omega), ?_⟩, by simp [intOf]; omega⟩
      rw [HI.out, HB.out]
      exact vint HX.out
     ·have HB : Hid (bitN z = z / 2) := LH (by unfold bitN; rw [if_neg hm])
      have hm' : (z : Int) % 2 = 0 := by omega
      clear hm
      go_wp2_with fail
      refine ⟨⟨t + 1, by omega, vint (by omega), ?_⟩, by simp [intOf]; omega⟩
      rw [HI.out, HB.out]
      exact vint (by omega)
    ·obtain rfl : t = 8 := by omega
     go_wp2_with fail
     refine ⟨⟨k + 1, by omega, vint (by omega), ?_⟩, by simp [intOf]; omega⟩
     rw [HS.out, HE.out]
  ·obtain rfl : k = zs.length := by omega
   rw [List.take_length]
   have hf := foldN_lt zs HZ.out q hs0
   have HM : Hid (moreN s zs = 4294967295 - foldN q zs) := LH (by rw [HQ.out]; rfl)
   generalize foldN q zs = s1 at *
   go_wp2_with fail
   go_ret
   exact ⟨ret_int (by rw [HM.out]; omega), rfl⟩
set_option maxHeartbeats 400000 in
theorem rcrcWords_any (a : Option Addr) {n : Nat} (cap : Nat) (ws : List Nat) (hn : ws.length = n) (w : World) (h : Cells w a (ws.map vu64)) (hz : ∀ z ∈ ws, z < 18446744073709551616) (hl : ws.length ≤ 1000) :
  Calls Tryz.prog 82 #[.slice a n cap] w fun e w' => e = .returned (vu32 (wordsN ws)) ∧ Below w.heap.size w w' := by
 go_enter Tryz.func82, Tryz.ntmps82
 go_wp2_with fail
 refine (rbytes_any a cap ws hn w h hz (by omega)).mono ?_
 rintro e w1 ⟨v, rfl, ho, hb⟩
 obtain ⟨a1, c1, rfl, _, _⟩ := owned_form ho
 have hcs := Cells.owned ho
 have hl1 : (unpack ws).length ≤ 1000000 := by rw [unpack_length]; omega
 have hz1 := unpack_lt ws
 clear ho
 go_wp2_with fail
 refine (rmore_any 0 (by decide) a1 c1 (unpack ws) rfl w1 hcs hz1 hl1).mono ?_
 rintro e w2 ⟨rfl, rfl⟩
 go_wp2_with fail
 go_ret
 exact ⟨rfl, hb⟩
set_option maxHeartbeats 400000 in
theorem rseal_any (n : Nat) (p : Int) (hn : n < 4294967296) (w : World) :
  Calls Tryz.prog 84 #[vu32 n, .int .i64 p] w fun e w' => e = .returned (vu64 (sealN n (pl p))) ∧ Below w.heap.size w w' := by
 go_enter Tryz.func84, Tryz.ntmps84
 go_wp2_with fail
 rw [pl_wrap p]
 have hp := pl_lt p
 obtain ⟨q, hq⟩ : ∃ q, q = pl p := ⟨_, rfl⟩
 rw [← hq] at hp ⊢
 have HQ := LH hq
 clear hq
 have HS : Hid (sealN n q = wordsN [n, q] * 4294967296 + n) := LH rfl
 have hb0 := below_alloc w (Obj.cells #[Value.int IntKind.u64 (n : Int), Value.int IntKind.u64 (q : Int)] 40)
 have hc0 : Cells (w.alloc (Obj.cells #[Value.int IntKind.u64 (n : Int), Value.int IntKind.u64 (q : Int)] 40)) (some ⟨w.heap.size, 0, none⟩) ([n, q].map vu64) := by
  refine .inr ⟨_, _, rfl, fun i v hi => ?_⟩
  rw [Nat.zero_add]
  refine cell_alloc_new _ _ _ _ _ ?_
  simpa using hi
 generalize w.alloc (Obj.cells #[Value.int IntKind.u64 (n : Int), Value.int IntKind.u64 (q : Int)] 40) = w0 at *
 refine (rcrcWords_any _ 2 [n, q] rfl w0 hc0 (by simp; omega) (by simp)).mono ?_
 rintro e w1 ⟨rfl, hb1⟩
 have hb := hb0.trans (hb1.mono hb0.size)
 have hw := wordsN_lt [n, q]
 generalize wordsN [n, q] = x at *
 clear hb0 hb1 hc0
 go_wp2_with fail
 go_ret
 exact ⟨ret_int (by rw [← HQ.out, HS.out]; omega), hb⟩
set_option maxHeartbeats 400000 in
theorem ropen_any (x : Nat) (p : Int) (hx : x < 18446744073709551616) (w : World) :
  Calls Tryz.prog 144 #[vu64 x, .int .i64 p] w fun e w' => e = .returned (openV (openN x (pl p))) ∧ Below w.heap.size w w' := by
 go_enter Tryz.func144, Tryz.ntmps144
 go_wp2_with fail
 rw [show (x : Int) % 4294967296 = ((x % 4294967296 : Nat) : Int) by omega]
 have hn : x % 4294967296 < 4294967296 := Nat.mod_lt _ (by decide)
 have HO : Hid (openN x (pl p) = if sealN (x % 4294967296) (pl p) = x then some (x % 4294967296) else none) := LH rfl
 generalize x % 4294967296 = n at *
 refine (rseal_any n p hn w).mono ?_
 rintro e w1 ⟨rfl, hb⟩
 have hs := sealN_lt n (pl p) hn
 generalize sealN n (pl p) = y at *
 by_cases he : y = x
 ·have HV : Hid (openV (openN x (pl p)) = .tuple #[vu32 n, .bool true]) := LH (by rw [HO.out, if_pos he]; rfl)
  subst he
  go_wp2_with fail
  go_ret2
  exact ⟨by rw [HV.out]; rfl, hb⟩
 ·have HV : Hid (openV (openN x (pl p)) = .tuple #[vu32 0, .bool false]) := LH (by rw [HO.out, if_neg he]; rfl)
  have he' : ¬ ((y : Int) = (x : Int)) := by omega
  clear he
  go_wp2_with fail
  go_ret2
  exact ⟨by rw [HV.out]; rfl, hb⟩
def RowAt (w : World) (g e : Nat) (vs : List Value) : Prop := ∃ xs : Array Value, w.heap[g]? = some (.cells xs e (0, 0)) ∧ ∃ more, xs.toList = vs ++ more
theorem RowAt.cell {w : World} {g e : Nat} {vs : List Value} (h : RowAt w g e vs) {i : Nat} {v : Value} (hi : vs[i]? = some v) : w.cell? ⟨g, i, none⟩ = some v := by
 obtain ⟨xs, hg, more, hx⟩ := h
 rw [cell_of_row _ _ i xs e (0, 0) hg, ← Array.getElem?_toList, hx, List.getElem?_append_left (List.getElem?_eq_some_iff.1 hi).1]
 exact hi
theorem RowAt.frozen {w : World} {g e : Nat} {vs : List Value} (h : RowAt w g e vs) (i : Nat) : w.frozen? ⟨g, i, none⟩ = false := by
 obtain ⟨xs, hg, _⟩ := h
 exact frozen_of_row _ _ _ _ _ hg
theorem RowAt.lt {w : World} {g e : Nat} {vs : List Value} (h : RowAt w g e vs) : g < w.heap.size := by
 obtain ⟨xs, hg, _⟩ := h
 exact (Array.getElem?_eq_some_iff.1 hg).1
theorem RowAt.keep {w w' : World} {g e : Nat} {vs : List Value} (h : RowAt w g e vs) (hk : w'.heap[g]? = w.heap[g]?) : RowAt w' g e vs := by
 obtain ⟨xs, hg, r⟩ := h
 exact ⟨xs, hk.trans hg, r⟩
theorem RowAt.set {w : World} {g e : Nat} {vs : List Value} (h : RowAt w g e vs) (i : Nat) (hi : i < vs.length) (v : Value) : RowAt (w.setCell ⟨g, i, none⟩ v) g e (vs.set i v) := by
 obtain ⟨xs, hg, more, hx⟩ := h
 refine ⟨_, heap_setCell_same w g i xs e v hg, more, ?_⟩
 rw [Array.toList_setIfInBounds, hx, List.set_append_left _ _ hi]
theorem RowAt.cells {w : World} {g e : Nat} {vs : List Value} (h : RowAt w g e vs) : Cells w (some ⟨g, 0, none⟩) vs :=
 .inr ⟨g, 0, rfl, fun i v hi => by rw [Nat.zero_add]; exact h.cell hi⟩
structure Touch (L : List Nat) (w w' : World) : Prop where
 os : w'.os = w.os
 tape : w'.tape = w.tape
 output : w'.output = w.output
 size : w.heap.size ≤ w'.heap.size
 block : ∀ k, k < w.heap.size → k ∉ L → w'.heap[k]? = w.heap[k]?
theorem Touch.refl (L : List Nat) (w : World) : Touch L w w := ⟨rfl, rfl, rfl, Nat.le_refl _, fun _ _ _ => rfl⟩
theorem Touch.trans {L : List Nat} {a b c : World} (h : Touch L a b) (k : Touch L b c) : Touch L a c :=
 ⟨k.os.trans h.os, k.tape.trans h.tape, k.output.trans h.output, Nat.le_trans h.size k.size, fun i hi hn => (k.block i (Nat.lt_of_lt_of_le hi h.size) hn).trans (h.block i hi hn)⟩
theorem Touch.setCell {L : List Nat} {w : World} (p : Addr) (hp : p.block ∈ L) (u : Value) : Touch L w (w.setCell p u) :=
 ⟨rfl, rfl, rfl, by simp [World.setCell], fun k _ hn => Below.heap_setCell _ _ _ _ (fun e => hn (e ▸ hp))⟩
theorem Touch.below {L : List Nat} {B : Nat} {w w' : World} (h : Touch L w w') (hB : B ≤ w.heap.size) (hL : ∀ k ∈ L, B ≤ k) : Below B w w' :=
 ⟨h.os, h.tape, h.output, h.size, fun k hk => h.block k (by omega) (fun hm => by have := hL k hm; omega)⟩
theorem Touch.ofBelow {L : List Nat} {w w' : World} (h : Below w.heap.size w w') : Touch L w w' := ⟨h.os, h.tape, h.output, h.size, fun k hk _ => h.block k hk⟩
structure Later (w : World) where
 val : World
 below : Below w.heap.size w val
instance (w : World) : Nonempty (Later w) := ⟨⟨w, Below.refl _ _⟩⟩
theorem later_cell {w : World} {p : Addr} {v : Value} (h : w.cell? p = some v) (x : Later w) : x.val.cell? p = some v := by
 rw [x.below.cell (World.block_lt_of_cell? _ _ h)]; exact h
section
variable {P : Program} {ops : Array Oper} {md : Region.Mode} {C : World → Prop} {Q : Exit → Act → World → Prop}
theorem wp_region_later {id : Nat} {a : Act} {w : World} {l : List Oper} (hm : P.follows .mixedOrders = true) (hB : Region.lexB .any l.toArray = true)
  (h : wpQuiet P l.toArray (fun w' => ∃ x : Later w, w' = x.val) (fun a' => ∀ w', (∃ x : Later w, w' = x.val) → Q .normal a' w') l a) : (Code.region id l.toArray true).wp P Q a w :=
 wp_region_quiet (C := fun w' => ∃ x : Later w, w' = x.val) hm hB ⟨⟨w.drew, (Below.refl _ _).drew⟩, rfl⟩ (by simpa using h)
theorem calls_later {f : FuncId} {args : Array Value} {w : World} {x : Later w} {v : Value} (h : Calls P f args x.val fun e w' => e = .returned v ∧ Below x.val.heap.size x.val w') :
  Calls P f args x.val fun e w'' => e = .returned v ∧ ∃ y : Later w, w'' = y.val :=
 h.mono fun _ w' ⟨he, hb⟩ => ⟨he, ⟨w', x.below.trans (hb.mono x.below.size)⟩, rfl⟩
theorem owned_some {w : World} {base e size n : Nat} {v : Value} {xs : List Value} (h : w.ownsRow base e size v n xs) (hn : 0 < n) : ∃ g c, v = .slice (some ⟨g, 0, none⟩) n c ∧ n ≤ c ∧ c ≤ maxLen ∧ base ≤ g ∧ g < w.heap.size := by
 rcases h.2 with ⟨rfl, rfl⟩ | ⟨g, cap, cur, rfl, hb, hg, h1, h2, _⟩
 ·omega
 ·exact ⟨_, _, rfl, h1, h2, hb, (Array.getElem?_eq_some_iff.1 hg).1⟩
theorem wpList_append_new {w : World} {rest : List Oper} {o : Oper} {a : Act} {s x : Operand} {t e : TypeId} {z : Value} {size bytes base n : Nat} {v : Value} {xs : List Value} {us : Array Value} (E : Elem P t e z size bytes)
  (hown : w.ownsRow base e size v n xs) (hus : us.size = size) (hu : ∀ u ∈ us.toList, u.oneCell' = true) (hn : n < 1000000000000) (hby : bytes ≤ 64) (hbase : base ≤ w.heap.size)
  (hgd : o.guard = none) (ho : o.op = .call { callee := .builtin .append, args := #[s, x], argTypes := #[t, t] })
  (hs : a.eval s = v) (hx : a.eval x = .slice (some ⟨w.heap.size, 0, none⟩) 1 1)
  (hK : ∀ g c w', w'.ownsRow base e size (.slice (some ⟨g, 0, none⟩) (n + 1) c) (n + 1) (xs ++ us.toList) → w.grownBy w' v.ownBlock → n + 1 ≤ c → c ≤ maxLen → base ≤ g → g < w'.heap.size →
   wpList P ops Q rest (a.put o.dst (.slice (some ⟨g, 0, none⟩) (n + 1) c)) w') :
  wpList P ops Q (o :: rest) a (w.alloc (.cells us e)) := by
 refine wpList_append_built E hown hus hu hn hby hbase hgd ho hs hx ?_
 intro v' w' h1 h2 _
 obtain ⟨g, c, rfl, hc, hm, hb, hg⟩ := owned_some h1 (by omega)
 exact hK g c w' h1 h2 hc hm hb hg
def calm : Op → Bool
 | .move _ | .assign _ | .pick .. | .build .. | .load .. | .unOp .. | .slice .. | .fieldAddr .. | .field .. | .indexAddr .. | .index .. | .extract .. | .binOp .. | .convert .. | .nilCheck _ => true
 | .call { callee := .builtin .len, .. } => true
 | _ => false
theorem calm_value {o : Oper} (h : calm o.op = true) {ρ : Operand → Value} {w w' : World} {n : Next} (hr : (execOp ρ o).run P w = .ok n w') : ∃ v, n = .value v := by
 have key : ∀ (s : Sem Value), (do pure (Next.value (← s)) : Sem Next).run P w = .ok n w' → ∃ v, n = .value v := by
  intro s hs
  rw [Sem.run_bind] at hs
  cases hq : s.run P w with
  | ok v w1 => rw [hq] at hs; simp [Result.andThen] at hs; exact ⟨v, hs.1.symm⟩
  | halt x w1 => rw [hq] at hs; simp [Result.andThen] at hs
 obtain ⟨dst, op, type, pos, after, guard⟩ := o
 cases op with
 | move x => simp [execOp] at hr; exact ⟨_, hr.1.symm⟩
 | assign x => simp [execOp] at hr; exact ⟨_, hr.1.symm⟩
 | pick c x y =>
  simp only [execOp, Sem.run_bind] at hr
  cases hq : (asBool (ρ c)).run P w with
  | ok v w1 => rw [hq] at hr; simp [Result.andThen] at hr; exact ⟨_, hr.1.symm⟩
  | halt x w1 => rw [hq] at hr; simp [Result.andThen] at hr
 | call c =>
  obtain ⟨callee, args, tys⟩ := c
  cases callee with
  | builtin b =>
   cases b with
   | len =>
    simp only [execOp, resolve, Sem.run_bind, Sem.run_pure, Result.andThen_ok, invoke, builtin] at hr
    exact key _ (by rw [Sem.run_bind]; exact hr)
   | _ => simp [calm] at h
  | _ => simp [calm] at h
 | build t ps => exact key _ hr
 | load t x => exact key _ hr
 | unOp x t y => exact key _ hr
 | slice t x l h m => exact key _ hr
 | fieldAddr t x f => exact key _ hr
 | field t x f => exact key _ hr
 | indexAddr t x i => exact key _ hr
 | index t x i => exact key _ hr
 | extract x i => exact key _ hr
 | binOp o t x y u => exact key _ hr
 | convert x y z => exact key _ hr
 | nilCheck x =>
  simp only [execOp] at hr
  split at hr
  ·simp [go_sem] at hr
  ·simp [go_sem] at hr
  ·simp [go_sem] at hr
  ·split at hr
   ·simp [go_sem] at hr
   ·simp only [Sem.run_bind] at hr
    cases hq : (program : Sem Program).run P w with
    | ok v w1 =>
     rw [hq] at hr
     simp only [Result.andThen] at hr
     split at hr
     ·rename_i a w2 _
      by_cases hc : (a != some false) = true
      ·rw [if_pos hc] at hr; simp [go_sem] at hr
      ·rw [if_neg hc] at hr; simp at hr; exact ⟨_, hr.1.symm⟩
     ·cases hr
    | halt x w1 => rw [hq] at hr; simp [Result.andThen] at hr
   ·simp at hr; exact ⟨_, hr.1.symm⟩
  ·simp at hr; exact ⟨_, hr.1.symm⟩
 | _ => simp [calm] at h
theorem buildSlice_world {t : TypeId} {len : Nat} {parts : Array (Nat × Value)} {w w' : World} {v : Value} (h : (Instr.buildSlice t len parts).run P w = .ok v w') : ∃ ob, w' = w.alloc ob := by
 unfold Instr.buildSlice at h
 rw [Sem.run_bind] at h
 cases hd : P.underlying t with
 | none => simp [underlying, hd, Result.andThen] at h
 | some d =>
  rw [run_underlying hd w] at h
  cases d <;> simp [Result.andThen] at h
  rename_i elem
  cases hi : P.info? elem with
  | none => simp [sizeOf, typeInfo, hi, Result.andThen] at h
  | some inf =>
   simp [sizeOf, typeInfo, hi, Result.andThen] at h
   have key : ∀ x : Option (Array Value), Sem.run P (match x with | some cells => (fun a => Value.slice (some a) len len) <$> newRow elem cells | _ => stuck "buildSlice: a part of the wrong size") w = Result.ok v w' → ∃ ob, w' = w.alloc ob := by
    intro x hx
    cases x with
    | none => simp at hx
    | some c =>
     simp [newRow] at hx
     exact ⟨_, hx.2.symm⟩
   split at h
   ·cases h
   ·split at h
    ·exact key _ h
    ·cases hz : inf.zero with
     | none => simp [zeroValue, typeInfo, hi, hz] at h
     | some z =>
      simp [zeroValue, typeInfo, hi, hz] at h
      exact key _ h
def rowB : Op → Bool
 | .buildSlice .. => true
 | _ => false
theorem rowB_world {o : Oper} (h : rowB o.op = true) {ρ : Operand → Value} {w w' : World} {n : Next} (hr : (execOp ρ o).run P w = .ok n w') : ∃ v ob, n = .value v ∧ w' = w.alloc ob := by
 obtain ⟨dst, op, type, pos, after, guard⟩ := o
 cases op with
 | buildSlice t len parts =>
  simp only [execOp] at hr
  rw [Sem.run_bind] at hr
  cases hq : (Instr.buildSlice t len (parts.map fun (i, x) => (i, ρ x))).run P w with
  | ok v w1 =>
   rw [hq] at hr
   simp [Result.andThen] at hr
   obtain ⟨ob, hob⟩ := buildSlice_world hq
   exact ⟨v, ob, hr.1.symm, by rw [← hr.2]; exact hob⟩
  | halt x w1 => rw [hq] at hr; simp [Result.andThen] at hr
 | _ => simp [rowB] at h
def waitsFor (md : Region.Mode) (ops : Array Oper) : Nat → Nat → Nat → Bool
 | 0, _, _ => false
 | f + 1, j, i => match ops[j]? with
  | none => false
  | some o => o.after.toList.any fun e => Region.binds md e && (e.on == i || waitsFor md ops f e.on i)
def Shut (md : Region.Mode) (ops : Array Oper) (listed : Array Bool) : Prop :=
 ∀ j o, ops[j]? = some o → listed.getD j false = true → ∀ e ∈ o.after, Region.binds md e = true → listed.getD e.on false = true
theorem waitsFor_listed {listed : Array Bool} (hs : Shut md ops listed) : ∀ (f j i : Nat) (o : Oper), ops[j]? = some o → (∀ e ∈ o.after, Region.binds md e = true → listed.getD e.on false = true) →
  waitsFor md ops f j i = true → listed.getD i false = true := by
 intro f
 induction f with
 | zero => intro j i o _ _ h; simp [waitsFor] at h
 | succ f ih =>
  intro j i o ho hp h
  simp only [waitsFor, ho, List.any_eq_true, Array.mem_toList_iff, Bool.and_eq_true, Bool.or_eq_true, beq_iff_eq] at h
  obtain ⟨e, he, hb, h⟩ := h
  have h1 := hp e he hb
  rcases h with rfl | h
  ·exact h1
  ·cases hq : ops[e.on]? with
   | none => cases f <;> simp [waitsFor, hq] at h
   | some oe => exact ih e.on i oe hq (hs e.on oe hq h1) h
theorem Shut.set {listed : Array Bool} (hs : Shut md ops listed) {i : Nat} (hi : i ∈ Region.ready md ops listed) : Shut md ops (listed.setIfInBounds i true) := by
 intro j o ho hj e he hb
 by_cases hij : i = j
 ·subst hij
  obtain ⟨_, o', ho', hall⟩ := mem_ready.1 hi
  rw [ho] at ho'
  cases ho'
  exact getD_set_true (hall e he hb)
 ·rw [getD_set_ne false hij] at hj
  exact getD_set_true (hs j o ho hj e he hb)
def wpAnyF (P : Program) (md : Region.Mode) (ops : Array Oper) (Q : Exit → Act → World → Prop) (C : World → Prop) (loose : Nat → Bool) : Nat → Array Bool → Act → World → Prop
 | 0, listed, a, w => Region.ready md ops listed = [] ∧ Q .normal a w
 | fuel + 1, listed, a, w =>
  (Region.ready md ops listed = [] → Q .normal a w) ∧
  ∀ i ∈ Region.ready md ops listed, wpOp P ops Q i (fun a' w' => (loose i = true → C w') ∧ wpAnyF P md ops Q C loose fuel (listed.setIfInBounds i true) a' w') a w
theorem wpAny_of_F {loose : Nat → Bool} : ∀ (fuel : Nat) (listed : Array Bool) (a : Act) (w : World), wpAnyF P md ops Q C loose fuel listed a w → wpAny P md ops Q fuel listed a w
 | 0, _, _, _, h => h
 | fuel + 1, _, _, _, h => ⟨h.1, fun i hi => wpOp_mono (fun a' w' h' => wpAny_of_F fuel _ a' w' h'.2) (h.2 i hi)⟩
def Stays (P : Program) (ops : Array Oper) (C : World → Prop) (o : Oper) (v : Value) (a : Act) : Prop :=
 (Region.wanted o (yielded ops a.tmps) = true ∧ ∀ w, C w → (execOp a.eval o).run P w = .ok (.value v) w) ∨ (Region.wanted o (yielded ops a.tmps) = false ∧ v = undef)
theorem Stays.same {o : Oper} {v : Value} {a a' : Act} (hy : Stays P ops C o v a) (he : execOp a'.eval o = execOp a.eval o) (hw : Region.wanted o (yielded ops a'.tmps) = Region.wanted o (yielded ops a.tmps)) : Stays P ops C o v a' := by
 unfold Stays at *; rw [he, hw]; exact hy
theorem Stays.wpOp {i : Nat} {o : Oper} {v : Value} {a : Act} (hi : ops[i]? = some o) (hy : Stays P ops C o v a) {K : Act → World → Prop} {w : World} (hC : C w) (h : K (a.put o.dst v) w) : wpOp P ops Q i K a w := by
 unfold Go.wpOp
 simp only [hi]
 rcases hy with ⟨hw, hv⟩ | ⟨hw, rfl⟩
 ·simp only [hw, if_true, Oper.wp, hv w hC, Oper.upon]; exact .inl h
 ·simp only [hw, Bool.false_eq_true, if_false]; exact h
theorem wpOp_putF {j : Nat} {oi oj : Oper} {v : Value} (hj : ops[j]? = some oj) (hap : oi.apart ops oj = true)
  (hsi : ∀ cs b, oi.op ≠ .select cs b) (hsj : ∀ cs b, oj.op ≠ .select cs b) (hQ : ∀ c a d v w, Q (.panic c) (a.put d v) w → Q (.panic c) a w) {K : Act → World → Prop} {a : Act} {w : World}
  (hy : Stays P ops C oi v a) (h : wpOp P ops Q j K (a.put oi.dst v) w) :
  wpOp P ops Q j (fun a' w' => Stays P ops C oi v a' ∧ K (a'.put oi.dst v) w') a w := by
 obtain ⟨h1, h2, h3⟩ := Oper.apart_spec hap
 have keep : ∀ (a : Act), Stays P ops C oi v a → ∀ u, Stays P ops C oi v (a.put oj.dst u) := fun a hy u => hy.same (execOp_put oi hsi a oj.dst u h3) (wanted_put oi a oj.dst u h3)
 have keepD : ∀ d, Stays P ops C oi v { a with defers := d :: a.defers } := fun d => hy.same rfl rfl
 unfold Go.wpOp at *
 simp only [hj] at *
 rw [wanted_put oj a oi.dst v h1] at h
 split
 ·rename_i hw
  simp only [hw, if_true] at h
  rcases h with h | ⟨hasks, hlets⟩
  case inr => exact .inr ⟨by unfold Oper.asks at *; rw [execOp_put oj hsj a oi.dst v h1] at hasks; exact hasks, hlets⟩
  refine .inl ?_
  unfold Oper.wp at *
  rw [execOp_put oj hsj a oi.dst v h1] at h
  generalize (execOp a.eval oj).run P w = r at *
  cases r with
  | ok n w' =>
   cases n <;> simp only [Oper.upon] at h ⊢
   case value u => exact ⟨keep a hy u, by rw [← Act.put_comm a v u h2]; exact h⟩
   case skip => exact ⟨keep a hy _, by rw [← Act.put_comm a v undef h2]; exact h⟩
   case defer d =>
    refine ⟨keep _ (keepD d) _, ?_⟩
    rw [← Act.put_comm _ v undef h2, ← Act.put_defers]
    exact h
   case enter f args =>
    refine Calls.mono h fun e w'' he => ?_
    cases e with
    | returned u => exact ⟨keep a hy u, by rw [← Act.put_comm a v u h2]; exact he⟩
    | panicked c => exact hQ _ _ _ _ _ he
    | outgrown => exact he
   case row row args => exact Rows.mono h fun u w'' he => ⟨keep a hy u, by rw [← Act.put_comm a v u h2]; exact he⟩
  | halt x w' =>
   cases x <;> simp only [Oper.upon] at h ⊢
   case panic u => exact hQ _ _ _ _ _ h
 ·rename_i hw
  simp only [hw] at h
  exact ⟨keep a hy _, by rw [← Act.put_comm a v undef h2]; exact h⟩
def tailFrom (md : Region.Mode) (ops : Array Oper) : Nat → Nat → Array Bool → Bool
 | 0, _, listed => (Region.ready md ops listed).isEmpty
 | f + 1, k, listed => (Region.ready md ops listed == [k]) && tailFrom md ops f (k + 1) (listed.setIfInBounds k true)
def looseAt (ops : Array Oper) (n j : Nat) : Bool := decide (j < n) || (j == n && (match ops[n]? with | some o => rowB o.op | none => false))
theorem tail_ok {n : Nat} (hA : ∀ w ob, C w → C (w.alloc ob)) : ∀ (l : List Oper) (k : Nat) (listed : Array Bool) (a : Act) (w : World), (∀ j, l[j]? = ops[k + j]?) → n ≤ k → (k = n → C w) →
  tailFrom md ops l.length k listed = true → wpList P ops Q l a w → wpAnyF P md ops Q C (looseAt ops n) l.length listed a w
 | [], _, _, _, _, _, _, _, hB, h => ⟨by simpa [tailFrom] using hB, h⟩
 | o :: l, k, listed, a, w, hl, hk, hC, hB, h => by
  have h0 : ops[k]? = some o := by simpa using (hl 0).symm
  simp only [List.length_cons, tailFrom, Bool.and_eq_true, beq_iff_eq] at hB
  obtain ⟨hr, hB'⟩ := hB
  refine ⟨fun he => (by rw [hr] at he; cases he), fun i hi => ?_⟩
  rw [hr] at hi
  obtain rfl : i = k := by simpa using hi
  have hnext : ∀ a' w', wpList P ops Q l a' w' → wpAnyF P md ops Q C (looseAt ops n) l.length (listed.setIfInBounds i true) a' w' := fun a' w' h' =>
   tail_ok hA l (i + 1) _ a' w' (fun j => by have := hl (j + 1); simpa [Nat.add_assoc, Nat.add_comm 1 j] using this) (by omega) (by omega) hB' h'
  by_cases hlo : looseAt ops n i = true
  ·have hin : i = n ∧ rowB o.op = true := by
    simp only [looseAt, Bool.or_eq_true, decide_eq_true_eq, Bool.and_eq_true, beq_iff_eq] at hlo
    rcases hlo with h | ⟨rfl, h⟩
    ·omega
    ·rw [h0] at h; exact ⟨rfl, h⟩
   have hCw := hC hin.1
   unfold wpOp
   simp only [h0]
   unfold wpList at h
   by_cases hw : Region.wanted o (yielded ops a.tmps) = true
   ·rw [if_pos hw] at h ⊢
    rcases h with h | h
    ·refine .inl ?_
     unfold Oper.wp at *
     cases hr : (execOp a.eval o).run P w with
     | ok m w' =>
      obtain ⟨v, ob, rfl, rfl⟩ := rowB_world hin.2 hr
      rw [hr] at h
      simp only [Oper.upon] at h ⊢
      exact ⟨fun _ => hA w ob hCw, hnext _ _ h⟩
     | halt x w' =>
      rw [hr] at h
      cases x <;> simp only [Oper.upon] at h ⊢ <;> exact h
    ·exact .inr h
   ·rw [if_neg hw] at h ⊢
    exact ⟨fun _ => hCw, hnext _ _ h⟩
  ·unfold wpOp
   simp only [h0]
   unfold wpList at h
   by_cases hw : Region.wanted o (yielded ops a.tmps) = true
   ·rw [if_pos hw] at h ⊢
    exact h.imp (Oper.wp_mono (fun a' w' h' => ⟨fun hc => absurd hc hlo, hnext _ _ h'⟩)) id
   ·rw [if_neg hw] at h ⊢
    exact ⟨fun hc => absurd hc hlo, hnext _ _ h⟩
theorem shut_none (n : Nat) : Shut md ops (Array.replicate n false) := by
 intro j o _ hj
 exfalso
 by_cases h : j < n <;> simp [h] at hj
end
theorem made_same (cs : Array Value) (z : Value) (n : Nat) (h0 : 0 < cs.size) (h : ∀ i, i < cs.size → cs[i]? = some z) : (madeCells cs (n * cs.size)).toList = List.replicate (n * cs.size) z := by
 apply List.ext_getElem?
 intro i
 by_cases hi : i < n * cs.size
 ·have hm : i % cs.size < cs.size := Nat.mod_lt _ h0
  have hz := h (i % cs.size) hm
  have hz' : cs[i % cs.size] = z := by
   have := Array.getElem?_eq_getElem (xs := cs) hm
   rw [this] at hz
   exact Option.some.inj hz
  simp [madeCells, hi, hz', hm]
 ·simp [madeCells, hi]
theorem add_none (b off j : Nat) : (⟨b, off, none⟩ : Addr).add j = ⟨b, off + j, none⟩ := by unfold Addr.add; split <;> simp_all
section
variable {P : Program} {w : World} {ops : Array Oper} {rest : List Oper} {o : Oper} {a : Act} {Q : Exit → Act → World → Prop}
theorem wpList_load_part {ty : TypeId} {zs : Array Value} (A : Agg P ty zs) {p : Operand} {g off : Nat} (cs : List Value) (hc : ∀ i v, cs[i]? = some v → w.cell? ⟨g, off + i, none⟩ = some v) (hs : cs.length = zs.size)
  (hgd : o.guard = none) (ho : o.op = .load ty p) (hp : a.eval p = .pointer (some ⟨g, off, none⟩))
  (hK : wpList P ops Q rest (a.put o.dst (.agg cs.toArray)) w) : wpList P ops Q (o :: rest) a w := by
 refine wpList_plain hgd fun K hK' => ?_
 obtain ⟨d, hu, hd⟩ := A.desc
 have hl : (loadCells ⟨g, off, none⟩ cs.length).run P w = .ok cs.toArray w := run_loadCells_list (P := P) w ⟨g, off, none⟩ cs (fun j v hv => by rw [add_none]; exact hc j v hv)
 have hagg : (isAgg ty).run P w = .ok true w := by
  unfold isAgg
  rw [Sem.run_bind, run_underlying hu w]
  cases d <;> simp_all
 have hsz := A.size
 have hr : (loadVar ty ⟨g, off, none⟩).run P w = .ok (.agg cs.toArray) w := by
  cases hq : P.info? ty with
  | none => simp [hq] at hsz
  | some inf =>
   have e : inf.size = cs.length := by simp [hq] at hsz; rw [hsz, hs]
   simp [loadVar, hagg, sizeOf, typeInfo, hq, e, hl]
 have hr2 : (Instr.loadAt ty (.pointer (some ⟨g, off, none⟩))).run P w = .ok (.agg cs.toArray) w := by
  simp only [Instr.loadAt, Instr.sureAddr, Sem.run_bind, Sem.run_pure, Result.andThen]
  exact hr
 unfold Oper.wp
 simp only [execOp, ho, hp]
 simp only [Sem.run_bind, hr2, Result.andThen, Sem.run_pure]
 exact hK' _ _ hK
theorem run_storeCells_row {g off t : Nat} : ∀ (cs : List Value) (i : Nat) (w : World) (vs : List Value), RowAt w g t vs → off + i + cs.length ≤ vs.length → (∀ u ∈ cs, u.oneCell' = true) →
  ∃ w', (storeCells ⟨g, off, none⟩ cs i).run P w = .ok () w' ∧ RowAt w' g t (splice vs (off + i) cs) ∧ Touch [g] w w' := by
 intro cs
 induction cs with
 | nil =>
  intro i w vs hr hl h1
  refine ⟨w, by simp [storeCells], ?_, Touch.refl _ _⟩
  simpa [splice] using hr
 | cons c cs ih =>
  intro i w vs hr hl h1
  simp only [List.length_cons] at hl
  have hlt : off + i < vs.length := by omega
  have h2 := hr.set (off + i) hlt c
  obtain ⟨w', hw', hr', ht'⟩ := ih (i + 1) (w.setCell ⟨g, off + i, none⟩ c) (vs.set (off + i) c) h2 (by simp; omega) (fun u hu => h1 u (List.mem_cons_of_mem _ hu))
  refine ⟨w', ?_, ?_, (Touch.setCell _ (by simp) _).trans ht'⟩
  ·have hcell : w.cell? ⟨g, off + i, none⟩ = some (vs[off + i]) := hr.cell (List.getElem?_eq_getElem hlt)
   have hfz : w.frozen? ⟨g, off + i, none⟩ = false := hr.frozen _
   simp only [storeCells, Sem.run_bind, add_none]
   rw [run_store P w _ c .plain (h1 c (by simp))]
   simp only [hcell, hfz, Result.andThen]
   exact hw'
  ·have e : splice (vs.set (off + i) c) (off + (i + 1)) cs = splice vs (off + i) (c :: cs) := by
    unfold splice
    rw [show off + (i + 1) = (off + i) + 1 by omega, List.take_set, List.drop_set_of_lt (by omega), List.length_cons, show off + i + 1 + cs.length = off + i + (cs.length + 1) by omega]
    have e1 : (vs.take (off + i + 1)).set (off + i) c = vs.take (off + i) ++ [c] := by
     have hm : min (off + i) vs.length = off + i := Nat.min_eq_left (Nat.le_of_lt hlt)
     rw [List.take_succ_eq_append_getElem hlt, List.set_append_right _ _ (by simp; omega)]
     simp [hm]
    rw [e1]
    simp
   rw [← e]; exact hr'
theorem wpList_store_part {ty : TypeId} {zs : Array Value} (A : Agg P ty zs) {p x : Operand} {g off t : Nat} {vs : List Value} {cs : Array Value} (hr : RowAt w g t vs) (hs : cs.size = zs.size) (hfit : off + cs.size ≤ vs.length) (h1 : ∀ u ∈ cs.toList, u.oneCell' = true)
  (hgd : o.guard = none) (ho : o.op = .store ty p x) (hp : a.eval p = .pointer (some ⟨g, off, none⟩)) (hx : a.eval x = .agg cs)
  (hK : ∀ w', RowAt w' g t (splice vs off cs.toList) → Touch [g] w w' → wpList P ops Q rest (a.put o.dst undef) w') :
  wpList P ops Q (o :: rest) a w := by
 refine wpList_plain hgd fun K hK' => ?_
 obtain ⟨w', hw', hr', ht'⟩ := run_storeCells_row (P := P) (off := off) cs.toList 0 w vs hr (by simpa using hfit) h1
 have hsz := A.size
 have hr2 : (storeVar ty ⟨g, off, none⟩ (.agg cs)).run P w = .ok () w' := by
  cases hq : P.info? ty with
  | none => simp [hq] at hsz
  | some inf =>
   have e : inf.size = cs.size := by simp [hq] at hsz; rw [hsz, hs]
   simp only [storeVar, Sem.run_bind, sizeOf, typeInfo]
   simp [hq, e, Value.cells, hw', Result.andThen]
 have hr3 : (Instr.storeAt ty (.pointer (some ⟨g, off, none⟩)) (.agg cs)).run P w = .ok () w' := by
  simp only [Instr.storeAt, Instr.sureAddr, Sem.run_bind, Sem.run_pure, Result.andThen]
  exact hr2
 unfold Oper.wp
 simp only [execOp, ho, hp, hx]
 simp only [Sem.run_bind, hr3, Result.andThen, Sem.run_pure]
 exact hK' _ _ (hK w' (by simpa using hr') ht')
theorem wpList_make_rows {l c : Operand} {t e : TypeId} {zs : Array Value} {z : Value} {bytes : Nat} (E : Elem P t e (.agg zs) zs.size bytes) (base n : Nat) {kl kc : IntKind} {L C : Int} (hz : ∀ i, i < zs.size → zs[i]? = some z)
  (hL : L = (n : Int)) (hC : C = (n : Int)) (hn : n < 1000000000000) (hby : bytes ≤ 64) (hbase : base ≤ w.heap.size)
  (hgd : o.guard = none) (ho : o.op = .makeSlice t l c) (hl : a.eval l = .int kl L) (hc : a.eval c = .int kc C)
  (hK : ∀ w', w'.ownsRow base e zs.size (.slice (some ⟨w.heap.size, 0, none⟩) n n) n (List.replicate (n * zs.size) z) → w.grownBy w' none → wpList P ops Q rest (a.put o.dst (.slice (some ⟨w.heap.size, 0, none⟩) n n)) w') :
  wpList P ops Q (o :: rest) a w := by
 obtain ⟨i, i1, i2, i3, i4⟩ := E.info
 refine wpList_make_full _ hgd l c t ho base e i (.agg zs) zs.size E.under i1 i2 i3 kl kc L C n hl hc hL hC ?_ (by unfold maxLen; omega) hbase ?_
 ·rw [i4]
  have : bytes * n ≤ 64 * 1000000000000 := Nat.mul_le_mul hby (by omega)
  omega
 ·have e : (madeCells (Value.agg zs).cells (n * zs.size)).toList = List.replicate (n * zs.size) z := made_same zs z n E.pos hz
  rw [e]
  exact hK
theorem owned_row {w : World} {base e size n g c : Nat} {vs : List Value} (h : w.ownsRow base e size (.slice (some ⟨g, 0, none⟩) n c) n vs) : RowAt w g e vs := by
 rcases h.2 with ⟨h0, _⟩ | ⟨g', cap, cur, hv, hb, hg, h1, h2, h3, h4⟩
 ·cases h0
 ·simp at hv
  obtain ⟨rfl, rfl⟩ := hv
  exact ⟨cur, hg, cur.toList.drop (n * size), by rw [← h4, List.take_append_drop]⟩
end
theorem below_cells {B : Nat} {w w1 : World} (hb : Below B w w1) {p : Addr} {v : Value} (h : w.cell? p = some v) (hB : w.heap.size ≤ B := by omega) : w1.cell? p = some v := by
 rw [hb.cell (Nat.lt_of_lt_of_le (World.block_lt_of_cell? _ _ h) hB)]; exact h
structure Dev where
 lasting : List Nat
 cache : List Nat
 flushed : List Nat
 dirty : List Bool
 pending : List Bool
 steps : Int
 fuse : Int
 armed : Bool
 dead : Bool
structure Foot where
 d : Nat
 l : Nat
 c : Nat
 f : Nat
 t : Nat
 p : Nat
 cl : Nat
 cc : Nat
 cf : Nat
 ct : Nat
 cp : Nat
def Foot.list (F : Foot) : List Nat := [F.d, F.l, F.c, F.f, F.t, F.p]
def devV (F : Foot) (S : Dev) : Array Value := #[.slice (some ⟨F.l, 0, none⟩) S.cache.length F.cl, .slice (some ⟨F.c, 0, none⟩) S.cache.length F.cc, .slice (some ⟨F.f, 0, none⟩) S.cache.length F.cf,
 .slice (some ⟨F.t, 0, none⟩) S.dirty.length F.ct, .slice (some ⟨F.p, 0, none⟩) S.dirty.length F.cp, .int .i64 S.steps, .int .i64 S.fuse, .bool S.armed, .bool S.dead]
structure DevAt (w : World) (F : Foot) (S : Dev) : Prop where
 head : w.heap[F.d]? = some (.cells (devV F S) 145 (0, 0))
 lasting : RowAt w F.l 40 (S.lasting.map vu64)
 cache : RowAt w F.c 40 (S.cache.map vu64)
 flushed : RowAt w F.f 40 (S.flushed.map vu64)
 dirty : RowAt w F.t 4 (S.dirty.map Value.bool)
 pending : RowAt w F.p 4 (S.pending.map Value.bool)
 nodup : F.list.Nodup
 lenL : S.lasting.length = S.cache.length
 lenF : S.flushed.length = S.cache.length
 lenP : S.pending.length = S.dirty.length
 lenD : S.cache.length = 8 * S.dirty.length
 small : S.cache.length ≤ 1000000
 capL : S.cache.length ≤ F.cl
 capC : S.cache.length ≤ F.cc
 capF : S.cache.length ≤ F.cf
 u64L : ∀ z ∈ S.lasting, z < 18446744073709551616
 u64C : ∀ z ∈ S.cache, z < 18446744073709551616
 u64F : ∀ z ∈ S.flushed, z < 18446744073709551616
theorem DevAt.keep {w w' : World} {F : Foot} {S : Dev} (h : DevAt w F S) (hk : ∀ k ∈ F.list, w'.heap[k]? = w.heap[k]?) : DevAt w' F S := by
 have hm : ∀ k ∈ F.list, w'.heap[k]? = w.heap[k]? := hk
 simp only [Foot.list, List.mem_cons, List.not_mem_nil, or_false, forall_eq_or_imp, forall_eq] at hm
 obtain ⟨m1, m2, m3, m4, m5, m6⟩ := hm
 exact { h with head := m1.trans h.head, lasting := h.lasting.keep m2, cache := h.cache.keep m3, flushed := h.flushed.keep m4, dirty := h.dirty.keep m5, pending := h.pending.keep m6 }
theorem DevAt.mem {w : World} {F : Foot} {S : Dev} (h : DevAt w F S) : ∀ k ∈ F.list, k < w.heap.size := by
 have := (Array.getElem?_eq_some_iff.1 h.head).1
 have h2 := h.lasting.lt
 have h3 := h.cache.lt
 have h4 := h.flushed.lt
 have h5 := h.dirty.lt
 have h6 := h.pending.lt
 simp only [Foot.list, List.mem_cons, List.not_mem_nil, or_false, forall_eq_or_imp, forall_eq]
 exact ⟨this, h2, h3, h4, h5, h6⟩
theorem DevAt.below {w w' : World} {F : Foot} {S : Dev} (h : DevAt w F S) (hb : Below w.heap.size w w') : DevAt w' F S := h.keep (fun k hk => hb.block k (h.mem k hk))
def Dev.ok (S : Dev) (N : Nat) : Prop := 0 ≤ S.steps ∧ S.steps ≤ N ∧ -(N : Int) ≤ S.fuse ∧ S.fuse < 9223372036854775808
theorem Dev.ok.mono {S : Dev} {N M : Nat} (h : S.ok N) (hN : N ≤ M) : S.ok M := by unfold Dev.ok at *; omega
def Dev.stop (S : Dev) : Bool := S.dead || (S.armed && S.fuse == 0)
def Dev.step (S : Dev) : Dev := if S.stop then { S with dead := true } else { S with fuse := S.fuse - 1, steps := S.steps + 1 }
theorem Dev.step_ok {S : Dev} {N : Nat} (h : S.ok N) : S.step.ok (N + 1) := by
 unfold Dev.ok at *
 unfold Dev.step
 split <;> dsimp only <;> omega
theorem Dev.step_rest (S : Dev) : S.step.lasting = S.lasting ∧ S.step.cache = S.cache ∧ S.step.flushed = S.flushed ∧ S.step.dirty = S.dirty ∧ S.step.pending = S.pending := by
 unfold Dev.step
 split <;> exact ⟨rfl, rfl, rfl, rfl, rfl⟩
theorem DevAt.head' {w w' : World} {F : Foot} {S S' : Dev} (h : DevAt w F S) (hh : w'.heap[F.d]? = some (.cells (devV F S') 145 (0, 0))) (ht : Touch [F.d] w w')
  (e : S'.lasting = S.lasting ∧ S'.cache = S.cache ∧ S'.flushed = S.flushed ∧ S'.dirty = S.dirty ∧ S'.pending = S.pending) : DevAt w' F S' := by
 obtain ⟨e1, e2, e3, e4, e5⟩ := e
 have hn := h.nodup
 have hm := h.mem
 simp only [Foot.list, List.nodup_cons, List.mem_cons, List.not_mem_nil, or_false, not_or, forall_eq_or_imp, forall_eq] at hn hm
 obtain ⟨⟨n1, n2, n3, n4, n5⟩, _⟩ := hn
 obtain ⟨_, m2, m3, m4, m5, m6⟩ := hm
 have k : ∀ g, g < w.heap.size → F.d ≠ g → w'.heap[g]? = w.heap[g]? := fun g hg hne => ht.block g hg (by simpa using fun c => hne c.symm)
 exact ⟨hh, by rw [e1]; exact h.lasting.keep (k _ m2 n1), by rw [e2]; exact h.cache.keep (k _ m3 n2), by rw [e3]; exact h.flushed.keep (k _ m4 n3), by rw [e4]; exact h.dirty.keep (k _ m5 n4), by rw [e5]; exact h.pending.keep (k _ m6 n5), h.nodup,
  by rw [e1, e2]; exact h.lenL, by rw [e3, e2]; exact h.lenF, by rw [e5, e4]; exact h.lenP, by rw [e2, e4]; exact h.lenD, by rw [e2]; exact h.small, by rw [e2]; exact h.capL, by rw [e2]; exact h.capC, by rw [e2]; exact h.capF, by rw [e1]; exact h.u64L, by rw [e2]; exact h.u64C, by rw [e3]; exact h.u64F⟩
abbrev vdev (F : Foot) : Value := .pointer (some ⟨F.d, 0, none⟩)
theorem head_step {w : World} {F : Foot} {S : Dev} (hh : w.heap[F.d]? = some (.cells (devV F S) 145 (0, 0))) (a b : Int) :
  ((w.setCell ⟨F.d, 6, none⟩ (.int .i64 a)).setCell ⟨F.d, 5, none⟩ (.int .i64 b)).heap[F.d]? = some (.cells (devV F { S with fuse := a, steps := b }) 145 (0, 0)) := by
 rw [heap_setCell_same _ F.d 5 _ _ _ (heap_setCell_same w F.d 6 _ _ _ hh)]; rfl
theorem head_dead {w : World} {F : Foot} {S : Dev} (hh : w.heap[F.d]? = some (.cells (devV F S) 145 (0, 0))) (a : Bool) :
  (w.setCell ⟨F.d, 8, none⟩ (.bool a)).heap[F.d]? = some (.cells (devV F { S with dead := a }) 145 (0, 0)) := by
 rw [heap_setCell_same w F.d 8 _ _ _ hh]; rfl
set_option maxHeartbeats 1000000 in
theorem step_any {w : World} {F : Foot} {S : Dev} (h : DevAt w F S) {N : Nat} (hN : N < 1000000000000) (ho : S.ok N) :
  Calls Tryz.prog 149 #[vdev F] w fun e w' => e = .returned (.bool (!S.stop)) ∧ DevAt w' F S.step ∧ Touch [F.d] w w' := by
 have hh := h.head
 have c5 : w.cell? ⟨F.d, 5, none⟩ = some (.int .i64 S.steps) := cell_of_row _ _ 5 _ _ _ hh
 have c6 : w.cell? ⟨F.d, 6, none⟩ = some (.int .i64 S.fuse) := cell_of_row _ _ 6 _ _ _ hh
 have c7 : w.cell? ⟨F.d, 7, none⟩ = some (.bool S.armed) := cell_of_row _ _ 7 _ _ _ hh
 have c8 : w.cell? ⟨F.d, 8, none⟩ = some (.bool S.dead) := cell_of_row _ _ 8 _ _ _ hh
 have z : ∀ i, w.frozen? ⟨F.d, i, none⟩ = false := fun i => frozen_of_row _ _ i _ _ hh
 have z5 := z 5
 have z6 := z 6
 have z8 := z 8
 have HS := LH (S.step_rest)
 unfold Dev.ok at ho
 have HD : Hid (∀ w', w'.heap[F.d]? = some (.cells (devV F S.step) 145 (0, 0)) → Touch [F.d] w w' → DevAt w' F S.step) := LH (fun w' a b => h.head' a b HS.out)
 cases hst : S.stop
 ·have HE : Hid (S.step = { S with fuse := S.fuse - 1, steps := S.steps + 1 }) := LH (by unfold Dev.step; rw [hst]; rfl)
  have hd : S.dead = false := by unfold Dev.stop at hst; simp at hst; exact hst.1
  have ha : (S.armed && S.fuse == 0) = false := by unfold Dev.stop at hst; rw [hd] at hst; simpa using hst
  rw [hd] at c8
  clear hst z h
  have HH := LH hh
  clear hh
  have HF : Hid (DevAt ((w.setCell ⟨F.d, 6, none⟩ (.int .i64 (S.fuse - 1))).setCell ⟨F.d, 5, none⟩ (.int .i64 (S.steps + 1))) F S.step ∧ Touch [F.d] w ((w.setCell ⟨F.d, 6, none⟩ (.int .i64 (S.fuse - 1))).setCell ⟨F.d, 5, none⟩ (.int .i64 (S.steps + 1)))) := by
   have t : Touch [F.d] w ((w.setCell ⟨F.d, 6, none⟩ (.int .i64 (S.fuse - 1))).setCell ⟨F.d, 5, none⟩ (.int .i64 (S.steps + 1))) := (Touch.setCell _ (by simp) _).trans (Touch.setCell _ (by simp) _)
   exact LH ⟨HD.out _ (by rw [HE.out]; exact head_step HH.out _ _) t, t⟩
  cases hr : S.armed
  ·rw [hr] at c7
   clear ha HD HE HS HH
   go_enter Tryz.func149, Tryz.ntmps149
   go_wp2_with fail
   go_ret
   exact ⟨rfl, HF.out⟩
  ·rw [hr] at c7 ha
   have hf : ¬ S.fuse = 0 := by simpa using ha
   clear ha HD HE HS HH
   go_enter Tryz.func149, Tryz.ntmps149
   go_wp2_with fail
   go_ret
   exact ⟨rfl, HF.out⟩
 ·have HE : Hid (S.step = { S with dead := true }) := LH (by unfold Dev.step; rw [hst]; rfl)
  have HF : Hid (DevAt (w.setCell ⟨F.d, 8, none⟩ (.bool true)) F S.step ∧ Touch [F.d] w (w.setCell ⟨F.d, 8, none⟩ (.bool true))) := by
   have t : Touch [F.d] w (w.setCell ⟨F.d, 8, none⟩ (.bool true)) := Touch.setCell _ (by simp) _
   exact LH ⟨HD.out _ (by rw [HE.out]; exact head_dead hh _) t, t⟩
  have hst' : S.dead = true ∨ S.dead = false ∧ S.armed = true ∧ S.fuse = 0 := by
   unfold Dev.stop at hst
   cases hd : S.dead
   ·rw [hd] at hst; simp at hst; exact .inr ⟨rfl, hst⟩
   ·exact .inl rfl
  clear hst z h hh HD HE HS
  rcases hst' with hd | ⟨hd, hr, hf⟩
  ·rw [hd] at c8
   go_enter Tryz.func149, Tryz.ntmps149
   go_wp2_with fail
   go_ret
   exact ⟨rfl, HF.out⟩
  ·rw [hd] at c8
   rw [hr] at c7
   rw [hf] at c6
   go_enter Tryz.func149, Tryz.ntmps149
   go_wp2_with fail
   go_ret
   exact ⟨rfl, HF.out⟩
def peek (l : List Nat) (i : Int) : Nat := if 0 ≤ i then l.getD i.toNat 0 else 0
set_option maxHeartbeats 1000000 in
theorem dget_any {w : World} {F : Foot} {S : Dev} (h : DevAt w F S) (i : Int) :
  Calls Tryz.prog 59 #[vdev F, .int .i64 i] w fun e w' => e = .returned (vu64 (peek S.cache i)) ∧ w = w' := by
 have hh := h.head
 have c1 : w.cell? ⟨F.d, 1, none⟩ = some (.slice (some ⟨F.c, 0, none⟩) S.cache.length F.cc) := cell_of_row _ _ 1 _ _ _ hh
 have hsm := h.small
 by_cases h0 : i < 0
 ·have HV : Hid (peek S.cache i = 0) := LH (by unfold peek; rw [if_neg (by omega)])
  clear hh h
  go_enter Tryz.func59, Tryz.ntmps59
  go_wp2_with fail
  go_ret
  exact ⟨ret_int (by rw [HV.out]; rfl), rfl⟩
 obtain ⟨j, rfl⟩ := Int.eq_ofNat_of_zero_le (show 0 ≤ i by omega)
 have HV : Hid (peek S.cache (j : Int) = S.cache.getD j 0) := LH (by unfold peek; rw [if_pos (by omega)]; rfl)
 by_cases h1 : j < S.cache.length
 ·have c2 : w.cell? ⟨F.c, j, none⟩ = some (vu64 (S.cache.getD j 0)) := h.cache.cell (by simp [h1])
  clear hh h
  generalize S.cache.getD j 0 = x at *
  go_enter Tryz.func59, Tryz.ntmps59
  go_wp2_with fail
  go_ret
  exact ⟨ret_int (by rw [HV.out]), rfl⟩
 ·have HZ : Hid (S.cache.getD j 0 = 0) := LH (by simp; rw [List.getElem?_eq_none (by omega)]; rfl)
  clear hh h
  go_enter Tryz.func59, Tryz.ntmps59
  go_wp2_with fail
  go_ret
  exact ⟨ret_int (by rw [HV.out, HZ.out]; rfl), rfl⟩
def Dev.put (S : Dev) (i x : Nat) : Dev := { S with cache := S.cache.set i x, dirty := S.dirty.set (i / 8) true }
def Dev.store (S : Dev) (i : Int) (x : Nat) : Dev := if i < 0 ∨ (S.cache.length : Int) ≤ i then S else if S.stop then S.step else S.step.put i.toNat x
def Dev.storeE (S : Dev) (i : Int) : Int := if i < 0 ∨ (S.cache.length : Int) ≤ i then 2 else if S.stop then 3 else 0
theorem map_set_u64 (l : List Nat) (i x : Nat) : (l.set i x).map vu64 = (l.map vu64).set i (vu64 x) := by rw [List.map_set]
theorem map_set_bool (l : List Bool) (i : Nat) (x : Bool) : (l.set i x).map Value.bool = (l.map Value.bool).set i (.bool x) := by rw [List.map_set]
theorem set_lt {l : List Nat} {B : Nat} (h : ∀ z ∈ l, z < B) (i x : Nat) (hx : x < B) : ∀ z ∈ l.set i x, z < B := by
 intro z hz
 rcases List.mem_or_eq_of_mem_set hz with hm | rfl
 ·exact h z hm
 ·exact hx
theorem DevAt.put {w : World} {F : Foot} {S : Dev} (h : DevAt w F S) (i x : Nat) (hi : i < S.cache.length) (hx : x < 18446744073709551616) :
  DevAt ((w.setCell ⟨F.c, i, none⟩ (vu64 x)).setCell ⟨F.t, i / 8, none⟩ (.bool true)) F (S.put i x) := by
 have hn := h.nodup
 simp only [Foot.list, List.nodup_cons, List.mem_cons, List.not_mem_nil, or_false, not_or, List.nodup_nil, and_true, not_false_eq_true] at hn
 obtain ⟨⟨a1, a2, a3, a4, a5⟩, ⟨b1, b2, b3, b4⟩, ⟨d1, d2, d3⟩, ⟨e1, e2⟩, f1⟩ := hn
 have k : ∀ g, g ≠ F.c → g ≠ F.t → ((w.setCell ⟨F.c, i, none⟩ (vu64 x)).setCell ⟨F.t, i / 8, none⟩ (.bool true)).heap[g]? = w.heap[g]? := fun g h1 h2 => by
  rw [Below.heap_setCell _ _ _ _ h2, Below.heap_setCell _ _ _ _ h1]
 have hd := h.lenD
 refine ⟨?_, h.lasting.keep (k _ b1 b3), ?_, h.flushed.keep (k _ (Ne.symm d1) e1), ?_, h.pending.keep (k _ (Ne.symm d3) (Ne.symm f1)), h.nodup, ?_, ?_, ?_, ?_, ?_, ?_, ?_, ?_, h.u64L, set_lt h.u64C i x hx, h.u64F⟩
 ·rw [k _ a2 a4, h.head]
  simp [devV, Dev.put]
 ·have := h.cache.set i (by simpa using hi) (vu64 x)
  show RowAt _ _ _ ((S.cache.set i x).map vu64)
  rw [map_set_u64]
  exact this.keep (Below.heap_setCell _ _ _ _ d2)
 ·show RowAt _ _ _ ((S.dirty.set (i / 8) true).map Value.bool)
  rw [map_set_bool]
  exact (h.dirty.keep (Below.heap_setCell _ _ _ _ (Ne.symm d2))).set (i / 8) (by simp; omega) _
 all_goals simp only [Dev.put, List.length_set]
 ·exact h.lenL
 ·exact h.lenF
 ·exact h.lenP
 ·exact h.lenD
 ·exact h.small
 ·exact h.capL
 ·exact h.capC
 ·exact h.capF
set_option maxHeartbeats 1000000 in
theorem store_any {w : World} {F : Foot} {S : Dev} (h : DevAt w F S) {N : Nat} (hN : N < 1000000000000) (ho : S.ok N) (i : Int) (x : Nat) (hx : x < 18446744073709551616) :
  Calls Tryz.prog 104 #[vdev F, .int .i64 i, vu64 x] w fun e w' => e = .returned (.int .i64 (S.storeE i)) ∧ DevAt w' F (S.store i x) ∧ Touch F.list w w' := by
 have hh := h.head
 have c1 : w.cell? ⟨F.d, 1, none⟩ = some (.slice (some ⟨F.c, 0, none⟩) S.cache.length F.cc) := cell_of_row _ _ 1 _ _ _ hh
 have hsm := h.small
 by_cases h0 : i < 0
 ·have HV : Hid (S.storeE i = 2 ∧ S.store i x = S) := LH (by unfold Dev.storeE Dev.store; rw [if_pos (.inl h0), if_pos (.inl h0)]; exact ⟨rfl, rfl⟩)
  clear hh
  go_enter Tryz.func104, Tryz.ntmps104
  go_wp2_with fail
  go_ret
  exact ⟨ret_int HV.out.1.symm, by rw [HV.out.2]; assumption, Touch.refl _ _⟩
 obtain ⟨j, rfl⟩ := Int.eq_ofNat_of_zero_le (show 0 ≤ i by omega)
 by_cases h1 : j < S.cache.length
 ·have hcond : ¬ ((j : Int) < 0 ∨ (S.cache.length : Int) ≤ (j : Int)) := by omega
  have HE : Hid (S.storeE (j : Int) = if S.stop then 3 else 0) := LH (by unfold Dev.storeE; rw [if_neg hcond])
  have HSt : Hid (S.store (j : Int) x = if S.stop then S.step else S.step.put j x) := LH (by unfold Dev.store; rw [if_neg hcond]; rfl)
  have HR := LH S.step_rest
  have HD := LH h
  clear hcond hh h
  go_enter Tryz.func104, Tryz.ntmps104
  go_wp2_with fail
  refine (step_any HD.out hN ho).mono ?_
  rintro e w1 ⟨rfl, hd1, ht1⟩
  have ht1' : Touch F.list w w1 := ⟨ht1.os, ht1.tape, ht1.output, ht1.size, fun k hk hn => ht1.block k hk (fun hm => hn (by simp at hm; rw [hm]; simp [Foot.list]))⟩
  clear HD ht1 c1
  cases hst : S.stop
  ·rw [hst] at HE HSt
   have e1 : S.step.cache.length = S.cache.length := by rw [HR.out.2.1]
   have e2 : S.step.dirty.length = S.dirty.length := by rw [HR.out.2.2.2.1]
   have c1 : w1.cell? ⟨F.d, 1, none⟩ = some (.slice (some ⟨F.c, 0, none⟩) S.cache.length F.cc) := by rw [← e1]; exact cell_of_row _ _ 1 _ _ _ hd1.head
   have c3 : w1.cell? ⟨F.d, 3, none⟩ = some (.slice (some ⟨F.t, 0, none⟩) S.dirty.length F.ct) := by rw [← e2]; exact cell_of_row _ _ 3 _ _ _ hd1.head
   have hl := hd1.lenD
   rw [e1, e2] at hl
   have k0 : j / 8 < S.dirty.length := by omega
   obtain ⟨y, hy⟩ : ∃ y, (S.step.cache.map vu64)[j]? = some y := ⟨_, List.getElem?_eq_getElem (by simp; omega)⟩
   obtain ⟨u, hu⟩ : ∃ u, (S.step.dirty.map Value.bool)[j / 8]? = some u := ⟨_, List.getElem?_eq_getElem (by simp; omega)⟩
   have d1 : w1.cell? ⟨F.c, j, none⟩ = some y := hd1.cache.cell hy
   have d2 := hd1.cache.frozen j
   have d3 : w1.cell? ⟨F.t, j / 8, none⟩ = some u := hd1.dirty.cell hu
   have d4 := hd1.dirty.frozen (j / 8)
   have hn := hd1.nodup
   simp only [Foot.list, List.nodup_cons, List.mem_cons, List.not_mem_nil, or_false, not_or, List.nodup_nil, and_true, not_false_eq_true] at hn
   have n1 : F.t ≠ F.c := fun e => hn.2.2.1.2.1 e.symm
   have n2 : F.d ≠ F.c := hn.1.2.1
   have d3' : (w1.setCell ⟨F.c, j, none⟩ (vu64 x)).cell? ⟨F.t, j / 8, none⟩ = some u := by rw [World.cell?_of_block (Below.heap_setCell _ _ _ _ n1)]; exact d3
   have d4' : (w1.setCell ⟨F.c, j, none⟩ (vu64 x)).frozen? ⟨F.t, j / 8, none⟩ = false := by rw [World.frozen?_of_block (Below.heap_setCell _ _ _ _ n1)]; exact d4
   have c3' : (w1.setCell ⟨F.c, j, none⟩ (vu64 x)).cell? ⟨F.d, 3, none⟩ = some (.slice (some ⟨F.t, 0, none⟩) S.dirty.length F.ct) := by rw [World.cell?_of_block (Below.heap_setCell _ _ _ _ n2)]; exact c3
   have HP := LH (hd1.put j x (by omega) hx)
   have HT : Hid (Touch F.list w ((w1.setCell ⟨F.c, j, none⟩ (vu64 x)).setCell ⟨F.t, j / 8, none⟩ (.bool true))) :=
    LH (ht1'.trans ((Touch.setCell _ (by simp [Foot.list]) _).trans (Touch.setCell _ (by simp [Foot.list]) _)))
   clear hd1 ht1' hy hu hn hst e1 e2 HR
   go_wp2_with fail
   go_ret
   exact ⟨ret_int HE.out.symm, by rw [HSt.out]; exact HP.out, HT.out⟩
  ·rw [hst] at HE HSt
   clear hst HR
   go_wp2_with fail
   go_ret
   exact ⟨ret_int HE.out.symm, by rw [HSt.out]; assumption, ht1'⟩
 ·have HV : Hid (S.storeE (j : Int) = 2 ∧ S.store (j : Int) x = S) := LH (by unfold Dev.storeE Dev.store; rw [if_pos (.inr (by omega)), if_pos (.inr (by omega))]; exact ⟨rfl, rfl⟩)
  have HD := LH h
  clear hh h
  go_enter Tryz.func104, Tryz.ntmps104
  go_wp2_with fail
  go_ret
  exact ⟨ret_int HV.out.1.symm, by rw [HV.out.2]; exact HD.out, Touch.refl _ _⟩
section
variable {P : Program} {ops : Array Oper} {md : Region.Mode} {C : World → Prop} {Q : Exit → Act → World → Prop}
def wpAnyN (P : Program) (md : Region.Mode) (ops : Array Oper) (C : World → Prop) (n : Nat) (R : Array Bool → Act → Prop) : Nat → Array Bool → Act → Prop
 | 0, listed, a => Region.ready md ops listed = [n] ∧ R listed a
 | fuel + 1, listed, a => Region.ready md ops listed ≠ [] ∧ ∀ i ∈ Region.ready md ops listed, qOp P ops C i (wpAnyN P md ops C n R fuel (listed.setIfInBounds i true)) a
theorem wpAny_of_N {n m : Nat} {R : Array Bool → Act → Prop} (hR : ∀ listed a w, C w → R listed a → wpAny P md ops Q m listed a w) : ∀ (fuel : Nat) (listed : Array Bool) (a : Act) (w : World), C w →
  wpAnyN P md ops C n R fuel listed a → wpAny P md ops Q (fuel + m) listed a w
 | 0, listed, a, w, hC, h => by rw [Nat.zero_add]; exact hR _ _ _ hC h.2
 | fuel + 1, listed, a, w, hC, h => by
  rw [show fuel + 1 + m = (fuel + m) + 1 by omega]
  exact ⟨fun h0 => absurd h0 h.1, fun i hi => wpOp_of_qOp hC (fun a' w' hw' h' => wpAny_of_N hR fuel _ a' w' hw' h') (h.2 i hi)⟩
def heir (md : Region.Mode) (ops : Array Oper) (n k : Nat) : Bool :=
 (List.range (n + 1)).any fun j => decide (k < j) && (match ops[j]? with | some o => o.after.toList.any fun e => Region.binds md e && e.on == k | none => false)
theorem heir_listed {n : Nat} {listed : Array Bool} {on : Oper} (hc : ∀ k, k < n → heir md ops n k = true) (hs : Shut md ops listed) (hon : ops[n]? = some on)
  (hall : ∀ e ∈ on.after, Region.binds md e = true → listed.getD e.on false = true) : ∀ d k, k + d = n → 0 < d → listed.getD k false = true := by
 intro d
 induction d using Nat.strongRecOn with
 | ind d ih =>
  intro k hk hd
  have h := hc k (by omega)
  simp only [heir, List.any_eq_true, List.mem_range, Bool.and_eq_true, decide_eq_true_eq] at h
  obtain ⟨j, hj, hkj, h⟩ := h
  cases hq : ops[j]? with
  | none => rw [hq] at h; cases h
  | some o =>
   rw [hq] at h
   simp only [List.any_eq_true, Array.mem_toList_iff, Bool.and_eq_true, beq_iff_eq] at h
   obtain ⟨e, he, hb, rfl⟩ := h
   by_cases hjn : j = n
   ·subst hjn
    rw [hon] at hq
    cases hq
    exact hall e he hb
   ·exact hs j o hq (ih (n - j) (by omega) j (by omega) (by omega)) e he hb
theorem wpAnyN_first {n i : Nat} {R : Array Bool → Act → Prop} {oi : Oper} {v : Value} (hi : ops[i]? = some oi) (hsel : ∀ (j : Nat) (o : Oper) cs b, ops[j]? = some o → o.op ≠ .select cs b)
  (hc : ∀ k, k < n → heir md ops n k = true) (hin : i < n) :
  ∀ (fuel : Nat) (listed : Array Bool) (a : Act),
   (∀ j oj, ops[j]? = some oj → j ≠ i → listed.getD j true = false → (∀ e ∈ oj.after, Region.binds md e = true → e.on ≠ i) → oi.apart ops oj = true) →
   i ∈ Region.ready md ops listed → Shut md ops listed → YieldsIn P ops C oi v a →
   wpAnyN P md ops C n R fuel (listed.setIfInBounds i true) (a.put oi.dst v) → wpAnyN P md ops C n R (fuel + 1) listed a := by
 intro fuel
 induction fuel with
 | zero =>
  intro listed a _ hr hsh hy H
  refine ⟨fun h => (by rw [h] at hr; cases hr), fun j hj => ?_⟩
  by_cases hji : j = i
  ·subst hji; exact hy.qOp hi H
  ·exfalso
   have := ready_mono hj hji
   rw [H.1] at this
   have hjn : j = n := by simpa using this
   subst hjn
   obtain ⟨_, oj, hoj, hall⟩ := mem_ready.1 hj
   have h1 := heir_listed hc hsh hoj hall (j - i) i (by omega) (by omega)
   have h0 := (mem_ready.1 hr).1
   rcases Nat.lt_or_ge i listed.size with h' | h'
   ·simp [h'] at h0 h1; rw [h0] at h1; cases h1
   ·simp [Array.getElem?_eq_none h'] at h1
 | succ fuel ih =>
  intro listed a hfree hr hsh hy H
  refine ⟨fun h => (by rw [h] at hr; cases hr), fun j hj => ?_⟩
  by_cases hji : j = i
  ·subst hji; exact hy.qOp hi H
  ·have h1 := H.2 j (ready_mono hj hji)
   obtain ⟨hjun, oj, hoj, hall⟩ := mem_ready.1 hj
   have hnot : ∀ e ∈ oj.after, Region.binds md e = true → e.on ≠ i := fun e he hb heq => by
    have h1 := hall e he hb
    have h0 := (mem_ready.1 hr).1
    rw [heq] at h1
    rcases Nat.lt_or_ge i listed.size with h' | h'
    ·simp [h'] at h0 h1; rw [h0] at h1; cases h1
    ·simp [Array.getElem?_eq_none h'] at h1
   have h2 := qOp_put hoj (hfree j oj hoj hji hjun hnot) (fun cs b => hsel i oi cs b hi) (fun cs b => hsel j oj cs b hoj) hy h1
   have hfree' : ∀ k ok, ops[k]? = some ok → k ≠ i → (listed.setIfInBounds j true).getD k true = false →
     (∀ e ∈ ok.after, Region.binds md e = true → e.on ≠ i) → oi.apart ops ok = true := fun k ok hk hki hun hno => by
    refine hfree k ok hk hki ?_ hno
    by_cases hjk : j = k
    ·subst hjk; exact hjun
    ·rw [getD_set_ne true hjk] at hun; exact hun
   refine qOp_mono (fun a' h3 => ih (listed.setIfInBounds j true) a' hfree' (ready_mono hr (Ne.symm hji)) (hsh.set hj) h3.1 ?_) h2
   rw [Array.setIfInBounds_comm _ _ hji]
   exact h3.2
def preFrom (md : Region.Mode) (ops : Array Oper) (n : Nat) : Nat → Nat → Array Bool → Bool
 | 0, _, listed => (Region.ready md ops listed == [n]) && tailFrom md ops (ops.size - n) n listed
 | m + 1, k, listed => (Region.ready md ops listed).contains k && Region.free md ops listed k && preFrom md ops n m (k + 1) (listed.setIfInBounds k true)
def preB (md : Region.Mode) (ops : Array Oper) (n : Nat) : Bool := Region.noSelect ops && (List.range n).all (heir md ops n) && preFrom md ops n n 0 (Array.replicate ops.size false)
theorem pre_ok {n : Nat} (hs : Region.noSelect ops = true) (hc : ∀ k, k < n → heir md ops n k = true) {T : List Oper} : ∀ (m : Nat) (l : List Oper) (k : Nat) (listed : Array Bool) (a : Act), (∀ j, l[j]? = ops[k + j]?) → k + m = n → Shut md ops listed → preFrom md ops n m k listed = true →
      l.drop m = T → wpQuiet P ops C (fun a' => ∀ w', C w' → wpList P ops Q T a' w') (l.take m) a →
      wpAnyN P md ops C n (fun listed a' => tailFrom md ops (ops.size - n) n listed = true ∧ ∀ w', C w' → wpList P ops Q T a' w') m listed a := by
  intro m
  induction m with
  | zero =>
    intro l k listed a _ _ _ hB _ h
    simp only [preFrom, Bool.and_eq_true, beq_iff_eq] at hB
    exact ⟨hB.1, hB.2, by simpa [wpQuiet] using h⟩
  | succ m ih =>
    intro l k listed a hl hk hsh hB hT h
    simp only [preFrom, Bool.and_eq_true] at hB
    obtain ⟨⟨hr, hf⟩, hB'⟩ := hB
    have hrk : k ∈ Region.ready md ops listed := by simpa using hr
    obtain ⟨_, o0, ho0, _⟩ := mem_ready.1 hrk
    cases l with
    | nil =>
      have : ops[k]? = none := by simpa using (hl 0).symm
      rw [this] at ho0
      cases ho0
    | cons o l =>
      have h0 : ops[k]? = some o := by simpa using (hl 0).symm
      simp only [List.take_succ_cons] at h
      have hst : qOp P ops C k (wpQuiet P ops C (fun a' => ∀ w', C w' → wpList P ops Q T a' w') (l.take m)) a := by unfold qOp; simp only [h0]; exact h
      obtain ⟨v, hy, hK⟩ := yieldsIn_of_qOp h0 hst
      exact wpAnyN_first h0 (Region.noSelect_spec hs) hc (by omega) m listed a (Region.free_spec h0 hf) hrk hsh hy
        (ih l (k + 1) _ _ (fun j => by have := hl (j + 1); simpa [Nat.add_assoc, Nat.add_comm 1 j] using this) (by omega) (hsh.set hrk) hB' (by simpa using hT) hK)
theorem wp_region_tail {id : Nat} {a : Act} {w : World} {l : List Oper} (n : Nat) (hn : n ≤ l.length) (hm : P.follows .mixedOrders = true) (hB : preB .any l.toArray n = true) (hC : C w.drew)
  (h : wpQuiet P l.toArray C (fun a' => ∀ w', C w' → wpList P l.toArray Q (l.drop n) a' w') (l.take n) a) : (Code.region id l.toArray true).wp P Q a w := by
 simp only [preB, Bool.and_eq_true] at hB
 refine wp_region_any hm ?_
 have h1 := pre_ok (md := .any) (n := n) (Q := Q) (C := C) hB.1.1 (fun k hk => by have := hB.1.2; simp only [List.all_eq_true, List.mem_range] at this; exact this k hk) n l 0 (Array.replicate l.toArray.size false) a (by simp) (by omega) (shut_none _) hB.2 rfl h
 have h2 := wpAny_of_N (Q := Q) (m := (l.drop n).length) (fun listed a' w' hw' ⟨ht, hk⟩ => wpAny_of_F (C := fun _ => True) (loose := looseAt l.toArray n) _ _ _ _
  (tail_ok (n := n) (fun _ _ _ => trivial) (l.drop n) n listed a' w' (by simp) (Nat.le_refl _) (fun _ => trivial) (by simpa using ht) (hk w' hw'))) n _ a w.drew hC h1
 have e : n + (l.drop n).length = l.toArray.size := by simp; omega
 rw [e] at h2
 exact h2
theorem wp_region_later_tail {id : Nat} {a : Act} {w : World} {l : List Oper} (n : Nat) (hn : n ≤ l.length) (hm : P.follows .mixedOrders = true) (hB : preB .any l.toArray n = true)
  (h : wpQuiet P l.toArray (fun w' => ∃ x : Later w, w' = x.val) (fun a' => ∀ w', (∃ x : Later w, w' = x.val) → wpList P l.toArray Q (l.drop n) a' w') (l.take n) a) : (Code.region id l.toArray true).wp P Q a w :=
 wp_region_tail (C := fun w' => ∃ x : Later w, w' = x.val) n hn hm hB ⟨⟨w.drew, (Below.refl _ _).drew⟩, rfl⟩ h
end
end Go.Proofs.YtpohaahihdhleaaGreat
