/- Parts of the proof, one behind the other: Im, Io, Ip, Ix, Iy, Iz, Ig, It, In, Deep, Rec, If, Ya, Yb, Zn, Ea, Yc, Yd, Ye. -/
import Derived.Test.YtpohaahihdhleaaGreatRA6
import Derived.Maps.OwnOps
import Derived.Maps.RangeWalk
import Derived.Maps.OwnSet
import Derived.Maps.Views
import Derived.WideKeyEntry
import Derived.Carry
import Derived.Deep.Slices
import Derived.Deep.Fields
import Derived.ChangeSame
import Derived.OpenShut
import Derived.Deep.Cut
import Derived.BigQuiet
import Derived.Deep.CutBlock
set_option linter.unusedVariables false
namespace Go.Proofs.YtpohaahihdhleaaGreat
open Go.Maps Go.ChangeMaps
structure Tells (D : DataW Unit) (M : Int → Option Int) : Prop where
 isMap : IsMap D
 has : ∀ x, has D (.int .i64 x) = (M x).isSome
 val : ∀ x c, M x = some c → ∀ z, D.atKey (.int .i64 x) z = .lit (.int .i64 c)
theorem Tells.get {D : DataW Unit} {M : Int → Option Int} (h : Tells D M) (x : Int) : D.atKey (.int .i64 x) (.lit (.int .i64 0)) = .lit (.int .i64 ((M x).getD 0)) := by
 cases hm : M x with
 | none => rw [atKey_of_not_has (by rw [h.has, hm]; rfl)]; rfl
 | some c => rw [h.val x c hm]; rfl
theorem key_wf {x : Int} (_hw : (Lit.int .i64 x).wf = true) : WideAt.IsKeyLit (.int .i64 x) := by
 trivial
theorem tells_nil : Tells (.map []) fun _ => none := ⟨isMap_empty, fun _ => rfl, fun _ _ h => by cases h⟩
theorem Tells.put {D : DataW Unit} {M : Int → Option Int} (h : Tells D M) {x : Int} (hw : (Lit.int .i64 x).wf = true) (c : Int) :
  Tells (D.put (.int .i64 x) (.lit (.int .i64 c))) fun y => if y = x then some c else M y := by
 refine ⟨h.isMap.put _ _, fun y => ?_, fun y d hy z => ?_⟩
 ·by_cases e : y = x
  ·subst e; rw [has_put_same h.isMap (key_wf hw), if_pos rfl]; rfl
  ·rw [has_put_other (by simpa using e), if_neg e, h.has]
 ·by_cases e : y = x
  ·subst e; rw [if_pos rfl] at hy; cases hy; rw [atKey_put_same h.isMap (key_wf hw)]
  ·rw [if_neg e] at hy; rw [atKey_put_other (by simpa using e), h.val y d hy]
theorem Tells.del {D : DataW Unit} {M : Int → Option Int} (h : Tells D M) (x : Int) : Tells (D.del (.int .i64 x)) fun y => if y = x then none else M y := by
 refine ⟨h.isMap.del _, fun y => ?_, fun y d hy z => ?_⟩
 ·by_cases e : y = x
  ·subst e; rw [has_del_same, if_pos rfl]; rfl
  ·rw [has_del_other (by simpa using e), if_neg e, h.has]
 ·by_cases e : y = x
  ·rw [if_pos e] at hy; cases hy
  ·rw [if_neg e] at hy; rw [atKey_del_other (by simpa using e), h.val y d hy]
def IMap (P : Program) (k : TypeId) (w : World) (b n : Nat) (M : Int → Option Int) : Prop :=
 ∃ D : DataW Unit, w.ownsMap P k (plainElem P k) b n D ∧ Tells D M
section
variable {P : Program} {k t : TypeId} {w : World} {b n : Nat} {M : Int → Option Int} {ops : Array Oper} {rest : List Oper} {o : Oper} {a : Act} {Q : Exit → Act → World → Prop}
theorem IMap.kept {w' : World} {row : Option Nat} (h : IMap P k w b n M) (hg : w.grownBy w' row) (hne : some b ≠ row) : IMap P k w' b n M := by
 obtain ⟨D, ho, ht⟩ := h; exact ⟨D, ho.kept hg hne, ht⟩
theorem IMap.alloc (h : IMap P k w b n M) (ob : Obj) : IMap P k (w.alloc ob) b n M := by
 obtain ⟨D, ho, ht⟩ := h; exact ⟨D, ho.alloc ob, ht⟩
theorem IMap.mono {n' : Nat} (h : IMap P k w b n M) (hn : n ≤ n') : IMap P k w b n' M := by
 obtain ⟨D, ho, ht⟩ := h; exact ⟨D, ho.mono hn, ht⟩
theorem IMap.lt (h : IMap P k w b n M) : b < w.heap.size := by obtain ⟨D, ho, _⟩ := h; exact ho.lt
theorem IMap.made (w : World) (P : Program) (k : TypeId) : IMap P k (w.alloc (.map #[] 0)) w.heap.size 0 fun _ => none :=
 ⟨.map [], World.ownsMap_made w P k _, tells_nil⟩
theorem IMap.block (h : IMap P k w b n M) {w' : World} (he : w'.heap[b]? = w.heap[b]?) : IMap P k w' b n M := by
 obtain ⟨D, ⟨es, clock, hb, F, hs, hD⟩, ht⟩ := h; exact ⟨D, ⟨es, clock, he.trans hb, F, hs, hD⟩, ht⟩
theorem wpList_ilook_ok (hg : o.guard = none) (m x : Operand) (t : TypeId) (hop : o.op = Op.lookup t m x true)
  (k : TypeId) (hk : P.underlying k = some (.int .i64)) (ht : P.underlying t = some (.map k k)) (hz : (zeroValue k).run P w = .ok (.int .i64 0) w) (b n : Nat) (M : Int → Option Int)
  (hm : a.eval m = .map (some b)) (hown : IMap P k w b n M) (y : Int) (hx : a.eval x = .int .i64 y) (hw : (Lit.int .i64 y).wf = true)
  (hK : wpList P ops Q rest (a.put o.dst (.tuple #[.int .i64 ((M y).getD 0), .bool (M y).isSome])) w) :
  wpList P ops Q (o :: rest) a w := by
 obtain ⟨D, ho, hT⟩ := hown
 refine wpList_lookup_own_ok_int w hg m x t hop k k .i64 (int_keyed hk) ht hk hz b n D hm ho _ _ hx (keyOf_int_mk hk hw) fun c hat _ => ?_
 rw [hT.get y] at hat
 have e : (M y).getD 0 = c := by injection hat with h1; injection h1
 rw [← e, hT.has y]
 exact hK
theorem wpList_ilook (hg : o.guard = none) (m x : Operand) (t : TypeId) (hop : o.op = Op.lookup t m x false)
  (k : TypeId) (hk : P.underlying k = some (.int .i64)) (ht : P.underlying t = some (.map k k)) (hz : (zeroValue k).run P w = .ok (.int .i64 0) w) (b n : Nat) (M : Int → Option Int)
  (hm : a.eval m = .map (some b)) (hown : IMap P k w b n M) (y : Int) (hx : a.eval x = .int .i64 y) (hw : (Lit.int .i64 y).wf = true)
  (hK : wpList P ops Q rest (a.put o.dst (.int .i64 ((M y).getD 0))) w) :
  wpList P ops Q (o :: rest) a w := by
 obtain ⟨D, ho, hT⟩ := hown
 refine wpList_lookup_own_int w hg m x t hop k k .i64 (int_keyed hk) ht hk hz b n D hm ho _ _ hx (keyOf_int_mk hk hw) fun c hat _ => ?_
 rw [hT.get y] at hat
 have e : (M y).getD 0 = c := by injection hat with h1; injection h1
 rw [← e]
 exact hK
theorem wpList_idelete (hg : o.guard = none) (m x : Operand) (t k : TypeId) (hop : o.op = Op.call { callee := Callee.builtin Builtin.delete, args := #[m, x], argTypes := #[t, k] })
  (hk : P.underlying k = some (.int .i64)) (ht : P.underlying t = some (.map k k)) (b n : Nat) (M : Int → Option Int)
  (hm : a.eval m = .map (some b)) (hown : IMap P k w b n M) (y : Int) (hx : a.eval x = .int .i64 y) (hw : (Lit.int .i64 y).wf = true)
  (hK : ∀ w', IMap P k w' b n (fun z => if z = y then none else M z) → w.grownBy w' (some b) → wpList P ops Q rest (a.put o.dst (.tuple #[])) w') :
  wpList P ops Q (o :: rest) a w := by
 obtain ⟨D, ho, hT⟩ := hown
 exact wpList_delete_own w hg m x t k hop k (int_keyed hk) ht (plainElem P k) b n D hm ho _ _ hx (keyOf_int_mk hk hw) fun w' h1 h2 => hK w' ⟨_, h1, hT.del y⟩ h2.grown
def IRange (P : Program) (k : TypeId) (w : World) (b r n : Nat) (M : Int → Option Int) (L : Int → Bool) (cnt : Nat) : Prop :=
 ∃ (D : DataW Unit) (left : Lit → Bool), w.ranges P k (plainElem P k) b r n D left cnt ∧ Tells D M ∧ ∀ x, left (.int .i64 x) = L x
theorem IRange.left_eq {L : Int → Bool} {cnt r : Nat} (h : IRange P k w b r n M L cnt) : w.rangeLeft b r = cnt := by
 obtain ⟨D, left, h1, _⟩ := h; exact h1.left_eq
theorem wpList_irange (hg : o.guard = none) (m : Operand) (t : TypeId) (hop : o.op = Op.range t m) (k : TypeId) (hk : P.underlying k = some (.int .i64)) (ht : P.underlying t = some (.map k k)) (b n : Nat) (M : Int → Option Int)
  (hm : a.eval m = .map (some b)) (hown : IMap P k w b n M)
  (hK : ∀ w' cnt, IRange P k w' b w.heap.size n M (fun x => (M x).isSome) cnt → w.grownBy w' none → w'.heap.size = w.heap.size + 1 → wpList P ops Q rest (a.put o.dst (.pointer (some ⟨w.heap.size, 0, none⟩))) w') :
  wpList P ops Q (o :: rest) a w := by
 obtain ⟨D, ho, hT⟩ := hown
 exact wpList_range_own w hg m t hop k k (int_keyed hk) ht (plainElem P k) b n D hm ho fun w' h1 h2 h3 => hK w' _ ⟨D, _, h1, hT, hT.has⟩ h2 h3
theorem wpList_inext (hg : o.guard = none) (it : Operand) (hop : o.op = Op.next it false) (k : TypeId) (hk : P.underlying k = some (.int .i64))
  (b r n : Nat) (M : Int → Option Int) (L : Int → Bool) (cnt : Nat) (hit : a.eval it = .pointer (some ⟨r, 0, none⟩)) (h : IRange P k w b r n M L cnt)
  (hDone : (∀ x, L x = false) → wpList P ops Q rest (a.put o.dst (.tuple #[.bool false])) w)
  (hMore : ∀ (x c : Int) (w' : World) (cnt' : Nat), (Lit.int .i64 x).wf = true → (Lit.int .i64 c).wf = true → L x = true → M x = some c → IRange P k w' b r n M (fun z => L z && !decide (z = x)) cnt' → cnt' < cnt →
   w.grownBy w' (some r) → w'.heap.size = w.heap.size → (Instr.entry (.pointer (some ⟨r, 0, none⟩))).run P w' = .ok (.tuple #[.int .i64 x, .int .i64 c]) w' → wpList P ops Q rest (a.put o.dst (.tuple #[.bool true, .int .i64 x, .int .i64 c])) w') :
  wpList P ops Q (o :: rest) a w := by
 obtain ⟨D, left, h1, hT, hL⟩ := h
 refine wpList_next_ranges_ii w hg it hop k k .i64 .i64 (int_keyed hk) hk hk b r n D left cnt hit h1 (fun _ h0 => hDone fun x => by rw [← hL, h0]) ?_
 intro x c w' cnt' hwx hwc hlx hat hrg hlt hgr hsz hen
 have hhas : has D (.int .i64 x) = true := has_true_of_atKey hat
 rw [hT.has] at hhas
 have hM : M x = some c := by
  cases hm : M x with
  | none => rw [hm] at hhas; cases hhas
  | some c' =>
   have e := hat (.lit (.int .i64 0))
   rw [hT.val x c' hm] at e
   have : c' = c := by injection e with h1; injection h1
   rw [this]
 refine hMore x c w' cnt' hwx hwc (by rw [← hL]; exact hlx) hM ⟨D, _, hrg, hT, fun z => ?_⟩ hlt hgr hsz hen
 simp only [hL]
 congr 2
 by_cases e : z = x
 ·subst e; rw [WideAt.sameKey_self (key_wf hwx)]; simp
 ·rw [Maps.sameKey_ne (by simpa using e)]; simp [e]
end
end Go.Proofs.YtpohaahihdhleaaGreat
namespace Go.Proofs.YtpohaahihdhleaaGreat
open Go.Maps Go.ChangeMaps Go.MapKept Go.WideElems
section
variable {P : Program} {k t : TypeId} {w : World} {b n : Nat} {M : Int → Option Int}
theorem entry_store_at {es : Array MapEntry} {clock j : Nat} {e0 : MapEntry} (hb : w.heap[b]? = some (.map es clock)) (hn : (es.toList.map (·.born)).Nodup) (hj : es.toList[j]? = some e0) (val : Value) :
  (Instr.entryStore t (.map (some b)) (goInt e0.born) val).run P w = .ok () (setBlock w b (.map (es.modify j fun e => { e with val := val }) clock)) := by
 have hidx : es.findIdx? (fun e => ((e.born : Nat) : Int) == ((e0.born : Nat) : Int)) = some j := by
  rw [findIdx_arr]; exact findIdx_born hn hj
 simp [Instr.entryStore, MapKept.run_getObj_map hb, asInt, asIntOf, goInt, hidx, MapKept.run_setObj_map _ hb, Result.andThen, setBlock]
theorem imap_entry (h : IMap P k w b n M) (hk : P.underlying k = some (.int .i64)) (ht : P.underlying t = some (.map k k)) (hz : ∀ u : World, (zeroValue k).run P u = .ok (.int .i64 0) u) (hn : n < maxLen) {y : Int} (hw : (Lit.int .i64 y).wf = true) :
  ∃ (v0 : Value) (st : Nat) (es1 : Array MapEntry) (clock1 : Nat), (Instr.mapEntry t (.map (some b)) (.int .i64 y)).run P w = .ok (.tuple #[v0, goInt st]) (setBlock w b (.map es1 clock1)) ∧
   ∀ (w2 : World) (c : Int), (Lit.int .i64 c).wf = true → w2.heap[b]? = some (.map es1 clock1) → ∃ es' clock', (Instr.entryStore t (.map (some b)) (goInt st) (.int .i64 c)).run P w2 = .ok () (setBlock w2 b (.map es' clock')) ∧
    IMap P k (setBlock w2 b (.map es' clock')) b (n + 1) (fun z => if z = y then some c else M z) := by
 have K := int_keyed hk
 obtain ⟨D, ho, hT⟩ := h
 have hup : ∀ c : Int, (Lit.int .i64 c).wf = true → ∃ w', (Instr.mapUpdate t (.map (some b)) (.int .i64 y) (.int .i64 c)).run P w = .ok () w' ∧ IMap P k w' b (n + 1) (fun z => if z = y then some c else M z) := fun c hc => by
  obtain ⟨w', h1, h2, _⟩ := ho.update K ht hn (keyOf_int_mk hk hw) (plainElem_int hk hc)
  exact ⟨w', h1, _, h2, hT.put hw c⟩
 have hmove : ∀ (w2 : World) (c : Int) (es' : Array MapEntry) (clock' : Nat) (e2 : Array MapEntry) (c2 : Nat), (Lit.int .i64 c).wf = true → w2.heap[b]? = some (.map e2 c2) →
   (Instr.mapUpdate t (.map (some b)) (.int .i64 y) (.int .i64 c)).run P w = .ok () (setBlock w b (.map es' clock')) → IMap P k (setBlock w2 b (.map es' clock')) b (n + 1) (fun z => if z = y then some c else M z) := by
  intro w2 c es' clock' e2 c2 hc h2 hrun
  obtain ⟨w', h3, h4⟩ := hup c hc
  rw [hrun] at h3
  injection h3 with _ h5
  rw [← h5] at h4
  obtain ⟨es, clock, hb, _⟩ := ho
  exact h4.block ((heap_setBlock_same h2 _).trans (heap_setBlock_same hb _).symm)
 obtain ⟨es, clock, hb, F, _, _⟩ := ho
 obtain ⟨s1, s2, _⟩ := F.stamped
 have hkey := keyOf_int_mk (k := k) hk hw
 rcases K.find w hkey es.toList F.keys with ⟨h1, h2⟩ | ⟨j, e0, h1, h2, h3⟩
 ·have hlast : (es.push ⟨.int .i64 y, .int .i64 0, clock⟩).toList[es.size]? = some ⟨.int .i64 y, .int .i64 0, clock⟩ := by simp
  have hnd : ((es.push ⟨.int .i64 y, .int .i64 0, clock⟩).toList.map (·.born)).Nodup := by
   rw [Array.toList_push, List.map_append]
   refine List.nodup_append.2 ⟨s2, by simp, fun a ha c hc e => ?_⟩
   obtain ⟨x, hx, rfl⟩ := List.mem_map.1 ha
   have := s1 x hx
   simp at hc; omega
  refine ⟨.int .i64 0, clock, _, clock + 1, ?_, fun w2 c hc hw2 => ⟨_, _, entry_store_at hw2 hnd hlast _, hmove w2 c _ _ _ _ hc hw2 ?_⟩⟩
  ·simp [Instr.mapEntry, run_underlying ht, MapKept.run_getObj_map hb, K.check w false hkey, h1, hz, MapKept.run_setObj_map _ hb, Result.andThen, setBlock]
  ·have hmod : (es.push ⟨.int .i64 y, .int .i64 0, clock⟩).modify es.size (fun e => { e with val := .int .i64 c }) = es.push ⟨.int .i64 y, .int .i64 c, clock⟩ := by
    apply Array.ext'
    rw [Array.toList_modify, Array.toList_push, Array.toList_push, ← Array.length_toList, modify_last]
   rw [hmod]
   simp [Instr.mapUpdate, run_underlying ht, MapKept.run_getObj_map hb, K.check w false hkey, h1, MapKept.run_setObj_map _ hb, Result.andThen, setBlock]
 ·have hj : es[j]? = some e0 := by simpa using h2
  have hsame : es.modify j (fun e => { e with key := .int .i64 y }) = es := by
   apply Array.ext'
   rw [Array.toList_modify, modify_eq_set _ _ _ _ h2, show ({ e0 with key := .int .i64 y } : MapEntry) = e0 by rw [← h3]]
   exact set_self _ _ _ h2
  refine ⟨e0.val, e0.born, es, clock, ?_, fun w2 c hc hw2 => ⟨_, _, entry_store_at hw2 s2 h2 _, hmove w2 c _ _ _ _ hc hw2 ?_⟩⟩
  ·simp [Instr.mapEntry, run_underlying ht, MapKept.run_getObj_map hb, K.check w false hkey, h1, hj, h3, K.stays w hkey, hsame, MapKept.run_setObj_map _ hb, Result.andThen, setBlock]
  ·have hmod : es.modify j (fun e => { e with val := .int .i64 c }) = es.modify j (fun e' => { e' with key := .int .i64 y, val := .int .i64 c }) := by
    apply Array.ext'
    rw [Array.toList_modify, Array.toList_modify, modify_eq_set _ _ _ _ h2, modify_eq_set _ _ _ _ h2, ← h3]
   rw [hmod]
   simp [Instr.mapUpdate, run_underlying ht, MapKept.run_getObj_map hb, K.check w false hkey, h1, hj, h3, K.stays w hkey, MapKept.run_setObj_map _ hb, Result.andThen, setBlock]
end
def Pend (P : Program) (k t : TypeId) (w : World) (b n : Nat) (M : Int → Option Int) (y : Int) (st : Nat) : Prop :=
 ∃ (es1 : Array MapEntry) (clock1 : Nat), w.heap[b]? = some (.map es1 clock1) ∧
  ∀ (w2 : World) (c : Int), (Lit.int .i64 c).wf = true → w2.heap[b]? = some (.map es1 clock1) → ∃ es' clock', (Instr.entryStore t (.map (some b)) (goInt st) (.int .i64 c)).run P w2 = .ok () (setBlock w2 b (.map es' clock')) ∧
   IMap P k (setBlock w2 b (.map es' clock')) b (n + 1) (fun z => if z = y then some c else M z)
section
variable {P : Program} {k t : TypeId} {w : World} {b n : Nat} {M : Int → Option Int} {ops : Array Oper} {rest : List Oper} {o : Oper} {a : Act} {Q : Exit → Act → World → Prop} {y : Int} {st : Nat}
theorem grown_setBlock (w : World) (b : Nat) (x : Obj) : w.grownBy (setBlock w b x) (some b) :=
 ⟨rfl, rfl, rfl, by simp [setBlock], fun i hi hne => by
  have : i ≠ b := fun e => hne (by rw [e])
  simp [setBlock, Ne.symm this]⟩
theorem wpList_ientry (hg : o.guard = none) (m x : Operand) (t : TypeId) (hop : o.op = Op.mapEntry t m x)
  (k : TypeId) (hk : P.underlying k = some (.int .i64)) (ht : P.underlying t = some (.map k k)) (hz : ∀ u : World, (zeroValue k).run P u = .ok (.int .i64 0) u) (b n : Nat) (M : Int → Option Int)
  (hm : a.eval m = .map (some b)) (hown : IMap P k w b n M) (hn : n < maxLen) (y : Int) (hx : a.eval x = .int .i64 y) (hw : (Lit.int .i64 y).wf = true)
  (hK : ∀ w' v0 st, Pend P k t w' b n M y st → w.grownBy w' (some b) → wpList P ops Q rest (a.put o.dst (.tuple #[v0, goInt st])) w') :
  wpList P ops Q (o :: rest) a w := by
 refine wpList_plain hg fun K' hK' => ?_
 have hlt := hown.lt
 obtain ⟨v0, st, es1, clock1, h1, h2⟩ := imap_entry hown hk ht hz hn hw
 unfold Oper.wp
 simp [execOp, hop, hm, hx, h1, Result.andThen]
 exact hK' _ _ (hK _ v0 st ⟨es1, clock1, by simp [setBlock, hlt], h2⟩ (grown_setBlock _ _ _))
theorem wpList_ientryStore (hg : o.guard = none) (m s x : Operand) (t : TypeId) (hop : o.op = Op.entryStore t m s x)
  (k : TypeId) (b n : Nat) (M : Int → Option Int) (y : Int) (st : Nat) (c : Int)
  (hm : a.eval m = .map (some b)) (hs : a.eval s = goInt st) (hx : a.eval x = .int .i64 c) (hp : Pend P k t w b n M y st) (hc : (Lit.int .i64 c).wf = true)
  (hK : ∀ w', IMap P k w' b (n + 1) (fun z => if z = y then some c else M z) → w.grownBy w' (some b) → wpList P ops Q rest (a.put o.dst undef) w') :
  wpList P ops Q (o :: rest) a w := by
 refine wpList_plain hg fun K' hK' => ?_
 obtain ⟨es1, clock1, h1, h2⟩ := hp
 obtain ⟨es', clock', h3, h4⟩ := h2 w c hc h1
 unfold Oper.wp
 simp [execOp, hop, hm, hs, hx, h3, Result.andThen]
 exact hK' _ _ (hK _ h4 (grown_setBlock _ _ _))
end
end Go.Proofs.YtpohaahihdhleaaGreat
namespace Go.Proofs.YtpohaahihdhleaaGreat
open Go.RowKit Go.Maps
structure Tri where
 p : Nat
 s : Nat
 e : Nat
def Tri.list (T : Tri) : List Nat := [T.p, T.s, T.e]
structure MapsAt (w : World) (T : Tri) (n lim : Nat) (M E : Int → Option Int) : Prop where
 head : w.heap[T.p]? = some (.cells #[.map (some T.s), .map (some T.e), .int .i64 (lim : Int)] 219 (0, 0))
 byS : IMap Tryz.prog 3 w T.s n M
 byE : IMap Tryz.prog 3 w T.e n E
 ne1 : T.p ≠ T.s
 ne2 : T.p ≠ T.e
 ne3 : T.s ≠ T.e
theorem MapsAt.row {w : World} {T : Tri} {n lim : Nat} {M E : Int → Option Int} (h : MapsAt w T n lim M E) : RowAt w T.p 219 [.map (some T.s), .map (some T.e), .int .i64 (lim : Int)] := ⟨_, h.head, [], rfl⟩
theorem MapsAt.keep {w w' : World} {T : Tri} {n lim : Nat} {M E : Int → Option Int} (h : MapsAt w T n lim M E) (hk : ∀ k ∈ T.list, w'.heap[k]? = w.heap[k]?) : MapsAt w' T n lim M E := by
 have h1 := hk T.p (by simp [Tri.list])
 have h2 := hk T.s (by simp [Tri.list])
 have h3 := hk T.e (by simp [Tri.list])
 exact ⟨h1.trans h.head, h.byS.block h2, h.byE.block h3, h.ne1, h.ne2, h.ne3⟩
theorem MapsAt.mem {w : World} {T : Tri} {n lim : Nat} {M E : Int → Option Int} (h : MapsAt w T n lim M E) : ∀ k ∈ T.list, k < w.heap.size := by
 have h1 := h.row.lt
 have h2 := h.byS.lt
 have h3 := h.byE.lt
 simp only [Tri.list, List.mem_cons, List.not_mem_nil, or_false, forall_eq_or_imp, forall_eq]
 exact ⟨h1, h2, h3⟩
theorem MapsAt.below {w w' : World} {T : Tri} {n lim : Nat} {M E : Int → Option Int} (h : MapsAt w T n lim M E) (hb : Below w.heap.size w w') : MapsAt w' T n lim M E := h.keep (fun k hk => hb.block k (h.mem k hk))
theorem MapsAt.mono {w : World} {T : Tri} {n m lim : Nat} {M E : Int → Option Int} (h : MapsAt w T n lim M E) (hn : n ≤ m) : MapsAt w T m lim M E := ⟨h.head, h.byS.mono hn, h.byE.mono hn, h.ne1, h.ne2, h.ne3⟩
def IxAt (w : World) (T : Tri) (n : Nat) (l : List Bool) : Prop := ∃ M E, MapsAt w T n l.length M E ∧ MOf l M ∧ EOf l E
theorem IxAt.below {w w' : World} {T : Tri} {n : Nat} {l : List Bool} (h : IxAt w T n l) (hb : Below w.heap.size w w') : IxAt w' T n l := by
 obtain ⟨M, E, h1, h2⟩ := h; exact ⟨M, E, h1.below hb, h2⟩
theorem IxAt.keep {w w' : World} {T : Tri} {n : Nat} {l : List Bool} (h : IxAt w T n l) (hk : ∀ k ∈ T.list, w'.heap[k]? = w.heap[k]?) : IxAt w' T n l := by
 obtain ⟨M, E, h1, h2⟩ := h; exact ⟨M, E, h1.keep hk, h2⟩
theorem IxAt.mem {w : World} {T : Tri} {n : Nat} {l : List Bool} (h : IxAt w T n l) : ∀ k ∈ T.list, k < w.heap.size := by
 obtain ⟨M, E, h1, h2⟩ := h; exact h1.mem
theorem MOf.bounds {l : List Bool} {M : Int → Option Int} (h : MOf l M) {s c : Int} (hm : M s = some c) : 0 ≤ s ∧ 1 ≤ c ∧ s + c ≤ l.length := by
 obtain ⟨h1, h2, h3⟩ := (h s c).1 hm
 have := runEnds h3
 have := h3.1
 omega
def hasB (l : List Bool) (b : Int) : Bool := decide (0 ≤ b) && fb l b.toNat
theorem hasB_hit {l : List Bool} {M : Int → Option Int} (h : MOf l M) {s c b : Int} (hm : M s = some c) (h1 : s ≤ b) (h2 : b < s + c) : hasB l b = true := by
 obtain ⟨h3, h4, h5⟩ := (h s c).1 hm
 have := h5.2.1 b.toNat (by omega) (by omega)
 unfold hasB
 rw [this]
 simp; omega
theorem hasB_miss {l : List Bool} {M : Int → Option Int} (h : MOf l M) {b : Int} (hn : ∀ s c, M s = some c → ¬ (s ≤ b ∧ b < s + c)) : hasB l b = false := by
 unfold hasB
 by_cases hb : 0 ≤ b
 ·cases hf : fb l b.toNat with
  | false => simp
  | true =>
   obtain ⟨s, n, h1, h2, h3⟩ := has_run (f := fb l) (L := l.length) (fun x hx => fb_far l x hx) hf
   exact absurd ⟨by omega, by omega⟩ (hn s n ((h s n).2 ⟨by omega, by omega, by simpa using h1⟩))
 ·simp [hb]
theorem grown_one {w w' : World} {r B : Nat} (h : w.grownBy w' (some r)) (hr : B ≤ r) (hB : B ≤ w.heap.size) : Below B w w' :=
 ⟨h.os, h.tape, h.output, h.size, fun k hk => h.block k (by omega) (by simp; omega)⟩
theorem grown_touch {w w' : World} {r : Nat} {L : List Nat} (h : w.grownBy w' (some r)) (hr : r ∈ L) : Touch L w w' :=
 ⟨h.os, h.tape, h.output, h.size, fun k hk hn => h.block k hk (by simp; intro e; exact hn (by rw [e]; exact hr))⟩
theorem grown_none {w w' : World} (h : w.grownBy w' none) : Below w.heap.size w w' :=
 ⟨h.os, h.tape, h.output, h.size, fun k hk => h.block k hk (by simp)⟩
set_option maxHeartbeats 1000000 in
theorem has_any {w : World} {T : Tri} {n : Nat} {l : List Bool} (h : IxAt w T n l) (hl : l.length ≤ 1000000000000) (b : Int) :
  Calls Tryz.prog 177 #[.pointer (some ⟨T.p, 0, none⟩), .int .i64 b] w fun e w' => e = .returned (.bool (hasB l b)) ∧ Below w.heap.size w w' := by
 obtain ⟨M, E, hA, hMO, _⟩ := h
 have e0 : w.cell? ⟨T.p, 0, none⟩ = some (.map (some T.s)) := hA.row.cell rfl
 have HS := LH hA.byS
 have HMO := LH hMO
 have HL := LH hl
 clear hA hMO hl
 go_enter Tryz.func177, Tryz.ntmps177
 go_wp2_with (at_range; refine wpList_irange rfl _ 217 rfl 3 Tryz.underlying3 Tryz.underlying217 T.s n M rfl HS.out ?_; intro w0 cnt0 hr0 hg0 hs0)
 have HR0 := LH hr0
 have HB0 := LH (grown_none hg0)
 clear hr0 hg0 hs0
 go_frame
 go_loopw [5] (fun _ wr => ∃ (L : Int → Bool) (cnt : Nat), IRange Tryz.prog 3 wr T.s w.heap.size n M L cnt ∧ Below w.heap.size w wr ∧ ∀ s c, M s = some c → L s = false → ¬ (s ≤ b ∧ b < s + c)) (fun _ wr => wr.rangeLeft T.s w.heap.size)
 case atStart => exact ⟨_, _, HR0.out, HB0.out, fun s c h1 h2 => by rw [h1] at h2; cases h2⟩
 case round =>
  obtain ⟨L, cnt, hr, hb, hun⟩ := hrel
  have HR := LH hr
  have HB := LH hb
  have HU := LH hun
  clear hr hb hun
  go_wp2_with (at_next; refine wpList_inext rfl _ rfl 3 Tryz.underlying3 T.s w.heap.size n M _ _ rfl HR.out ?_ ?_)
  ·intro h0
   have hres : hasB l b = false := hasB_miss HMO.out (fun s c hm => HU.out s c hm (h0 s))
   clear h0
   go_wp2_with fail
   go_ret
   rw [hres]
   exact ⟨rfl, HB.out⟩
  ·intro x c w1 cnt1 hwx hwc hL hMx hr1 hlt hg1 hs1 hen
   obtain ⟨g1, g2, g3⟩ := HMO.out.bounds hMx
   have g4 := HL.out
   have HR1 := LH hr1
   have HB1 : Hid (Below w.heap.size w w1) := LH (HB.out.trans (grown_one hg1 (Nat.le_refl _) HB.out.size))
   have HMx := LH hMx
   have HLt := LH hlt
   clear hL hMx hr1 hlt hg1 hs1 hwx hwc
   by_cases hit : x ≤ b ∧ b < x + c
   ·obtain ⟨h1, h2⟩ := hit
    have hres : hasB l b = true := hasB_hit HMO.out HMx.out h1 h2
    have HRes := LH hres
    clear hres
    go_wp2_with fail
    go_ret
    rw [HRes.out]
    exact ⟨rfl, HB1.out⟩
   ·have hit' : b < x ∨ (x ≤ b ∧ x + c ≤ b) := by omega
    have HU1 : Hid (∀ s d, M s = some d → (L s && !decide (s = x)) = false → ¬ (s ≤ b ∧ b < s + d)) := LH (by
     intro s d hm hls
     by_cases e : s = x
     ·subst e
      rw [HMx.out] at hm
      cases hm
      exact hit
     ·simp [e] at hls
      exact HU.out s d hm hls)
    clear hit
    rcases hit' with h1 | ⟨h1, h2⟩
    all_goals
     go_wp2_with fail
     go_roundw
     case rel => exact ⟨_, _, HR1.out, HB1.out, HU1.out⟩
     case measure => rw [HR1.out.left_eq, HR.out.left_eq]; exact HLt.out
def mdel (M : Int → Option Int) (y : Int) : Int → Option Int := fun z => if z = y then none else M z
def mput (M : Int → Option Int) (y c : Int) : Int → Option Int := fun z => if z = y then some c else M z
theorem i64wf {x : Int} (h1 : -9223372036854775808 ≤ x) (h2 : x < 9223372036854775808) : (Lit.int .i64 x).wf = true := by
 simp [Lit.wf, IntKind.min, IntKind.max, IntKind.bits, IntKind.signed]
 omega
set_option maxHeartbeats 1000000 in
theorem drop_any {w : World} {T : Tri} {n lim : Nat} {M E : Int → Option Int} (h : MapsAt w T n lim M E) {s c : Int} (hm : M s = some c) (h1 : 0 ≤ s) (h2 : 0 ≤ c) (h3 : s + c ≤ 1000000000000) :
  Calls Tryz.prog 178 #[.pointer (some ⟨T.p, 0, none⟩), .int .i64 s] w fun e w' => e = .returned (.tuple #[]) ∧ MapsAt w' T n lim (mdel M s) (mdel E (s + c)) ∧ Touch [T.s, T.e] w w' := by
 have e0 : w.cell? ⟨T.p, 0, none⟩ = some (.map (some T.s)) := h.row.cell rfl
 have e1 : w.cell? ⟨T.p, 1, none⟩ = some (.map (some T.e)) := h.row.cell rfl
 have hnp : T.p ∉ [T.s, T.e] := by have := h.ne1; have := h.ne2; simp; omega
 have r0 := fun x => near_cell (L := [T.s, T.e]) e0 hnp x
 have r1 := fun x => near_cell (L := [T.s, T.e]) e1 hnp x
 have HM := LH hm
 have HA := LH h
 have HNp := LH hnp
 have HN3 := LH h.ne3
 have HW := LH (i64wf (x := s) (by omega) (by omega))
 have HW2 := LH (i64wf (x := s + c) (by omega) (by omega))
 clear hm h e0 e1 hnp
 go_enter Tryz.func178, Tryz.ntmps178
 go_wp2_with fail
 have HC0 : ∃ x : Near [T.s, T.e] w, w.drew = x.val := near_of (Touch.ofBelow (later_below (later_drew w)))
 refine wp_region_seg (C := fun w' => ∃ x : Near [T.s, T.e] w, w' = x.val) [.fl [0, 1, 2, 3, 4, 5, 6, 7, 8, 9], .sq [10] true, .fl [11], .sq [12] false] (by kernel_rfl) (by kernel_rfl) (by intro c a d v w h; cases d <;> exact h) ?_
 simp only [segs, picks, List.getElem?_cons_succ, List.getElem?_cons_zero]
 refine wpSeg_fl HC0 ?_
 repeat (first | go_big_quiet_step (fail) | quiet_step (fail))
 refine wpQuiet_nil ?_
 have HA0 := LH (HA.out.below (later_below (later_drew w)))
 have HT0 := LH (Touch.ofBelow (L := [T.s, T.e]) (later_below (later_drew w)))
 generalize w.drew = w0 at *
 refine wpSeg_sq (fun K hK => ?_)
 go_wp2_with (refine wpList_ilook rfl _ _ 217 rfl 3 Tryz.underlying3 Tryz.underlying217 (by kernel_rfl) T.s n M rfl HA0.out.byS s rfl HW.out ?_; rw [HM.out, Option.getD_some])
 go_wp2_with fail
 refine hK _ _ (fun _ => HC0) ?_
 clear hK K
 refine wpSeg_fl HC0 ?_
 repeat (first | go_big_quiet_step (fail) | quiet_step (fail))
 refine wpQuiet_nil ?_
 refine wpSeg_last ?_
 go_wp2_with (first | (refine wpList_idelete rfl _ _ 217 3 rfl Tryz.underlying3 Tryz.underlying217 T.e n E rfl HA0.out.byE (s + c) rfl HW2.out ?_; intro w2 hE2 hg2; have HE2 := LH hE2; have HG2 := LH hg2; have HT2 : Hid (Touch [T.s, T.e] w w2) := LH (HT0.out.trans (grown_touch hg2 (by simp))); have HS2 := LH (HA0.out.byS.kept hg2 (by simp; exact HN3.out)); have e0 : w2.cell? ⟨T.p, 0, none⟩ = some (.map (some T.s)) := cell_of_row _ _ 0 _ _ _ ((HT2.out.block T.p (HA.out.row.lt) HNp.out).trans HA.out.head); clear hE2 hg2 HC0 r0 r1) | (refine wpList_idelete rfl _ _ 217 3 rfl Tryz.underlying3 Tryz.underlying217 T.s n M rfl HS2.out s rfl HW.out ?_; intro w3 hS3 hg3; have HS3 := LH hS3; have HG3 := LH hg3; clear hS3 hg3))
 go_end0
 have ht : Touch [T.s] w2 w3 := grown_touch HG3.out (by simp)
 refine ⟨rfl, ⟨?_, HS3.out, HE2.out.kept HG3.out (by simp; exact fun e => HN3.out e.symm), HA.out.ne1, HA.out.ne2, HA.out.ne3⟩, HT2.out.trans (grown_touch HG3.out (by simp))⟩
 exact (ht.block T.p (Nat.lt_of_lt_of_le HA.out.row.lt HT2.out.size) (by have := HNp.out; simp at this ⊢; exact this.1)).trans ((HT2.out.block T.p (HA.out.row.lt) HNp.out).trans HA.out.head)
set_option maxHeartbeats 1000000 in
theorem add_any {w : World} {T : Tri} {n lim : Nat} {M E : Int → Option Int} (h : MapsAt w T n lim M E) (hn : n < 1000000000000) {s c : Int} (h1 : 0 ≤ s) (h2 : 0 ≤ c) (h3 : s + c ≤ 1000000000000) :
  Calls Tryz.prog 179 #[.pointer (some ⟨T.p, 0, none⟩), .int .i64 s, .int .i64 c] w fun e w' => e = .returned (.tuple #[]) ∧ MapsAt w' T (n + 1) lim (mput M s c) (mput E (s + c) s) ∧ Touch [T.s, T.e] w w' := by
 have e0 : w.cell? ⟨T.p, 0, none⟩ = some (.map (some T.s)) := h.row.cell rfl
 have e1 : w.cell? ⟨T.p, 1, none⟩ = some (.map (some T.e)) := h.row.cell rfl
 have hnp : T.p ∉ [T.s, T.e] := by have := h.ne1; have := h.ne2; simp; omega
 have r0 := fun x => near_cell (L := [T.s, T.e]) e0 hnp x
 have r1 := fun x => near_cell (L := [T.s, T.e]) e1 hnp x
 have HA := LH h
 have HNp := LH hnp
 have HN3 := LH h.ne3
 have HW := LH (i64wf (x := s) (by omega) (by omega))
 have HWc := LH (i64wf (x := c) (by omega) (by omega))
 have HW2 := LH (i64wf (x := s + c) (by omega) (by omega))
 have HNm : Hid (n < maxLen) := LH (by unfold maxLen; omega)
 clear h e0 e1 hnp
 go_enter Tryz.func179, Tryz.ntmps179
 go_wp2_with fail
 have HC0 : ∃ x : Near [T.s, T.e] w, w.drew = x.val := near_of (Touch.ofBelow (later_below (later_drew w)))
 refine wp_region_seg (C := fun w' => ∃ x : Near [T.s, T.e] w, w' = x.val) [.fl [0, 1, 2, 3, 4, 5, 6, 7, 8, 9, 10, 11, 12, 13], .sq [14] true, .fl [15], .sq [16] true, .sq [17] true, .fl [18], .sq [19] false] (by kernel_rfl) (by kernel_rfl) (by intro c a d v w h; cases d <;> exact h) ?_
 simp only [segs, picks, List.getElem?_cons_succ, List.getElem?_cons_zero]
 refine wpSeg_fl HC0 ?_
 repeat (first | go_big_quiet_step (fail) | quiet_step (fail))
 refine wpQuiet_nil ?_
 have HA0 := LH (HA.out.below (later_below (later_drew w)))
 have HT0 := LH (Touch.ofBelow (L := [T.s, T.e]) (later_below (later_drew w)))
 generalize w.drew = w0 at *
 refine wpSeg_sq (fun K hK => ?_)
 go_wp2_with (refine wpList_ientry rfl _ _ 217 rfl 3 Tryz.underlying3 Tryz.underlying217 (fun _ => by kernel_rfl) T.s n M rfl HA0.out.byS HNm.out s rfl HW.out ?_; intro w1 v1 st1 hp1 hg1; have HP1 := LH hp1; have HT1 : Hid (Touch [T.s, T.e] w w1) := LH (HT0.out.trans (grown_touch hg1 (by simp))); have HE1 := LH (HA0.out.byE.kept hg1 (by simp; exact fun e => HN3.out e.symm)); have hC1 := near_of HT1.out; clear hp1 hg1; unfold goInt)
 go_wp2_with fail
 refine hK _ _ (fun _ => hC1) ?_
 clear hK K
 refine wpSeg_fl hC1 ?_
 repeat (first | go_big_quiet_step (fail) | quiet_step (fail))
 refine wpQuiet_nil ?_
 refine wpSeg_sq (fun K hK => ?_)
 go_wp2_with (refine wpList_ientryStore rfl _ _ _ 217 rfl 3 T.s n M s st1 c rfl rfl rfl HP1.out HWc.out ?_; intro w2 hs2 hg2; have HS2 := LH hs2; have HT2 : Hid (Touch [T.s, T.e] w w2) := LH (HT1.out.trans (grown_touch hg2 (by simp))); have HE2 := LH (HE1.out.kept hg2 (by simp; exact fun e => HN3.out e.symm)); have hC2 := near_of HT2.out; clear hs2 hg2 hC1)
 go_wp2_with fail
 refine hK _ _ (fun _ => hC2) ?_
 clear hK K
 refine wpSeg_sq (fun K hK => ?_)
 go_wp2_with (refine wpList_ientry rfl _ _ 217 rfl 3 Tryz.underlying3 Tryz.underlying217 (fun _ => by kernel_rfl) T.e n E rfl HE2.out HNm.out (s + c) rfl HW2.out ?_; intro w3 v3 st3 hp3 hg3; have HP3 := LH hp3; have HT3 : Hid (Touch [T.s, T.e] w w3) := LH (HT2.out.trans (grown_touch hg3 (by simp))); have HS3 := LH (HS2.out.kept hg3 (by simp; exact HN3.out)); have hC3 := near_of HT3.out; clear hp3 hg3; unfold goInt)
 go_wp2_with fail
 refine hK _ _ (fun _ => hC3) ?_
 clear hK K
 refine wpSeg_fl hC3 ?_
 repeat (first | go_big_quiet_step (fail) | quiet_step (fail))
 refine wpQuiet_nil ?_
 refine wpSeg_last ?_
 go_wp2_with (refine wpList_ientryStore rfl _ _ _ 217 rfl 3 T.e n E (s + c) st3 s rfl rfl rfl HP3.out HW.out ?_; intro w4 he4 hg4; have HE4 := LH he4; have HT4 : Hid (Touch [T.s, T.e] w w4) := LH (HT3.out.trans (grown_touch hg4 (by simp))); have HS4 := LH (HS3.out.kept hg4 (by simp; exact HN3.out)); clear he4 hg4)
 go_end0
 exact ⟨rfl, ⟨(HT4.out.block T.p (HA.out.row.lt) HNp.out).trans HA.out.head, HS4.out, HE4.out, HA.out.ne1, HA.out.ne2, HA.out.ne3⟩, HT4.out⟩
theorem made_ix (w : World) (m : Nat) : IxAt (((w.alloc (.map #[] 0)).alloc (.map #[] 0)).alloc (.cells #[.map (some w.heap.size), .map (some (w.heap.size + 1)), .int .i64 (m : Int)] 219)) ⟨w.heap.size + 1 + 1, w.heap.size, w.heap.size + 1⟩ 0 (List.replicate m false) ∧
  Below w.heap.size w (((w.alloc (.map #[] 0)).alloc (.map #[] 0)).alloc (.cells #[.map (some w.heap.size), .map (some (w.heap.size + 1)), .int .i64 (m : Int)] 219)) := by
 have hfb : ∀ b, fb (List.replicate m false) b = false := fun b => by unfold fb; simp [List.getD_eq_getElem?_getD, List.getElem?_replicate]; split <;> rfl
 refine ⟨⟨fun _ => none, fun _ => none, ⟨?_, ((IMap.made w Tryz.prog 3).alloc _).alloc _, ?_, by simp; omega, by simp, by simp⟩, mof_nil hfb, eof_nil hfb⟩, ((Below.refl _ _).alloc (Nat.le_refl _) _).alloc (by simp) _ |>.alloc (by simp; omega) _⟩
 ·have := heap_alloc_new ((w.alloc (.map #[] 0)).alloc (.map #[] 0)) (.cells #[.map (some w.heap.size), .map (some (w.heap.size + 1)), .int .i64 (m : Int)] 219)
  rw [List.length_replicate]
  simpa using this
 ·have := (IMap.made (w.alloc (.map #[] 0)) Tryz.prog 3).alloc (.cells #[.map (some w.heap.size), .map (some (w.heap.size + 1)), .int .i64 (m : Int)] 219)
  simpa using this
set_option maxHeartbeats 1000000 in
theorem inew_any (k : Int) (w : World) (hk : k ≤ 1000000000000) :
  Calls Tryz.prog 156 #[.int .i64 k] w fun e w' => ∃ T : Tri, e = .returned (.pointer (some ⟨T.p, 0, none⟩)) ∧ (∀ b ∈ T.list, w.heap.size ≤ b) ∧ IxAt w' T 0 (List.replicate k.toNat false) ∧ Below w.heap.size w w' := by
 have hmm := @run_makeMap Tryz.prog
 by_cases h0 : k < 0
 ·have h1 := LH (made_ix w 0)
  have h2 : Hid (k.toNat = 0) := LH (by omega)
  have hmx : max k 0 = 0 := by omega
  go_enter Tryz.func156, Tryz.ntmps156
  go_wp2_with fail
  go_ret
  refine ⟨⟨w.heap.size + 1 + 1, w.heap.size, w.heap.size + 1⟩, rfl, by simp [Tri.list]; omega, ?_, h1.out.2⟩
  rw [h2.out]; exact h1.out.1
 ·obtain ⟨m, rfl⟩ := Int.eq_ofNat_of_zero_le (show 0 ≤ k by omega)
  have h1 := LH (made_ix w m)
  have hmx : max (m : Int) 0 = (m : Int) := by omega
  go_enter Tryz.func156, Tryz.ntmps156
  go_wp2_with fail
  go_ret
  refine ⟨⟨w.heap.size + 1 + 1, w.heap.size, w.heap.size + 1⟩, rfl, by simp [Tri.list]; omega, ?_, h1.out.2⟩
  exact h1.out.1
structure Part (l : List Bool) (M : Int → Option Int) (L : Int → Bool) (done rest : List Sp) : Prop where
 perm : (done ++ rest).Perm (runsOf l)
 left : ∀ s n : Nat, (s, n) ∈ rest ↔ L s = true ∧ M s = some (n : Int)
theorem Part.start {l : List Bool} {M : Int → Option Int} (h : MOf l M) : Part l M (fun x => (M x).isSome) [] (runsOf l) := by
 refine ⟨List.Perm.refl _, fun s n => ?_⟩
 rw [(runsOf_is l).mem]
 constructor
 ·intro hr
  have hm := (h (s : Int) (n : Int)).2 ⟨by omega, by omega, by simpa using hr⟩
  exact ⟨by rw [hm]; rfl, hm⟩
 ·rintro ⟨_, h1⟩
  simpa using ((h _ _).1 h1).2.2
theorem Part.step {l : List Bool} {M : Int → Option Int} {L : Int → Bool} {done rest : List Sp} (h : Part l M L done rest) (hM : MOf l M) {x c : Int} (hx : L x = true) (hm : M x = some c) :
  ∃ s k : Nat, x = s ∧ c = k ∧ (s, k) ∈ rest ∧ Part l M (fun z => L z && !decide (z = x)) (done ++ [(s, k)]) (rest.erase (s, k)) := by
 obtain ⟨h1, h2, h3⟩ := (hM _ _).1 hm
 obtain ⟨s, rfl⟩ := Int.eq_ofNat_of_zero_le h1
 obtain ⟨k, rfl⟩ := Int.eq_ofNat_of_zero_le h2
 have hin : (s, k) ∈ rest := (h.left s k).2 ⟨hx, hm⟩
 have hnd : rest.Nodup := by
  have := (h.perm.nodup_iff).2 (rising_nodup (runsOf_is l).rising)
  exact (List.nodup_append.1 this).2.1
 refine ⟨s, k, rfl, rfl, hin, ?_, fun a n => ?_⟩
 ·refine List.Perm.trans ?_ h.perm
  rw [List.append_assoc]
  exact List.Perm.append_left _ (List.perm_cons_erase hin).symm
 ·rw [hnd.mem_erase_iff, h.left]
  constructor
  ·rintro ⟨h4, h5, h6⟩
   refine ⟨?_, h6⟩
   rw [h5]
   by_cases e : (a : Int) = (s : Int)
   ·exfalso
    rw [e, hm] at h6
    have : a = s := by omega
    have : k = n := by injection h6 with h7; omega
    exact h4 (by subst this; simp; omega)
   ·simp [e]
  ·rintro ⟨h4, h5⟩
   simp at h4
   exact ⟨fun e => h4.2 (by cases e; rfl), h4.1, h5⟩
theorem Part.finish {l : List Bool} {M : Int → Option Int} {L : Int → Bool} {done rest : List Sp} (h : Part l M L done rest) (h0 : ∀ x, L x = false) : done.Perm (runsOf l) := by
 have : rest = [] := List.eq_nil_iff_forall_not_mem.2 fun x hx => by
  have := ((h.left x.1 x.2).1 hx).1
  rw [h0] at this; cases this
 have h1 := h.perm
 rw [this, List.append_nil] at h1
 exact h1
theorem sum_app (a b : List Sp) : sumOf (a ++ b) = sumOf a + sumOf b := by simp [sumOf]
theorem sum_runsTo (f : Nat → Bool) : ∀ L, sumOf (runsTo f L) ≤ L
 | 0 => by simp [runsTo, sumOf]
 | b + 1 => by
  have ih := sum_runsTo f b
  unfold runsTo
  split
  ·split
   ·split
    ·simp [sumOf]
    ·rename_i x hx
     obtain ⟨ys, hy⟩ := List.getLast?_eq_some_iff.1 hx
     rw [hy, sum_app] at ih
     rw [hy, List.dropLast_concat, sum_app]
     simp [sumOf] at ih ⊢
     omega
   ·rw [sum_app]; simp [sumOf]; simp [sumOf] at ih; omega
  ·omega
theorem sum_runsOf (l : List Bool) : sumOf (runsOf l) ≤ l.length := sum_runsTo _ _
theorem Part.sum_le {l : List Bool} {M : Int → Option Int} {L : Int → Bool} {done rest : List Sp} (h : Part l M L done rest) : sumOf done ≤ l.length := by
 have := sum_perm h.perm
 rw [sum_app] at this
 have := sum_runsOf l
 omega
set_option maxHeartbeats 1000000 in
theorem total_any {w : World} {T : Tri} {n : Nat} {l : List Bool} (h : IxAt w T n l) (hl : l.length ≤ 1000000000000) :
  Calls Tryz.prog 73 #[.pointer (some ⟨T.p, 0, none⟩)] w fun e w' => e = .returned (.int .i64 (sumOf (runsOf l) : Nat)) ∧ Below w.heap.size w w' := by
 obtain ⟨M, E, hA, hMO, _⟩ := h
 have e0 : w.cell? ⟨T.p, 0, none⟩ = some (.map (some T.s)) := hA.row.cell rfl
 have HS := LH hA.byS
 have HMO := LH hMO
 clear hA hMO
 go_enter Tryz.func73, Tryz.ntmps73
 go_wp2_with (at_range; refine wpList_irange rfl _ 217 rfl 3 Tryz.underlying3 Tryz.underlying217 T.s n M rfl HS.out ?_; intro w0 cnt0 hr0 hg0 hs0)
 have HR0 := LH hr0
 have HB0 := LH (grown_none hg0)
 clear hr0 hg0 hs0
 go_frame
 go_loopw [3] (fun v wr => ∃ (L : Int → Bool) (cnt : Nat) (done rest : List Sp) (t : Nat), v = .int .i64 (t : Int) ∧ t = sumOf done ∧ IRange Tryz.prog 3 wr T.s w.heap.size n M L cnt ∧ Below w.heap.size w wr ∧ Part l M L done rest) (fun _ wr => wr.rangeLeft T.s w.heap.size)
 case atStart => exact ⟨_, _, [], runsOf l, 0, rfl, rfl, HR0.out, HB0.out, Part.start HMO.out⟩
 case round =>
  obtain ⟨L, cnt, done, rest, t, rfl, ht, hr, hb, hp⟩ := hrel
  have HR := LH hr
  have HB := LH hb
  have HT := LH ht
  have HP := LH hp
  clear hr hb hp ht
  go_wp2_with (at_next; refine wpList_inext rfl _ rfl 3 Tryz.underlying3 T.s w.heap.size n M _ _ rfl HR.out ?_ ?_)
  ·intro h0
   have HE := LH (sum_perm (HP.out.finish h0))
   clear h0
   go_wp2_with fail
   go_ret
   rw [← HE.out, ← HT.out]
   exact ⟨rfl, HB.out⟩
  ·intro x c w1 cnt1 hwx hwc hL hMx hr1 hlt hg1 hs1 hen
   obtain ⟨s, k, rfl, rfl, _, hp1⟩ := HP.out.step HMO.out hL hMx
   have h9 := hp1.sum_le
   rw [sum_add, ← HT.out] at h9
   dsimp only at h9
   have hP1 := LH hp1
   have HR1 := LH hr1
   have HB1 : Hid (Below w.heap.size w w1) := LH (HB.out.trans (grown_one hg1 (Nat.le_refl _) HB.out.size))
   have HLt := LH hlt
   clear hL hMx hr1 hlt hg1 hs1 hwx hwc hp1
   go_wp2_with fail
   go_roundw
   case rel => exact ⟨_, _, _, _, t + k, vint (by omega), by rw [sum_add, HT.out], HR1.out, HB1.out, hP1.out⟩
   case measure => rw [HR1.out.left_eq, HR.out.left_eq]; exact HLt.out
theorem give_end {l : List Bool} {M E M2 E2 : Int → Option Int} {a m s0 e0 : Nat} (hM : MOf l M) (hE : EOf l E) (hm : 1 ≤ m) (ha : a + m ≤ l.length) (h0 : anyFree l a m = false)
  (hs : s0 = a ∧ E a = none ∨ E a = some (s0 : Int)) (he : e0 = a + m ∧ M ((a : Int) + m) = none ∨ M ((a : Int) + m) = some ((e0 : Int) - (a + m)))
  (hM2 : ∀ s, s ≠ (s0 : Int) → M2 s = if s = (a : Int) + m then none else M s) (hE2 : ∀ e, e ≠ (e0 : Int) → E2 e = if e = (a : Int) then none else E e) :
  MOf (setTo l a true m) (mput M2 s0 ((e0 : Int) - s0)) ∧ EOf (setTo l a true m) (mput E2 e0 s0) ∧ s0 ≤ a ∧ a + m ≤ e0 ∧ e0 ≤ l.length := by
 have hfa : fb l a = false := anyFree_false h0 a (Nat.le_refl _) (by omega)
 have hS : s0 = a ∧ (∀ b, b + 1 = a → fb l b = false) ∨ s0 < a ∧ IsRun (fb l) s0 (a - s0) := by
  rcases hs with ⟨h1, h2⟩ | h1
  ·refine .inl ⟨h1, fun b hb => ?_⟩
   cases hf : fb l b with
   | false => rfl
   | true =>
    exfalso
    obtain ⟨s, n, hr, h3, h4⟩ := has_run (f := fb l) (L := l.length) (fun x hx => fb_far l x hx) hf
    have h5 : s + n = a := by
     rcases Nat.lt_or_ge a (s + n) with h6 | h6
     ·have := hr.2.1 a (by omega) h6; rw [hfa] at this; cases this
     ·omega
    have := (hE (a : Int) (s : Int)).2 ⟨by omega, by omega, by rw [show ((a : Int) - (s : Int)).toNat = n by omega]; exact hr⟩
    rw [h2] at this; cases this
  ·obtain ⟨h2, h3, h4⟩ := (hE _ _).1 h1
   have e : ((a : Int) - (s0 : Int)).toNat = a - s0 := by omega
   rw [e] at h4
   have := h4.1
   exact .inr ⟨by omega, h4⟩
 have hEE : e0 = a + m ∧ fb l (a + m) = false ∨ a + m < e0 ∧ IsRun (fb l) (a + m) (e0 - (a + m)) := by
  rcases he with ⟨h1, h2⟩ | h1
  ·refine .inl ⟨h1, ?_⟩
   cases hf : fb l (a + m) with
   | false => rfl
   | true =>
    exfalso
    obtain ⟨s, n, hr, h3, h4⟩ := has_run (f := fb l) (L := l.length) (fun x hx => fb_far l x hx) hf
    have h5 : s = a + m := by
     rcases Nat.lt_or_ge s (a + m) with h6 | h6
     ·have := hr.2.1 (a + m - 1) (by omega) (by omega); rw [anyFree_false h0 _ (by omega) (by omega)] at this; cases this
     ·omega
    have := (hM ((a : Int) + m) (n : Int)).2 ⟨by omega, by omega, by rw [show ((a : Int) + m).toNat = s by omega]; simpa using hr⟩
    rw [h2] at this; cases this
  ·obtain ⟨h2, h3, h4⟩ := (hM _ _).1 h1
   have e1 : ((a : Int) + (m : Int)).toNat = a + m := by omega
   have e2 : ((e0 : Int) - ((a : Int) + (m : Int))).toNat = e0 - (a + m) := by omega
   rw [e1, e2] at h4
   have := h4.1
   exact .inr ⟨by omega, h4⟩
 have hb1 : s0 ≤ a := by rcases hS with ⟨h, _⟩ | ⟨h, _⟩ <;> omega
 have hb2 : a + m ≤ e0 := by rcases hEE with ⟨h, _⟩ | ⟨h, _⟩ <;> omega
 have hb3 : e0 ≤ l.length := by
  rcases hEE with ⟨h, _⟩ | ⟨h, hr⟩
  ·omega
  ·have := runEnds hr; omega
 refine ⟨give_M hM hm ha h0 hS hEE (by simp [mput]) ?_ ?_, give_E hE hm ha h0 hS hEE (by simp [mput]) ?_ ?_, hb1, hb2, hb3⟩
 ·intro s h1 h2
  simp only [mput, if_neg h1]
  rw [hM2 s h1]
  rcases h2 with h2 | h2
  ·rw [if_pos h2]
  ·exfalso
   obtain ⟨h3, h4, h5⟩ := (hM _ _).1 h2
   have h6 := h5.1
   rcases hS with ⟨_, h7⟩ | ⟨h7, h8⟩
   ·have := h5.2.1 (a - 1) (by omega) (by omega); rw [h7 _ (by omega)] at this; cases this
   ·have := (h5.back h8 (by omega)).1; omega
 ·intro s h1 h2 h3
  simp only [mput, if_neg h1]
  rw [hM2 s h1, if_neg h2]
 ·intro e h1 h2
  simp only [mput, if_neg h1]
  rw [hE2 e h1]
  rcases h2 with h2 | h2
  ·rw [if_pos h2]
  ·exfalso
   obtain ⟨h3, h4, h5⟩ := (hE _ _).1 h2
   have h6 := h5.1
   have e1 : ((a : Int) + (m : Int)).toNat = a + m := by omega
   rw [e1] at h5
   rcases hEE with ⟨_, h7⟩ | ⟨h7, h8⟩
   ·have := h5.2.1 (a + m) (by omega) (by omega); rw [h7] at this; cases this
   ·have := h5.one h8; omega
 ·intro e h1 h2 h3
  simp only [mput, if_neg h1]
  rw [hE2 e h1, if_neg h2]
theorem IxAt.mono {w : World} {T : Tri} {n m : Nat} {l : List Bool} (h : IxAt w T n l) (hn : n ≤ m) : IxAt w T m l := by
 obtain ⟨M, E, h1, h2⟩ := h; exact ⟨M, E, h1.mono hn, h2⟩
theorem hasB_nat (l : List Bool) (b : Nat) : hasB l (b : Int) = fb l b := by simp [hasB]
theorem anyFree_next (l : List Bool) (a b : Nat) (h : a ≤ b) : anyFree l a (b + 1 - a) = (anyFree l a (b - a) || fb l b) := by
 rw [show b + 1 - a = (b - a) + 1 by omega, anyFree, show a + (b - a) = b by omega]
def GivePost (w : World) (T : Tri) (n : Nat) (l : List Bool) (a m : Int) : Ending → World → Prop := fun e w' =>
 e = .returned (.int .i64 (giveR l a m).2) ∧ IxAt w' T (n + 1) (giveR l a m).1 ∧ Touch [T.s, T.e] w w'
theorem giveR_arg {l : List Bool} {a m : Int} (h : a < 1 ∨ m < 1 ∨ (l.length : Int) ≤ a ∨ (l.length : Int) - a < m) : giveR l a m = (l, 1) := by
 unfold giveR; rw [if_pos h]
theorem giveR_twice {l : List Bool} {a m : Nat} (h : 1 ≤ a ∧ 1 ≤ m ∧ a + m ≤ l.length) (h0 : anyFree l a m = true) : giveR l a m = (l, 41) := by
 unfold giveR; rw [if_neg (by omega)]; simp [h0]
theorem giveR_ok {l : List Bool} {a m : Nat} (h : 1 ≤ a ∧ 1 ≤ m ∧ a + m ≤ l.length) (h0 : anyFree l a m = false) : giveR l a m = (setTo l a true m, 0) := by
 unfold giveR; rw [if_neg (by omega)]; simp [h0]
set_option maxHeartbeats 1000000 in
theorem igive_arg {w : World} {T : Tri} {n : Nat} {l : List Bool} (h : IxAt w T n l) (hl : l.length ≤ 1000000000000) (a m : Int) (hbad : a < 1 ∨ m < 1 ∨ (l.length : Int) ≤ a ∨ (l.length : Int) - a < m) :
  Calls Tryz.prog 157 #[.pointer (some ⟨T.p, 0, none⟩), .int .i64 a, .int .i64 m] w (GivePost w T n l a m) := by
 have hR := giveR_arg hbad
 have HP : Hid (GivePost w T n l a m (.returned (.int .i64 1)) w) := LH (by unfold GivePost; rw [hR]; exact ⟨rfl, h.mono (by omega), Touch.refl _ _⟩)
 obtain ⟨M, E, hA, _, _⟩ := h
 have e2 : w.cell? ⟨T.p, 2, none⟩ = some (.int .i64 (l.length : Int)) := hA.row.cell rfl
 have hcase : a < 1 ∨ (1 ≤ a ∧ m < 1) ∨ (1 ≤ a ∧ 1 ≤ m ∧ (l.length : Int) ≤ a) ∨ (1 ≤ a ∧ 1 ≤ m ∧ a < (l.length : Int) ∧ (l.length : Int) - a < m) := by omega
 clear hA hR hbad
 generalize GivePost w T n l a m = Post at *
 generalize l.length = len at *
 rcases hcase with h1 | ⟨h1, h2⟩ | ⟨h1, h2, h3⟩ | ⟨h1, h2, h3, h4⟩
 all_goals
  go_enter Tryz.func157, Tryz.ntmps157
  go_wp2_with fail
  exact HP.out
theorem MapsAt.cast {w : World} {T : Tri} {n lim : Nat} {M E M' E' : Int → Option Int} (h : MapsAt w T n lim M E) (h1 : M = M') (h2 : E = E') : MapsAt w T n lim M' E' := by
 subst h1; subst h2; exact h
theorem give_post {w w' : World} {T : Tri} {n : Nat} {l : List Bool} {a m s0 e0 : Nat} {M E M2 E2 : Int → Option Int} (hb : 1 ≤ a ∧ 1 ≤ m ∧ a + m ≤ l.length) (h0 : anyFree l a m = false) (hM : MOf l M) (hE : EOf l E)
  (hs : s0 = a ∧ E a = none ∨ E a = some (s0 : Int)) (he : e0 = a + m ∧ M ((a : Int) + m) = none ∨ M ((a : Int) + m) = some ((e0 : Int) - (a + m)))
  (hM2 : ∀ s, s ≠ (s0 : Int) → M2 s = if s = (a : Int) + m then none else M s) (hE2 : ∀ e, e ≠ (e0 : Int) → E2 e = if e = (a : Int) then none else E e)
  (hA : MapsAt w' T (n + 1) l.length (mput M2 s0 ((e0 : Int) - s0)) (mput E2 e0 s0)) (ht : Touch [T.s, T.e] w w') : GivePost w T n l a m (.returned (.int .i64 0)) w' := by
 obtain ⟨h1, h2, _⟩ := give_end hM hE hb.2.1 hb.2.2 h0 hs he hM2 hE2
 unfold GivePost
 rw [giveR_ok hb h0]
 exact ⟨rfl, ⟨_, _, by rw [setTo_length]; exact hA, h1, h2⟩, ht⟩
set_option maxHeartbeats 4000000 in
theorem igive_fit {w : World} {T : Tri} {n : Nat} {l : List Bool} (h : IxAt w T n l) (hl : l.length ≤ 1000000000000) (hn : n < 1000000000000) (a m : Nat) (hb : 1 ≤ a ∧ 1 ≤ m ∧ a + m ≤ l.length) :
  Calls Tryz.prog 157 #[.pointer (some ⟨T.p, 0, none⟩), .int .i64 (a : Int), .int .i64 (m : Int)] w (GivePost w T n l a m) := by
 have HI := LH h
 have HB := LH hb
 have HTw : Hid (anyFree l a m = true → ∀ w', Below w.heap.size w w' → GivePost w T n l a m (.returned (.int .i64 41)) w') := LH (fun hf w' hb' => by
  unfold GivePost; rw [giveR_twice hb hf]; exact ⟨rfl, (h.mono (by omega)).below hb', Touch.ofBelow hb'⟩)
 obtain ⟨M, E, hA, hM, hE⟩ := h
 have e2 : w.cell? ⟨T.p, 2, none⟩ = some (.int .i64 (l.length : Int)) := hA.row.cell rfl
 have HA := LH hA
 have HM := LH hM
 have HE := LH hE
 obtain ⟨g1, g2, g3⟩ := hb
 have HEnd : Hid (∀ (s0 e0 : Nat) (M2 E2 : Int → Option Int) (w' : World), anyFree l a m = false → (s0 = a ∧ E a = none ∨ E a = some (s0 : Int)) → (e0 = a + m ∧ M ((a : Int) + m) = none ∨ M ((a : Int) + m) = some ((e0 : Int) - (a + m))) →
   (∀ s, s ≠ (s0 : Int) → M2 s = if s = (a : Int) + m then none else M s) → (∀ e, e ≠ (e0 : Int) → E2 e = if e = (a : Int) then none else E e) →
   MapsAt w' T (n + 1) l.length (mput M2 s0 ((e0 : Int) - s0)) (mput E2 e0 s0) → Touch [T.s, T.e] w w' → GivePost w T n l a m (.returned (.int .i64 0)) w') :=
  LH (fun s0 e0 M2 E2 w' h0 hs he hM2 hE2 hA ht => give_post HB.out h0 hM hE hs he hM2 hE2 hA ht)
 clear hA hM hE
 generalize GivePost w T n l a m = Post at *
 obtain ⟨len, hlen⟩ : ∃ len, len = l.length := ⟨_, rfl⟩
 rw [← hlen] at g3 hl e2
 have HLen := LH hlen
 clear hlen
 have q1 : decide ((a : Int) < 1) = false := by simp; omega
 have q2 : decide ((m : Int) < 1) = false := by simp; omega
 have q3 : decide (len ≤ a) = false := by simp; omega
 have q4 : decide ((len : Int) - (a : Int) < (m : Int)) = false := by simp; omega
 go_enter Tryz.func157, Tryz.ntmps157
 go_wp2_with fail
 go_loopw [6, 7] (fun _ i wr => ∃ b : Nat, a ≤ b ∧ b ≤ a + m ∧ i = .int .i64 (b : Int) ∧ anyFree l a (b - a) = false ∧ Below w.heap.size w wr) (fun _ i _ => a + m - (intOf i).toNat)
 case atStart => exact ⟨a, Nat.le_refl _, by omega, rfl, by rw [Nat.sub_self]; rfl, Below.refl _ _⟩
 case round =>
  obtain ⟨b, hab, hbm, rfl, hfree, hbe⟩ := hrel
  have HF := LH hfree
  have HBe := LH hbe
  clear hfree hbe
  by_cases hlt : b < a + m
  ·have hlt' : (b : Int) < (a : Int) + (m : Int) := by omega
   cases hfb : fb l b with
   | true =>
    have hall : anyFree l a m = true := anyFree_one hab hlt hfb
    have HAll := LH hall
    have HHas : Hid (hasB l (b : Int) = true) := LH (by rw [hasB_nat]; exact hfb)
    clear hall hfb
    go_wp2_with fail
    refine (has_any (HI.out.below HBe.out) (by rw [← HLen.out]; exact hl) (b : Int)).mono ?_
    rintro e w1 ⟨rfl, hb1⟩
    rw [HHas.out]
    have HB1 := LH hb1
    clear hb1
    go_wp2_with fail
    exact HTw.out HAll.out _ (HBe.out.trans (HB1.out.mono HBe.out.size))
   | false =>
    have HN : Hid (anyFree l a (b + 1 - a) = false) := LH (by rw [anyFree_next l a b hab, HF.out, hfb]; rfl)
    have HHas : Hid (hasB l (b : Int) = false) := LH (by rw [hasB_nat]; exact hfb)
    clear hfb
    go_wp2_with fail
    refine (has_any (HI.out.below HBe.out) (by rw [← HLen.out]; exact hl) (b : Int)).mono ?_
    rintro e w1 ⟨rfl, hb1⟩
    rw [HHas.out]
    have HB1 := LH hb1
    clear hb1
    go_wp2_with fail
    go_roundw
    case rel =>
     exact ⟨b + 1, by omega, by omega, vint (by omega), HN.out, HBe.out.trans (HB1.out.mono HBe.out.size)⟩
    case measure => simp [intOf]; omega
  ·obtain rfl : b = a + m := by omega
   have HFr : Hid (anyFree l a m = false) := LH (by have := HF.out; rwa [show a + m - a = m by omega] at this)
   have HA1 := LH (HA.out.below HBe.out)
   have HT1 := LH (Touch.ofBelow (L := [T.s, T.e]) HBe.out)
   clear hlt hab hbm HF
   have f0 : wr.cell? ⟨T.p, 0, none⟩ = some (.map (some T.s)) := HA1.out.row.cell rfl
   have f1 : wr.cell? ⟨T.p, 1, none⟩ = some (.map (some T.e)) := HA1.out.row.cell rfl
   have hlt' : decide (((a + m : Nat) : Int) < (a : Int) + (m : Int)) = false := by simp
   have HWa := LH (i64wf (x := (a : Int)) (by omega) (by omega))
   have HWe := LH (i64wf (x := (a : Int) + (m : Int)) (by omega) (by omega))
   obtain ⟨ea, hea⟩ : ∃ ea, E (a : Int) = ea := ⟨_, rfl⟩
   obtain ⟨mb, hmb⟩ : ∃ mb, M ((a : Int) + m) = mb := ⟨_, rfl⟩
   have hbeh : mb = none ∨ ∃ e0 : Nat, mb = some ((e0 : Int) - ((a : Int) + (m : Int))) ∧ a + m < e0 ∧ e0 ≤ len := by
    cases mb with
    | none => exact .inl rfl
    | some c =>
     have h1 := HM.out.bounds hmb
     rw [← HLen.out] at h1
     exact .inr ⟨(c + ((a : Int) + m)).toNat, by congr 1; omega, by omega, by omega⟩
   have HMb := LH hmb
   clear hmb
   cases ea with
   | none =>
    have HEa := LH hea
    clear hea
    rcases hbeh with rfl | ⟨e0, rfl, h1, h2⟩
    ·go_wp2_with (first | (refine wpList_ilook_ok rfl _ _ 217 rfl 3 Tryz.underlying3 Tryz.underlying217 (by kernel_rfl) T.e n E rfl HA1.out.byE (a : Int) rfl HWa.out ?_; rw [HEa.out, Option.getD_none, Option.isSome_none]) | (refine wpList_ilook_ok rfl _ _ 217 rfl 3 Tryz.underlying3 Tryz.underlying217 (by kernel_rfl) T.s n M rfl HA1.out.byS ((a : Int) + (m : Int)) rfl HWe.out ?_; rw [HMb.out, Option.getD_none, Option.isSome_none]))
     refine (add_any HA1.out hn (s := (a : Int)) (c := (m : Int)) (by omega) (by omega) (by omega)).mono ?_
     rintro e w2 ⟨rfl, hA2, ht2⟩
     have HA2 := LH hA2
     have HT2 := LH ht2
     clear hA2 ht2
     go_wp2_with fail
     refine HEnd.out a (a + m) M E _ HFr.out (.inl ⟨rfl, HEa.out⟩) (.inl ⟨rfl, HMb.out⟩) (fun s _ => ?_) (fun e _ => ?_) ?_ (HT1.out.trans HT2.out)
     ·by_cases x : s = (a : Int) + m
      ·rw [if_pos x, x, HMb.out]
      ·rw [if_neg x]
     ·by_cases x : e = (a : Int)
      ·rw [if_pos x, x, HEa.out]
      ·rw [if_neg x]
     ·exact HA2.out.cast (by congr 1; omega) (by congr 1)
    ·go_wp2_with (first | (refine wpList_ilook_ok rfl _ _ 217 rfl 3 Tryz.underlying3 Tryz.underlying217 (by kernel_rfl) T.e n E rfl HA1.out.byE (a : Int) rfl HWa.out ?_; rw [HEa.out, Option.getD_none, Option.isSome_none]) | (refine wpList_ilook_ok rfl _ _ 217 rfl 3 Tryz.underlying3 Tryz.underlying217 (by kernel_rfl) T.s n M rfl HA1.out.byS ((a : Int) + (m : Int)) rfl HWe.out ?_; rw [HMb.out, Option.getD_some, Option.isSome_some]))
     refine (drop_any HA1.out HMb.out (by omega) (by omega) (by omega)).mono ?_
     rintro e w2 ⟨rfl, hA2, ht2⟩
     have HA2 := LH hA2
     have HT2 := LH ht2
     clear hA2 ht2
     go_wp2_with fail
     refine (add_any HA2.out hn (by omega) (by omega) (by omega)).mono ?_
     rintro e w3 ⟨rfl, hA3, ht3⟩
     have HA3 := LH hA3
     have HT3 := LH ht3
     clear hA3 ht3
     go_wp2_with fail
     refine HEnd.out a e0 (mdel M ((a : Int) + m)) (mdel E ((a : Int) + m + ((e0 : Int) - ((a : Int) + m)))) _ HFr.out (.inl ⟨rfl, HEa.out⟩) (.inr HMb.out) (fun s _ => rfl) (fun e he => ?_) ?_ (HT1.out.trans (HT2.out.trans HT3.out))
     ·unfold mdel
      rw [if_neg (by omega)]
      by_cases x : e = (a : Int)
      ·rw [if_pos x, x, HEa.out]
      ·rw [if_neg x]
     ·exact HA3.out.cast (by congr 1; omega) (by congr 1; omega)
   | some before =>
    obtain ⟨k1, k2, k3⟩ := (HE.out _ _).1 hea
    have k4 := k3.1
    obtain ⟨s0, rfl⟩ := Int.eq_ofNat_of_zero_le k1
    have HEa := LH hea
    have HMs : Hid (M (s0 : Int) = some ((a : Int) - (s0 : Int))) := LH ((HM.out _ _).2 ⟨by omega, by omega, k3⟩)
    have hsa : (s0 : Int) < (a : Int) := by omega
    clear hea k1 k2 k3 k4
    have HWs := LH (i64wf (x := (s0 : Int)) (by omega) (by omega))
    have HWe2 := LH (i64wf (x := (s0 : Int) + ((m : Int) + ((a : Int) - (s0 : Int)))) (by omega) (by omega))
    have HMb2 : Hid (mdel M s0 ((s0 : Int) + ((m : Int) + ((a : Int) - (s0 : Int)))) = mb) := LH (by
     rw [show (s0 : Int) + ((m : Int) + ((a : Int) - (s0 : Int))) = (a : Int) + m by omega]
     unfold mdel; rw [if_neg (by omega)]; exact HMb.out)
    go_wp2_with (first | (refine wpList_ilook_ok rfl _ _ 217 rfl 3 Tryz.underlying3 Tryz.underlying217 (by kernel_rfl) T.e n E rfl HA1.out.byE (a : Int) rfl HWa.out ?_; rw [HEa.out, Option.getD_some, Option.isSome_some]) | (refine wpList_ilook rfl _ _ 217 rfl 3 Tryz.underlying3 Tryz.underlying217 (by kernel_rfl) T.s n M rfl HA1.out.byS (s0 : Int) rfl HWs.out ?_; rw [HMs.out, Option.getD_some]))
    refine (drop_any HA1.out HMs.out (by omega) (by omega) (by omega)).mono ?_
    rintro e w2 ⟨rfl, hA2, ht2⟩
    have HA2 := LH hA2
    have HT2 := LH ht2
    have f2 : w2.cell? ⟨T.p, 0, none⟩ = some (.map (some T.s)) := HA2.out.row.cell rfl
    clear hA2 ht2
    rcases hbeh with rfl | ⟨e0, rfl, h1, h2⟩
    ·go_wp2_with (refine wpList_ilook_ok rfl _ _ 217 rfl 3 Tryz.underlying3 Tryz.underlying217 (by kernel_rfl) T.s n (mdel M s0) rfl HA2.out.byS ((s0 : Int) + ((m : Int) + ((a : Int) - (s0 : Int)))) rfl HWe2.out ?_; rw [HMb2.out, Option.getD_none, Option.isSome_none])
     refine (add_any HA2.out hn (by omega) (by omega) (by omega)).mono ?_
     rintro e w3 ⟨rfl, hA3, ht3⟩
     have HA3 := LH hA3
     have HT3 := LH ht3
     clear hA3 ht3
     go_wp2_with fail
     refine HEnd.out s0 (a + m) (mdel M s0) (mdel E ((s0 : Int) + ((a : Int) - (s0 : Int)))) _ HFr.out (.inr HEa.out) (.inl ⟨rfl, HMb.out⟩) (fun s hs => ?_) (fun e _ => ?_) ?_ (HT1.out.trans (HT2.out.trans HT3.out))
     ·unfold mdel
      rw [if_neg hs]
      by_cases x : s = (a : Int) + m
      ·rw [if_pos x, x, HMb.out]
      ·rw [if_neg x]
     ·unfold mdel; rw [show (s0 : Int) + ((a : Int) - (s0 : Int)) = a by omega]
     ·exact HA3.out.cast (by congr 1; omega) (by congr 1; omega)
    ·go_wp2_with (refine wpList_ilook_ok rfl _ _ 217 rfl 3 Tryz.underlying3 Tryz.underlying217 (by kernel_rfl) T.s n (mdel M s0) rfl HA2.out.byS ((s0 : Int) + ((m : Int) + ((a : Int) - (s0 : Int)))) rfl HWe2.out ?_; rw [HMb2.out, Option.getD_some, Option.isSome_some])
     refine (drop_any HA2.out HMb2.out (by omega) (by omega) (by omega)).mono ?_
     rintro e w3 ⟨rfl, hA3, ht3⟩
     have HA3 := LH hA3
     have HT3 := LH ht3
     clear hA3 ht3
     go_wp2_with fail
     refine (add_any HA3.out hn (by omega) (by omega) (by omega)).mono ?_
     rintro e w4 ⟨rfl, hA4, ht4⟩
     have HA4 := LH hA4
     have HT4 := LH ht4
     clear hA4 ht4
     go_wp2_with fail
     refine HEnd.out s0 e0 _ _ _ HFr.out (.inr HEa.out) (.inr HMb.out) (fun s hs => ?_) (fun e he => ?_) (HA4.out.cast (M' := mput (mdel (mdel M s0) ((s0 : Int) + ((m : Int) + ((a : Int) - (s0 : Int))))) s0 ((e0 : Int) - s0)) (E' := mput (mdel (mdel E ((s0 : Int) + ((a : Int) - (s0 : Int)))) ((s0 : Int) + ((m : Int) + ((a : Int) - (s0 : Int))) + ((e0 : Int) - ((a : Int) + (m : Int))))) e0 s0) (by congr 1; omega) (by congr 1; omega)) (HT1.out.trans (HT2.out.trans (HT3.out.trans HT4.out)))
     ·unfold mdel
      rw [show (s0 : Int) + ((m : Int) + ((a : Int) - (s0 : Int))) = (a : Int) + m by omega, if_neg hs]
     ·unfold mdel
      rw [if_neg (by omega), show (s0 : Int) + ((a : Int) - (s0 : Int)) = a by omega]
theorem Cells.owned2 {w : World} {base e n size cap : Nat} {a : Option Addr} {xs : List Value} (h : w.ownsRow base e size (.slice a n cap) n xs) : Cells w a xs := by
 rcases h.2 with ⟨_, h0⟩ | ⟨g, cap', cur, hv, _⟩
 ·exact .inl (List.eq_nil_of_length_eq_zero (by have := h.1; rw [h0] at this; simpa using this))
 ·refine .inr ⟨g, 0, by simp at hv; exact hv.1, fun i v hi => ?_⟩
  simp at hv
  obtain ⟨rfl, _⟩ := hv
  have := h.cells (g := g) rfl i v hi
  have ha : (⟨g, 0, none⟩ : Addr).add i = ⟨g, 0 + i, none⟩ := by unfold Addr.add; split <;> simp_all
  rwa [ha] at this
theorem giveR_len (l : List Bool) (a m : Int) : (giveR l a m).1.length = l.length := by
 unfold giveR
 split
 ·rfl
 ·split
  ·rfl
  ·rw [setTo_length]
end Go.Proofs.YtpohaahihdhleaaGreat
namespace Go.Proofs.YtpohaahihdhleaaGreat
open Go.RowKit
theorem wf_u8 {z : Int} (h : (Lit.int .u8 z).wf = true) : 0 ≤ z ∧ z < 256 := by
 simp [Lit.wf, IntKind.min, IntKind.max, IntKind.signed, IntKind.bits] at h; omega
theorem wf_i64 {z : Int} (h : (Lit.int .i64 z).wf = true) : -9223372036854775808 ≤ z ∧ z ≤ 9223372036854775807 := by
 simp [Lit.wf, IntKind.min, IntKind.max, IntKind.signed, IntKind.bits] at h; omega
end Go.Proofs.YtpohaahihdhleaaGreat
namespace Go.Proofs.YtpohaahihdhleaaGreat
open Go.RowKit Go.ChangeShapes Go.WideShapes Go.Deep
section
variable {H : Type} {enc : TypeId × Value → H} {P : Program} {w : World} {base : Nat} {spare : Nat → Bool} {held : Bool}
theorem ints_read {t e : TypeId} {k : IntKind} {fuel : Nat} {v : Value} {y : DataW H × List MemPlace} (ht : P.underlying t = some (.slice e)) (he : P.underlying e = some (.int k)) (hc : P.cellsOf e = 1)
  (h : DataW.trod enc P w base spare held fuel t [v] = some y) :
  ∃ (a : Option Addr) (len cap : Nat) (zs : List Int), v = .slice a len cap ∧ zs.length = len ∧ Cells w a (zs.map (Value.int k)) ∧ (∀ z ∈ zs, (Lit.int k z).wf = true) ∧ len ≤ cap ∧ cap ≤ maxLen := by
 rcases open_ints ht he hc h with ⟨hcs, _⟩ | ⟨x, l, c, zs, hcs, _, hl, hm, hz, _, hcell, hwz⟩
 ·simp at hcs
  exact ⟨none, 0, 0, [], hcs, rfl, Cells.nil _ _, by simp, Nat.le_refl _, Nat.zero_le _⟩
 ·simp at hcs
  have hzl : l ≤ zs.length := by rw [hz]; split <;> omega
  refine ⟨some x, l, c, zs.take l, hcs, by rw [List.length_take]; omega, ?_, fun z hz => hwz z (List.mem_of_mem_take hz), hl, hm⟩
  by_cases h0 : l = 0
  ·subst h0; simp; exact Cells.nil _ _
  ·obtain ⟨b, off, spot⟩ := x
   have hs := hcell 0 (by omega)
   have hspot : spot = none := by simpa [Addr.add] using World.cell?_spot hs
   subst hspot
   refine .inr ⟨b, off, rfl, fun i v hi => ?_⟩
   rw [List.getElem?_map] at hi
   obtain ⟨z, hz', rfl⟩ := Option.map_eq_some_iff.1 hi
   rw [List.getElem?_take] at hz'
   split at hz'
   ·rename_i hlt
    have := hcell i (by omega)
    have e : (⟨b, off, none⟩ : Addr).add i = ⟨b, off + i, none⟩ := by unfold Addr.add; split <;> simp_all
    rw [e, List.getD_eq_getElem?_getD, hz'] at this
    exact this
   ·simp at hz'
theorem nats_read {t e : TypeId} {k : IntKind} {B : Nat} (hB : ∀ z : Int, (Lit.int k z).wf = true → 0 ≤ z ∧ z < B) {fuel : Nat} {v : Value} {y : DataW H × List MemPlace} (ht : P.underlying t = some (.slice e)) (he : P.underlying e = some (.int k)) (hc : P.cellsOf e = 1)
  (h : DataW.trod enc P w base spare held fuel t [v] = some y) :
  ∃ (a : Option Addr) (len cap : Nat) (zs : List Nat), v = .slice a len cap ∧ zs.length = len ∧ Cells w a (zs.map (fun n : Nat => Value.int k (n : Int))) ∧ (∀ z ∈ zs, z < B) ∧ len ≤ cap ∧ cap ≤ maxLen := by
 obtain ⟨a, len, cap, zs, hv, hl, hcs, hw, h1, h2⟩ := ints_read ht he hc h
 refine ⟨a, len, cap, zs.map Int.toNat, hv, by rw [List.length_map]; exact hl, ?_, ?_, h1, h2⟩
 ·have e : (zs.map Int.toNat).map (fun n : Nat => Value.int k (n : Int)) = zs.map (Value.int k) := by
   rw [List.map_map]
   apply List.map_congr_left
   intro z hz
   have := hB z (hw z hz)
   simp only [Function.comp]
   rw [Int.toNat_of_nonneg this.1]
  rw [e]; exact hcs
 ·intro z hz
  rw [List.mem_map] at hz
  obtain ⟨y, hy, rfl⟩ := hz
  have := hB y (hw y hy)
  omega
theorem structs_read {t e : TypeId} {fs : Array Field} {fuel : Nat} {v : Value} {y : DataW H × List MemPlace} (ht : P.underlying t = some (.slice e)) (he : P.underlying e = some (.struct fs))
  (hone : oneCellFields P fs = true) (hC : P.cellsOf e = fs.size) (hpos : 0 < fs.size) (h : DataW.trod enc P w base spare held fuel t [v] = some y) :
  ∃ (a : Option Addr) (len cap : Nat) (n : Nat → Nat), v = .slice a len cap ∧ len ≤ cap ∧ cap ≤ maxLen ∧ (len = 0 ∨ ∃ b off, a = some ⟨b, off, none⟩ ∧ ∀ i, i < len → ∀ (j : Nat) (f : Field), fs[j]? = some f →
   ∃ (u : Value) (z : DataW H × List MemPlace), w.cell? ⟨b, off + (i * fs.size + j), none⟩ = some u ∧ DataW.trod enc P w base spare held (n i) f.type [u] = some z) := by
 rcases open_slice ht h with ⟨hcs, _⟩ | ⟨a, len, cap, m, n, D, Pl, hcs, _, hl, hm, hmm, _, hi⟩
 ·simp at hcs
  exact ⟨none, 0, 0, fun _ => 0, hcs, Nat.le_refl _, Nat.zero_le _, .inl rfl⟩
 ·simp at hcs
  have hlm : len ≤ m := by rw [hmm]; split <;> omega
  by_cases h0 : len = 0
  ·exact ⟨some a, len, cap, fun _ => 0, hcs, hl, hm, .inl h0⟩
  have each : ∀ i, i < len → ∃ n', ∀ (j : Nat) (f : Field), fs[j]? = some f → ∃ (u : Value) (z : DataW H × List MemPlace), w.cell? (a.add (i * fs.size + j)) = some u ∧ DataW.trod enc P w base spare held n' f.type [u] = some z := by
   intro i hil
   obtain ⟨cs', hc, ht'⟩ := hi i (by omega)
   rw [hC] at hc
   obtain ⟨ys, n', _, _, _, hyl, hf⟩ := DataW.trod_struct he ht'
   obtain ⟨_, hcl, hat⟩ := World.cells?_some hc
   refine ⟨n', fun j f hj => ?_⟩
   obtain ⟨ho, hk⟩ := hone_of hone j f hj
   have hjl : j < fs.size := (Array.getElem?_eq_some_iff.1 hj).1
   have hcell := hat j hjl
   have hv : cs'[j]? = some (cs'[j]'(by omega)) := List.getElem?_eq_getElem (by omega)
   have h1 := hf j f hj
   rw [ho, hk] at h1
   have hone' : (cs'.drop j).take 1 = [cs'[j]'(by omega)] := by
    rw [List.drop_eq_getElem_cons (by omega)]
    rfl
   rw [hone'] at h1
   have hys : ys[j]? = some (ys[j]'(by omega)) := List.getElem?_eq_getElem (by omega)
   refine ⟨_, _, ?_, h1.trans hys⟩
   rw [← Go.Deep.add_add, hcell, hv]
  obtain ⟨nf, hnf⟩ := choose_lt each
  obtain ⟨f0, hf0⟩ : ∃ f0, fs[0]? = some f0 := ⟨fs[0], by simp [hpos]⟩
  obtain ⟨u, _, hu, _⟩ := hnf 0 (by omega) 0 f0 hf0
  obtain ⟨b, off, spot⟩ := a
  have hspot : spot = none := by simpa [Addr.add] using World.cell?_spot hu
  subst hspot
  refine ⟨_, len, cap, nf, hcs, hl, hm, .inr ⟨b, off, rfl, fun i hil j f hj => ?_⟩⟩
  obtain ⟨u, z, hu, hz⟩ := hnf i hil j f hj
  have e : (⟨b, off, none⟩ : Addr).add (i * fs.size + j) = ⟨b, off + (i * fs.size + j), none⟩ := by unfold Addr.add; split <;> simp_all
  rw [e] at hu
  exact ⟨u, z, hu, hz⟩
end
def recs {α : Type} (f : α → List Value) (l : List α) : List Value := l.flatMap f
theorem recs_length {α : Type} {f : α → List Value} {n : Nat} (hf : ∀ x, (f x).length = n) (l : List α) : (recs f l).length = l.length * n := by
 induction l with
 | nil => simp [recs]
 | cons x l ih => unfold recs at *; rw [List.flatMap_cons, List.length_append, ih, hf, List.length_cons, Nat.succ_mul, Nat.add_comm]
theorem recs_append {α : Type} (f : α → List Value) (l m : List α) : recs f (l ++ m) = recs f l ++ recs f m := by simp [recs]
theorem recs_at {α : Type} {f : α → List Value} {n : Nat} (hf : ∀ x, (f x).length = n) (d : α) (l : List α) (i : Nat) (hi : i < l.length) : ∀ j v, (f (l.getD i d))[j]? = some v → (recs f l)[i * n + j]? = some v := by
 intro j v hj
 have e : l = l.take i ++ (l[i] :: l.drop (i + 1)) := by simp
 have hl : (recs f (l.take i)).length = i * n := by rw [recs_length hf, List.length_take, Nat.min_eq_left (by omega)]
 have hg : l.getD i d = l[i] := by simp [hi]
 rw [hg] at hj
 have hj3 : j < (f l[i]).length := (List.getElem?_eq_some_iff.1 hj).1
 rw [e, recs_append, List.getElem?_append_right (by omega), hl, show i * n + j - i * n = j by omega]
 unfold recs
 rw [List.flatMap_cons, List.getElem?_append_left hj3]
 exact hj
theorem recs_cells {α : Type} {f : α → List Value} {n : Nat} (hf : ∀ x, (f x).length = n) (hn : 0 < n) (d : α) {w : World} {a : Option Addr} {l : List α} (h : Cells w a (recs f l)) {j : Nat} (hj : j < l.length) :
  ∃ b off, a = some ⟨b, off, none⟩ ∧ b < w.heap.size ∧ ∀ i v, (f (l.getD j d))[i]? = some v → w.cell? ⟨b, off + j * n + i, none⟩ = some v := by
 have hl := recs_length hf l
 have hlt : 0 < (recs f l).length := by rw [hl]; exact Nat.mul_pos (by omega) hn
 obtain ⟨b, off, rfl, hb, hc⟩ := h.at hlt
 refine ⟨b, off, rfl, hb, fun i v hi => ?_⟩
 rw [Nat.add_assoc]
 exact hc _ _ (recs_at hf d l j hj i v hi)
section
variable {H : Type} {enc : TypeId × Value → H} {P : Program} {w : World} {base : Nat} {spare : Nat → Bool} {held : Bool}
theorem elems_read {t e : TypeId} {size : Nat} {fuel : Nat} {v : Value} {y : DataW H × List MemPlace} (ht : P.underlying t = some (.slice e)) (hC : P.cellsOf e = size) (hpos : 0 < size) (h : DataW.trod enc P w base spare held fuel t [v] = some y) :
  ∃ (a : Option Addr) (len cap m : Nat), v = .slice a len cap ∧ len ≤ cap ∧ cap ≤ maxLen ∧ (len = 0 ∨ ∃ b off, a = some ⟨b, off, none⟩ ∧ ∀ i, i < len →
   ∃ (us : List Value) (z : DataW H × List MemPlace), us.length = size ∧ (∀ r u, us[r]? = some u → w.cell? ⟨b, off + i * size + r, none⟩ = some u) ∧ DataW.trod enc P w base spare held m e us = some z) := by
 rcases open_slice ht h with ⟨hcs, _⟩ | ⟨a, len, cap, m, n, D, Pl, hcs, _, hl, hm, hmm, _, hi⟩
 ·simp at hcs
  exact ⟨none, 0, 0, 0, hcs, Nat.le_refl _, Nat.zero_le _, .inl rfl⟩
 ·simp at hcs
  have hlm : len ≤ m := by rw [hmm]; split <;> omega
  by_cases h0 : len = 0
  ·exact ⟨some a, len, cap, 0, hcs, hl, hm, .inl h0⟩
  have each : ∀ i, i < len → ∃ (us : List Value) (z : DataW H × List MemPlace), us.length = size ∧ (∀ r u, us[r]? = some u → w.cell? ((a.add (i * size)).add r) = some u) ∧ DataW.trod enc P w base spare held n e us = some z := by
   intro i hil
   obtain ⟨cs', hc, ht'⟩ := hi i (by omega)
   rw [hC] at hc
   obtain ⟨_, hcl, hat⟩ := World.cells?_some hc
   have hz : ∃ z, DataW.trod enc P w base spare held n e cs' = some z := ⟨_, ht'⟩
   obtain ⟨z, hz⟩ := hz
   refine ⟨cs', z, hcl, fun r u hr => ?_, hz⟩
   have hrl : r < size := by have := (List.getElem?_eq_some_iff.1 hr).1; omega
   rw [hat r hrl, hr]
  obtain ⟨us, z, h1, h2, _⟩ := each 0 (by omega)
  obtain ⟨b, off, spot⟩ := a
  have hus : us[0]? = some (us[0]'(by omega)) := List.getElem?_eq_getElem (by omega)
  have h20 := h2 0 _ hus
  have hspot : spot = none := by
   have := World.cell?_spot h20
   simpa [Addr.add] using this
  subst hspot
  refine ⟨_, len, cap, n, hcs, hl, hm, .inr ⟨b, off, rfl, fun i hil => ?_⟩⟩
  obtain ⟨us, z, h1, h2, h3⟩ := each i hil
  refine ⟨us, z, h1, fun r u hr => ?_, h3⟩
  have := h2 r u hr
  rwa [add_none', add_none'] at this
where
 add_none' (b off j : Nat) : (⟨b, off, none⟩ : Addr).add j = ⟨b, off + j, none⟩ := by unfold Addr.add; split <;> simp_all
end
theorem recs_of {α : Type} {f : α → List Value} {n : Nat} (hf : ∀ x, (f x).length = n) (hn : 0 < n) (d : α) {w : World} {b off len : Nat} {ok : α → Prop}
  (each : ∀ i, i < len → ∃ x : α, (∀ r u, (f x)[r]? = some u → w.cell? ⟨b, off + i * n + r, none⟩ = some u) ∧ ok x) :
  ∃ l : List α, l.length = len ∧ Cells w (some ⟨b, off, none⟩) (recs f l) ∧ ∀ x ∈ l, ok x := by
 haveI : Inhabited α := ⟨d⟩
 obtain ⟨g, hg⟩ := choose_lt each
 refine ⟨(List.range len).map g, by simp, .inr ⟨b, off, rfl, fun i v hi => ?_⟩, fun x hx => ?_⟩
 ·have hlen : i < len * n := by
   have := (List.getElem?_eq_some_iff.1 hi).1
   rw [recs_length hf] at this
   simpa using this
  obtain ⟨q, r, hr, rfl⟩ : ∃ q r, r < n ∧ i = q * n + r := ⟨i / n, i % n, Nat.mod_lt _ hn, by rw [Nat.mul_comm]; exact (Nat.div_add_mod i n).symm⟩
  have hq : q < len := Decidable.byContradiction fun h => by
   have h1 : len ≤ q := by omega
   have := Nat.mul_le_mul_right n h1
   omega
  have hfd : ((List.range len).map g).getD q d = g q := by simp [hq]
  have hx : (f (g q))[r]? = some ((f (g q))[r]'(by rw [hf]; exact hr)) := List.getElem?_eq_getElem (by rw [hf]; exact hr)
  have := recs_at hf d ((List.range len).map g) q (by simpa using hq) r _ (by rw [hfd]; exact hx)
  rw [this] at hi
  cases hi
  rw [← Nat.add_assoc]
  exact (hg q hq).1 r _ hx
 ·rw [List.mem_map] at hx
  obtain ⟨i, hi, rfl⟩ := hx
  exact (hg i (by simpa using hi)).2
end Go.Proofs.YtpohaahihdhleaaGreat
namespace Go.Proofs.YtpohaahihdhleaaGreat
open Go.RowKit
theorem igive_any {w : World} {T : Tri} {n : Nat} {l : List Bool} (h : IxAt w T n l) (hl : l.length ≤ 1000000000000) (hn : n < 1000000000000) (a m : Int) :
  Calls Tryz.prog 157 #[.pointer (some ⟨T.p, 0, none⟩), .int .i64 a, .int .i64 m] w (GivePost w T n l a m) := by
 by_cases hbad : a < 1 ∨ m < 1 ∨ (l.length : Int) ≤ a ∨ (l.length : Int) - a < m
 ·exact igive_arg h hl a m hbad
 ·obtain ⟨a, rfl⟩ := Int.eq_ofNat_of_zero_le (show 0 ≤ a by omega)
  obtain ⟨m, rfl⟩ := Int.eq_ofNat_of_zero_le (show 0 ≤ m by omega)
  exact igive_fit h hl hn a m (by omega)
theorem Tri.two {T : Tri} {B : Nat} (h : ∀ b ∈ T.list, B ≤ b) : ∀ k ∈ [T.s, T.e], B ≤ k := fun k hk => h k (by simp [Tri.list] at hk ⊢; rcases hk with rfl | rfl <;> simp)
structure Op2 where
 a : Int
 b : Int
def Op2.cs (o : Op2) : List Value := [.int .i64 o.a, .int .i64 o.b]
theorem Op2.len (o : Op2) : o.cs.length = 2 := rfl
def fillR : List Op2 → List Bool → List Bool × Int
 | [], l => (l, 0)
 | o :: r, l => if (giveR l o.a o.b).2 = 0 then fillR r (giveR l o.a o.b).1 else (l, (giveR l o.a o.b).2)
theorem drop2 {s : List Op2} {k : Nat} (h : k < s.length) : s.drop k = s.getD k ⟨0, 0⟩ :: s.drop (k + 1) := by
 rw [List.drop_eq_getElem_cons h, List.getD_eq_getElem?_getD, List.getElem?_eq_getElem h]; rfl
def FillPost (w : World) (r : List Bool × Int) : Ending → World → Prop := fun e w' => Below w.heap.size w w' ∧
  ((r.2 = 0 ∧ ∃ (T : Tri) (k : Nat), e = .returned (.tuple #[.pointer (some ⟨T.p, 0, none⟩), .int .i64 0]) ∧ IxAt w' T k r.1 ∧ k ≤ 1000000 ∧ (∀ b ∈ T.list, w.heap.size ≤ b)) ∨
   (r.2 ≠ 0 ∧ e = .returned (.tuple #[.pointer none, .int .i64 r.2])))
set_option maxHeartbeats 4000000 in
set_option maxRecDepth 100000 in
theorem ifill_any (L : Int) (hL : L ≤ 1000000) (a : Option Addr) (m cap : Nat) (s : List Op2) (hm : s.length = m) (w : World) (hcs : Cells w a (recs Op2.cs s)) (hmm : m ≤ 1000000) :
  Calls Tryz.prog 113 #[.int .i64 L, .slice a m cap] w (FillPost w (fillR s (List.replicate L.toNat false))) := by
 have HM := LH hm
 have HCS := LH hcs
 clear hm hcs
 generalize hPo : FillPost w (fillR s (List.replicate L.toNat false)) = Post
 have HPo := LH hPo
 clear hPo
 go_enter Tryz.func113, Tryz.ntmps113
 go_wp2_with fail
 refine (inew_any L _ (by omega)).mono ?_
 rintro e w1 ⟨T, rfl, hT, hi, hb1⟩
 have HT := LH hT
 have HI1 := LH hi
 have HB1 := LH hb1
 obtain ⟨n, hn⟩ : ∃ n, n = L.toNat := ⟨_, rfl⟩
 have hn1 : n ≤ 1000000 := by omega
 rw [← hn] at HI1 HPo
 clear hT hi hb1 hn
 go_wp2_with fail
 go_loopw [14] (fun i wr => ∃ (k : Nat) (l : List Bool), k ≤ m ∧ i = .int .i64 (k : Int) ∧ l.length = n ∧ IxAt wr T k l ∧ Below w.heap.size w wr ∧ fillR s (List.replicate n false) = fillR (s.drop k) l) (fun i _ => m - (intOf i).toNat)
 case atStart => exact ⟨0, List.replicate n false, Nat.zero_le _, rfl, by simp, HI1.out, HB1.out, rfl⟩
 case round =>
  obtain ⟨k, l, hk, rfl, hln, hi, hb, hf⟩ := hrel
  have HI := LH hi
  have HB := LH hb
  have HF := LH hf
  have HLn := LH hln
  clear hi hb hf hln
  by_cases hlt : k < m
  ·have hlt' : (k : Int) < (m : Int) := by omega
   have hkl : k < s.length := by rw [HM.out]; exact hlt
   obtain ⟨b1, o1, rfl, hbl, hcell⟩ := recs_cells Op2.len (by decide) (⟨0, 0⟩ : Op2) (HCS.out.below HB.out (Nat.le_refl _)) hkl
   have hdr := drop2 hkl
   generalize s.getD k ⟨0, 0⟩ = o at *
   obtain ⟨oa, ob⟩ := o
   have HF2 : Hid (fillR s (List.replicate n false) = fillR (⟨oa, ob⟩ :: s.drop (k + 1)) l) := LH (by rw [HF.out, hdr])
   have e0 : wr.cell? ⟨b1, o1 + k * 2, none⟩ = some (.int .i64 oa) := hcell 0 _ rfl
   have e1 : wr.cell? ⟨b1, o1 + k * 2 + 1, none⟩ = some (.int .i64 ob) := hcell 1 _ rfl
   have HBa := LH (HB.out.trans ((below_alloc wr (.cells #[.int .i64 oa, .int .i64 ob] 259)).mono HB.out.size))
   have HIa := LH (HI.out.below (below_alloc wr (.cells #[.int .i64 oa, .int .i64 ob] 259)))
   have HMa := LH (Mem.one wr #[.int .i64 oa, .int .i64 ob] 259)
   have hk1 : k < 1000000000000 := by omega
   clear hcell hkl hdr HF
   go_upto_region 5 with fail
   generalize wr.alloc _ = wa at *
   have d0 := HMa.out.cell 0 0 rfl rfl
   have d1 := HMa.out.cell 0 1 rfl rfl
   go_wp2_with fail
   refine (igive_any HIa.out (by rw [HLn.out]; omega) hk1 oa ob).mono ?_
   rintro e w3 ⟨rfl, hi3, ht3⟩
   have HL3 : Hid ((giveR l oa ob).1.length = n) := LH (by rw [giveR_len]; exact HLn.out)
   have HF3 : Hid (fillR s (List.replicate n false) = if (giveR l oa ob).2 = 0 then fillR (s.drop (k + 1)) (giveR l oa ob).1 else (l, (giveR l oa ob).2)) := HF2
   have HB3 : Hid (Below w.heap.size w w3) := LH (below_touched HBa.out ht3 (Tri.two HT.out) (Nat.le_refl _))
   have HI3 := LH hi3
   generalize giveR l oa ob = r at *
   obtain ⟨l3, r2⟩ := r
   dsimp only at HF3 HL3 HI3 ⊢
   clear hi3 ht3 HF2
   by_cases hr : r2 = 0
   ·subst hr
    rw [if_pos rfl] at HF3
    go_wp2_with fail
    go_roundw
    case rel => exact ⟨k + 1, l3, by omega, vint (by omega), HL3.out, HI3.out, HB3.out, HF3.out⟩
    case measure => simp [intOf]; omega
   ·rw [if_neg hr] at HF3
    have hr' : (r2 != 0) = true := by simpa using hr
    have HEnd : Hid (FillPost w (fillR s (List.replicate n false)) (.returned (.tuple #[.pointer none, .int .i64 r2])) w3) := LH (by rw [HF3.out]; exact ⟨HB3.out, .inr ⟨hr, rfl⟩⟩)
    rw [HPo.out] at HEnd
    clear hr
    go_wp2_with fail
    exact HEnd.out
  ·obtain rfl : k = m := by omega
   have hlt' : decide ((k : Int) < (k : Int)) = false := by simp
   have hdr : s.drop k = [] := List.drop_of_length_le (by rw [HM.out]; exact Nat.le_refl _)
   have HEnd : Hid (FillPost w (fillR s (List.replicate n false)) (.returned (.tuple #[.pointer (some ⟨T.p, 0, none⟩), .int .i64 0])) wr) := LH (by
    rw [HF.out, hdr]; exact ⟨HB.out, .inl ⟨rfl, T, k, rfl, HI.out, hmm, HT.out⟩⟩)
   rw [HPo.out] at HEnd
   clear hlt hdr
   go_wp2_with fail
   exact HEnd.out
end Go.Proofs.YtpohaahihdhleaaGreat
namespace Go.Proofs.YtpohaahihdhleaaGreat
def contTo (l : List Hd) (b : Nat) : Nat → Bool
 | 0 => true
 | n + 1 => contTo l b n && (n == 0 || decide (l.getD (b + n) default = ⟨3, 0, n⟩))
def wholeN (l : List Hd) (b : Nat) : Nat :=
 if l.length ≤ b ∨ (l.getD b default).k ≠ 2 ∨ (l.getD b default).l < 1 ∨ (l.length : Int) - b < (l.getD b default).l then 0
 else if contTo l b (l.getD b default).l.toNat then (l.getD b default).l.toNat else 0
theorem contTo_at {l : List Hd} {b : Nat} : ∀ {n : Nat}, contTo l b n = true → ∀ i, 1 ≤ i → i < n → l.getD (b + i) default = ⟨3, 0, i⟩
 | 0, _, i, h1, h2 => by omega
 | n + 1, h, i, h1, h2 => by
  rw [contTo, Bool.and_eq_true] at h
  by_cases e : i = n
  ·subst e
   have := h.2
   simp at this
   rcases this with h0 | h0
   ·omega
   ·exact h0
  ·exact contTo_at h.1 i h1 (by omega)
theorem contTo_of {l : List Hd} {b : Nat} : ∀ {n : Nat}, (∀ i, 1 ≤ i → i < n → l.getD (b + i) default = ⟨3, 0, i⟩) → contTo l b n = true
 | 0, _ => rfl
 | n + 1, h => by
  rw [contTo, contTo_of (fun i h1 h2 => h i h1 (by omega)), Bool.true_and]
  by_cases e : n = 0
  ·simp [e]
  ·rw [h n (by omega) (by omega)]; simp
def soundN (l : List Hd) : Nat → Nat → Nat
 | 0, _ => 0
 | f + 1, b => if l.length ≤ b then 0 else if (l.getD b default).k = 2 then (if wholeN l b = 0 then b else soundN l f (b + wholeN l b)) else if (l.getD b default).k = 3 then b else soundN l f (b + 1)
def freeL (ks : Nat → Bool) (B b : Nat) : List Bool := (List.range B).map fun i => decide (1 ≤ i) && decide (i < b) && ks i
theorem freeL_len (ks : Nat → Bool) (B b : Nat) : (freeL ks B b).length = B := by simp [freeL]
theorem freeL_fb (ks : Nat → Bool) (B b i : Nat) : fb (freeL ks B b) i = true ↔ i < B ∧ 1 ≤ i ∧ i < b ∧ ks i = true := by
 unfold fb freeL
 by_cases h : i < B
 ·simp [h, and_assoc]
 ·simp [h]
theorem setTo_tt {l : List Bool} {a m : Nat} (h : a + m ≤ l.length) (b : Nat) : fb (setTo l a true m) b = true ↔ (a ≤ b ∧ b < a + m) ∨ fb l b = true := by
 rw [setTo_fb _ _ _ _ h]
 by_cases c : a ≤ b ∧ b < a + m
 ·rw [if_pos c]; simp [c]
 ·rw [if_neg c]; simp [c]
theorem fb_no {l : List Bool} {b : Nat} (h : ¬ fb l b = true) : fb l b = false := by simpa using h
def op2s (l : List Sp) : List Op2 := l.map fun x => ⟨x.1, x.2⟩
theorem op2s_cs (l : List Sp) : recs Op2.cs (op2s l) = spCs l := by
 induction l with
 | nil => rfl
 | cons x l ih => simp only [recs, op2s, spCs, List.map_cons, List.flatMap_cons] at *; rw [ih]; rfl
theorem fillR_cons (o : Op2) (r : List Op2) (l : List Bool) : fillR (o :: r) l = if (giveR l o.a o.b).2 = 0 then fillR r (giveR l o.a o.b).1 else (l, (giveR l o.a o.b).2) := rfl
theorem fillR_append (s t : List Op2) : ∀ l, (fillR s l).2 = 0 → fillR (s ++ t) l = fillR t (fillR s l).1 := by
 induction s with
 | nil => intro l _; rfl
 | cons o r ih =>
  intro l h
  rw [List.cons_append]
  rw [fillR_cons] at h
  rw [fillR_cons, fillR_cons]
  by_cases c : (giveR l o.a o.b).2 = 0
  ·rw [if_pos c] at h
   rw [if_pos c, if_pos c]
   exact ih _ h
  ·rw [if_neg c] at h
   exact absurd h c
theorem fillR_one (l : List Bool) (s n : Nat) : fillR [⟨s, n⟩] l = if (giveR l s n).2 = 0 then ((giveR l s n).1, 0) else (l, (giveR l s n).2) := by
 unfold fillR
 split
 ·rfl
 ·rfl
theorem anyFree_none {l : List Bool} {a m : Nat} (h : ∀ b, a ≤ b → b < a + m → fb l b = false) : anyFree l a m = false := by
 cases hq : anyFree l a m with
 | false => rfl
 | true =>
  obtain ⟨b, h1, h2, h3⟩ := anyFree_true hq
  rw [h b h1 h2] at h3
  cases h3
theorem fb_same {a b : List Bool} (hl : a.length = b.length) (h : ∀ i, fb a i = fb b i) : a = b := by
 apply List.ext_getElem hl
 intro i h1 h2
 have := h i
 unfold fb at this
 simpa [h1, h2] using this
theorem span_in (ks : Nat → Bool) (b : Nat) : ∀ x ∈ spanL ks b, 1 ≤ x.1 ∧ 1 ≤ x.2 ∧ x.1 + x.2 ≤ b := by
 induction b with
 | zero => intro x hx; simp [spanL] at hx
 | succ b ih =>
  by_cases h0 : b = 0
  ·subst h0; intro x hx; simp [spanL] at hx
  intro x hx
  rcases span_round ks b (by omega) with ⟨_, h2⟩ | ⟨_, _, _, l, s, n, h2, h3, h4⟩ | ⟨_, _, h2, h3⟩ | ⟨_, _, l, s, n, h2, h3, h4⟩
  ·rw [h2] at hx
   have := ih x hx
   omega
  ·rw [h4, List.mem_append, List.mem_singleton] at hx
   rcases hx with hx | rfl
   ·have := ih x (by rw [h2]; exact List.mem_append_left _ hx)
    omega
   ·have := ih (s, n) (by rw [h2]; simp)
    dsimp only at this ⊢
    omega
  ·rw [h3, List.mem_singleton] at hx
   subst hx
   dsimp only
   omega
  ·rw [h4, List.mem_append, List.mem_singleton] at hx
   rcases hx with hx | rfl
   ·have := ih x (by rw [h2]; exact hx)
    omega
   ·dsimp only
    omega
theorem fb_same' {a b : List Bool} (hl : a.length = b.length) (h : ∀ i, fb a i = true ↔ fb b i = true) : a = b := fb_same hl fun i => Bool.eq_iff_iff.2 (h i)
theorem fill_none (l' : List Op2) : ∀ (L : List Bool), (fillR l' L).2 ≠ 0 → ∀ t, (fillR (l' ++ t) L).2 ≠ 0 := by
 induction l' with
 | nil => intro L h; exact absurd rfl h
 | cons o r ih' =>
  intro L h t
  rw [List.cons_append, fillR_cons]
  rw [fillR_cons] at h
  by_cases c : (giveR L o.a o.b).2 = 0
  ·rw [if_pos c] at h
   rw [if_pos c]
   exact ih' _ h t
  ·rw [if_neg c]
   exact c
theorem fill_new {ks : Nat → Bool} {B b : Nat} (hb : b + 1 ≤ B) (h0 : b ≠ 0) {T : List Bool} (hT : T.length = B) (hf : ∀ i, fb T i = true ↔ i < B ∧ 1 ≤ i ∧ i < b ∧ ks i = true) (hk : ks b = true) :
  giveR T b (1 : Nat) = (freeL ks B (b + 1), 0) := by
 have hn : anyFree T b 1 = false := anyFree_none (fun i h1 h2 => fb_no (fun h => by have := (hf i).1 h; omega))
 rw [giveR_ok ⟨by omega, Nat.le_refl _, by rw [hT]; omega⟩ hn]
 refine Prod.ext_iff.2 ⟨fb_same' (by rw [setTo_length, hT, freeL_len]) (fun i => ?_), rfl⟩
 rw [setTo_tt (by rw [hT]; omega), freeL_fb, hf i]
 by_cases e : i = b
 ·subst e; exact ⟨fun _ => ⟨by omega, by omega, by omega, hk⟩, fun _ => .inl ⟨Nat.le_refl _, by omega⟩⟩
 ·constructor
  ·rintro (h | ⟨h1, h2, h3, h4⟩)
   ·omega
   ·exact ⟨h1, h2, by omega, h4⟩
  ·rintro ⟨h1, h2, h3, h4⟩
   exact .inr ⟨h1, h2, by omega, h4⟩
theorem fill_spans (ks : Nat → Bool) (B : Nat) : ∀ b, b ≤ B → fillR (op2s (spanL ks b)) (List.replicate B false) = (freeL ks B b, 0)
 | 0, _ => by
  have : freeL ks B 0 = List.replicate B false := fb_same (by simp [freeL]) (fun i => by
   rw [fb_no (by rw [freeL_fb]; omega)]
   unfold fb
   simp only [List.getD_eq_getElem?_getD, List.getElem?_replicate]
   split <;> rfl)
  rw [this]; rfl
 | b + 1, hb => by
  have ih := fill_spans ks B b (by omega)
  by_cases h0 : b = 0
  ·subst h0
   have e : freeL ks B (0 + 1) = freeL ks B 0 := fb_same' (by simp [freeL]) (fun i => by rw [freeL_fb, freeL_fb]; omega)
   rw [e, ← ih]; rfl
  rcases span_round ks b (by omega) with ⟨h1, h2⟩ | ⟨h1, _, _, l, s, n, h2, h3, h4⟩ | ⟨h1, _, h2, h3⟩ | ⟨h1, _, l, s, n, h2, h3, h4⟩
  ·rw [h2, ih]
   refine Prod.ext_iff.2 ⟨fb_same' (by simp [freeL]) (fun i => ?_), rfl⟩
   rw [freeL_fb, freeL_fb]
   constructor
   ·rintro ⟨a1, a2, a3, a4⟩; exact ⟨a1, a2, by omega, a4⟩
   ·rintro ⟨a1, a2, a3, a4⟩
    refine ⟨a1, a2, ?_, a4⟩
    have : i ≠ b := by rintro rfl; rw [h1] at a4; cases a4
    omega
  ·have hx := span_in ks b (s, n) (by rw [h2]; simp)
   dsimp only at hx
   rw [h2] at ih
   rw [h4]
   have happ : ∀ x : Sp, op2s (l ++ [x]) = op2s l ++ [⟨x.1, x.2⟩] := fun x => by simp [op2s]
   have hp : (fillR (op2s l) (List.replicate B false)).2 = 0 := by
    apply Decidable.byContradiction
    intro hne
    have h5 := fill_none _ _ hne [⟨((s, n) : Sp).1, ((s, n) : Sp).2⟩]
    rw [← happ, ih] at h5
    exact h5 rfl
   rw [happ, fillR_append _ _ _ hp] at ih
   rw [happ, fillR_append _ _ _ hp]
   dsimp only at ih ⊢
   generalize (fillR (op2s l) (List.replicate B false)).1 = T0 at *
   rw [fillR_one] at ih ⊢
   have hg0 : (giveR T0 s n).2 = 0 := by
    apply Decidable.byContradiction
    intro hne
    rw [if_neg hne] at ih
    exact hne (congrArg Prod.snd ih)
   rw [if_pos hg0] at ih
   have hT := congrArg Prod.fst ih
   dsimp only at hT
   have hcase : 1 ≤ s ∧ 1 ≤ n ∧ s + n ≤ T0.length ∧ anyFree T0 s n = false := by
    unfold giveR at hg0
    split at hg0
    ·simp at hg0
    ·rename_i hc
     split at hg0
     ·simp at hg0
     ·rename_i hf
      refine ⟨by omega, by omega, by omega, ?_⟩
      simpa using hf
   obtain ⟨c1, c2, c3, c4⟩ := hcase
   rw [giveR_ok ⟨c1, c2, c3⟩ c4] at hT
   dsimp only at hT
   have hlen : T0.length = B := by have := congrArg List.length hT; rwa [setTo_length, freeL_len] at this
   have hTi : ∀ i, (s ≤ i ∧ i < s + n) ∨ fb T0 i = true ↔ i < B ∧ 1 ≤ i ∧ i < b ∧ ks i = true := fun i => by rw [← setTo_tt c3, hT, freeL_fb]
   have hb0 : fb T0 b = false := fb_no (fun h => by have := (hTi b).1 (.inr h); omega)
   have hn : anyFree T0 s (n + 1) = false := anyFree_none (fun i i1 i2 => by
    by_cases e : i = b
    ·subst e; exact hb0
    ·exact anyFree_false c4 i i1 (by omega))
   rw [giveR_ok ⟨c1, by omega, by omega⟩ hn]
   rw [if_pos rfl]
   refine Prod.ext_iff.2 ⟨fb_same' (by rw [setTo_length, freeL_len, hlen]) (fun i => ?_), rfl⟩
   dsimp only
   rw [setTo_tt (by omega), freeL_fb]
   constructor
   ·rintro (h | h)
    ·by_cases e : i = b
     ·subst e; exact ⟨by omega, by omega, by omega, h1⟩
     ·have := (hTi i).1 (.inl (by omega)); exact ⟨this.1, this.2.1, by omega, this.2.2.2⟩
    ·have := (hTi i).1 (.inr h); exact ⟨this.1, this.2.1, by omega, this.2.2.2⟩
   ·rintro ⟨a1, a2, a3, a4⟩
    by_cases e : i = b
    ·exact .inl (by omega)
    ·rcases (hTi i).2 ⟨a1, a2, by omega, a4⟩ with h | h
     ·exact .inl (by omega)
     ·exact .inr h
  ·rw [h2] at ih
   rw [h3]
   have hr : List.replicate B false = freeL ks B b := congrArg Prod.fst ih
   have h6 := fill_new hb h0 (T := List.replicate B false) (by simp) (fun i => by rw [hr, freeL_fb]) h1
   show fillR [⟨(b : Nat), (1 : Nat)⟩] _ = _
   rw [fillR_one, h6, if_pos rfl]
  ·rw [← h2] at h4
   rw [h4]
   have happ : op2s (spanL ks b ++ [(b, 1)]) = op2s (spanL ks b) ++ [⟨(b : Nat), (1 : Nat)⟩] := by simp [op2s]
   rw [happ, fillR_append _ _ _ (by rw [ih]), ih]
   have h6 := fill_new hb h0 (freeL_len ks B b) (fun i => freeL_fb _ _ _ _) h1
   rw [fillR_one, h6, if_pos rfl]
end Go.Proofs.YtpohaahihdhleaaGreat
namespace Go.Proofs.YtpohaahihdhleaaGreat
open Go.RowKit
theorem contTo_no {l : List Hd} {b i n : Nat} (h1 : 1 ≤ i) (h2 : i < n) (h : l.getD (b + i) default ≠ ⟨3, 0, i⟩) : contTo l b n = false := by
 cases hq : contTo l b n with
 | false => rfl
 | true => exact absurd (contTo_at hq i h1 h2) h
def WholePost (l : List Hd) (b : Nat) (w : World) : Ending → World → Prop := fun e w' => e = .returned (.tuple #[.int .i64 ((wholeN l b : Nat) : Int), .bool (decide (wholeN l b ≠ 0))]) ∧ Below w.heap.size w w'
theorem whole_none {l : List Hd} {b : Nat} {w w' : World} (h : wholeN l b = 0) (hb : Below w.heap.size w w') : WholePost l b w (.returned (.tuple #[.int .i64 0, .bool false])) w' := by
 unfold WholePost; rw [h]; exact ⟨rfl, hb⟩
theorem whole_some {l : List Hd} {b : Nat} {w w' : World} {z : Int} (h : (wholeN l b : Int) = z) (hz : 1 ≤ z) (hb : Below w.heap.size w w') : WholePost l b w (.returned (.tuple #[.int .i64 z, .bool true])) w' := by
 unfold WholePost
 rw [h, decide_eq_true (by omega : wholeN l b ≠ 0)]; exact ⟨rfl, hb⟩
set_option maxHeartbeats 2000000 in
set_option maxRecDepth 20000 in
theorem bwhole_any (a : Option Addr) (n cap : Nat) (l : List Hd) (hn : l.length = n) (w : World) (hc : Cells w a (hdCs l)) (hl : n ≤ 1000) (b : Nat) (hb : b < n) :
  Calls Tryz.prog 110 #[.slice a n cap, .int .i64 (b : Int)] w (WholePost l b w) := by
 have hbl : b < l.length := by rw [hn]; exact hb
 obtain ⟨k, c, z, he⟩ := hdGetD l b
 have HW : Hid (wholeN l b = if k ≠ 2 ∨ z < 1 ∨ (n : Int) - b < z then 0 else if contTo l b z.toNat then z.toNat else 0) := LH (by
  unfold wholeN
  rw [he, hn]
  dsimp only
  by_cases h1 : k ≠ 2 ∨ z < 1 ∨ (n : Int) - b < z
  ·rw [if_pos (.inr h1), if_pos h1]
  ·rw [if_neg h1, if_neg (by rintro (h | h); omega; exact h1 h)])
 obtain ⟨b1, o1, rfl, d0, d1, d2⟩ := hd_cells hc hbl he
 have HC := LH hc
 have HN := LH hn
 have H0 : Hid (wholeN l b = 0 → ∀ w', Below w.heap.size w w' → WholePost l b w (.returned (.tuple #[.int .i64 0, .bool false])) w') := LH (fun h w' => whole_none h)
 have H1 : Hid ((wholeN l b : Int) = z → 1 ≤ z → ∀ w', Below w.heap.size w w' → WholePost l b w (.returned (.tuple #[.int .i64 z, .bool true])) w') := LH (fun h hz w' => whole_some h hz)
 generalize WholePost l b w = Post at *
 clear hc hn he d1
 have hbn : (b : Int) < (n : Int) := by omega
 by_cases hk : k = 2
 case neg =>
  have HE := LH (H0.out (by rw [HW.out, if_pos (.inl hk)]))
  have hk' : (k != 2) = true := by simpa using hk
  clear hk
  go_enter Tryz.func110, Tryz.ntmps110
  go_wp2_with fail
  exact HE.out _ (Below.refl _ _)
 subst hk
 by_cases hz : z < 1
 ·have HE := LH (H0.out (by rw [HW.out, if_pos (.inr (.inl hz))]))
  go_enter Tryz.func110, Tryz.ntmps110
  go_wp2_with fail
  exact HE.out _ (Below.refl _ _)
 by_cases hz2 : (n : Int) - b < z
 ·have HE := LH (H0.out (by rw [HW.out, if_pos (.inr (.inr hz2))]))
  have hw1 : IntKind.i64.wrap ((n : Int) - (b : Int)) = (n : Int) - (b : Int) := IntWalk.i64_in _ (by omega)
  go_enter Tryz.func110, Tryz.ntmps110
  go_wp2_with fail
  exact HE.out _ (Below.refl _ _)
 obtain ⟨m, rfl⟩ := Int.eq_ofNat_of_zero_le (show 0 ≤ z by omega)
 have hm1 : 1 ≤ m := by omega
 have hmn : b + m ≤ n := by omega
 have HW2 : Hid (wholeN l b = if contTo l b m then m else 0) := LH (by rw [HW.out, if_neg (by rintro (h | h | h); exact h rfl; omega; omega)]; rfl)
 have hw1 : IntKind.i64.wrap ((n : Int) - (b : Int)) = (n : Int) - (b : Int) := IntWalk.i64_in _ (by omega)
 clear HW hz hz2
 go_enter Tryz.func110, Tryz.ntmps110
 go_wp2_with fail
 go_loopw [7] (fun i wr => ∃ j : Nat, 1 ≤ j ∧ j ≤ m ∧ i = .int .i64 (j : Int) ∧ contTo l b j = true ∧ Below w.heap.size w wr) (fun i _ => m - (intOf i).toNat)
 case atStart => exact ⟨1, Nat.le_refl _, hm1, rfl, by simp [contTo], Below.refl _ _⟩
 case round =>
  obtain ⟨j, hj1, hjm, rfl, hco, hbe⟩ := hrel
  have HCo := LH hco
  have HB := LH hbe
  clear hco hbe
  by_cases hlt : j < m
  ·have hlt' : (j : Int) < (m : Int) := by omega
   have hin : b + j < n := by omega
   have hin' : (b : Int) + (j : Int) < (n : Int) := by omega
   obtain ⟨k2, c2, z2, he2⟩ := hdGetD l (b + j)
   obtain ⟨b2, o2, hee, e0, e1, e2⟩ := hd_cells (HC.out.below HB.out (Nat.le_refl _)) (by rw [HN.out]; exact hin) he2
   cases hee
   have hto : ((b : Int) + (j : Int)).toNat = b + j := by omega
   have HE2 := LH he2
   clear he2
   by_cases hq : (⟨k2, c2, z2⟩ : Hd) = ⟨3, 0, (j : Int)⟩
   ·have heq : ∀ w', (Op.equalIn 10000 107 (.agg #[.int .i64 k2, .int .i64 c2, .int .i64 z2]) (.agg #[.int .i64 3, .int .i64 0, .int .i64 (j : Int)])).run Tryz.prog w' = .ok true w' := fun w' => equalBh w' _ _ _ _ _ _ _ (by rw [← hd_beq]; simp [hq])
    have hgd := gsBh
    have HCo2 : Hid (contTo l b (j + 1) = true) := LH (by rw [contTo, HCo.out, HE2.out, hq]; simp)
    clear hq
    go_wp2_with fail
    exact ⟨⟨j + 1, by omega, by omega, vint (by omega), HCo2.out, HB.out⟩, by simp [intOf]; omega⟩
   ·have heq : ∀ w', (Op.equalIn 10000 107 (.agg #[.int .i64 k2, .int .i64 c2, .int .i64 z2]) (.agg #[.int .i64 3, .int .i64 0, .int .i64 (j : Int)])).run Tryz.prog w' = .ok false w' := fun w' => equalBh w' _ _ _ _ _ _ _ (by rw [← hd_beq]; simp [hq])
    have hgd := gsBh
    have HE := LH (H0.out (by rw [HW2.out, contTo_no hj1 hlt (by rw [HE2.out]; exact hq)]; rfl))
    clear hq
    go_wp2_with fail
    exact HE.out _ HB.out
  ·obtain rfl : j = m := by omega
   have hlt' : decide ((j : Int) < (j : Int)) = false := by simp
   have HE := LH (H1.out (by rw [HW2.out, HCo.out, if_pos rfl]) (by omega))
   go_wp2_with fail
   exact HE.out _ HB.out
theorem wholeN_le (l : List Hd) (b : Nat) (h : wholeN l b ≠ 0) : b + wholeN l b ≤ l.length := by
 unfold wholeN at h ⊢
 by_cases hc : l.length ≤ b ∨ (l.getD b default).k ≠ 2 ∨ (l.getD b default).l < 1 ∨ (l.length : Int) - b < (l.getD b default).l
 ·rw [if_pos hc] at h; exact absurd rfl h
 ·rw [if_neg hc] at h ⊢
  by_cases hd : contTo l b (l.getD b default).l.toNat = true
  ·rw [if_pos hd]; omega
  ·rw [if_neg hd] at h; exact absurd rfl h
def SoundPost (l : List Hd) (w : World) : Ending → World → Prop := fun e w' => e = .returned (.tuple #[.int .i64 ((soundN l l.length 1 : Nat) : Int), .bool (decide (soundN l l.length 1 = 0))]) ∧ Below w.heap.size w w'
set_option maxHeartbeats 2000000 in
set_option maxRecDepth 20000 in
theorem bsound_any (a : Option Addr) (n cap : Nat) (l : List Hd) (hn : l.length = n) (w : World) (hc : Cells w a (hdCs l)) (hl : n ≤ 1000) :
  Calls Tryz.prog 112 #[.slice a n cap] w (SoundPost l w) := by
 have HC := LH hc
 have HN := LH hn
 have H0 : Hid (soundN l n 1 = 0 → ∀ w', Below w.heap.size w w' → SoundPost l w (.returned (.tuple #[.int .i64 0, .bool true])) w') := LH (fun h w' hb => by
  unfold SoundPost; rw [hn, h]; exact ⟨rfl, hb⟩)
 have H1 : Hid (∀ b : Nat, soundN l n 1 = b → b ≠ 0 → ∀ w', Below w.heap.size w w' → SoundPost l w (.returned (.tuple #[.int .i64 (b : Int), .bool false])) w') := LH (fun b h hne w' hb => by
  unfold SoundPost; rw [hn, h, decide_eq_false hne]; exact ⟨rfl, hb⟩)
 generalize SoundPost l w = Post at *
 clear hc hn
 go_enter Tryz.func112, Tryz.ntmps112
 go_wp2_with fail
 go_loopw [4] (fun i wr => ∃ b f : Nat, 1 ≤ b ∧ b ≤ n + 1 ∧ n ≤ b + f - 1 ∧ i = .int .i64 (b : Int) ∧ soundN l n 1 = soundN l f b ∧ Below w.heap.size w wr) (fun i _ => n + 1 - (intOf i).toNat)
 case atStart => exact ⟨1, n, Nat.le_refl _, by omega, by omega, rfl, rfl, Below.refl _ _⟩
 case round =>
  obtain ⟨b, f, hb1, hbn, hf, rfl, hs, hbe⟩ := hrel
  have HS := LH hs
  have HB := LH hbe
  clear hs hbe
  by_cases hlt : b < n
  ·have hlt' : (b : Int) < (n : Int) := by omega
   obtain ⟨g, rfl⟩ : ∃ g, f = g + 1 := ⟨f - 1, by omega⟩
   obtain ⟨k, c, z, he⟩ := hdGetD l b
   have HC1 := LH (HC.out.below HB.out (Nat.le_refl _))
   have HS2 : Hid (soundN l n 1 = if k = 2 then (if wholeN l b = 0 then b else soundN l g (b + wholeN l b)) else if k = 3 then b else soundN l g (b + 1)) := LH (by
    rw [HS.out, soundN, if_neg (by rw [HN.out]; omega), he])
   have HWh := LH (bwhole_any a n cap l HN.out wr HC1.out hl b hlt)
   have HLe := LH (wholeN_le l b)
   obtain ⟨b1, o1, rfl, d0, d1, d2⟩ := hd_cells HC1.out (by rw [HN.out]; exact hlt) he
   clear he d1 d2
   by_cases h2 : k = 2
   ·subst h2
    have h2' : ((2 : Int) == 2) = true := rfl
    go_wp2_with fail
    refine HWh.out.mono ?_
    rintro e w1 ⟨rfl, hb1⟩
    have HB1 := LH (HB.out.trans (hb1.mono HB.out.size))
    clear hb1
    obtain ⟨q, hq⟩ : ∃ q, q = wholeN l b := ⟨_, rfl⟩
    rw [← hq] at HS2 HLe ⊢
    by_cases hz : q = 0
    ·have hz' : decide (q ≠ 0) = false := by simpa using hz
     have HE := LH (H1.out b (by rw [HS2.out]; simp [hz]) (by omega))
     rw [hz']
     clear hz hq hz'
     go_wp2_with fail
     exact HE.out _ HB1.out
    ·have hz' : decide (q ≠ 0) = true := by simpa using hz
     have hle := HLe.out hz
     rw [HN.out] at hle
     have HS3 : Hid (soundN l n 1 = soundN l g (b + q)) := LH (by rw [HS2.out]; simp [hz])
     rw [hz']
     clear hq hz'
     have hw1 : IntKind.i64.wrap ((q : Int) - 1) = (q : Int) - 1 := IntWalk.i64_in _ (by omega)
     have hw2 : IntKind.i64.wrap ((b : Int) + ((q : Int) - 1)) = (b : Int) + ((q : Int) - 1) := IntWalk.i64_in _ (by omega)
     have hw3 : IntKind.i64.wrap ((b : Int) + ((q : Int) - 1) + 1) = (b : Int) + ((q : Int) - 1) + 1 := IntWalk.i64_in _ (by omega)
     go_wp2_with fail
     exact ⟨⟨b + q, g, by omega, by omega, by omega, vint (by omega), HS3.out, HB1.out⟩, by simp [intOf]; omega⟩
   ·have h2' : (k == 2) = false := by simpa using h2
    by_cases h3 : k = 3
    ·subst h3
     have HE := LH (H1.out b (by rw [HS2.out]; simp) (by omega))
     clear h2
     go_wp2_with fail
     exact HE.out _ HB.out
    ·have h3' : (k == 3) = false := by simpa using h3
     have HS3 : Hid (soundN l n 1 = soundN l g (b + 1)) := LH (by rw [HS2.out]; simp [h2, h3])
     clear h2 h3
     go_wp2_with fail
     exact ⟨⟨b + 1, g, by omega, by omega, by omega, vint (by omega), HS3.out, HB.out⟩, by simp [intOf]; omega⟩
  ·have hlt' : decide ((b : Int) < (n : Int)) = false := by simp; omega
   have HE := LH (H0.out (by
    rw [HS.out]
    cases f with
    | zero => rfl
    | succ f => rw [soundN, if_pos (by rw [HN.out]; omega)]))
   go_wp2_with fail
   exact HE.out _ HB.out
set_option maxHeartbeats 1000000 in
theorem tall_any {w : World} {p g c B : Nat} {F : Foot} {l : List Hd} (h : TabG w p g c F B l) (hB : B ≤ 1000) :
  Calls Tryz.prog 28 #[.pointer (some ⟨p, 0, none⟩)] w fun e w' => ∃ q k, e = .returned (.slice (some ⟨q, 0, none⟩) B k) ∧ w.heap.size ≤ q ∧ B ≤ k ∧ RowAt w' q 107 (hdCs l) ∧ Below w.heap.size w w' := by
 have hb := below_alloc w (.cells #[] 107)
 have ho := World.ownsRow_lit (base := w.heap.size) (e := 107) (size := 3) w #[] 0 (Nat.le_refl _) (by unfold maxLen; omega) rfl
 have HC := LH (h.row.cells.below hb (Nat.le_refl _))
 have c2 : (w.alloc (.cells #[] 107)).cell? ⟨p, 2, none⟩ = some (.slice (some ⟨g, 0, none⟩) B c) := by rw [hb.cell (p := ⟨p, 2, none⟩) h.lt.1]; exact cell_of_row _ _ 2 _ _ _ h.head
 have HL : Hid ((hdCs l).length = B * 3) := LH (by rw [hdCs_length, h.len, Nat.mul_comm])
 have HO := LH ho
 have HB := LH hb
 have hone : Hid (∀ u ∈ hdCs l, u.oneCell' = true) := LH (hdCs_one l)
 have hbase := LH hb.size
 have hn9 : 0 + B < 1000000000000 := by omega
 clear hb ho h
 go_enter Tryz.func28, Tryz.ntmps28
 go_wp2_with (at_builtin; refine wpList_append_cells elHd HO.out HC.out HL.out hone.out hn9 (by decide) hbase.out rfl rfl rfl rfl ?_; intro v2 w2 ho2 hg2 hv2; have HO2 := LH ho2; have HG2 := LH hg2; have HV2 := LH hv2; clear ho2 hg2 hv2)
 go_ret
 have h2 := HO2.out
 rw [Nat.zero_add] at h2
 obtain ⟨q, k, rfl, h3, h4, h5, h6⟩ := owned_new h2 (fun e => by have := (HV2.out e).1; simp at this)
 exact ⟨q, k, rfl, h3, h4, by simpa using h6, below_grownBy HB.out HO.out HG2.out (Nat.le_refl _) (Nat.le_refl _)⟩
end Go.Proofs.YtpohaahihdhleaaGreat
namespace Go.Proofs.YtpohaahihdhleaaGreat
structure FL where
 g : Nat → List Nat
 c : Nat → Nat → List Nat
def FL.empty : FL := ⟨fun _ => [], fun _ _ => []⟩
def FL.setG (S : FL) (k : Nat) (l : List Nat) : FL := ⟨fun j => if j = k then l else S.g j, S.c⟩
def FL.has (S : FL) (k a : Nat) : Bool := (S.g k).contains a || (S.c 0 k).contains a || (S.c 1 k).contains a || (S.c 2 k).contains a || (S.c 3 k).contains a
def FL.pushed (S : FL) (k a : Nat) : FL := if S.has k a then S else S.setG k (S.g k ++ [a])
theorem FL.setG_g (S : FL) (k j : Nat) (l : List Nat) : (S.setG k l).g j = if j = k then l else S.g j := rfl
theorem FL.setG_c (S : FL) (k i j : Nat) (l : List Nat) : (S.setG k l).c i j = S.c i j := rfl
def FL.carve (S : FL) (used : Nat → Bool) (at_ : Nat → Nat) (k : Nat) : Nat → FL
 | 0 => S
 | n + 1 => (if used (at_ n) then S else S.pushed k (at_ n)).carve used at_ k n
theorem sorted_same : ∀ {x y : List Nat}, x.Pairwise (· ≤ ·) → y.Pairwise (· ≤ ·) → (∀ a, x.count a = y.count a) → x = y := by
 intro x y hx hy h
 have hp : x.Perm y := List.perm_iff_count.2 h
 exact hp.eq_of_pairwise (fun a b _ _ h1 h2 => Nat.le_antisymm h1 h2) hx hy
end Go.Proofs.YtpohaahihdhleaaGreat
namespace Go.Proofs.YtpohaahihdhleaaGreat
open Go.RowKit
structure MF where
 m : Nat
 t : Nat
 g : Nat
 c : Nat
 F : Foot
 T : Tri
def MF.list (X : MF) : List Nat := X.m :: X.t :: X.T.p :: X.g :: X.T.s :: X.T.e :: X.F.list
def MF.hot (X : MF) : List Nat := X.g :: X.T.s :: X.T.e :: X.F.list
structure Bm where
 dev : Dev
 list : List Hd
 free : List Bool
structure ManAt (w : World) (X : MF) (n B : Nat) (m : Bm) : Prop where
 head : w.heap[X.m]? = some (.cells #[.pointer (some ⟨X.t, 0, none⟩), .pointer (some ⟨X.T.p, 0, none⟩), .int .i64 (B : Int)] 87 (0, 0))
 tab : TabG w X.t X.g X.c X.F B m.list
 dev : DevAt w X.F m.dev
 ix : IxAt w X.T n m.free
 lenF : m.free.length = B
 nd : X.list.Nodup
theorem ManAt.mem {w : World} {X : MF} {n B : Nat} {m : Bm} (h : ManAt w X n B m) : ∀ k ∈ X.list, k < w.heap.size := by
 intro k hk
 have h1 := h.ix.mem
 simp only [Tri.list, List.mem_cons, List.not_mem_nil, or_false, forall_eq_or_imp, forall_eq] at h1
 simp only [MF.list, List.mem_cons] at hk
 rcases hk with rfl | rfl | rfl | rfl | rfl | rfl | hk
 ·exact (Array.getElem?_eq_some_iff.1 h.head).1
 ·exact h.tab.lt.1
 ·exact h1.1
 ·exact h.tab.lt.2
 ·exact h1.2.1
 ·exact h1.2.2
 ·exact h.dev.mem k hk
theorem ManAt.keep {w w' : World} {X : MF} {n B : Nat} {m : Bm} (h : ManAt w X n B m) (hk : ∀ k ∈ X.list, w'.heap[k]? = w.heap[k]?) : ManAt w' X n B m := by
 have e : ∀ k ∈ X.F.list, k ∈ X.list := fun k hk => by simp only [MF.list, List.mem_cons]; simp [hk]
 have e2 : ∀ k ∈ X.T.list, k ∈ X.list := fun k hk => by
  simp only [Tri.list, List.mem_cons, List.not_mem_nil, or_false] at hk
  simp only [MF.list, List.mem_cons]
  rcases hk with rfl | rfl | rfl <;> simp
 exact ⟨(hk X.m (by simp [MF.list])).trans h.head, h.tab.keep (hk X.t (by simp [MF.list])) (hk X.g (by simp [MF.list])), h.dev.keep (fun k hk' => hk k (e k hk')), h.ix.keep (fun k hk' => hk k (e2 k hk')), h.lenF, h.nd⟩
theorem ManAt.below {w w' : World} {X : MF} {n B : Nat} {m : Bm} (h : ManAt w X n B m) (hb : Below w.heap.size w w') : ManAt w' X n B m := h.keep (fun k hk => hb.block k (h.mem k hk))
theorem ManAt.mono {w : World} {X : MF} {n n' B : Nat} {m : Bm} (h : ManAt w X n B m) (hn : n ≤ n') : ManAt w X n' B m := by
 obtain ⟨M, E, h1, h2⟩ := h.ix
 exact { h with ix := ⟨M, E, h1.mono hn, h2⟩ }
structure MF.Apart (X : MF) : Prop where
 m : X.m ∉ X.hot
 t : X.t ∉ X.hot
 p : X.T.p ∉ X.hot
 g : X.g ∉ X.F.list
 gs : X.g ≠ X.T.s
 ge : X.g ≠ X.T.e
 s : X.T.s ∉ X.F.list
 e : X.T.e ∉ X.F.list
theorem MF.apart {X : MF} (h : X.list.Nodup) : X.Apart := by
 simp only [MF.list, List.nodup_cons, List.mem_cons, not_or] at h
 obtain ⟨⟨m1, m2, m3, m4, m5, m6⟩, ⟨t1, t2, t3, t4, t5⟩, ⟨p1, p2, p3, p4⟩, ⟨g1, g2, g3⟩, ⟨s1, s2⟩, e1, _⟩ := h
 refine ⟨?_, ?_, ?_, g3, g1, g2, s2, e1⟩
 all_goals simp only [MF.hot, List.mem_cons, not_or]
 ·exact ⟨m3, m4, m5, m6⟩
 ·exact ⟨t2, t3, t4, t5⟩
 ·exact ⟨p1, p2, p3, p4⟩
theorem MF.hot_sub {X : MF} {k : Nat} (h : k ∈ X.hot) : k ∈ X.list := by
 simp only [MF.hot, List.mem_cons] at h
 simp only [MF.list, List.mem_cons]
 rcases h with h | h | h | h <;> simp [h]
theorem MF.notHot {X : MF} {k : Nat} (h : k ∉ X.hot) : k ≠ X.g ∧ k ≠ X.T.s ∧ k ≠ X.T.e ∧ k ∉ X.F.list := by simpa only [MF.hot, List.mem_cons, not_or] using h
theorem ManAt.c0 {w : World} {X : MF} {n B : Nat} {m : Bm} (h : ManAt w X n B m) : w.cell? ⟨X.m, 0, none⟩ = some (.pointer (some ⟨X.t, 0, none⟩)) := cell_of_row _ _ 0 _ _ _ h.head
theorem ManAt.c1 {w : World} {X : MF} {n B : Nat} {m : Bm} (h : ManAt w X n B m) : w.cell? ⟨X.m, 1, none⟩ = some (.pointer (some ⟨X.T.p, 0, none⟩)) := cell_of_row _ _ 1 _ _ _ h.head
theorem ManAt.c2 {w : World} {X : MF} {n B : Nat} {m : Bm} (h : ManAt w X n B m) : w.cell? ⟨X.m, 2, none⟩ = some (.int .i64 (B : Int)) := cell_of_row _ _ 2 _ _ _ h.head
section
variable {P : Program} {C : World → Prop} {ops : Array Oper} {rest : List Oper} {o : Oper} {a : Act} {Q : Act → Prop}
theorem wpQuiet_slice_from {x lo : Operand} {t e : TypeId} {z : Value} {size bytes : Nat} (E : Elem P t e z size bytes) {ad : Option Addr} {n cap : Nat} {k : IntKind} {L : Int} (l : Nat)
  (hL : L = (l : Int)) (hl : l ≤ n) (hn : n ≤ cap)
  (hgd : o.guard = none) (ho : o.op = .slice t x (some lo) none none) (hx : a.eval x = .slice ad n cap) (hlo : a.eval lo = .int k L)
  (hK : wpQuiet P ops C Q rest (a.put o.dst (.slice (if cap = l then ad else ad.map (·.add (l * size))) (n - l) (cap - l)))) :
  wpQuiet P ops C Q (o :: rest) a := by
 subst hL
 have hw : Region.wanted o (yielded ops a.tmps) = true := by simp [Region.wanted, hgd]
 unfold wpQuiet
 rw [if_pos hw]
 refine ⟨_, fun w hC => ?_, hK⟩
 have hr := run_slice_any (w := w) E ad n cap l n (some (.int k l)) none (by
  have : (0 : Int) ≤ (l : Int) ∧ (l : Int) ≤ (n : Int) := by omega
  simp [Instr.sliceBounds, Instr.sliceBound, asIntOf, hl])
 unfold Oper.quietAt
 simp only [execOp, ho, hx, hlo, Option.map_some, Option.map_none]
 simp [hr, Result.andThen, Oper.quietUpon]
end
theorem aggGe : Agg Tryz.prog 44 #[.int .i64 0] := ⟨⟨_, Tryz.underlying44, rfl⟩, by kernel_rfl⟩
set_option maxHeartbeats 1000000 in
theorem bgeom_any {w : World} {X : MF} {n B : Nat} {m : Bm} (h : ManAt w X n B m) :
  Calls Tryz.prog 115 #[.pointer (some ⟨X.m, 0, none⟩)] w fun e w' => e = .returned (vgeom (B : Int)) ∧ Below w.heap.size w w' := by
 have HM := LH (Mem.one w #[.int .i64 0] 44)
 have c2 := (h.below HM.out.below).c2
 clear h
 unfold vgeom
 go_enter Tryz.func115, Tryz.ntmps115
 go_upto_region 1 with fail
 generalize w.alloc _ = w0 at *
 obtain ⟨q, hq⟩ : ∃ q, q = w.heap.size := ⟨_, rfl⟩
 rw [← hq] at HM ⊢
 have HQ := LH hq
 clear hq
 go_wp2_with (refine wpList_store_mem aggGe HM.out 0 rfl rfl rfl rfl rfl rfl rfl rfl ?_; intro w9 h9 _; have H9 := LH h9; clear h9)
 refine bodyPost_ret (results_cell_row rfl _ _ _ _ _ _ _ rfl (H9.out.exact 0 rfl) Tryz.underlying44 rfl (by kernel_rfl)) rfl ⟨rfl, H9.out.below⟩
set_option maxHeartbeats 1000000 in
theorem bfree_any {w : World} {X : MF} {n B : Nat} {m : Bm} (h : ManAt w X n B m) (hB : B ≤ 1000) :
  Calls Tryz.prog 24 #[.pointer (some ⟨X.m, 0, none⟩)] w fun e w' => e = .returned (.int .i64 (sumOf (runsOf m.free) : Nat)) ∧ Below w.heap.size w w' := by
 have c1 := h.c1
 have HI := LH (total_any h.ix (by rw [h.lenF]; omega))
 clear h
 go_enter Tryz.func24, Tryz.ntmps24
 go_wp2_with fail
 refine HI.out.mono ?_
 rintro e w1 ⟨rfl, hb1⟩
 go_wp2_with fail
 go_ret
 exact ⟨rfl, hb1⟩
end Go.Proofs.YtpohaahihdhleaaGreat
