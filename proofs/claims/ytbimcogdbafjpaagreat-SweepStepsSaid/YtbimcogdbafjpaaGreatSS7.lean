/- Parts of the proof, one behind the other: Fc, Fd, So, Fe, Em, Ff, Df, Fg, Fh, Ye, Rs, Rt, Ru, Rv, Rw, Ua, Dl, Ub, Yo, Lp. -/
import Derived.Test.YtbimcogdbafjpaaGreatSS6
import Derived.WideKeyEntry
import Derived.Shelf.Sort.Plain
import Derived.Shelf.Slices.In.SortNone
import Derived.Test.YtbimcogdbafjpaaGreatProg
import Derived.Shelf.SlicesE.DeleteFunc
import Derived.Lib.SliceRun
import Derived.Deep.CutBlock
import Derived.ChangeKeysEq
import Derived.Laws.StructEq
import Derived.Deep.QuietTactic
import Derived.BigQuiet
set_option linter.unusedVariables false
namespace Go.Proofs.YtbimcogdbafjpaaGreat
open Go.Maps Go.ChangeMaps Go.MapKept Go.WideElems
section
variable {P : Program} {k e t : TypeId} {w : World} {b n : Nat} {M : Lit → Option Value}
theorem ventry_store_at {es : Array MapEntry} {clock j : Nat} {e0 : MapEntry} (hb : w.heap[b]? = some (.map es clock)) (hn : (es.toList.map (·.born)).Nodup) (hj : es.toList[j]? = some e0) (val : Value) :
  (Instr.entryStore t (.map (some b)) (goInt e0.born) val).run P w = .ok () (setBlock w b (.map (es.modify j fun e => { e with val := val }) clock)) := by
 have hidx : es.findIdx? (fun e => ((e.born : Nat) : Int) == ((e0.born : Nat) : Int)) = some j := by
  rw [findIdx_arr]; exact findIdx_born hn hj
 simp [Instr.entryStore, MapKept.run_getObj_map hb, asInt, asIntOf, goInt, hidx, MapKept.run_setObj_map _ hb, Result.andThen, setBlock]
def VPend (P : Program) (k t : TypeId) (w : World) (b n : Nat) (M : Lit → Option Value) (kl : Lit) (st : Nat) : Prop :=
 ∃ (es1 : Array MapEntry) (clock1 : Nat), w.heap[b]? = some (.map es1 clock1) ∧
  ∀ (w2 : World) (c : Value), w2.heap[b]? = some (.map es1 clock1) → ∃ es' clock', (Instr.entryStore t (.map (some b)) (goInt st) c).run P w2 = .ok () (setBlock w2 b (.map es' clock')) ∧
   VMap P k (setBlock w2 b (.map es' clock')) b (n + 1) (putL M kl (some c))
theorem vmap_entry (h : VMap P k w b n M) (K : Keyed P k) (ht : P.underlying t = some (.map k e)) {z : Value} (hz : ∀ u : World, (zeroValue e).run P u = .ok z u) (hn : n < maxLen) {key : Value} {kl : Lit} (hkey : keyOf P k key = some kl) :
  ∃ (st : Nat) (w1 : World), (Instr.mapEntry t (.map (some b)) key).run P w = .ok (.tuple #[(M kl).getD z, goInt st]) w1 ∧ VPend P k t w1 b n M kl st ∧ w.grownBy w1 (some b) := by
 have hgs : ∀ (x : Obj), w.grownBy (setBlock w b x) (some b) := fun x =>
  ⟨rfl, rfl, rfl, by simp [setBlock], fun i hi hne => by
   have : i ≠ b := fun e => hne (by rw [e])
   simp [setBlock, Ne.symm this]⟩
 have hlk := h.look K ht (hz w) hkey
 have hlt := h.lt
 obtain ⟨D, ho, hT⟩ := h
 have hup : ∀ c : Value, ∃ w', (Instr.mapUpdate t (.map (some b)) key c).run P w = .ok () w' ∧ VMap P k w' b (n + 1) (putL M kl (some c)) := fun c => by
  obtain ⟨w', h1, h2, _⟩ := ho.update K ht hn hkey (val := c) (d := .held c) (ps := []) rfl
  exact ⟨w', h1, _, h2, hT.put (K.key hkey) c⟩
 have hmove : ∀ (w2 : World) (c : Value) (es' : Array MapEntry) (clock' : Nat) (e2 : Array MapEntry) (c2 : Nat), w2.heap[b]? = some (.map e2 c2) →
   (Instr.mapUpdate t (.map (some b)) key c).run P w = .ok () (setBlock w b (.map es' clock')) → VMap P k (setBlock w2 b (.map es' clock')) b (n + 1) (putL M kl (some c)) := by
  intro w2 c es' clock' e2 c2 h2 hrun
  obtain ⟨w', h3, h4⟩ := hup c
  rw [hrun] at h3
  injection h3 with _ h5
  rw [← h5] at h4
  obtain ⟨es, clock, hb, _⟩ := ho
  exact h4.block ((heap_setBlock_same h2 _).trans (heap_setBlock_same hb _).symm)
 obtain ⟨es, clock, hb, F, _, _⟩ := ho
 obtain ⟨s1, s2, _⟩ := F.stamped
 rcases K.find w hkey es.toList F.keys with ⟨h1, h2⟩ | ⟨j, e0, h1, h2, h3⟩
 ·have hlast : (es.push ⟨key, z, clock⟩).toList[es.size]? = some ⟨key, z, clock⟩ := by simp
  have hnd : ((es.push ⟨key, z, clock⟩).toList.map (·.born)).Nodup := by
   rw [Array.toList_push, List.map_append]
   refine List.nodup_append.2 ⟨s2, by simp, fun a ha c hc e => ?_⟩
   obtain ⟨x, hx, rfl⟩ := List.mem_map.1 ha
   have := s1 x hx
   simp at hc; omega
  have hv : (M kl).getD z = z := by
   simp [Instr.lookup, run_underlying ht, MapKept.run_getObj_map hb, K.check w es.isEmpty hkey, h1, hz, Result.andThen] at hlk
   exact hlk.symm
  refine ⟨clock, _, ?_, ⟨_, clock + 1, heap_setBlock_same hb _, fun w2 c hw2 => ⟨_, _, ventry_store_at hw2 hnd hlast _, hmove w2 c _ _ _ _ hw2 ?_⟩⟩, hgs _⟩
  ·rw [hv]
   simp [Instr.mapEntry, run_underlying ht, MapKept.run_getObj_map hb, K.check w false hkey, h1, hz, MapKept.run_setObj_map _ hb, Result.andThen, setBlock]
  ·have hmod : (es.push ⟨key, z, clock⟩).modify es.size (fun e => { e with val := c }) = es.push ⟨key, c, clock⟩ := by
    apply Array.ext'
    rw [Array.toList_modify, Array.toList_push, Array.toList_push, ← Array.length_toList, modify_last]
   rw [hmod]
   simp [Instr.mapUpdate, run_underlying ht, MapKept.run_getObj_map hb, K.check w false hkey, h1, MapKept.run_setObj_map _ hb, Result.andThen, setBlock]
 ·have hj : es[j]? = some e0 := by simpa using h2
  have hsame : es.modify j (fun e => { e with key := key }) = es := by
   apply Array.ext'
   rw [Array.toList_modify, modify_eq_set _ _ _ _ h2, show ({ e0 with key := key } : MapEntry) = e0 by rw [← h3]]
   exact set_self _ _ _ h2
  have hv : (M kl).getD z = e0.val := by
   simp [Instr.lookup, run_underlying ht, MapKept.run_getObj_map hb, K.check w es.isEmpty hkey, h1, Result.andThen] at hlk
   exact hlk.symm
  refine ⟨e0.born, _, ?_, ⟨es, clock, heap_setBlock_same hb _, fun w2 c hw2 => ⟨_, _, ventry_store_at hw2 s2 h2 _, hmove w2 c _ _ _ _ hw2 ?_⟩⟩, hgs _⟩
  ·rw [hv]
   simp [Instr.mapEntry, run_underlying ht, MapKept.run_getObj_map hb, K.check w false hkey, h1, hj, h3, K.stays w hkey, hsame, MapKept.run_setObj_map _ hb, Result.andThen, setBlock]
  ·have hmod : es.modify j (fun e => { e with val := c }) = es.modify j (fun e' => { e' with key := key, val := c }) := by
    apply Array.ext'
    rw [Array.toList_modify, Array.toList_modify, modify_eq_set _ _ _ _ h2, modify_eq_set _ _ _ _ h2, ← h3]
   rw [hmod]
   simp [Instr.mapUpdate, run_underlying ht, MapKept.run_getObj_map hb, K.check w false hkey, h1, hj, h3, K.stays w hkey, MapKept.run_setObj_map _ hb, Result.andThen, setBlock]
theorem VPend.block {kl : Lit} {st : Nat} (h : VPend P k t w b n M kl st) {w' : World} (he : w'.heap[b]? = w.heap[b]?) : VPend P k t w' b n M kl st := by
 obtain ⟨es1, clock1, h1, h2⟩ := h
 exact ⟨es1, clock1, he.trans h1, h2⟩
variable {ops : Array Oper} {rest : List Oper} {o : Oper} {a : Act} {Q : Exit → Act → World → Prop}
theorem wpList_ventry (hg : o.guard = none) (m x : Operand) (t : TypeId) (hop : o.op = Op.mapEntry t m x)
  (k e : TypeId) (K : Keyed P k) (ht : P.underlying t = some (.map k e)) (z : Value) (hz : ∀ u : World, (zeroValue e).run P u = .ok z u) (b n : Nat) (M : Lit → Option Value)
  (hm : a.eval m = .map (some b)) (hown : VMap P k w b n M) (hn : n < maxLen) (key : Value) (kl : Lit) (hx : a.eval x = key) (hkey : keyOf P k key = some kl)
  (hK : ∀ w' st, VPend P k t w' b n M kl st → w.grownBy w' (some b) → wpList P ops Q rest (a.put o.dst (.tuple #[(M kl).getD z, goInt st])) w') :
  wpList P ops Q (o :: rest) a w := by
 refine wpList_plain hg fun K' hK' => ?_
 obtain ⟨st, w1, h1, h2, h3⟩ := vmap_entry hown K ht hz hn hkey
 unfold Oper.wp
 simp [execOp, hop, hm, hx, h1, Result.andThen]
 exact hK' _ _ (hK _ st h2 h3)
theorem wpList_ventryStore (hg : o.guard = none) (m s x : Operand) (t : TypeId) (hop : o.op = Op.entryStore t m s x)
  (k : TypeId) (b n : Nat) (M : Lit → Option Value) (kl : Lit) (st : Nat) (c : Value)
  (hm : a.eval m = .map (some b)) (hs : a.eval s = goInt st) (hx : a.eval x = c) (hp : VPend P k t w b n M kl st)
  (hK : ∀ w', VMap P k w' b (n + 1) (putL M kl (some c)) → w.grownBy w' (some b) → wpList P ops Q rest (a.put o.dst undef) w') :
  wpList P ops Q (o :: rest) a w := by
 refine wpList_plain hg fun K' hK' => ?_
 obtain ⟨es1, clock1, h1, h2⟩ := hp
 obtain ⟨es', clock', h3, h4⟩ := h2 w c h1
 have hgs : w.grownBy (setBlock w b (.map es' clock')) (some b) :=
  ⟨rfl, rfl, rfl, by simp [setBlock], fun i hi hne => by
   have : i ≠ b := fun e => hne (by rw [e])
   simp [setBlock, Ne.symm this]⟩
 unfold Oper.wp
 simp [execOp, hop, hm, hs, hx, h3, Result.andThen]
 exact hK' _ _ (hK _ h4 hgs)
end
end Go.Proofs.YtbimcogdbafjpaaGreat
namespace Go.Proofs.YtbimcogdbafjpaaGreat
open Go.RowKit Go.Maps
theorem Cells.touchM {w w' : World} {a : Option Addr} {vs : List Value} {L : List Nat} (h : Cells w a vs) (ht : Touch L w w') (hne : ∀ x, a = some x → x.block < w.heap.size → x.block ∉ L) : Cells w' a vs := by
 rcases h with h | ⟨b, off, rfl, h⟩
 ·exact .inl h
 ·exact .inr ⟨b, off, rfl, fun i v hi => cell_of_touch ht (show (⟨b, off + i, none⟩ : Addr).block ∉ L from hne ⟨b, off, none⟩ rfl (show b < w.heap.size from World.block_lt_of_cell? w ⟨b, off + i, none⟩ (h i v hi))) (h i v hi)⟩
theorem step_ca {w w1 : World} {f mb n n' : Nat} {R : List Nat} {V : Nat → Value} {S : FL} {m k : Nat} {v : Value} {xs : List Nat} (hi : FreeIn w f mb n V S) (hm : m < 4) (hk : k < 32)
  (h1 : f ∈ R) (h2 : mb ∈ R) (h3 : ∀ b ∈ R, b < w.heap.size) {M : Lit → Option Value} (hM : ∀ m k : Nat, m < 4 → k < 32 → (M (pairKey m k)).getD (.slice none 0 0) = V (slotI m k))
  (hb : ∀ b, b < w.heap.size → b ≠ mb → rowOf (V (slotI m k)) ≠ some b → w1.heap[b]? = w.heap[b]?) (hsz : w.heap.size ≤ w1.heap.size)
  (hw : VMap Tryz.prog 288 w1 mb n' (putL M (pairKey m k) (some v))) (hv : OwnI w1 v xs) (hrow : ∀ b, rowOf v = some b → rowOf (V (slotI m k)) = some b ∨ w.heap.size ≤ b) :
  Step1 w w1 f mb n' V S (S.setC m k xs) (slotI m k) v xs := by
 have hfl := h3 f h1
 have hsl : slotI m k < 160 := by unfold slotI; omega
 refine ⟨?_, ⟨_, hw, fun m' k' hm' hk' => ?_⟩, hv, hrow, fun b hbl h5 h6 h7 => hb b hbl h6 h7, hsz, fun j hj => ?_⟩
 ·rw [hb f hfl hi.ne (hi.neF _ hsl).1, hi.head]
  have : (List.range 32).map (fun j => if j = slotI m k then v else V j) = (List.range 32).map V := List.map_congr_left (fun j hj => by
   have := List.mem_range.1 hj
   rw [if_neg (by unfold slotI; omega)])
  rw [this]
 ·by_cases e : m' = m ∧ k' = k
  ·obtain ⟨rfl, rfl⟩ := e
   rw [putL_same, if_pos rfl]; rfl
  ·rw [putL_other _ (fun c => e (by
    have := key_inj (wf_small m' (by omega)) (wf_small k' (by omega)) (wf_small m (by omega)) (wf_small k (by omega)) c
    omega)), hM m' k' hm' hk', if_neg (by unfold slotI; omega)]
 ·unfold FL.at
  simp only [FL.setC_g, FL.setC_c]
  by_cases e : j < 32
  ·rw [if_pos e, if_pos e, if_neg (by unfold slotI; omega)]
  ·rw [if_neg e, if_neg e]
   by_cases e2 : (j - 32) / 32 = m ∧ (j - 32) % 32 = k
   ·rw [if_pos e2, if_pos (by unfold slotI; omega)]
   ·rw [if_neg e2, if_neg (by unfold slotI; omega)]
def PutI (w : World) (f mb n : Nat) (R : List Nat) (S : FL) (m k a : Nat) : Ending → World → Prop := fun e w' => e = .returned (.int .i64 (if S.has k a then 41 else 0)) ∧ FreeGo w w' f mb n R (S.put m k a)
set_option maxHeartbeats 4000000 in
set_option maxRecDepth 20000 in
theorem fput_any {w : World} {f mb n : Nat} {R : List Nat} {S : FL} (h : FreeAt w f mb n R S) (hL : S.upto 900000) (hn : n < 1000000000000) (m k a : Nat) (hm4 : m < 4) (hk : k < 32) :
  Calls Tryz.prog 160 #[vfree f, .int .i64 (m : Int), .int .i64 (k : Int), .int .i64 (a : Int)] w (PutI w f mb (n + 2) R S m k a) := by
 have HMem := LH (Mem.one w #[.int .i64 (m : Int), .int .i64 (k : Int)] 288)
 have HF0 := LH (h.below HMem.out.below)
 have HF := LH h
 have HHas := LH (fhas_any h (hL.mono (by omega)) k a hk)
 have HRlt := LH h.mem
 have HUp := LH hL
 have HP : Hid (∀ x w', x = (if S.has k a then 41 else 0) → FreeGo w w' f mb (n + 2) R (S.put m k a) → PutI w f mb (n + 2) R S m k a (.returned (.int .i64 x)) w') := LH (fun x w' h1 h2 => by subst h1; exact ⟨rfl, h2⟩)
 generalize PutI w f mb (n + 2) R S m k a = Post at *
 clear h hL
 go_enter Tryz.func160, Tryz.ntmps160
 go_wp2_with fail
 refine (fright_any m k hm4 hk _).mono ?_
 rintro e w1 ⟨rfl, rfl⟩
 go_wp2_with fail
 refine HHas.out.mono ?_
 rintro e w1 ⟨rfl, rfl⟩
 cases hh : S.has k a with
 | true =>
  have HE : Hid (41 = (if S.has k a then (41 : Int) else 0) ∧ FreeGo w w f mb (n + 2) R (S.put m k a)) := LH ⟨by rw [hh]; rfl, by unfold FL.put; rw [hh]; exact (FreeGo.refl HF.out).mono (by omega)⟩
  clear hh
  go_wp2_with fail
  exact HP.out _ _ HE.out.1 HE.out.2
 | false =>
 have HE0 : Hid (0 = (if S.has k a then (41 : Int) else 0)) := LH (by rw [hh]; rfl)
 obtain ⟨T, hT⟩ : ∃ T, T = S.c m k ++ [a] := ⟨_, rfl⟩
 have HPut : Hid (S.put m k a = if 8 < T.length then (S.setG k (S.g k ++ T.take (T.length / 2))).setC m k (T.drop (T.length / 2)) else S.setC m k T) := LH (by unfold FL.put; rw [hh, hT]; rfl)
 have HT := LH hT
 clear hh hT
 go_upto_region 6 with fail
 have HW0 := LH (below_alloc w (Obj.cells #[.int .i64 (m : Int), .int .i64 (k : Int)] 288))
 generalize w.alloc _ = w0 at *
 obtain ⟨q, hq⟩ : ∃ q, q = w.heap.size := ⟨_, rfl⟩
 rw [← hq] at HMem HRlt ⊢
 have HQ := LH hq
 clear hq
 obtain ⟨V, hfv⟩ := HF0.out.v
 have HFV := LH hfv
 clear hfv
 obtain ⟨sl, hsl⟩ : ∃ sl, sl = slotI m k := ⟨_, rfl⟩
 have hsl160 : Hid (sl < 160 ∧ 32 ≤ sl) := LH (by rw [hsl]; unfold slotI; omega)
 have HSl := LH hsl
 have HLs : Hid ((S.c m k).length ≤ 900000) := LH (by have := HUp.out (slotI m k) (by unfold slotI; omega); rwa [S.at_c m hk] at this)
 have HLg : Hid ((S.g k).length ≤ 900000) := LH (by have := HUp.out k (by omega); rwa [S.at_g hk] at this)
 have HOs : Hid (OwnI w0 (V sl) (S.c m k)) := LH (by have := HFV.out.inn.rows (slotI m k) (by unfold slotI; omega); rwa [S.at_c m hk, ← hsl] at this)
 clear hsl
 have hkey := key_slot (m : Int) (k : Int) (wf_small m (by omega)) (wf_small k (by omega))
 have hqn : q ∉ mb :: (rowOf (V sl)).toList := fun hm => by
  rcases List.mem_cons.1 hm with e | e
  ·exact Nat.lt_irrefl _ (by have := HRlt.out mb HFV.out.mb; rw [← e] at this; exact this)
  ·exact Nat.lt_irrefl q (HRlt.out q (HFV.out.rows sl hsl160.out.1 q (by simpa using e)))
 have hfn : f ∉ mb :: (rowOf (V sl)).toList := fun hm => by
  rcases List.mem_cons.1 hm with e | e
  ·exact HFV.out.inn.ne e
  ·exact (HFV.out.inn.neF sl hsl160.out.1).1 (by simpa using e)
 have r0 := fun x => near_cell (L := mb :: (rowOf (V sl)).toList) (HMem.out.cell 0 0 rfl rfl) hqn x
 have r1 := fun x => near_cell (L := mb :: (rowOf (V sl)).toList) (HMem.out.cell 0 1 rfl rfl) hqn x
 have r2 := fun x => near_cell (L := mb :: (rowOf (V sl)).toList) HFV.out.inn.m hfn x
 have hC1 : ∃ x : Near (mb :: (rowOf (V sl)).toList) w0, w0.drew = x.val := near_of (Touch.ofBelow (later_below (later_drew w0)))
 have HD0 : Hid (Below w0.heap.size w0 w0.drew) := LH (later_below (later_drew w0))
 clear hqn hfn
 refine wp_region_seg (C := fun w' => ∃ x : Near (mb :: (rowOf (V sl)).toList) w0, w' = x.val) [.fl [0, 1, 2, 3, 4, 5], .sq [6] true, .sq [7] false, .fl [8, 10], .sq [9] true, .sq [11] false] (by kernel_rfl) (by kernel_rfl) (by intro c a d v w h; cases d <;> exact h) ?_
 simp only [segs, picks, List.getElem?_cons_succ, List.getElem?_cons_zero]
 refine wpSeg_fl hC1 ?_
 repeat (first | go_big_quiet_step (fail) | quiet_step (fail))
 refine wpQuiet_nil ?_
 clear r0 r1 r2
 generalize w0.drew = wd at *
 refine wpSeg_sq (fun K hK => ?_)
 go_wp2_with fail
 have hbn := below_alloc wd (.cells #[.int .i64 (a : Int)] 3)
 have HB2 : Hid (Below w0.heap.size w0 (wd.alloc (.cells #[.int .i64 (a : Int)] 3))) := LH (HD0.out.trans (hbn.mono HD0.out.size))
 have hC2 : ∃ x : Near (mb :: (rowOf (V sl)).toList) w0, wd.alloc (.cells #[.int .i64 (a : Int)] 3) = x.val := near_of (Touch.ofBelow HB2.out)
 have HC2 : Hid (Cells (wd.alloc (.cells #[.int .i64 (a : Int)] 3)) (some ⟨wd.heap.size, 0, none⟩) ([a].map vi)) := LH (RowAt.cells ⟨_, heap_alloc_new _ _, [], rfl⟩)
 have HQa : Hid (w0.heap.size ≤ wd.heap.size) := LH HD0.out.size
 have HQa2 : Hid (wd.heap.size < (wd.alloc (.cells #[.int .i64 (a : Int)] 3)).heap.size) := LH (by simp)
 clear hbn
 go_wp2_with fail
 refine hK _ _ (fun _ => hC2) ?_
 clear hK K
 obtain ⟨qa, hqa⟩ : ∃ qa, qa = wd.heap.size := ⟨_, rfl⟩
 rw [← hqa] at HC2 HQa HQa2 ⊢
 clear hqa
 generalize wd.alloc _ = we at *
 have HFe := LH (HFV.out.below HB2.out)
 obtain ⟨M, hm, hv⟩ := HFe.out.inn.map
 have HM := LH hm
 have HV := LH hv
 have HVi : Hid ((M (pairKey m k)).getD (.slice none 0 0) = V sl) := LH (by rw [HSl.out]; exact hv m k hm4 hk)
 have HNm : Hid (n < maxLen) := LH (by unfold maxLen; omega)
 clear hm hv
 refine wpSeg_sq (fun K hK => ?_)
 go_wp2_with (refine wpList_ventry rfl _ _ 252 rfl 288 35 keyed_slot Tryz.underlying252 _ zero_ints mb n M rfl HM.out HNm.out _ _ rfl hkey ?_; intro w3 st hp hg; have HPd := LH hp; have HG3 := LH hg; clear hp hg; rw [HVi.out])
 have HT3 : Hid (Touch (mb :: (rowOf (V sl)).toList) w0 w3) := LH ((Touch.ofBelow HB2.out).trans ((grown_touchO HG3.out).wide (by simp)))
 have hC3 := near_of HT3.out
 go_wp2_with fail
 refine hK _ _ (fun h => nomatch h) ?_
 clear hK K
 refine wpSeg_fl hC3 ?_
 repeat (first | go_big_quiet_step (fail) | quiet_step (fail))
 refine wpQuiet_nil ?_
 have hmbn : rowOf (V sl) ≠ some mb := (HFV.out.inn.neF sl hsl160.out.1).2
 have HO3 : Hid (OwnI w3 (V sl) (S.c m k)) := LH (HOs.out.keep (fun b hb => ((HG3.out.block b (Nat.lt_of_lt_of_le (HOs.out.lt b hb) HB2.out.size) (fun e => hmbn (by rw [hb]; exact e))).trans (HB2.out.block b (HOs.out.lt b hb)))))
 have HC3 : Hid (Cells w3 (some ⟨qa, 0, none⟩) ([a].map vi)) := LH (Cells.touchM HC2.out (grown_touchO HG3.out) (fun y hy _ hm => by
  cases hy
  have h1 := HFV.out.lt mb HFV.out.mb
  have h2 := HQa.out
  simp at hm
  omega))
 have HN1 : Hid ((S.c m k).length + 1 ≤ 1000000000000) := LH (by have := HLs.out; omega)
 refine wpSeg_sq (fun K hK => ?_)
 go_wp2_with (refine wpList_append_ownI (m := 1) HO3.out HC3.out rfl HN1.out rfl rfl rfl rfl ?_; intro v' w4 ho hg hr; have HO4 := LH ho; have HG4 := LH hg; have HR4 := LH hr; clear ho hg hr)
 have HT4 : Hid (Touch (mb :: (rowOf (V sl)).toList) w0 w4) := LH (HT3.out.trans ((grown_touchO HG4.out).wide (fun b hb => List.mem_cons_of_mem _ hb)))
 have hC4 := near_of HT4.out
 go_wp2_with fail
 refine hK _ _ (fun _ => hC4) ?_
 clear hK K
 have HPd4 : Hid (VPend Tryz.prog 288 252 w4 mb n M (pairKey m k) st) := LH (HPd.out.block (HG4.out.block mb (Nat.lt_of_lt_of_le (Nat.lt_of_lt_of_le (HFV.out.lt mb HFV.out.mb) HB2.out.size) HG3.out.size) (fun e => hmbn (e.symm))))
 refine wpSeg_last ?_
 go_wp2_with (refine wpList_ventryStore rfl _ _ _ 252 rfl 288 mb n M (pairKey m k) st v' rfl rfl rfl HPd4.out ?_; intro w5 hm5 hg5; have HM5 := LH hm5; have HG5 := LH hg5; clear hm5 hg5)
 have HB03 : Hid (∀ b, b < w0.heap.size → b ≠ mb → rowOf (V sl) ≠ some b → w5.heap[b]? = w0.heap[b]?) := LH (fun b hb h1 h2 => (HG5.out.block b (Nat.lt_of_lt_of_le hb HT4.out.size) (fun e => h1 (Option.some.inj e.symm).symm)).trans (HT4.out.block b hb (fun hm => by
  rcases List.mem_cons.1 hm with e | e
  ·exact h1 e
  ·exact h2 (by simpa using e))))
 have HO5 : Hid (OwnI w5 v' (S.c m k ++ [a])) := LH (HO4.out.keep (fun b hb => HG5.out.block b (HO4.out.lt b hb) (fun e => by
  rcases HR4.out b hb with c | c
  ·exact hmbn (by rw [c]; exact e)
  ·have h1 := Option.some.inj e
   have h2 := HFV.out.lt mb HFV.out.mb
   have h3 := HB2.out.size
   have h4 := HG3.out.size
   omega)))
 have hst := step_ca (v := v') (xs := S.c m k ++ [a]) HFV.out.inn hm4 hk HFV.out.f HFV.out.mb HFV.out.lt HV.out (fun b hb h1 h2 => HB03.out b hb h1 (by rw [HSl.out]; exact h2)) (Nat.le_trans HT4.out.size HG5.out.size) HM5.out HO5.out (fun b hb => by
  rcases HR4.out b hb with c | c
  ·exact .inl (by rw [← HSl.out]; exact c)
  ·exact .inr (by rw [c]; exact Nat.le_trans HB2.out.size HG3.out.size))
 have hos : w5.os = w0.os ∧ w5.tape = w0.tape ∧ w5.output = w0.output := ⟨HG5.out.os.trans HT4.out.os, HG5.out.tape.trans HT4.out.tape, HG5.out.output.trans HT4.out.output⟩
 rw [← HT.out] at hst
 have HFV5 := LH (HFV.out.step (by rw [← HSl.out]; exact hsl160.out.1) hst)
 have HT5 := LH (hst.touch HFV.out (by rw [← HSl.out]; exact hsl160.out.1) hos)
 have HGo5 : Hid (FreeGo w0 w5 f mb (n + 1) R (S.setC m k T)) := LH (hst.go HFV.out.inn (by rw [← HSl.out]; exact hsl160.out.1) HFV.out.f HFV.out.mb HFV.out.lt HFV.out.rows hos)
 have HRow5 : Hid (RowAt w5 q 288 [.int .i64 (m : Int), .int .i64 (k : Int)]) := LH ((HMem.out.at 0 rfl).keep (HB03.out q (HMem.out.glt 0 rfl) (fun e => Nat.lt_irrefl q (by have := HRlt.out mb HFV.out.mb; rw [← e] at this; exact this)) (fun e => Nat.lt_irrefl q (HRlt.out q (HFV.out.rows sl hsl160.out.1 q e)))))
 have HQl := LH (HMem.out.glt 0 rfl)
 obtain ⟨ao, co, eo, hco, hol, _, hon⟩ := HO5.out.cells2
 rw [← HT.out] at eo hco hol
 obtain ⟨V5, hV5⟩ : ∃ V5, V5 = fun j => if j = slotI m k then v' else V j := ⟨_, rfl⟩
 rw [← hV5] at HFV5
 obtain ⟨lo, hlo⟩ : ∃ lo, lo = T.length := ⟨_, rfl⟩
 rw [← hlo] at eo hol
 have HVo : Hid (V5 (slotI m k) = .slice ao lo co) := LH (by rw [hV5]; dsimp only; rw [if_pos rfl]; exact eo)
 have HVg : Hid (V5 k = V k) := LH (by rw [hV5]; dsimp only; rw [if_neg (by have := HSl.out; have := hsl160.out.2; omega)])
 have HLo := LH hlo
 have HTl : Hid (T.length ≤ 900001) := LH (by rw [HT.out]; simp; exact HLs.out)
 clear hst hos hco HC2 HM HVi HB2 HC3 HPd HG3 HO3 HG4 HO4 HPd4 HG5 HM5 hC1 hC2 hC3 hC4 HV hmbn HR4 HOs HQa HQa2 eo hV5 hlo
 go_upto_region 7 with fail
 have r0 := fun x => later_cell (HRow5.out.cell (i := 0) rfl) x
 have r1 := fun x => later_cell (HRow5.out.cell (i := 1) rfl) x
 have r2 := fun x => later_cell HFV5.out.inn.m x
 refine wp_region_seg (C := fun w' => ∃ x : Later (w5), w' = x.val) [.fl [0, 1, 2, 3, 4], .sq [5, 6] false] (by kernel_rfl) (by kernel_rfl) (by intro c a d v w h; cases d <;> exact h) ?_
 simp only [segs, picks, List.getElem?_cons_succ, List.getElem?_cons_zero]
 have hC1 := later_drew (w5)
 refine wpSeg_fl hC1 ?_
 repeat (first | go_big_quiet_step (fail) | quiet_step (fail))
 refine wpQuiet_nil ?_
 clear r0 r1 r2
 have HD6 : Hid (Below w5.heap.size w5 w5.drew) := LH (later_below hC1)
 generalize w5.drew = w6 at *
 have HFV6 := LH (HFV5.out.below HD6.out)
 obtain ⟨M, hm, hv⟩ := HFV6.out.inn.map
 have HM := LH hm
 have HVi : Hid ((M (pairKey m k)).getD (.slice none 0 0) = .slice ao lo co) := LH ((hv m k hm4 hk).trans HVo.out)
 have HRow6 := LH (HRow5.out.keep (HD6.out.block q HRow5.out.lt))
 clear hm hv
 by_cases h8 : 8 < lo
 case neg =>
  have HFin : Hid (FreeGo w w6 f mb (n + 2) R (S.put m k a)) := LH (by
   have e : S.put m k a = S.setC m k T := by rw [HPut.out, if_neg (by have := HLo.out; omega)]
   rw [e]
   exact ((HGo5.out.later HD6.out).mono (by omega)).own HQ.out HW0.out)
  have h8' : ¬ (8 : Int) < (lo : Int) := by omega
  clear h8
  refine wpSeg_last ?_
  go_wp2_with (refine wpList_vlook rfl _ _ 252 rfl 288 35 keyed_slot Tryz.underlying252 _ (zero_ints _) mb (n + 1) M rfl HM.out _ _ rfl hkey ?_; rw [HVi.out])
  exact HP.out _ _ HE0.out HFin.out
 case pos =>
 have h8' : (8 : Int) < (lo : Int) := by omega
 obtain ⟨hf, hhf⟩ : ∃ hf, hf = lo / 2 := ⟨_, rfl⟩
 have hw2 : wrap64 ((lo : Int) / 2) = (hf : Int) := by
  have h1 := HTl.out
  have h2 := HLo.out
  rw [Go.IntWalk.wrap64_in _ (by omega)]; omega
 have hfl : hf ≤ lo := by omega
 have HHf := LH hhf
 clear hhf
 refine wpSeg_last ?_
 go_upto_region 10 with (refine wpList_vlook rfl _ _ 252 rfl 288 35 keyed_slot Tryz.underlying252 _ (zero_ints _) mb (n + 1) M rfl HM.out _ _ rfl hkey ?_; rw [HVi.out])
 have HOo : Hid (OwnI w6 (.slice ao lo co) T) := LH (by
  have := HFV6.out.inn.rows (slotI m k) (by unfold slotI; omega)
  rw [FL.at_c _ m hk, FL.setC_c, if_pos ⟨rfl, rfl⟩, HVo.out] at this
  exact this)
 have HOg : Hid (OwnI w6 (V k) (S.g k)) := LH (by
  have := HFV6.out.inn.rows k (by omega)
  rw [FL.at_g _ hk, FL.setC_g, HVg.out] at this
  exact this)
 have ck := HFV6.out.inn.g hk
 rw [HVg.out] at ck
 have hfn : f ∉ (rowOf (V k)).toList := fun hm => (HFV.out.inn.neF k (by omega)).1 (by simpa using hm)
 have r0 := fun x => near_cell (L := (rowOf (V k)).toList) ck hfn x
 have hC1 : ∃ x : Near (rowOf (V k)).toList w6, w6.drew = x.val := near_of (Touch.ofBelow (later_below (later_drew w6)))
 have HD7 : Hid (Below w6.heap.size w6 w6.drew) := LH (later_below (later_drew w6))
 clear ck hfn
 refine wp_region_seg (C := fun w' => ∃ x : Near (rowOf (V k)).toList w6, w' = x.val) [.fl [0, 1, 2, 3, 4, 5, 6, 7, 8, 9, 10, 12, 13], .sq [11] true, .sq [14, 15] false] (by kernel_rfl) (by kernel_rfl) (by intro c a d v w h; cases d <;> exact h) ?_
 simp only [segs, picks, List.getElem?_cons_succ, List.getElem?_cons_zero]
 refine wpSeg_fl hC1 ?_
 repeat (first | (refine wpQuiet_slice_to el_int (ad := ao) (n := lo) (cap := co) hf rfl hfl hol rfl rfl rfl rfl ?_) | go_big_quiet_step (fail) | quiet_step (fail))
 refine wpQuiet_nil ?_
 clear r0
 generalize w6.drew = w7 at *
 have HOg7 : Hid (OwnI w7 (V k) (S.g k)) := LH (HOg.out.keep (fun b hb => HD7.out.block b (HOg.out.lt b hb)))
 have HCh : Hid (Cells w7 ao ((T.take hf).map vi)) := LH (by
  obtain ⟨a', c', e', hc', _⟩ := (HOo.out.keep (fun b hb => HD7.out.block b (HOo.out.lt b hb))).cells
  injection e' with e1 _ _
  rw [e1, List.map_take]
  exact hc'.take hf)
 have HTk : Hid ((T.take hf).length = hf) := LH (by rw [List.length_take]; have := HLo.out; omega)
 have HN2 : Hid ((S.g k).length + hf ≤ 1000000000000) := LH (by have := HLg.out; have := HTl.out; have := HLo.out; omega)
 refine wpSeg_sq (fun K hK => ?_)
 go_wp2_with (refine wpList_append_ownI (m := hf) HOg7.out HCh.out HTk.out HN2.out rfl rfl rfl rfl ?_; intro v8 w8 ho hg hr; have HO8 := LH ho; have HG8 := LH hg; have HR8 := LH hr; clear ho hg hr)
 have hC2 := near_of ((Touch.ofBelow HD7.out).trans (grown_touchO HG8.out))
 go_wp2_with fail
 refine hK _ _ (fun _ => hC2) ?_
 clear hK K
 have hst := step_g HFV6.out.inn hk HFV6.out.f HFV6.out.mb HFV6.out.lt HD7.out (by rw [HVg.out]; exact HG8.out) HO8.out (fun b hb => by
  rcases HR8.out b hb with c | c
  ·exact .inl (by rw [HVg.out]; exact c)
  ·exact .inr (by rw [c]; exact HD7.out.size))
 have hos : (w8.setCell ⟨f, k, none⟩ v8).os = w6.os ∧ (w8.setCell ⟨f, k, none⟩ v8).tape = w6.tape ∧ (w8.setCell ⟨f, k, none⟩ v8).output = w6.output := ⟨HG8.out.os.trans HD7.out.os, HG8.out.tape.trans HD7.out.tape, HG8.out.output.trans HD7.out.output⟩
 have HFV9 := LH (HFV6.out.step (by omega) hst)
 have HT9 := LH (hst.touch HFV6.out (by omega) hos)
 have HF1 : Hid (w8.heap[f]? = some (.cells ((List.range 32).map V5 ++ [Value.map (some mb)]).toArray 255 (0, 0))) := LH (by
  have := (HG8.out.block f (Nat.lt_of_lt_of_le (HFV6.out.lt f HFV6.out.f) HD7.out.size) (fun e => (HFV.out.inn.neF k (by omega)).1 e.symm)).trans (HD7.out.block f (HFV6.out.lt f HFV6.out.f))
  exact this.trans HFV6.out.inn.head)
 have fr : w8.frozen? ⟨f, k, none⟩ = false := frozen_of_row _ _ _ _ _ HF1.out
 have ck1 : w8.cell? ⟨f, k, none⟩ = some (V k) := (cell_of_row _ _ k _ _ _ HF1.out).trans ((HFV6.out.inn.lt hk).trans (congrArg some HVg.out))
 have HRow9 : Hid (RowAt (w8.setCell ⟨f, k, none⟩ v8) q 288 [.int .i64 (m : Int), .int .i64 (k : Int)]) := LH (HRow6.out.keep (HT9.out.1.block q HRow6.out.lt (fun hm => by
  rcases HT5.out.2 q hm with c | c
  ·exact Nat.lt_irrefl q (HRlt.out q c)
  ·exact absurd HQl.out (Nat.not_lt.2 c))))
 have HOo9 : Hid (OwnI (w8.setCell ⟨f, k, none⟩ v8) (.slice ao lo co) T) := LH (by
  have := HFV9.out.inn.rows (slotI m k) (by unfold slotI; omega)
  rw [FL.at_c _ m hk, FL.setG_c, FL.setC_c] at this
  rw [if_neg (show ¬ slotI m k = k by unfold slotI; omega), HVo.out, if_pos (show m = m ∧ k = k from ⟨rfl, rfl⟩)] at this
  exact this)
 obtain ⟨a', c', e', _⟩ := HO8.out.cells
 obtain ⟨l', hl'⟩ : ∃ l', l' = (S.g k ++ T.take hf).length := ⟨_, rfl⟩
 rw [← hl'] at e'
 subst e'
 clear hst hl' hos
 refine wpSeg_last ?_
 go_wp2_with fail
 generalize w8.setCell _ _ = w9 at *
 have hho : hf ≤ co := by omega
 have hon2 := HOo9.out.cells2
 obtain ⟨a9, c9, e9, hc9, _, _, hn9⟩ := hon2
 have HLTo := HLo.out
 rw [← HLTo] at e9
 injection e9 with e91 _ e93
 subst e91
 subst e93
 have HCo9 := LH hc9
 have HNil := LH hn9
 clear hc9 hn9 HLTo
 have r0 := fun x => later_cell (HRow9.out.cell (i := 0) rfl) x
 have r1 := fun x => later_cell (HRow9.out.cell (i := 1) rfl) x
 have r2 := fun x => later_cell HFV9.out.inn.m x
 clear hC1 hC2
 refine wp_region_seg (C := fun w' => ∃ x : Later (w9), w' = x.val) [.fl [0, 1, 2, 3, 4, 5, 6, 7], .sq [8] true, .sq [9] false] (by kernel_rfl) (by kernel_rfl) (by intro c a d v w h; cases d <;> exact h) ?_
 simp only [segs, picks, List.getElem?_cons_succ, List.getElem?_cons_zero]
 have hC3 := later_drew (w9)
 refine wpSeg_fl hC3 ?_
 repeat (first | (refine wpQuiet_slice_from el_int (ad := ao) (n := lo) (cap := co) hf rfl hfl hol rfl rfl rfl rfl ?_) | go_big_quiet_step (fail) | quiet_step (fail))
 refine wpQuiet_nil ?_
 clear r0 r1 r2
 obtain ⟨sa, hsa⟩ : ∃ sa, sa = (if co = hf then ao else ao.map (·.add (hf * 1))) := ⟨_, rfl⟩
 rw [← hsa]
 obtain ⟨sn, hsn⟩ : ∃ sn, sn = lo - hf := ⟨_, rfl⟩
 rw [← hsn]
 obtain ⟨sc, hsc⟩ : ∃ sc, sc = co - hf := ⟨_, rfl⟩
 rw [← hsc]
 have HD10 : Hid (Below w9.heap.size w9 w9.drew) := LH (later_below hC3)
 have HCl : Hid (Calls Tryz.prog 204 #[.slice sa sn sc] w9.drew (NewI w9.drew (T.drop hf))) := LH (by
  refine cloneI_any _ _ _ _ (by rw [List.length_drop, ← HLo.out, hsn]) ?_ (by rw [List.length_drop, ← HLo.out]; have := HTl.out; have := HLo.out; omega) (fun h => ?_)
  ·rw [List.map_drop, hsa, Nat.mul_one]
   exact (HCo9.out.below HD10.out (Nat.le_refl _)).shift hf _ (fun e => by rw [List.length_map, ← HLo.out]; omega)
  ·by_cases e : co = hf
   ·omega
   ·rw [hsa, if_neg e] at h
    cases ao with
    | none => have := HNil.out rfl; omega
    | some d => cases h)
 generalize w9.drew = w10 at *
 clear hsa hsn hsc
 refine wpSeg_sq (fun K hK => ?_)
 go_wp2_with fail
 refine HCl.out.mono ?_
 rintro e w11 ⟨v11, rfl, ho3, hr3, hb3⟩
 have HO11 := LH ho3
 have HR11 := LH hr3
 have HB11 : Hid (Below w9.heap.size w9 w11) := LH (HD10.out.trans (hb3.mono HD10.out.size))
 have HW10 := LH HD10.out.size
 have hC4 := later_step hC3 hb3
 clear ho3 hr3 hb3
 go_wp2_with fail
 refine hK _ _ (fun _ => hC4) ?_
 clear hK K
 have HFV11 := LH (HFV9.out.below HB11.out)
 obtain ⟨M3, hm3, hv3⟩ := HFV11.out.inn.map
 have HM3 := LH hm3
 have HV3 := LH hv3
 have HNm2 : Hid (n + 1 < maxLen) := LH (by unfold maxLen; omega)
 clear hm3 hv3
 refine wpSeg_last ?_
 go_wp2_with (refine wpList_vstore rfl _ _ _ 252 rfl 288 35 keyed_slot Tryz.underlying252 mb (n + 1) M3 rfl HM3.out HNm2.out _ _ _ rfl rfl hkey ?_; intro w12 hm4' hg4; have HM12 := LH hm4'; have HG12 := LH hg4; clear hm4' hg4)
 have hst := step_c (o := some v11) HFV9.out.inn hm4 hk HFV9.out.f HFV9.out.mb HFV9.out.lt HV3.out HB11.out HM12.out rfl HG12.out HO11.out (fun b hb => .inr (Nat.le_trans HW10.out (HR11.out b hb)))
 have hos : w12.os = w9.os ∧ w12.tape = w9.tape ∧ w12.output = w9.output := ⟨HG12.out.os.trans HB11.out.os, HG12.out.tape.trans HB11.out.tape, HG12.out.output.trans HB11.out.output⟩
 have HFin : Hid (FreeGo w w12 f mb (n + 2) R (S.put m k a)) := LH (by
  have e : S.put m k a = ((S.setC m k T).setG k (S.g k ++ T.take hf)).setC m k (T.drop hf) := by
   rw [HPut.out, if_pos (by have := HLo.out; omega), ← HLo.out, ← HHf.out]
   refine FL.ext' (fun j => ?_) (fun i j => ?_)
   ·simp only [FL.setC_g, FL.setG_g]
   ·simp only [FL.setC_c, FL.setG_c]
    split <;> rfl
  rw [e]
  have h1 := FreeGo.more HT9.out.1 HT9.out.2 HFV9.out (by unfold slotI; omega) hst hos
  exact ((FreeGo.trans (HT5.out.1.later HD6.out) (fun b hb => HT5.out.2 b hb) h1).mono (by omega)).own HQ.out HW0.out)
 clear hst hos
 exact HP.out _ _ HE0.out HFin.out
end Go.Proofs.YtbimcogdbafjpaaGreat
namespace Go.Proofs
open Go.Shelf
def Tryz.lays189_ren : Go.Shelf.Ren := ⟨fun | 189 => 205 | 125 => 237 | 257 => 236 | 128 => 257 | 129 => 258 | 294 => 248 | 295 => 249 | 296 => 250 | 297 => 251 | 298 => 252 | 299 => 253 | 216 => 254 | 300 => 255 | 301 => 256 | 328 => 270 | 329 => 271 | 330 => 272 | 331 => 273 | 332 => 274 | 215 => 275 | 343 => 280 | n => n, fun | 28 => 35 | 3 => 3 | 46 => 158 | 0 => 0 | 51 => 211 | 53 => 113 | 4 => 4 | 183 => 320 | 182 => 319 | 131 => 174 | 5 => 5 | 9 => 9 | 218 => 333 | 222 => 337 | 228 => 342 | 229 => 137 | n => n, fun | n => n⟩
theorem Tryz.lays189 : Go.Proofs.Lays.n189 Tryz.prog Tryz.lays189_ren := {
 mixed := by kernel_rfl
 f125 := Tryz.func237.trans (congrArg some (by kernel_rfl))
 f128 := Tryz.func257.trans (congrArg some (by kernel_rfl))
 f129 := Tryz.func258.trans (congrArg some (by kernel_rfl))
 f189 := Tryz.func205.trans (congrArg some (by kernel_rfl))
 f215 := Tryz.func275.trans (congrArg some (by kernel_rfl))
 f216 := Tryz.func254.trans (congrArg some (by kernel_rfl))
 f257 := Tryz.func236.trans (congrArg some (by kernel_rfl))
 f294 := Tryz.func248.trans (congrArg some (by kernel_rfl))
 f295 := Tryz.func249.trans (congrArg some (by kernel_rfl))
 f296 := Tryz.func250.trans (congrArg some (by kernel_rfl))
 f297 := Tryz.func251.trans (congrArg some (by kernel_rfl))
 f298 := Tryz.func252.trans (congrArg some (by kernel_rfl))
 f299 := Tryz.func253.trans (congrArg some (by kernel_rfl))
 f300 := Tryz.func255.trans (congrArg some (by kernel_rfl))
 f301 := Tryz.func256.trans (congrArg some (by kernel_rfl))
 f328 := Tryz.func270.trans (congrArg some (by kernel_rfl))
 f329 := Tryz.func271.trans (congrArg some (by kernel_rfl))
 f330 := Tryz.func272.trans (congrArg some (by kernel_rfl))
 f331 := Tryz.func273.trans (congrArg some (by kernel_rfl))
 f332 := Tryz.func274.trans (congrArg some (by kernel_rfl))
 f343 := Tryz.func280.trans (congrArg some (by kernel_rfl))
 t0 := Tryz.underlying0
 a0 := Tryz.isAgg0
 z0 := Tryz.sizeOf0
 v0 := Tryz.zeroValue0
 t3 := Tryz.underlying3
 a3 := Tryz.isAgg3
 z3 := Tryz.sizeOf3
 v3 := Tryz.zeroValue3
 t4 := Tryz.underlying4
 a4 := Tryz.isAgg4
 z4 := Tryz.sizeOf4
 v4 := Tryz.zeroValue4
 t5 := Tryz.underlying5
 a5 := Tryz.isAgg5
 z5 := Tryz.sizeOf5
 v5 := Tryz.zeroValue5
 t9 := Tryz.underlying9
 a9 := Tryz.isAgg9
 z9 := Tryz.sizeOf9
 v9 := Tryz.zeroValue9
 t28 := Tryz.underlying35
 a28 := Tryz.isAgg35
 z28 := Tryz.sizeOf35
 v28 := Tryz.zeroValue35
 t46 := Tryz.underlying158
 a46 := Tryz.isAgg158
 z46 := Tryz.sizeOf158
 v46 := Tryz.zeroValue158
 t51 := Tryz.underlying211
 a51 := Tryz.isAgg211
 z51 := Tryz.sizeOf211
 v51 := Tryz.zeroValue211
 t53 := Tryz.underlying113
 a53 := Tryz.isAgg113
 z53 := Tryz.sizeOf113
 v53 := Tryz.zeroValue113
 t131 := Tryz.underlying174
 a131 := Tryz.isAgg174
 z131 := Tryz.sizeOf174
 v131 := Tryz.zeroValue174
 t182 := Tryz.underlying319
 a182 := Tryz.isAgg319
 z182 := Tryz.sizeOf319
 v182 := Tryz.zeroValue319
 t183 := Tryz.underlying320
 a183 := Tryz.isAgg320
 z183 := Tryz.sizeOf320
 v183 := Tryz.zeroValue320
 t218 := Tryz.underlying333
 a218 := Tryz.isAgg333
 z218 := Tryz.sizeOf333
 v218 := Tryz.zeroValue333
 t222 := Tryz.underlying337
 a222 := Tryz.isAgg337
 z222 := Tryz.sizeOf337
 v222 := Tryz.zeroValue337
 t228 := Tryz.underlying342
 a228 := Tryz.isAgg342
 z228 := Tryz.sizeOf342
 v228 := Tryz.zeroValue342
 t229 := Tryz.underlying137
 a229 := Tryz.isAgg137
 z229 := Tryz.sizeOf137
 v229 := Tryz.zeroValue137 }
end Go.Proofs
namespace Go.Proofs.YtbimcogdbafjpaaGreat
open Go.RowKit Go.Maps Go.Shelf Go.Sort
theorem putCells_front (cur : Array Value) (d : Array Int) (h : d.size ≤ cur.size) : (putCells (Value.int .i64) 0 d cur).toList = d.toList.map (Value.int .i64) ++ cur.toList.drop d.size := by
 apply List.ext_getElem?
 intro k
 unfold putCells
 rw [Array.getElem?_toList, Array.getElem?_mapIdx]
 by_cases hk : k < d.size
 ·rw [List.getElem?_append_left (by simpa using hk), List.getElem?_map, Array.getElem?_toList, Array.getElem?_eq_getElem hk, Array.getElem?_eq_getElem (show k < cur.size by omega)]
  simp [hk]
 ·rw [List.getElem?_append_right (by simpa using hk), List.getElem?_drop]
  have e : d.size + (k - (d.toList.map (Value.int .i64)).length) = k := by simp; omega
  rw [e, Array.getElem?_toList]
  cases cur[k]? with
  | none => rfl
  | some x => simp [hk]
theorem putRow_heap {w : World} {g : Nat} {cur : Array Value} {e : TypeId} {fr : Nat × Nat} (hg : w.heap[g]? = some (.cells cur e fr)) (d : Array Int) (q : Nat) :
  (putRow (Value.int .i64) (Sort.ahead w q) g 0 d).heap[g]? = some (.cells (putCells (Value.int .i64) 0 d cur) e fr) := by
 unfold putRow mapBlock
 simp [Array.getElem?_modify, hg, onCells]
theorem putRow_grown (w : World) (g : Nat) (d : Array Int) (q : Nat) : w.grownBy (putRow (Value.int .i64) (Sort.ahead w q) g 0 d) (some g) := by
 refine ⟨rfl, rfl, rfl, by simp [putRow, mapBlock], fun k hk hne => ?_⟩
 have : ¬ g = k := fun e => hne (by rw [e])
 simp [putRow, mapBlock, Array.getElem?_modify, this]
theorem grow_grown (w : World) (os : Array Obj) : w.grownBy (grow w os) none :=
 ⟨rfl, rfl, rfl, by simp [grow], fun k hk _ => heap_grow_old w os hk⟩
theorem row_put {w : World} {g cap : Nat} {cur : Array Value} (hg : w.heap[g]? = some (.cells cur 3 (0, 0))) (hc : cur.size = cap) (h2 : cap ≤ maxLen) (d : Array Int) (hd : d.size ≤ cap) (q : Nat) (ys : List Nat) (hy : d.toList.take ys.length = ys.map (fun x : Nat => (x : Int))) (hl : ys.length ≤ d.size) :
  OwnI (putRow (Value.int .i64) (Sort.ahead w q) g 0 d) (.slice (some ⟨g, 0, none⟩) ys.length cap) ys := by
 refine .inl ⟨by simp, .inr ⟨g, cap, _, rfl, Nat.zero_le _, putRow_heap hg d q, by omega, h2, by unfold putCells; simp [hc], ?_⟩⟩
 rw [putCells_front _ _ (by omega), Nat.mul_one, List.take_append_of_le_length (by simpa using hl), ← List.map_take, hy, List.map_map]
 rfl
theorem OwnI.row {w : World} {v : Value} {xs : List Nat} (h : OwnI w v xs) (hx : xs ≠ []) : ∃ g cap cur, v = .slice (some ⟨g, 0, none⟩) xs.length cap ∧ w.heap[g]? = some (.cells cur 3 (0, 0)) ∧ xs.length ≤ cap ∧ cap ≤ maxLen ∧ cur.size = cap ∧ rowOf v = some g ∧
  Go.Sort.Holds (Value.int .i64) w g 0 (xs.map (fun x : Nat => (x : Int))).toArray := by
 rcases h with h | ⟨a, _, h⟩
 ·rcases h.2 with ⟨_, h0⟩ | ⟨g, cap, cur, rfl, hb, hg, h1, h2, h3, h4⟩
  ·exact absurd (List.length_eq_zero_iff.1 h0) hx
  ·have hpos : 0 < xs.length := List.length_pos_iff.2 hx
   refine ⟨g, cap, cur, rfl, hg, h1, h2, by omega, ?_, fun j hj => ⟨?_, frozen_of_row _ _ _ _ _ hg⟩⟩
   ·show (if cap = 0 then none else some g) = some g
    rw [if_neg (by omega)]
   ·have hj' : j < xs.length := by simpa using hj
    rw [Nat.zero_add, cell_of_row _ _ j _ _ _ hg]
    have h5 := congrArg (fun l => l[j]?) h4
    rw [Nat.mul_one] at h5
    simp only [List.getElem?_take, if_pos hj', List.getElem?_map, List.getElem?_eq_getElem hj', Option.map_some] at h5
    rw [← Array.getElem?_toList, h5]
    simp [vi, hj']
 ·exact absurd h hx
theorem OwnI.none_val {w : World} {v : Value} (h : OwnI w v []) : ∃ p c, v = .slice p 0 c := by
 obtain ⟨a, c, e, _⟩ := h.cells
 exact ⟨a, c, e⟩
def SortedI (w : World) (v : Value) (xs : List Nat) : Ending → World → Prop := fun e w' => e = .returned (.tuple #[]) ∧ ∃ ys : List Nat, OwnI w' v ys ∧ ys.Pairwise (· ≤ ·) ∧ ys.Perm xs ∧ w.grownBy w' (rowOf v)
theorem sortI_any {w : World} {v : Value} {xs : List Nat} (h : OwnI w v xs) (hl : xs.length ≤ 1000000000) : Calls Tryz.prog 205 #[v] w (SortedI w v xs) := by
 by_cases hx : xs = []
 ·subst hx
  obtain ⟨p, c, rfl⟩ := h.none_val
  refine (Any.slices_Sort_int_none Tryz.lays189 p c w).mono ?_
  rintro e w' ⟨rfl, rfl⟩
  exact ⟨rfl, [], h, List.Pairwise.nil, List.Perm.refl _, grown_self _ _⟩
 ·obtain ⟨g, cap, cur, rfl, hg, h1, h2, h3, h4, hH⟩ := h.row hx
  have hc := Any.slices_Sort_int Tryz.lays189 g 0 cap (xs.map (fun x : Nat => (x : Int))) w hH (Array.getElem?_eq_some_iff.1 hg).1 (by rw [List.length_map]; omega)
  rw [List.length_map] at hc
  refine hc.mono ?_
  rintro e w' ⟨rfl, q, os, rfl⟩
  have hm : (xs.map (fun x : Nat => (x : Int))).mergeSort (fun x y => decide (x ≤ y)) = (xs.mergeSort (fun x y => decide (x ≤ y))).map (fun x : Nat => (x : Int)) := by
   rw [List.map_mergeSort (s := fun x y : Int => decide (x ≤ y)) (fun a _ b _ => by simp)]
  rw [hm]
  have hpm := List.mergeSort_perm xs (fun x y => decide (x ≤ y))
  have hlm : (xs.mergeSort (fun x y => decide (x ≤ y))).length = xs.length := hpm.length_eq
  have hso : (xs.mergeSort (fun x y => decide (x ≤ y))).Pairwise (· ≤ ·) := by
   have := List.pairwise_mergeSort (le := fun x y : Nat => decide (x ≤ y)) (fun a b c h1 h2 => by simp at *; omega) (fun a b => by simp; omega) xs
   exact this.imp (fun h => by simpa using h)
  have ho := row_put hg h3 h2 ((xs.mergeSort (fun x y => decide (x ≤ y))).map (fun x : Nat => (x : Int))).toArray (by rw [List.size_toArray, List.length_map, hlm]; exact h1) q (xs.mergeSort (fun x y => decide (x ≤ y))) (by rw [List.take_of_length_le (by simp)]) (by simp)
  rw [hlm] at ho
  have hgr := putRow_grown w g ((xs.mergeSort (fun x y => decide (x ≤ y))).map (fun x : Nat => (x : Int))).toArray q
  refine ⟨rfl, _, ?_, hso, hpm, ?_⟩
  ·exact ho.keep (fun b hb => heap_grow_old _ _ (ho.lt b hb))
  ·have hg2 := grow_grown (putRow (Value.int .i64) (Sort.ahead w q) g 0 ((xs.mergeSort (fun x y => decide (x ≤ y))).map (fun x : Nat => (x : Int))).toArray) os
   rw [h4]
   exact ⟨hg2.os.trans hgr.os, hg2.tape.trans hgr.tape, hg2.output.trans hgr.output, Nat.le_trans hgr.size hg2.size, fun k hk hne => (hg2.block k (Nat.lt_of_lt_of_le hk hgr.size) (by simp)).trans (hgr.block k hk hne)⟩
end Go.Proofs.YtbimcogdbafjpaaGreat
namespace Go.Proofs.YtbimcogdbafjpaaGreat
open Go.RowKit Go.Maps
def FL.drainTo (S : FL) (m i : Nat) : FL := ⟨fun k => if k < i then S.g k ++ S.c m k else S.g k, fun j k => if j = m ∧ k < i then [] else S.c j k⟩
theorem FL.drainTo_zero (S : FL) (m : Nat) : S.drainTo m 0 = S := FL.ext' (fun k => by unfold FL.drainTo; simp) (fun j k => by unfold FL.drainTo; simp)
theorem FL.drainTo_succ (S : FL) (m i : Nat) : S.drainTo m (i + 1) = ((S.drainTo m i).setG i ((S.drainTo m i).g i ++ (S.drainTo m i).c m i)).setC m i [] := by
 refine FL.ext' (fun k => ?_) (fun j k => ?_)
 ·rw [FL.setC_g, FL.setG_g]
  unfold FL.drainTo
  dsimp only
  by_cases e : k = i
  ·subst e; simp
  ·rw [if_neg e]
   by_cases h : k < i
   ·rw [if_pos h, if_pos (by omega)]
   ·rw [if_neg h, if_neg (by omega)]
 ·rw [FL.setC_c]
  unfold FL.drainTo
  dsimp only
  by_cases e : j = m ∧ k = i
  ·rw [if_pos e, if_pos (by omega)]
  ·rw [if_neg e, FL.setG_c]
   dsimp only
   by_cases h : j = m ∧ k < i
   ·rw [if_pos h, if_pos (by omega)]
   ·rw [if_neg h, if_neg (by omega)]
theorem FL.drainTo_lens {S : FL} {N : Nat} (h : S.upto N) {m i : Nat} (hm : m < 4) (hi : i < 32) : ((S.drainTo m i).g i).length ≤ N ∧ ((S.drainTo m i).c m i).length ≤ N := by
 have h1 := h i (by omega)
 have h2 := h (slotI m i) (by unfold slotI; omega)
 rw [S.at_g hi] at h1
 rw [S.at_c m hi] at h2
 unfold FL.drainTo
 simp
 exact ⟨h1, h2⟩
set_option maxHeartbeats 4000000 in
set_option maxRecDepth 20000 in
theorem fdrain_any {w : World} {f mb n : Nat} {R : List Nat} {S : FL} (h : FreeAt w f mb n R S) (hL : S.upto 1000000) (hn : n < 1000000000000) (m : Nat) (hm4 : m < 4) :
  Calls Tryz.prog 230 #[vfree f, .int .i64 (m : Int)] w fun e w' => e = .returned (.tuple #[]) ∧ FreeGo w w' f mb n R (S.drain m) := by
 have HF := LH h
 have HUp := LH hL
 clear h hL
 go_enter Tryz.func230, Tryz.ntmps230
 go_wp2_with fail
 go_loopw [6] (fun iv wr => ∃ i : Nat, i ≤ 32 ∧ iv = .int .i64 (i : Int) ∧ Hid (FreeGo w wr f mb n R (S.drainTo m i))) (fun iv _ => 32 - (intOf iv).toNat)
 case atStart => exact ⟨0, by omega, rfl, LH (by rw [FL.drainTo_zero]; exact FreeGo.refl HF.out)⟩
 case round =>
  obtain ⟨i, hi32, rfl, HGo⟩ := hrel
  by_cases hlt : i < 32
  case neg =>
   obtain rfl : i = 32 := by omega
   go_wp2_with fail
   go_end0
   exact ⟨rfl, HGo.out⟩
  obtain ⟨R1, hfa, ht1, hr1⟩ := HGo.out
  obtain ⟨V, hfv⟩ := hfa.v
  have HT1 := LH ht1
  have HR1 := LH hr1
  have HMem := LH (Mem.one wr #[.int .i64 (m : Int), .int .i64 (i : Int)] 288)
  have HFV := LH (hfv.below HMem.out.below)
  have HFVr := LH hfv.lt
  have HW0 := LH HMem.out.below
  have HStep : Hid (S.drainTo m (i + 1) = ((S.drainTo m i).setG i ((S.drainTo m i).g i ++ (S.drainTo m i).c m i)).setC m i []) := LH (FL.drainTo_succ S m i)
  have HLens := LH (FL.drainTo_lens HUp.out hm4 hlt)
  generalize S.drainTo m i = T at *
  clear hfa ht1 hr1
  go_upto_region 4 with fail
  obtain ⟨q, hq⟩ : ∃ q, q = wr.heap.size := ⟨_, rfl⟩
  have hqf : q ∉ (rowOf (V i)).toList := fun hm => by
   have h1 := hfv.lt q (hfv.rows i (by omega) q (by simpa using hm))
   rw [hq] at h1
   exact Nat.lt_irrefl _ h1
  clear hfv
  rw [← hq] at HMem ⊢
  have HQ := LH hq
  clear hq
  generalize wr.alloc _ = w0 at *
  have hfn : f ∉ (rowOf (V i)).toList := fun hm => (HFV.out.inn.neF i (by omega)).1 (by simpa using hm)
  have d0 := HMem.out.cell 0 0 rfl rfl
  have d1 := HMem.out.cell 0 1 rfl rfl
  obtain ⟨ac, cc, ec, hcc, hcl, _, hcn⟩ := (HFV.out.inn.rows (slotI m i) (by unfold slotI; omega)).cells2
  rw [T.at_c m hlt] at ec hcc hcl
  have HEc := LH ec
  have HCc := LH hcc
  have hkey := key_slot (m : Int) (i : Int) (wf_small m (by omega)) (wf_small i (by omega))
  have r0 := fun x => near_cell (L := (rowOf (V i)).toList) d0 hqf x
  have r1 := fun x => near_cell (L := (rowOf (V i)).toList) d1 hqf x
  have r2 := fun x => near_cell (L := (rowOf (V i)).toList) HFV.out.inn.m hfn x
  have r3 := fun x => near_cell (L := (rowOf (V i)).toList) (HFV.out.inn.g hlt) hfn x
  have HTn : Hid (Touch (rowOf (V i)).toList w0 w0.drew) := LH (Touch.ofBelow (later_below (later_drew w0)))
  have HD1 : Hid (Below w0.heap.size w0 w0.drew) := LH (later_below (later_drew w0))
  have hC1 := near_of HTn.out
  clear hcc ec hqf hfn d0 d1
  obtain ⟨lc, hlc⟩ : ∃ lc, lc = (T.c m i).length := ⟨_, rfl⟩
  rw [← hlc] at HEc hcl
  have HLc := LH hlc
  clear hlc
  refine wp_region_seg (C := fun w' => ∃ x : Near (rowOf (V i)).toList w0, w' = x.val) [.fl [0, 1, 2, 3, 4, 5, 6, 7, 8, 9, 10, 11, 12, 15, 16], .sq [13] true, .sq [14] true, .sq [17, 18] false] (by kernel_rfl) (by kernel_rfl) (by intro c a d v w h; cases d <;> exact h) ?_
  simp only [segs, picks, List.getElem?_cons_succ, List.getElem?_cons_zero]
  refine wpSeg_fl hC1 ?_
  repeat (first | go_big_quiet_step (fail) | quiet_step (fail))
  refine wpQuiet_nil ?_
  clear r0 r1 r2 r3
  generalize w0.drew = wd at *
  have HFd := LH (HFV.out.below HD1.out)
  obtain ⟨M, hm, hv⟩ := HFd.out.inn.map
  have HM := LH hm
  have HVi := LH ((hv m i hm4 hlt).trans HEc.out)
  clear hm hv
  refine wpSeg_sq (fun K hK => ?_)
  go_wp2_with (refine wpList_vlook rfl _ _ 252 rfl 288 35 keyed_slot Tryz.underlying252 _ (zero_ints _) mb n M rfl HM.out _ _ rfl hkey ?_; rw [HVi.out])
  go_wp2_with fail
  refine hK _ _ (fun _ => hC1) ?_
  clear hK K
  have HOd : Hid (OwnI wd (V i) (T.g i)) := LH (by
   have := HFd.out.inn.rows i (by omega)
   rwa [T.at_g hlt] at this)
  have HCd : Hid (Cells wd ac ((T.c m i).map vi)) := LH (HCc.out.below HD1.out (Nat.le_refl _))
  have HN1 : Hid ((T.g i).length + lc ≤ 1000000000000) := LH (by have := HLens.out; have := HLc.out; omega)
  refine wpSeg_sq (fun K hK => ?_)
  go_wp2_with (refine wpList_append_ownI (m := lc) HOd.out HCd.out HLc.out.symm HN1.out rfl rfl rfl rfl ?_; intro v' w1 ho hg hr; have HO1 := LH ho; have HG1 := LH hg; have HR := LH hr; clear ho hg hr)
  have HTn1 : Hid (Touch (rowOf (V i)).toList w0 w1) := LH (HTn.out.trans (grown_touchO HG1.out))
  have hC3 := near_of HTn1.out
  go_wp2_with fail
  refine hK _ _ (fun _ => hC3) ?_
  clear hK K
  have hst := step_g HFV.out.inn hlt HFV.out.f HFV.out.mb HFV.out.lt HD1.out HG1.out HO1.out (fun b hb => by
   rcases HR.out b hb with c | c
   ·exact .inl c
   ·exact .inr (by rw [c]; exact HD1.out.size))
  have hos : (w1.setCell ⟨f, i, none⟩ v').os = w0.os ∧ (w1.setCell ⟨f, i, none⟩ v').tape = w0.tape ∧ (w1.setCell ⟨f, i, none⟩ v').output = w0.output := ⟨HG1.out.os.trans HD1.out.os, HG1.out.tape.trans HD1.out.tape, HG1.out.output.trans HD1.out.output⟩
  have HFV2 := LH (HFV.out.step (by omega) hst)
  have HT2 := LH (hst.touch HFV.out (by omega) hos)
  have HF1 : Hid (w1.heap[f]? = some (.cells ((List.range 32).map V ++ [Value.map (some mb)]).toArray 255 (0, 0))) := LH (by
   have := (HG1.out.block f (Nat.lt_of_lt_of_le (HFV.out.lt f HFV.out.f) HD1.out.size) (fun e => (HFV.out.inn.neF i (by omega)).1 e.symm)).trans (HD1.out.block f (HFV.out.lt f HFV.out.f))
   exact this.trans HFV.out.inn.head)
  have fr : w1.frozen? ⟨f, i, none⟩ = false := frozen_of_row _ _ _ _ _ HF1.out
  have ck1 : w1.cell? ⟨f, i, none⟩ = some (V i) := (cell_of_row _ _ i _ _ _ HF1.out).trans (HFV.out.inn.lt hlt)
  have HRow2 : Hid (RowAt (w1.setCell ⟨f, i, none⟩ v') q 288 [.int .i64 (m : Int), .int .i64 (i : Int)]) := LH ((HMem.out.at 0 rfl).keep (HT2.out.1.block q (HMem.out.glt 0 rfl) (fun hm => by
   have h1 := HFVr.out q hm
   rw [HQ.out] at h1
   exact Nat.lt_irrefl _ h1)))
  obtain ⟨a', c', e', _⟩ := HO1.out.cells
  obtain ⟨l', hl'⟩ : ∃ l', l' = (T.g i ++ T.c m i).length := ⟨_, rfl⟩
  rw [← hl'] at e'
  subst e'
  clear hst hl' hos
  refine wpSeg_last ?_
  go_wp2_with fail
  generalize w1.setCell _ _ = w2 at *
  have hsl : slotI m i < 160 := by unfold slotI; omega
  go_upto_region 5 with fail
  have d0 := HRow2.out.cell (i := 0) rfl
  have d1 := HRow2.out.cell (i := 1) rfl
  have c32 := HFV2.out.inn.m
  have r0 := fun x => later_cell d0 x
  have r1 := fun x => later_cell d1 x
  have r2 := fun x => later_cell c32 x
  clear d0 d1 c32 hC1 hC3
  refine wp_region_seg (C := fun w' => ∃ x : Later (w2), w' = x.val) [.fl [0, 1, 2, 3, 4], .sq [5] false] (by kernel_rfl) (by kernel_rfl) (by intro c a d v w h; cases d <;> exact h) ?_
  simp only [segs, picks, List.getElem?_cons_succ, List.getElem?_cons_zero]
  have hC5 := later_drew (w2)
  refine wpSeg_fl hC5 ?_
  repeat (first | go_big_quiet_step (fail) | quiet_step (fail))
  refine wpQuiet_nil ?_
  clear r0 r1 r2
  have HD5 : Hid (Below w2.heap.size w2 w2.drew) := LH (later_below hC5)
  generalize w2.drew = w3 at *
  have HFV3 := LH (HFV2.out.below HD5.out)
  obtain ⟨M3, hm3, hv3⟩ := HFV3.out.inn.map
  have HM3 := LH hm3
  have HV3 := LH hv3
  clear hm3 hv3
  refine wpSeg_last ?_
  go_wp2_with (refine wpList_vdelete rfl _ _ 252 288 rfl 35 keyed_slot Tryz.underlying252 mb n M3 rfl HM3.out _ _ rfl hkey ?_; intro w4 hm4' hg4; have HM4 := LH hm4'; have HG4 := LH hg4; clear hm4' hg4)
  have hst := step_c (o := none) HFV3.out.inn hm4 hlt HFV3.out.f HFV3.out.mb HFV3.out.lt HV3.out (Below.refl _ _) HM4.out rfl HG4.out (OwnI.nil _) (fun b hb => by cases hb)
  have HNext : Hid (FreeGo w w4 f mb n R (S.drainTo m (i + 1))) := LH (by
   have e : S.drainTo m (i + 1) = (T.setG i (T.g i ++ T.c m i)).setC m i [] := HStep.out
   rw [e]
   have h1 := FreeGo.more (HT2.out.1.later HD5.out) HT2.out.2 HFV3.out hsl hst ⟨HG4.out.os, HG4.out.tape, HG4.out.output⟩
   exact FreeGo.trans (HT1.out.later HW0.out) (fun b hb => HR1.out b hb) (h1))
  clear hst
  go_wp2_with fail
  go_roundw
  case rel => exact ⟨i + 1, by omega, vint (by omega), HNext⟩
  case measure => simp [intOf]; omega
def FL.allTo (S : FL) (k : Nat) : Nat → List Nat
 | 0 => S.g k
 | i + 1 => S.allTo k i ++ S.c i k
theorem FL.allTo_all (S : FL) (k : Nat) : S.allTo k 4 = S.all k := rfl
theorem FL.allTo_len {S : FL} {N k : Nat} (h : S.upto N) (hk : k < 32) : ∀ i, i ≤ 4 → (S.allTo k i).length ≤ (i + 1) * N
 | 0, _ => by
  have := h k (by omega)
  rw [S.at_g hk] at this
  simpa [FL.allTo] using this
 | i + 1, hi => by
  have h1 := FL.allTo_len h hk i (by omega)
  have h2 := h (slotI i k) (by unfold slotI; omega)
  rw [S.at_c i hk] at h2
  unfold FL.allTo
  rw [List.length_append, Nat.add_mul (i + 1) 1 N, Nat.one_mul]
  omega
def ListI (w : World) (S : FL) (k : Nat) : Ending → World → Prop := fun e w' => ∃ v ys, e = .returned v ∧ OwnI w' v ys ∧ ys.Pairwise (· ≤ ·) ∧ (∀ a, ys.count a = S.cnt k a) ∧ (∀ b, rowOf v = some b → w.heap.size ≤ b) ∧ Below w.heap.size w w'
set_option maxHeartbeats 4000000 in
set_option maxRecDepth 20000 in
theorem flist_any {w : World} {f mb n : Nat} {R : List Nat} {S : FL} (h : FreeAt w f mb n R S) (hL : S.upto 900000) (k : Nat) (hk : k < 32) :
  Calls Tryz.prog 161 #[vfree f, .int .i64 (k : Int)] w (ListI w S k) := by
 obtain ⟨V, hfv⟩ := h.v
 have HFV := LH hfv
 have HUp := LH hL
 have HP : Hid (∀ v ys w', OwnI w' v ys → ys.Pairwise (· ≤ ·) → ys.Perm (S.all k) → (∀ b, rowOf v = some b → w.heap.size ≤ b) → Below w.heap.size w w' → ListI w S k (.returned v) w') := LH (fun v ys w' h1 h2 h3 h4 h5 => ⟨v, ys, rfl, h1, h2, fun a => by rw [← S.all_count]; exact h3.count_eq a, h4, h5⟩)
 generalize ListI w S k = Post at *
 have hVk := HFV.out.inn.rows k (by omega)
 rw [S.at_g hk] at hVk
 obtain ⟨ag, cg, eg, hcg, _, _, hgn⟩ := hVk.cells2
 have HLg : Hid ((S.g k).length ≤ 900000) := LH (by have := HUp.out k (by omega); rwa [S.at_g hk] at this)
 have HCl := LH (cloneI_any ag _ cg (S.g k) rfl hcg (by have := HLg.out; omega) hgn)
 have ck := HFV.out.inn.g hk
 rw [eg] at ck
 have c32 := HFV.out.inn.m
 obtain ⟨lg, hlg⟩ : ∃ lg, lg = (S.g k).length := ⟨_, rfl⟩
 rw [← hlg] at ck HCl
 clear h hL hfv hVk hcg hgn eg hlg
 go_enter Tryz.func161, Tryz.ntmps161
 go_wp2_with fail
 refine (cright_any _ _).mono ?_
 rintro e w1 ⟨rfl, rfl⟩
 rw [decide_eq_true (show (0 : Int) ≤ (k : Int) ∧ (k : Int) < 32 by omega)]
 go_wp2_with fail
 refine HCl.out.mono ?_
 rintro e w1 ⟨v1, rfl, ho1, hr1, hb1⟩
 have HO1 := LH ho1
 have HR1 := LH hr1
 have HB1 := LH hb1
 clear ho1 hr1 hb1 ck c32
 go_wp2_with fail
 go_loopw [5, 17] (fun ov iv wr => ∃ i : Nat, i ≤ 4 ∧ iv = .int .i64 (i : Int) ∧ Hid (OwnI wr ov (S.allTo k i)) ∧ Hid (∀ b, rowOf ov = some b → w.heap.size ≤ b) ∧ Hid (Below w.heap.size w wr)) (fun _ iv _ => 4 - (intOf iv).toNat)
 case atStart => exact ⟨0, by omega, rfl, HO1, HR1, HB1⟩
 case round =>
  obtain ⟨i, hi4, rfl, HO, HR, HB⟩ := hrel
  by_cases hlt : i < 4
  case neg =>
   obtain rfl : i = 4 := by omega
   have HSo := LH (sortI_any HO.out (by have := FL.allTo_len HUp.out hk 4 (by omega); omega))
   go_wp2_with fail
   refine HSo.out.mono ?_
   rintro e w2 ⟨rfl, ys, ho, hs, hp, hg⟩
   have HFin := LH (HP.out _ ys w2 ho hs (by rw [← S.allTo_all]; exact hp) HR.out ⟨hg.os.trans HB.out.os, hg.tape.trans HB.out.tape, hg.output.trans HB.out.output, Nat.le_trans HB.out.size hg.size, fun b hb => (hg.block b (Nat.lt_of_lt_of_le hb HB.out.size) (fun e => by have := HR.out b e.symm; omega)).trans (HB.out.block b hb)⟩)
   clear ho hs hp hg
   go_wp2_with fail
   exact HFin.out
  have hi160 : slotI i k < 160 := by unfold slotI; omega
  have HFr := LH (HFV.out.below HB.out)
  obtain ⟨ac, cc, ec, hcc, _, _, _⟩ := (HFr.out.inn.rows (slotI i k) hi160).cells2
  rw [S.at_c i hk] at ec hcc
  obtain ⟨M, hm, hv⟩ := HFr.out.inn.map
  have HM := LH hm
  obtain ⟨lc, hlc⟩ : ∃ lc, lc = (S.c i k).length := ⟨_, rfl⟩
  rw [← hlc] at ec
  have HLc := LH hlc.symm
  have HVi := LH ((hv i k hlt hk).trans ec)
  have HCc := LH hcc
  have hkey := key_slot (i : Int) (k : Int) (wf_small i (by omega)) (wf_small k (by omega))
  have c32 := HFr.out.inn.m
  have HN1 : Hid ((S.allTo k i).length + lc ≤ 1000000000000) := LH (by
   have h1 := FL.allTo_len HUp.out hk i (by omega)
   have h2 := HUp.out (slotI i k) hi160
   rw [S.at_c i hk, ← hlc] at h2
   have : (i + 1) * 900000 ≤ 5 * 900000 := Nat.mul_le_mul_right _ (by omega)
   omega)
  clear hm hv ec hcc hlc
  go_wp2_with (first
   | (refine wpList_vlook rfl _ _ 252 rfl 288 35 keyed_slot Tryz.underlying252 _ (zero_ints _) mb n M rfl HM.out _ _ rfl hkey ?_; rw [HVi.out])
   | (at_builtin; refine wpList_append_newI (m := lc) (B := w.heap.size) HO.out (Below.refl _ _) HR.out HB.out.size HCc.out HLc.out HN1.out rfl rfl rfl rfl ?_; intro v' w2 ho hb hr; have HO2 := LH ho; have HB2 := LH hb; have HR2 := LH hr; clear ho hb hr))
  go_roundw
  case rel => exact ⟨i + 1, by omega, vint (by omega), HO2, HR2, LH (HB.out.trans HB2.out)⟩
  case measure => simp [intOf]; omega
set_option maxHeartbeats 1000000 in
theorem flen_any {w : World} {f mb n : Nat} {R : List Nat} {S : FL} (h : FreeAt w f mb n R S) (hL : S.upto 900000) (k : Nat) (hk : k < 32) :
  Calls Tryz.prog 212 #[vfree f, .int .i64 (k : Int)] w fun e w' => e = .returned (.int .i64 ((S.all k).length : Nat)) ∧ Below w.heap.size w w' := by
 have HL := LH (flist_any h hL k hk)
 have HP : Hid (∀ w', Below w.heap.size w w' → (fun e w' => e = Ending.returned (.int .i64 ((S.all k).length : Nat)) ∧ Below w.heap.size w w') (.returned (.int .i64 ((S.all k).length : Nat))) w') := LH (fun w' h => ⟨rfl, h⟩)
 have HN : Hid (∀ ys : List Nat, (∀ a, ys.count a = S.cnt k a) → ys.length = (S.all k).length) := LH (fun ys h => (List.perm_iff_count.2 (fun a => by rw [h, S.all_count])).length_eq)
 generalize (S.all k).length = N at *
 clear h hL
 go_enter Tryz.func212, Tryz.ntmps212
 go_wp2_with fail
 refine HL.out.mono ?_
 rintro e w1 ⟨v, ys, rfl, ho, hs, hc, hr, hb⟩
 obtain ⟨a, c, rfl, _⟩ := ho.cells
 rw [HN.out ys hc]
 have HB := LH hb
 clear ho hs hc hr hb
 go_wp2_with fail
 go_ret
 exact ⟨rfl, HB.out⟩
end Go.Proofs.YtbimcogdbafjpaaGreat
namespace Go.Proofs
open Go.Shelf
def Tryz.delFn_ren : Go.Shelf.Ren := ⟨fun | 10 => 214 | 6 => 242 | n => n, fun | 22 => 35 | 23 => 3 | 25 => 109 | 3 => 3 | 4 => 4 | 0 => 0 | n => n, fun | n => n⟩
theorem Tryz.delFn : Go.Proofs.SlLaysH.n10 Tryz.prog Tryz.delFn_ren := {
 mixed := by kernel_rfl
 f6 := ⟨Tryz.f242.name, by decide, Tryz.func242.trans (congrArg some (by kernel_rfl))⟩
 f10 := ⟨Tryz.f214.name, by decide, Tryz.func214.trans (congrArg some (by kernel_rfl))⟩
 t0 := Tryz.underlying0
 a0 := Tryz.isAgg0
 z0 := Tryz.sizeOf0
 v0 := Tryz.zeroValue0
 t3 := Tryz.underlying3
 a3 := Tryz.isAgg3
 z3 := Tryz.sizeOf3
 v3 := Tryz.zeroValue3
 t4 := Tryz.underlying4
 a4 := Tryz.isAgg4
 z4 := Tryz.sizeOf4
 v4 := Tryz.zeroValue4
 t22 := Tryz.underlying35
 a22 := Tryz.isAgg35
 z22 := Tryz.sizeOf35
 v22 := Tryz.zeroValue35
 a23 := Tryz.isAgg3
 z23 := Tryz.sizeOf3
 t25 := Tryz.underlying109
 a25 := Tryz.isAgg109
 z25 := Tryz.sizeOf109
 v25 := Tryz.zeroValue109 }
end Go.Proofs
namespace Go.Proofs.YtbimcogdbafjpaaGreat
open Go.RowKit Go.Maps Go.Shelf Go.Sort Go.Lib
def outside (lo hi : Nat) (xs : List Nat) : List Nat := xs.filter (fun a => !(decide (lo ≤ a) && decide (a < hi)))
theorem outside_len (lo hi : Nat) (xs : List Nat) : (outside lo hi xs).length ≤ xs.length := List.length_filter_le _ _
theorem gone_gives (lo hi : Nat) (x : Int) (q1 q2 : Nat) (W : World) (h1 : W.cell? ⟨q1, 0, none⟩ = some (.int .i64 (lo : Int))) (h2 : W.cell? ⟨q2, 0, none⟩ = some (.int .i64 (hi : Int))) :
  FnGives Tryz.prog 213 #[.pointer (some ⟨q1, 0, none⟩), .pointer (some ⟨q2, 0, none⟩)] #[.int .i64 x] (.bool (decide ((lo : Int) ≤ x) && decide (x < (hi : Int)))) W := by
 show Calls Tryz.prog 213 #[.int .i64 x, .pointer (some ⟨q1, 0, none⟩), .pointer (some ⟨q2, 0, none⟩)] W _
 by_cases c : (lo : Int) ≤ x
 ·go_enter Tryz.func213, Tryz.ntmps213
  go_wp2
  all_goals (go_ret; exact ⟨by simp_all, 0, rfl⟩)
 ·go_enter Tryz.func213, Tryz.ntmps213
  go_wp2
  all_goals (go_ret; exact ⟨by simp_all; intros; omega, 0, rfl⟩)
theorem indexNone (p : Option Addr) (c : Nat) (fv : Value) (w : World) : Calls Tryz.prog 242 #[.slice p 0 c, fv] w (Same1 (.int .i64 (-1)) w) := by
 go_enter Tryz.func242, Tryz.ntmps242
 go_wp2_with fail
 go_loopw [8] (fun iv wr => iv = .int .i64 0 ∧ Hid (wr = w)) (fun _ _ => 0)
 case atStart => exact ⟨rfl, LH rfl⟩
 case round =>
  obtain ⟨rfl, hw⟩ := hrel
  go_wp2_with fail
  go_ret
  exact ⟨rfl, hw.out.symm⟩
theorem deleteNone (p : Option Addr) (c : Nat) (fv : Value) (w : World) : Calls Tryz.prog 214 #[.slice p 0 c, fv] w (Same1 (.slice p 0 c) w) := by
 go_enter Tryz.func214, Tryz.ntmps214
 go_wp2_with fail
 refine (indexNone p c fv _).mono ?_
 rintro e w1 ⟨rfl, rfl⟩
 go_wp2_with fail
 go_ret
 exact ⟨rfl, rfl⟩
def StruckI (w : World) (v : Value) (lo hi : Nat) (xs : List Nat) : Ending → World → Prop := fun e w' => ∃ v', e = .returned v' ∧ OwnI w' v' (outside lo hi xs) ∧ rowOf v' = rowOf v ∧ w.grownBy w' (rowOf v)
theorem deleteI_any {w : World} {v : Value} {xs : List Nat} (h : OwnI w v xs) (hl : xs.length ≤ 1000000000) (lo hi q1 q2 : Nat) (h1 : w.cell? ⟨q1, 0, none⟩ = some (.int .i64 (lo : Int))) (h2 : w.cell? ⟨q2, 0, none⟩ = some (.int .i64 (hi : Int)))
  (n1 : rowOf v ≠ some q1) (n2 : rowOf v ≠ some q2) :
  Calls Tryz.prog 214 #[v, .func (.func 213) #[] #[.pointer (some ⟨q1, 0, none⟩), .pointer (some ⟨q2, 0, none⟩)]] w (StruckI w v lo hi xs) := by
 by_cases hx : xs = []
 ·subst hx
  obtain ⟨p, c, rfl⟩ := h.none_val
  refine (deleteNone p c _ w).mono ?_
  rintro e w' ⟨rfl, rfl⟩
  exact ⟨_, rfl, h, rfl, grown_self _ _⟩
 ·obtain ⟨g, cap, cur, rfl, hg, g1, g2, g3, g4, hH⟩ := h.row hx
  have hB1 : q1 < w.heap.size := World.block_lt_of_cell? _ _ h1
  have hB2 : q2 < w.heap.size := World.block_lt_of_cell? _ _ h2
  have k1 : q1 ≠ g := fun e => n1 (by rw [g4, e])
  have k2 : q2 ≠ g := fun e => n2 (by rw [g4, e])
  have hsz : (xs.map (fun x : Nat => (x : Int))).toArray.size = xs.length := by simp
  have eg : ∀ args w, (callFunc 213 args).run Tryz.prog w = .ok (.enter 213 args) w := enters_of Tryz.func213 (by kernel_rfl) rfl
  have hp : PredAt Tryz.prog 213 #[.pointer (some ⟨q1, 0, none⟩), .pointer (some ⟨q2, 0, none⟩)] (Value.int .i64) (fun x => decide ((lo : Int) ≤ x) && decide (x < (hi : Int))) w :=
   fun W x hb => gone_gives lo hi x q1 q2 W ((hb.cell (p := ⟨q1, 0, none⟩) hB1).trans h1) ((hb.cell (p := ⟨q2, 0, none⟩) hB2).trans h2)
  have hpo : PredOver Tryz.prog 213 #[.pointer (some ⟨q1, 0, none⟩), .pointer (some ⟨q2, 0, none⟩)] (Value.int .i64) (fun x => decide ((lo : Int) ≤ x) && decide (x < (hi : Int))) g 0 (xs.map (fun x : Nat => (x : Int))).toArray.size w :=
   fun n os dk x _ => gone_gives lo hi x q1 q2 _
    (by unfold sortWorld; rw [cell?_grow _ _ _ (by show q1 < (putRow _ _ _ _ _).heap.size; rw [size_putRow]; exact hB1), cell?_putRow_other _ _ g _ _ _ (Or.inl k1)]; exact h1)
    (by unfold sortWorld; rw [cell?_grow _ _ _ (by show q2 < (putRow _ _ _ _ _).heap.size; rw [size_putRow]; exact hB2), cell?_putRow_other _ _ g _ _ _ (Or.inl k2)]; exact h2)
  have hc := AnyE.slices_DeleteFunc Tryz.delFn (Value.int .i64) (fun _ => rfl) (fun x => decide ((lo : Int) ≤ x) && decide (x < (hi : Int))) 213 _ eg 0 Tryz.zeroValue3 g 0 cap _ w hp hpo hH (by rw [hsz]; omega) (by rw [hsz]; omega)
  rw [hsz] at hc
  refine hc.mono ?_
  rintro e w' ⟨rfl, q, rfl⟩
  have hf : ((xs.map (fun x : Nat => (x : Int))).toArray.toList.filter fun x => !(decide ((lo : Int) ≤ x) && decide (x < (hi : Int)))) = (outside lo hi xs).map (fun x : Nat => (x : Int)) := by
   unfold outside
   rw [List.filter_map]
   congr 1
   refine List.filter_congr fun x _ => ?_
   simp
  rw [hf, List.length_map]
  have hlo := outside_len lo hi xs
  have ho := row_put hg g3 g2 ((outside lo hi xs).map (fun x : Nat => (x : Int)) ++ List.replicate (xs.length - (outside lo hi xs).length) 0).toArray (by simp; omega) q (outside lo hi xs) (by simp) (by simp)
  refine ⟨_, rfl, ho, by rw [rowOf_cut (some ⟨g, 0, none⟩) _ xs.length cap], ?_⟩
  rw [g4]
  exact putRow_grown w g _ q
end Go.Proofs.YtbimcogdbafjpaaGreat
namespace Go.Proofs.YtbimcogdbafjpaaGreat
open Go.RowKit Go.Maps
def FL.rmTo (S : FL) (k lo hi i : Nat) : FL := ⟨fun j => if j = k then outside lo hi (S.g j) else S.g j, fun m j => if j = k ∧ m < i then outside lo hi (S.c m j) else S.c m j⟩
theorem FL.rmTo_zero (S : FL) (k lo hi : Nat) : S.rmTo k lo hi 0 = S.setG k (outside lo hi (S.g k)) := by
 refine FL.ext' (fun j => ?_) (fun m j => ?_)
 ·rw [FL.setG_g]
  show (if j = k then outside lo hi (S.g j) else S.g j) = _
  by_cases e : j = k
  ·subst e; simp
  ·simp [e]
 ·show (if j = k ∧ m < 0 then outside lo hi (S.c m j) else S.c m j) = _
  rw [if_neg (by omega)]; rfl
theorem FL.rmTo_succ (S : FL) (k lo hi i : Nat) : S.rmTo k lo hi (i + 1) = (S.rmTo k lo hi i).setC i k (outside lo hi ((S.rmTo k lo hi i).c i k)) := by
 refine FL.ext' (fun j => ?_) (fun m j => ?_)
 ·rw [FL.setC_g]; rfl
 ·rw [FL.setC_c]
  show (if j = k ∧ m < i + 1 then outside lo hi (S.c m j) else S.c m j) = if m = i ∧ j = k then outside lo hi (if k = k ∧ i < i then outside lo hi (S.c i k) else S.c i k) else (if j = k ∧ m < i then outside lo hi (S.c m j) else S.c m j)
  rw [if_neg (show ¬ (k = k ∧ i < i) by omega)]
  by_cases e : j = k
  ·subst e
   by_cases e2 : m = i
   ·subst e2; simp
   ·by_cases e3 : m < i
    ·rw [if_pos (by omega), if_neg (by omega), if_pos (by omega)]
    ·rw [if_neg (by omega), if_neg (by omega), if_neg (by omega)]
  ·simp [e]
theorem FL.rmTo_all (S : FL) (k lo hi : Nat) : S.rmTo k lo hi 4 = S.remove k lo hi := by
 refine FL.ext' (fun j => ?_) (fun m j => ?_)
 ·show (if j = k then outside lo hi (S.g j) else S.g j) = if j = k then (S.g k).filter _ else S.g j
  by_cases e : j = k
  ·subst e; rfl
  ·simp [e]
 ·show (if j = k ∧ m < 4 then outside lo hi (S.c m j) else S.c m j) = if j = k ∧ m < 4 then (S.c m k).filter _ else S.c m j
  by_cases e : j = k
  ·subst e; rfl
  ·simp [e]
theorem FL.rmTo_upto {S : FL} {N : Nat} (h : S.upto N) (k lo hi i : Nat) : (S.rmTo k lo hi i).upto N := by
 intro j hj
 have := h j hj
 unfold FL.at at this ⊢
 show (if j < 32 then (if j = k then outside lo hi (S.g j) else S.g j) else (if (j - 32) % 32 = k ∧ (j - 32) / 32 < i then outside lo hi (S.c ((j - 32) / 32) ((j - 32) % 32)) else S.c ((j - 32) / 32) ((j - 32) % 32))).length ≤ N
 split at this
 ·rw [if_pos (by assumption)]
  split
  ·exact Nat.le_trans (outside_len _ _ _) this
  ·exact this
 ·rw [if_neg (by assumption)]
  split
  ·exact Nat.le_trans (outside_len _ _ _) this
  ·exact this
set_option maxHeartbeats 4000000 in
set_option maxRecDepth 20000 in
theorem fremove_any {w : World} {f mb n : Nat} {R : List Nat} {S : FL} (h : FreeAt w f mb n R S) (hL : S.upto 900000) (hn : n < 1000000000000) (k lo hi : Nat) (hk : k < 32) :
  Calls Tryz.prog 168 #[vfree f, .int .i64 (k : Int), .int .i64 (lo : Int), .int .i64 (hi : Int)] w fun e w' => (∃ x, e = .returned (.int .i64 x)) ∧ FreeGo w w' f mb (n + 4) R (S.remove k lo hi) := by
 have HB0 := LH (Mem.two w #[.int .i64 (lo : Int)] 3 #[.int .i64 (hi : Int)] 3)
 have HF0 := LH (h.below HB0.out.below)
 have HW0 := LH HB0.out.below
 have HRlt := LH h.mem
 have HUp := LH hL
 have HP : Hid (∀ x w', FreeGo w w' f mb (n + 4) R (S.remove k lo hi) → (fun e w' => (∃ x, e = Ending.returned (.int .i64 x)) ∧ FreeGo w w' f mb (n + 4) R (S.remove k lo hi)) (.returned (.int .i64 x)) w') := LH (fun x w' h => ⟨⟨x, rfl⟩, h⟩)
 generalize (fun e w' => (∃ x, e = Ending.returned (.int .i64 x)) ∧ FreeGo w w' f mb (n + 4) R (S.remove k lo hi)) = Post at *
 clear h hL
 go_enter Tryz.func168, Tryz.ntmps168
 go_upto_region 1 with fail
 generalize (w.alloc _).alloc _ = w0 at *
 obtain ⟨q, hq⟩ : ∃ q, q = w.heap.size := ⟨_, rfl⟩
 rw [← hq] at HB0 HRlt ⊢
 have HQ := LH hq
 clear hq
 go_wp2_with fail
 refine (cright_any _ _).mono ?_
 rintro e w1 ⟨rfl, rfl⟩
 rw [decide_eq_true (show (0 : Int) ≤ (k : Int) ∧ (k : Int) < 32 by omega)]
 have HLen := LH (flen_any HF0.out HUp.out k hk)
 go_wp2_with fail
 refine HLen.out.mono ?_
 rintro e w1 ⟨rfl, hb1⟩
 have HB1 := LH (HB0.out.later hb1)
 have HF1 := LH (HF0.out.below hb1)
 have HW1 := LH (HW0.out.trans (hb1.mono HW0.out.size))
 generalize (S.all k).length = N0 at *
 clear hb1 HLen
 obtain ⟨V, hfv⟩ := HF1.out.v
 have HFV := LH hfv
 clear hfv
 go_upto_region 5 with fail
 have HOg : Hid (OwnI w1 (V k) (S.g k)) := LH (by have := HFV.out.inn.rows k (by omega); rwa [S.at_g hk] at this)
 have HLg : Hid ((S.g k).length ≤ 900000) := LH (by have := HUp.out k (by omega); rwa [S.at_g hk] at this)
 have hfn : f ∉ (rowOf (V k)).toList := fun hm => (HFV.out.inn.neF k (by omega)).1 (by simpa using hm)
 have hqR : Hid (∀ b, rowOf (V k) = some b → b < q) := LH (fun b hb => HRlt.out b (HFV.out.rows k (by omega) b hb))
 have r0 := fun x => near_cell (L := (rowOf (V k)).toList) (HFV.out.inn.g hk) hfn x
 have hC1 : ∃ x : Near (rowOf (V k)).toList w1, w1.drew = x.val := near_of (Touch.ofBelow (later_below (later_drew w1)))
 have HD1 : Hid (Below w1.heap.size w1 w1.drew) := LH (later_below (later_drew w1))
 clear hfn
 refine wp_region_seg (C := fun w' => ∃ x : Near (rowOf (V k)).toList w1, w' = x.val) [.fl [0, 1, 2, 3, 4, 5, 6, 7, 8, 10, 11], .sq [9] true, .sq [12, 13] false] (by kernel_rfl) (by kernel_rfl) (by intro c a d v w h; cases d <;> exact h) ?_
 simp only [segs, picks, List.getElem?_cons_succ, List.getElem?_cons_zero]
 refine wpSeg_fl hC1 ?_
 repeat (first | go_big_quiet_step (fail) | quiet_step (fail))
 refine wpQuiet_nil ?_
 clear r0
 generalize w1.drew = wd at *
 have HOd : Hid (OwnI wd (V k) (S.g k)) := LH (HOg.out.keep (fun b hb => HD1.out.block b (HOg.out.lt b hb)))
 have HBd := LH (HB1.out.later HD1.out)
 have HDel := LH (deleteI_any HOd.out (by have := HLg.out; omega) lo hi q (q + 1) (HBd.out.cell 0 0 rfl rfl) (HBd.out.cell 1 0 rfl rfl) (fun e => Nat.lt_irrefl _ (hqR.out _ e)) (fun e => by have := hqR.out _ e; omega))
 refine wpSeg_sq (fun K hK => ?_)
 go_wp2_with fail
 refine HDel.out.mono ?_
 rintro e w2 ⟨v2, rfl, ho2, hrow2, hg2⟩
 have HO2 := LH ho2
 have HRow2 := LH hrow2
 have HG2 := LH hg2
 have hC2 := near_of ((Touch.ofBelow HD1.out).trans (grown_touchO hg2))
 clear ho2 hrow2 hg2 HDel
 go_wp2_with fail
 refine hK _ _ (fun _ => hC2) ?_
 clear hK K
 have hst := step_g HFV.out.inn hk HFV.out.f HFV.out.mb HFV.out.lt HD1.out HG2.out HO2.out (fun b hb => .inl (by rw [← HRow2.out]; exact hb))
 have hos : (w2.setCell ⟨f, k, none⟩ v2).os = w1.os ∧ (w2.setCell ⟨f, k, none⟩ v2).tape = w1.tape ∧ (w2.setCell ⟨f, k, none⟩ v2).output = w1.output := ⟨HG2.out.os.trans HD1.out.os, HG2.out.tape.trans HD1.out.tape, HG2.out.output.trans HD1.out.output⟩
 have HGo0 : Hid (FreeGo w1 (w2.setCell ⟨f, k, none⟩ v2) f mb n R (S.rmTo k lo hi 0)) := LH (by rw [FL.rmTo_zero]; exact hst.go HFV.out.inn (by omega) HFV.out.f HFV.out.mb HFV.out.lt HFV.out.rows hos)
 have HFh : Hid (w2.heap[f]? = some (.cells ((List.range 32).map V ++ [Value.map (some mb)]).toArray 255 (0, 0))) := LH (by
  have := (HG2.out.block f (Nat.lt_of_lt_of_le (HFV.out.lt f HFV.out.f) HD1.out.size) (fun e => (HFV.out.inn.neF k (by omega)).1 e.symm)).trans (HD1.out.block f (HFV.out.lt f HFV.out.f))
  exact this.trans HFV.out.inn.head)
 have fr : w2.frozen? ⟨f, k, none⟩ = false := frozen_of_row _ _ _ _ _ HFh.out
 have ck1 : w2.cell? ⟨f, k, none⟩ = some (V k) := (cell_of_row _ _ k _ _ _ HFh.out).trans (HFV.out.inn.lt hk)
 obtain ⟨a', c', e', _⟩ := HO2.out.cells
 obtain ⟨l', hl'⟩ : ∃ l', l' = (outside lo hi (S.g k)).length := ⟨_, rfl⟩
 rw [← hl'] at e'
 subst e'
 clear hst hl' hos
 refine wpSeg_last ?_
 go_wp2_with fail
 generalize w2.setCell _ _ = w3 at *
 clear ck1 fr HFh HO2 HRow2 HG2 HOd HOg hC1 hC2 HBd HD1 hqR
 go_loopw [35] (fun iv wr => ∃ i : Nat, i ≤ 4 ∧ iv = .int .i64 (i : Int) ∧ Hid (FreeGo w1 wr f mb (n + i) R (S.rmTo k lo hi i))) (fun iv _ => 4 - (intOf iv).toNat)
 case atStart => exact ⟨0, by omega, rfl, HGo0⟩
 case round =>
  obtain ⟨i, hi4, rfl, HGo⟩ := hrel
  obtain ⟨R1, hfa, ht1, hr1⟩ := HGo.out
  have HT1 := LH ht1
  have HR1 := LH hr1
  have HUpr : Hid ((S.rmTo k lo hi i).upto 900000) := LH (FL.rmTo_upto HUp.out k lo hi i)
  by_cases hlt : i < 4
  case neg =>
   obtain rfl : i = 4 := by omega
   have HLen := LH (flen_any hfa HUpr.out k hk)
   clear hfa ht1 hr1
   generalize ((S.rmTo k lo hi 4).all k).length = N1 at *
   go_wp2_with fail
   refine HLen.out.mono ?_
   rintro e w5 ⟨rfl, hb5⟩
   have HFin : Hid (FreeGo w w5 f mb (n + 4) R (S.remove k lo hi)) := LH (by
    have h1 := HGo.out.later hb5
    rw [FL.rmTo_all] at h1
    exact h1.own HQ.out HW1.out)
   clear hb5
   go_wp2_with fail
   exact HP.out _ _ HFin.out
  obtain ⟨V1, hfv⟩ := hfa.v
  have HMem := LH (Mem.one wr #[.int .i64 (i : Int), .int .i64 (k : Int)] 288)
  have HFV1 := LH (hfv.below HMem.out.below)
  have HFVr := LH hfv.lt
  have hfvrows := LH hfv.rows
  have HW2 := LH HMem.out.below
  have HStep := LH (FL.rmTo_succ S k lo hi i)
  have hq1R : Hid (∀ b ∈ R, b < q) := HRlt
  have HBr : Hid (wr.cell? ⟨q, 0, none⟩ = some (.int .i64 (lo : Int)) ∧ wr.cell? ⟨q + 1, 0, none⟩ = some (.int .i64 (hi : Int))) := LH ⟨cell_of_touch ht1 (fun hm => Nat.lt_irrefl q (HRlt.out q hm)) (HB1.out.cell 0 0 rfl rfl), cell_of_touch ht1 (fun hm => by have := HRlt.out (q + 1) hm; omega) (HB1.out.cell 1 0 rfl rfl)⟩
  have HQ1 := LH (HB1.out.glt 1 rfl)
  generalize S.rmTo k lo hi i = T at *
  clear hfa ht1 hr1 hfv
  go_upto_region 10 with fail
  obtain ⟨qs, hqs⟩ : ∃ qs, qs = wr.heap.size := ⟨_, rfl⟩
  rw [← hqs] at HMem ⊢
  have HQs := LH hqs
  clear hqs
  generalize wr.alloc _ = wa at *
  have hsl : slotI i k < 160 := by unfold slotI; omega
  have hkey := key_slot (i : Int) (k : Int) (wf_small i (by omega)) (wf_small k (by omega))
  have r0 := fun x => later_cell (HMem.out.cell 0 0 rfl rfl) x
  have r1 := fun x => later_cell (HMem.out.cell 0 1 rfl rfl) x
  have r2 := fun x => later_cell HFV1.out.inn.m x
  refine wp_region_seg (C := fun w' => ∃ x : Later (wa), w' = x.val) [.fl [0, 1, 2, 3, 4], .sq [5, 6] false, .fl [7, 8, 9], .sq [10] false] (by kernel_rfl) (by kernel_rfl) (by intro c a d v w h; cases d <;> exact h) ?_
  simp only [segs, picks, List.getElem?_cons_succ, List.getElem?_cons_zero]
  have hC3 := later_drew (wa)
  refine wpSeg_fl hC3 ?_
  repeat (first | go_big_quiet_step (fail) | quiet_step (fail))
  refine wpQuiet_nil ?_
  clear r0 r1 r2
  have HD3 : Hid (Below wa.heap.size wa wa.drew) := LH (later_below hC3)
  generalize wa.drew = wb at *
  have HFb := LH (HFV1.out.below HD3.out)
  have HMb := LH (HMem.out.later HD3.out)
  have HBb : Hid (wb.cell? ⟨q, 0, none⟩ = some (.int .i64 (lo : Int)) ∧ wb.cell? ⟨q + 1, 0, none⟩ = some (.int .i64 (hi : Int))) := LH (by
   have hbb := HW2.out.trans (HD3.out.mono HW2.out.size)
   exact ⟨(hbb.cell (p := ⟨q, 0, none⟩) (World.block_lt_of_cell? _ _ HBr.out.1)).trans HBr.out.1, (hbb.cell (p := ⟨q + 1, 0, none⟩) (World.block_lt_of_cell? _ _ HBr.out.2)).trans HBr.out.2⟩)
  obtain ⟨M, hm, hv⟩ := HFb.out.inn.map
  have HM := LH hm
  have HV := LH hv
  have HVi := LH (hv i k hlt hk)
  have HOs : Hid (OwnI wb (V1 (slotI i k)) (T.c i k)) := LH (by have := HFb.out.inn.rows (slotI i k) hsl; rwa [T.at_c i hk] at this)
  have HLs : Hid ((T.c i k).length ≤ 900000) := LH (by have := HUpr.out (slotI i k) hsl; rwa [T.at_c i hk] at this)
  clear hm hv
  obtain ⟨sl, hsle⟩ : ∃ sl, sl = slotI i k := ⟨_, rfl⟩
  rw [← hsle] at HVi HOs hsl
  have HSl := LH hsle
  clear hsle
  cases hM : M (pairKey i k) with
  | none =>
   have HVn := HVi.out
   rw [hM] at HVn
   have HVn := LH HVn
   have HNext : Hid (FreeGo w1 wb f mb (n + (i + 1)) R (S.rmTo k lo hi (i + 1))) := LH (by
    have e0 : T.c i k = [] := by
     have h1 := HOs.out
     rw [← HVn.out] at h1
     obtain ⟨a, c, e, _⟩ := h1.cells
     injection e with _ e2 _
     exact List.length_eq_zero_iff.1 e2.symm
    have e1 : S.rmTo k lo hi (i + 1) = T := by
     rw [HStep.out, e0]
     have := T.setC_same i k
     rw [e0] at this
     exact this
    rw [e1]
    exact ((HGo.out.later HW2.out).later HD3.out).mono (by omega))
   have HMn := LH hM
   clear hM
   refine wpSeg_sq (fun K hK => ?_)
   go_wp2_with (refine wpList_vlook_ok rfl _ _ 252 rfl 288 35 keyed_slot Tryz.underlying252 _ (zero_ints _) mb (n + i) M rfl HM.out _ _ rfl hkey ?_; rw [HMn.out])
   go_wp2_with fail
   refine hK _ _ (fun h => nomatch h) ?_
   clear hK K
   refine wpSeg_fl hC3 ?_
   repeat (first | go_big_quiet_step (fail) | quiet_step (fail))
   refine wpQuiet_nil ?_
   refine wpSeg_last ?_
   go_wp2_with fail
   go_roundw
   case rel => exact ⟨i + 1, by omega, vint (by omega), HNext⟩
   case measure => simp [intOf]; omega
  | some v =>
   have HVs : Hid (V1 sl = v) := LH (by have := HVi.out; rw [hM] at this; exact this.symm)
   have HMn := LH hM
   clear hM
   refine wpSeg_sq (fun K hK => ?_)
   go_wp2_with (refine wpList_vlook_ok rfl _ _ 252 rfl 288 35 keyed_slot Tryz.underlying252 _ (zero_ints _) mb (n + i) M rfl HM.out _ _ rfl hkey ?_; rw [HMn.out])
   go_wp2_with fail
   refine hK _ _ (fun h => nomatch h) ?_
   clear hK K
   refine wpSeg_fl hC3 ?_
   repeat (first | go_big_quiet_step (fail) | quiet_step (fail))
   refine wpQuiet_nil ?_
   refine wpSeg_last ?_
   go_upto_region 12 with fail
   have hfn : f ∉ (rowOf v).toList := fun hm => (HFb.out.inn.neF sl hsl).1 (by rw [HVs.out]; simpa using hm)
   have hqn : qs ∉ (rowOf v).toList := fun hm => by
    have h1 := HFVr.out qs (hfvrows.out sl hsl qs (by rw [HVs.out]; simpa using hm))
    have h2 := HQs.out
    omega
   have r0 := fun x => near_cell (L := (rowOf v).toList) (HMb.out.cell 0 0 rfl rfl) hqn x
   have r1 := fun x => near_cell (L := (rowOf v).toList) (HMb.out.cell 0 1 rfl rfl) hqn x
   have r2 := fun x => near_cell (L := (rowOf v).toList) HFb.out.inn.m hfn x
   have hC4 : ∃ x : Near (rowOf v).toList wb, wb.drew = x.val := near_of (Touch.ofBelow (later_below (later_drew wb)))
   have HD4 : Hid (Below wb.heap.size wb wb.drew) := LH (later_below (later_drew wb))
   clear hfn hqn hC3
   refine wp_region_seg (C := fun w' => ∃ x : Near (rowOf v).toList wb, w' = x.val) [.fl [0, 1, 2, 3, 4, 5, 6], .sq [7] true, .sq [8] false] (by kernel_rfl) (by kernel_rfl) (by intro c a d v w h; cases d <;> exact h) ?_
   simp only [segs, picks, List.getElem?_cons_succ, List.getElem?_cons_zero]
   refine wpSeg_fl hC4 ?_
   repeat (first | go_big_quiet_step (fail) | quiet_step (fail))
   refine wpQuiet_nil ?_
   clear r0 r1 r2
   generalize wb.drew = wc at *
   have HOc : Hid (OwnI wc v (T.c i k)) := LH ((by rw [← HVs.out]; exact HOs.out : OwnI wb v (T.c i k)).keep (fun b hb => HD4.out.block b ((by rw [← HVs.out]; exact HOs.out : OwnI wb v (T.c i k)).lt b hb)))
   have hvq : ∀ b, rowOf v = some b → b ≠ q ∧ b ≠ q + 1 := fun b hb => by
    have h1 := hfvrows.out sl hsl b (by rw [HVs.out]; exact hb)
    rcases HR1.out b h1 with c | c
    ·have := HRlt.out b c; omega
    ·have := HQ1.out; omega
   have HDel := LH (deleteI_any HOc.out (by have := HLs.out; omega) lo hi q (q + 1) ((HD4.out.cell (p := ⟨q, 0, none⟩) (World.block_lt_of_cell? _ _ HBb.out.1)).trans HBb.out.1) ((HD4.out.cell (p := ⟨q + 1, 0, none⟩) (World.block_lt_of_cell? _ _ HBb.out.2)).trans HBb.out.2) (fun e => (hvq _ e).1 rfl) (fun e => (hvq _ e).2 rfl))
   clear hvq
   refine wpSeg_sq (fun K hK => ?_)
   go_wp2_with fail
   refine HDel.out.mono ?_
   rintro e w4 ⟨v4, rfl, ho4, hrow4, hg4⟩
   have HO4 := LH ho4
   have HRow4 := LH hrow4
   have HG4 := LH hg4
   have HT4 : Hid (Touch (rowOf v).toList wb w4) := LH ((Touch.ofBelow HD4.out).trans (grown_touchO hg4))
   have hC5 := near_of HT4.out
   clear ho4 hrow4 hg4 HDel
   go_wp2_with fail
   refine hK _ _ (fun _ => hC5) ?_
   clear hK K
   have hmbn : rowOf v ≠ some mb := by rw [← HVs.out]; exact (HFb.out.inn.neF sl hsl).2
   have HM4 : Hid (VMap Tryz.prog 288 w4 mb (n + i) M) := LH (HM.out.block (HT4.out.block mb (HFb.out.lt mb HFb.out.mb) (fun hm => hmbn (by simpa using hm))))
   have HNm : Hid (n + i < maxLen) := LH (by unfold maxLen; omega)
   refine wpSeg_last ?_
   go_wp2_with (refine wpList_vstore rfl _ _ _ 252 rfl 288 35 keyed_slot Tryz.underlying252 mb (n + i) M rfl HM4.out HNm.out _ _ _ rfl rfl hkey ?_; intro w5 hm5 hg5; have HM5 := LH hm5; have HG5 := LH hg5; clear hm5 hg5)
   have hst := step_ca (v := v4) (xs := outside lo hi (T.c i k)) HFb.out.inn hlt hk HFb.out.f HFb.out.mb HFb.out.lt HV.out (fun b hb h1 h2 => (HG5.out.block b (Nat.lt_of_lt_of_le hb HT4.out.size) (fun e => h1 (Option.some.inj e.symm).symm)).trans (HT4.out.block b hb (fun hm => h2 (by rw [← HSl.out, HVs.out]; simpa using hm)))) (Nat.le_trans HT4.out.size HG5.out.size) HM5.out
    (HO4.out.keep (fun b hb => HG5.out.block b (HO4.out.lt b hb) (fun e => hmbn (by rw [← HRow4.out, hb]; exact e))))
    (fun b hb => .inl (by rw [← HSl.out, HVs.out, ← HRow4.out]; exact hb))
   have hos : w5.os = wb.os ∧ w5.tape = wb.tape ∧ w5.output = wb.output := ⟨HG5.out.os.trans HT4.out.os, HG5.out.tape.trans HT4.out.tape, HG5.out.output.trans HT4.out.output⟩
   have HNext : Hid (FreeGo w1 w5 f mb (n + (i + 1)) R (S.rmTo k lo hi (i + 1))) := LH (by
    rw [HStep.out]
    exact FreeGo.more ((HT1.out.later HW2.out).later HD3.out) HR1.out HFb.out (by rw [← HSl.out]; exact hsl) hst hos)
   clear hst hos
   go_roundw
   case rel => exact ⟨i + 1, by omega, vint (by omega), HNext⟩
   case measure => simp [intOf]; omega
end Go.Proofs.YtbimcogdbafjpaaGreat
namespace Go.Proofs.YtbimcogdbafjpaaGreat
open Go.RowKit
def relN (h : Hd) : Int := if h.k = 1 then 1 else h.l
def Bm.release (m : Bm) (b : Int) : BmR :=
 if (hdGet m.list b).k ≠ 1 ∧ (hdGet m.list b).k ≠ 2 then ⟨m, 0, 42⟩ else
 (fun r1 : PutR => if r1.err ≠ 0 then ⟨⟨r1.dev, r1.list, m.free⟩, 0, r1.err⟩ else
  (fun r2 : PutR => if r2.err ≠ 0 then ⟨⟨r2.dev, r2.list, m.free⟩, 0, r2.err⟩ else ⟨⟨r2.dev, r2.list, (giveR m.free b (relN (hdGet m.list b))).1⟩, 0, (giveR m.free b (relN (hdGet m.list b))).2⟩)
   (putAll r1.dev r1.list (b + 1) (List.replicate (relN (hdGet m.list b) - 1).toNat ⟨0, 0, 0⟩)))
  (putAll m.dev m.list b [⟨0, 0, 0⟩])
def BmDone1 (w : World) (X : MF) (n B : Nat) (r : BmR) : Ending → World → Prop := fun e w' => e = .returned (.int .i64 r.err) ∧ ManAt w' X n B r.bm ∧ Touch X.hot w w'
theorem hdGet_in {l : List Hd} {b : Int} (h : (hdGet l b).k ≠ 0) : 1 ≤ b ∧ b < l.length := by
 unfold hdGet at h
 by_cases c : b < 1 ∨ (l.length : Int) ≤ b
 ·rw [if_pos c] at h; exact absurd rfl h
 ·omega
theorem hdCs_zeros (n : Nat) : hdCs (List.replicate n ⟨0, 0, 0⟩) = List.replicate (n * 3) (.int .i64 0) := by
 induction n with
 | zero => rfl
 | succ n ih =>
  rw [List.replicate_succ, show (⟨0, 0, 0⟩ : Hd) :: List.replicate n ⟨0, 0, 0⟩ = [⟨0, 0, 0⟩] ++ List.replicate n ⟨0, 0, 0⟩ from rfl, hdCs_append, ih, show (n + 1) * 3 = 3 + n * 3 by omega, ← List.replicate_append_replicate]
  rfl
set_option maxHeartbeats 4000000 in
set_option maxRecDepth 20000 in
theorem brelease_any {w : World} {X : MF} {n B : Nat} {m : Bm} (h : ManAt w X n B m) (hB : B ≤ 1000) (hn : n < 1000000000000) {N : Nat} (hN : N ≤ 999000000) (ho : m.dev.ok N) (hi : m.dev.inv) (hl : ∀ i, (m.list.getD i default).l ≤ 100000) (b : Int) :
  Calls Tryz.prog 157 #[.pointer (some ⟨X.m, 0, none⟩), .int .i64 b] w (BmDone1 w X (n + 1) B (m.release b)) := by
 generalize hr : m.release b = r
 generalize hP : BmDone1 w X (n + 1) B r = Post
 have HP := LH hP
 have HA := LH h
 have HLB : Hid (m.list.length = B) := LH h.tab.len
 have HLF : Hid (m.free.length = B) := LH h.lenF
 have HV : Hid (r = if (hdGet m.list b).k ≠ 1 ∧ (hdGet m.list b).k ≠ 2 then ⟨m, 0, 42⟩ else
  (fun r1 : PutR => if r1.err ≠ 0 then ⟨⟨r1.dev, r1.list, m.free⟩, 0, r1.err⟩ else
  (fun r2 : PutR => if r2.err ≠ 0 then ⟨⟨r2.dev, r2.list, m.free⟩, 0, r2.err⟩ else ⟨⟨r2.dev, r2.list, (giveR m.free b (relN (hdGet m.list b))).1⟩, 0, (giveR m.free b (relN (hdGet m.list b))).2⟩)
   (putAll r1.dev r1.list (b + 1) (List.replicate (relN (hdGet m.list b) - 1).toNat ⟨0, 0, 0⟩)))
  (putAll m.dev m.list b [⟨0, 0, 0⟩])) := LH (by rw [← hr]; rfl)
 have HIn := LH (hdGet_in (l := m.list) (b := b))
 have HZ : Hid ((hdGet m.list b).l ≤ 100000) := LH (by
  unfold hdGet
  split
  ·simp
  ·exact hl _)
 have c0 := h.c0
 have HTg := LH (fun W (h : ManAt W X n B m) => tget_any (h.tab.at (fun e => (MF.notHot (MF.apart h.nd).t).1 e)) b (by rw [h.tab.len]; exact hB))
 clear h hP hr
 obtain ⟨k, c, z, he⟩ : ∃ k c z, hdGet m.list b = ⟨k, c, z⟩ := ⟨_, _, _, rfl⟩
 rw [he] at HV HIn HZ HTg
 unfold Hd.val at HTg
 dsimp only at HV HIn HZ HTg
 clear he
 go_enter Tryz.func157, Tryz.ntmps157
 go_wp2_with fail
 refine (HTg.out _ HA.out).mono ?_
 rintro e w1 ⟨rfl, hb1⟩
 have HA1 := LH (HA.out.below hb1)
 have HT1 := LH (Touch.ofBelow (L := X.hot) hb1)
 clear hb1 c0 HTg HA
 have HM := LH (Mem.one w1 #[.int .i64 k, .int .i64 c, .int .i64 z] 104)
 have HA2 := LH (HA1.out.below HM.out.below)
 have HT2 := LH (HT1.out.later HM.out.below)
 clear HA1 HT1
 go_upto_region 2 with fail
 obtain ⟨q, hq⟩ : ∃ q, q = w1.heap.size := ⟨_, rfl⟩
 rw [← hq] at HM ⊢
 generalize w1.alloc _ = w2 at *
 clear hq
 have d0 := HM.out.cell 0 0 rfl rfl
 have d2 := HM.out.cell 0 2 rfl rfl
 by_cases hk : k ≠ 1 ∧ k ≠ 2
 ·have HE : Hid (r = ⟨m, 0, 42⟩) := LH (by rw [HV.out, if_pos hk])
  have q1 : (k == 1) = false := by simpa using hk.1
  have q2 : (k == 2) = false := by simpa using hk.2
  clear hk
  go_wp2_with fail
  rw [← HP.out, HE.out]
  exact ⟨rfl, HA2.out.mono (by omega), HT2.out⟩
 have hb := HIn.out (by omega)
 rw [HLB.out] at hb
 obtain ⟨b, rfl⟩ := Int.eq_ofNat_of_zero_le (show 0 ≤ b by omega)
 obtain ⟨z', hz'⟩ : ∃ z', z' = relN ⟨k, c, z⟩ := ⟨_, rfl⟩
 have hzk : (k = 1 ∧ z' = 1) ∨ (k = 2 ∧ z' = z) := by
  rw [hz']; unfold relN
  by_cases h1 : k = 1
  ·exact .inl ⟨h1, by rw [if_pos h1]⟩
  ·exact .inr ⟨by omega, by rw [if_neg h1]⟩
 rw [← hz'] at HV
 have HV2 : Hid (r = (fun r1 : PutR => if r1.err ≠ 0 then ⟨⟨r1.dev, r1.list, m.free⟩, 0, r1.err⟩ else
  (fun r2 : PutR => if r2.err ≠ 0 then ⟨⟨r2.dev, r2.list, m.free⟩, 0, r2.err⟩ else ⟨⟨r2.dev, r2.list, (giveR m.free (b : Int) z').1⟩, 0, (giveR m.free (b : Int) z').2⟩)
   (putAll r1.dev r1.list ((b : Int) + 1) (List.replicate (z' - 1).toNat ⟨0, 0, 0⟩)))
  (putAll m.dev m.list (b : Int) [⟨0, 0, 0⟩])) := LH (by rw [HV.out, if_neg hk])
 have hzz := HZ.out
 have hzm : z' ≤ 100000 := by rcases hzk with ⟨_, h⟩ | ⟨_, h⟩ <;> omega
 have hb1 : 1 ≤ b := by omega
 have hb2 : b < B := by omega
 clear HV HIn hb hk hz'
 go_upto_block 0 with fail
 go_cut [6] from 9 (fun v wc => v = .int .i64 z' ∧ wc = w2)
 case first =>
  rcases hzk with ⟨rfl, rfl⟩ | ⟨rfl, rfl⟩
  ·go_wp2_with fail
   go_meet
   case rel => exact ⟨rfl, rfl⟩
  ·go_wp2_with fail
   go_meet
   case rel => exact ⟨rfl, rfl⟩
 case rest =>
  obtain ⟨rfl, rfl⟩ := hcut
  clear d0 d2 hzk
  have c0 := HA2.out.c0
  have hbn := below_alloc wc (.cells #[.int .i64 0, .int .i64 0, .int .i64 0] 104)
  have HC2 : Hid (Cells (wc.alloc (.cells #[.int .i64 0, .int .i64 0, .int .i64 0] 104)) (some ⟨wc.heap.size, 0, none⟩) (hdCs [⟨0, 0, 0⟩])) := LH (by
   rw [hdCs_single]
   exact (RowAt.cells ⟨_, heap_alloc_new _ _, [], rfl⟩))
  have HPut := LH (mput_any (HA2.out.below hbn) hB (by omega) ho (some ⟨wc.heap.size, 0, none⟩) 1 1 [⟨0, 0, 0⟩] rfl HC2.out (fun _ b o s e hm => by
   cases e
   exact HA2.out.lt (Nat.le_refl _) hm) (by omega) (b : Int))
  have HTa := LH (HT2.out.later hbn)
  clear hbn HC2
  go_wp2_with fail
  refine HPut.out.mono ?_
  rintro e w3 ⟨rfl, ha3, ht3⟩
  dsimp only at ha3 ⊢
  obtain ⟨r1, hr1⟩ : ∃ r1, r1 = putAll m.dev m.list (b : Int) [⟨0, 0, 0⟩] := ⟨_, rfl⟩
  rw [← hr1] at HV2 ha3 ⊢
  have HLen1 : Hid (r1.list.length = B) := LH (by rw [hr1, putAll_len]; exact HLB.out)
  have HOk1 : Hid (r1.dev.ok (N + 1 + 200000)) := LH (by have := putAll_ok hi ho m.list (b : Int) [⟨0, 0, 0⟩]; rw [← hr1] at this; exact this)
  have HV3 : Hid (r = if r1.err ≠ 0 then ⟨⟨r1.dev, r1.list, m.free⟩, 0, r1.err⟩ else
   (fun r2 : PutR => if r2.err ≠ 0 then ⟨⟨r2.dev, r2.list, m.free⟩, 0, r2.err⟩ else ⟨⟨r2.dev, r2.list, (giveR m.free (b : Int) z').1⟩, 0, (giveR m.free (b : Int) z').2⟩)
    (putAll r1.dev r1.list ((b : Int) + 1) (List.replicate (z' - 1).toNat ⟨0, 0, 0⟩))) := LH HV2.out
  have HA3 := LH ha3
  have HT3 := LH (HTa.out.trans ht3)
  clear ha3 ht3 HV2 HPut HTa HT2 HA2 c0 hr1
  obtain ⟨e1, he1⟩ : ∃ e1, e1 = r1.err := ⟨_, rfl⟩
  rw [← he1] at HV3 ⊢
  clear he1
  by_cases hz : e1 = 0
  case neg =>
   have hz' : (e1 != 0) = true := by simpa using hz
   have HE : Hid (r = ⟨⟨r1.dev, r1.list, m.free⟩, 0, e1⟩) := LH (by rw [HV3.out, if_pos hz])
   clear hz
   go_wp2_with fail
   rw [← HP.out, HE.out]
   exact ⟨rfl, HA3.out.mono (by omega), HT3.out⟩
  subst hz
  obtain ⟨r2, hr2⟩ : ∃ r2, r2 = putAll r1.dev r1.list ((b : Int) + 1) (List.replicate (z' - 1).toNat ⟨0, 0, 0⟩) := ⟨_, rfl⟩
  have HV4 : Hid (r = if r2.err ≠ 0 then ⟨⟨r2.dev, r2.list, m.free⟩, 0, r2.err⟩ else ⟨⟨r2.dev, r2.list, (giveR m.free (b : Int) z').1⟩, 0, (giveR m.free (b : Int) z').2⟩) := LH (by rw [HV3.out, if_neg (by simp), ← hr2])
  have HR2 := LH hr2
  clear HV3 hr2
  go_upto_if 35 with fail
  go_cut [] from 9 (fun wd => r2.err = 0 ∧ ManAt wd X n B ⟨r2.dev, r2.list, m.free⟩ ∧ Touch X.hot w wd)
  case first =>
   by_cases hz1 : z' ≤ 1
   ·have HE : Hid (r2 = ⟨r1.dev, r1.list, 0⟩) := LH (by
     rw [HR2.out, show (z' - 1).toNat = 0 by omega]
     exact putAll_none _ (by omega) (by rw [HLen1.out]; omega))
    have q3 : decide (1 < z') = false := by simp; omega
    have q3p : ¬ 1 < z' := by omega
    go_wp2_with fail
    go_meet
    case rel => rw [HE.out]; exact ⟨rfl, HA3.out, HT3.out⟩
   ·obtain ⟨y, hy⟩ : ∃ y : Nat, y = (z' - 1).toNat := ⟨_, rfl⟩
    have hy1 : 1 ≤ y := by omega
    have hy9 : y ≤ 100000 := by omega
    have HY : Hid (z' - 1 = (y : Int)) := LH (by omega)
    rw [← hy] at HR2
    have q3p : 1 < z' := by omega
    clear hy hz1
    have c0 := HA3.out.c0
    go_upto_region 12 with fail
    have r0 := fun x => later_cell c0 x
    clear c0
    have hw1 : IntKind.i64.wrap ((b : Int) + 1) = (b : Int) + 1 := IntWalk.i64_in _ (by omega)
    have hw2 : IntKind.i64.wrap (z' - 1) = (y : Int) := by rw [IntWalk.i64_in _ (by omega)]; exact HY.out
    refine wp_region_seg (C := fun w' => ∃ x : Later (w3), w' = x.val) [.fl [0, 1, 2, 3, 4, 5, 6, 7], .sq [8] true, .sq [9, 10] false] (by kernel_rfl) (by kernel_rfl) (by intro c a d v w h; cases d <;> exact h) ?_
    simp only [segs, picks, List.getElem?_cons_succ, List.getElem?_cons_zero]
    have hC1 := later_drew (w3)
    refine wpSeg_fl hC1 ?_
    repeat (first | go_big_quiet_step (fail) | quiet_step (fail))
    refine wpQuiet_nil ?_
    clear r0
    have HA3d := LH (HA3.out.below (later_below hC1))
    have HT3d := LH (HT3.out.later (later_below hC1))
    generalize w3.drew = w3d at *
    refine wpSeg_sq (fun K hK => ?_)
    go_wp2_with (at_make; refine wpList_make_rows elHd w3d.heap.size y (z := .int .i64 0) (by intro i hi; simp at hi; rcases i with _ | _ | _ | i <;> first | rfl | omega) (by omega) (by omega) (by omega) (by decide) (Nat.le_refl _) rfl rfl rfl rfl ?_; intro w4 hown hgrow; have HO4 := LH hown; have HG4 := LH hgrow; clear hown hgrow)
    have HB4 := LH (below_grown HG4.out (Nat.le_refl _))
    have hC2 := later_step hC1 HB4.out
    go_wp2_with fail
    refine hK _ _ (fun _ => hC2) ?_
    clear hK K
    refine wpSeg_last ?_
    go_wp2_with fail
    refine (mput_any (HA3d.out.below HB4.out) hB (N := N + 1 + 200000) (by omega) HOk1.out _ y y (List.replicate y ⟨0, 0, 0⟩) (by simp) (by rw [hdCs_zeros]; exact Cells.owned2 HO4.out) (fun _ b o s e hm => ?_) (by omega) ((b : Int) + 1)).mono ?_
    ·cases e
     exact HA3d.out.lt (Nat.le_refl _) hm
    rintro e w5 ⟨rfl, ha5, ht5⟩
    dsimp only at ha5 ⊢
    rw [← HR2.out] at ha5 ⊢
    have HA5 := LH ha5
    have HT5 := LH ((HT3d.out.later HB4.out).trans ht5)
    clear ha5 ht5 hC1 hC2
    obtain ⟨e2, he2⟩ : ∃ e2, e2 = r2.err := ⟨_, rfl⟩
    rw [← he2] at HV4 ⊢
    have HE2 := LH he2
    clear he2
    by_cases hz : e2 = 0
    ·subst hz
     go_wp2_with fail
     go_meet
     case rel => exact ⟨HE2.out.symm, HA5.out, HT5.out⟩
    ·have hz' : (e2 != 0) = true := by simpa using hz
     have HE : Hid (r = ⟨⟨r2.dev, r2.list, m.free⟩, 0, e2⟩) := LH (by rw [HV4.out, if_pos hz])
     clear hz
     go_wp2_with fail
     rw [← HP.out, HE.out]
     exact ⟨rfl, HA5.out.mono (by omega), HT5.out⟩
  case rest =>
   obtain ⟨he2, ha5, ht5⟩ := hcut
   have HE : Hid (r = ⟨⟨r2.dev, r2.list, (giveR m.free (b : Int) z').1⟩, 0, (giveR m.free (b : Int) z').2⟩) := LH (by rw [HV4.out, if_neg (by rw [he2]; simp)])
   have HA5 := LH ha5
   have HT5 := LH ht5
   have c1 := HA5.out.c1
   clear he2 ha5 ht5 HV4
   go_wp2_with fail
   refine (mgive_any HA5.out hB hn (b : Int) z').mono ?_
   rintro e w6 ⟨rfl, ha6, ht6⟩
   have HA6 := LH ha6
   have HT6 := LH (HT5.out.trans ht6)
   clear ha6 ht6
   go_wp2_with fail
   rw [← HP.out, HE.out]
   exact ⟨rfl, HA6.out, HT6.out⟩
theorem aggGe : Agg Tryz.prog 46 #[.int .i64 0] := ⟨⟨_, Tryz.underlying46, rfl⟩, by kernel_rfl⟩
set_option maxHeartbeats 1000000 in
theorem bgeom_any {w : World} {X : MF} {n B : Nat} {m : Bm} (h : ManAt w X n B m) :
  Calls Tryz.prog 17 #[.pointer (some ⟨X.m, 0, none⟩)] w fun e w' => e = .returned (vgeom (B : Int)) ∧ Below w.heap.size w w' := by
 have HM := LH (Mem.one w #[.int .i64 0] 46)
 have c2 := (h.below HM.out.below).c2
 clear h
 unfold vgeom
 go_enter Tryz.func17, Tryz.ntmps17
 go_upto_region 1 with fail
 generalize w.alloc _ = w0 at *
 obtain ⟨q, hq⟩ : ∃ q, q = w.heap.size := ⟨_, rfl⟩
 rw [← hq] at HM ⊢
 have HQ := LH hq
 clear hq
 go_wp2_with (refine wpList_store_mem aggGe HM.out 0 rfl rfl rfl rfl rfl rfl rfl rfl ?_; intro w9 h9 _; have H9 := LH h9; clear h9)
 refine bodyPost_ret (results_cell_row rfl _ _ _ _ _ _ _ rfl (H9.out.exact 0 rfl) Tryz.underlying46 rfl (by kernel_rfl)) rfl ⟨rfl, H9.out.below⟩
structure Dev.fit (S : Dev) (N : Nat) : Prop where
 wf : S.wf
 ok : S.ok N
 arm : S.armed = true → 0 ≤ S.fuse
theorem Dev.fit.mono {S : Dev} {N M : Nat} (h : S.fit N) (hM : N ≤ M) : S.fit M := ⟨h.wf, h.ok.mono hM, h.arm⟩
theorem Dev.step_fit {S : Dev} {N : Nat} (h : S.fit N) : S.step.fit (N + 1) := by
 refine ⟨Dev.step_wf h.wf, Dev.step_ok h.ok, ?_⟩
 unfold Dev.step
 have ha := h.arm
 have hst : S.stop = false → S.armed = true → ¬ S.fuse = 0 := fun h1 h2 => by unfold Dev.stop at h1; simp [h2] at h1; exact h1.2
 cases hs : S.stop
 ·intro c
  have c1 := ha c
  have c2 := hst hs c
  simp at c1 c2 ⊢
  omega
 ·exact ha
theorem Dev.hold_wf {S : Dev} (h : S.wf) (j : Nat) (hj : j < S.dirty.length) : (S.hold j).wf := by
 have hs := seg_length S.cache j (by have := h.lenD; omega)
 unfold Dev.hold
 split
 ·exact ⟨h.lenL, by show (splice _ _ _).length = _; rw [length_splice _ _ _ (by rw [hs, h.lenF, h.lenD]; omega)]; exact h.lenF, by simp [h.lenP], h.lenD, h.small, h.u64L, h.u64C, splice_lt _ h.u64F (seg_lt _ h.u64C)⟩
 ·exact h
theorem Dev.flush_fit {S : Dev} {N : Nat} (h : S.fit N) (j : Int) : (S.flush j).fit (N + 1) := by
 have h1 := Dev.step_fit h
 unfold Dev.flush
 split
 ·exact h.mono (by omega)
 ·split
  ·exact h1
  ·rename_i c _
   have e4 := S.step_rest.2.2.2.1
   refine ⟨Dev.hold_wf h1.wf _ (by rw [e4]; omega), ?_, ?_⟩
   ·have := Dev.hold_same S.step j.toNat
    unfold Dev.ok
    rw [this.1, this.2]
    exact h1.ok
   ·unfold Dev.hold
    split <;> exact h1.arm
theorem Dev.flush_dl (S : Dev) (j : Int) : (S.flush j).dirty.length = S.dirty.length := by rw [(Dev.flush_len S j).2]
theorem flushRun_fit {S : Dev} {N : Nat} (h : S.fit N) (a : Nat) : ∀ k, (S.flushRun a k).dev.fit (N + k)
 | 0 => h
 | k + 1 => by
  rw [Dev.flushRun]
  split
  ·exact (flushRun_fit h a k).mono (by omega)
  ·exact Dev.flush_fit (flushRun_fit h a k) _
theorem flushRun_dl (S : Dev) (a : Nat) : ∀ k, (S.flushRun a k).dev.dirty.length = S.dirty.length
 | 0 => rfl
 | k + 1 => by
  rw [Dev.flushRun]
  split
  ·exact flushRun_dl S a k
  ·dsimp only; rw [Dev.flush_dl]; exact flushRun_dl S a k
end Go.Proofs.YtbimcogdbafjpaaGreat
namespace Go.Proofs.YtbimcogdbafjpaaGreat
theorem nat_ext {a b : List Nat} (hl : a.length = b.length) (h : ∀ i, a.getD i 0 = b.getD i 0) : a = b := by
 apply List.ext_getElem hl
 intro i h1 h2
 have := h i
 simpa [h1, h2] using this
theorem bool_ext {a b : List Bool} (hl : a.length = b.length) (h : ∀ i, a.getD i false = b.getD i false) : a = b := by
 apply List.ext_getElem hl
 intro i h1 h2
 have := h i
 simpa [h1, h2] using this
theorem Dev.store_ok0 {S : Dev} {i x : Nat} (h : S.storeE (i : Int) = 0) : i < S.cache.length ∧ (S.store (i : Int) x).cache = S.cache.set i x ∧ (S.store (i : Int) x).dirty = S.dirty.set (i / 8) true := by
 unfold Dev.storeE at h
 by_cases c1 : (i : Int) < 0 ∨ (S.cache.length : Int) ≤ (i : Int)
 ·rw [if_pos c1] at h; simp at h
 rw [if_neg c1] at h
 cases c2 : S.stop
 ·unfold Dev.store
  rw [if_neg c1, c2]
  simp only [Bool.false_eq_true, if_false]
  obtain ⟨e1, e2, e3, e4, e5⟩ := S.step_rest
  refine ⟨by omega, ?_, ?_⟩
  ·simp [Dev.put, e2]
  ·simp [Dev.put, e4]
 ·rw [c2] at h; simp at h
structure PutAt (S : Dev) (b : Nat) (l : List Hd) (i : Nat) (T : Dev) : Prop where
 inv : T.inv
 lenC : T.cache.length = S.cache.length
 lenD : T.dirty.length = S.dirty.length
 fits : i = 0 ∨ 256 + b + i ≤ S.cache.length
 cache : ∀ j, T.cache.getD j 0 = if 256 + b ≤ j ∧ j < 256 + b + i then encN ((j - 256 : Nat) : Int) (l.getD (j - 256 - b) default).k (l.getD (j - 256 - b) default).c (l.getD (j - 256 - b) default).l else S.cache.getD j 0
 dirty : ∀ q, (∀ k, k < i → (256 + b + k) / 8 ≠ q) → T.dirty.getD q false = S.dirty.getD q false
theorem putTo_at {S : Dev} (h : S.inv) (L : List Hd) (b : Nat) (l : List Hd) : ∀ i, (putTo S L b l i).err = 0 → PutAt S b l i (putTo S L b l i).dev
 | 0, _ => ⟨h, rfl, rfl, .inl rfl, fun j => by rw [if_neg (by omega)]; rfl, fun q _ => rfl⟩
 | i + 1, he => by
  have hst : putTo S L b l (i + 1) = putStep (putTo S L b l i) (b + i) (l.getD i default) := rfl
  rw [hst] at he ⊢
  unfold putStep at he ⊢
  by_cases h0 : (putTo S L b l i).err ≠ 0
  ·rw [if_pos h0] at he; exact absurd he h0
  rw [if_neg h0] at he ⊢
  have t := putTo_at h L b l i (by simpa using h0)
  generalize (putTo S L b l i).dev = T at *
  dsimp only at he ⊢
  rw [show (256 + ((b + i : Nat) : Int)) = ((256 + b + i : Nat) : Int) by omega] at he ⊢
  obtain ⟨g1, g2, g3⟩ := Dev.store_ok0 (x := encN ((b + i : Nat) : Int) (l.getD i default).k (l.getD i default).c (l.getD i default).l) he
  have hlc := t.lenC
  have hwD := t.inv.wf.lenD
  refine ⟨Dev.store_inv t.inv _ _ (encN_lt _ _ _ _), by rw [g2]; simp [t.lenC], by rw [g3]; simp [t.lenD], .inr (by omega), fun j => ?_, fun q hq => ?_⟩
  ·rw [g2, getD_setN _ _ _ _ g1, t.cache j]
   by_cases e : j = 256 + b + i
   ·subst e
    rw [if_pos rfl, if_pos (by omega), show 256 + b + i - 256 = b + i by omega, show b + i - b = i by omega]
   ·rw [if_neg e]
    by_cases c : 256 + b ≤ j ∧ j < 256 + b + i
    ·rw [if_pos c, if_pos (by omega)]
    ·rw [if_neg c, if_neg (by omega)]
  ·rw [g3, getD_setB _ _ _ _ (by omega), if_neg (fun e => hq i (by omega) e.symm)]
   exact t.dirty q (fun k hk => hq k (by omega))
structure Clean (S : Dev) (B : Nat) : Prop where
 inv : S.inv
 fits : 256 + B ≤ S.cache.length
 clean : ∀ b, 1 ≤ b → b < B → S.dirty.getD ((256 + b) / 8) false = false
theorem put_clean {S : Dev} {B : Nat} (h : Clean S B) {L : List Hd} (hL : L.length = B) {b : Int} {l : List Hd} (he : (putAll S L b l).err = 0) :
  Clean (putAll S L b l).dev B ∧ ∃ k : Nat, b = (k : Int) ∧ 1 ≤ k ∧ k + l.length ≤ B ∧ allRight l l.length ∧
   ∀ q, 1 ≤ q → q < B → (putAll S L b l).dev.cache.getD (256 + q) 0 = if k ≤ q ∧ q < k + l.length then encN (q : Int) (l.getD (q - k) default).k (l.getD (q - k) default).c (l.getD (q - k) default).l else S.cache.getD (256 + q) 0 := by
 unfold putAll at he ⊢
 by_cases c1 : b < 1 ∨ (L.length : Int) < b ∨ (L.length : Int) - b < (l.length : Int) ∨ ¬ allRight l l.length
 ·rw [if_pos c1] at he; simp at he
 rw [if_neg c1] at he ⊢
 obtain ⟨k, rfl⟩ := Int.eq_ofNat_of_zero_le (show 0 ≤ b by omega)
 have hr : allRight l l.length := Decidable.byContradiction fun h => c1 (.inr (.inr (.inr h)))
 by_cases c2 : l.length = 0
 ·rw [if_pos c2]
  exact ⟨h, k, rfl, by omega, by omega, hr, fun q _ _ => by rw [if_neg (by omega)]⟩
 rw [if_neg c2] at he ⊢
 rw [show ((k : Nat) : Int).toNat = k from rfl] at he ⊢
 unfold putIn at he ⊢
 by_cases c3 : (putTo S L k l l.length).err ≠ 0
 ·rw [if_pos c3] at he; exact absurd he c3
 rw [if_neg c3] at he ⊢
 have t := putTo_at h.inv L k l l.length (by simpa using c3)
 generalize (putTo S L k l l.length).dev = T at *
 dsimp only at he ⊢
 rw [show (256 + (k : Int)) = ((256 + k : Nat) : Int) by omega] at he ⊢
 obtain ⟨q1, q2, q3, q4, q5⟩ := Dev.persist_clean t.inv (256 + k) l.length (by omega) he
 have hfit := h.fits
 refine ⟨⟨Dev.persist_inv t.inv _ _, by rw [q1, t.lenC]; exact hfit, fun q h1 h2 => ?_⟩, k, rfl, by omega, by omega, hr, fun q h1 h2 => ?_⟩
 ·by_cases c : ∃ i, i < l.length ∧ (256 + k + i) / 8 = (256 + q) / 8
  ·obtain ⟨i, hi, e⟩ := c
   rw [← e]
   exact q4 (256 + k + i) (by omega) (by omega)
  ·refine q5 _ ?_
   rw [t.dirty _ (fun i hi e => c ⟨i, hi, e⟩)]
   exact h.clean q h1 h2
 ·rw [q1, t.cache]
  by_cases c : k ≤ q ∧ q < k + l.length
  ·rw [if_pos (by omega), if_pos c, show 256 + q - 256 = q by omega]
  ·rw [if_neg (by omega), if_neg c]
theorem fmtTo_inv {S : Dev} (h : S.inv) (k : Nat) : (S.fmtTo k).inv := by
 induction k with
 | zero => exact h
 | succ k ih =>
  unfold Dev.fmtTo
  split
  ·exact h
  ·exact Dev.store_inv ih _ _ (encN_lt _ _ _ _)
theorem fmt_clean {S : Dev} (h : S.inv) (hv : S.live) (ho : S.ok 100) {B : Nat} (hB2 : 2 ≤ B) (hlen : 256 + B ≤ S.cache.length) : Clean (S.fmt B) B := by
 obtain ⟨p1, p2, p3, p5, p4⟩ := fmtTo_props hv ho B hlen
 have he := (p1.persist 257 (B - 1) (by omega) (by rw [p3, p5]; exact h.wf.lenD) (by rw [p3]; omega)).1
 unfold Dev.fmt
 rw [show ((B : Int) - 1) = ((B - 1 : Nat) : Int) by omega]
 rw [show ((257 : Nat) : Int) = 257 from rfl] at he
 have hi := fmtTo_inv h B
 obtain ⟨q1, q2, q3, q4, q5⟩ := Dev.persist_clean hi 257 (B - 1) (by omega) he
 rw [show ((257 : Nat) : Int) = 257 from rfl] at q1 q4
 exact ⟨Dev.persist_inv hi _ _, by rw [q1, p3]; exact hlen, fun b h1 h2 => q4 (256 + b) (by omega) (by omega)⟩
end Go.Proofs.YtbimcogdbafjpaaGreat
