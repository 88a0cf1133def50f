/- Parts of the proof, one behind the other: Vi, Vj, Vk, Fc, Fd, So, Fe, Vl, Vm, Vp, Ff, Df, Fg, Fh, Fa, Fb, Wi, Wj, Wk, Fi, Fj, Fk, Wc, Fl, Wl, Ws, M, Fn, Fo, Fp, Fq, Fr, Zd, Jx, Zi, Zj, Sb, Js, Zh, Zk, Ga, Gb, Gc, Fs, Gd, Zo, Wd, Ge, Tx, Ft, Fu, Fv, Fw, Fx. -/
import Derived.Test.YtpohaahihdhleaaGreatRF8
import Derived.WideKeyEntry
import Derived.Shelf.Sort.Plain
import Derived.Shelf.Slices.In.SortNone
import Derived.Test.YtpohaahihdhleaaGreatProg
import Derived.Lib.SliceRun
import Derived.Deep.DeepCutAuto
import Derived.Deep.CutBlock
import Derived.WalkKit
import Derived.Deep.Cut
import Derived.Shelf.Strings.Builder1
set_option linter.unusedVariables false
namespace Go.Proofs.YtpohaahihdhleaaGreat
open Go.RowKit Go.Maps Go.ChangeMaps
structure TF where
 g : Nat
 ms : Nat
 mb : Nat
def tracC (F : Foot) (B : Nat) (a : Option Addr) (cap : Nat) (T : TF) (v : Value) : Array Value := #[vdev F, .int .i64 (B : Int), .slice a B cap, .map (some T.ms), v, .map (some T.mb)]
structure TrAt (w0 w : World) (F : Foot) (B : Nat) (a : Option Addr) (cap : Nat) (T : TF) (n : Nat) (seen opn : List Nat) (bad : Bool) (v : Value) : Prop where
 org : Below w0.heap.size w0 w
 head : w.heap[T.g]? = some (.cells (tracC F B a cap T v) 250 (0, 0))
 own : OwnI w v opn
 row : ∀ b, rowOf v = some b → w0.heap.size ≤ b ∧ b ≠ T.g ∧ b ≠ T.ms ∧ b ≠ T.mb
 seen : VMap Tryz.prog 3 w T.ms n (seenM seen)
 bad : BadAt Tryz.prog 252 w T.mb n bad
 g0 : w0.heap.size ≤ T.g
 s0 : w0.heap.size ≤ T.ms
 b0 : w0.heap.size ≤ T.mb
 gs : T.g ≠ T.ms
 gb : T.g ≠ T.mb
 sb : T.ms ≠ T.mb
section
variable {w0 w w' : World} {F : Foot} {B : Nat} {a : Option Addr} {cap : Nat} {T : TF} {n : Nat} {seen opn : List Nat} {bad : Bool} {v : Value}
theorem lt_of_head {w : World} {g : Nat} {x : Obj} (h : w.heap[g]? = some x) : g < w.heap.size := (Array.getElem?_eq_some_iff.1 h).1
theorem TrAt.later (h : TrAt w0 w F B a cap T n seen opn bad v) (hb : Below w.heap.size w w') : TrAt w0 w' F B a cap T n seen opn bad v :=
 ⟨h.org.trans (hb.mono h.org.size), (hb.block _ (lt_of_head h.head)).trans h.head, h.own.keep (fun b hb' => hb.block b (h.own.lt b hb')), h.row, h.seen.block (hb.block _ h.seen.lt), h.bad.block (hb.block _ h.bad.lt), h.g0, h.s0, h.b0, h.gs, h.gb, h.sb⟩
theorem TrAt.mono {n' : Nat} (h : TrAt w0 w F B a cap T n seen opn bad v) (hn : n ≤ n') : TrAt w0 w F B a cap T n' seen opn bad v :=
 ⟨h.org, h.head, h.own, h.row, h.seen.mono hn, h.bad.mono hn, h.g0, h.s0, h.b0, h.gs, h.gb, h.sb⟩
theorem below_at {b : Nat} (h : Below w0.heap.size w0 w) (hg : w.grownBy w' (some b)) (hb : w0.heap.size ≤ b) : Below w0.heap.size w0 w' :=
 ⟨hg.os.trans h.os, hg.tape.trans h.tape, hg.output.trans h.output, Nat.le_trans h.size hg.size, fun k hk => (hg.block k (Nat.lt_of_lt_of_le hk h.size) (fun e => by injection e with e; omega)).trans (h.block k hk)⟩
theorem TrAt.seenPut (h : TrAt w0 w F B a cap T n seen opn bad v) {seen' : List Nat} (hg : w.grownBy w' (some T.ms)) (hv : VMap Tryz.prog 3 w' T.ms (n + 1) (seenM seen')) : TrAt w0 w' F B a cap T (n + 1) seen' opn bad v := by
 have hk : ∀ k, k < w.heap.size → k ≠ T.ms → w'.heap[k]? = w.heap[k]? := fun k h1 h2 => hg.block k h1 (fun e => h2 (by injection e))
 exact ⟨below_at h.org hg h.s0, (hk _ (lt_of_head h.head) h.gs).trans h.head, h.own.keep (fun b hb => hk b (h.own.lt b hb) (h.row b hb).2.2.1), h.row, hv, (h.bad.block (hk _ h.bad.lt h.sb.symm)).mono (by omega), h.g0, h.s0, h.b0, h.gs, h.gb, h.sb⟩
theorem TrAt.badPut (h : TrAt w0 w F B a cap T n seen opn bad v) (hg : w.grownBy w' (some T.mb)) (hv : BadAt Tryz.prog 252 w' T.mb (n + 1) true) : TrAt w0 w' F B a cap T (n + 1) seen opn true v := by
 have hk : ∀ k, k < w.heap.size → k ≠ T.mb → w'.heap[k]? = w.heap[k]? := fun k h1 h2 => hg.block k h1 (fun e => h2 (by injection e))
 exact ⟨below_at h.org hg h.b0, (hk _ (lt_of_head h.head) h.gb).trans h.head, h.own.keep (fun b hb => hk b (h.own.lt b hb) (h.row b hb).2.2.2), h.row, (h.seen.block (hk _ h.seen.lt h.sb)).mono (by omega), hv, h.g0, h.s0, h.b0, h.gs, h.gb, h.sb⟩
theorem TrAt.openPut (h : TrAt w0 w F B a cap T n seen opn bad v) {opn' : List Nat} {v' : Value} (hg : w.grownBy w' (rowOf v)) (ho : OwnI w' v' opn') (hr : ∀ b, rowOf v' = some b → rowOf v = some b ∨ w.heap.size ≤ b) :
  TrAt w0 (w'.setCell ⟨T.g, 4, none⟩ v') F B a cap T n seen opn' bad v' := by
 have hk : ∀ k, k < w.heap.size → rowOf v ≠ some k → w'.heap[k]? = w.heap[k]? := fun k h1 h2 => hg.block k h1 (fun e => h2 e.symm)
 have hrow : ∀ b, rowOf v' = some b → w0.heap.size ≤ b ∧ b ≠ T.g ∧ b ≠ T.ms ∧ b ≠ T.mb := fun b hb => by
  rcases hr b hb with c | c
  ·exact h.row b c
  ·have h1 := lt_of_head h.head
   have h2 := h.seen.lt
   have h3 := h.bad.lt
   have := h.org.size
   exact ⟨by omega, by omega, by omega, by omega⟩
 have hs : ∀ k, k ≠ T.g → (w'.setCell ⟨T.g, 4, none⟩ v').heap[k]? = w'.heap[k]? := fun k hk => heap_setCell_other w' _ _ _ hk
 have hh : w'.heap[T.g]? = some (.cells (tracC F B a cap T v) 250 (0, 0)) := (hk _ (lt_of_head h.head) (fun e => (h.row _ e).2.1 rfl)).trans h.head
 have horg : Below w0.heap.size w0 w' := ⟨hg.os.trans h.org.os, hg.tape.trans h.org.tape, hg.output.trans h.org.output, Nat.le_trans h.org.size hg.size, fun k h1 => (hk k (Nat.lt_of_lt_of_le h1 h.org.size) (fun e => by have := (h.row _ e).1; omega)).trans (h.org.block k h1)⟩
 refine ⟨Below.setCell horg h.g0 _, ?_, ho.keep (fun b hb => hs b (hrow b hb).2.1), hrow, ?_, ?_, h.g0, h.s0, h.b0, h.gs, h.gb, h.sb⟩
 ·exact heap_setCell_same _ _ _ _ _ _ hh
 ·exact (h.seen.block (hk _ h.seen.lt (fun e => (h.row _ e).2.2.1 rfl))).block (hs _ h.gs.symm)
 ·exact (h.bad.block (hk _ h.bad.lt (fun e => (h.row _ e).2.2.2 rfl))).block (hs _ h.gb.symm)
theorem TrAt.cell (h : TrAt w0 w F B a cap T n seen opn bad v) (i : Nat) {x : Value} (hx : (tracC F B a cap T v)[i]? = some x) : w.cell? ⟨T.g, i, none⟩ = some x := cell_of_row _ _ i _ _ _ h.head |>.trans hx
theorem TrAt.frozen (h : TrAt w0 w F B a cap T n seen opn bad v) (i : Nat) : w.frozen? ⟨T.g, i, none⟩ = false := frozen_of_row _ _ _ _ _ h.head
end
def TrNew (w : World) (F : Foot) (B : Nat) (a : Option Addr) (cap : Nat) : Ending → World → Prop := fun e w' => ∃ T : TF, e = .returned (.pointer (some ⟨T.g, 0, none⟩)) ∧ TrAt w w' F B a cap T 0 [] [] false (.slice none 0 0)
set_option maxHeartbeats 2000000 in
theorem trnew_any (w : World) (F : Foot) (B : Nat) (a : Option Addr) (cap : Nat) :
  Calls Tryz.prog 93 #[vdev F, vgeom (B : Int), .slice a B cap] w (TrNew w F B a cap) := by
 have HP : Hid (∀ (T : TF) w', TrAt w w' F B a cap T 0 [] [] false (.slice none 0 0) → TrNew w F B a cap (.returned (.pointer (some ⟨T.g, 0, none⟩))) w') := LH (fun T w' h => ⟨T, rfl, h⟩)
 generalize TrNew w F B a cap = Post at *
 have hmm := @run_makeMap Tryz.prog
 have hb1 := below_alloc w (.cells #[.int .i64 (B : Int)] 44)
 have c0 : (w.alloc (.cells #[.int .i64 (B : Int)] 44)).cell? ⟨w.heap.size, 0, none⟩ = some (.int .i64 (B : Int)) := cell_alloc_new _ _ _ 0 _ rfl
 have HB1 := LH hb1
 clear hb1
 go_enter Tryz.func93, Tryz.ntmps93
 go_upto_region 1 with fail
 generalize w.alloc (.cells #[.int .i64 (B : Int)] 44) = w1 at *
 have HV := LH (VMap.made w1 Tryz.prog 3)
 have hb2 := below_alloc w1 (.map #[] 0)
 have HB2 := LH hb2
 have HW := LH (BadAt.made (w1.alloc (.map #[] 0)) Tryz.prog 252)
 have HB3 := LH (below_alloc (w1.alloc (.map #[] 0)) (.map #[] 0))
 clear hb2
 go_wp2_with fail
 have h1 : (w1.alloc (.map #[] 0)).heap.size = w1.heap.size + 1 := by simp
 have h2 : ((w1.alloc (.map #[] 0)).alloc (.map #[] 0)).heap.size = w1.heap.size + 1 + 1 := by simp
 have hV := HV.out
 have hW := HW.out
 have hB1 := HB1.out
 have hB2 := HB2.out
 have hB3 := HB3.out
 rw [h1] at hW
 generalize w1.alloc (.map #[] 0) = w2 at *
 generalize w2.alloc (.map #[] 0) = w3 at *
 have hb4 := below_alloc w3 (Obj.cells (tracC F B a cap ⟨w1.heap.size + 1 + 1, w1.heap.size, w1.heap.size + 1⟩ (.slice none 0 0)) 250)
 have hh := heap_alloc_new w3 (Obj.cells (tracC F B a cap ⟨w1.heap.size + 1 + 1, w1.heap.size, w1.heap.size + 1⟩ (.slice none 0 0)) 250)
 rw [h2] at hh
 refine HP.out ⟨w1.heap.size + 1 + 1, w1.heap.size, w1.heap.size + 1⟩ _ ⟨?_, hh, OwnI.nil _, fun b hb => (by cases hb), ?_, ?_, ?_, ?_, ?_, ?_, ?_, ?_⟩
 ·exact (((hB1.trans (hB2.mono hB1.size)).trans (hB3.mono (by have := hB1.size; omega))).trans (hb4.mono (by have := hB1.size; omega)))
 ·have hq : (fun _ => none : Lit → Option Value) = seenM [] := by
   funext l
   unfold seenM
   split <;> simp
  rw [← hq]
  exact (hV.block (hB3.block _ (by omega))).block (hb4.block _ (by omega))
 ·exact hW.block (hb4.block _ (by omega))
 ·have := hB1.size
  show w.heap.size ≤ w1.heap.size + 1 + 1
  omega
 ·exact hB1.size
 ·have := hB1.size
  show w.heap.size ≤ w1.heap.size + 1
  omega
 ·show w1.heap.size + 1 + 1 ≠ w1.heap.size
  omega
 ·show w1.heap.size + 1 + 1 ≠ w1.heap.size + 1
  omega
 ·show w1.heap.size ≠ w1.heap.size + 1
  omega
def okN (S : Dev) (L : List Hd) (x : Nat) : Prop := (placedN S L (x : Int)).isSome = true
def ptrN (S : Dev) (x : Nat) : List Nat := ptrsD S (x : Int)
theorem okN_zero (S : Dev) (L : List Hd) : ¬ okN S L 0 := by
 unfold okN placedN
 rw [if_pos (.inl (by decide))]
 simp
theorem okN_lt {S : Dev} {L : List Hd} {x : Nat} (h : okN S L x) : 512 ≤ x ∧ x < 512 * L.length := by
 obtain ⟨o, ho⟩ := Option.isSome_iff_exists.1 h
 have := placed_head ho
 omega
theorem zero_bool' (w : World) : (zeroValue 4).run Tryz.prog w = .ok (.bool false) w := Tryz.zeroValue4 w
theorem wf_nat {x : Nat} (h : x ≤ 4611686018427387904) : (Lit.int .i64 (x : Int)).wf = true := WalkArith.wf_i64 (by omega)
def TF.hot (T : TF) (v : Value) : List Nat := T.g :: T.ms :: T.mb :: (rowOf v).toList
def Reached (S : Dev) (L : List Hd) (w0 : World) (F : Foot) (B : Nat) (a : Option Addr) (cap : Nat) (T : TF) (n : Nat) (seen opn : List Nat) (bad : Bool) (v : Value) (w : World) (x : Nat) : Ending → World → Prop := fun e w' =>
 ∃ seen' opn' bad' v' er, e = .returned (.int .i64 er) ∧ TrAt w0 w' F B a cap T (n + 1) seen' opn' bad' v' ∧ (er = 0 ∨ er = 22) ∧ (er ≠ 0 → bad' = true) ∧ (bad = true → bad' = true) ∧
  (∀ f rest, Trc (okN S L) (ptrN S) f seen opn (x :: rest) bad → Trc (okN S L) (ptrN S) f seen' opn' rest bad') ∧ seen'.length + opn.length = seen.length + opn'.length ∧ seen.length ≤ seen'.length ∧ Touch (T.hot v) w w' ∧ (∀ b, rowOf v' = some b → rowOf v = some b ∨ w.heap.size ≤ b) ∧ opn'.length ≤ opn.length + 1
set_option maxHeartbeats 8000000 in
set_option maxRecDepth 20000 in
theorem treach_any {w0 w : World} {F : Foot} {S : Dev} (h0 : DevAt w0 F S) {a : Option Addr} {B cap : Nat} {L : List Hd} (hlen : L.length = B) (hc : Cells w0 a (hdCs L)) (hB : B ≤ 1000)
  {T : TF} {n : Nat} {seen opn : List Nat} {bad : Bool} {v : Value} (h : TrAt w0 w F B a cap T n seen opn bad v) (hn : n ≤ 1000000000) (ho : opn.length ≤ 1000000000) (x : Nat) (hx : x ≤ 4611686018427387904) (eF eP : Int) (hF : (Lit.int .i64 eF).wf = true) (hP : (Lit.int .i64 eP).wf = true) :
  Calls Tryz.prog 142 #[.pointer (some ⟨T.g, 0, none⟩), .agg #[.int .i64 eF, .int .i64 eP], .int .i64 (x : Int)] w (Reached S L w0 F B a cap T n seen opn bad v w x) := by
 have HSkip : Hid (∀ w', TrAt w0 w' F B a cap T n seen opn bad v → (x = 0 ∨ x ∈ seen) → Touch (T.hot v) w w' → Reached S L w0 F B a cap T n seen opn bad v w x (.returned (.int .i64 0)) w') := LH (fun w' h1 h2 h3 =>
  ⟨seen, opn, bad, v, 0, rfl, h1.mono (by omega), .inl rfl, fun h => absurd rfl h, id, fun f rest ht => ht.skip (okN_zero S L) h2, rfl, Nat.le_refl _, h3, fun b hb => .inl hb, by omega⟩)
 have HFail : Hid (∀ w', TrAt w0 w' F B a cap T (n + 1) seen opn true v → x ≠ 0 → ¬ okN S L x → Touch (T.hot v) w w' → Reached S L w0 F B a cap T n seen opn bad v w x (.returned (.int .i64 22)) w') := LH (fun w' h1 h2 h3 h4 =>
  ⟨seen, opn, true, v, 22, rfl, h1, .inr rfl, fun _ => rfl, fun _ => rfl, fun f rest ht => ht.fail h2 h3, rfl, Nat.le_refl _, h4, fun b hb => .inl hb, by omega⟩)
 have HTake : Hid (∀ w' v', TrAt w0 w' F B a cap T (n + 1) (seen ++ [x]) (opn ++ [x]) bad v' → okN S L x → x ∉ seen → Touch (T.hot v) w w' → (∀ b, rowOf v' = some b → rowOf v = some b ∨ w.heap.size ≤ b) → Reached S L w0 F B a cap T n seen opn bad v w x (.returned (.int .i64 0)) w') := LH (fun w' v' h1 h2 h3 h4 h5 =>
  ⟨seen ++ [x], opn ++ [x], bad, v', 0, rfl, h1, .inl rfl, fun h => absurd rfl h, id, fun f rest ht => ht.take h2 h3, by simp; omega, by simp, h4, h5, by simp⟩)
 generalize Reached S L w0 F B a cap T n seen opn bad v w x = Post at *
 have hba := below_alloc w (.cells #[.int .i64 eF, .int .i64 eP] 252)
 have H1 := LH (h.later hba)
 have HB1 := LH hba
 have e0 : (w.alloc (.cells #[.int .i64 eF, .int .i64 eP] 252)).cell? ⟨w.heap.size, 0, none⟩ = some (.int .i64 eF) := cell_alloc_new _ _ _ 0 _ rfl
 have e1 : (w.alloc (.cells #[.int .i64 eF, .int .i64 eP] 252)).cell? ⟨w.heap.size, 1, none⟩ = some (.int .i64 eP) := cell_alloc_new _ _ _ 1 _ rfl
 obtain ⟨g, hg⟩ : ∃ g, g = T.g := ⟨_, rfl⟩
 obtain ⟨ms, hms⟩ : ∃ g, g = T.ms := ⟨_, rfl⟩
 obtain ⟨mb, hmb⟩ : ∃ g, g = T.mb := ⟨_, rfl⟩
 have HE : Hid (g = T.g ∧ ms = T.ms ∧ mb = T.mb) := LH ⟨hg, hms, hmb⟩
 rw [← hg]
 clear h hba hg hms hmb
 go_enter Tryz.func142, Tryz.ntmps142
 go_upto_region 1 with fail
 obtain ⟨q, hq⟩ : ∃ q, q = w.heap.size := ⟨_, rfl⟩
 rw [← hq] at e0 e1 ⊢
 generalize w.alloc _ = w1 at *
 clear hq
 by_cases hx0 : x = 0
 ·have HS := LH (fun w' h => HSkip.out w' h (.inl hx0))
  subst hx0
  rw [show ((0 : Nat) : Int) = 0 from rfl]
  go_wp2_with fail
  exact HS.out _ H1.out (Touch.ofBelow HB1.out)
 have hx0' : ((x : Int) == 0) = false := by rw [beq_eq_false_iff_ne]; omega
 have hwf : (Lit.int .i64 (x : Int)).wf = true := wf_nat hx
 have HKey : Hid (keyOf Tryz.prog 3 (.int .i64 (x : Int)) = some (.int .i64 (x : Int))) := LH (keyOf_int_mk Tryz.underlying3 hwf)
 have c3 : w1.cell? ⟨g, 3, none⟩ = some (.map (some ms)) := by rw [HE.out.1, HE.out.2.1]; exact H1.out.cell 3 rfl
 have hlk := VMap.look (int_keyed Tryz.underlying3) Tryz.underlying247 (zero_bool' w1) H1.out.seen HKey.out
 rw [seenM_int, ← HE.out.2.1] at hlk
 have HX0 := LH hx0
 clear hx0 hwf
 by_cases hs : x ∈ seen
 ·have HS := LH (fun w' h => HSkip.out w' h (.inr hs))
  rw [if_pos hs, Option.getD_some] at hlk
  clear hs
  go_wp2_with fail
  exact HS.out _ H1.out (Touch.ofBelow HB1.out)
 rw [if_neg hs, Option.getD_none] at hlk
 have HNs := LH hs
 clear hs
 go_upto_region 3 with fail
 clear hlk
 have HPl : Hid (∀ w', Below w1.heap.size w1 w' → Calls Tryz.prog 159 #[vdev F, vgeom (B : Int), .slice a B cap, .int .i64 (x : Int)] w' (PlPost S L (x : Int) w')) := LH (fun w' hb =>
  aplaced_any (h0.below ((H1.out.later hb).org)) a B cap L hlen (hc.below (H1.out.later hb).org (Nat.le_refl _)) hB (h0.small) (x : Int))
 obtain ⟨okk, hok⟩ : ∃ okk, okk = (placedN S L (x : Int)).isSome := ⟨_, rfl⟩
 have HOk : Hid (okk = (placedN S L (x : Int)).isSome) := LH hok
 unfold PlPost at HPl
 rw [← hok] at HPl
 clear hok
 go_cut [7, 8] from 9 (fun pv kv wc => ∃ g2 : Nat, pv = .pointer (some ⟨g2, 0, none⟩) ∧ kv = .bool okk ∧ Hid (Below w1.heap.size w1 wc))
 case first =>
  have c0 : w1.cell? ⟨g, 0, none⟩ = some (vdev F) := by rw [HE.out.1]; exact H1.out.cell 0 rfl
  have c1 : w1.cell? ⟨g, 1, none⟩ = some (.int .i64 (B : Int)) := by rw [HE.out.1]; exact H1.out.cell 1 rfl
  have c2 : w1.cell? ⟨g, 2, none⟩ = some (.slice a B cap) := by rw [HE.out.1]; exact H1.out.cell 2 rfl
  have r0 := fun x => later_cell c0 x
  have r1 := fun x => later_cell c1 x
  have r2 := fun x => later_cell c2 x
  clear c0 c1 c2 c3 e0 e1
  refine wp_region_tr (C := fun w' => ∃ x : Later (w1), w' = x.val) (.fl [0, 1, 2, 3, 4, 5, 6, 7, 8, 9, 10, 11, 12] (.br 13 false (.pu [14, 15, 16] (.sq [17] true (.sq [18, 19] false (.nil)))) 17 true (.sq [13, 14] false (.pu [15, 16] (.sq [18, 19] false (.nil)))))) (by kernel_rfl) (by kernel_rfl) (by intro c a d v w h; cases d <;> exact h) ?_
  simp only [trO, picks, List.getElem?_cons_succ, List.getElem?_cons_zero]
  have hC1 := later_drew (w1)
  refine wpTr_fl hC1 ?_
  repeat (first | go_big_quiet_step (fail) | quiet_step (fail))
  refine wpQuiet_nil ?_
  clear r0 r1 r2
  have hbd := later_below hC1
  have HMd := LH ((Mem.start w1).later hbd)
  generalize w1.drew = wd at *
  clear hbd
  refine wpTr_br ?_ ?_
  ·refine wpTr_sq (fun K hK => ?_)
   go_wp2_with fail
   refine (HPl.out _ HMd.out.below).mono ?_
   rintro e w4 ⟨⟨p, d, rfl, _⟩, hb4⟩
   have hC2 := later_step hC1 hb4
   have HM4 := LH (HMd.out.later hb4)
   clear hb4
   go_wp2_with fail
   refine hK _ _ (fun h => nomatch h) ?_
   clear hK K
   refine wpTr_pu ?_
   repeat (first | go_big_quiet_step (fail) | quiet_step (fail))
   refine wpQuiet_nil ?_
   refine wpTr_sq (fun K hK => ?_)
   go_wp2_with fail
   have hba := below_alloc w4 (.cells #[.int .i64 0, .int .i64 0] 211)
   have hC3 := later_step hC2 hba
   have HM5 := LH (HM4.out.alloc #[.int .i64 0, .int .i64 0] 211)
   clear hba
   go_wp2_with fail
   refine hK _ _ (fun _ => hC3) ?_
   clear hK K
   generalize w4.alloc _ = w5 at *
   obtain ⟨g2, hg⟩ : ∃ g2, g2 = w4.heap.size := ⟨_, rfl⟩
   rw [← hg] at HM5 ⊢
   clear hg hC1 hC2 hC3
   refine wpTr_last ?_
   go_wp2_with (refine wpList_store_mem aggOb HM5.out 0 rfl rfl rfl rfl rfl rfl rfl rfl ?_; intro w6 h6 ht6; have H6 := LH h6; clear h6 ht6)
   go_meet
   exact ⟨g2, rfl, rfl, LH H6.out.below⟩
  ·refine wpTr_sq (fun K hK => ?_)
   go_wp2_with fail
   have hba := below_alloc wd (.cells #[.int .i64 0, .int .i64 0] 211)
   have hC2 := later_step hC1 hba
   have HM4 := LH (HMd.out.alloc #[.int .i64 0, .int .i64 0] 211)
   clear hba
   go_wp2_with fail
   refine hK _ _ (fun _ => hC2) ?_
   clear hK K
   generalize wd.alloc _ = w4 at *
   obtain ⟨g2, hg⟩ : ∃ g2, g2 = wd.heap.size := ⟨_, rfl⟩
   rw [← hg] at HM4 ⊢
   clear hg
   refine wpTr_sq (fun K hK => ?_)
   go_wp2_with fail
   refine (HPl.out _ HM4.out.below).mono ?_
   rintro e w5 ⟨⟨p, d, rfl, _⟩, hb5⟩
   have HM5 := LH (HM4.out.later hb5)
   clear hb5
   go_wp2_with fail
   refine hK _ _ (fun h => nomatch h) ?_
   clear hK K
   refine wpTr_pu ?_
   repeat (first | go_big_quiet_step (fail) | quiet_step (fail))
   refine wpQuiet_nil ?_
   clear hC1 hC2
   refine wpTr_last ?_
   go_wp2_with (refine wpList_store_mem aggOb HM5.out 0 rfl rfl rfl rfl rfl rfl rfl rfl ?_; intro w6 h6 ht6; have H6 := LH h6; clear h6 ht6)
   go_meet
   exact ⟨g2, rfl, rfl, LH H6.out.below⟩
 case rest =>
  obtain ⟨g2, rfl, rfl, HBc⟩ := hcut
  have Hc := LH (H1.out.later HBc.out)
  have e0' := below_cells HBc.out e0 (Nat.le_refl _)
  have e1' := below_cells HBc.out e1 (Nat.le_refl _)
  clear e0 e1 c3 HPl
  cases okk with
  | false =>
   have HNo : Hid (¬ okN S L x) := LH (by unfold okN; rw [← HOk.out]; simp)
   have c5 : wc.cell? ⟨g, 5, none⟩ = some (.map (some mb)) := by rw [HE.out.1, HE.out.2.2]; exact Hc.out.cell 5 rfl
   have r5 := fun x => later_cell c5 x
   have r0 := fun x => later_cell e0' x
   have r1 := fun x => later_cell e1' x
   clear c5 e0' e1'
   go_upto_region 5 with fail
   refine wp_region_seg (C := fun w' => ∃ x : Later (wc), w' = x.val) [.fl [0, 1, 2, 3, 4, 5], .sq [6] false] (by kernel_rfl) (by kernel_rfl) (by intro c a d v w h; cases d <;> exact h) ?_
   simp only [segs, picks, List.getElem?_cons_succ, List.getElem?_cons_zero]
   have hC1 := later_drew (wc)
   refine wpSeg_fl hC1 ?_
   repeat (first | go_big_quiet_step (fail) | quiet_step (fail))
   refine wpQuiet_nil ?_
   have Hd := LH (Hc.out.later (later_below hC1))
   have HBd2 : Hid (Below w.heap.size w wc.drew) := LH ((HB1.out.trans (HBc.out.mono HB1.out.size)).trans ((later_below hC1).mono (Nat.le_trans HB1.out.size HBc.out.size)))
   generalize wc.drew = wd at *
   clear r5 r0 r1 hC1
   have HBd : Hid (BadAt Tryz.prog 252 wd mb n bad) := LH (by rw [HE.out.2.2]; exact Hd.out.bad)
   have HNm : Hid (n < maxLen) := LH (Nat.lt_of_le_of_lt hn (by decide))
   have HKe := LH (key_edge eF eP hF hP)
   refine wpSeg_last ?_
   go_wp2_with (refine wpList_bstore rfl _ _ _ 248 rfl 252 3 keyed_edge Tryz.underlying248 mb n bad rfl HBd.out HNm.out _ _ _ rfl rfl HKe.out ?_; intro w6 hm6 hg6; have HM6 := LH hm6; have HG6 := LH hg6; clear hm6 hg6)
   go_wp2_with fail
   refine HFail.out _ (Hd.out.badPut (by rw [← HE.out.2.2]; exact HG6.out) (by rw [← HE.out.2.2]; exact HM6.out)) HX0.out HNo.out ((Touch.ofBelow HBd2.out).trans (grown_touch HG6.out (by rw [HE.out.2.2]; simp [TF.hot])))
  | true =>
   have HOk' : Hid (okN S L x) := LH (by unfold okN; rw [← HOk.out])
   have c3 : wc.cell? ⟨g, 3, none⟩ = some (.map (some ms)) := by rw [HE.out.1, HE.out.2.1]; exact Hc.out.cell 3 rfl
   have HVm : Hid (VMap Tryz.prog 3 wc ms n (seenM seen)) := LH (by rw [HE.out.2.1]; exact Hc.out.seen)
   have HNm : Hid (n < maxLen) := LH (Nat.lt_of_le_of_lt hn (by decide))
   clear e0' e1'
   go_upto_region 8 with (refine wpList_vstore rfl _ _ _ 247 rfl 3 4 (int_keyed Tryz.underlying3) Tryz.underlying247 ms n (seenM seen) rfl HVm.out HNm.out _ _ _ rfl rfl HKey.out ?_; intro w6 hm6 hg6; have HM6 := LH hm6; have HG6 := LH hg6; clear hm6 hg6)
   have H6 : Hid (TrAt w0 w6 F B a cap T (n + 1) (seen ++ [x]) opn bad v) := LH (Hc.out.seenPut (by rw [← HE.out.2.1]; exact HG6.out) (by rw [← seenM_put, ← HE.out.2.1]; exact HM6.out))
   have HT6 : Hid (Touch (T.hot v) w w6) := LH ((Touch.ofBelow (HB1.out.trans (HBc.out.mono HB1.out.size))).trans (grown_touch HG6.out (by rw [HE.out.2.1]; simp [TF.hot])))
   clear c3 HVm HM6 HG6 Hc
   obtain ⟨av, cv, hv, _⟩ := H6.out.own.cells
   obtain ⟨l, hl⟩ : ∃ l, l = opn.length := ⟨_, rfl⟩
   rw [← hl] at hv ho
   subst hv
   have c4 : w6.cell? ⟨g, 4, none⟩ = some (.slice av l cv) := by rw [HE.out.1]; exact H6.out.cell 4 rfl
   have H7 := LH (H6.out.later (below_alloc w6 (.cells #[.int .i64 (x : Int)] 3)))
   have HC2 : Hid (Cells (w6.alloc (.cells #[.int .i64 (x : Int)] 3)) (some ⟨w6.heap.size, 0, none⟩) ([x].map vi)) := LH (RowAt.cells ⟨_, heap_alloc_new _ _, [], rfl⟩)
   have HN1 : Hid (opn.length + 1 ≤ 1000000000000) := LH (by omega)
   clear hl
   go_wp2_with (refine wpList_append_ownI (m := 1) H7.out.own HC2.out rfl HN1.out rfl rfl rfl rfl ?_; intro v' w8 ho8 hg8 hr8; have HO8 := LH ho8; have HG8 := LH hg8; have HR8 := LH hr8; obtain ⟨av', cv', e', _⟩ := ho8.cells; obtain ⟨l', hl'⟩ : ∃ l', l' = (opn ++ [x]).length := ⟨_, rfl⟩; rw [← hl'] at e'; subst e'; clear hl'; have fr8 : w8.frozen? ⟨g, 4, none⟩ = false := by { rw [HE.out.1]; exact frozen_of_row _ _ _ _ _ ((hg8.block T.g (lt_of_head H7.out.head) (fun e => (H7.out.row _ e.symm).2.1 rfl)).trans H7.out.head) }; have ck8 : w8.cell? ⟨g, 4, none⟩ = some (.slice av l cv) := by { rw [HE.out.1]; exact (cell_of_row _ _ 4 _ _ _ ((hg8.block T.g (lt_of_head H7.out.head) (fun e => (H7.out.row _ e.symm).2.1 rfl)).trans H7.out.head)).trans rfl }; clear ho8 hg8 hr8)
   have h9 := H7.out.openPut HG8.out HO8.out (fun b hb => (HR8.out b hb).elim .inl (fun e => .inr (by rw [e]; exact Nat.le_refl _)))
   rw [← HE.out.1] at h9
   refine HTake.out _ _ h9 HOk'.out HNs.out ?_ (fun b hb => (HR8.out b hb).elim .inl (fun e => .inr (by rw [e]; simp; exact Nat.le_trans HT6.out.size (by simp))))
   have hb7 : Touch (T.hot (.slice av l cv)) w6 (w6.alloc (.cells #[.int .i64 (x : Int)] 3)) := Touch.ofBelow (below_alloc _ _)
   have hb8 : Touch (T.hot (.slice av l cv)) (w6.alloc (.cells #[.int .i64 (x : Int)] 3)) w8 := (grown_touchO HG8.out).wide (fun b hb => by simp only [TF.hot, List.mem_cons]; exact .inr (.inr (.inr hb)))
   exact ((HT6.out.trans hb7).trans hb8).trans (Touch.setCell _ (by rw [HE.out.1]; simp [TF.hot]) _)
set_option maxHeartbeats 2000000 in
theorem troot_any {w0 w : World} {F : Foot} {S : Dev} (h0 : DevAt w0 F S) {a : Option Addr} {B cap : Nat} {L : List Hd} (hlen : L.length = B) (hc : Cells w0 a (hdCs L)) (hB : B ≤ 1000)
  {T : TF} {n : Nat} {seen opn : List Nat} {bad : Bool} {v : Value} (h : TrAt w0 w F B a cap T n seen opn bad v) (hn : n ≤ 1000000000) (ho : opn.length ≤ 1000000000) (x : Nat) (hx : x ≤ 4611686018427387904) :
  Calls Tryz.prog 94 #[.pointer (some ⟨T.g, 0, none⟩), .int .i64 (x : Int)] w (Reached S L w0 F B a cap T n seen opn bad v w x) := by
 have HR := LH (treach_any h0 hlen hc hB h hn ho x hx (-1) 0 (WalkArith.wf_i64 (by omega)) (WalkArith.wf_i64 (by omega)))
 clear h h0 hc
 have HP : Hid (∀ e w', Reached S L w0 F B a cap T n seen opn bad v w x e w' → ∃ er, e = .returned (.int .i64 er)) := LH (fun e w' ⟨_, _, _, _, er, h, _⟩ => ⟨er, h⟩)
 generalize Reached S L w0 F B a cap T n seen opn bad v w x = Post at *
 go_enter Tryz.func94, Tryz.ntmps94
 go_wp2_with fail
 refine HR.out.mono ?_
 intro e w1 hp
 obtain ⟨er, rfl⟩ := HP.out _ _ hp
 have HPp := LH hp
 clear hp
 go_wp2_with fail
 exact HPp.out
def TStep (S : Dev) (L : List Hd) (w0 : World) (F : Foot) (B : Nat) (a : Option Addr) (cap : Nat) (T : TF) (n : Nat) (seen opn : List Nat) (bad : Bool) (v : Value) : Ending → World → Prop := fun e w' =>
 (opn = [] ∧ e = .returned (.bool false) ∧ TrAt w0 w' F B a cap T n seen opn bad v) ∨
 (∃ seen' opn' bad' v', opn ≠ [] ∧ e = .returned (.bool true) ∧ TrAt w0 w' F B a cap T (n + 64) seen' opn' bad' v' ∧ (∀ f, Trc (okN S L) (ptrN S) f seen opn [] bad → Trc (okN S L) (ptrN S) f seen' opn' [] bad') ∧
  seen'.length + opn.length = seen.length + opn'.length + 1 ∧ seen.length ≤ seen'.length ∧ (bad = true → bad' = true))
set_option maxHeartbeats 8000000 in
set_option maxRecDepth 20000 in
theorem tstep_any {w0 w : World} {F : Foot} {S : Dev} (h0 : DevAt w0 F S) {a : Option Addr} {B cap : Nat} {L : List Hd} (hlen : L.length = B) (hc : Cells w0 a (hdCs L)) (hB : B ≤ 1000)
  {T : TF} {n : Nat} {seen opn : List Nat} {bad : Bool} {v : Value} (h : TrAt w0 w F B a cap T n seen opn bad v) (hn : n ≤ 900000000) (ho : opn.length ≤ 900000000) (hop : ∀ x ∈ opn, x ≤ 1000000000) :
  Calls Tryz.prog 143 #[.pointer (some ⟨T.g, 0, none⟩)] w (TStep S L w0 F B a cap T n seen opn bad v) := by
 obtain ⟨av, cv, hv, hcv, hle, hmx⟩ := h.own.cells
 obtain ⟨l, hl⟩ : ∃ l, l = opn.length := ⟨_, rfl⟩
 obtain ⟨g, hg⟩ : ∃ g, g = T.g := ⟨_, rfl⟩
 rw [← hg]
 rw [← hl] at hv hle ho
 subst hv
 have H := LH h
 by_cases h0l : l = 0
 ·have HP : Hid (∀ w', TrAt w0 w' F B a cap T n seen opn bad (.slice av l cv) → TStep S L w0 F B a cap T n seen opn bad (.slice av l cv) (.returned (.bool false)) w') := LH (fun w' h => .inl ⟨List.length_eq_zero_iff.1 (by omega), rfl, h⟩)
  generalize TStep S L w0 F B a cap T n seen opn bad (.slice av l cv) = Post at *
  have c4 : w.cell? ⟨g, 4, none⟩ = some (.slice av l cv) := by rw [hg]; exact H.out.cell 4 rfl
  subst h0l
  clear hg hl h h0 hc hcv
  go_enter Tryz.func143, Tryz.ntmps143
  go_wp2_with fail
  exact HP.out _ H.out
 obtain ⟨o, y, rfl⟩ : ∃ o y, opn = o ++ [y] := by
  rcases List.eq_nil_or_concat opn with e | ⟨o, y, e⟩
  ·rw [e] at hl; simp at hl; omega
  ·exact ⟨o, y, by rw [e, List.concat_eq_append]⟩
 have hyb := hop y (by simp)
 clear hop
 have HPtr : Hid (∀ w', Below w0.heap.size w0 w' → Calls Tryz.prog 173 #[vdev F, .int .i64 (y : Int)] w' (PtrsPost S (y : Int) w')) := LH (fun w' hb => optrs_any (h0.below hb) (y : Int))
 have HP : Hid (∀ w' seen' opn' bad' v', TrAt w0 w' F B a cap T (n + 64) seen' opn' bad' v' → (∀ f, Trc (okN S L) (ptrN S) f seen o (ptrN S y) bad → Trc (okN S L) (ptrN S) f seen' opn' [] bad') → seen'.length + o.length = seen.length + opn'.length → seen.length ≤ seen'.length → (bad = true → bad' = true) →
   TStep S L w0 F B a cap T n seen (o ++ [y]) bad (.slice av l cv) (.returned (.bool true)) w') := LH (fun w' seen' opn' bad' v' h1 h2 h3 h4 h5 =>
  .inr ⟨seen', opn', bad', v', by simp, rfl, h1, fun f ht => h2 f ht.pop, by simp; omega, h4, h5⟩)
 generalize TStep S L w0 F B a cap T n seen (o ++ [y]) bad (.slice av l cv) = Post at *
 have hlo : l = o.length + 1 := by rw [hl]; simp
 have HOl := LH hlo
 have HG := LH hg
 have c4 : w.cell? ⟨g, 4, none⟩ = some (.slice av l cv) := by rw [hg]; exact H.out.cell 4 rfl
 have c0 : w.cell? ⟨g, 0, none⟩ = some (vdev F) := by rw [hg]; exact H.out.cell 0 rfl
 have k4 : w.frozen? ⟨g, 4, none⟩ = false := by rw [hg]; exact H.out.frozen 4
 obtain ⟨b, off, e, _, hcell⟩ := hcv.at (i := l - 1) (by simp; omega)
 have cy : w.cell? ⟨b, off + (l - 1), none⟩ = some (.int .i64 (y : Int)) := hcell (l - 1) (vi y) (by rw [hlo, List.map_append]; simp [vi])
 subst e
 have HRe : Hid (∀ (w1 : World) (n' : Nat) (seen' opn' : List Nat) (bad' : Bool) (v' : Value), TrAt w0 w1 F B a cap T n' seen' opn' bad' v' → n' ≤ 1000000000 → opn'.length ≤ 1000000000 → ∀ x : Nat, x ≤ 4611686018427387904 → ∀ i : Nat, i ≤ 4611686018427387904 →
   Calls Tryz.prog 142 #[.pointer (some ⟨g, 0, none⟩), .agg #[.int .i64 (y : Int), .int .i64 (i : Int)], .int .i64 (x : Int)] w1 (Reached S L w0 F B a cap T n' seen' opn' bad' v' w1 x)) := LH (fun w1 n' seen' opn' bad' v' h h1 h2 x hx i hi => by
  have hy2 : y ≤ 4611686018427387904 := Nat.le_trans hyb (by decide)
  have hr := treach_any h0 hlen hc hB h h1 h2 x hx (y : Int) (i : Int) (wf_nat hy2) (wf_nat hi)
  rw [← hg] at hr
  exact hr)
 have HSm := LH h0.small
 have hcut := H.out.own.cutN hl (n := l - 1) (by omega)
 rw [show (o ++ [y]).take (l - 1) = o from by rw [hlo]; simp] at hcut
 have HCut := LH hcut
 obtain ⟨j, hj⟩ : ∃ j, j = l - 1 := ⟨_, rfl⟩
 have hlj : (l : Int) - 1 = (j : Int) := by omega
 have hjl : j < l := by omega
 rw [← hj] at cy HCut
 clear hcut hj hlo hl hg h h0 hc hcv hcell
 have h0l' : ((l : Int) == 0) = false := by rw [beq_eq_false_iff_ne]; omega
 clear h0l
 go_enter Tryz.func143, Tryz.ntmps143
 go_upto_region 3 with fail
 have r4 := fun x => later_cell c4 x
 have ry := fun x => later_cell cy x
 refine wp_region_later (by kernel_rfl) (by kernel_rfl) ?_
 repeat (first | go_big_quiet_step (fail) | quiet_step (fail))
 refine wpQuiet_nil ?_
 rintro w1 ⟨x1, hx1⟩
 have HB1 : Hid (Below w.heap.size w w1) := LH (by rw [hx1]; exact x1.below)
 clear hx1 r4 ry
 have H1 := LH (H.out.later HB1.out)
 have c4' := below_cells HB1.out c4 (Nat.le_refl _)
 have c0' := below_cells HB1.out c0 (Nat.le_refl _)
 clear c4 c0 cy k4
 go_upto_region 4 with fail
 have r4 := fun x => later_cell c4' x
 refine wp_region_seg (C := fun w' => ∃ x : Later (w1), w' = x.val) [.fl [0, 1, 2, 3, 4, 5, 6, 7, 8, 9, 10, 11], .sq [12, 13, 14] false] (by kernel_rfl) (by kernel_rfl) (by intro c a d v w h; cases d <;> exact h) ?_
 simp only [segs, picks, List.getElem?_cons_succ, List.getElem?_cons_zero]
 have hC1 := later_drew (w1)
 refine wpSeg_fl hC1 ?_
 repeat (first | go_big_quiet_step (fail) | quiet_step (fail))
 refine wpQuiet_nil ?_
 have HB2 : Hid (Below w.heap.size w w1.drew) := LH (HB1.out.trans ((later_below hC1).mono HB1.out.size))
 have H2 := LH (H1.out.later (later_below hC1))
 generalize w1.drew = w2 at *
 have c4 : w2.cell? ⟨g, 4, none⟩ = some (.slice (some ⟨b, off, none⟩) l cv) := by rw [HG.out]; exact H2.out.cell 4 rfl
 have k4 : w2.frozen? ⟨g, 4, none⟩ = false := by rw [HG.out]; exact H2.out.frozen 4
 have c02 : w2.cell? ⟨g, 0, none⟩ = some (vdev F) := by rw [HG.out]; exact H2.out.cell 0 rfl
 have HC2 := LH (HCut.out.keep (fun b' hb' => HB2.out.block b' (HCut.out.lt b' hb')))
 have h3 := H2.out.openPut (grown_self _ _) HC2.out (fun b hb => .inl hb)
 rw [← HG.out] at h3
 have H3 := LH h3
 clear r4 c4' hC1 h3
 refine wpSeg_last ?_
 go_wp2_with fail
 generalize w2.setCell _ _ = w3 at *
 clear c4 k4 c0' c02 HC2 H1 HB1 H2 HB2 HCut H
 obtain ⟨v3, hv3⟩ : ∃ v3, v3 = Value.slice (some ⟨b, off, none⟩) j cv := ⟨_, rfl⟩
 rw [← hv3] at H3
 refine (HPtr.out w3 H3.out.org).mono ?_
 intro e w4 hp
 obtain ⟨ap, cp, ec, rfl, _, hcp, hnew, hb4⟩ := hp.out
 have H4 := LH (H3.out.later hb4)
 have HCp := LH hcp
 have hkl := ptrsD_len HSm.out (y : Int)
 obtain ⟨P, hP⟩ : ∃ P, P = ptrsD S (y : Int) := ⟨_, rfl⟩
 rw [← hP] at HCp hkl ⊢
 have HPe : Hid (ptrN S y = P) := LH hP.symm
 have HPb : Hid (∀ x ∈ P, x ≤ 4611686018427387904) := LH (fun x hx => by
  rw [hP] at hx
  unfold ptrsD at hx
  split at hx
  ·obtain ⟨i, _, rfl⟩ := List.mem_map.1 hx
   exact Nat.le_trans (capP_le _) (by decide)
  ·cases hx)
 obtain ⟨kl, hkle⟩ : ∃ kl, kl = P.length := ⟨_, rfl⟩
 have HKl := LH hkle
 have HNew : Hid (0 < kl → ∀ x, ap = some x → x.block < w4.heap.size ∧ x.block ∉ T.hot v3) := LH (fun hk x hx => by
  have h1 := hnew x hx
  have hlt := H3.out
  refine ⟨?_, ?_⟩
  ·obtain ⟨b1, o1, q1, hq, _⟩ := hcp.at (i := 0) (by rw [← hP]; simp; omega)
   rw [hx] at q1
   injection q1 with q1
   rw [q1]
   exact hq
  ·intro hm
   simp only [TF.hot, List.mem_cons, Option.mem_toList] at hm
   rcases hm with hm | hm | hm | hm
   ·have := lt_of_head hlt.head; omega
   ·have := hlt.seen.lt; omega
   ·have := hlt.bad.lt; omega
   ·have := hlt.own.lt _ hm; omega)
 rw [← hkle] at hkl ⊢
 clear hp hcp hnew hb4 hP hkle HPtr
 go_wp2_with fail
 go_loopw [51] (fun iv wr => ∃ (k : Nat) (seen' opn' : List Nat) (bad' : Bool) (v' : Value), k ≤ kl ∧ iv = .int .i64 (k : Int) ∧ Hid (TrAt w0 wr F B a cap T (n + k) seen' opn' bad' v') ∧
  Hid (∀ f, Trc (okN S L) (ptrN S) f seen o (ptrN S y) bad → Trc (okN S L) (ptrN S) f seen' opn' (P.drop k) bad') ∧ Hid (seen'.length + o.length = seen.length + opn'.length ∧ seen.length ≤ seen'.length ∧ (bad = true → bad' = true) ∧ opn'.length ≤ o.length + k) ∧
  Hid (Cells wr ap (P.map vi)) ∧ Hid (0 < kl → ∀ x, ap = some x → x.block < wr.heap.size ∧ x.block ∉ T.hot v')) (fun iv _ => kl - (intOf iv).toNat)
 case atStart => exact ⟨0, seen, o, bad, v3, by omega, rfl, H4, LH (fun f h => by rw [HPe.out] at h; exact h), LH ⟨rfl, Nat.le_refl _, id, by omega⟩, HCp, HNew⟩
 case round =>
  obtain ⟨k, seen', opn', bad', v', hk, rfl, HTr, HTc, HLe, HCr, HNr⟩ := hrel
  by_cases hlt : k < kl
  ·have hlt' : (k : Int) < (kl : Int) := by omega
   obtain ⟨x, hx⟩ : ∃ x, P[k]? = some x := ⟨_, List.getElem?_eq_getElem (by rw [← HKl.out]; exact hlt)⟩
   obtain ⟨b1, o1, q1, _, hc1⟩ := HCr.out.at (i := k) (by rw [List.length_map, ← HKl.out]; exact hlt)
   have cx : wr.cell? ⟨b1, o1 + k, none⟩ = some (.int .i64 (x : Int)) := hc1 k (vi x) (by rw [List.getElem?_map, hx]; rfl)
   have HXb := LH (HPb.out x (List.mem_of_getElem? hx))
   have HDr : Hid (P.drop k = x :: P.drop (k + 1)) := LH (by
    have hk2 : k < P.length := by rw [← HKl.out]; exact hlt
    rw [List.drop_eq_getElem_cons hk2]
    congr 1
    rw [List.getElem?_eq_getElem hk2] at hx
    injection hx)
   subst q1
   clear hc1 hx
   have hlen9 := HLe.out.2.2.2
   have hol := HOl.out
   have HBo : Hid (opn'.length ≤ 1000000000) := LH (by omega)
   clear hlen9 hol
   go_wp2_with fail
   refine (HRe.out wr (n + k) seen' opn' bad' v' HTr.out (by omega) HBo.out x HXb.out k (by omega)).mono ?_
   rintro e w5 ⟨seen2, opn2, bad2, v2, er, rfl, ht2, _, _, hbb, htc, hl1, hl2, hto, hro, hl3⟩
   have HT2 := LH ht2
   have HTc2 : Hid (∀ f, Trc (okN S L) (ptrN S) f seen o (ptrN S y) bad → Trc (okN S L) (ptrN S) f seen2 opn2 (P.drop (k + 1)) bad2) := LH (fun f h => htc f _ (by rw [← HDr.out]; exact HTc.out f h))
   have HLe2 : Hid (seen2.length + o.length = seen.length + opn2.length ∧ seen.length ≤ seen2.length ∧ (bad = true → bad2 = true) ∧ opn2.length ≤ o.length + (k + 1)) := LH (by
    obtain ⟨z1, z2, z3, z4⟩ := HLe.out
    exact ⟨by omega, by omega, fun h => hbb (z3 h), by omega⟩)
   have hnr := HNr.out (by omega) _ rfl
   have HC5 : Hid (Cells w5 (some ⟨b1, o1, none⟩) (P.map vi)) := LH (HCr.out.touchL hto (fun x hx _ => by injection hx with hx; rw [← hx]; exact hnr.2))
   have HN5 : Hid (0 < kl → ∀ x, some (⟨b1, o1, none⟩ : Addr) = some x → x.block < w5.heap.size ∧ x.block ∉ T.hot v2) := LH (fun _ x hx => by
    injection hx with hx
    subst hx
    refine ⟨Nat.lt_of_lt_of_le hnr.1 hto.size, fun hm => ?_⟩
    simp only [TF.hot, List.mem_cons, Option.mem_toList] at hm
    rcases hm with hm | hm | hm | hm
    ·exact hnr.2 (by simp [TF.hot, hm])
    ·exact hnr.2 (by simp [TF.hot, hm])
    ·exact hnr.2 (by simp [TF.hot, hm])
    ·rcases hro _ hm with c | c
     ·exact hnr.2 (by simp [TF.hot, c])
     ·have := hnr.1; omega)
   clear ht2 hbb htc hl1 hl2 hto hro hl3 hnr cx
   go_wp2_with fail
   exact ⟨⟨k + 1, seen2, opn2, bad2, v2, by omega, vint (by omega), HT2, HTc2, HLe2, HC5, HN5⟩, by simp [intOf]; omega⟩
  ·have hltd : decide ((k : Int) < (kl : Int)) = false := by simp; omega
   have hke : k = kl := by omega
   have HEnd : Hid (P.drop k = []) := LH (by rw [hke, HKl.out]; exact List.drop_length)
   have HTf := LH (fun f h => (by have := HTc.out f h; rw [HEnd.out] at this; exact this : Trc (okN S L) (ptrN S) f seen' opn' [] bad'))
   have HTm := LH (HTr.out.mono (n' := n + 64) (by omega))
   clear hke
   go_wp2_with fail
   exact HP.out _ seen' opn' bad' v' HTm.out HTf.out HLe.out.1 HLe.out.2.1 HLe.out.2.2.1
end Go.Proofs.YtpohaahihdhleaaGreat
namespace Go.Proofs.YtpohaahihdhleaaGreat
open Go.Maps Go.ChangeMaps Go.MapKept Go.WideElems
section
variable {P : Program} {k e t : TypeId} {w : World} {b n : Nat} {M : Lit → Option Value}
variable {ops : Array Oper} {rest : List Oper} {o : Oper} {a : Act} {Q : Exit → Act → World → Prop}
end
end Go.Proofs.YtpohaahihdhleaaGreat
namespace Go.Proofs.YtpohaahihdhleaaGreat
open Go.RowKit Go.Maps
end Go.Proofs.YtpohaahihdhleaaGreat
namespace Go.Proofs
open Go.Shelf
def Tryz.lays189_ren : Go.Shelf.Ren := ⟨fun | 189 => 133 | 125 => 168 | 257 => 167 | 128 => 197 | 129 => 198 | 294 => 188 | 295 => 189 | 296 => 190 | 297 => 191 | 298 => 192 | 299 => 193 | 216 => 194 | 300 => 195 | 301 => 196 | 328 => 208 | 329 => 209 | 330 => 210 | 331 => 211 | 332 => 212 | 215 => 213 | 343 => 220 | n => n, fun | 28 => 47 | 3 => 3 | 46 => 115 | 0 => 0 | 51 => 166 | 53 => 40 | 4 => 4 | 183 => 281 | 182 => 280 | 131 => 199 | 5 => 5 | 9 => 9 | 218 => 293 | 222 => 296 | 228 => 302 | 229 => 303 | n => n, fun | n => n⟩
theorem Tryz.lays189 : Go.Proofs.Lays.n189 Tryz.prog Tryz.lays189_ren := {
 mixed := by kernel_rfl
 f125 := Tryz.func168.trans (congrArg some (by kernel_rfl))
 f128 := Tryz.func197.trans (congrArg some (by kernel_rfl))
 f129 := Tryz.func198.trans (congrArg some (by kernel_rfl))
 f189 := Tryz.func133.trans (congrArg some (by kernel_rfl))
 f215 := Tryz.func213.trans (congrArg some (by kernel_rfl))
 f216 := Tryz.func194.trans (congrArg some (by kernel_rfl))
 f257 := Tryz.func167.trans (congrArg some (by kernel_rfl))
 f294 := Tryz.func188.trans (congrArg some (by kernel_rfl))
 f295 := Tryz.func189.trans (congrArg some (by kernel_rfl))
 f296 := Tryz.func190.trans (congrArg some (by kernel_rfl))
 f297 := Tryz.func191.trans (congrArg some (by kernel_rfl))
 f298 := Tryz.func192.trans (congrArg some (by kernel_rfl))
 f299 := Tryz.func193.trans (congrArg some (by kernel_rfl))
 f300 := Tryz.func195.trans (congrArg some (by kernel_rfl))
 f301 := Tryz.func196.trans (congrArg some (by kernel_rfl))
 f328 := Tryz.func208.trans (congrArg some (by kernel_rfl))
 f329 := Tryz.func209.trans (congrArg some (by kernel_rfl))
 f330 := Tryz.func210.trans (congrArg some (by kernel_rfl))
 f331 := Tryz.func211.trans (congrArg some (by kernel_rfl))
 f332 := Tryz.func212.trans (congrArg some (by kernel_rfl))
 f343 := Tryz.func220.trans (congrArg some (by kernel_rfl))
 t0 := Tryz.underlying0
 a0 := Tryz.isAgg0
 z0 := Tryz.sizeOf0
 v0 := Tryz.zeroValue0
 t3 := Tryz.underlying3
 a3 := Tryz.isAgg3
 z3 := Tryz.sizeOf3
 v3 := Tryz.zeroValue3
 t4 := Tryz.underlying4
 a4 := Tryz.isAgg4
 z4 := Tryz.sizeOf4
 v4 := Tryz.zeroValue4
 t5 := Tryz.underlying5
 a5 := Tryz.isAgg5
 z5 := Tryz.sizeOf5
 v5 := Tryz.zeroValue5
 t9 := Tryz.underlying9
 a9 := Tryz.isAgg9
 z9 := Tryz.sizeOf9
 v9 := Tryz.zeroValue9
 t28 := Tryz.underlying47
 a28 := Tryz.isAgg47
 z28 := Tryz.sizeOf47
 v28 := Tryz.zeroValue47
 t46 := Tryz.underlying115
 a46 := Tryz.isAgg115
 z46 := Tryz.sizeOf115
 v46 := Tryz.zeroValue115
 t51 := Tryz.underlying166
 a51 := Tryz.isAgg166
 z51 := Tryz.sizeOf166
 v51 := Tryz.zeroValue166
 t53 := Tryz.underlying40
 a53 := Tryz.isAgg40
 z53 := Tryz.sizeOf40
 v53 := Tryz.zeroValue40
 t131 := Tryz.underlying199
 a131 := Tryz.isAgg199
 z131 := Tryz.sizeOf199
 v131 := Tryz.zeroValue199
 t182 := Tryz.underlying280
 a182 := Tryz.isAgg280
 z182 := Tryz.sizeOf280
 v182 := Tryz.zeroValue280
 t183 := Tryz.underlying281
 a183 := Tryz.isAgg281
 z183 := Tryz.sizeOf281
 v183 := Tryz.zeroValue281
 t218 := Tryz.underlying293
 a218 := Tryz.isAgg293
 z218 := Tryz.sizeOf293
 v218 := Tryz.zeroValue293
 t222 := Tryz.underlying296
 a222 := Tryz.isAgg296
 z222 := Tryz.sizeOf296
 v222 := Tryz.zeroValue296
 t228 := Tryz.underlying302
 a228 := Tryz.isAgg302
 z228 := Tryz.sizeOf302
 v228 := Tryz.zeroValue302
 t229 := Tryz.underlying303
 a229 := Tryz.isAgg303
 z229 := Tryz.sizeOf303
 v229 := Tryz.zeroValue303 }
end Go.Proofs
namespace Go.Proofs.YtpohaahihdhleaaGreat
open Go.RowKit Go.Maps Go.Shelf Go.Sort
theorem putCells_front (cur : Array Value) (d : Array Int) (h : d.size ≤ cur.size) : (putCells (Value.int .i64) 0 d cur).toList = d.toList.map (Value.int .i64) ++ cur.toList.drop d.size := by
 apply List.ext_getElem?
 intro k
 unfold putCells
 rw [Array.getElem?_toList, Array.getElem?_mapIdx]
 by_cases hk : k < d.size
 ·rw [List.getElem?_append_left (by simpa using hk), List.getElem?_map, Array.getElem?_toList, Array.getElem?_eq_getElem hk, Array.getElem?_eq_getElem (show k < cur.size by omega)]
  simp [hk]
 ·rw [List.getElem?_append_right (by simpa using hk), List.getElem?_drop]
  have e : d.size + (k - (d.toList.map (Value.int .i64)).length) = k := by simp; omega
  rw [e, Array.getElem?_toList]
  cases cur[k]? with
  | none => rfl
  | some x => simp [hk]
theorem putRow_heap {w : World} {g : Nat} {cur : Array Value} {e : TypeId} {fr : Nat × Nat} (hg : w.heap[g]? = some (.cells cur e fr)) (d : Array Int) (q : Nat) :
  (putRow (Value.int .i64) (Sort.ahead w q) g 0 d).heap[g]? = some (.cells (putCells (Value.int .i64) 0 d cur) e fr) := by
 unfold putRow mapBlock
 simp [Array.getElem?_modify, hg, onCells]
theorem putRow_grown (w : World) (g : Nat) (d : Array Int) (q : Nat) : w.grownBy (putRow (Value.int .i64) (Sort.ahead w q) g 0 d) (some g) := by
 refine ⟨rfl, rfl, rfl, by simp [putRow, mapBlock], fun k hk hne => ?_⟩
 have : ¬ g = k := fun e => hne (by rw [e])
 simp [putRow, mapBlock, Array.getElem?_modify, this]
theorem grow_grown (w : World) (os : Array Obj) : w.grownBy (grow w os) none :=
 ⟨rfl, rfl, rfl, by simp [grow], fun k hk _ => heap_grow_old w os hk⟩
theorem row_put {w : World} {g cap : Nat} {cur : Array Value} (hg : w.heap[g]? = some (.cells cur 3 (0, 0))) (hc : cur.size = cap) (h2 : cap ≤ maxLen) (d : Array Int) (hd : d.size ≤ cap) (q : Nat) (ys : List Nat) (hy : d.toList.take ys.length = ys.map (fun x : Nat => (x : Int))) (hl : ys.length ≤ d.size) :
  OwnI (putRow (Value.int .i64) (Sort.ahead w q) g 0 d) (.slice (some ⟨g, 0, none⟩) ys.length cap) ys := by
 refine .inl ⟨by simp, .inr ⟨g, cap, _, rfl, Nat.zero_le _, putRow_heap hg d q, by omega, h2, by unfold putCells; simp [hc], ?_⟩⟩
 rw [putCells_front _ _ (by omega), Nat.mul_one, List.take_append_of_le_length (by simpa using hl), ← List.map_take, hy, List.map_map]
 rfl
theorem OwnI.row {w : World} {v : Value} {xs : List Nat} (h : OwnI w v xs) (hx : xs ≠ []) : ∃ g cap cur, v = .slice (some ⟨g, 0, none⟩) xs.length cap ∧ w.heap[g]? = some (.cells cur 3 (0, 0)) ∧ xs.length ≤ cap ∧ cap ≤ maxLen ∧ cur.size = cap ∧ rowOf v = some g ∧
  Go.Sort.Holds (Value.int .i64) w g 0 (xs.map (fun x : Nat => (x : Int))).toArray := by
 rcases h with h | ⟨a, _, h⟩
 ·rcases h.2 with ⟨_, h0⟩ | ⟨g, cap, cur, rfl, hb, hg, h1, h2, h3, h4⟩
  ·exact absurd (List.length_eq_zero_iff.1 h0) hx
  ·have hpos : 0 < xs.length := List.length_pos_iff.2 hx
   refine ⟨g, cap, cur, rfl, hg, h1, h2, by omega, ?_, fun j hj => ⟨?_, frozen_of_row _ _ _ _ _ hg⟩⟩
   ·show (if cap = 0 then none else some g) = some g
    rw [if_neg (by omega)]
   ·have hj' : j < xs.length := by simpa using hj
    rw [Nat.zero_add, cell_of_row _ _ j _ _ _ hg]
    have h5 := congrArg (fun l => l[j]?) h4
    rw [Nat.mul_one] at h5
    simp only [List.getElem?_take, if_pos hj', List.getElem?_map, List.getElem?_eq_getElem hj', Option.map_some] at h5
    rw [← Array.getElem?_toList, h5]
    simp [vi, hj']
 ·exact absurd h hx
theorem OwnI.none_val {w : World} {v : Value} (h : OwnI w v []) : ∃ p c, v = .slice p 0 c := by
 obtain ⟨a, c, e, _⟩ := h.cells
 exact ⟨a, c, e⟩
def SortedI (w : World) (v : Value) (xs : List Nat) : Ending → World → Prop := fun e w' => e = .returned (.tuple #[]) ∧ ∃ ys : List Nat, OwnI w' v ys ∧ ys.Pairwise (· ≤ ·) ∧ ys.Perm xs ∧ w.grownBy w' (rowOf v)
theorem sortI_any {w : World} {v : Value} {xs : List Nat} (h : OwnI w v xs) (hl : xs.length ≤ 1000000000) : Calls Tryz.prog 133 #[v] w (SortedI w v xs) := by
 by_cases hx : xs = []
 ·subst hx
  obtain ⟨p, c, rfl⟩ := h.none_val
  refine (Any.slices_Sort_int_none Tryz.lays189 p c w).mono ?_
  rintro e w' ⟨rfl, rfl⟩
  exact ⟨rfl, [], h, List.Pairwise.nil, List.Perm.refl _, grown_self _ _⟩
 ·obtain ⟨g, cap, cur, rfl, hg, h1, h2, h3, h4, hH⟩ := h.row hx
  have hc := Any.slices_Sort_int Tryz.lays189 g 0 cap (xs.map (fun x : Nat => (x : Int))) w hH (Array.getElem?_eq_some_iff.1 hg).1 (by rw [List.length_map]; omega)
  rw [List.length_map] at hc
  refine hc.mono ?_
  rintro e w' ⟨rfl, q, os, rfl⟩
  have hm : (xs.map (fun x : Nat => (x : Int))).mergeSort (fun x y => decide (x ≤ y)) = (xs.mergeSort (fun x y => decide (x ≤ y))).map (fun x : Nat => (x : Int)) := by
   rw [List.map_mergeSort (s := fun x y : Int => decide (x ≤ y)) (fun a _ b _ => by simp)]
  rw [hm]
  have hpm := List.mergeSort_perm xs (fun x y => decide (x ≤ y))
  have hlm : (xs.mergeSort (fun x y => decide (x ≤ y))).length = xs.length := hpm.length_eq
  have hso : (xs.mergeSort (fun x y => decide (x ≤ y))).Pairwise (· ≤ ·) := by
   have := List.pairwise_mergeSort (le := fun x y : Nat => decide (x ≤ y)) (fun a b c h1 h2 => by simp at *; omega) (fun a b => by simp; omega) xs
   exact this.imp (fun h => by simpa using h)
  have ho := row_put hg h3 h2 ((xs.mergeSort (fun x y => decide (x ≤ y))).map (fun x : Nat => (x : Int))).toArray (by rw [List.size_toArray, List.length_map, hlm]; exact h1) q (xs.mergeSort (fun x y => decide (x ≤ y))) (by rw [List.take_of_length_le (by simp)]) (by simp)
  rw [hlm] at ho
  have hgr := putRow_grown w g ((xs.mergeSort (fun x y => decide (x ≤ y))).map (fun x : Nat => (x : Int))).toArray q
  refine ⟨rfl, _, ?_, hso, hpm, ?_⟩
  ·exact ho.keep (fun b hb => heap_grow_old _ _ (ho.lt b hb))
  ·have hg2 := grow_grown (putRow (Value.int .i64) (Sort.ahead w q) g 0 ((xs.mergeSort (fun x y => decide (x ≤ y))).map (fun x : Nat => (x : Int))).toArray) os
   rw [h4]
   exact ⟨hg2.os.trans hgr.os, hg2.tape.trans hgr.tape, hg2.output.trans hgr.output, Nat.le_trans hgr.size hg2.size, fun k hk hne => (hg2.block k (Nat.lt_of_lt_of_le hk hgr.size) (by simp)).trans (hgr.block k hk hne)⟩
end Go.Proofs.YtpohaahihdhleaaGreat
namespace Go.Proofs.YtpohaahihdhleaaGreat
open Go.RowKit Go.Maps Go.ChangeMaps
theorem least_ex {p : Nat → Prop} (h : ∃ m, p m) : ∃ m, p m ∧ ∀ k, p k → m ≤ k := by
 have go : ∀ n m, m ≤ n → p m → ∃ m, p m ∧ ∀ k, p k → m ≤ k := by
  intro n
  induction n with
  | zero => intro m hm hp; exact ⟨m, hp, fun k _ => by omega⟩
  | succ n ih =>
   intro m hm hp
   by_cases hq : ∃ k, k ≤ n ∧ p k
   ·obtain ⟨k, hk, hpk⟩ := hq
    exact ih k hk hpk
   ·refine ⟨m, hp, fun k hk => ?_⟩
    rcases Nat.lt_or_ge n k with c | c
    ·omega
    ·exact absurd ⟨k, c, hk⟩ hq
 obtain ⟨m, hm⟩ := h
 exact go m m (Nat.le_refl _) hm
open Classical in
noncomputable def leastM (p : Nat → Prop) : Nat := if h : ∃ m, p m then Classical.choose (least_ex h) else 0
theorem leastM_spec {p : Nat → Prop} (h : ∃ m, p m) : p (leastM p) := by
 unfold leastM
 rw [dif_pos h]
 exact (Classical.choose_spec (least_ex h)).1
theorem leastM_le {p : Nat → Prop} {m : Nat} (h : p m) : leastM p ≤ m := by
 unfold leastM
 rw [dif_pos ⟨m, h⟩]
 exact (Classical.choose_spec (least_ex ⟨m, h⟩)).2 m h
theorem Trc.len {S : Dev} {L : List Hd} {f seen opn rest : List Nat} {bad : Bool} (h : Trc (okN S L) (ptrN S) f seen opn rest bad) : seen.length ≤ 512 * L.length :=
 nodup_len _ _ (fun x hx => (okN_lt (h.in_ x hx).ok').2) (nodup_count h.nd)
theorem Trc.opn_lt {S : Dev} {L : List Hd} {f seen opn rest : List Nat} {bad : Bool} (h : Trc (okN S L) (ptrN S) f seen opn rest bad) : ∀ x ∈ opn, x < 512 * L.length :=
 fun x hx => (okN_lt (h.in_ x (h.sub x hx)).ok').2
def TrRun (S : Dev) (L : List Hd) (w0 : World) (F : Foot) (B : Nat) (a : Option Addr) (cap : Nat) (T : TF) (f : List Nat) (w : World) (m : Nat) : Prop :=
 ∃ n seen opn bad v, TrAt w0 w F B a cap T n seen opn bad v ∧ Trc (okN S L) (ptrN S) f seen opn [] bad ∧ (512 * B - seen.length) + opn.length = m ∧ n + 64 * m ≤ 800000000
def TrDone (S : Dev) (L : List Hd) (w0 : World) (F : Foot) (B : Nat) (a : Option Addr) (cap : Nat) (T : TF) (f : List Nat) : Ending → World → Prop := fun e w' =>
 ∃ n seen bad v, e = .returned (.int .i64 (if bad = true then 22 else 0)) ∧ TrAt w0 w' F B a cap T n seen [] bad v ∧ Trc (okN S L) (ptrN S) f seen [] [] bad
set_option maxHeartbeats 4000000 in
set_option maxRecDepth 20000 in
theorem trun_any {w0 w : World} {F : Foot} {S : Dev} (h0 : DevAt w0 F S) {a : Option Addr} {B cap : Nat} {L : List Hd} (hlen : L.length = B) (hc : Cells w0 a (hdCs L)) (hB : B ≤ 1000)
  {T : TF} {f : List Nat} {m0 : Nat} (h : TrRun S L w0 F B a cap T f w m0) :
  Calls Tryz.prog 95 #[.pointer (some ⟨T.g, 0, none⟩)] w (TrDone S L w0 F B a cap T f) := by
 have HP : Hid (∀ w' n seen v, TrAt w0 w' F B a cap T n seen [] false v → Trc (okN S L) (ptrN S) f seen [] [] false → TrDone S L w0 F B a cap T f (.returned (.int .i64 0)) w') := LH (fun w' n seen v h1 h2 => ⟨n, seen, false, v, rfl, h1, h2⟩)
 have HQ : Hid (∀ w' n seen v, TrAt w0 w' F B a cap T n seen [] true v → Trc (okN S L) (ptrN S) f seen [] [] true → TrDone S L w0 F B a cap T f (.returned (.int .i64 22)) w') := LH (fun w' n seen v h1 h2 => ⟨n, seen, true, v, rfl, h1, h2⟩)
 generalize TrDone S L w0 F B a cap T f = Post at *
 obtain ⟨g, hg⟩ : ∃ g, g = T.g := ⟨_, rfl⟩
 have HG := LH hg
 have HStep : Hid (∀ (w1 : World) (n : Nat) (seen opn : List Nat) (bad : Bool) (v : Value), TrAt w0 w1 F B a cap T n seen opn bad v → n ≤ 900000000 → opn.length ≤ 900000000 → (∀ x ∈ opn, x ≤ 1000000000) →
   Calls Tryz.prog 143 #[.pointer (some ⟨g, 0, none⟩)] w1 (TStep S L w0 F B a cap T n seen opn bad v)) := LH (fun w1 n seen opn bad v h h1 h2 h3 => by
  have := tstep_any h0 hlen hc hB h h1 h2 h3
  rw [← hg] at this
  exact this)
 rw [← hg]
 have HS := LH h
 have HL := LH hlen
 clear h0 hc hg h hlen
 go_enter Tryz.func95, Tryz.ntmps95
 go_wp2_with fail
 go_loopw [] (fun wr => ∃ m, TrRun S L w0 F B a cap T f wr m) (fun wr => leastM (TrRun S L w0 F B a cap T f wr))
 case atStart => exact ⟨m0, HS.out⟩
 case round =>
  obtain ⟨m, hm⟩ : ∃ m, m = leastM (TrRun S L w0 F B a cap T f wr) := ⟨_, rfl⟩
  have hsp := leastM_spec hrel
  rw [← hm] at hsp
  have HM := LH hm
  obtain ⟨n, seen, opn, bad, v, ht, htc, hmm, hnm⟩ := hsp
  clear hrel hm
  have htl := htc.len
  rw [HL.out] at htl
  have hop : ∀ x ∈ opn, x ≤ 1000000000 := fun x hx => by
   have h1 := htc.opn_lt x hx
   rw [HL.out] at h1
   omega
  have HSt := LH (HStep.out wr n seen opn bad v ht (by omega) (by omega) hop)
  have HTc := LH htc
  have HNm : Hid (n + 64 * m ≤ 800000000 ∧ (512 * B - seen.length) + opn.length = m ∧ seen.length ≤ 512 * B) := LH ⟨hnm, hmm, htl⟩
  clear ht htc hmm hnm htl hop
  go_wp2_with fail
  refine HSt.out.mono ?_
  rintro e w1 (⟨rfl, rfl, ht1⟩ | ⟨seen', opn', bad', v', hne, rfl, ht1, hct, hl1, hl2, _⟩)
  ·have HT1 := LH ht1
   clear ht1
   cases bad with
   | false =>
    have HB1 : Hid (BadAt Tryz.prog 252 w1 T.mb n false) := LH HT1.out.bad
    have c5 : w1.cell? ⟨g, 5, none⟩ = some (.map (some T.mb)) := by rw [HG.out]; exact HT1.out.cell 5 rfl
    go_wp2_with (refine wpList_blen rfl _ _ rfl 252 3 Tryz.underlying248 T.mb n false rfl HB1.out ?_; intro s hs hs0 hs1; obtain rfl := hs0 rfl; clear hs hs0 hs1)
    exact HP.out _ _ _ _ HT1.out HTc.out
   | true =>
    have HB1 : Hid (BadAt Tryz.prog 252 w1 T.mb n true) := LH HT1.out.bad
    have c5 : w1.cell? ⟨g, 5, none⟩ = some (.map (some T.mb)) := by rw [HG.out]; exact HT1.out.cell 5 rfl
    go_wp2_with (refine wpList_blen rfl _ _ rfl 252 3 Tryz.underlying248 T.mb n true rfl HB1.out ?_; intro s hs hs0 hs1; have hsp : 0 < (s : Int) := (by have := hs1 rfl; omega); clear hs hs0 hs1)
    exact HQ.out _ _ _ _ HT1.out HTc.out
  ·have ht2 := hct f HTc.out
   have hlen2 := ht2.len
   rw [HL.out] at hlen2
   obtain ⟨z1, z2, z3⟩ := HNm.out
   have hpos : 0 < opn.length := List.length_pos_iff.2 hne
   have HNew : Hid (∃ m', m' < m ∧ TrRun S L w0 F B a cap T f w1 m') := LH ⟨(512 * B - seen'.length) + opn'.length, by omega, n + 64, seen', opn', bad', v', ht1, ht2, rfl, by omega⟩
   clear ht1 hct hl1 hl2 hne ht2 hlen2 z1 z2 z3 hpos HNm HTc HSt
   go_wp2_with fail
   obtain ⟨m', hlt, hr⟩ := HNew.out
   refine ⟨⟨m', hr⟩, ?_⟩
   rw [← HM.out]
   exact Nat.lt_of_le_of_lt (leastM_le hr) hlt
def SeenPost (w : World) (seen : List Nat) : Ending → World → Prop := fun e w' => ∃ v ys, e = .returned v ∧ OwnI w' v ys ∧ ys.Pairwise (· ≤ ·) ∧ ys.Perm seen ∧ Below w.heap.size w w' ∧ (∀ b, rowOf v = some b → w.heap.size ≤ b)
set_option maxHeartbeats 4000000 in
set_option maxRecDepth 20000 in
theorem tseen_any {w0 w : World} {F : Foot} {a : Option Addr} {B cap : Nat} {T : TF} {n : Nat} {seen opn : List Nat} {bad : Bool} {v : Value} (h : TrAt w0 w F B a cap T n seen opn bad v) (hnd : seen.Nodup) (hl : seen.length ≤ 900000000) :
  Calls Tryz.prog 96 #[.pointer (some ⟨T.g, 0, none⟩)] w (SeenPost w seen) := by
 have HP : Hid (∀ v ys w', OwnI w' v ys → ys.Pairwise (· ≤ ·) → ys.Perm seen → Below w.heap.size w w' → (∀ b, rowOf v = some b → w.heap.size ≤ b) → SeenPost w seen (.returned v) w') := LH (fun v ys w' h1 h2 h3 h4 h5 => ⟨v, ys, rfl, h1, h2, h3, h4, h5⟩)
 generalize SeenPost w seen = Post at *
 have c3 : w.cell? ⟨T.g, 3, none⟩ = some (.map (some T.ms)) := h.cell 3 rfl
 have HV := LH h.seen
 obtain ⟨g, hg⟩ : ∃ g, g = T.g := ⟨_, rfl⟩
 obtain ⟨ms, hms⟩ : ∃ g, g = T.ms := ⟨_, rfl⟩
 rw [← hg, ← hms] at c3
 rw [← hms] at HV
 rw [← hg]
 have HNd := LH hnd
 have HL := LH hl
 clear h hnd hl hg hms
 go_enter Tryz.func96, Tryz.ntmps96
 go_wp2_with (at_range; refine wpList_srange rfl _ 247 rfl 3 4 Tryz.underlying3 Tryz.underlying247 ms n seen rfl HV.out ?_; intro w1 cnt0 hr0 hg0 hs0)
 have HR0 := LH hr0
 have HB0 := LH (grown_none hg0)
 have HSz : Hid (w.heap.size + 1 ≤ w1.heap.size) := LH (by omega)
 clear hr0 hg0 hs0 c3
 go_frame
 obtain ⟨r, hr⟩ : ∃ r, r = w.heap.size := ⟨_, rfl⟩
 have HRr := LH hr
 rw [← hr] at HR0 HSz ⊢
 clear hr
 go_loopw [3] (fun ov wr => ∃ (dn left : List Nat) (cnt : Nat), Hid (OwnI wr ov dn) ∧ Hid (∀ b, rowOf ov = some b → r < b) ∧ Hid (SRange Tryz.prog 3 wr ms r n seen left cnt) ∧ Hid ((dn ++ left).Perm seen) ∧ Hid (Below w.heap.size w wr ∧ r + 1 ≤ wr.heap.size)) (fun _ wr => wr.rangeLeft ms r)
 case atStart => exact ⟨[], seen, cnt0, LH (OwnI.nil _), LH (fun b hb => by cases hb), HR0, LH (List.Perm.refl _), LH ⟨HB0.out, HSz.out⟩⟩
 case round =>
  obtain ⟨dn, left, cnt, HO, HRow, HR, HPm, HB⟩ := hrel
  have hndl : left.Nodup := (List.nodup_append.1 (HPm.out.nodup_iff.2 HNd.out)).2.1
  have hsub : ∀ x ∈ left, x ∈ seen := fun x hx => HPm.out.mem_iff.1 (List.mem_append_right _ hx)
  have HNl := LH hndl
  have HSb := LH hsub
  clear hndl hsub
  obtain ⟨av, cv, hov, _⟩ := HO.out.cells
  obtain ⟨l, hll⟩ : ∃ l, l = dn.length := ⟨_, rfl⟩
  rw [← hll] at hov
  have HLl := LH hll
  subst hov
  clear hll
  go_wp2_with (at_next; refine wpList_snext rfl _ rfl 3 Tryz.underlying3 ms r n seen left _ HNl.out HSb.out rfl HR.out ?_ ?_)
  ·intro h0
   subst h0
   have HPe : Hid (dn.Perm seen) := LH (by have := HPm.out; rwa [List.append_nil] at this)
   have HDl : Hid (dn.length ≤ 1000000000) := LH (by rw [HPe.out.length_eq]; have := HL.out; omega)
   go_wp2_with fail
   refine (sortI_any HO.out HDl.out).mono ?_
   rintro e w2 ⟨rfl, ys, ho, hso, hpm, hgr⟩
   have hlen : ys.length = l := by rw [hpm.length_eq, HLl.out]
   have HO2 := LH ho
   have HS2 := LH hso
   have HP2 := LH (hpm.trans HPe.out)
   have HB2 : Hid (Below w.heap.size w w2) := LH (by
    have h1 := HB.out.1
    refine ⟨hgr.os.trans h1.os, hgr.tape.trans h1.tape, hgr.output.trans h1.output, Nat.le_trans h1.size hgr.size, fun k hk => (hgr.block k (Nat.lt_of_lt_of_le hk h1.size) (fun e => ?_)).trans (h1.block k hk)⟩
    have := HRow.out _ e.symm
    rw [HRr.out] at this
    omega)
   have HRw : Hid (∀ b, rowOf (.slice av l cv) = some b → w.heap.size ≤ b) := LH (fun b hb => by have := HRow.out b hb; rw [HRr.out] at this; omega)
   clear ho hso hpm hgr hlen
   go_wp2_with fail
   exact HP.out _ _ _ HO2.out HS2.out HP2.out HB2.out HRw.out
  ·intro x w2 cnt1 hx hr1 hlt hg1 hs1 hen
   have HR1 := LH hr1
   have HLt := LH hlt
   have HO1 : Hid (OwnI w2 (.slice av l cv) dn) := LH (HO.out.keep (fun b hb => hg1.block b (HO.out.lt b hb) (fun e => by injection e with e; have := HRow.out b hb; omega)))
   have HB1 : Hid (Below w.heap.size w w2 ∧ r + 1 ≤ w2.heap.size) := LH ⟨HB.out.1.trans ⟨hg1.os, hg1.tape, hg1.output, hg1.size, fun k hk => hg1.block k (Nat.lt_of_lt_of_le hk HB.out.1.size) (fun e => by injection e with e; rw [HRr.out] at e; omega)⟩, by rw [hs1]; exact HB.out.2⟩
   have HP1 : Hid ((dn ++ [x] ++ left.erase x).Perm seen) := LH (by
    refine List.Perm.trans ?_ HPm.out
    rw [List.append_assoc]
    exact List.Perm.append_left _ (List.perm_cons_erase hx).symm)
   have HO2 := LH (HO1.out.keep (fun b hb => (below_alloc w2 (.cells #[.int .i64 (x : Int)] 3)).block b (HO1.out.lt b hb)))
   have HC2 : Hid (Cells (w2.alloc (.cells #[.int .i64 (x : Int)] 3)) (some ⟨w2.heap.size, 0, none⟩) ([x].map vi)) := LH (RowAt.cells ⟨_, heap_alloc_new _ _, [], rfl⟩)
   have HN1 : Hid (dn.length + 1 ≤ 1000000000000) := LH (by
    have h1 := HPm.out.length_eq
    rw [List.length_append] at h1
    have := HL.out
    omega)
   have HSz2 : Hid (r < w2.heap.size) := LH (by have := HB1.out.2; omega)
   clear hx hr1 hlt hg1 hs1
   go_wp2_with (refine wpList_append_ownI (m := 1) HO2.out HC2.out rfl HN1.out rfl rfl rfl rfl ?_; intro v' w3 ho hg hr; have HO3 := LH ho; have HG3 := LH hg; have HR3 := LH hr; clear ho hg hr)
   go_roundw
   case rel =>
    have hg3 := HG3.out
    refine ⟨dn ++ [x], left.erase x, cnt1, HO3, LH (fun b hb => ?_), LH ?_, HP1, LH ⟨?_, ?_⟩⟩
    ·rcases HR3.out b hb with c | c
     ·exact HRow.out b c
     ·rw [c]; simp; have := HSz2.out; omega
    ·refine ((HR1.out.kept (World.grownBy_alloc w2 _ none) (by simp) (by simp)).kept hg3 ?_ ?_)
     ·intro e
      have h1 := HRow.out _ e.symm
      have h2 := HV.out.lt
      rw [HRr.out] at h1
      omega
     ·intro e
      have h1 := HRow.out _ e.symm
      omega
    ·have hba := below_alloc w2 (.cells #[.int .i64 (x : Int)] 3)
     have h1 := HB1.out.1.trans (hba.mono HB1.out.1.size)
     refine ⟨hg3.os.trans h1.os, hg3.tape.trans h1.tape, hg3.output.trans h1.output, Nat.le_trans h1.size hg3.size, fun k hk => (hg3.block k (Nat.lt_of_lt_of_le hk h1.size) (fun e => ?_)).trans (h1.block k hk)⟩
     have := HRow.out _ e.symm
     rw [HRr.out] at this
     omega
    ·have h1 := hg3.size
     have h2 := HB1.out.2
     simp at h1
     omega
   case measure =>
    have hk : SRange Tryz.prog 3 w3 ms r n seen (left.erase x) cnt1 := by
     refine ((HR1.out.kept (World.grownBy_alloc w2 _ none) (by simp) (by simp)).kept HG3.out ?_ ?_)
     ·intro e
      have h1 := HRow.out _ e.symm
      have h2 := HV.out.lt
      rw [HRr.out] at h1
      omega
     ·intro e
      have h1 := HRow.out _ e.symm
      omega
    rw [hk.left_eq, HR.out.left_eq]
    exact HLt.out
def ClPost (S : Dev) (L : List Hd) (fr : List Nat) (w : World) : Ending → World → Prop := fun e w' => Below w.heap.size w w' ∧
  ((CloOk (okN S L) (ptrN S) fr ∧ ∃ v ys, e = .returned (.tuple #[v, .int .i64 0]) ∧ OwnI w' v ys ∧ ys.Pairwise (· < ·) ∧ (∀ x, x ∈ ys ↔ Rch (okN S L) (ptrN S) fr x) ∧ (∀ b, rowOf v = some b → w.heap.size ≤ b)) ∨
   (¬ CloOk (okN S L) (ptrN S) fr ∧ e = .returned (.tuple #[.slice none 0 0, .int .i64 22])))
theorem lt_of_le_nodup {ys : List Nat} (h : ys.Pairwise (· ≤ ·)) (hn : ys.Nodup) : ys.Pairwise (· < ·) := by
 have := List.pairwise_and_iff.2 ⟨h, hn⟩
 exact this.imp (fun ⟨h1, h2⟩ => Nat.lt_of_le_of_ne h1 h2)
set_option maxHeartbeats 8000000 in
set_option maxRecDepth 20000 in
theorem tclosure_any {w : World} {F : Foot} {S : Dev} (h : DevAt w F S) {a : Option Addr} {B cap : Nat} {L : List Hd} (hlen : L.length = B) (hc : Cells w a (hdCs L)) (hB : B ≤ 1000)
  (fa : Option Addr) (fl fc : Nat) (fr : List Nat) (hfl : fr.length = fl) (hfc : Cells w fa (fr.map vi)) (hfs : fl ≤ 1000) (hfb : ∀ x ∈ fr, x ≤ 4611686018427387904) :
  Calls Tryz.prog 47 #[vdev F, vgeom (B : Int), .slice a B cap, .slice fa fl fc] w (ClPost S L fr w) := by
 have HP : Hid (∀ v ys w', Below w.heap.size w w' → CloOk (okN S L) (ptrN S) fr → OwnI w' v ys → ys.Pairwise (· < ·) → (∀ x, x ∈ ys ↔ Rch (okN S L) (ptrN S) fr x) → (∀ b, rowOf v = some b → w.heap.size ≤ b) → ClPost S L fr w (.returned (.tuple #[v, .int .i64 0])) w') := LH (fun v ys w' h1 h2 h3 h4 h5 h6 => ⟨h1, .inl ⟨h2, v, ys, rfl, h3, h4, h5, h6⟩⟩)
 have HQ : Hid (∀ w', Below w.heap.size w w' → ¬ CloOk (okN S L) (ptrN S) fr → ClPost S L fr w (.returned (.tuple #[.slice none 0 0, .int .i64 22])) w') := LH (fun w' h1 h2 => ⟨h1, .inr ⟨h2, rfl⟩⟩)
 generalize ClPost S L fr w = Post at *
 have hb1 := below_alloc w (.cells #[.int .i64 (B : Int)] 44)
 have c0 : (w.alloc (.cells #[.int .i64 (B : Int)] 44)).cell? ⟨w.heap.size, 0, none⟩ = some (.int .i64 (B : Int)) := cell_alloc_new _ _ _ 0 _ rfl
 have HB1 := LH hb1
 have h1 := h.below hb1
 have hc1 := hc.below hb1 (Nat.le_refl _)
 have hf1 := hfc.below hb1 (Nat.le_refl _)
 generalize hw1 : w.alloc (.cells #[.int .i64 (B : Int)] 44) = w1 at *
 have HRoot : Hid (∀ (T : TF) (w2 : World) (n : Nat) (seen opn : List Nat) (bad : Bool) (v : Value), TrAt w1 w2 F B a cap T n seen opn bad v → n ≤ 1000000000 → opn.length ≤ 1000000000 → ∀ x : Nat, x ≤ 4611686018427387904 →
   Calls Tryz.prog 94 #[.pointer (some ⟨T.g, 0, none⟩), .int .i64 (x : Int)] w2 (Reached S L w1 F B a cap T n seen opn bad v w2 x)) := LH (fun T w2 n seen opn bad v ht hn ho x hx => troot_any h1 hlen hc1 hB ht hn ho x hx)
 have HRun : Hid (∀ (T : TF) (w2 : World) (m0 : Nat), TrRun S L w1 F B a cap T fr w2 m0 → Calls Tryz.prog 95 #[.pointer (some ⟨T.g, 0, none⟩)] w2 (TrDone S L w1 F B a cap T fr)) := LH (fun T w2 m0 ht => trun_any h1 hlen hc1 hB ht)
 have HCf := LH hf1
 have HFl := LH hfl
 have HFb := LH hfb
 have HLn := LH hlen
 clear h hc hfc h1 hc1 hf1 hfl hfb hb1 hlen
 go_enter Tryz.func47, Tryz.ntmps47
 go_upto_region 1 with fail
 clear hw1
 obtain ⟨q, hq⟩ : ∃ q, q = w.heap.size := ⟨_, rfl⟩
 rw [← hq] at c0 ⊢
 clear hq
 go_wp2_with fail
 refine (trnew_any w1 F B a cap).mono ?_
 rintro e w2 ⟨T, rfl, ht⟩
 have HT := LH ht
 obtain ⟨g, hg⟩ : ∃ g, g = T.g := ⟨_, rfl⟩
 have HG := LH hg
 rw [← hg]
 clear ht hg c0
 go_wp2_with fail
 go_loopw [11, 22] (fun fv iv wr => ∃ (k : Nat) (seen opn : List Nat) (bad : Bool) (v : Value) (fe : Int), k ≤ fl ∧ fv = .int .i64 fe ∧ iv = .int .i64 (k : Int) ∧ Hid (TrAt w1 wr F B a cap T k seen opn bad v) ∧ Hid (Trc (okN S L) (ptrN S) fr seen opn (fr.drop k) bad) ∧ Hid (fe ≠ 0 → bad = true) ∧ Hid (opn.length ≤ k)) (fun _ iv _ => fl - (RowKit.intOf iv).toNat)
 case atStart => exact ⟨0, [], [], false, _, 0, by omega, rfl, rfl, HT, LH (Trc.start _ _ _), LH (fun h => absurd rfl h), LH (by simp)⟩
 case round =>
  obtain ⟨k, seen, opn, bad, v, fe, hk, rfl, rfl, HTr, HTc, HFe, HOl⟩ := hrel
  by_cases hlt : k < fl
  ·have hlt' : (k : Int) < (fl : Int) := by omega
   obtain ⟨x, hx⟩ : ∃ x, fr[k]? = some x := ⟨_, List.getElem?_eq_getElem (by rw [HFl.out]; exact hlt)⟩
   obtain ⟨b1, o1, q1, _, hcx⟩ := (HCf.out.below HTr.out.org (Nat.le_refl _)).at (i := k) (by rw [List.length_map, HFl.out]; exact hlt)
   have cx : wr.cell? ⟨b1, o1 + k, none⟩ = some (.int .i64 (x : Int)) := hcx k (vi x) (by rw [List.getElem?_map, hx]; rfl)
   have HXb := LH (HFb.out x (List.mem_of_getElem? hx))
   have HDr : Hid (fr.drop k = x :: fr.drop (k + 1)) := LH (by
    have hk2 : k < fr.length := by rw [HFl.out]; exact hlt
    rw [List.drop_eq_getElem_cons hk2]
    congr 1
    rw [List.getElem?_eq_getElem hk2] at hx
    injection hx)
   have HRx := LH (HRoot.out T wr k seen opn bad v HTr.out (by omega) (by have := HOl.out; omega) x HXb.out)
   rw [← HG.out] at HRx
   subst q1
   clear hcx hx
   go_wp2_with fail
   refine HRx.out.mono ?_
   rintro e w5 ⟨seen2, opn2, bad2, v2, er, rfl, ht2, her, hbe, hbb, htc, hl1, hl2, hto, hro, hl3⟩
   have HT2 := LH ht2
   have HTc2 : Hid (Trc (okN S L) (ptrN S) fr seen2 opn2 (fr.drop (k + 1)) bad2) := LH (htc fr _ (by rw [← HDr.out]; exact HTc.out))
   have HOl2 : Hid (opn2.length ≤ k + 1) := LH (by have := HOl.out; omega)
   have HBb := LH hbb
   have HBe := LH hbe
   clear ht2 hbe hbb htc hl1 hl2 hto hro hl3 cx
   rcases her with rfl | rfl
   ·go_wp2_with fail
    exact ⟨⟨k + 1, seen2, opn2, bad2, v2, fe, by omega, rfl, vint (by omega), HT2, HTc2, LH (fun h => HBb.out (HFe.out h)), HOl2⟩, by simp [RowKit.intOf]; omega⟩
   ·go_wp2_with fail
    exact ⟨⟨k + 1, seen2, opn2, bad2, v2, 22, by omega, rfl, vint (by omega), HT2, HTc2, LH (fun _ => HBe.out (by decide)), HOl2⟩, by simp [RowKit.intOf]; omega⟩
  ·have hltd : decide ((k : Int) < (fl : Int)) = false := by simp; omega
   have hke : k = fl := by omega
   have HTc2 : Hid (Trc (okN S L) (ptrN S) fr seen opn [] bad) := LH (by have := HTc.out; rw [hke, ← HFl.out, List.drop_length] at this; exact this)
   have HRx := LH (HRun.out T wr ((512 * B - seen.length) + opn.length) ⟨k, seen, opn, bad, v, HTr.out, HTc2.out, rfl, by have := HOl.out; omega⟩)
   rw [← HG.out] at HRx
   have HKeep : Hid (∀ n seen' bad' v' w', TrAt w1 w' F B a cap T n seen' [] bad' v' → Trc (okN S L) (ptrN S) fr seen' [] [] bad' → (fe ≠ 0 → bad' = true)) := LH (fun n seen' bad' v' w' _ h2 hf => by
    have hb := HFe.out hf
    cases hq : bad' with
    | true => rfl
    | false =>
     have hok := h2.verdict.1 hq
     obtain ⟨z, z1, z2, z3⟩ := HTc2.out.dirty hb
     exact absurd (hok z z1 (z3.elim .inl (fun ⟨y, hy, hm⟩ => .inr ⟨y, HTc2.out.in_ y hy, hm⟩))) z2)
   clear hke HTc HFe HTc2 HTr
   go_wp2_with fail
   refine HRx.out.mono ?_
   rintro e w5 ⟨n5, seen5, bad5, v5, rfl, ht5, hc5⟩
   have HT5 := LH ht5
   have HC5 := LH hc5
   have hfe := HKeep.out _ _ _ _ _ ht5 hc5
   have HB5 : Hid (Below w.heap.size w w5) := LH (HB1.out.trans (ht5.org.mono HB1.out.size))
   clear ht5 hc5
   cases bad5 with
   | true =>
    rw [if_pos rfl]
    clear hfe
    go_wp2_with fail
    exact HQ.out _ HB5.out (fun h => by have := HC5.out.verdict.2 h; cases this)
   | false =>
    rw [if_neg (by simp)]
    have hf0 : fe = 0 := by
     by_cases c : fe = 0
     ·exact c
     ·have := hfe c; cases this
    subst hf0
    have hnd := HC5.out.nd
    have hln := HC5.out.len
    rw [HLn.out] at hln
    have HSe := LH (tseen_any HT5.out hnd (by omega))
    rw [← HG.out] at HSe
    clear hfe hnd hln
    go_wp2_with fail
    refine HSe.out.mono ?_
    rintro e w6 ⟨v6, ys, rfl, ho6, hso, hpm, hb6, hrw⟩
    have HO6 := LH ho6
    have HS6 := LH (lt_of_le_nodup hso (hpm.nodup_iff.2 HC5.out.nd))
    have HM6 : Hid (∀ x, x ∈ ys ↔ Rch (okN S L) (ptrN S) fr x) := LH (fun x => by rw [hpm.mem_iff]; exact HC5.out.done x)
    have HR6 : Hid (∀ b, rowOf v6 = some b → w.heap.size ≤ b) := LH (fun b hb => Nat.le_trans HB5.out.size (hrw b hb))
    have HB6 : Hid (Below w.heap.size w w6) := LH (HB5.out.trans (hb6.mono HB5.out.size))
    clear ho6 hso hpm hb6 hrw
    go_wp2_with fail
    exact HP.out _ _ _ HB6.out (HC5.out.verdict.1 rfl) HO6.out HS6.out HM6.out HR6.out
end Go.Proofs.YtpohaahihdhleaaGreat
namespace Go.Proofs.YtpohaahihdhleaaGreat
open Go.RowKit Go.Maps
theorem supR_ok {S : Dev} (h : (supR S).2.2 = 0) : 2 ≤ (supR S).1 ∧ (supR S).1 ≤ 256 ∧ 512 * (supR S).1 = S.cache.length := by
 unfold supR at h ⊢
 by_cases c : (supD (dwordsAt S 0 8)).2.2 ≠ 0 ∨ 512 * (supD (dwordsAt S 0 8)).1 ≠ S.cache.length
 ·rw [if_pos c] at h; simp at h
 ·rw [if_neg c] at h ⊢
  have h2 : 512 * (supD (dwordsAt S 0 8)).1 = S.cache.length := by
   by_cases d : 512 * (supD (dwordsAt S 0 8)).1 = S.cache.length
   ·exact d
   ·exact absurd (.inr d) c
  refine ⟨?_, supD_small _, h2⟩
  unfold supD at h ⊢
  split at h
  ·simp at h
  ·split at h
   ·simp at h
   ·split at h
    ·rename_i c1 c2 c3
     rw [if_neg c1, if_neg c2, if_pos c3]
     exact c3.1
    ·simp at h
theorem supR_err (S : Dev) : (supR S).2.2 = 0 ∨ supR S = (0, 0, 20) := by
 unfold supR
 by_cases c : (supD (dwordsAt S 0 8)).2.2 ≠ 0 ∨ 512 * (supD (dwordsAt S 0 8)).1 ≠ S.cache.length
 ·rw [if_pos c]; exact .inr rfl
 ·rw [if_neg c]
  refine .inl ?_
  by_cases d : (supD (dwordsAt S 0 8)).2.2 = 0
  ·exact d
  ·exact absurd (.inl d) c
theorem slotD_right {ws : List Nat} (h : (slotD ws).2.2 = 0) : slotR (slotD ws).1 (slotD ws).2.1 = true := by
 unfold slotD at h ⊢
 split at h
 ·simp at h
 ·split at h
  ·simp at h
  ·split at h
   ·rename_i c1 c2 c3
    rw [if_neg c1, if_neg c2, if_pos c3]
    exact c3.1
   ·simp at h
theorem rootsN_right {S : Dev} (h : (rootsN S).2.2.2 = true) : slotR (rootsN S).1 (rootsN S).2.1 = true := by
 unfold rootsN at h ⊢
 unfold slotC at h ⊢
 split at h
 ·rename_i c
  rw [if_pos c]
  exact slotD_right c.1
 ·rename_i c1
  split at h
  ·rename_i c2
   rw [if_neg c1, if_pos c2]
   exact slotD_right c2
  ·simp at h
def rootL (S : Dev) : List Nat := (rootsN S).2.1.map Int.toNat
theorem rootL_cast {S : Dev} (h : (rootsN S).2.2.2 = true) : (rootsN S).2.1 = (rootL S).map (fun n : Nat => (n : Int)) := by
 unfold rootL
 rw [List.map_map]
 refine (List.map_id _).symm.trans (List.map_congr_left (fun r hr => ?_))
 obtain ⟨n, rfl, _⟩ := slotR_nat (rootsN_right h) r hr
 rfl
theorem rootL_lt {S : Dev} (h : (rootsN S).2.2.2 = true) : ∀ x ∈ rootL S, x < 131072 := fun x hx => by
 obtain ⟨r, hr, rfl⟩ := List.mem_map.1 hx
 obtain ⟨n, rfl, hn⟩ := slotR_nat (rootsN_right h) r hr
 exact hn
def lookL (S : Dev) : List Hd := hds (devWord S) (supR S).1
open Classical in
noncomputable def lookE (S : Dev) : Int :=
 if (supR S).2.2 ≠ 0 then 20 else if ¬ AllOk (devWord S) (supR S).1 then 21 else if (rootsN S).2.2.2 = false then 23 else if ¬ CloOk (okN S (lookL S)) (ptrN S) (rootL S) then 22 else 0
def stV (n id : Nat) (al rt lv : Value) : Value := .agg #[.int .i64 (n : Int), vu64 id, .int .i64 (n : Int), al, rt, lv]
def stZ : Array Value := #[.int .i64 0, .int .u64 0, .int .i64 0, .pointer none, .pointer none, .slice none 0 0]
theorem aggSt : Agg Tryz.prog 49 #[.int .i64 0, .int .u64 0, .int .i64 0, .pointer none, .pointer none, .slice none 0 0] := ⟨⟨_, Tryz.underlying49, rfl⟩, by kernel_rfl⟩
def LookPost (S : Dev) (F : Foot) (w : World) : Ending → World → Prop := fun e w' => Below w.heap.size w w' ∧
  ((lookE S = 0 ∧ ∃ g lg lc lv ys, e = .returned (.tuple #[stV (supR S).1 (supR S).2.1 (.pointer none) (.pointer (some ⟨g, 0, none⟩)) lv, .slice (some ⟨lg, 0, none⟩) (supR S).1 lc, .int .i64 0]) ∧
      RootsAt w' g F (rootsN S).1 (rootsN S).2.1 (rootsN S).2.2.1 ∧ w.heap.size ≤ g ∧ RowAt w' lg 107 (hdCs (lookL S)) ∧ w.heap.size ≤ lg ∧ (supR S).1 ≤ lc ∧
      OwnI w' lv ys ∧ ys.Pairwise (· < ·) ∧ (∀ x, x ∈ ys ↔ Rch (okN S (lookL S)) (ptrN S) (rootL S) x) ∧ (∀ b, rowOf lv = some b → w.heap.size ≤ b)) ∨
   (lookE S ≠ 0 ∧ e = .returned (.tuple #[.agg stZ, .slice none 0 0, .int .i64 (lookE S)])))
set_option maxHeartbeats 8000000 in
set_option maxRecDepth 20000 in
theorem look_any {w : World} {F : Foot} {S : Dev} (h : DevAt w F S) :
  Calls Tryz.prog 12 #[vdev F] w (LookPost S F w) := by
 have HF : Hid (∀ (c : Int) w', lookE S = c → c ≠ 0 → Below w.heap.size w w' → LookPost S F w (.returned (.tuple #[.agg stZ, .slice none 0 0, .int .i64 c])) w') := LH (fun c w' h1 h2 h3 => ⟨h3, .inr ⟨by rw [h1]; exact h2, by rw [h1]⟩⟩)
 obtain ⟨⟨n, id, e0⟩, hX⟩ : ∃ X, X = supR S := ⟨_, rfl⟩
 have HY : Hid (∀ g lg lc lv ys w', lookE S = 0 → Below w.heap.size w w' → RootsAt w' g F (rootsN S).1 (rootsN S).2.1 (rootsN S).2.2.1 → w.heap.size ≤ g → RowAt w' lg 107 (hdCs (lookL S)) → w.heap.size ≤ lg → n ≤ lc →
   OwnI w' lv ys → ys.Pairwise (· < ·) → (∀ x, x ∈ ys ↔ Rch (okN S (lookL S)) (ptrN S) (rootL S) x) → (∀ b, rowOf lv = some b → w.heap.size ≤ b) →
   LookPost S F w (.returned (.tuple #[stV n id (.pointer none) (.pointer (some ⟨g, 0, none⟩)) lv, .slice (some ⟨lg, 0, none⟩) n lc, .int .i64 0])) w') := LH (fun g lg lc lv ys w' h1 h2 h3 h4 h5 h6 h7 h8 h9 h10 h11 =>
  ⟨h2, .inl ⟨h1, g, lg, lc, lv, ys, by rw [← hX], h3, h4, h5, h6, by rw [← hX]; exact h7, h8, h9, h10, h11⟩⟩)
 generalize LookPost S F w = Post at *
 have HX := LH hX
 have HSu := LH (fun w' (hb : Below w.heap.size w w') => sread_any (h.below hb))
 rw [← hX] at HSu
 have HD := LH h
 have HEr := LH (supR_err S)
 unfold SdPost at HSu
 dsimp only at HSu
 have hid : id < 18446744073709551616 := by
  rcases supR_err S with c | c
  ·have : (supR S).2.1 < 18446744073709551616 := by
    unfold supR
    split
    ·decide
    ·unfold supD
     split
     ·decide
     ·split
      ·decide
      ·split
       ·show (dwordsAt S 0 8).getD 3 0 < _
        rw [List.getD_eq_getElem?_getD]
        cases hq : (dwordsAt S 0 8)[3]? with
        | none => simp
        | some x => exact dwordsAt_lt h.u64C 0 8 x (List.mem_of_getElem? hq)
       ·decide
   rw [← hX] at this; exact this
  ·rw [← hX] at c; injection c with c1 c2; injection c2 with c2 c3; omega
 clear h hX
 have HM := LH (Mem.one w #[.int .i64 0, .int .u64 0, .int .i64 0, .pointer none, .pointer none, .slice none 0 0] 49)
 go_enter Tryz.func12, Tryz.ntmps12
 go_upto_region 1 with fail
 obtain ⟨q1, hq1⟩ : ∃ q, q = w.heap.size := ⟨_, rfl⟩
 rw [← hq1] at HM ⊢
 generalize w.alloc _ = w1 at *
 clear hq1
 have HM1 : Hid (Mem w w1 [⟨q1, 49, [.int .i64 0, .int .u64 0, .int .i64 0, .pointer none, .pointer none, .slice none 0 0], true⟩]) := LH (by simpa using HM.out)
 clear HM
 go_wp2_with fail
 refine (HSu.out w1 HM1.out.below).mono ?_
 rintro e w2 ⟨rfl, hb2⟩
 have HM2 := LH ((HM1.out.later hb2).alloc #[.int .i64 (n : Int), vu64 id] 42)
 clear hb2 HM1 HSu
 go_upto_region 2 with fail
 obtain ⟨q2, hq2⟩ : ∃ q, q = w2.heap.size := ⟨_, rfl⟩
 rw [← hq2] at HM2 ⊢
 generalize w2.alloc _ = w3 at *
 clear hq2
 have HM3 : Hid (Mem w w3 [⟨q1, 49, [.int .i64 0, .int .u64 0, .int .i64 0, .pointer none, .pointer none, .slice none 0 0], true⟩, ⟨q2, 42, [.int .i64 (n : Int), vu64 id], true⟩]) := LH (by simpa using HM2.out)
 clear HM2
 by_cases he : e0 = 0
 case neg =>
  have he20 : e0 = 20 := by
   rcases HEr.out with c | c
   ·rw [← HX.out] at c; exact absurd c he
   ·rw [← HX.out] at c; injection c with _ c; injection c
  subst he20
  have HE : Hid (lookE S = 20) := LH (by unfold lookE; rw [← HX.out, if_pos he])
  have HG := LH (fun w' h => HF.out 20 w' HE.out (by decide) h)
  clear he
  go_wp2_with (refine wpList_store_mem aggSt HM3.out 0 rfl rfl rfl rfl rfl rfl rfl rfl ?_; intro w6 h6 ht6; have H6 := LH h6; clear h6 ht6)
  refine bodyPost_ret (results_sl3 (p := 2) (s := 3) (u := 4) rfl _ _ _ _ _ _ _ rfl (H6.out.exact 0 rfl) Tryz.underlying49 rfl (by kernel_rfl)) rfl ?_
  exact HG.out _ H6.out.below
 subst he
 have hno := supR_ok (S := S) (by rw [← HX.out])
 rw [← HX.out] at hno
 obtain ⟨hn2, hn256, hnl⟩ := hno
 have HNl := LH hnl
 dsimp only at hn2 hn256
 have c0 := HM3.out.cell 1 0 rfl rfl
 have HM4 := LH (HM3.out.alloc #[.int .i64 (n : Int)] 44)
 clear hnl
 go_upto_region 5 with fail
 obtain ⟨q3, hq3⟩ : ∃ q, q = w3.heap.size := ⟨_, rfl⟩
 rw [← hq3] at HM4 ⊢
 generalize w3.alloc _ = w4 at *
 clear hq3 c0
 have HM5 : Hid (Mem w w4 [⟨q1, 49, [.int .i64 0, .int .u64 0, .int .i64 0, .pointer none, .pointer none, .slice none 0 0], true⟩, ⟨q2, 42, [.int .i64 (n : Int), vu64 id], true⟩, ⟨q3, 44, [.int .i64 (n : Int)], true⟩]) := LH (by simpa using HM4.out)
 clear HM4 HM3
 have c0 := HM5.out.cell 2 0 rfl rfl
 go_wp2_with fail
 refine (read_any (HD.out.below HM5.out.below) n (by omega) (by omega)).mono ?_
 rintro e w5 ⟨hb5, ⟨hall, lg, lc, rfl, hlg, hlc, hrow⟩ | ⟨b, hb1, hb2, _, hbad, rfl⟩⟩
 case inr =>
  have HM6 := LH (HM5.out.later hb5)
  have HE : Hid (lookE S = 21) := LH (by
   have : ¬ AllOk (devWord S) n := fun hh => hbad (hh b hb1 hb2)
   unfold lookE
   rw [← HX.out, if_neg (by simp), if_pos this])
  have HG := LH (fun w' h => HF.out 21 w' HE.out (by decide) h)
  clear hb5 hbad hb1 hb2 c0
  go_wp2_with (refine wpList_store_mem aggSt HM6.out 0 rfl rfl rfl rfl rfl rfl rfl rfl ?_; intro w6 h6 ht6; have H6 := LH h6; clear h6 ht6)
  refine bodyPost_ret (results_sl3 (p := 2) (s := 3) (u := 4) rfl _ _ _ _ _ _ _ rfl (H6.out.exact 0 rfl) Tryz.underlying49 rfl (by kernel_rfl)) rfl ?_
  exact HG.out _ H6.out.below
 have HM6 := LH (HM5.out.later hb5)
 have HRow := LH hrow
 have HLg : Hid (w.heap.size ≤ lg) := LH (Nat.le_trans HM5.out.below.size hlg)
 have HLq : Hid (q1 < lg) := LH (Nat.lt_of_lt_of_le (HM5.out.glt 0 rfl) hlg)
 have HAll := LH hall
 have HLe : Hid (lookL S = hds (devWord S) n) := LH (by unfold lookL; rw [← HX.out])
 clear hb5 hall hlg hrow c0 HM5
 go_wp2_with fail
 refine (rtopen_any (HD.out.below HM6.out.below)).mono ?_
 rintro e w6 ⟨hb6, ⟨hbt, g, rfl, hg, hrt⟩ | ⟨hbf, rfl⟩⟩
 case inr =>
  have HM7 := LH (HM6.out.later hb6)
  have HE : Hid (lookE S = 23) := LH (by
   unfold lookE
   rw [← HX.out, if_neg (by simp), if_neg (fun hh => hh HAll.out), if_pos hbf])
  have HG := LH (fun w' h => HF.out 23 w' HE.out (by decide) h)
  clear hb6 hbf
  go_wp2_with (refine wpList_store_mem aggSt HM7.out 0 rfl rfl rfl rfl rfl rfl rfl rfl ?_; intro w6 h6 ht6; have H6 := LH h6; clear h6 ht6)
  refine bodyPost_ret (results_sl3 (p := 2) (s := 3) (u := 4) rfl _ _ _ _ _ _ _ rfl (H6.out.exact 0 rfl) Tryz.underlying49 rfl (by kernel_rfl)) rfl ?_
  exact HG.out _ H6.out.below
 have HM7 := LH (HM6.out.later hb6)
 have HRow7 := LH (RowAt.below HRow.out hb6)
 have HRt := LH hrt
 have HGg : Hid (w.heap.size ≤ g) := LH (Nat.le_trans HM6.out.below.size hg)
 have HGq : Hid (q1 < g) := LH (Nat.lt_of_lt_of_le (HM6.out.glt 0 rfl) hg)
 have HBt := LH hbt
 have hl8 : (rootL S).length = 8 := by unfold rootL; rw [List.length_map]; exact (rootsN_ok HD.out.u64C).2.1
 obtain ⟨n0, n1, n2, n3, n4, n5, n6, n7, hfr⟩ := eight_list hl8
 have hrs : (rootsN S).2.1 = [(n0 : Int), (n1 : Int), (n2 : Int), (n3 : Int), (n4 : Int), (n5 : Int), (n6 : Int), (n7 : Int)] := by rw [rootL_cast hbt, hfr]; rfl
 have HLs := LH (rtlasting_any hrt (rootsN_ok HD.out.u64C).2.1)
 rw [hrs, show arrI [(n0 : Int), (n1 : Int), (n2 : Int), (n3 : Int), (n4 : Int), (n5 : Int), (n6 : Int), (n7 : Int)] = .agg #[.int .i64 (n0 : Int), .int .i64 (n1 : Int), .int .i64 (n2 : Int), .int .i64 (n3 : Int), .int .i64 (n4 : Int), .int .i64 (n5 : Int), .int .i64 (n6 : Int), .int .i64 (n7 : Int)] from rfl] at HLs
 have HFr := LH hfr
 clear hb6 hrt hg hbt hl8 hfr hrs HM6 HRow
 go_wp2_with fail
 refine HLs.out.mono ?_
 rintro e w7 ⟨rfl, hb7⟩
 have HM8 := LH ((HM7.out.later hb7).alloc #[.int .i64 (n0 : Int), .int .i64 (n1 : Int), .int .i64 (n2 : Int), .int .i64 (n3 : Int), .int .i64 (n4 : Int), .int .i64 (n5 : Int), .int .i64 (n6 : Int), .int .i64 (n7 : Int)] 24)
 have HB78 : Hid (Below w6.heap.size w6 (w7.alloc (.cells #[.int .i64 (n0 : Int), .int .i64 (n1 : Int), .int .i64 (n2 : Int), .int .i64 (n3 : Int), .int .i64 (n4 : Int), .int .i64 (n5 : Int), .int .i64 (n6 : Int), .int .i64 (n7 : Int)] 24))) := LH (hb7.trans ((below_alloc _ _).mono hb7.size))
 clear hb7 HLs
 go_upto_region 12 with fail
 obtain ⟨q4, hq4⟩ : ∃ q, q = w7.heap.size := ⟨_, rfl⟩
 rw [← hq4] at HM8 ⊢
 generalize w7.alloc _ = w8 at *
 clear hq4
 have HM9 : Hid (Mem w w8 [⟨q1, 49, [.int .i64 0, .int .u64 0, .int .i64 0, .pointer none, .pointer none, .slice none 0 0], true⟩, ⟨q2, 42, [.int .i64 (n : Int), vu64 id], true⟩, ⟨q3, 44, [.int .i64 (n : Int)], true⟩, ⟨q4, 24, [.int .i64 (n0 : Int), .int .i64 (n1 : Int), .int .i64 (n2 : Int), .int .i64 (n3 : Int), .int .i64 (n4 : Int), .int .i64 (n5 : Int), .int .i64 (n6 : Int), .int .i64 (n7 : Int)], true⟩]) := LH (by simpa using HM8.out)
 clear HM8 HM7
 have c0 := HM9.out.cell 2 0 rfl rfl
 have r0 := fun x => later_cell c0 x
 clear c0
 refine wp_region_seg (C := fun w' => ∃ x : Later (w8), w' = x.val) [.fl [0, 1, 2, 3], .sq [4, 5] false, .fl [6, 7, 8], .sq [9] false] (by kernel_rfl) (by kernel_rfl) (by intro c a d v w h; cases d <;> exact h) ?_
 simp only [segs, picks, List.getElem?_cons_succ, List.getElem?_cons_zero]
 have hC1 := later_drew (w8)
 refine wpSeg_fl hC1 ?_
 repeat (first | go_big_quiet_step (fail) | quiet_step (fail))
 refine wpQuiet_nil ?_
 have hbd := later_below hC1
 have HM10 := LH (HM9.out.later hbd)
 have HRow10 := LH (RowAt.below (RowAt.below HRow7.out HB78.out) hbd)
 have HRt10 := LH ((HRt.out.below HB78.out (Nat.le_refl _)).below hbd (Nat.le_refl _))
 have HD10 := LH (HD.out.below HM10.out.below)
 have HCf : Hid (Cells w8.drew (some ⟨q4, 0, none⟩) ([n0, n1, n2, n3, n4, n5, n6, n7].map vi)) := LH ((HM10.out.at 3 rfl).cells)
 have HFb : Hid (∀ x ∈ [n0, n1, n2, n3, n4, n5, n6, n7], x ≤ 4611686018427387904) := LH (fun x hx => by rw [← HFr.out] at hx; have := rootL_lt HBt.out x hx; omega)
 generalize w8.drew = wd at *
 clear r0 hbd
 refine wpSeg_sq (fun K hK => ?_)
 go_wp2_with fail
 refine (tclosure_any HD10.out (L := hds (devWord S) n) (hds_length _ _) HRow10.out.cells (by omega) (some ⟨q4, 0, none⟩) 8 8 [n0, n1, n2, n3, n4, n5, n6, n7] rfl HCf.out (by omega) HFb.out).mono ?_
 rintro e w9 ⟨hb9, ⟨hclo, lv, ys, rfl, hlv, hso, hys, hrw⟩ | ⟨hclo, rfl⟩⟩
 case inr =>
  have HM11 := LH (HM10.out.later hb9)
  have hC2 := later_step hC1 hb9
  have HE : Hid (lookE S = 22) := LH (by
   unfold lookE
   rw [← HX.out, if_neg (by simp), if_neg (fun hh => hh HAll.out), if_neg (by rw [HBt.out]; simp), if_pos (by rw [HLe.out, HFr.out]; exact hclo)])
  have HG := LH (fun w' h => HF.out 22 w' HE.out (by decide) h)
  clear hb9 hclo
  go_wp2_with fail
  refine hK _ _ (fun h => nomatch h) ?_
  clear hK K
  refine wpSeg_fl hC2 ?_
  repeat (first | go_big_quiet_step (fail) | quiet_step (fail))
  refine wpQuiet_nil ?_
  clear hC1 hC2
  refine wpSeg_last ?_
  go_wp2_with (refine wpList_store_mem aggSt HM11.out 0 rfl rfl rfl rfl rfl rfl rfl rfl ?_; intro w6 h6 ht6; have H6 := LH h6; clear h6 ht6)
  refine bodyPost_ret (results_sl3 (p := 2) (s := 3) (u := 4) rfl _ _ _ _ _ _ _ rfl (H6.out.exact 0 rfl) Tryz.underlying49 rfl (by kernel_rfl)) rfl ?_
  exact HG.out _ H6.out.below
 have HM11 := LH (HM10.out.later hb9)
 have hC2 := later_step hC1 hb9
 have HE : Hid (lookE S = 0) := LH (by
  unfold lookE
  rw [← HX.out, if_neg (by simp), if_neg (fun hh => hh HAll.out), if_neg (by rw [HBt.out]; simp), if_neg (by rw [HLe.out, HFr.out]; exact fun hh => hh hclo)])
 have HRow11 := LH (RowAt.below HRow10.out hb9)
 have HRt11 := LH (HRt10.out.below hb9 (Nat.le_refl _))
 obtain ⟨va, vc, hv, _⟩ := hlv.cells
 obtain ⟨vl, hvl⟩ : ∃ l, l = ys.length := ⟨_, rfl⟩
 rw [← hvl] at hv
 subst hv
 have HLv := LH hlv
 have HSo := LH hso
 have HYs : Hid (∀ x, x ∈ ys ↔ Rch (okN S (lookL S)) (ptrN S) (rootL S) x) := LH (fun x => by rw [HLe.out, HFr.out]; exact hys x)
 have HRw : Hid (∀ b, rowOf (.slice va vl vc) = some b → w.heap.size ≤ b) := LH (fun b hb => Nat.le_trans HM10.out.below.size (hrw b hb))
 have HLc := LH hlc
 have HRq : Hid (∀ b, rowOf (.slice va vl vc) = some b → q1 < b) := LH (fun b hb => Nat.lt_of_lt_of_le (HM10.out.glt 0 rfl) (hrw b hb))
 clear hb9 hclo hlv hso hys hrw hvl hlc
 go_wp2_with fail
 refine hK _ _ (fun h => nomatch h) ?_
 clear hK K
 refine wpSeg_fl hC2 ?_
 repeat (first | go_big_quiet_step (fail) | quiet_step (fail))
 refine wpQuiet_nil ?_
 clear hC1 hC2
 have c0 := HM11.out.cell 2 0 rfl rfl
 have c1 := HM11.out.cell 1 0 rfl rfl
 have c2 := HM11.out.cell 1 1 rfl rfl
 refine wpSeg_last ?_
 go_wp2_with (first | (refine wpList_load_mem aggSu HM11.out 1 rfl rfl rfl rfl rfl ?_) | (refine wpList_store_mem aggSt HM11.out 0 rfl rfl rfl rfl rfl rfl rfl rfl ?_; intro w6 h6 ht6; have H6 := LH h6; have HT6 := LH ht6; clear h6 ht6))
 refine bodyPost_ret (results_sl3 (p := 2) (s := 3) (u := 4) rfl _ _ _ _ _ _ _ rfl (H6.out.exact 0 rfl) Tryz.underlying49 rfl (by kernel_rfl)) rfl ?_
 refine HY.out g lg lc _ ys _ HE.out H6.out.below ?_ HGg.out ?_ HLg.out HLc.out ?_ HSo.out HYs.out HRw.out
 ·have h1 := HRt11.out
  exact (HT6.out.block g (lt_of_head h1) (by simp; have := HGq.out; omega)).trans h1
 ·rw [HLe.out]
  exact HRow11.out.keep (HT6.out.block lg HRow11.out.lt (by simp; have := HLq.out; omega))
 ·exact HLv.out.keep (fun b hb => HT6.out.block b (HLv.out.lt b hb) (by simp; have := HRq.out b hb; omega))
end Go.Proofs.YtpohaahihdhleaaGreat
namespace Go.Proofs.YtpohaahihdhleaaGreat
end Go.Proofs.YtpohaahihdhleaaGreat
namespace Go.Proofs.YtpohaahihdhleaaGreat
open Go.RowKit Go.Maps Go.Shelf Go.Sort Go.Lib
end Go.Proofs.YtpohaahihdhleaaGreat
namespace Go.Proofs.YtpohaahihdhleaaGreat
open Go.RowKit Go.Maps
end Go.Proofs.YtpohaahihdhleaaGreat
namespace Go.Proofs.YtpohaahihdhleaaGreat
variable {B : Nat} {m : Al}
def Snd (L : List Hd) : Prop := ∀ q, 1 ≤ q → (L.getD q default).k = 3 → ∃ a, 1 ≤ a ∧ a < q ∧ (L.getD a default).k = 2 ∧ (q : Int) < (a : Int) + (L.getD a default).l
end Go.Proofs.YtpohaahihdhleaaGreat
namespace Go.Proofs.YtpohaahihdhleaaGreat
open Go.RowKit
section
variable {U : List Bool} {P : Nat → List Nat} {M : Mk}
end
section
variable {w : World} {A : AF} {n B : Nat} {m : Al} {K : MkF} {M : Mk}
end
section
variable {w : World} {A : AF} {n B : Nat} {m : Al} {K : MkF} {M : Mk}
end
end Go.Proofs.YtpohaahihdhleaaGreat
namespace Go.Proofs.YtpohaahihdhleaaGreat
open Go.RowKit Go.Maps
end Go.Proofs.YtpohaahihdhleaaGreat
namespace Go.Proofs.YtpohaahihdhleaaGreat
open Go.RowKit
section
variable {w wr w' : World} {Q Q' : List Nat} {A : AF} {n N N' : Nat} {m m' : Al} {v : Value} {xs : List Nat} {K : MkF} {M M' : Mk}
end
end Go.Proofs.YtpohaahihdhleaaGreat
namespace Go.Proofs.YtpohaahihdhleaaGreat
open Go.RowKit Go.Maps
end Go.Proofs.YtpohaahihdhleaaGreat
namespace Go.Proofs.YtpohaahihdhleaaGreat
open Go.RowKit
end Go.Proofs.YtpohaahihdhleaaGreat
namespace Go.Proofs.YtpohaahihdhleaaGreat
open Go.RowKit Go.Maps
section
variable {P : Program} {C : World → Prop} {ops : Array Oper} {rest : List Oper} {o : Oper} {a : Act} {Q : Act → Prop}
end
section
variable {w : World} {P : Program} {ops : Array Oper} {rest : List Oper} {o : Oper} {act : Act} {Q : Exit → Act → World → Prop}
end
end Go.Proofs.YtpohaahihdhleaaGreat
namespace Go.Proofs.YtpohaahihdhleaaGreat
open Go.RowKit
end Go.Proofs.YtpohaahihdhleaaGreat
namespace Go.Proofs.YtpohaahihdhleaaGreat
open Go.Lib (decDigits itoa nDigits)
end Go.Proofs.YtpohaahihdhleaaGreat
namespace Go.Proofs.YtpohaahihdhleaaGreat
open Go.RowKit
open Go.Lib (decDigits itoa nDigits)
open Go.Lib (decDigits itoa nDigits)
open Go.Lib (decDigits itoa nDigits)
section
variable {P : Program} {w : World} {ops : Array Oper} {rest : List Oper} {o : Oper} {a : Act} {Q : Exit → Act → World → Prop}
end
end Go.Proofs.YtpohaahihdhleaaGreat
namespace Go.Proofs
open Go.Shelf
end Go.Proofs
namespace Go.Proofs.YtpohaahihdhleaaGreat
open Go.RowKit Go.Shelf
end Go.Proofs.YtpohaahihdhleaaGreat
namespace Go.Proofs.YtpohaahihdhleaaGreat
open Go.RowKit
def nlB (wd : Int) (b B : Nat) : Prop := 0 < wd ∧ (b : Int) % wd = 0 ∧ (b : Int) < (B : Int) - 1
instance (wd : Int) (b B : Nat) : Decidable (nlB wd b B) := by unfold nlB; infer_instance
open Go.Lib (decDigits itoa nDigits)
open Go.Lib (decDigits itoa nDigits)
end Go.Proofs.YtpohaahihdhleaaGreat
namespace Go.Proofs.YtpohaahihdhleaaGreat
section
variable {P : Program} {ops : Array Oper} {md : Region.Mode} {C : World → Prop} {Q : Exit → Act → World → Prop} {ex : List Nat}
end
end Go.Proofs.YtpohaahihdhleaaGreat
namespace Go.Proofs.YtpohaahihdhleaaGreat
open Go.RowKit Go.Maps
end Go.Proofs.YtpohaahihdhleaaGreat
namespace Go.Proofs.YtpohaahihdhleaaGreat
variable {B : Nat} {m : Al}
end Go.Proofs.YtpohaahihdhleaaGreat
namespace Go.Proofs.YtpohaahihdhleaaGreat
open Go.RowKit
section
variable {C : World → Prop} {ops : Array Oper} {rest : List Oper} {o : Oper} {a : Act} {Q : Act → Prop}
end
end Go.Proofs.YtpohaahihdhleaaGreat
