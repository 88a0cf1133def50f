/- Parts of the proof, one behind the other: Ex, Fa, Fb, Wb, Ey, We, Wf, Wg, Wm, Wh, Wi, Wj, Wk, Fi, Fj, Fk, Wc, Fl, Wl, Ws, M, Fn, Fo, Fp, Fq, Fr, Zd, Jx, Zi, Zj, Sb, Js, Zh, Zk, Ga, Gb, Gc, Fs, Gd, Zo, Wd, Ge, Tx, Ft, Fu, Pa, Pb, Th, Pc, Ti, Ha, Ta, Tb. -/
import Derived.Test.YtbimcogdbafjpaaGreatSC10
import Derived.RangeFuncNested
import Derived.RangeFuncBound
import Derived.RangeFuncCalls
import Derived.RangeFuncLeaves
import Derived.RangeFuncBox
import Derived.Shelf.Abstract
import Derived.WalkKit
import Derived.OwnWalkIn
import Derived.TacticsInMore
import Derived.LoopNIn
import Derived.LoopIn
import Derived.Maps.AppendAt
import Derived.Lib.SliceRun
import Derived.Deep.DeepCutAuto
import Derived.Deep.CutBlock
import Derived.Deep.Cut
import Derived.Shelf.Strings.Builder1
import Derived.Test.YtbimcogdbafjpaaGreatProg
set_option linter.unusedVariables false
namespace Go.Proofs.YtbimcogdbafjpaaGreat
open Go.RowKit
structure WOk (B : Nat) (m : Al) (xs : List Nat) : Prop where
 ok : AlOk B m
 us : ∀ x ∈ xs, m.used.getD x false = true
 nd : xs.Nodup
section
variable {B : Nat} {m m' : Al} {xs : List Nat}
theorem WOk.begun (hB2 : 2 ≤ B) (hB : B ≤ 100) : WOk B (al0 B) [] := ⟨al0_ok hB2 hB, by simp, List.nodup_nil⟩
theorem WOk.lt (h : WOk B m xs) {x : Nat} (hx : x ∈ xs) : 512 ≤ x ∧ x < 512 * B := by
 have h1 := h.us x hx
 have h2 := getD_true_lt h1
 rw [h.ok.lenU] at h2
 exact ⟨(h.ok.used_kind h1).1, h2⟩
theorem nodup_count {l : List Nat} (h : l.Nodup) (a : Nat) : l.count a ≤ 1 := List.nodup_iff_count.1 h a
theorem WOk.len (h : WOk B m xs) : xs.length ≤ 512 * B := nodup_len _ _ (fun x hx => (h.lt hx).2) (nodup_count h.nd)
theorem WOk.made (h : WOk B m xs) {a : Nat} {p d : Int} (hm : Made B m m' a p d) : WOk B m' (xs ++ [a]) := by
 have ha : m'.used.getD a false = true := by
  have h1 := placed_room hm.placed
  have h2 := h1.pos.2.2
  have h3 := h1.pos.1
  rw [hm.ok.bm.lenL] at h2
  rw [hm.used, getD_set_bool _ _ _ _ (by rw [h.ok.lenU]; omega), if_pos rfl]
 refine ⟨hm.ok, fun x hx => ?_, ?_⟩
 ·rcases List.mem_append.1 hx with hx | hx
  ·exact (hm.others h.ok (h.us x hx)).1
  ·simp at hx; subst hx; exact ha
 ·rw [List.nodup_append]
  refine ⟨h.nd, by simp, fun x hx y hy => ?_⟩
  simp at hy; subst hy
  intro e; subst e
  have := h.us x hx
  rw [hm.new] at this; cases this
theorem WOk.more (h : WOk B m xs) {a : Nat} {p d : Int} (hm : Made B m m' a p d) : WOk B m' xs := by
 have := h.made hm
 exact ⟨this.ok, fun x hx => this.us x (List.mem_append_left _ hx), h.nd⟩
theorem setPtr_okN {S : Dev} {N : Nat} (h : S.ok N) (a i x : Int) : (S.setPtr a i x).dev.ok (N + 1) := by
 unfold Dev.setPtr
 split
 ·exact h.mono (by omega)
 ·split
  ·exact h.mono (by omega)
  ·exact Dev.store_okN h _ _
theorem lead_okN {N : Nat} (h : m.bm.dev.ok N) (i p t : Int) : (m.lead xs i p t).bm.dev.ok (N + 1) := by
 unfold Al.lead
 split
 ·exact h.mono (by omega)
 ·exact setPtr_okN h _ _ _
theorem lead_is (h : WOk B m xs) (hB : B ≤ 200) (i p t : Int) : m.lead xs i p t = m ∨
  ∃ (x : Nat) (o : Odec) (k : Nat), x = pickN xs i ∧ x ≠ 0 ∧ placedN m.bm.dev m.bm.list (x : Int) = some o ∧ p = (k : Int) ∧ p < o.p ∧ m.lead xs i p t = ⟨⟨m.bm.dev.store ((x + 1 + k : Nat) : Int) (pickN xs t), m.bm.list, m.bm.free⟩, m.used, m.fl⟩ := by
 by_cases c : pickN xs i = 0
 ·left; unfold Al.lead; rw [if_pos c]
 ·have hu := h.us _ (pickN_mem c)
  obtain ⟨o, ho⟩ := Option.isSome_iff_exists.1 (h.ok.placed _ hu)
  obtain ⟨h1, h2, _⟩ := placed_head ho
  have hc : (headN m.bm.dev ((pickN xs i : Nat) : Int)).code = 0 := by rw [h1]; exact h2
  have hpl : placeN m.bm.dev ((pickN xs i : Nat) : Int) p false = if 0 ≤ p ∧ p < o.p then ⟨((pickN xs i : Nat) : Int) + (1 + p), 0⟩ else ⟨0, 7⟩ := by
   unfold placeN
   rw [if_neg (show ¬ (headN m.bm.dev ((pickN xs i : Nat) : Int)).code ≠ 0 by omega), h1]; rfl
  unfold Al.lead
  rw [if_neg c]
  by_cases hp : 0 ≤ p ∧ p < o.p
  ·right
   obtain ⟨k, rfl⟩ := Int.eq_ofNat_of_zero_le hp.1
   refine ⟨_, o, k, rfl, c, ho, rfl, hp.2, ?_⟩
   have e1 : m.bm.dev.setPtr ((pickN xs i : Nat) : Int) (k : Int) ((pickN xs t : Nat) : Int) = ⟨m.bm.dev.store (((pickN xs i : Nat) : Int) + (1 + (k : Int))) ((pickN xs t : Nat) : Int).toNat, m.bm.dev.storeE (((pickN xs i : Nat) : Int) + (1 + (k : Int)))⟩ := by
    unfold Dev.setPtr
    rw [hpl, if_pos hp]
    exact (if_neg (fun h => h rfl)).trans (if_neg (by omega))
   rw [e1]
   dsimp only
   rw [show ((pickN xs i : Nat) : Int) + (1 + (k : Int)) = ((pickN xs i + 1 + k : Nat) : Int) by push_cast; omega, Int.toNat_natCast]
  ·left
   have e1 : m.bm.dev.setPtr ((pickN xs i : Nat) : Int) p ((pickN xs t : Nat) : Int) = ⟨m.bm.dev, 7⟩ := by
    unfold Dev.setPtr
    rw [hpl, if_neg hp]
    exact if_pos (fun h => by cases h)
   rw [e1]
theorem placed_size {S : Dev} {L : List Hd} {a : Int} {o : Odec} (h : placedN S L a = some o) : objSize o.p o.d ≠ 0 ∧ 0 ≤ o.p ∧ o.p < 64 ∧ 0 ≤ o.d ∧ o.d ≤ 16384 := by
 obtain ⟨h1, h2, _⟩ := placed_head h
 have := headN_code S a
 rw [h1] at this
 rcases this with this | this
 ·have h3 := obj_small this.2.2.2.1
  exact ⟨this.2.2.2.1, h3.1.1, h3.1.2, h3.2⟩
 ·rw [this] at h2; cases h2
theorem objSize_is {p d : Int} (h : objSize p d ≠ 0) : (objSize p d : Int) = 1 + p + d := by
 unfold objSize at h ⊢
 split
 ·next c => rw [if_pos c] at h; exact absurd rfl h
 ·omega
theorem WOk.lead (h : WOk B m xs) (hB : B ≤ 200) (i p t : Int) : WOk B (m.lead xs i p t) xs := by
 rcases lead_is h hB i p t with e | ⟨x, o, k, hx, x0, ho, rfl, hk, e⟩
 ·rw [e]; exact h
 ·have hu := h.us _ (hx ▸ pickN_mem (by rw [← hx]; exact x0))
  obtain ⟨s1, s2, s3, s4, s5⟩ := placed_size ho
  have hs := objSize_is s1
  have hv : pickN xs t < 18446744073709551616 := by
   by_cases c : pickN xs t = 0
   ·omega
   ·have := (h.lt (pickN_mem c)).2; omega
  obtain ⟨_, a2, _, _⟩ := h.ok.store hB hu ho (j := x + 1 + k) (v := pickN xs t) (by omega) (by omega) hv
  rw [e]
  exact ⟨a2, h.us, h.nd⟩
end
theorem roomy {B : Nat} {m : Al} (h : BmOk B m.bm) {b n : Nat} (h1 : 1 ≤ b) (h2 : b < B) (hk : (m.bm.list.getD b default).k = 0) (hs : small n) : ¬ NoRoom m n := by
 intro hn
 have hp := (hn.cell hs).1
 obtain ⟨s, k, hr, _, _⟩ := has_run (L := m.bm.free.length) (fun x hx => fb_far m.bm.free x hx) ((h.free b).2 ⟨h1, h2, hk⟩)
 have hb := pick_best (n := 1) (runsOf_is m.bm.free).rising
 rw [hp] at hb
 have h3 := hb s k (((runsOf_is m.bm.free).mem s k).2 hr)
 have := hr.1
 omega
theorem roomy0 {B n : Nat} (hB2 : 2 ≤ B) (hB : B ≤ 100) (hs : small n) : ¬ NoRoom (al0 B) n := by
 refine roomy (al0_ok hB2 hB).bm (b := 1) (Nat.le_refl _) (by omega) ?_ hs
 rw [al0_list hB2 hB, List.getD_eq_getElem?_getD, List.getElem?_replicate, if_pos (by omega)]; rfl
def Off (Q : List Nat) (w w' : World) : Prop := ∃ L, Touch L w w' ∧ ∀ k ∈ Q, k ∉ L
theorem MemR.off {B : Nat} {W W' : World} {L : List Ent} {Q : List Nat} (h : MemR B W L) (ho : Off Q W W') (hQ : ∀ x ∈ L.map Ent.g, x ∈ Q) : MemR B W' L := by
 obtain ⟨X, h1, h2⟩ := ho
 exact h.apart h1 (fun x hx => h2 _ (hQ _ (List.mem_map_of_mem hx)))
structure Hp (w wr : World) (Q : List Nat) (A : AF) (n B N : Nat) (m : Al) (v : Value) (xs : List Nat) : Prop where
 at_ : WAt wr A n B m v xs
 ok : WOk B m xs
 steps : m.bm.dev.ok N
 new : ∀ k ∈ A.list, w.heap.size ≤ k ∧ k ∉ Q
 newv : ∀ b, rowOf v = some b → w.heap.size ≤ b ∧ b ∉ Q
 qlt : ∀ k ∈ Q, k < wr.heap.size
 below : Below w.heap.size w wr
section
variable {w wr w' : World} {Q : List Nat} {A : AF} {n n' B N N' : Nat} {m m' : Al} {v v' : Value} {xs xs' : List Nat}
theorem Hp.later (h : Hp w wr Q A n B N m v xs) (hb : Below wr.heap.size wr w') : Hp w w' Q A n B N m v xs :=
 ⟨h.at_.below hb, h.ok, h.steps, h.new, h.newv, fun k hk => Nat.lt_of_lt_of_le (h.qlt k hk) hb.size, h.below.trans (hb.mono h.below.size)⟩
theorem Hp.mono (h : Hp w wr Q A n B N m v xs) (hn : n ≤ n') (hN : N ≤ N') : Hp w wr Q A n' B N' m v xs :=
 ⟨h.at_.mono hn, h.ok, h.steps.mono hN, h.new, h.newv, h.qlt, h.below⟩
theorem Hp.own (h : Hp w wr Q A n B N m v xs) (ht : Touch Q wr w') (hQ : ∀ k ∈ Q, w.heap.size ≤ k) : Hp w w' Q A n B N m v xs :=
 ⟨⟨h.at_.al.keep (fun k hk => ht.block k (h.at_.al.mem k hk) (h.new k hk).2), h.at_.own.keep (fun b hb => ht.block b (h.at_.own.lt b hb) (h.newv b hb).2), h.at_.apart⟩,
  h.ok, h.steps, h.new, h.newv, fun k hk => Nat.lt_of_lt_of_le (h.qlt k hk) ht.size, below_touched h.below ht hQ (Nat.le_refl _)⟩
theorem Hp.go (h : Hp w wr Q A n B N m v xs) (hg : WGo wr w' A n' B m' v' xs') (hok : WOk B m' xs') (hs : m'.bm.dev.ok N') (hv : ∀ b, rowOf v' = some b → rowOf v = some b ∨ wr.heap.size ≤ b) :
  ∃ R, Hp w w' Q (A.re R) n' B N' m' v' xs' ∧ Off Q wr w' := by
 obtain ⟨R, h1, h2, h3⟩ := hg
 have hlt := h.below.size
 refine ⟨R, ⟨h1, hok, hs, fun k hk => ?_, fun b hb => ?_, fun k hk => Nat.lt_of_lt_of_le (h.qlt k hk) h2.size, below_touched h.below h2 (fun k hk => (h.new k (AF.hot_list hk)).1) (Nat.le_refl _)⟩, ⟨A.hot, h2, fun k hk hm => (h.new k (AF.hot_list hm)).2 hk⟩⟩
 ·rcases AF.re_list hk with c | c
  ·exact h.new k c
  ·rcases h3 k c with c | c
   ·exact h.new k (by simp [AF.list, c])
   ·exact ⟨Nat.le_trans hlt c, fun hq => by have := h.qlt k hq; omega⟩
 ·rcases hv b hb with c | c
  ·exact h.newv b c
  ·exact ⟨Nat.le_trans hlt c, fun hq => by have := h.qlt b hq; omega⟩
theorem Hp.more (h : Hp w wr Q A n B N m v xs) {Q' : List Nat} (hQ : ∀ k ∈ Q', k ∈ Q ∨ (wr.heap.size ≤ k ∧ k < w'.heap.size)) (hb : Below wr.heap.size wr w') : Hp w w' Q' A n B N m v xs := by
 have h' := h.later hb
 refine { h' with new := fun k hk => ⟨(h.new k hk).1, fun hq => ?_⟩, newv := fun b hb' => ⟨(h.newv b hb').1, fun hq => ?_⟩, qlt := fun k hk => ?_ }
 ·rcases hQ k hq with c | c
  ·exact (h.new k hk).2 c
  ·have := h.at_.al.mem k hk; omega
 ·rcases hQ b hq with c | c
  ·exact (h.newv b hb').2 c
  ·have := h.at_.own.lt b hb'; omega
 ·rcases hQ k hk with c | c
  ·exact h'.qlt k c
  ·exact c.2
theorem Hp.less (h : Hp w wr Q A n B N m v xs) {Q' : List Nat} (hQ : ∀ k ∈ Q', k ∈ Q) : Hp w wr Q' A n B N m v xs :=
 { h with new := fun k hk => ⟨(h.new k hk).1, fun hq => (h.new k hk).2 (hQ k hq)⟩, newv := fun b hb => ⟨(h.newv b hb).1, fun hq => (h.newv b hb).2 (hQ b hq)⟩, qlt := fun k hk => h.qlt k (hQ k hk) }
def HpMade (w wr : World) (Q : List Nat) (A : AF) (n B N : Nat) (m : Al) (v : Value) (xs : List Nat) (p d : Int) : Ending → World → Prop := fun e w' => ∃ (m' : Al) (v' : Value) (xs' R : List Nat),
 e = .returned (.tuple #[vworld A v', .bool true]) ∧ Hp w w' Q (A.re R) (n + 6) B (N + 600000) m' v' xs' ∧ Off Q wr w' ∧ ((∃ a, Made B m m' a p d ∧ xs' = xs ++ [a]) ∨ (m' = m ∧ xs' = xs ∧ v' = v ∧ NoRoom m (objSize p d)))
theorem Hp.make (h : Hp w wr Q A n B N m v xs) (hB2 : 2 ≤ B) (hB : B ≤ 200) (hn : n < 900000000000) (hN : N ≤ 900000000) (p d : Int) :
  Calls Tryz.prog 111 #[vworld A v, .int .i64 p, .int .i64 d] wr (HpMade w wr Q A n B N m v xs (clampI p 8) (clampI d 12)) := by
 have hl := h.ok.len
 refine (wmake_any h.at_ h.ok.ok hB2 hB hn hN h.steps (by omega) p d).mono ?_
 rintro e w' ⟨m', v', xs', rfl, hg, hm, hv, ha⟩
 have hs : m'.bm.dev.ok (N + 600000) := by rw [ha]; exact alloc_okN h.ok.ok.bm.clean.inv h.steps (by rw [h.ok.ok.bm.lenL]; omega) _ _ _
 have hok : WOk B m' xs' := by
  rcases hm with ⟨a, hm, rfl⟩ | ⟨rfl, rfl, _⟩
  ·exact h.ok.made hm
  ·exact h.ok
 obtain ⟨R, h1, h2⟩ := h.go hg hok hs hv
 exact ⟨m', v', xs', R, rfl, h1, h2, hm⟩
def HpAll (w wr : World) (Q : List Nat) (A : AF) (n B N : Nat) (m : Al) (v : Value) (xs : List Nat) (p d : Int) : Ending → World → Prop := fun e w' => ∃ (m' : Al) (R : List Nat) (a er : Int),
 e = .returned (.tuple #[.int .i64 a, .int .i64 er]) ∧ Hp w w' Q (A.re R) (n + 6) B (N + 600000) m' v xs ∧ Off Q wr w' ∧ ((∃ a : Nat, Made B m m' a p d) ∨ m' = m)
theorem Hp.alloc (h : Hp w wr Q A n B N m v xs) (hB2 : 2 ≤ B) (hB : B ≤ 200) (hn : n < 900000000000) (hN : N ≤ 900000000) (p d : Int) (hs : objSize p d ≠ 0) (hm : (objSize p d : Int) ≤ 512 * ((B : Int) - 1)) :
  Calls Tryz.prog 64 #[valloc A, .int .i64 0, .int .i64 p, .int .i64 d] wr (HpAll w wr Q A n B N m v xs p d) := by
 refine (aalloc_any h.at_.al h.ok.ok (by omega) hB hn hN h.steps 0 p d).mono ?_
 rintro e w' ⟨rfl, hg⟩
 have hs' := alloc_okN h.ok.ok.bm.clean.inv h.steps (by rw [h.ok.ok.bm.lenL]; omega) 0 p d
 rcases alloc_done h.ok.ok hB (Int.le_refl 0) (by decide) hs hm with ⟨m', a, e, hm'⟩ | ⟨e, _⟩
 ·rw [e] at hg hs' ⊢
  obtain ⟨R, h1, h2⟩ := h.go (h.at_.al' hg) (h.ok.more hm') hs' (fun b hb => .inl hb)
  exact ⟨m', R, _, _, rfl, h1, h2, .inl ⟨a, hm'⟩⟩
 ·rw [e] at hg hs' ⊢
  obtain ⟨R, h1, h2⟩ := h.go (h.at_.al' hg) h.ok hs' (fun b hb => .inl hb)
  exact ⟨m, R, _, _, rfl, h1, h2, .inr rfl⟩
def HpLed (w wr : World) (Q : List Nat) (A : AF) (n B N : Nat) (m : Al) (v : Value) (xs : List Nat) : Ending → World → Prop := fun e w' => ∃ R : List Nat, e = .returned (.tuple #[]) ∧ Hp w w' Q (A.re R) n B (N + 1) m v xs ∧ Off Q wr w'
theorem Hp.lead (h : Hp w wr Q A n B N m v xs) (hB : B ≤ 200) (hN : N ≤ 900000000) (i p t : Int) :
  Calls Tryz.prog 112 #[vworld A v, .int .i64 i, .int .i64 p, .int .i64 t] wr (HpLed w wr Q A n B N (m.lead xs i p t) v xs) := by
 have hl := h.ok.len
 refine (wlead_any h.at_ hN h.steps (by omega) (fun x hx => by have := (h.ok.lt hx).2; omega) i p t).mono ?_
 rintro e w' ⟨rfl, hg⟩
 obtain ⟨R, h1, h2⟩ := h.go hg (h.ok.lead hB i p t) (lead_okN h.steps i p t) (fun b hb => .inl hb)
 exact ⟨R, rfl, h1, h2⟩
end
end Go.Proofs.YtbimcogdbafjpaaGreat
namespace Go.Proofs.YtbimcogdbafjpaaGreat
variable {B : Nat} {m : Al}
def cellsTo (u : Nat → Bool) (b k : Nat) : Nat → List Nat
 | 0 => []
 | n + 1 => cellsTo u b k n ++ if u (cellOf b k n) then [] else [cellOf b k n]
def isSm (L : List Hd) (k b : Nat) : Bool := decide ((L.getD b default).k = 1) && decide ((L.getD b default).c = (k : Int))
def freeTo (u : Nat → Bool) (L : List Hd) (k : Nat) : Nat → List Nat
 | 0 => []
 | n + 1 => freeTo u L k n ++ if isSm L k (n + 1) then cellsTo u (n + 1) k (clsCells k) else []
theorem cellsTo_count {u : Nat → Bool} {b k : Nat} (hk : k < 32) (x : Nat) : ∀ n, (cellsTo u b k n).count x = if u x = false ∧ ∃ i, i < n ∧ x = cellOf b k i then 1 else 0
 | 0 => by rw [if_neg (by rintro ⟨_, i, hi, _⟩; omega)]; rfl
 | n + 1 => by
  unfold cellsTo
  rw [List.count_append, cellsTo_count hk x n]
  by_cases e : x = cellOf b k n
  ·subst e
   rw [if_neg (by rintro ⟨_, i, hi, e⟩; have := cellOf_inj hk _ _ e; omega)]
   cases h : u (cellOf b k n) with
   | true => rw [if_pos rfl, if_neg (by simp)]; rfl
   | false => rw [if_neg (by simp), if_pos ⟨rfl, n, by omega, rfl⟩]; simp
  ·have h0 : (if u (cellOf b k n) = true then ([] : List Nat) else [cellOf b k n]).count x = 0 := by
    split
    ·rfl
    ·rw [List.count_singleton, if_neg]; simpa using fun h => e h.symm
   rw [h0, Nat.add_zero]
   congr 1
   refine propext ⟨fun ⟨h1, i, hi, h2⟩ => ⟨h1, i, by omega, h2⟩, fun ⟨h1, i, hi, h2⟩ => ⟨h1, i, ?_, h2⟩⟩
   by_cases c : i = n
   ·subst c; exact absurd h2 e
   ·omega
theorem freeTo_count {u : Nat → Bool} {L : List Hd} {k : Nat} (hk : k < 32) (hL : ∀ b, b < L.length → (L.getD b default).k = 1 → (L.getD b default).l = 0) (x : Nat) : ∀ n, n < L.length → (freeTo u L k n).count x = if isCell L k x ∧ u x = false ∧ x / 512 ≤ n then 1 else 0
 | 0, hn => by rw [if_neg (by rintro ⟨hc, _, h⟩; have := hc.1; omega)]; rfl
 | n + 1, hn => by
  unfold freeTo
  rw [List.count_append, freeTo_count hk hL x n (by omega)]
  by_cases e : x / 512 = n + 1
  ·rw [if_neg (by rintro ⟨_, _, h⟩; omega), Nat.zero_add]
   cases hs : isSm L k (n + 1) with
   | false =>
    rw [if_neg (by simp), if_neg]
    ·rfl
    ·rintro ⟨hc, _⟩
     have := hc.2.2.1
     rw [e] at this
     unfold isSm at hs
     rw [this] at hs
     simp at hs
   | true =>
    rw [if_pos rfl, cellsTo_count hk]
    have hd : L.getD (n + 1) default = ⟨1, k, 0⟩ := by
     unfold isSm at hs
     simp only [Bool.and_eq_true, decide_eq_true_eq] at hs
     have h3 := hL (n + 1) hn hs.1
     generalize L.getD (n + 1) default = h at *
     obtain ⟨a, b, c⟩ := h
     obtain ⟨h1, h2⟩ := hs
     dsimp only at h1 h2 h3
     rw [h1, h2, h3]
    have hio := isCell_of (L := L) (x := x) hk (b := n + 1) (by omega) hn hd
    congr 1
    refine propext ⟨fun ⟨h1, h2⟩ => ⟨(hio.2 h2).1, h1, by omega⟩, fun ⟨h1, h2, _⟩ => ⟨h2, hio.1 ⟨h1, e⟩⟩⟩
  ·have h0 : (if isSm L k (n + 1) = true then cellsTo u (n + 1) k (clsCells k) else []).count x = 0 := by
    split
    ·rw [cellsTo_count hk, if_neg]
     rintro ⟨_, i, hi, h2⟩
     exact e (by rw [h2]; exact (cellOf_at hk hi).1)
    ·rfl
   rw [h0, Nat.add_zero]
   congr 1
   refine propext ⟨fun ⟨h1, h2, h3⟩ => ⟨h1, h2, by omega⟩, fun ⟨h1, h2, h3⟩ => ⟨h1, h2, by omega⟩⟩
theorem cellsTo_len {u : Nat → Bool} {b k : Nat} : ∀ n, (cellsTo u b k n).length ≤ n
 | 0 => Nat.le_refl _
 | n + 1 => by
  unfold cellsTo
  have := cellsTo_len (u := u) (b := b) (k := k) n
  rw [List.length_append]
  split <;> simp <;> omega
theorem freeTo_len {u : Nat → Bool} {L : List Hd} {k : Nat} (hk : k < 32) : ∀ n, (freeTo u L k n).length ≤ 256 * n
 | 0 => Nat.le_refl _
 | n + 1 => by
  unfold freeTo
  have h1 := freeTo_len (u := u) (L := L) hk n
  have h2 := cellsTo_len (u := u) (b := n + 1) (k := k) (clsCells k)
  have h3 : clsCells k ≤ 256 := by
   unfold clsCells
   have hp := clsWords_pos (k : Int) (by omega)
   have := Nat.div_le_div_left (c := 2) (b := clsWords (k : Int)) (a := 512) hp (by decide)
   omega
  rw [List.length_append]
  split
  ·omega
  ·simp; omega
end Go.Proofs.YtbimcogdbafjpaaGreat
namespace Go.Proofs.YtbimcogdbafjpaaGreat
open Go.RowKit Go.Shelf
attribute [local go_sem] Oper.semAt_some
theorem onesF_next {l : List Bool} {a : Nat} : onesF l a = match nextB l a with | some i => i :: onesF l (i + 1) | none => [] := by
 cases h : nextB l a with
 | none => exact onesF_none h
 | some i => exact onesF_step h
def Coming (l : List Bool) (pre : List Nat) (o : Option Nat) : Prop := onesL l = pre ++ (match o with | some i => i :: onesF l (i + 1) | none => [])
theorem Coming.start (l : List Bool) : Coming l [] (nextB l 0) := by unfold Coming; rw [List.nil_append, ← onesF_zero]; exact onesF_next
theorem Coming.next {l : List Bool} {pre : List Nat} {i : Nat} (h : Coming l pre (some i)) : Coming l (pre ++ [i]) (nextB l (i + 1)) := by
 unfold Coming at h ⊢
 rw [h, ← onesF_next]; simp
theorem Coming.done {l : List Bool} {pre : List Nat} (h : Coming l pre none) : pre = onesL l := by unfold Coming at h; simpa using h.symm
theorem Coming.lt {l : List Bool} {pre : List Nat} {i : Nat} (h : Coming l pre (some i)) : pre.length < (onesL l).length := by unfold Coming at h; rw [h]; simp
theorem Coming.pre {l : List Bool} {pre : List Nat} {i : Nat} (h : Coming l pre (some i)) : pre ++ [i] <+: onesL l := by unfold Coming at h; rw [h]; exact ⟨onesF l (i + 1), by simp⟩
theorem Coming.in_ {l : List Bool} {pre : List Nat} {i : Nat} (h : Coming l pre (some i)) : i < l.length := by
 have : i ∈ onesL l := by unfold Coming at h; rw [h]; simp
 unfold onesL at this
 exact List.mem_range.1 (List.mem_filter.1 this).1
theorem nextV_eq (o : Option Nat) : nextV o = .tuple #[.int .i64 ((o.getD 0 : Nat) : Int), .bool o.isSome] := by cases o <;> rfl
def leftB (n : Nat) (v b : Value) : Nat := match b with
 | .bool true => n + 1 - (intOf v).toNat
 | _ => 0
theorem leftB_next {l : List Bool} {pre : List Nat} {i : Nat} (h : Coming l pre (some i)) : leftB l.length (.int .i64 (((nextB l (i + 1)).getD 0 : Nat) : Int)) (.bool (nextB l (i + 1)).isSome) < leftB l.length (.int .i64 (i : Int)) (.bool true) := by
 have hi := h.in_
 cases ho : nextB l (i + 1) with
 | none => simp [leftB, intOf]; omega
 | some j =>
  have := nextB_is ho
  simp [leftB, intOf]; omega
def KpB (n₀ Bn : Nat) (A B : World) : Prop := Below n₀ A B ∧ B.heap[Bn]? = A.heap[Bn]?
theorem KpB.trans {n₀ Bn : Nat} {A B C : World} (h : KpB n₀ Bn A B) (k : KpB n₀ Bn B C) : KpB n₀ Bn A C := ⟨h.1.trans k.1, k.2.trans h.2⟩
theorem KpB.book {n₀ Bn : Nat} {w : World} (hn : n₀ ≤ w.heap.size) (hB : Bn < w.heap.size) (W : World) (l : Nat) (o o' : Obj) (hl : w.heap.size ≤ l) (h : W.heap[l]? = some o) (h1 : o.isCells = false) (h2 : o.isWalk = false) : KpB n₀ Bn W (W.putObj l o') :=
 ⟨belowK_b hn W l o o' hl h h1 h2, World.putObj_heap_other (by omega)⟩
set_option maxRecDepth 100000 in
set_option maxHeartbeats 2000000 in
theorem sall1_in {X : SetF} {l : List Bool} (n : Nat) (hn : 1 ≤ n) (lp Bn n₀ : Nat) (J Jx : List Nat → World → Prop)
  (hY : ∀ pre (x : Nat) W, J pre W → pre.length < (onesL l).length → YieldAt Fence.wide (n - 1) Tryz.prog lp #[.int .i64 (x : Int)] W fun e W' =>
   (e = .returned (.bool true) ∧ J (pre ++ [x]) W' ∧ KpB n₀ Bn W W') ∨ (e = .returned (.bool false) ∧ Jx (pre ++ [x]) W'))
  (W : World) (hBn : Boxed W Bn 48 (vset X)) (hS : SetAt W X l) (hX : ∀ k ∈ X.list, k < n₀) (h0 : J [] W) :
  CallsIn Fence.wide n Tryz.prog 222 #[.func (.yield lp) #[] #[], .pointer (some ⟨Bn, 0, none⟩)] W fun e W' => (∃ v, e = .returned v) ∧
   ((∃ ys, ys = onesL l ∧ J ys W') ∨ (∃ pre, pre <+: onesL l ∧ Jx pre W')) := by
 have HS := LH hS
 refine callsIn_of_wp Tryz.func222 rfl trivial ?_ rfl
 simp only [Tryz.ntmps222, List.size_toArray, List.length_cons, List.length_nil, Nat.reduceAdd, Nat.reduceSub, Array.replicate_succ, Array.replicate_zero, List.push_toArray, List.append_toArray, List.nil_append, List.cons_append]
 have HN0 := LH (snext_any hS 0)
 rw [show (0 : Int).toNat = 0 from rfl, nextV_eq] at HN0
 have HC0 := LH (Coming.start l)
 generalize nextB l 0 = o0 at *
 have hc0 := hBn.cell
 clear hS
 gi_wp2_with (refine ⟨trivial, ?_⟩; gi_at_call 211; refine (callsIn_wide.2 HN0.out).mono ?_; rintro e w1 ⟨rfl, rfl⟩)
 gi_loopw [3, 4] (fun v b wr => ∃ (pre : List Nat) (o : Option Nat), v = .int .i64 ((o.getD 0 : Nat) : Int) ∧ b = .bool o.isSome ∧ Hid (Coming l pre o) ∧ Hid (SetAt wr X l) ∧ Boxed wr Bn 48 (vset X) ∧ J pre wr) (fun v b _ => leftB l.length v b)
 case atStart => exact ⟨[], o0, rfl, rfl, HC0, HS, hBn, h0⟩
 case round =>
  clear HN0 hBn h0 HS HC0 hc0
  obtain ⟨pre, o, rfl, rfl, HC, HS, hBn, hJ⟩ := hrel
  cases o with
  | none =>
   simp only [Option.isSome_none, Option.getD_none]
   gi_wp2
   go_end0
   exact ⟨⟨_, rfl⟩, .inl ⟨pre, HC.out.done, hJ⟩⟩
  | some i =>
   simp only [Option.isSome_some, Option.getD_some]
   obtain ⟨fn, tmps, assign, body, hy, hR⟩ := hY pre i wr hJ HC.out.lt
   gi_wp2
   refine hR.mono ?_
   rintro e W3 (⟨rfl, hJ3, hk3⟩ | ⟨rfl, hJx3⟩)
   ·have hBn3 : Boxed W3 Bn 48 (vset X) := hk3.2.trans hBn
    have hc3 := hBn3.cell
    have HS3 := LH (HS.out.keep (fun k hk => hk3.1.block k (hX k hk)))
    have HN := LH (snext_any HS3.out ((i : Int) + 1))
    rw [show ((i : Int) + 1).toNat = i + 1 by omega, nextV_eq] at HN
    have HL := LH (leftB_next HC.out)
    have HC3 := LH HC.out.next
    have hil := HC.out.in_
    have hls := HS.out.small
    clear hk3 hy hR
    generalize nextB l (i + 1) = o at *
    gi_wp2_with (refine ⟨trivial, ?_⟩; gi_at_call 211; refine (callsIn_wide.2 HN.out).mono ?_; rintro e w1 ⟨rfl, rfl⟩)
    go_roundw
    case rel => exact ⟨pre ++ [i], o, rfl, rfl, HC3, HS3, hBn3, hJ3⟩
    case measure => exact HL.out
   ·gi_wp2
    refine bodyPost_ret (results_none rfl _ _ _) rfl ?_
    exact ⟨⟨_, rfl⟩, .inr ⟨pre ++ [i], HC.out.pre, hJx3⟩⟩
set_option maxHeartbeats 1000000 in
theorem sall_in (X : SetF) (n : Nat) (w : World) :
  CallsIn Fence.wide n Tryz.prog 179 #[vset X] w fun e w' => e = .returned (.func (.func 222) #[] #[.pointer (some ⟨w.heap.size, 0, none⟩)]) ∧ w' = w.alloc (.cells #[vset X] 48) := by
 refine callsIn_of_wp Tryz.func179 rfl trivial ?_ rfl
 simp only [Tryz.ntmps179, List.size_toArray, List.length_cons, List.length_nil, Nat.reduceAdd, Nat.reduceSub, Array.replicate_succ, Array.replicate_zero, List.push_toArray, List.append_toArray, List.nil_append, List.cons_append]
 gi_wp2
 go_ret
 exact ⟨rfl, rfl⟩
theorem sall_stops {X : SetF} {l : List Bool} (n : Nat) (hn : 1 ≤ n) (Bn n₀ : Nat) (w : World) (hn₀ : n₀ ≤ w.heap.size) (hc : Boxed w Bn 48 (vset X)) (hS : SetAt w X l) (hX : ∀ k ∈ X.list, k < n₀) :
  SeqStopsK Fence.wide n Tryz.prog 222 #[.pointer (some ⟨Bn, 0, none⟩)] (fun x : Nat => #[Value.int .i64 (x : Int)]) (KpB n₀ Bn) (fun ys => ys = onesL l) (fun pre => pre <+: onesL l) (onesL l).length w := fun lp J Jx W hW _ _ hY h0 =>
 sall1_in n hn lp Bn n₀ J Jx hY W ((hW.block Bn hc.lt).trans hc) (hS.below hW) hX h0
theorem infoInt : (Tryz.prog.info? 3).map (fun i => (i.zero, i.size, i.bytes)) = some (some (.int .i64 0), 1, 8) := by kernel_rfl
def ListPost (w : World) (xs : List Nat) : Ending → World → Prop := fun e w' => ∃ v, e = .returned v ∧ w'.ownsRow w.heap.size 3 1 v xs.length (xs.map vi) ∧ (v = .slice none 0 0 ↔ xs = []) ∧ Below w.heap.size w w'
set_option maxRecDepth 100000 in
set_option maxHeartbeats 2000000 in
theorem slist_any {w : World} {X : SetF} {l : List Bool} (h : SetAt w X l) : Calls Tryz.prog 116 #[vset X] w (ListPost w (onesL l)) := by
 have hlen : (onesL l).length ≤ 1000000 := by rw [onesL_length]; exact Nat.le_trans (count_le_len l) h.small
 obtain ⟨i0, hi, hz0, hz1, hz2⟩ := info_parts infoInt
 refine (callsIn_wide (n := 5)).1 ?_
 refine callsIn_of_wp_marks Tryz.func116 rfl trivial ?_ rfl
 simp only [Tryz.ntmps116, List.size_toArray, List.length_cons, List.length_nil, Nat.reduceAdd, Nat.reduceSub, Array.replicate_succ, Array.replicate_zero, List.push_toArray, List.append_toArray, List.nil_append, List.cons_append]
 gi_wp2_with (refine ⟨trivial, ?_⟩; gi_at_call 179; refine (sall_in X _ _).mono ?_; rintro e w' ⟨rfl, rfl⟩)
 have bO := Boxed.new w 35 (.slice none 0 0)
 have bN := Boxed.new (w.alloc (.cells #[.slice none 0 0] 35)) 48 (vset X)
 rw [World.size_alloc] at bN
 have hB0 : Below w.heap.size w ((w.alloc (.cells #[.slice none 0 0] 35)).alloc (.cells #[vset X] 48)) := ((Below.refl _ w).alloc (Nat.le_refl _) _).alloc (by simp) _
 refine wpIn_rangeFunc_ownG rfl (by omega) (gf := 222) (lb := #[.pointer (some ⟨w.heap.size + 1, 0, none⟩)]) rfl trivial (enters_of Tryz.func222 (by kernel_rfl) rfl)
  (sall_stops 4 (by omega) (w.heap.size + 1) w.heap.size _ (by simp; omega) bN (h.below hB0) h.mem) KpB.trans (KpB.book (by simp; omega) (by simp)) (Below.refl _ _) (fun _ => rfl)
  (fun pre W => (∃ v, Boxed W w.heap.size 35 v ∧ W.ownsRow w.heap.size 3 1 v pre.length (pre.map vi) ∧ (v = .slice none 0 0 ↔ pre = [])) ∧ Boxed W (w.heap.size + 1) 48 (vset X) ∧ Below w.heap.size w W)
  (fun _ _ _ => False)
  (OwnFrom.and (Own.from (holdsRow_own w.heap.size w.heap.size 35 3 1 (fun pre : List Nat => pre.length) (fun pre => pre.map vi) (fun pre v => v = .slice none 0 0 ↔ pre = [])) _) (OwnFrom.and (Own.from (boxed_own _ _ _) _) (ownFrom_below (Nat.le_refl _) (by simp; omega))))
  (fun _ _ _ _ _ hs _ _ => hs)
  ⟨⟨_, bO.alloc _, World.ownsRow_nil _ _ _ _, by simp⟩, bN, hB0⟩
  (fun x => { tmps := #[vset X, undef, .slice none 0 0, .pointer (some ⟨w.heap.size, 0, none⟩), .int .i64 (x : Int), vset X, .func (.func 222) #[] #[.pointer (some ⟨w.heap.size + 1, 0, none⟩)], .int .i64 (x : Int), undef, undef, undef, undef, undef], defers := [] }) ?assign ?body ?done ?stop
 case assign =>
  intro l x W K hK
  gi_wp2
  exact hK
 case body =>
  rintro l' pre x W ⟨⟨v, hv, hrow, hnil⟩, hX, hB⟩ hlt
  have hc := hv.cell
  gi_wp2_with (gi_at_builtin; refine wpListIn_append_own _ rfl _ _ 35 rfl w.heap.size 3 i0 (.int .i64 0) 1 8 Tryz.underlying35 hi hz0 hz1 hz2 rfl (by decide) _ _ _ rfl (hrow.alloc _) ⟨W.heap.size, 0, none⟩ 1 1 [.int .i64 (x : Int)] rfl rfl (cell_one_new _ _ _) (by simp [Value.oneCell']) (by have : maxLen = 9223372036854775807 := rfl; omega) (by omega) (by have := hB.size; simp; omega) ?_; intro v' w1 hown' hgrow _; obtain ⟨g', cap', rfl⟩ := ownsRow_succ hown'; obtain ⟨hv1, hv2, hr2, hk2, hb2⟩ := hv.appended (by decide) hrow hB.size (Nat.le_refl _) hown' hgrow; have hc1 := hv1.cell; have hf1 := hv1.frozen)
  have hX2 := Boxed.other ((hX.alloc _).kept hgrow (hX.not_row (by decide) hrow)) (show w.heap.size + 1 ≠ w.heap.size by omega) (Value.slice (some ⟨g', 0, none⟩) (pre.length + 1) cap')
  exact ⟨hk2.from _, ⟨hb2, hX2.trans hX.symm⟩, ⟨_, hv2, by simpa using hr2, by simp⟩, hX2, hB.trans hb2⟩
 case done =>
  rintro D ys W hD rfl ⟨⟨v, hv, hrow, hnil⟩, _, hB⟩ hK
  have hc := hv.cell
  gi_wp2
  refine ⟨by simp, .inl ⟨_, _, rfl, run_takeDeferred hK, ?_⟩⟩
  exact ⟨_, results_tmp rfl _ _ _, v, rfl, ownsRow_putObj hrow _ hK rfl, hnil, hB.trans (belowK_b (w := w) (Nat.le_refl _) W D _ _ (by simp at hD; omega) hK rfl rfl)⟩
 case stop =>
  rintro D c pre W _ _ h _
  exact h.elim
end Go.Proofs.YtbimcogdbafjpaaGreat
namespace Go.Proofs.YtbimcogdbafjpaaGreat
open Go.RowKit
set_option maxHeartbeats 400000 in
theorem adev_any {w : World} {A : AF} {n B : Nat} {m : Al} (h : AlAt w A n B m) :
  Calls Tryz.prog 104 #[valloc A] w fun e w' => e = .returned (vdev A.X.F) ∧ w = w' := by
 have c1 := h.c1
 clear h
 go_enter Tryz.func104, Tryz.ntmps104
 go_wp2_with fail
 go_ret
 exact ⟨rfl, rfl⟩
set_option maxHeartbeats 400000 in
theorem aused_any {w : World} {A : AF} {n B : Nat} {m : Al} (h : AlAt w A n B m) (x : Int) :
  Calls Tryz.prog 165 #[valloc A, .int .i64 x] w fun e w' => e = .returned (.bool (hasI m.used x)) ∧ w = w' := by
 have c3 := h.c3
 have HS := LH h.set
 clear h
 go_enter Tryz.func165, Tryz.ntmps165
 go_wp2_with fail
 refine (shas_any HS.out x).mono ?_
 rintro e w1 ⟨rfl, rfl⟩
 go_wp2_with fail
 go_ret
 exact ⟨rfl, rfl⟩
set_option maxHeartbeats 400000 in
theorem aobjects_any {w : World} {A : AF} {n B : Nat} {m : Al} (h : AlAt w A n B m) :
  Calls Tryz.prog 28 #[valloc A] w (ListPost w (onesL m.used)) := by
 have c3 := h.c3
 have HS := LH h.set
 have HP : Hid (∀ e w', ListPost w (onesL m.used) e w' → ListPost w (onesL m.used) e w') := LH (fun _ _ h => h)
 generalize hP : ListPost w (onesL m.used) = Post at *
 clear h
 go_enter Tryz.func28, Tryz.ntmps28
 go_wp2_with fail
 refine (slist_any HS.out).mono ?_
 rw [hP]
 rintro e w1 hp
 have HPp := LH hp
 rw [← hP] at hp
 obtain ⟨v, rfl, _⟩ := hp
 clear hP
 go_wp2_with fail
 exact HPp.out
theorem ListPost.own {w w' : World} {xs : List Nat} {e : Ending} (h : ListPost w xs e w') : ∃ a c, e = .returned (.slice a xs.length c) ∧ Cells w' a (xs.map vi) ∧ Below w.heap.size w w' ∧ (∀ b o s, a = some ⟨b, o, s⟩ → w.heap.size ≤ b) := by
 obtain ⟨v, rfl, ho, _, hb⟩ := h
 obtain ⟨a, c, rfl, _⟩ := owned_form ho
 exact ⟨a, c, rfl, Cells.owned ho, hb, fun b o s e => by subst e; exact owned_addr ho _ rfl⟩
end Go.Proofs.YtbimcogdbafjpaaGreat
namespace Go.Proofs.YtbimcogdbafjpaaGreat
open Go.RowKit Go.Maps
structure StkAt (w : World) (s : Nat) (v : Value) (l : List Nat) (most miss : Nat) : Prop where
 head : w.heap[s]? = some (.cells #[v, .int .i64 (most : Int), .int .i64 (miss : Int)] 300 (0, 0))
 own : OwnI w v l
 ne : ∀ b, rowOf v = some b → b ≠ s
end Go.Proofs.YtbimcogdbafjpaaGreat
namespace Go.Proofs.YtbimcogdbafjpaaGreat
open Go.RowKit
structure MkF where
 p : Nat
 X : SetF
 Y : SetF
 s : Nat
 v : Value
def MkF.fix (K : MkF) : List Nat := K.p :: K.s :: (K.X.list ++ K.Y.list)
def MkF.list (K : MkF) : List Nat := K.fix ++ (rowOf K.v).toList
def mkV (A : AF) (K : MkF) (M : Mk) : Array Value := #[valloc A, vset K.X, vset K.Y, .pointer (some ⟨K.s, 0, none⟩), .bool M.again, .int .i64 (M.cur : Int)]
structure MkAt (w : World) (A : AF) (K : MkF) (M : Mk) : Prop where
 head : w.heap[K.p]? = some (.cells (mkV A K M) 271 (0, 0))
 sx : SetAt w K.X M.ms
 sy : SetAt w K.Y M.sc
 st : StkAt w K.s K.v M.st.reverse M.most M.miss
 nd : K.fix.Nodup
 nv : ∀ b, rowOf K.v = some b → b ∉ K.fix
section
variable {w w' : World} {A : AF} {K : MkF} {M : Mk}
end
section
variable {w w0 w1 w' : World} {A : AF} {n B : Nat} {m : Al} {K : MkF} {M M' : Mk}
end
section
variable {w : World} {A : AF} {K : MkF} {M : Mk}
end
section
variable {w : World} {A : AF} {n B : Nat} {m : Al} {K : MkF} {M : Mk}
end
end Go.Proofs.YtbimcogdbafjpaaGreat
namespace Go.Proofs.YtbimcogdbafjpaaGreat
section
variable {U : List Bool} {P : Nat → List Nat} {M : Mk}
section
variable {b : Bool} {M' : Mk}
end
end
end Go.Proofs.YtbimcogdbafjpaaGreat
namespace Go.Proofs.YtbimcogdbafjpaaGreat
open Go.RowKit
def ptrsD (S : Dev) (a : Int) : List Nat := if (headN S a).code = 0 then ptrL S a (headN S a).p.toNat else []
def ptrsO (m : Al) (a : Nat) : List Nat := ptrsD m.bm.dev (a : Int)
theorem PtrsPost.out {S : Dev} {a : Int} {w w' : World} {e : Ending} (h : PtrsPost S a w e w') : ∃ av cp ec, e = .returned (.tuple #[.slice av (ptrsD S a).length cp, .int .i64 ec]) ∧ ec = (headN S a).code ∧ Cells w' av ((ptrsD S a).map vi) ∧ (∀ x, av = some x → w.heap.size ≤ x.block) ∧ Below w.heap.size w w' := by
 obtain ⟨hb, h⟩ := h
 rcases h with ⟨h0, v, rfl, ho⟩ | ⟨h0, rfl⟩
 ·have e0 : ptrsD S a = ptrL S a (headN S a).p.toNat := by unfold ptrsD; rw [if_pos h0]
  obtain ⟨av, cp, rfl, _, _⟩ := owned_form ho
  rw [e0, ptrL_length]
  exact ⟨av, cp, _, rfl, h0.symm, Cells.owned ho, owned_addr ho, hb⟩
 ·have e0 : ptrsD S a = [] := by unfold ptrsD; rw [if_neg (by rw [h0]; decide)]
  rw [e0]
  exact ⟨none, 0, _, rfl, h0.symm, Cells.nil _ _, fun x hx => (by cases hx), hb⟩
theorem ptrsD_len {S : Dev} (hs : S.cache.length ≤ 1000000) (a : Int) : (ptrsD S a).length ≤ 64 := by
 unfold ptrsD
 split
 ·next h =>
  rw [ptrL_length]
  have := head_small hs (a := a) h
  omega
 ·simp
theorem ptrsD_le (S : Dev) (a : Int) : ∀ x ∈ ptrsD S a, x ≤ 1099511627776 := by
 intro x hx
 unfold ptrsD at hx
 split at hx
 ·unfold ptrL at hx
  obtain ⟨i, _, rfl⟩ := List.mem_map.1 hx
  exact capP_le _
 ·simp at hx
section
variable {w : World} {A : AF} {n B : Nat} {m : Al} {K : MkF} {M : Mk}
end
section
variable {U : List Bool} {P : Nat → List Nat} {M : Mk}
end
section
variable {w : World} {A : AF} {n B : Nat} {m : Al} {K : MkF} {M : Mk}
end
section
variable {w : World} {A : AF} {n B : Nat} {m : Al} {K : MkF} {M : Mk}
end
end Go.Proofs.YtbimcogdbafjpaaGreat
namespace Go.Proofs.YtbimcogdbafjpaaGreat
open Go.RowKit Go.Maps
set_option maxHeartbeats 1000000 in
theorem afreeCells_any {w : World} {A : AF} {n B : Nat} {m : Al} (h : AlAt w A n B m) (hL : m.fl.upto 900000) (k : Nat) (hk : k < 32) :
  Calls Tryz.prog 85 #[valloc A, .int .i64 (k : Int)] w (ListI w m.fl k) := by
 have HL := LH (flist_any h.free hL k hk)
 have c4 := h.c4
 have HP : Hid (∀ e w', ListI w m.fl k e w' → ListI w m.fl k e w') := LH (fun _ _ h => h)
 clear h hL
 generalize hPo : ListI w m.fl k = Post at *
 go_enter Tryz.func85, Tryz.ntmps85
 go_wp2_with fail
 refine HL.out.mono ?_
 intro e w1 h1
 have h2 := h1
 rw [← hPo] at h2
 obtain ⟨v, ys, rfl, _⟩ := h2
 have H1 := LH h1
 clear h1 hPo
 go_wp2_with fail
 exact H1.out
end Go.Proofs.YtbimcogdbafjpaaGreat
namespace Go.Proofs.YtbimcogdbafjpaaGreat
open Go.RowKit
structure Op20 where
 k : Int
 i : Int
 p : Int
 t : Int
def Op20.cs (o : Op20) : List Value := [.int .i64 o.k, .int .i64 o.i, .int .i64 o.p, .int .i64 o.t]
theorem Op20.len (o : Op20) : o.cs.length = 4 := rfl
theorem four20 (zs : List Int) (h : zs.length = 4) : (Op20.cs ⟨zs.getD 0 0, zs.getD 1 0, zs.getD 2 0, zs.getD 3 0⟩) = zs.map (Value.int .i64) := by
 match zs, h with
 | [a, b, c, d], _ => rfl
def Made20 (w : World) (B : Nat) (full : Bool) : Ending → World → Prop := fun e w' => ∃ (A : AF) (n : Nat) (m : Al) (v : Value) (xs : List Nat),
 e = .returned (.tuple #[vworld A v, .bool true]) ∧ Hp w w' [] A n B 25000000 m v xs ∧ n ≤ 2000000 ∧ (full = true → ∀ a, m.used.getD a false = true → a ∈ xs)
theorem dev0_ok {B : Nat} (hB2 : 2 ≤ B) (hB : B ≤ 100) : (dev0 B).ok 201000 := (fmt_formed hB2 hB).ok
theorem Hp.begun {w0 w w1 : World} {A : AF} {n B : Nat} (hB2 : 2 ≤ B) (hB : B ≤ 100) (h : AlAt w1 A n B (al0 B)) (hA : ∀ k ∈ A.list, w0.heap.size ≤ k) (hb0 : Below w.heap.size w w0) (hb : Below w0.heap.size w0 w1) {Q : List Nat} (hQ : ∀ k ∈ Q, k < w0.heap.size) :
  Hp w w1 Q A n B 201000 (al0 B) (.slice none 0 0) [] :=
 ⟨⟨h, OwnI.nil _, fun b hb => (by cases hb)⟩, WOk.begun hB2 hB, dev0_ok hB2 hB, fun k hk => ⟨Nat.le_trans hb0.size (hA k hk), fun hq => (by have := hQ k hq; have := hA k hk; omega)⟩, fun b hb => (by cases hb), fun k hk => Nat.lt_of_lt_of_le (hQ k hk) hb.size, hb0.trans (hb.mono hb0.size)⟩
theorem full_begun (B : Nat) : ∀ a, (al0 B).used.getD a false = true → a ∈ ([] : List Nat) := fun a ha => by
 have : (al0 B).used = List.replicate (512 * B) false := rfl
 rw [this] at ha
 simp only [List.getD_eq_getElem?_getD, List.getElem?_replicate] at ha
 split at ha <;> cases ha
theorem full_made {B : Nat} {m m' : Al} {xs : List Nat} {a : Nat} {p d : Int} (h : ∀ a, m.used.getD a false = true → a ∈ xs) (hm : Made B m m' a p d) (hl : m.used.length = 512 * B) : ∀ x, m'.used.getD x false = true → x ∈ xs ++ [a] := fun x hx => by
 rw [hm.used] at hx
 by_cases e : x = a
 ·subst e; simp
 ·by_cases ha : a < m.used.length
  ·rw [getD_set_bool _ _ _ _ ha, if_neg e] at hx
   exact List.mem_append_left _ (h x hx)
  ·rw [List.set_eq_of_length_le (by omega)] at hx
   exact List.mem_append_left _ (h x hx)
theorem lead_used (m : Al) (xs : List Nat) (i p t : Int) : (m.lead xs i p t).used = m.used := by unfold Al.lead; split <;> rfl
structure HMk (w wr : World) (Q : List Nat) (A : AF) (n N : Nat) (m : Al) (v : Value) (xs : List Nat) (K : MkF) (M : Mk) : Prop where
 hp : Hp w wr (Q ++ K.list) A n 4 N m v xs
 mr : MkAt wr A K M
 lo : ∀ k ∈ Q ++ K.list, w.heap.size ≤ k
 qk : ∀ k ∈ Q, k ∉ K.list
 lm : M.ms.length = m.used.length
 ls : M.sc.length = m.used.length
section
variable {w wr w' : World} {Q Q' : List Nat} {A : AF} {n N N' : Nat} {m m' : Al} {v : Value} {xs : List Nat} {K : MkF} {M M' : Mk}
end
end Go.Proofs.YtbimcogdbafjpaaGreat
namespace Go.Proofs.YtbimcogdbafjpaaGreat
open Go.RowKit Go.Maps
theorem contains_take_succ (xs : List Nat) (y k x : Nat) (hx : xs[k]? = some x) : (xs.take (k + 1)).contains y = ((xs.take k).contains y || (x == y)) := by
 have h1 := (List.getElem?_eq_some_iff.1 hx).1
 rw [List.take_succ_eq_append_getElem h1]
 have h2 : xs[k] = x := (List.getElem?_eq_some_iff.1 hx).2
 rw [h2]
 rw [Bool.eq_iff_iff]
 simp
 constructor
 ·rintro (h | h)
  ·exact .inl h
  ·exact .inr h.symm
 ·rintro (h | h)
  ·exact .inl h
  ·exact .inr h.symm
end Go.Proofs.YtbimcogdbafjpaaGreat
namespace Go.Proofs.YtbimcogdbafjpaaGreat
open Go.RowKit
theorem cells_step (x n : Nat) (hx : 2 ≤ x) : (n + 1) * x ≤ 512 ↔ n < 512 / x := by
 rw [← Nat.succ_le_iff, Nat.le_div_iff_mul_le (by omega)]
set_option maxHeartbeats 400000 in
theorem rccells_any (k : Int) (w : World) : Calls Tryz.prog 107 #[.int .i64 k] w fun e w' => e = .returned (.int .i64 (clsCells k : Nat)) ∧ Below w.heap.size w w' := by
 have hle := clsWords_le k
 have HC : Hid (clsCells k = 512 / clsWords k) := LH rfl
 have HP : Hid (clsWords k = 0 ∨ 2 ≤ clsWords k) := by
  apply LH
  by_cases h : 0 ≤ k ∧ k < 32
  ·exact .inr (clsWords_pos k h)
  ·left; unfold clsWords; rw [if_neg h]
 have CW := LH (rcwords_any k)
 generalize clsWords k = x at *
 by_cases h0 : x = 0
 ·subst h0
  go_enter Tryz.func107, Tryz.ntmps107
  go_wp2_with fail
  refine wp_loop_rounds 1 ?_
  rw [rounds_succ]
  go_wp2_with fail
  refine (CW.out _).mono ?_
  rintro e w1 ⟨rfl, hb⟩
  go_wp2_with fail
  go_ret
  exact ⟨ret_int (by rw [HC.out]; rfl), hb⟩
 ·have hx2 : 2 ≤ x := by rcases HP.out with h | h <;> omega
  clear h0
  go_enter Tryz.func107, Tryz.ntmps107
  go_wp2_with fail
  go_loopw [3] (fun i wr => ∃ n : Nat, n ≤ 512 ∧ i = .int .i64 n ∧ Hid (n ≤ 512 / x) ∧ Below w.heap.size w wr) (fun i _ => 512 - (intOf i).toNat)
  case atStart => exact ⟨0, by omega, rfl, LH (Nat.zero_le _), Below.refl _ _⟩
  case round =>
   obtain ⟨n, hn, rfl, hd, hb⟩ := hrel
   have HS := LH (cells_step x n hx2)
   have HD : Hid (512 / x ≤ 256) := LH (by exact Nat.div_le_div_left (a := 512) hx2 (by omega))
   have hm0 : 0 ≤ ((n : Int) + 1) * (x : Int) := Int.mul_nonneg (by omega) (by omega)
   have hm1 : ((n : Int) + 1) * (x : Int) ≤ 513 * 256 := Int.mul_le_mul (by omega) (by omega) (by omega) (by omega)
   have he : ((n : Int) + 1) * (x : Int) = (((n + 1) * x : Nat) : Int) := by simp
   have HE := LH he
   clear he
   go_wp2_with fail
   refine (CW.out _).mono ?_
   rintro e w1 ⟨rfl, hb1⟩
   have hb1' := hb.trans (hb1.mono hb.size)
   go_wp2_with fail
   refine (CW.out _).mono ?_
   rintro e w2 ⟨rfl, hb2⟩
   have hb2' := hb1'.trans (hb2.mono hb1'.size)
   clear hb1 hb2
   by_cases hc : ((n : Int) + 1) * (x : Int) ≤ 512
   ·have hd' : decide (((n : Int) + 1) * (x : Int) ≤ 512) = true := by simp [hc]
    have hlt : n < 512 / x := HS.out.1 (by have := HE.out; omega)
    have hn2 : n + 1 ≤ 512 := by have := HD.out; omega
    have HL := LH hlt
    clear hlt
    go_wp2_with fail
    exact ⟨⟨n + 1, hn2, vint (by omega), LH HL.out, hb2'⟩, by simp [intOf]; omega⟩
   ·have hd' : decide (((n : Int) + 1) * (x : Int) ≤ 512) = false := by simp [hc]
    have HL : Hid (n = 512 / x) := LH (by have h1 := hd.out; have h2 := HS.out; have h3 := HE.out; omega)
    go_wp2_with fail
    go_ret
    exact ⟨ret_int (by rw [HC.out, ← HL.out]), hb2'⟩
set_option maxHeartbeats 400000 in
theorem rosize_any (p d : Int) (w : World) : Calls Tryz.prog 66 #[.agg #[.int .i64 p, .int .i64 d]] w fun e w' => e = .returned (.int .i64 (objSize p d : Nat)) ∧ Below w.heap.size w w' := by
 have HB := LH (below_alloc w)
 by_cases h1 : p < 0
 ·have HS : Hid (objSize p d = 0) := LH (by unfold objSize; rw [if_pos (by omega)])
  go_enter Tryz.func66, Tryz.ntmps66
  go_wp2_with fail
  go_ret
  exact ⟨ret_int (by rw [HS.out]; rfl), HB.out _⟩
 by_cases h2 : 63 < p
 ·have HS : Hid (objSize p d = 0) := LH (by unfold objSize; rw [if_pos (by omega)])
  go_enter Tryz.func66, Tryz.ntmps66
  go_wp2_with fail
  go_ret
  exact ⟨ret_int (by rw [HS.out]; rfl), HB.out _⟩
 by_cases h3 : d < 0
 ·have HS : Hid (objSize p d = 0) := LH (by unfold objSize; rw [if_pos (by omega)])
  go_enter Tryz.func66, Tryz.ntmps66
  go_wp2_with fail
  go_ret
  exact ⟨ret_int (by rw [HS.out]; rfl), HB.out _⟩
 by_cases h4 : 16384 < d
 ·have HS : Hid (objSize p d = 0) := LH (by unfold objSize; rw [if_pos (by omega)])
  go_enter Tryz.func66, Tryz.ntmps66
  go_wp2_with fail
  go_ret
  exact ⟨ret_int (by rw [HS.out]; rfl), HB.out _⟩
 have HS : Hid (((objSize p d : Nat) : Int) = 1 + p + d) := LH (by unfold objSize; rw [if_neg (by omega)]; omega)
 go_enter Tryz.func66, Tryz.ntmps66
 go_wp2_with fail
 go_ret
 exact ⟨ret_int HS.out.symm, HB.out _⟩
set_option maxHeartbeats 400000 in
theorem rclass_any (p d : Int) (w : World) : Calls Tryz.prog 15 #[.agg #[.int .i64 p, .int .i64 d]] w fun e w' => e = .returned (.int .i64 (rofN (objSize p d : Nat))) ∧ Below w.heap.size w w' := by
 have HB := LH (below_alloc w)
 go_enter Tryz.func15, Tryz.ntmps15
 go_wp2_with fail
 refine (rosize_any _ _ _).mono ?_
 rintro e w1 ⟨rfl, hb1⟩
 have hb1' := (HB.out _).trans (hb1.mono (HB.out _).size)
 go_wp2_with fail
 refine (rof_any _ _).mono ?_
 rintro e w2 ⟨rfl, hb2⟩
 have hb2' := hb1'.trans (hb2.mono hb1'.size)
 go_wp2_with fail
 go_ret
 exact ⟨rfl, hb2'⟩
set_option maxHeartbeats 400000 in
theorem need_any (n : Int) (w : World) (hn : n ≤ 1000000000) : Calls Tryz.prog 176 #[.int .i64 n] w fun e w' => e = .returned (.int .i64 (upN n 512)) ∧ w = w' := by
 by_cases h : n < 1
 ·have HU : Hid (upN n 512 = 0) := LH (by unfold upN; rw [if_pos (by omega)])
  go_enter Tryz.func176, Tryz.ntmps176
  go_wp2_with fail
  go_ret
  exact ⟨ret_int HU.out.symm, rfl⟩
 ·have HU := LH (up_ref n 512 (by omega) (by omega))
  by_cases c : n % 512 = 0
  ·have c1 : (n % 512 != 0) = false := by simp [c]
   have C := LH c
   clear c
   go_enter Tryz.func176, Tryz.ntmps176
   go_wp2_with fail
   go_ret
   exact ⟨ret_int (by rw [HU.out, if_pos C.out]), rfl⟩
  ·have c1 : (n % 512 != 0) = true := by simp [c]
   have C := LH c
   clear c
   go_enter Tryz.func176, Tryz.ntmps176
   go_wp2_with fail
   go_ret
   exact ⟨ret_int (by rw [HU.out, if_neg C.out]), rfl⟩
theorem rofN_small (n : Nat) (h : small n) : rofN (n : Int) = (ofN (n : Int) : Nat) := by unfold rofN; rw [if_pos (by unfold small at h; omega)]
theorem rofN_large (n : Nat) (h : ¬ small n) : rofN (n : Int) = -1 := by unfold rofN; rw [if_neg (by unfold small at h; omega)]
set_option maxHeartbeats 400000 in
theorem roblocks_any (p d : Int) (w : World) : Calls Tryz.prog 109 #[.agg #[.int .i64 p, .int .i64 d]] w fun e w' => e = .returned (.int .i64 (objBlocks (objSize p d) : Nat)) ∧ Below w.heap.size w w' := by
 have HB := LH (below_alloc w)
 have hle := objSize_le p d
 go_enter Tryz.func109, Tryz.ntmps109
 go_wp2_with fail
 refine (rclass_any _ _ _).mono ?_
 rintro e w1 ⟨rfl, hb1⟩
 have hb1' := (HB.out _).trans (hb1.mono (HB.out _).size)
 have hc0 : w1.cell? ⟨w.heap.size, 0, none⟩ = some (.int .i64 p) := by rw [hb1.cell (p := ⟨w.heap.size, 0, none⟩) (by simp)]; exact cell_alloc_new _ _ _ _ _ rfl
 have hc1 : w1.cell? ⟨w.heap.size, 1, none⟩ = some (.int .i64 d) := by rw [hb1.cell (p := ⟨w.heap.size, 1, none⟩) (by simp)]; exact cell_alloc_new _ _ _ _ _ rfl
 by_cases h : small (objSize p d)
 ·rw [rofN_small _ h]
  have HO : Hid (objBlocks (objSize p d) = 0) := LH (by unfold objBlocks; rw [if_pos h])
  clear h hb1
  go_wp2_with fail
  go_ret
  exact ⟨ret_int (by rw [HO.out]; rfl), hb1'⟩
 ·rw [rofN_large _ h]
  have HO : Hid (((objBlocks (objSize p d) : Nat) : Int) = upN (objSize p d : Nat) 512) := LH (by unfold objBlocks upN; rw [if_neg h]; split <;> omega)
  clear h hb1
  go_wp2_with fail
  refine (rosize_any _ _ _).mono ?_
  rintro e w2 ⟨rfl, hb2⟩
  have hb2' := hb1'.trans (hb2.mono hb1'.size)
  go_wp2_with fail
  refine (need_any _ _ (by omega)).mono ?_
  rintro e w3 ⟨rfl, rfl⟩
  rw [← HO.out]
  go_wp2_with fail
  go_ret
  exact ⟨rfl, hb2'⟩
end Go.Proofs.YtbimcogdbafjpaaGreat
namespace Go.Proofs.YtbimcogdbafjpaaGreat
open Go.RowKit Go.Maps
def FreeL (w : World) (ys : List Nat) : Ending → World → Prop := fun e w' => ∃ v, e = .returned v ∧ OwnI w' v ys ∧ (∀ b, rowOf v = some b → w.heap.size ≤ b) ∧ Below w.heap.size w w'
set_option maxHeartbeats 4000000 in
set_option maxRecDepth 20000 in
theorem rfree16_any {w : World} (a : Option Addr) (n cap : Nat) (L : List Hd) (hn : L.length = n) (hc : Cells w a (hdCs L)) (hl : n ≤ 200) (k : Nat) (hk : k < 32) (b : Option Addr) (un uc : Nat) (xs : List Nat) (hun : xs.length = un) (hx : Cells w b (xs.map vi)) (hul : un ≤ 1000000) :
  Calls Tryz.prog 79 #[.slice a n cap, .int .i64 (k : Int), .slice b un uc] w (FreeL w (freeTo (fun y => xs.contains y) L k (n - 1))) := by
 have HP : Hid (∀ v w', OwnI w' v (freeTo (fun y => xs.contains y) L k (n - 1)) → (∀ b, rowOf v = some b → w.heap.size ≤ b) → Below w.heap.size w w' → FreeL w (freeTo (fun y => xs.contains y) L k (n - 1)) (.returned v) w') := LH (fun v w' h1 h2 h3 => ⟨v, rfl, h1, h2, h3⟩)
 generalize FreeL w (freeTo (fun y => xs.contains y) L k (n - 1)) = Post at *
 obtain ⟨u, hu⟩ : ∃ u : Nat → Bool, u = fun y => xs.contains y := ⟨_, rfl⟩
 rw [← hu] at HP
 have HU := LH hu
 have HC := LH hc
 have HX := LH hx
 have HLn := LH hn
 have HUn := LH hun
 have hcp := clsWords_pos (k : Int) (by omega)
 have hc256 : clsCells k ≤ 256 := by
  unfold clsCells
  have := Nat.div_le_div_left (c := 2) (b := clsWords (k : Int)) (a := 512) hcp (by decide)
  omega
 have hw512 : clsWords k ≤ 512 := by
  have := clsWords_le (k : Int)
  omega
 clear hc hx hn hun hu
 obtain ⟨cc, hcc⟩ : ∃ cc, cc = clsCells k := ⟨_, rfl⟩
 obtain ⟨cw, hcw⟩ : ∃ cw, cw = clsWords k := ⟨_, rfl⟩
 have HCe := LH (fun w => rccells_any (k : Int) w)
 have HWe := LH (fun w => rcwords_any (k : Int) w)
 rw [← hcc] at HCe hc256
 rw [← hcw] at HWe hw512
 have HCc := LH hcc
 have HCw := LH hcw
 clear hcc hcw hcp
 go_enter Tryz.func79, Tryz.ntmps79
 go_wp2_with fail
 go_loopw [7, 8] (fun ov bv wr => ∃ bn : Nat, 1 ≤ bn ∧ (bn ≤ n ∨ bn = 1) ∧ bv = .int .i64 (bn : Int) ∧ Hid (OwnI wr ov (freeTo u L k (bn - 1))) ∧ Hid (∀ b, rowOf ov = some b → w.heap.size ≤ b) ∧ Hid (Below w.heap.size w wr)) (fun _ bv _ => n + 1 - (intOf bv).toNat)
 case atStart => exact ⟨1, by omega, by omega, rfl, LH (OwnI.nil _), LH (fun b hb => by cases hb), LH (Below.refl _ _)⟩
 case round =>
  obtain ⟨bn, hb1, hbn, rfl, HO, HR, HB⟩ := hrel
  by_cases hlt : bn < n
  case neg =>
   have hlt' : ¬ (bn : Int) < (n : Int) := by omega
   have e : bn - 1 = n - 1 := by omega
   rw [e] at HO
   go_wp2_with fail
   exact HP.out _ _ HO.out HR.out HB.out
  have hlt' : (bn : Int) < (n : Int) := by omega
  obtain ⟨kk, cc0, zz, he⟩ := hdGetD L bn
  obtain ⟨ba, oa, rfl, e0, e1, e2⟩ := hd_cells HC.out (by rw [HLn.out]; exact hlt) he
  have HSm : Hid (isSm L k bn = (decide (kk = 1) && decide (cc0 = (k : Int)))) := LH (by unfold isSm; rw [he])
  have HSuc : Hid (freeTo u L k (bn + 1 - 1) = freeTo u L k (bn - 1) ++ if isSm L k bn then cellsTo u bn k cc else []) := LH (by
   rw [HCc.out]
   obtain ⟨z, rfl⟩ : ∃ z, bn = z + 1 := ⟨bn - 1, by omega⟩
   rfl)
  generalize hF : freeTo u L k (bn - 1) = F at *
  have HFl : Hid (F.length ≤ 60000) := LH (by rw [← hF]; have := freeTo_len (u := u) (L := L) hk (bn - 1); have : 256 * (bn - 1) ≤ 256 * 200 := Nat.mul_le_mul_left _ (by omega); omega)
  have HE0 := LH e0
  have HE1 := LH e1
  clear he e0 e1 e2 hF
  go_wp2_with fail
  go_loopw [7, 9] (fun ov iv wi => ∃ i : Nat, i ≤ cc ∧ iv = .int .i64 (i : Int) ∧ Hid (OwnI wi ov (F ++ if isSm L k bn then cellsTo u bn k i else [])) ∧ Hid (∀ b, rowOf ov = some b → w.heap.size ≤ b) ∧ Hid (Below w.heap.size w wi)) (fun _ iv _ => cc - (intOf iv).toNat)
  case atStart => exact ⟨0, by omega, rfl, LH (by
   have h := HO.out
   by_cases e : isSm L k bn
   ·rw [if_pos e]; show OwnI _ _ (F ++ []); rw [List.append_nil]; exact h
   ·rw [if_neg e, List.append_nil]; exact h), HR, HB⟩
  case round =>
   obtain ⟨i, hic, rfl, HOi, HRi, HBi⟩ := hrel
   have c0 := (HBi.out.cell (p := ⟨ba, oa + bn * 3, none⟩) (World.block_lt_of_cell? _ _ HE0.out)).trans HE0.out
   have c1 := (HBi.out.cell (p := ⟨ba, oa + bn * 3 + 1, none⟩) (World.block_lt_of_cell? _ _ HE1.out)).trans HE1.out
   by_cases hk1 : kk = 1
   case neg =>
    have HNext : Hid (OwnI wr _ (freeTo u L k (bn + 1 - 1))) := LH (by
     have h := HOi.out
     have e : isSm L k bn = false := by rw [HSm.out]; simp [hk1]
     rw [HSuc.out]
     rw [e] at h ⊢
     exact h)
    go_wp2_with fail
    go_roundw
    case rel => exact ⟨bn + 1, by omega, by omega, vint (by omega), HNext, HRi, HBi⟩
    case measure => simp [intOf]; omega
   subst hk1
   by_cases hk2 : cc0 = (k : Int)
   case neg =>
    have HNext : Hid (OwnI wr _ (freeTo u L k (bn + 1 - 1))) := LH (by
     have h := HOi.out
     have e : isSm L k bn = false := by rw [HSm.out]; simp [hk2]
     rw [HSuc.out]
     rw [e] at h ⊢
     exact h)
    go_wp2_with fail
    go_roundw
    case rel => exact ⟨bn + 1, by omega, by omega, vint (by omega), HNext, HRi, HBi⟩
    case measure => simp [intOf]; omega
   subst hk2
   have HYes : Hid (isSm L k bn = true) := LH (by rw [HSm.out]; simp)
   rw [HYes.out, if_pos rfl] at HOi
   go_wp2_with fail
   refine (HCe.out _).mono ?_
   rintro e w2 ⟨rfl, hb2⟩
   have HO2 := LH (HOi.out.keep (fun b hb => hb2.block b (HOi.out.lt b hb)))
   have HB2 := LH (HBi.out.trans (hb2.mono HBi.out.size))
   clear hb2 c0 c1
   by_cases hii : i < cc
   case neg =>
    obtain rfl : i = cc := by omega
    have HNext : Hid (OwnI w2 _ (freeTo u L k (bn + 1 - 1))) := LH (by rw [HSuc.out, HYes.out, if_pos rfl]; exact HO2.out)
    have hni : ¬ (i : Int) < (i : Int) := by omega
    go_wp2_with fail
    go_roundw
    case rel => exact ⟨bn + 1, by omega, by omega, vint (by omega), HNext, HRi, HB2⟩
    case measure => simp [intOf]; omega
   have hiI : (i : Int) < (cc : Int) := by omega
   have hfit : i * cw + cw ≤ 512 := by
    have h1 := HCc.out
    have h2 := HCw.out
    unfold clsCells at h1
    rw [← h2] at h1
    have h3 : (i + 1) * cw ≤ 512 / cw * cw := Nat.mul_le_mul_right _ (by omega)
    have h4 := Nat.div_mul_le_self 512 cw
    rw [Nat.add_mul, Nat.one_mul] at h3
    omega
   have hm0 : (0 : Int) ≤ (i : Int) * (cw : Int) := by rw [← Int.natCast_mul]; omega
   have hm1 : (i : Int) * (cw : Int) ≤ 512 := by rw [← Int.natCast_mul]; omega
   obtain ⟨at_, hat⟩ : ∃ at_, at_ = cellOf bn k i := ⟨_, rfl⟩
   have hatI : 512 * (bn : Int) + (i : Int) * (cw : Int) = (at_ : Int) := by rw [hat, HCw.out]; unfold cellOf; rw [Int.natCast_add, Int.natCast_mul, Int.natCast_mul]; rfl
   have HAt := LH hat
   have HStop : Hid (cellsTo u bn k (i + 1) = cellsTo u bn k i ++ if u at_ then [] else [at_]) := LH (by rw [hat]; rfl)
   clear hat hfit
   go_wp2_with fail
   refine (HWe.out _).mono ?_
   rintro e w3 ⟨rfl, hb3⟩
   have HO3 := LH (HO2.out.keep (fun b hb => hb3.block b (HO2.out.lt b hb)))
   have HB3 := LH (HB2.out.trans (hb3.mono HB2.out.size))
   clear hb3 HO2
   go_wp2_with fail
   go_loopw [11, 12] (fun fv jv wj => ∃ j : Nat, j ≤ un ∧ fv = .bool ((xs.take j).contains at_) ∧ jv = .int .i64 (j : Int) ∧ Hid (OwnI wj u7 (F ++ cellsTo u bn k i)) ∧ Hid (Below w.heap.size w wj)) (fun _ jv _ => un - (intOf jv).toNat)
   case atStart => exact ⟨0, by omega, rfl, rfl, HO3, HB3⟩
   case round =>
    obtain ⟨j, hj, rfl, rfl, HOj, HBj⟩ := hrel
    by_cases hjj : j < un
    ·have hjI : (j : Int) < (un : Int) := by omega
     obtain ⟨x, hx⟩ : ∃ x, xs[j]? = some x := ⟨_, List.getElem?_eq_getElem (by rw [HUn.out]; exact hjj)⟩
     have HCs := LH (contains_take_succ xs at_ j x hx)
     obtain ⟨bb, ob, rfl, _, hcx⟩ := (HX.out.below HBj.out (Nat.le_refl _)).at (i := j) (by rw [List.length_map, HUn.out]; exact hjj)
     have cx := hcx j (vi x) (by rw [List.getElem?_map, hx]; rfl)
     unfold vi at cx
     clear hcx hx
     have HXe : Hid (((x : Int) == (at_ : Int)) = (x == at_)) := LH (by
      by_cases e : x = at_
      ·subst e; simp
      ·have e2 : ¬ (x : Int) = (at_ : Int) := by omega
       rw [beq_eq_false_iff_ne.2 e2, beq_eq_false_iff_ne.2 e])
     obtain ⟨nf, hnf⟩ : ∃ nf, nf = (xs.take (j + 1)).contains at_ := ⟨_, rfl⟩
     rw [← hnf] at HCs
     have HNe := LH hnf.symm
     clear hnf
     cases hf : (xs.take j).contains at_ with
     | true =>
      rw [hf] at HCs
      have HNf : Hid (nf = true) := LH (by rw [HCs.out]; rfl)
      clear hf
      go_wp2_with fail
      go_roundw
      case rel => exact ⟨j + 1, by omega, by rw [HNe.out, HNf.out], vint (by omega), HOj, HBj⟩
      case measure => simp [intOf]; omega
     | false =>
      rw [hf] at HCs
      have HNf : Hid (nf = (x == at_)) := LH (by rw [HCs.out]; rfl)
      clear hf
      go_wp2_with fail
      go_roundw
      case rel => exact ⟨j + 1, by omega, by rw [HNe.out, HNf.out, HXe.out], vint (by omega), HOj, HBj⟩
      case measure => simp [intOf]; omega
    ·obtain rfl : j = un := by omega
     have hni : ¬ (j : Int) < (j : Int) := by omega
     have HUa : Hid (u at_ = (xs.take j).contains at_) := LH (by rw [HU.out, ← HUn.out, List.take_length])
     cases hf : (xs.take j).contains at_ with
     | true =>
      have HNext : Hid (OwnI wr u7 (F ++ cellsTo u bn k (i + 1))) := LH (by rw [HStop.out, HUa.out, hf, if_pos rfl, List.append_nil]; exact HOj.out)
      clear hf
      go_wp2_with fail
      go_roundw
      case rel => exact ⟨i + 1, by omega, vint (by omega), LH (by rw [HYes.out, if_pos rfl]; exact HNext.out), HRi, HBj⟩
      case measure => simp [intOf]; omega
     | false =>
      have HE : Hid (cellsTo u bn k (i + 1) = cellsTo u bn k i ++ [at_]) := LH (by rw [HStop.out, HUa.out, hf, if_neg (by simp)])
      have HC1 : Hid (Cells (wr.alloc (.cells #[.int .i64 (at_ : Int)] 3)) (some ⟨wr.heap.size, 0, none⟩) ([at_].map vi)) := LH (RowAt.cells ⟨_, heap_alloc_new _ _, [], rfl⟩)
      have hba := below_alloc wr (.cells #[.int .i64 (at_ : Int)] 3)
      have HB1 := LH (HBj.out.trans (hba.mono HBj.out.size))
      have HO1 := LH (HOj.out.keep (fun b hb => hba.block b (HOj.out.lt b hb)))
      have HN1 : Hid ((F ++ cellsTo u bn k i).length + 1 ≤ 1000000000000) := LH (by
       have h1 := HFl.out
       have h2 := cellsTo_len (u := u) (b := bn) (k := k) i
       rw [List.length_append]; omega)
      clear hba hf
      go_wp2_with (at_builtin; refine wpList_append_newI (m := 1) (B := w.heap.size) HO1.out (Below.refl _ _) HRi.out HB1.out.size HC1.out rfl HN1.out rfl rfl rfl rfl ?_; intro v' w9 ho hb hr; have HO9 := LH ho; have HB9 := LH hb; have HR9 := LH hr; clear ho hb hr)
      go_roundw
      case rel => exact ⟨i + 1, by omega, vint (by omega), LH (by rw [HYes.out, if_pos rfl, HE.out, ← List.append_assoc]; exact HO9.out), HR9, LH (HB1.out.trans HB9.out)⟩
      case measure => simp [intOf]; omega
structure Ob where
 a : Nat
 p : Int
 d : Int
section
variable {P : Program} {C : World → Prop} {ops : Array Oper} {rest : List Oper} {o : Oper} {a : Act} {Q : Act → Prop}
end
section
variable {w : World} {P : Program} {ops : Array Oper} {rest : List Oper} {o : Oper} {act : Act} {Q : Exit → Act → World → Prop}
end
end Go.Proofs.YtbimcogdbafjpaaGreat
namespace Go.Proofs.YtbimcogdbafjpaaGreat
open Go.RowKit
end Go.Proofs.YtbimcogdbafjpaaGreat
namespace Go.Proofs.YtbimcogdbafjpaaGreat
open Go.Lib (decDigits itoa nDigits)
end Go.Proofs.YtbimcogdbafjpaaGreat
namespace Go.Proofs.YtbimcogdbafjpaaGreat
open Go.RowKit
open Go.Lib (decDigits itoa nDigits)
open Go.Lib (decDigits itoa nDigits)
open Go.Lib (decDigits itoa nDigits)
section
variable {P : Program} {w : World} {ops : Array Oper} {rest : List Oper} {o : Oper} {a : Act} {Q : Exit → Act → World → Prop}
end
end Go.Proofs.YtbimcogdbafjpaaGreat
namespace Go.Proofs
open Go.Shelf
end Go.Proofs
namespace Go.Proofs.YtbimcogdbafjpaaGreat
open Go.RowKit Go.Shelf
end Go.Proofs.YtbimcogdbafjpaaGreat
namespace Go.Proofs.YtbimcogdbafjpaaGreat
open Go.RowKit
def nlB (wd : Int) (b B : Nat) : Prop := 0 < wd ∧ (b : Int) % wd = 0 ∧ (b : Int) < (B : Int) - 1
instance (wd : Int) (b B : Nat) : Decidable (nlB wd b B) := by unfold nlB; infer_instance
open Go.Lib (decDigits itoa nDigits)
open Go.Lib (decDigits itoa nDigits)
set_option maxHeartbeats 8000000 in
set_option maxRecDepth 100000 in
theorem made32_any (a : Option Addr) (mm cap : Nat) (s : List Op20) (hm : s.length = mm) (w : World) (hcs : Cells w a (recs Op20.cs s)) (hmm : mm ≤ maxLen) :
  Calls Tryz.prog 26 #[.slice a mm cap] w (Made20 w 6 false) := by
 unfold maxLen at hmm
 have HM := LH hm
 have HCS := LH hcs
 clear hm hcs
 have HP : Hid (∀ (A : AF) (n : Nat) (m : Al) (v : Value) (xs : List Nat) w', Hp w w' [] A n 6 25000000 m v xs → n ≤ 2000000 → Made20 w 6 false (.returned (.tuple #[vworld A v, .bool true])) w') := LH (fun A n m v xs w' h1 h2 => ⟨A, n, m, v, xs, rfl, h1, h2, fun h => by cases h⟩)
 generalize Made20 w 6 false = Post at *
 have HB0 := LH (below_alloc w (.cells zeroW 74))
 have HR0 : Hid (RowX (w.alloc (.cells zeroW 74)) ⟨w.heap.size, 74, zeroW.toList, true⟩) := LH ⟨_, heap_alloc_new _ _, [], by simp, by simp⟩
 obtain ⟨q, hq⟩ : ∃ q, q = w.heap.size := ⟨_, rfl⟩
 go_enter Tryz.func26, Tryz.ntmps26
 go_upto_region 1 with fail
 rw [show (#[.pointer none, .pointer none, .slice none 0 0] : Array Value) = zeroW from rfl]
 have HQ0 : Hid ((w.alloc (.cells zeroW 74)).heap.size = q + 1) := LH (by simp [hq])
 rw [← hq] at HR0 ⊢
 have HQ := LH hq
 generalize w.alloc _ = w0 at *
 clear hq
 go_wp2_with fail
 refine (begun20_any 6 (by omega) (by omega) _).mono ?_
 rintro e w1 ⟨A, n, rfl, ha, hn, hA, hb⟩
 have hh := Hp.begun (by omega) (by omega) ha hA HB0.out hb (Q := [q]) (by intro k hk; simp at hk; have := HQ0.out; omega)
 obtain ⟨p, hp⟩ : ∃ p, p = w1.heap.size := ⟨_, rfl⟩
 have HH : Hid (Hp w (w1.alloc (.cells #[valloc A, vdev A.X.F, .slice none 0 0] 74)) [q, p] A n 6 201000 (al0 6) (.slice none 0 0) []) := LH (hh.more (fun k hk => by
  simp only [List.mem_cons, List.not_mem_nil, or_false] at hk
  rcases hk with rfl | rfl
  ·exact .inl (by simp)
  ·exact .inr (by simp [hp])) (below_alloc _ _))
 have HR1 : Hid (MemR w.heap.size (w1.alloc (.cells #[valloc A, vdev A.X.F, .slice none 0 0] 74)) [⟨q, 74, zeroW.toList, true⟩, ⟨p, 74, [valloc A, vdev A.X.F, .slice none 0 0], true⟩]) := LH (by
  have h0 : MemR w.heap.size w1 [⟨q, 74, zeroW.toList, true⟩] := ⟨by
   intro x hx
   simp at hx; subst hx
   exact HR0.out.keep (hb.block q (by have := HQ0.out; omega)), by intro x hx; simp at hx; subst hx; have := HQ.out; exact Nat.le_of_eq this.symm, by simp, hh.below.size⟩
  have := h0.alloc #[valloc A, vdev A.X.F, .slice none 0 0] 74
  rw [← hp] at this
  exact this)
 have HN := LH hn
 clear ha hA hb hh hn HR0 HB0
 go_upto_region 2 with fail
 rw [← hp]
 generalize w1.alloc _ = w2 at *
 clear hp HQ0
 go_wp2_with fail
 go_loopw [5, 6] (fun f i wr => ∃ (k : Nat) (R : List Nat) (m : Al) (v : Value) (xs : List Nat), k ≤ mm ∧ k ≤ 40 ∧ f = .bool true ∧ i = .int .i64 (k : Int) ∧ Hid (Hp w wr [q, p] (A.re R) (n + 6 * k) 6 (201000 + 600000 * k) m v xs) ∧ Hid (MemR w.heap.size wr [⟨q, 74, zeroW.toList, true⟩, ⟨p, 74, [valloc A, vdev A.X.F, v], true⟩])) (fun _ i _ => 40 - (intOf i).toNat)
 case atStart => exact ⟨0, A.R, _, _, _, Nat.zero_le _, Nat.zero_le _, rfl, rfl, HH, HR1⟩
 case round =>
  clear HH HR1
  obtain ⟨k, R, m, v, xs, hkm, hk40, rfl, rfl, HH, HMr⟩ := hrel
  have HQb : Hid (∀ k ∈ [q, p], w.heap.size ≤ k) := LH (by
   intro k hk
   simp only [List.mem_cons, List.not_mem_nil, or_false] at hk
   rcases hk with rfl | rfl
   ·exact HMr.out.gbase 0 rfl
   ·exact HMr.out.gbase 1 rfl)
  by_cases hlt : k < mm ∧ k < 40
  ·obtain ⟨h1, h2⟩ := hlt
   have h1' : (k : Int) < (mm : Int) := by omega
   have h2' : (k : Int) < 40 := by omega
   have hkl : k < s.length := by rw [HM.out]; exact h1
   obtain ⟨b1, o1, rfl, hbl, hcell⟩ := recs_cells Op20.len (by decide) (⟨0, 0, 0, 0⟩ : Op20) (HCS.out.below HH.out.below (Nat.le_refl _)) hkl
   generalize s.getD k ⟨0, 0, 0, 0⟩ = o at *
   obtain ⟨ok, oi, op, ot⟩ := o
   have e0 : wr.cell? ⟨b1, o1 + k * 4, none⟩ = some (.int .i64 ok) := hcell 0 _ rfl
   have e1 : wr.cell? ⟨b1, o1 + k * 4 + 1, none⟩ = some (.int .i64 oi) := hcell 1 _ rfl
   have e2 : wr.cell? ⟨b1, o1 + k * 4 + 2, none⟩ = some (.int .i64 op) := hcell 2 _ rfl
   have e3 : wr.cell? ⟨b1, o1 + k * 4 + 3, none⟩ = some (.int .i64 ot) := hcell 3 _ rfl
   have HHa := LH (HH.out.later (below_alloc wr (.cells #[.int .i64 ok, .int .i64 oi, .int .i64 op, .int .i64 ot] 197)))
   have HMra := LH (HMr.out.later (below_alloc wr (.cells #[.int .i64 ok, .int .i64 oi, .int .i64 op, .int .i64 ot] 197)))
   have HMa := LH (Mem.one wr #[.int .i64 ok, .int .i64 oi, .int .i64 op, .int .i64 ot] 197)
   clear hcell hkl
   go_upto_region 6 with fail
   generalize wr.alloc _ = wa at *
   have d0 := HMa.out.cell 0 0 rfl rfl
   have d1 := HMa.out.cell 0 1 rfl rfl
   have d2 := HMa.out.cell 0 2 rfl rfl
   have d3 := HMa.out.cell 0 3 rfl rfl
   have hN := HN.out
   by_cases h0 : ok = 0
   ·subst h0
    go_wp2_with (refine wpList_load_r aggW HMra.out 1 rfl rfl rfl rfl rfl ?_)
    refine (HHa.out.make (by omega) (by omega) (by omega) (by omega) op ot).mono ?_
    rintro e w2' ⟨m', v', xs', R', rfl, hh, hk, hmd⟩
    have HH2 : Hid (Hp w w2' [q, p] (A.re R') (n + 6 * (k + 1)) 6 (201000 + 600000 * (k + 1)) m' v' xs') := LH (hh.mono (by omega) (by omega))
    have HMr2 := LH (HMra.out.off hk (by simp))
    obtain ⟨sa', sc', rfl, _⟩ := hh.at_.own.cells
    obtain ⟨l', hl'⟩ : ∃ l', l' = xs'.length := ⟨_, rfl⟩
    rw [← hl'] at HH2 ⊢
    clear hh hk hmd d0 d1 d2 d3 hl'
    go_wp2_with (refine wpList_store_r aggW HMr2.out 1 rfl rfl rfl rfl rfl rfl rfl rfl ?_; intro w6 h6 ht6; have H6 := LH h6; have HT6 := LH ht6; clear h6 ht6)
    have HH6 := LH (HH2.out.own (HT6.out.wide (by simp)) HQb.out)
    refine ⟨⟨k + 1, R', m', _, xs', by omega, by omega, rfl, vint (by omega), HH6, H6⟩, ?_⟩
    simp [intOf]; omega
   ·have h0' : (ok == 0) = false := by simpa using h0
    by_cases h1k : ok = 1
    ·subst h1k
     go_wp2_with (refine wpList_load_r aggW HMra.out 1 rfl rfl rfl rfl rfl ?_)
     refine (HHa.out.lead (by omega) (by omega) oi op ot).mono ?_
     rintro e w2' ⟨R', rfl, hh, hk⟩
     have HH2 : Hid (Hp w w2' [q, p] (A.re R') (n + 6 * (k + 1)) 6 (201000 + 600000 * (k + 1)) (m.lead xs oi op ot) v xs) := LH (hh.mono (by omega) (by omega))
     have HMr2 := LH (HMra.out.off hk (by simp))
     clear hh hk d0 d1 d2 d3
     go_wp2_with fail
     refine ⟨⟨k + 1, R', _, _, xs, by omega, by omega, rfl, vint (by omega), HH2, HMr2⟩, ?_⟩
     simp [intOf]; omega
    ·have h1' : (ok == 1) = false := by simpa using h1k
     by_cases h2k : ok = 2
     ·subst h2k
      obtain ⟨t1, ht1⟩ : ∃ t1, t1 = max ot 0 := ⟨_, rfl⟩
      obtain ⟨t2, ht2⟩ : ∃ t2, t2 = min t1 12 := ⟨_, rfl⟩
      have hsz : objSize 0 (t2 * 100) ≠ 0 ∧ objSize 0 (t2 * 100) ≤ 1201 := by unfold objSize; split <;> omega
      have ht3 : 0 ≤ t2 ∧ t2 ≤ 12 := by omega
      have HAl := LH (HHa.out.alloc (by omega) (by omega) (by omega) (by omega) 0 (t2 * 100) hsz.1 (by omega))
      have HT1 := LH ht1.symm
      have HT2 := LH ht2.symm
      have c0 := HMra.out.cell 1 0 rfl rfl
      clear hsz ht1 ht2
      go_wp2_with fail
      rw [HT1.out, HT2.out, Int.mul_comm]
      refine HAl.out.mono ?_
      rintro e w2' ⟨m', R', ra, re, rfl, hh, hk, _⟩
      have HH2 : Hid (Hp w w2' [q, p] (A.re R') (n + 6 * (k + 1)) 6 (201000 + 600000 * (k + 1)) m' v xs) := LH (hh.mono (by omega) (by omega))
      have HMr2 := LH (HMra.out.off hk (by simp))
      clear hh hk d0 d1 d2 d3 c0
      go_wp2_with fail
      refine ⟨⟨k + 1, R', _, _, xs, by omega, by omega, rfl, vint (by omega), HH2, HMr2⟩, ?_⟩
      simp [intOf]; omega
     ·have h2' : (ok == 2) = false := by simpa using h2k
      go_wp2_with fail
      refine ⟨⟨k + 1, R, _, _, xs, by omega, by omega, rfl, vint (by omega), LH (HHa.out.mono (by omega) (by omega)), HMra⟩, ?_⟩
      simp [intOf]; omega
  ·have hor : (k : Int) = (mm : Int) ∨ ((k : Int) < (mm : Int) ∧ (k : Int) = 40) := by omega
   obtain ⟨sa, sc, rfl, _⟩ := HH.out.at_.own.cells
   have hN := HN.out
   have HEnd : Hid (∀ w6, Touch [q] wr w6 → Post (.returned (.tuple #[vworld A (.slice sa xs.length sc), .bool true])) w6) := LH (fun w6 ht => HP.out (A.re R) _ m _ xs w6 (((HH.out.own (ht.wide (by simp)) HQb.out).less (by simp)).mono (Nat.le_refl (n + 6 * k)) (by omega)) (by omega))
   obtain ⟨l, hl⟩ : ∃ l, l = xs.length := ⟨_, rfl⟩
   rw [← hl] at HMr HEnd
   clear hlt hl
   rcases hor with h1 | ⟨h1, h2⟩
   ·obtain rfl : k = mm := by omega
    have hlt' : decide ((k : Int) < (k : Int)) = false := by simp
    clear h1
    go_wp2_with (first
     | (refine wpList_load_r aggW HMr.out 1 rfl rfl rfl rfl rfl ?_)
     | (refine wpList_store_r aggW HMr.out 0 rfl rfl rfl rfl rfl rfl rfl rfl ?_; intro w6 h6 ht6; have H6 := LH h6; have HT6 := LH ht6; clear h6 ht6))
    refine bodyPost_ret (results_cell_row2 (p := 2) (u := 3) rfl _ _ _ _ _ _ _ rfl (H6.out.exact 0 rfl) Tryz.underlying74 rfl (by kernel_rfl)) rfl ?_
    exact HEnd.out _ HT6.out
   ·obtain rfl : k = 40 := by omega
    clear h2
    go_wp2_with (first
     | (refine wpList_load_r aggW HMr.out 1 rfl rfl rfl rfl rfl ?_)
     | (refine wpList_store_r aggW HMr.out 0 rfl rfl rfl rfl rfl rfl rfl rfl ?_; intro w6 h6 ht6; have H6 := LH h6; have HT6 := LH ht6; clear h6 ht6))
    refine bodyPost_ret (results_cell_row2 (p := 2) (u := 3) rfl _ _ _ _ _ _ _ rfl (H6.out.exact 0 rfl) Tryz.underlying74 rfl (by kernel_rfl)) rfl ?_
    exact HEnd.out _ HT6.out
theorem Cells.touchNe {w w' : World} {a : Option Addr} {vs : List Value} {q : Nat} (h : Cells w a vs) (ht : Touch [q] w w') (hne : ∀ x, a = some x → x.block ≠ q) : Cells w' a vs := by
 rcases h with h | ⟨b, off, rfl, h⟩
 ·exact .inl h
 ·exact .inr ⟨b, off, rfl, fun i v hi => cell_of_touch ht (by simpa using hne _ rfl) (h i v hi)⟩
theorem Cells.owned3 {w : World} {base e size n n' cap : Nat} {a : Option Addr} {xs : List Value} (h : w.ownsRow base e size (.slice a n' cap) n xs) : Cells w a xs := by
 rcases h.2 with ⟨h0, h1⟩ | ⟨g, c, cur, hv, hb, hg, _, _, _, h4⟩
 ·subst h1
  exact .inl (List.length_eq_zero_iff.1 (by rw [h.1, Nat.zero_mul]))
 ·simp at hv
  obtain ⟨rfl, _⟩ := hv
  refine .inr ⟨g, 0, rfl, fun i v hi => ?_⟩
  have hr : RowAt w g e xs := ⟨cur, hg, cur.toList.drop (n * size), by rw [← h4, List.take_append_drop]⟩
  rw [Nat.zero_add]
  exact hr.cell hi
theorem owned_lt {w : World} {base e size n n' c : Nat} {a : Option Addr} {xs : List Value} (h : w.ownsRow base e size (.slice a n' c) n xs) (x : Addr) (hx : a = some x) : x.block < w.heap.size := by
 rcases h.2 with ⟨h0, _⟩ | ⟨g, cap, cur, hv, hb, hg, _⟩
 ·simp at h0; rw [h0.1] at hx; cases hx
 ·simp at hv; rw [hv.1] at hx; cases hx; exact (Array.getElem?_eq_some_iff.1 hg).1
end Go.Proofs.YtbimcogdbafjpaaGreat
namespace Go.Proofs.YtbimcogdbafjpaaGreat
section
variable {P : Program} {ops : Array Oper} {md : Region.Mode} {C : World → Prop} {Q : Exit → Act → World → Prop} {ex : List Nat}
end
end Go.Proofs.YtbimcogdbafjpaaGreat
namespace Go.Proofs.YtbimcogdbafjpaaGreat
open Go.RowKit Go.Maps
def obOf (m : Al) (a : Nat) : Ob := ⟨a, (headN m.bm.dev (a : Int)).p, (headN m.bm.dev (a : Int)).d⟩
theorem obOf_placed {B : Nat} {m : Al} (h : AlOk B m) {a : Nat} (hu : m.used.getD a false = true) : placedN m.bm.dev m.bm.list (a : Int) = some ⟨(obOf m a).p, (obOf m a).d, 0⟩ := by
 obtain ⟨o, ho⟩ := Option.isSome_iff_exists.1 (h.placed a hu)
 obtain ⟨h1, h2, _⟩ := placed_head ho
 rw [ho]
 unfold obOf
 rw [h1]
 obtain ⟨p, d, c⟩ := o
 dsimp only at h2
 subst h2
 rfl
end Go.Proofs.YtbimcogdbafjpaaGreat
namespace Go.Proofs.YtbimcogdbafjpaaGreat
variable {B : Nat} {m : Al}
end Go.Proofs.YtbimcogdbafjpaaGreat
namespace Go.Proofs.YtbimcogdbafjpaaGreat
open Go.RowKit
def numC (m : Al) (k : Nat) : Nat := (m.fl.all k).length
theorem count_len {x y : List Nat} (h : ∀ a, x.count a = y.count a) : x.length = y.length := (List.perm_iff_count.2 h).length_eq
theorem numC_list {m : Al} {k : Nat} {ys : List Nat} (h : ∀ a, ys.count a = m.fl.cnt k a) : ys.length = numC m k := count_len (fun a => by rw [h, FL.all_count])
theorem numC_free {B : Nat} {m : Al} (h : AlOk B m) {k : Nat} (hk : k < 32) (hB : 1 ≤ B) : (freeTo (fun a => m.used.getD a false) m.bm.list k (B - 1)).length = numC m k := by
 have hL : ∀ b, b < m.bm.list.length → (m.bm.list.getD b default).k = 1 → (m.bm.list.getD b default).l = 0 := fun b hb h1 => by
  have hr := of_decide_eq_true (h.bm.right b (by rw [← h.bm.lenL]; exact hb))
  unfold HdRight at hr
  omega
 refine numC_list (fun x => ?_)
 rw [h.cells k x hk, freeTo_count hk hL x _ (by rw [h.bm.lenL]; omega)]
 congr 1
 refine propext ⟨fun ⟨h1, h2, _⟩ => ⟨h1, h2⟩, fun ⟨h1, h2⟩ => ⟨h1, h2, ?_⟩⟩
 have := h1.2.1
 rw [h.bm.lenL] at this
 omega
theorem numC_le {B : Nat} {m : Al} (h : AlOk B m) {k : Nat} (hk : k < 32) (hB : 1 ≤ B) : numC m k ≤ 256 * (B - 1) := by
 rw [← numC_free h hk hB]; exact freeTo_len hk _
theorem objBlocks_33 {n : Nat} (h : n ≤ 16448) : objBlocks n ≤ 33 := by unfold objBlocks; split <;> omega
section
variable {B : Nat} {m : Al}
end
def cntB (L : List Hd) (k : Nat) : Nat → Nat
 | 0 => 0
 | n + 1 => cntB L k n + if isSm L k (n + 1) then 1 else 0
theorem cntB_le (L : List Hd) (k : Nat) : ∀ n, cntB L k n ≤ n
 | 0 => Nat.le_refl _
 | n + 1 => by unfold cntB; have := cntB_le L k n; split <;> omega
theorem cntB_mono (L : List Hd) (k : Nat) {n j : Nat} (h : n ≤ j) : cntB L k n ≤ cntB L k j := by
  induction j with
  | zero => obtain rfl : n = 0 := by omega
            exact Nat.le_refl _
  | succ j ih =>
    by_cases e : n = j + 1
    · subst e; exact Nat.le_refl _
    · have := ih (by omega)
      show _ ≤ cntB L k j + _
      omega
def szN (S : Dev) (a : Nat) : Nat := objSize (headN S (a : Int)).p (headN S (a : Int)).d
def isK (S : Dev) (k a : Nat) : Bool := decide (small (szN S a)) && decide (ofN (szN S a : Nat) = k)
def cntO (S : Dev) (k : Nat) : List Nat → Nat
 | [] => 0
 | a :: l => cntO S k l + if isK S k a then 1 else 0
def wrdO (S : Dev) (k : Nat) : List Nat → Nat
 | [] => 0
 | a :: l => wrdO S k l + if isK S k a then szN S a else 0
theorem cntO_snoc (S : Dev) (k a : Nat) : ∀ l, cntO S k (l ++ [a]) = cntO S k l + if isK S k a then 1 else 0
 | [] => by show 0 + _ = 0 + _; rfl
 | x :: l => by show cntO S k (l ++ [a]) + _ = cntO S k l + _ + _; rw [cntO_snoc S k a l]; omega
theorem wrdO_snoc (S : Dev) (k a : Nat) : ∀ l, wrdO S k (l ++ [a]) = wrdO S k l + if isK S k a then szN S a else 0
 | [] => by show 0 + _ = 0 + _; rfl
 | x :: l => by show wrdO S k (l ++ [a]) + _ = wrdO S k l + _ + _; rw [wrdO_snoc S k a l]; omega
theorem cntO_le (S : Dev) (k : Nat) : ∀ l : List Nat, cntO S k l ≤ l.length
 | [] => Nat.le_refl _
 | a :: l => by show cntO S k l + _ ≤ l.length + 1; have := cntO_le S k l; split <;> omega
theorem wrdO_le (S : Dev) (k : Nat) : ∀ l : List Nat, wrdO S k l ≤ 256 * l.length
 | [] => Nat.le_refl _
 | a :: l => by
  show wrdO S k l + _ ≤ 256 * (l.length + 1)
  have := wrdO_le S k l
  split
  ·next h =>
   unfold isK at h
   rw [Bool.and_eq_true, decide_eq_true_iff] at h
   have := h.1.2
   omega
  ·omega
theorem szN_le (S : Dev) (a : Nat) : szN S a ≤ 16448 := objSize_le _ _
def larO (S : Dev) : List Nat → Nat × Nat × Nat
 | [] => (0, 0, 0)
 | a :: l => if 0 < objBlocks (szN S a) then ((larO S l).1 + 1, (larO S l).2.1 + objBlocks (szN S a), (larO S l).2.2 + szN S a) else larO S l
theorem larO_snoc (S : Dev) (a : Nat) : ∀ l, larO S (l ++ [a]) = if 0 < objBlocks (szN S a) then ((larO S l).1 + 1, (larO S l).2.1 + objBlocks (szN S a), (larO S l).2.2 + szN S a) else larO S l
 | [] => rfl
 | x :: l => by
  rw [List.cons_append]
  simp only [larO]
  rw [larO_snoc S a l]
  by_cases h1 : 0 < objBlocks (szN S a) <;> by_cases h2 : 0 < objBlocks (szN S x)
  ·simp only [if_pos h1, if_pos h2]
   refine Prod.ext ?_ (Prod.ext ?_ ?_)
   ·show (larO S l).1 + 1 + 1 = (larO S l).1 + 1 + 1
    rfl
   ·show (larO S l).2.1 + objBlocks (szN S a) + objBlocks (szN S x) = (larO S l).2.1 + objBlocks (szN S x) + objBlocks (szN S a)
    omega
   ·show (larO S l).2.2 + szN S a + szN S x = (larO S l).2.2 + szN S x + szN S a
    omega
  ·simp only [if_pos h1, if_neg h2]
  ·simp only [if_neg h1, if_pos h2]
  ·simp only [if_neg h1, if_neg h2]
theorem larO_le (S : Dev) : ∀ l : List Nat, (larO S l).1 ≤ l.length ∧ (larO S l).2.1 ≤ 33 * l.length ∧ (larO S l).2.2 ≤ 16448 * l.length
 | [] => ⟨Nat.le_refl _, Nat.le_refl _, Nat.le_refl _⟩
 | a :: l => by
  obtain ⟨h1, h2, h3⟩ := larO_le S l
  have h4 := objBlocks_33 (szN_le S a)
  have h5 := szN_le S a
  simp only [larO, List.length_cons]
  split
  ·exact ⟨by show _ + 1 ≤ _; omega, by show _ + _ ≤ _; omega, by show _ + _ ≤ _; omega⟩
  ·exact ⟨by omega, by omega, by omega⟩
structure Rw where
 k : Nat
 b : Nat
 o : Nat
 f : Nat
 w : Nat
def Rw.cs (r : Rw) : List Value := [.int .i64 (r.k : Int), .int .i64 (r.b : Int), .int .i64 (r.o : Int), .int .i64 (r.f : Int), .int .i64 (r.w : Int)]
theorem Rw.len (r : Rw) : r.cs.length = 5 := rfl
def rowK (m : Al) (B k : Nat) : Rw := ⟨k, cntB m.bm.list k (B - 1), cntO m.bm.dev k (onesL m.used), (freeTo (fun y => (onesL m.used).contains y) m.bm.list k (B - 1)).length, wrdO m.bm.dev k (onesL m.used)⟩
def rowsTo (m : Al) (B : Nat) : Nat → List Rw
 | 0 => []
 | n + 1 => rowsTo m B n ++ if 0 < cntB m.bm.list n (B - 1) then [rowK m B n] else []
theorem rowsTo_len (m : Al) (B : Nat) : ∀ n, (rowsTo m B n).length ≤ n
 | 0 => Nat.le_refl _
 | n + 1 => by unfold rowsTo; have := rowsTo_len m B n; rw [List.length_append]; split <;> simp <;> omega
theorem rowsTo_mem {m : Al} {B : Nat} {r : Rw} : ∀ {n}, r ∈ rowsTo m B n → ∃ k, k < n ∧ r = rowK m B k ∧ 0 < cntB m.bm.list k (B - 1)
 | 0, h => by cases h
 | n + 1, h => by
  unfold rowsTo at h
  rcases List.mem_append.1 h with h | h
  ·obtain ⟨k, h1, h2⟩ := rowsTo_mem h; exact ⟨k, by omega, h2⟩
  ·split at h
   ·next c => exact ⟨n, by omega, by simpa using h, c⟩
   ·cases h
def sumB5 (l : List Rw) : Nat := (l.map Rw.b).sum
def sumW5 (l : List Rw) : Nat := (l.map Rw.w).sum
theorem sumB5_snoc (l : List Rw) (r : Rw) : sumB5 (l ++ [r]) = sumB5 l + r.b := by unfold sumB5; simp
theorem sumW5_snoc (l : List Rw) (r : Rw) : sumW5 (l ++ [r]) = sumW5 l + r.w := by unfold sumW5; simp
theorem cls_block {B : Nat} {m : Al} (h : AlOk B m) {a : Nat} (hu : m.used.getD a false = true) (hs : small (szN m.bm.dev a)) : 0 < cntB m.bm.list (ofN (szN m.bm.dev a : Nat)) (B - 1) := by
 have hp := obOf_placed h hu
 have hk := ofN_lt hs
 unfold placedN at hp
 split at hp
 ·cases hp
 ·rw [if_pos (show small (objSize (headN m.bm.dev (a : Int)).p (headN m.bm.dev (a : Int)).d) from hs)] at hp
  split at hp
  ·next hc =>
   rw [Int.toNat_natCast] at hc
   have hc' : isCell m.bm.list (ofN (szN m.bm.dev a : Nat)) a := hc
   have h1 := hc'.1
   have h2 := hc'.2.1
   have h3 := hc'.2.2.1
   rw [h.bm.lenL] at h2
   obtain ⟨b, hb⟩ : ∃ b, a / 512 = b + 1 := ⟨a / 512 - 1, by omega⟩
   have hm := cntB_mono m.bm.list (ofN (szN m.bm.dev a : Nat)) (n := b + 1) (j := B - 1) (by omega)
   have hsm : isSm m.bm.list (ofN (szN m.bm.dev a : Nat)) (b + 1) = true := by
    unfold isSm
    rw [hb] at h3
    rw [h3]; simp
   have : cntB m.bm.list (ofN (szN m.bm.dev a : Nat)) (b + 1) = cntB m.bm.list (ofN (szN m.bm.dev a : Nat)) b + 1 := by
    show _ + (if _ then 1 else 0) = _
    rw [if_pos hsm]
   omega
  ·cases hp
end Go.Proofs.YtbimcogdbafjpaaGreat
namespace Go.Proofs.YtbimcogdbafjpaaGreat
open Go.RowKit Go.Maps
theorem clsCells_256 {k : Nat} (hk : k < 32) : clsCells (k : Int) ≤ 256 := by
 have hcp := clsWords_pos (k : Int) (by omega)
 unfold clsCells
 have := Nat.div_le_div_left (c := 2) (b := clsWords (k : Int)) (a := 512) hcp (by decide)
 omega
theorem keyed_sk : Keyed Tryz.prog 200 := Keyed.of_law (deep_law_laid (by kernel_rfl) (m := 2) (by omega) (of_decide_eq_true (by kernel_rfl)) (by kernel_rfl) (by rw [Tryz.underlying200]))
theorem ctSk : Tryz.prog.cellsOf 200 = 1 := by kernel_rfl
theorem ktSk : Tryz.prog.keyType 200 = true := by kernel_rfl
def oneKey (k : Int) : Lit := .string (keyBytes [.int .i64 k])
theorem key_one (k : Int) (hk : (Lit.int .i64 k).wf = true) : keyOf Tryz.prog 200 (.agg #[.int .i64 k]) = some (oneKey k) := by
 have h3 : (Value.agg #[.int .i64 k]).formed Tryz.prog 200 = true := by simp [Value.formed, Tryz.underlying200, ctSk]
 obtain ⟨z, hz⟩ := tsSlot
 unfold keyOf oneKey
 rw [Tryz.underlying200]
 simp only
 rw [ktSk, h3, if_pos (by rfl), hz]
 unfold Program.keyLits
 simp only [Tryz.underlying200, ctSk, Value.cells]
 rw [if_pos (show [Value.int IntKind.i64 k].length = 1 from rfl)]
 simp [Program.keyLits, Tryz.underlying3, ciSlot, hk, List.range_succ]
theorem one_inj {k j : Nat} (hk : k < 1000) (hj : j < 1000) (h : oneKey (k : Int) = oneKey (j : Int)) : k = j := by
 have h1 := key_one (k : Int) (wf_small k hk)
 rw [h] at h1
 have := keyed_sk.inj h1 (key_one (j : Int) (wf_small j hj))
 simp only [Value.agg.injEq] at this
 have e := congrArg Array.toList this
 simp at e
 omega
abbrev rwV (r : Rw) : Value := .agg #[.int .i64 (r.k : Int), .int .i64 (r.b : Int), .int .i64 (r.o : Int), .int .i64 (r.f : Int), .int .i64 (r.w : Int)]
def rw0 : Rw := ⟨0, 0, 0, 0, 0⟩
def RowM (M : Lit → Option Value) (f : Nat → Option Rw) : Prop := ∀ k : Nat, k < 32 → M (oneKey (k : Int)) = (f k).map rwV
theorem RowM.put {M : Lit → Option Value} {f g : Nat → Option Rw} (h : RowM M f) {c : Nat} (hc : c < 32) (r : Rw) (hg : ∀ k, k < 32 → g k = if k = c then some r else f k) : RowM (putL M (oneKey (c : Int)) (some (rwV r))) g := fun k hk => by
 rw [hg k hk]
 by_cases e : k = c
 ·subst e; rw [putL_same, if_pos rfl]; rfl
 ·rw [putL_other _ (fun h => e (one_inj (by omega) (by omega) h)), if_neg e]; exact h k hk
theorem RowM.same {M : Lit → Option Value} {f g : Nat → Option Rw} (h : RowM M f) (hg : ∀ k, k < 32 → g k = f k) : RowM M g := fun k hk => by rw [hg k hk]; exact h k hk
theorem RowM.get {M : Lit → Option Value} {f : Nat → Option Rw} (h : RowM M f) {c : Nat} (hc : c < 32) : (M (oneKey (c : Int))).getD (.agg #[.int .i64 0, .int .i64 0, .int .i64 0, .int .i64 0, .int .i64 0]) = rwV ((f c).getD rw0) := by
 rw [h c hc]
 cases f c <;> rfl
theorem RowM.has {M : Lit → Option Value} {f : Nat → Option Rw} (h : RowM M f) {c : Nat} (hc : c < 32) : (M (oneKey (c : Int))).isSome = (f c).isSome := by
 rw [h c hc]
 cases f c <;> rfl
def rows1 (L : List Hd) (n k : Nat) : Option Rw := if 0 < cntB L k n then some ⟨k, cntB L k n, 0, 0, 0⟩ else none
theorem rows1_skip {L : List Hd} {n : Nat} (h : (L.getD (n + 1) default).k ≠ 1) (k : Nat) : rows1 L (n + 1) k = rows1 L n k := by
 have : cntB L k (n + 1) = cntB L k n := by
  show _ + (if isSm L k (n + 1) then 1 else 0) = _
  rw [if_neg (by unfold isSm; rw [decide_eq_false h]; simp)]; rfl
 unfold rows1
 rw [this]
theorem rows1_get (L : List Hd) (n k : Nat) : ((rows1 L n k).getD rw0).b = cntB L k n ∧ ((rows1 L n k).getD rw0).o = 0 ∧ ((rows1 L n k).getD rw0).f = 0 ∧ ((rows1 L n k).getD rw0).w = 0 := by
 unfold rows1
 by_cases h : 0 < cntB L k n
 ·rw [if_pos h]; exact ⟨rfl, rfl, rfl, rfl⟩
 ·rw [if_neg h]; exact ⟨by show 0 = _; omega, rfl, rfl, rfl⟩
theorem rows1_step {L : List Hd} {n c : Nat} (h1 : (L.getD (n + 1) default).k = 1) (hc : (L.getD (n + 1) default).c = (c : Int)) (k : Nat) : rows1 L (n + 1) k = if k = c then some ⟨c, cntB L c n + 1, 0, 0, 0⟩ else rows1 L n k := by
 have hs : isSm L k (n + 1) = decide (k = c) := by
  unfold isSm
  rw [h1, hc]
  by_cases e : k = c
  ·subst e; simp
  ·simp [e]; omega
 have hn : cntB L k (n + 1) = cntB L k n + if k = c then 1 else 0 := by
  show _ + (if isSm L k (n + 1) then 1 else 0) = _
  rw [hs]; simp
 unfold rows1
 rw [hn]
 by_cases e : k = c
 ·subst e; rw [if_pos rfl, if_pos (by omega), if_pos rfl]
 ·rw [if_neg e, if_neg e, Nat.add_zero]
def rows2 (m : Al) (B : Nat) (l : List Nat) (k : Nat) : Option Rw := if 0 < cntB m.bm.list k (B - 1) then some ⟨k, cntB m.bm.list k (B - 1), cntO m.bm.dev k l, 0, wrdO m.bm.dev k l⟩ else none
theorem rows2_skip {m : Al} {B : Nat} {l : List Nat} {a : Nat} (h : ¬ small (szN m.bm.dev a)) (k : Nat) : rows2 m B (l ++ [a]) k = rows2 m B l k := by
 have hk : isK m.bm.dev k a = false := by unfold isK; simp [h]
 unfold rows2
 rw [cntO_snoc, wrdO_snoc, hk]; rfl
theorem rows2_step {B : Nat} {m : Al} (hok : AlOk B m) {l : List Nat} {a : Nat} (hu : m.used.getD a false = true) (hs : small (szN m.bm.dev a)) {c : Nat} (hc : ofN (szN m.bm.dev a : Nat) = c) :
  (rows2 m B l c).getD rw0 = ⟨c, cntB m.bm.list c (B - 1), cntO m.bm.dev c l, 0, wrdO m.bm.dev c l⟩ ∧
  ∀ k, rows2 m B (l ++ [a]) k = if k = c then some ⟨c, cntB m.bm.list c (B - 1), cntO m.bm.dev c l + 1, 0, wrdO m.bm.dev c l + szN m.bm.dev a⟩ else rows2 m B l k := by
 have hb := cls_block hok hu hs
 rw [hc] at hb
 refine ⟨by unfold rows2; rw [if_pos hb]; rfl, fun k => ?_⟩
 have hk : isK m.bm.dev k a = decide (k = c) := by
  unfold isK
  rw [hc]
  by_cases e : k = c
  ·subst e; simp [hs]
  ·simp [hs, e]; omega
 unfold rows2
 rw [cntO_snoc, wrdO_snoc, hk]
 by_cases e : k = c
 ·subst e; rw [if_pos rfl, if_pos hb]; simp
 ·rw [if_neg e]; simp [e]
theorem aggRw : Agg Tryz.prog 84 #[.int .i64 0, .int .i64 0, .int .i64 0, .int .i64 0, .int .i64 0] := ⟨⟨_, Tryz.underlying84, rfl⟩, by kernel_rfl⟩
theorem elRw : Elem Tryz.prog 79 84 (.agg #[.int .i64 0, .int .i64 0, .int .i64 0, .int .i64 0, .int .i64 0]) 5 40 := Elem.mk' Tryz.underlying79 (by kernel_rfl) rfl (by decide)
theorem zero_rw (w : World) : (zeroValue 84).run Tryz.prog w = .ok (.agg #[.int .i64 0, .int .i64 0, .int .i64 0, .int .i64 0, .int .i64 0]) w := Tryz.zeroValue84 w
def RowsPost (t : Nat) (l : List Rw) (w : World) : Ending → World → Prop := fun e w' => ∃ v, e = .returned v ∧ w'.ownsRow w.heap.size t 5 v l.length (recs Rw.cs l) ∧ Below w.heap.size w w'
end Go.Proofs.YtbimcogdbafjpaaGreat
namespace Go.Proofs.YtbimcogdbafjpaaGreat
section
variable {U : List Bool} {P : Nat → List Nat} {hs hk hs' : List Bool} {at_ : Nat} {open_ : List Nat}
end
def tallyN (deg : Nat → Nat) (pre : List Nat) (n : Nat) : Nat := (pre.filter (fun x => deg x == n)).length
def topL (deg : Nat → Nat) (pre : List Nat) : Nat := pre.foldl (fun n x => max n (deg x + 1)) 0
def tallyL (deg : Nat → Nat) (pre : List Nat) : List Nat := (List.range (topL deg pre)).map (tallyN deg pre)
theorem topL_snoc (deg : Nat → Nat) (pre : List Nat) (x : Nat) : topL deg (pre ++ [x]) = max (topL deg pre) (deg x + 1) := by unfold topL; simp
theorem tallyN_snoc (deg : Nat → Nat) (pre : List Nat) (x n : Nat) : tallyN deg (pre ++ [x]) n = tallyN deg pre n + if n = deg x then 1 else 0 := by
 unfold tallyN
 rw [List.filter_append, List.length_append]
 by_cases h : deg x = n
 ·subst h; simp
 ·have h' : ¬ n = deg x := fun e => h e.symm
  simp [h, h']
theorem foldl_top (deg : Nat → Nat) : ∀ (pre : List Nat) (k : Nat), k ≤ pre.foldl (fun n x => max n (deg x + 1)) k ∧ (∀ x ∈ pre, deg x < pre.foldl (fun n x => max n (deg x + 1)) k) ∧ (pre.foldl (fun n x => max n (deg x + 1)) k = k ∨ ∃ x ∈ pre, pre.foldl (fun n x => max n (deg x + 1)) k = deg x + 1)
 | [], k => ⟨Nat.le_refl _, by simp, .inl rfl⟩
 | a :: pre, k => by
  obtain ⟨h1, h2, h3⟩ := foldl_top deg pre (max k (deg a + 1))
  rw [List.foldl_cons]
  refine ⟨by omega, fun x hx => ?_, ?_⟩
  ·rcases List.mem_cons.1 hx with rfl | hx
   ·omega
   ·exact h2 x hx
  ·rcases h3 with h3 | ⟨x, hx, h3⟩
   ·by_cases c : k ≤ deg a + 1
    ·exact .inr ⟨a, List.mem_cons_self, by omega⟩
    ·exact .inl (by omega)
   ·exact .inr ⟨x, List.mem_cons_of_mem _ hx, h3⟩
theorem topL_mem (deg : Nat → Nat) (pre : List Nat) : ∀ x ∈ pre, deg x < topL deg pre := (foldl_top deg pre 0).2.1
theorem topL_is (deg : Nat → Nat) (pre : List Nat) : topL deg pre = 0 ∨ ∃ x ∈ pre, topL deg pre = deg x + 1 := (foldl_top deg pre 0).2.2
theorem tallyL_length (deg : Nat → Nat) (pre : List Nat) : (tallyL deg pre).length = topL deg pre := by simp [tallyL]
theorem tallyL_getD (deg : Nat → Nat) (pre : List Nat) {n : Nat} (h : n < topL deg pre) : (tallyL deg pre).getD n 0 = tallyN deg pre n := by
 unfold tallyL
 rw [List.getD_eq_getElem?_getD, List.getElem?_map, List.getElem?_range h]; rfl
theorem tallyN_out (deg : Nat → Nat) (pre : List Nat) {n : Nat} (h : topL deg pre ≤ n) : tallyN deg pre n = 0 := by
 unfold tallyN
 rw [List.length_eq_zero_iff, List.filter_eq_nil_iff]
 intro x hx
 have := topL_mem deg pre x hx
 simp
 omega
def padL (l : List Nat) (n : Nat) : List Nat := l ++ List.replicate (n - l.length) 0
theorem padL_step {l : List Nat} {n k : Nat} (h : k < n) (hk : l.length ≤ k) : padL l k ++ [0] = padL l (k + 1) := by
 unfold padL
 rw [List.append_assoc, ← List.replicate_succ', show k + 1 - l.length = (k - l.length) + 1 by omega]
theorem padL_length {l : List Nat} {k : Nat} : (padL l k).length = max l.length k := by simp [padL]; omega
theorem padL_self (l : List Nat) : padL l l.length = l := by simp [padL]
theorem padL_short {l : List Nat} {k : Nat} (h : k ≤ l.length) : padL l k = l := by unfold padL; rw [show k - l.length = 0 by omega]; simp
theorem padL_getD (l : List Nat) (k n : Nat) : (padL l k).getD n 0 = l.getD n 0 := by
 unfold padL
 by_cases h : n < l.length
 ·rw [List.getD_eq_getElem?_getD, List.getElem?_append_left h, ← List.getD_eq_getElem?_getD]
 ·rw [List.getD_eq_getElem?_getD, List.getElem?_append_right (by omega), List.getElem?_replicate, List.getD_eq_getElem?_getD, List.getElem?_eq_none (by omega)]
  split <;> rfl
theorem tallyL_snoc (deg : Nat → Nat) (pre : List Nat) (x : Nat) : tallyL deg (pre ++ [x]) = (padL (tallyL deg pre) (deg x + 1)).set (deg x) ((padL (tallyL deg pre) (deg x + 1)).getD (deg x) 0 + 1) := by
 have hl : (padL (tallyL deg pre) (deg x + 1)).length = topL deg (pre ++ [x]) := by rw [padL_length, tallyL_length, topL_snoc]
 refine List.ext_getElem? fun n => ?_
 by_cases hn : n < topL deg (pre ++ [x])
 ·have e1 : (tallyL deg (pre ++ [x]))[n]? = some (tallyN deg (pre ++ [x]) n) := by
   unfold tallyL
   rw [List.getElem?_map, List.getElem?_range hn]; rfl
  have key : ∀ n, (padL (tallyL deg pre) (deg x + 1)).getD n 0 = tallyN deg pre n := fun n => by
   rw [padL_getD]
   by_cases h : n < topL deg pre
   ·exact tallyL_getD deg pre h
   ·rw [tallyN_out deg pre (by omega), List.getD_eq_getElem?_getD, List.getElem?_eq_none (by rw [tallyL_length]; omega)]; rfl
  rw [e1, tallyN_snoc, List.getElem?_set, key]
  by_cases e : deg x = n
  ·subst e
   rw [if_pos rfl, if_pos rfl, if_pos (by rw [hl]; exact hn)]
  ·rw [if_neg (fun h => e h.symm), if_neg e, ← key n, List.getD_eq_getElem?_getD, List.getElem?_eq_getElem (by rw [hl]; exact hn)]
   rfl
 ·rw [List.getElem?_eq_none (by rw [tallyL_length]; omega), List.getElem?_eq_none (by rw [List.length_set, hl]; omega)]
def takeNew (ok : Nat → Bool) : List Nat → List Nat → List Nat × List Nat
 | seen, [] => (seen, [])
 | seen, x :: l => if ok x && !seen.contains x then let r := takeNew ok (seen ++ [x]) l; (r.1, x :: r.2) else takeNew ok seen l
theorem takeNew_cons (ok : Nat → Bool) (x : Nat) (l seen : List Nat) : takeNew ok seen (x :: l) = if ok x && !seen.contains x then ((takeNew ok (seen ++ [x]) l).1, x :: (takeNew ok (seen ++ [x]) l).2) else takeNew ok seen l := rfl
theorem takeNew_fst (ok : Nat → Bool) : ∀ (l seen : List Nat), (takeNew ok seen l).1 = seen ++ (takeNew ok seen l).2
 | [], seen => by simp [takeNew]
 | x :: l, seen => by
  unfold takeNew
  split
  ·dsimp only
   rw [takeNew_fst ok l (seen ++ [x])]; simp
  ·exact takeNew_fst ok l seen
theorem takeNew_append (ok : Nat → Bool) : ∀ (l k seen : List Nat), takeNew ok seen (l ++ k) = ((takeNew ok (takeNew ok seen l).1 k).1, (takeNew ok seen l).2 ++ (takeNew ok (takeNew ok seen l).1 k).2)
 | [], k, seen => by simp [takeNew]
 | x :: l, k, seen => by
  rw [List.cons_append, takeNew_cons, takeNew_cons]
  by_cases h : (ok x && !seen.contains x) = true
  ·rw [if_pos h, if_pos h, takeNew_append ok l k (seen ++ [x])]; rfl
  ·rw [if_neg h, if_neg h, takeNew_append ok l k seen]
theorem takeNew_one (ok : Nat → Bool) (seen : List Nat) (x : Nat) : takeNew ok seen [x] = if ok x && !seen.contains x then (seen ++ [x], [x]) else (seen, []) := by
 simp only [takeNew]
def levels (ok : Nat → Bool) (P : Nat → List Nat) : Nat → List Nat × List Nat → List Nat × List Nat
 | 0, s => s
 | n + 1, s => let t := levels ok P n s; takeNew ok t.1 (t.2.flatMap P)
theorem levels_succ (ok : Nat → Bool) (P : Nat → List Nat) (n : Nat) (s : List Nat × List Nat) : levels ok P (n + 1) s = takeNew ok (levels ok P n s).1 ((levels ok P n s).2.flatMap P) := rfl
theorem takeNew_in (ok : Nat → Bool) : ∀ (l seen : List Nat), ∀ x ∈ (takeNew ok seen l).2, ok x = true ∧ x ∉ seen
 | [], seen => by simp [takeNew]
 | y :: l, seen => by
  intro x hx
  unfold takeNew at hx
  split at hx
  ·next h =>
   simp only [Bool.and_eq_true, Bool.not_eq_true', List.contains_iff_mem, ← Bool.not_eq_true] at h
   rcases List.mem_cons.1 hx with rfl | hx
   ·exact h
   ·obtain ⟨h1, h2⟩ := takeNew_in ok l (seen ++ [y]) x hx
    exact ⟨h1, fun c => h2 (List.mem_append_left _ c)⟩
  ·exact takeNew_in ok l seen x hx
theorem takeNew_nodup (ok : Nat → Bool) : ∀ (l seen : List Nat), seen.Nodup → (takeNew ok seen l).1.Nodup
 | [], seen, h => by simpa [takeNew] using h
 | y :: l, seen, h => by
  unfold takeNew
  split
  ·next hc =>
   simp only [Bool.and_eq_true, Bool.not_eq_true', List.contains_iff_mem, ← Bool.not_eq_true] at hc
   refine takeNew_nodup ok l (seen ++ [y]) ?_
   rw [List.nodup_append]
   exact ⟨h, by simp, fun a ha b hb => by simp at hb; subst hb; exact fun e => hc.2 (e ▸ ha)⟩
  ·exact takeNew_nodup ok l seen h
def CntOk (U : List Bool) (l : List Nat) (C : Int → Option Int) : Prop := ∀ y : Nat, U.getD y false = true → (C (y : Int)).getD 0 = ((l.count y : Nat) : Int)
theorem CntOk.nil (U : List Bool) : CntOk U [] (fun _ => none) := fun y _ => rfl
theorem CntOk.one {U : List Bool} {l : List Nat} {C : Int → Option Int} (h : CntOk U l C) {x : Nat} (hx : U.getD x false = true) : CntOk U (l ++ [x]) (fun z => if z = (x : Int) then some ((C (x : Int)).getD 0 + 1) else C z) := by
 intro y hy
 dsimp only
 by_cases e : y = x
 ·subst e
  rw [if_pos rfl, h y hy, List.count_append]; simp
 ·rw [if_neg (by omega), h y hy, List.count_append]
  have : List.count y [x] = 0 := List.count_eq_zero.2 (by simpa using e)
  rw [this]; rfl
theorem CntOk.skip {U : List Bool} {l : List Nat} {C : Int → Option Int} (h : CntOk U l C) {x : Nat} (hx : U.getD x false = false) : CntOk U (l ++ [x]) C := by
 intro y hy
 rw [h y hy, List.count_append]
 have : List.count y [x] = 0 := List.count_eq_zero.2 (by simp; intro e; subst e; rw [hx] at hy; cases hy)
 rw [this]; rfl
def degOf (P : Nat → List Nat) (xs : List Nat) (y : Nat) : Nat := (xs.flatMap P).count y
theorem flat_take (P : Nat → List Nat) (xs : List Nat) (k x : Nat) (hx : xs[k]? = some x) : (xs.take (k + 1)).flatMap P = (xs.take k).flatMap P ++ P x := by
 have h1 := (List.getElem?_eq_some_iff.1 hx).1
 rw [List.take_succ_eq_append_getElem h1, (List.getElem?_eq_some_iff.1 hx).2, List.flatMap_append]
 simp
theorem take_one {l : List Nat} {k x : Nat} (hx : l[k]? = some x) : l.take (k + 1) = l.take k ++ [x] := by
 have h1 := (List.getElem?_eq_some_iff.1 hx).1
 rw [List.take_succ_eq_append_getElem h1, (List.getElem?_eq_some_iff.1 hx).2]
theorem takeNew_take (ok : Nat → Bool) (seen l : List Nat) (k x : Nat) (hx : l[k]? = some x) :
  takeNew ok seen (l.take (k + 1)) = if ok x && !(takeNew ok seen (l.take k)).1.contains x then ((takeNew ok seen (l.take k)).1 ++ [x], (takeNew ok seen (l.take k)).2 ++ [x]) else takeNew ok seen (l.take k) := by
 rw [take_one hx, takeNew_append, takeNew_one]
 split
 ·rfl
 ·simp
theorem takeNew_ok (ok : Nat → Bool) (l seen : List Nat) (h : ∀ x ∈ seen, ok x = true) : ∀ x ∈ (takeNew ok seen l).1, ok x = true := by
 intro x hx
 rw [takeNew_fst] at hx
 rcases List.mem_append.1 hx with c | c
 ·exact h x c
 ·exact (takeNew_in ok l seen x c).1
structure LvOk (ok : Nat → Bool) (s : List Nat × List Nat) : Prop where
 nd : s.1.Nodup
 ok : ∀ x ∈ s.1, ok x = true
 sub : ∀ x ∈ s.2, x ∈ s.1
theorem LvOk.first (ok : Nat → Bool) (l : List Nat) : LvOk ok (takeNew ok [] l) :=
 ⟨takeNew_nodup ok l [] List.nodup_nil, takeNew_ok ok l [] (by simp), fun x hx => by rw [takeNew_fst]; exact List.mem_append_right _ hx⟩
theorem LvOk.next {ok : Nat → Bool} {s : List Nat × List Nat} (h : LvOk ok s) (l : List Nat) : LvOk ok (takeNew ok s.1 l) :=
 ⟨takeNew_nodup ok l _ h.nd, takeNew_ok ok l _ h.ok, fun x hx => by rw [takeNew_fst]; exact List.mem_append_right _ hx⟩
theorem LvOk.levels {ok : Nat → Bool} {P : Nat → List Nat} {s : List Nat × List Nat} (h : LvOk ok s) : ∀ n, LvOk ok (levels ok P n s)
 | 0 => h
 | n + 1 => (LvOk.levels h n).next _
theorem LvOk.len {U : List Bool} {s : List Nat × List Nat} (h : LvOk (fun x => U.getD x false) s) : s.1.length ≤ U.length := nodup_len _ _ (fun x hx => getD_true_lt (h.ok x hx)) (nodup_count h.nd)
theorem takeNew_len (ok : Nat → Bool) (seen l : List Nat) : (takeNew ok seen l).1.length = seen.length + (takeNew ok seen l).2.length := by rw [takeNew_fst, List.length_append]
theorem takeNew_le (ok : Nat → Bool) : ∀ (l seen : List Nat), (takeNew ok seen l).2.length ≤ l.length
 | [], seen => by simp [takeNew]
 | x :: l, seen => by
  rw [takeNew_cons]
  split
  ·have := takeNew_le ok l (seen ++ [x]); simp; omega
  ·have := takeNew_le ok l seen; simp; omega
def LvEnd (ok : Nat → Bool) (P : Nat → List Nat) (s : List Nat × List Nat) (K : Nat) : Prop := (∀ t, t < K → (levels ok P t s).2 ≠ []) ∧ (levels ok P K s).2 = []
theorem LvEnd.one {ok : Nat → Bool} {P : Nat → List Nat} {s : List Nat × List Nat} {n k : Nat} (h : LvEnd ok P s n) (h' : LvEnd ok P s k) : n = k := by
 rcases Nat.lt_trichotomy n k with c | c | c
 ·exact absurd h.2 (h'.1 n c)
 ·exact c
 ·exact absurd h'.2 (h.1 k c)
end Go.Proofs.YtbimcogdbafjpaaGreat
