/- Parts of the proof, one behind the other: Bo, Sa, Sc, Sp, Sq, Fm, Aw, Rl, Mix, Mx, Ch, Iv, Rs, Rt, Ru, Rv, Lb, Li, Le, Lf. -/
import Derived.Test.YtpohaahihdhleaaGreatRF2
import Derived.Deep.QuietTactic
import Derived.BigQuiet
import Derived.WalkKit
import Derived.Deep.Cut
import Derived.ChangeKeysEq
import Derived.Laws.StructEq
set_option linter.unusedVariables false
namespace Go.Proofs.YtpohaahihdhleaaGreat
open Go.RowKit
structure TabAt (w : World) (p : Nat) (F : Foot) (B : Nat) (l : List Hd) : Prop where
 ex : ∃ g c, w.heap[p]? = some (.cells #[vdev F, .int .i64 (B : Int), .slice (some ⟨g, 0, none⟩) l.length c] 158 (0, 0)) ∧ l.length ≤ c ∧ RowAt w g 107 (hdCs l) ∧ p ≠ g
def Hd.val (h : Hd) : Value := .agg #[.int .i64 h.k, .int .i64 h.c, .int .i64 h.l]
def hdGet (l : List Hd) (b : Int) : Hd := if b < 1 ∨ (l.length : Int) ≤ b then ⟨0, 0, 0⟩ else l.getD b.toNat default
set_option maxHeartbeats 1000000 in
theorem tget_any {w : World} {p B : Nat} {F : Foot} {l : List Hd} (h : TabAt w p F B l) (b : Int) (hl : l.length ≤ 1000) :
  Calls Tryz.prog 121 #[.pointer (some ⟨p, 0, none⟩), .int .i64 b] w fun e w' => e = .returned (hdGet l b).val ∧ Below w.heap.size w w' := by
 obtain ⟨g, c, hp, hc, hr, hne⟩ := h.ex
 have c2 : w.cell? ⟨p, 2, none⟩ = some (.slice (some ⟨g, 0, none⟩) l.length c) := cell_of_row _ _ 2 _ _ _ hp
 have hpl : p < w.heap.size := (Array.getElem?_eq_some_iff.1 hp).1
 have hgl := hr.lt
 by_cases h1 : b < 1
 ·have HE : Hid (hdGet l b = ⟨0, 0, 0⟩) := LH (by unfold hdGet; rw [if_pos (.inl h1)])
  clear hp hr h
  go_enter Tryz.func121, Tryz.ntmps121
  go_wp2_with fail
  exact bodyPost_ret (v := .agg #[.int .i64 0, .int .i64 0, .int .i64 0]) (by simp [results, Tryz.results121, go_sem]) rfl ⟨by rw [HE.out]; rfl, below_alloc _ _⟩
 by_cases h2 : (l.length : Int) ≤ b
 ·have HE : Hid (hdGet l b = ⟨0, 0, 0⟩) := LH (by unfold hdGet; rw [if_pos (.inr h2)])
  clear hp hr h
  go_enter Tryz.func121, Tryz.ntmps121
  go_wp2_with fail
  exact bodyPost_ret (v := .agg #[.int .i64 0, .int .i64 0, .int .i64 0]) (by simp [results, Tryz.results121, go_sem]) rfl ⟨by rw [HE.out]; rfl, below_alloc _ _⟩
 obtain ⟨j, rfl⟩ := Int.eq_ofNat_of_zero_le (show 0 ≤ b by omega)
 have hj : j < l.length := by omega
 have HE : Hid (hdGet l (j : Int) = l.getD j default) := LH (by unfold hdGet; rw [if_neg (by omega)]; rfl)
 have HA := hdCs_at l j hj
 generalize l.getD j default = hd at *
 obtain ⟨hk, hcl, hln⟩ := hd
 have d0 : w.cell? ⟨g, j * 3, none⟩ = some (.int .i64 hk) := hr.cell (HA 0 _ rfl)
 have d1 : w.cell? ⟨g, j * 3 + 1, none⟩ = some (.int .i64 hcl) := hr.cell (HA 1 _ rfl)
 have d2 : w.cell? ⟨g, j * 3 + 2, none⟩ = some (.int .i64 hln) := hr.cell (HA 2 _ rfl)
 clear hp hr h HA
 go_enter Tryz.func121, Tryz.ntmps121
 go_wp2_with fail
 exact bodyPost_ret (v := .agg #[.int .i64 hk, .int .i64 hcl, .int .i64 hln]) (by simp [results, Tryz.results121, go_sem]) rfl ⟨by rw [HE.out]; rfl, below_alloc _ _⟩
theorem hdGetD (l : List Hd) (j : Nat) : ∃ k c n, l.getD j default = ⟨k, c, n⟩ := ⟨_, _, _, rfl⟩
theorem fsBh : (Tryz.prog.fieldsOf 107) = #[{ name := "Kind", type := 3, offset := 0, embedded := false, tag := "", pkgPath := "", byteOffset := 0 },
        { name := "Class", type := 3, offset := 1, embedded := false, tag := "", pkgPath := "", byteOffset := 8 },
        { name := "Len", type := 3, offset := 2, embedded := false, tag := "", pkgPath := "", byteOffset := 16 }] := by kernel_rfl
theorem usBh : Tryz.prog.underlying 107 = some (.struct (Tryz.prog.fieldsOf 107)) := by kernel_rfl
theorem ssBh : Tryz.prog.stoodInHeld 107 = false := by kernel_rfl
theorem gsBh : Tryz.prog.eqGuardType Tryz.prog.depth 107 = false := by kernel_rfl
theorem equalBh (w : World) (a b c a' b' c' : Int) (r : Bool) (hr : r = ((a == a') && (b == b') && (c == c'))) : (Op.equalIn 10000 107 (.agg #[.int .i64 a, .int .i64 b, .int .i64 c]) (.agg #[.int .i64 a', .int .i64 b', .int .i64 c'])).run Tryz.prog w = .ok r w := by
 rw [hr, show (10000 : Nat) = 9999 + 1 from rfl, run_equalIn_agg w 9999 107 _ _ usBh ssBh, fsBh]
 by_cases h1 : a = a' <;> by_cases h2 : b = b' <;> by_cases h3 : c = c' <;> simp [Op.eqFields, go_sem, h1, h2, h3, Tryz.underlying3, part]
theorem hd_beq (k c n k' c' n' : Int) : decide ((⟨k, c, n⟩ : Hd) = ⟨k', c', n'⟩) = ((k == k') && (c == c') && (n == n')) := by
 rw [Bool.eq_iff_iff]; simp [Hd.mk.injEq, and_assoc]
theorem hd_cells {w : World} {a : Option Addr} {l : List Hd} (h : Cells w a (hdCs l)) {j : Nat} (hj : j < l.length) {k c n : Int} (he : l.getD j default = ⟨k, c, n⟩) :
  ∃ b off, a = some ⟨b, off, none⟩ ∧ w.cell? ⟨b, off + j * 3, none⟩ = some (.int .i64 k) ∧ w.cell? ⟨b, off + j * 3 + 1, none⟩ = some (.int .i64 c) ∧ w.cell? ⟨b, off + j * 3 + 2, none⟩ = some (.int .i64 n) := by
 have HA := hdCs_at l j hj
 rw [he] at HA
 rcases h with h | ⟨b, off, rfl, h⟩
 ·have := congrArg List.length h
  rw [hdCs_length] at this
  simp only [List.length_nil] at this
  omega
 ·exact ⟨b, off, rfl, h _ _ (HA 0 _ rfl), h _ _ (HA 1 _ rfl), h _ _ (HA 2 _ rfl)⟩
abbrev Sp := Nat × Nat
def spCs (l : List Sp) : List Value := l.flatMap fun s => [.int .i64 s.1, .int .i64 s.2]
theorem spCs_length (l : List Sp) : (spCs l).length = 2 * l.length := by
 induction l with
 | nil => rfl
 | cons h l ih => simp only [spCs, List.flatMap_cons, List.length_append, List.length_cons] at *; rw [ih]; simp; omega
theorem spCs_append (l m : List Sp) : spCs (l ++ m) = spCs l ++ spCs m := by simp [spCs]
theorem spCs_last (l : List Sp) (s n : Nat) : (spCs (l ++ [(s, n)]))[l.length * 2]? = some (.int .i64 (s : Int)) ∧ (spCs (l ++ [(s, n)]))[l.length * 2 + 1]? = some (.int .i64 (n : Int)) := by
 have hl := spCs_length l
 rw [spCs_append]
 constructor
 ·rw [List.getElem?_append_right (by omega), show l.length * 2 - (spCs l).length = 0 by omega]; rfl
 ·rw [List.getElem?_append_right (by omega), show l.length * 2 + 1 - (spCs l).length = 1 by omega]; rfl
theorem spCs_bump (l : List Sp) (s n m : Nat) : (spCs (l ++ [(s, n)])).set (l.length * 2 + 1) (.int .i64 (m : Int)) = spCs (l ++ [(s, m)]) := by
 have hl := spCs_length l
 rw [spCs_append, spCs_append, List.set_append_right _ _ (by omega), show l.length * 2 + 1 - (spCs l).length = 1 by omega]
 rfl
def bump (l : List Sp) : List Sp := match l.getLast? with
 | none => l
 | some s => l.dropLast ++ [(s.1, s.2 + 1)]
theorem bump_last (l : List Sp) (s n : Nat) : bump (l ++ [(s, n)]) = l ++ [(s, n + 1)] := by simp [bump]
def spanL (ks : Nat → Bool) : Nat → List Sp
 | 0 => []
 | b + 1 => if b = 0 ∨ ks b = false then spanL ks b else if 1 < b ∧ ks (b - 1) = true then bump (spanL ks b) else spanL ks b ++ [(b, 1)]
theorem spanL_last (ks : Nat → Bool) (b : Nat) (hb : 1 ≤ b) : if 1 < b ∧ ks (b - 1) = true then ∃ l s n, spanL ks b = l ++ [(s, n)] ∧ s + n = b ∧ l.length < b else (spanL ks b = [] ∨ ∃ l s n, spanL ks b = l ++ [(s, n)] ∧ s + n < b ∧ l.length < b) := by
 induction b with
 | zero => omega
 | succ b ih =>
  by_cases h0 : b = 0
  ·subst h0; rw [if_neg (by omega)]; left; rfl
  have ih := ih (by omega)
  rw [Nat.add_sub_cancel]
  by_cases hk : ks b = true
  ·rw [if_pos ⟨by omega, hk⟩]
   by_cases hp : 1 < b ∧ ks (b - 1) = true
   ·rw [if_pos hp] at ih
    obtain ⟨l, s, n, h1, h2, h3⟩ := ih
    refine ⟨l, s, n + 1, ?_, by omega, by omega⟩
    rw [spanL, if_neg (by simp [h0, hk]), if_pos hp, h1, bump_last]
   ·rw [if_neg hp] at ih
    refine ⟨spanL ks b, b, 1, ?_, rfl, ?_⟩
    ·rw [spanL, if_neg (by simp [h0, hk]), if_neg hp]
    ·rcases ih with h | ⟨l, s, n, h1, h2, h3⟩
     ·rw [h]; simp
     ·rw [h1]; simp; omega
  ·have hk' : ks b = false := by simpa using hk
   rw [if_neg (by simp [hk'])]
   have he : spanL ks (b + 1) = spanL ks b := by rw [spanL, if_pos (.inr hk')]
   rw [he]
   split at ih
   ·obtain ⟨l, s, n, h1, h2, h3⟩ := ih
    exact .inr ⟨l, s, n, h1, by omega, by omega⟩
   ·rcases ih with h | ⟨l, s, n, h1, h2, h3⟩
    ·exact .inl h
    ·exact .inr ⟨l, s, n, h1, by omega, by omega⟩
theorem spanL_len (ks : Nat → Bool) (b : Nat) : (spanL ks b).length ≤ b := by
 induction b with
 | zero => simp [spanL]
 | succ b ih =>
  unfold spanL
  split
  ·omega
  ·split
   ·unfold bump
    split
    ·omega
    ·simp; omega
   ·simp; omega
def freeAt (l : List Hd) (b : Nat) : Bool := (l.getD b default).k == 0
def spansOf (l : List Hd) : List Sp := spanL (freeAt l) l.length
theorem elBs : Elem Tryz.prog 206 259 (.agg #[.int .i64 0, .int .i64 0]) 2 16 := Elem.mk' Tryz.underlying206 (by kernel_rfl) rfl (by decide)
def SpansPost (t : Nat) (l : List Sp) (w : World) : Ending → World → Prop := fun e w' => ∃ v, e = .returned v ∧ w'.ownsRow w.heap.size t 2 v l.length (spCs l) ∧ Below w.heap.size w w'
theorem span_round (ks : Nat → Bool) (b : Nat) (hb : 1 ≤ b) :
  (ks b = false ∧ spanL ks (b + 1) = spanL ks b) ∨
  (ks b = true ∧ 1 < b ∧ ks (b - 1) = true ∧ ∃ l s n, spanL ks b = l ++ [(s, n)] ∧ s + n = b ∧ spanL ks (b + 1) = l ++ [(s, n + 1)]) ∨
  (ks b = true ∧ ¬ (1 < b ∧ ks (b - 1) = true) ∧ spanL ks b = [] ∧ spanL ks (b + 1) = [(b, 1)]) ∨
  (ks b = true ∧ ¬ (1 < b ∧ ks (b - 1) = true) ∧ ∃ l s n, spanL ks b = l ++ [(s, n)] ∧ s + n < b ∧ spanL ks (b + 1) = l ++ [(s, n)] ++ [(b, 1)]) := by
 have h := spanL_last ks b hb
 by_cases hk : ks b = true
 ·by_cases hp : 1 < b ∧ ks (b - 1) = true
  ·rw [if_pos hp] at h
   obtain ⟨l, s, n, h1, h2, h3⟩ := h
   exact .inr (.inl ⟨hk, hp.1, hp.2, l, s, n, h1, h2, by rw [spanL, if_neg (by simp [hk]; omega), if_pos hp, h1, bump_last]⟩)
  ·rw [if_neg hp] at h
   have e : spanL ks (b + 1) = spanL ks b ++ [(b, 1)] := by rw [spanL, if_neg (by simp [hk]; omega), if_neg hp]
   rcases h with h | ⟨l, s, n, h1, h2, h3⟩
   ·exact .inr (.inr (.inl ⟨hk, hp, h, by rw [e, h]; rfl⟩))
   ·exact .inr (.inr (.inr ⟨hk, hp, l, s, n, h1, h2, by rw [e, h1]⟩))
 ·have hk' : ks b = false := by simpa using hk
  exact .inl ⟨hk', by rw [spanL, if_pos (.inr hk')]⟩
theorem hd_kind {w : World} {a : Option Addr} {l : List Hd} (h : Cells w a (hdCs l)) {j : Nat} (hj : j < l.length) :
  ∃ b off, a = some ⟨b, off, none⟩ ∧ ∃ k, freeAt l j = (k == 0) ∧ w.cell? ⟨b, off + j * 3, none⟩ = some (.int .i64 k) := by
 obtain ⟨k, c, n, he⟩ := hdGetD l j
 obtain ⟨b, off, rfl, h0, _, _⟩ := hd_cells h hj he
 exact ⟨b, off, rfl, k, by unfold freeAt; rw [he], h0⟩
set_option maxHeartbeats 2000000 in
set_option maxRecDepth 20000 in
theorem bspans_any (a : Option Addr) (n cap : Nat) (l : List Hd) (hn : l.length = n) (w : World) (hc : Cells w a (hdCs l)) (hl : n ≤ 1000) :
  Calls Tryz.prog 158 #[.slice a n cap] w (SpansPost 259 (spansOf l) w) := by
 have HN := LH hn
 have HC := LH hc
 generalize hP : SpansPost 259 (spansOf l) w = Post
 have HP := LH hP
 clear hn hc hP
 go_enter Tryz.func158, Tryz.ntmps158
 go_wp2_with fail
 go_loopw [3, 4] (fun v i wr => ∃ b : Nat, 1 ≤ b ∧ (b ≤ n ∨ b = 1) ∧ i = .int .i64 b ∧ wr.ownsRow w.heap.size 259 2 v (spanL (freeAt l) b).length (spCs (spanL (freeAt l) b)) ∧ Below w.heap.size w wr) (fun _ i _ => n - (intOf i).toNat)
 case atStart => exact ⟨1, Nat.le_refl _, .inr rfl, rfl, ⟨rfl, .inl ⟨rfl, rfl⟩⟩, Below.refl _ _⟩
 case round =>
  obtain ⟨b, hb1, hbn, rfl, ho, hb⟩ := hrel
  by_cases hlt : b < n
  ·have hlt' : (b : Int) < (n : Int) := by omega
   have HB := LH hb
   obtain ⟨bl, off, rfl, kd, hfk, d0⟩ := hd_kind (HC.out.below hb (Nat.le_refl _)) (j := b) (by rw [HN.out]; exact hlt)
   have hr := span_round (freeAt l) b hb1
   rw [hfk] at hr
   have HLb := LH (spanL_len (freeAt l) b)
   clear hfk hbn hb
   rcases hr with ⟨hk, hs⟩ | ⟨hk, h1b, hk2, pl, s, m, hs1, hs2, hs3⟩ | ⟨hk, hp, hs1, hs3⟩ | ⟨hk, hp, pl, s, m, hs1, hs2, hs3⟩
   ·have hk1 : (kd != 0) = true := by simpa using hk
    obtain ⟨a1, c1, rfl, hc1, hm1⟩ := owned_form ho
    have HO : Hid (wr.ownsRow w.heap.size 259 2 (.slice a1 (spanL (freeAt l) b).length c1) (spanL (freeAt l) (b + 1)).length (spCs (spanL (freeAt l) (b + 1)))) := LH (by rw [hs]; exact ho)
    clear ho hs hk HLb
    go_wp2_with fail
    exact ⟨⟨b + 1, by omega, by omega, vint (by omega), HO.out, HB.out⟩, by simp [intOf]; omega⟩
   ·have hk1 : (kd != 0) = false := by simpa using hk
    rw [hs1] at ho
    obtain ⟨L, hL⟩ : ∃ L, L = pl.length := ⟨_, rfl⟩
    rw [show (pl ++ [(s, m)]).length = L + 1 by simp [hL]] at ho
    obtain ⟨g, c1, rfl, hc1, hm1, hg1, hg2⟩ := owned_some ho (by omega)
    have hr := owned_row ho
    have hla := spCs_last pl s m
    rw [← hL] at hla
    have e0 : wr.cell? ⟨g, L * 2, none⟩ = some (.int .i64 (s : Int)) := hr.cell hla.1
    have e1 : wr.cell? ⟨g, L * 2 + 1, none⟩ = some (.int .i64 (m : Int)) := hr.cell hla.2
    have f1 : wr.frozen? ⟨g, L * 2 + 1, none⟩ = false := hr.frozen _
    have hsm : ((s : Int) + (m : Int) == (b : Int)) = true := by simp; omega
    have HL := LH hL
    have HS3 := LH hs3
    have HO1 := LH ho
    have hsb : (s : Int) ≤ 1000 := by omega
    have hmb : (m : Int) ≤ 1000 := by omega
    have hLb : L < 1000 := by have := HLb.out; rw [hs1] at this; simp [← hL] at this; omega
    clear ho hs1 hs2 hs3 hL hla hr hk hk2 HLb
    have hw1 : IntKind.i64.wrap (L : Int) = L := IntWalk.i64_in _ (by omega)
    have hw2 : IntKind.i64.wrap ((s : Int) + (m : Int)) = s + m := IntWalk.i64_in _ (by omega)
    go_wp2_with fail
    go_quiet (fail)
    clear hw1 hw2
    have HO2 : Hid ((wr.drewN nq).ownsRow w.heap.size 259 2 (.slice (some ⟨g, 0, none⟩) (L + 1) c1) (L + 1) (spCs (pl ++ [(s, m)]))) := LH HO1.out
    go_wp2_with fail
    refine ⟨⟨b + 1, by omega, by omega, vint (by omega), ?_, ?_⟩, by simp [intOf]; omega⟩
    ·rw [HS3.out, ← show ((m + 1 : Nat) : Int) = (m : Int) + 1 from rfl, ← spCs_bump pl s m (m + 1), show (pl ++ [(s, m + 1)] : List Sp).length = L + 1 by simp [HL.out], ← HL.out]
     exact (HO2.out.stored (L * 2 + 1) _).1
    ·exact below_grownBy (below_drewN HB.out _) HO2.out (HO2.out.stored (L * 2 + 1) _).2 (Nat.le_refl _) (Nat.le_refl _)
   ·have hk1 : (kd != 0) = false := by simpa using hk
    rw [hs1] at ho
    obtain ⟨a1, c1, rfl, hc1, hm1⟩ := owned_form ho
    have HO := LH ho
    have HS3 := LH hs3
    have hone : Hid (∀ u ∈ (#[Value.int .i64 (b : Int), Value.int .i64 1] : Array Value).toList, u.oneCell' = true) := LH (by intro u hu; simp at hu; rcases hu with rfl | rfl <;> rfl)
    clear ho hs1 hs3 hk hp HLb
    go_wp2_with fail
    go_quiet (fail)
    have HO1 : Hid ((wr.drewN nq).ownsRow w.heap.size 259 2 (.slice a1 0 c1) 0 []) := LH HO.out
    have hbase : Hid (w.heap.size ≤ (wr.drewN nq).heap.size) := LH HB.out.size
    go_wp2_with (at_builtin; refine wpList_append_new (us := #[.int .i64 (b : Int), .int .i64 1]) elBs HO1.out rfl hone.out (by omega) (by decide) hbase.out rfl rfl rfl (by simp [Act.eval]) ?_; intro g6 c6 w6 ho6 hg6 hc6 hm6 hb6 hl6; have HO6 := LH ho6; have HG6 := LH hg6; clear ho6 hg6)
    refine ⟨⟨b + 1, by omega, by omega, vint (by omega), ?_, below_grownBy (below_drewN HB.out _) HO1.out HG6.out (Nat.le_refl _) (Nat.le_refl _)⟩, by simp [intOf]; omega⟩
    rw [HS3.out]
    exact HO6.out
   ·have hk1 : (kd != 0) = false := by simpa using hk
    rw [hs1] at ho
    obtain ⟨L, hL⟩ : ∃ L, L = pl.length := ⟨_, rfl⟩
    rw [show (pl ++ [(s, m)]).length = L + 1 by simp [hL]] at ho
    obtain ⟨g, c1, rfl, hc1, hm1, hg1, hg2⟩ := owned_some ho (by omega)
    have hr := owned_row ho
    have hla := spCs_last pl s m
    rw [← hL] at hla
    have e0 : wr.cell? ⟨g, L * 2, none⟩ = some (.int .i64 (s : Int)) := hr.cell hla.1
    have e1 : wr.cell? ⟨g, L * 2 + 1, none⟩ = some (.int .i64 (m : Int)) := hr.cell hla.2
    have hsm : ((s : Int) + (m : Int) == (b : Int)) = false := by simp; omega
    have HL := LH hL
    have HS3 := LH hs3
    have HO := LH ho
    have hsb : (s : Int) ≤ 1000 := by omega
    have hmb : (m : Int) ≤ 1000 := by omega
    have hone : Hid (∀ u ∈ (#[Value.int .i64 (b : Int), Value.int .i64 1] : Array Value).toList, u.oneCell' = true) := LH (by intro u hu; simp at hu; rcases hu with rfl | rfl <;> rfl)
    have hLb : L < 1000 := by have := HLb.out; rw [hs1] at this; simp [← hL] at this; omega
    have hL9 : L + 1 < 1000000000000 := by omega
    clear ho hs1 hs2 hs3 hL hla hr hk hp HLb
    have hw1 : IntKind.i64.wrap (L : Int) = L := IntWalk.i64_in _ (by omega)
    have hw2 : IntKind.i64.wrap ((s : Int) + (m : Int)) = s + m := IntWalk.i64_in _ (by omega)
    go_wp2_with fail
    go_quiet (fail)
    clear hw1 hw2
    have HO1 : Hid ((wr.drewN nq).ownsRow w.heap.size 259 2 (.slice (some ⟨g, 0, none⟩) (L + 1) c1) (L + 1) (spCs (pl ++ [(s, m)]))) := LH HO.out
    have hbase : Hid (w.heap.size ≤ (wr.drewN nq).heap.size) := LH HB.out.size
    go_wp2_with (at_builtin; refine wpList_append_new (us := #[.int .i64 (b : Int), .int .i64 1]) elBs HO1.out rfl hone.out hL9 (by decide) hbase.out rfl rfl rfl (by simp [Act.eval]) ?_; intro g6 c6 w6 ho6 hg6 hc6 hm6 hb6 hl6; have HO6 := LH ho6; have HG6 := LH hg6; clear ho6 hg6)
    refine ⟨⟨b + 1, by omega, by omega, vint (by omega), ?_, below_grownBy (below_drewN HB.out _) HO1.out HG6.out (Nat.le_refl _) (Nat.le_refl _)⟩, by simp [intOf]; omega⟩
    rw [HS3.out, spCs_append, show (pl ++ [(s, m)] ++ [(b, 1)] : List Sp).length = L + 1 + 1 by simp [HL.out]]
    exact HO6.out
  ·have hlt' : decide (b < n) = false := by simp; omega
   have hlt2 : n ≤ b := by omega
   obtain ⟨a1, c1, rfl, hc1, hm1⟩ := owned_form ho
   have HE : Hid (spansOf l = spanL (freeAt l) b) := LH (by
    unfold spansOf; rw [HN.out]
    rcases hbn with h | h
    ·rw [show n = b by omega]
    ·by_cases h0 : n = 0
     ·rw [h0, h]; rfl
     ·rw [show n = b by omega])
   have HO := LH ho
   have HB := LH hb
   clear ho hb
   go_wp2_with fail
   rw [← HP.out]
   refine ⟨_, rfl, ?_, HB.out⟩
   rw [HE.out]
   exact HO.out
theorem dec_enc (b k c l : Int) (h : hdRight k c l = true) : decN b (encN b k c l) = ⟨k, c, l, 0⟩ := by
 have hr : HdRight k c l := by simpa [hdRight] using h
 obtain ⟨n, hn⟩ : ∃ n, n = hdN k c l := ⟨_, rfl⟩
 have hn2 : (n : Int) = k + 4 * c + 256 * l := by rw [hn]; unfold hdN; unfold HdRight at hr; omega
 have hlt : n < 4294967296 := by unfold HdRight at hr; omega
 have he : encN b k c l = sealN n (pl (256 + b)) := by unfold encN; rw [if_pos h, hn]
 have hm : sealN n (pl (256 + b)) % 4294967296 = n := by
  unfold sealN
  rw [Nat.mul_comm, Nat.mul_add_mod, Nat.mod_eq_of_lt hlt]
 have ho : openN (encN b k c l) (pl (256 + b)) = some n := by
  unfold openN; rw [he, hm, if_pos rfl]
 have e1 : ((n % 4 : Nat) : Int) = k := by unfold HdRight at hr; omega
 have e2 : ((n / 4 % 64 : Nat) : Int) = c := by unfold HdRight at hr; omega
 have e3 : ((n / 256 % 65536 : Nat) : Int) = l := by unfold HdRight at hr; omega
 rw [decN_some ho]
 unfold decS
 rw [e1, e2, e3, if_pos rfl, if_pos h]
def Dev.live (S : Dev) : Prop := S.dead = false ∧ S.armed = false
theorem Dev.live.stop {S : Dev} (h : S.live) : S.stop = false := by unfold Dev.stop; rw [h.1, h.2]; rfl
theorem Dev.live.step {S : Dev} (h : S.live) : S.step.live := by unfold Dev.step; rw [h.stop]; exact h
theorem Dev.live.store {S : Dev} (h : S.live) (i : Int) (x : Nat) : (S.store i x).live := by
 unfold Dev.store
 split
 ·exact h
 ·rw [h.stop]; exact h.step
theorem Dev.live.store_ok {S : Dev} (h : S.live) (i : Nat) (x : Nat) (hi : i < S.cache.length) : S.storeE i = 0 ∧ (S.store i x).cache = S.cache.set i x := by
 constructor
 ·unfold Dev.storeE; rw [if_neg (by omega), h.stop]; rfl
 ·unfold Dev.store; rw [if_neg (by omega), h.stop]
  simp only [Bool.false_eq_true, if_false, Dev.put, (Dev.step_rest S).2.1, Int.toNat_natCast]
theorem Dev.store_okN {S : Dev} {N : Nat} (h : S.ok N) (i : Int) (x : Nat) : (S.store i x).ok (N + 1) := by
 unfold Dev.store
 split
 ·exact h.mono (by omega)
 ·split
  ·exact Dev.step_ok h
  ·exact (Dev.step_ok h : S.step.ok (N + 1))
theorem Dev.live.flush {S : Dev} (h : S.live) (j : Int) : (S.flush j).live := by
 unfold Dev.flush
 split
 ·exact h
 ·rw [h.stop]
  simp only [Bool.false_eq_true, if_false]
  unfold Dev.hold
  split
  ·exact h.step
  ·exact h.step
theorem Dev.live.flushE {S : Dev} (h : S.live) (j : Nat) (hj : j < S.dirty.length) : S.flushE j = 0 := by unfold Dev.flushE; rw [if_neg (by omega), h.stop]; rfl
theorem Dev.live.flushRun {S : Dev} (h : S.live) (a : Nat) : ∀ m, a + m ≤ S.dirty.length → (S.flushRun a m).err = 0 ∧ (S.flushRun a m).dev.live ∧ (S.flushRun a m).dev.cache = S.cache ∧ (S.flushRun a m).dev.dirty = S.dirty := by
 intro m
 induction m with
 | zero => intro _; exact ⟨rfl, h, rfl, rfl⟩
 | succ m ih =>
  intro hm
  obtain ⟨i1, i2, i3, i4⟩ := ih (by omega)
  unfold Dev.flushRun
  rw [if_neg (by rw [i1]; simp)]
  refine ⟨i2.flushE _ (by rw [i4]; omega), i2.flush _, ?_, ?_⟩
  ·exact (Dev.flush_len _ _).1.trans i3
  ·exact (Dev.flush_len _ _).2.trans i4
theorem Dev.live.persist {S : Dev} (h : S.live) (p n : Nat) (hn : 0 < n) (hd : S.cache.length = 8 * S.dirty.length) (hp : p + n ≤ S.cache.length) : (S.persist p n).err = 0 ∧ (S.persist p n).dev.cache = S.cache := by
 unfold Dev.persist
 rw [if_neg (by omega), if_pos (by omega)]
 unfold Dev.persistN
 obtain ⟨i1, i2, i3, i4⟩ := h.flushRun ((p : Int) / 8).toNat (((p : Int) + (n : Int) - 1) / 8 - (p : Int) / 8 + 1).toNat (by omega)
 rw [if_neg (by rw [i1]; simp)]
 constructor
 ·show Dev.fenceE _ = 0
  unfold Dev.fenceE; rw [i2.stop]; rfl
 ·show (Dev.fence _).cache = _
  unfold Dev.fence; rw [i2.stop]
  simp only [Bool.false_eq_true, if_false]
  rw [(fenceTo_len _ _).2.1, (Dev.step_rest _).2.1, i3]
set_option maxHeartbeats 400000 in
theorem tspans_any {w : World} {p B : Nat} {F : Foot} {l : List Hd} (h : TabAt w p F B l) (hl : l.length ≤ 1000) :
  Calls Tryz.prog 114 #[.pointer (some ⟨p, 0, none⟩)] w (SpansPost 259 (spansOf l) w) := by
 obtain ⟨g, c, hp, hc, hr, hne⟩ := h.ex
 have c2 : w.cell? ⟨p, 2, none⟩ = some (.slice (some ⟨g, 0, none⟩) l.length c) := cell_of_row _ _ 2 _ _ _ hp
 generalize hP : SpansPost 259 (spansOf l) w = Post
 have HP := LH hP
 have HR := LH hr
 clear hP hp hr h
 go_enter Tryz.func114, Tryz.ntmps114
 go_wp2_with fail
 refine (bspans_any (some ⟨g, 0, none⟩) l.length c l rfl w HR.out.cells hl).mono ?_
 rintro e w1 ⟨v, rfl, h1, h2⟩
 have HZ : Hid (Post (.returned v) w1) := LH (by rw [← HP.out]; exact ⟨v, rfl, h1, h2⟩)
 clear h1 h2
 go_wp2_with fail
 exact HZ.out
theorem fresh_live (ws : List Nat) (m : Nat) : (freshDev ws m).live := ⟨rfl, rfl⟩
theorem fresh_ok (ws : List Nat) (m N : Nat) : (freshDev ws m).ok N := by unfold Dev.ok freshDev; simp
theorem owned_addr {w : World} {base e size n n' c : Nat} {a : Option Addr} {xs : List Value} (h : w.ownsRow base e size (.slice a n' c) n xs) (x : Addr) (hx : a = some x) : base ≤ x.block := by
 rcases h.2 with ⟨h0, _⟩ | ⟨g, cap, cur, hv, hb, _⟩
 ·simp at h0; rw [h0.1] at hx; cases hx
 ·simp at hv; rw [hv.1] at hx; cases hx; exact hb
section
variable {P : Program} {ops : Array Oper} {md : Region.Mode} {C : World → Prop} {Q : Exit → Act → World → Prop}
theorem wpAnyF_early {loose : Nat → Bool} {i f : Nat} {oi : Oper} {v : Value} (hi : ops[i]? = some oi) (hsel : ∀ (j : Nat) (o : Oper) cs b, ops[j]? = some o → o.op ≠ .select cs b)
  (hQ : ∀ c a d v w, Q (.panic c) (a.put d v) w → Q (.panic c) a w) :
  ∀ (fuel : Nat) (listed : Array Bool) (a : Act) (w : World),
   (∀ j oj, ops[j]? = some oj → j ≠ i → listed.getD j true = false → waitsFor md ops f j i = true ∨ loose j = true) →
   (∀ j oj, ops[j]? = some oj → j ≠ i → listed.getD j true = false → (∀ e ∈ oj.after, Region.binds md e = true → e.on ≠ i) → oi.apart ops oj = true) →
   i ∈ Region.ready md ops listed → Shut md ops listed → Stays P ops C oi v a → C w →
   wpAnyF P md ops Q C loose fuel (listed.setIfInBounds i true) (a.put oi.dst v) w → wpAnyF P md ops Q C loose (fuel + 1) listed a w := by
 intro fuel
 induction fuel with
 | zero =>
  intro listed a w _ _ hr _ hy hC H
  refine ⟨fun h => (by rw [h] at hr; cases hr), fun j hj => ?_⟩
  by_cases hji : j = i
  ·subst hji; exact hy.wpOp hi hC ⟨fun _ => hC, H⟩
  ·have := ready_mono hj hji
   rw [H.1] at this
   cases this
 | succ fuel ih =>
  intro listed a w hl hfree hr hsh hy hC H
  refine ⟨fun h => (by rw [h] at hr; cases hr), fun j hj => ?_⟩
  by_cases hji : j = i
  ·subst hji; exact hy.wpOp hi hC ⟨fun _ => hC, H⟩
  ·have h1 := H.2 j (ready_mono hj hji)
   obtain ⟨hjun, oj, hoj, hall⟩ := mem_ready.1 hj
   have hiun : listed.getD i false = false := by
    have h0 := (mem_ready.1 hr).1
    rcases Nat.lt_or_ge i listed.size with h' | h'
    ·simp [h'] at h0 ⊢; exact h0
    ·simp [Array.getElem?_eq_none h']
   have hnot : ∀ e ∈ oj.after, Region.binds md e = true → e.on ≠ i := fun e he hb heq => by
    have h1 := hall e he hb
    rw [heq, hiun] at h1
    cases h1
   have hlo : loose j = true := by
    rcases hl j oj hoj hji hjun with h | h
    ·have := waitsFor_listed hsh f j i oj hoj hall h
     rw [hiun] at this
     cases this
    ·exact h
   have h2 := wpOp_putF (C := C) hoj (hfree j oj hoj hji hjun hnot) (fun cs b => hsel i oi cs b hi) (fun cs b => hsel j oj cs b hoj) hQ hy h1
   have hun' : ∀ k, (listed.setIfInBounds j true).getD k true = false → listed.getD k true = false := fun k hun => by
    by_cases hjk : j = k
    ·subst hjk; exact hjun
    ·rw [getD_set_ne true hjk] at hun; exact hun
   refine wpOp_mono (fun a' w' h3 => ⟨h3.2.1, ih (listed.setIfInBounds j true) a' w' (fun k ok hk hki hun => hl k ok hk hki (hun' k hun)) (fun k ok hk hki hun hno => hfree k ok hk hki (hun' k hun) hno) (ready_mono hr (Ne.symm hji)) (hsh.set hj) h3.1 (h3.2.1 hlo) ?_⟩) h2
   rw [Array.setIfInBounds_comm _ _ hji]
   exact h3.2.2
def looseOf (md : Region.Mode) (ops : Array Oper) (j : Nat) : Bool :=
 (List.range ops.size).any fun i => i != j && (match ops[i]? with | some o => calm o.op | none => false) && !waitsFor md ops ops.size j i && !waitsFor md ops ops.size i j
end
theorem later_step {w v v' : World} (h : ∃ x : Later w, v = x.val) (hb : Below v.heap.size v v') : ∃ x : Later w, v' = x.val := by
 obtain ⟨x, rfl⟩ := h
 exact ⟨⟨v', x.below.trans (hb.mono x.below.size)⟩, rfl⟩
theorem later_below {w v : World} (h : ∃ x : Later w, v = x.val) : Below w.heap.size w v := by
 obtain ⟨x, rfl⟩ := h
 exact x.below
theorem later_drew (w : World) : ∃ x : Later w, w.drew = x.val := ⟨⟨w.drew, (Below.refl _ _).drew⟩, rfl⟩
structure Near (L : List Nat) (w : World) where
 val : World
 size : w.heap.size ≤ val.heap.size
 block : ∀ k, k < w.heap.size → k ∉ L → val.heap[k]? = w.heap[k]?
instance (L : List Nat) (w : World) : Nonempty (Near L w) := ⟨⟨w, Nat.le_refl _, fun _ _ _ => rfl⟩⟩
theorem near_cell {L : List Nat} {w : World} {p : Addr} {v : Value} (h : w.cell? p = some v) (hL : p.block ∉ L) (x : Near L w) : x.val.cell? p = some v := by
 have := x.block p.block (World.block_lt_of_cell? _ _ h) hL
 unfold World.cell? at *
 rw [this]; exact h
inductive Seg where
 | fl (ks : List Nat)
 | sq (ks : List Nat) (lo : Bool)
inductive SegO where
 | fl (os : List Oper)
 | sq (os : List Oper) (lo : Bool)
section
variable {P : Program} {ops : Array Oper} {md : Region.Mode} {C : World → Prop} {Q : Exit → Act → World → Prop}
def picks (l : List Oper) : List Nat → List Oper
 | [] => []
 | k :: ks => match l[k]? with
  | some o => o :: picks l ks
  | none => picks l ks
def segs (l : List Oper) : List Seg → List SegO
 | [] => []
 | .fl ks :: r => .fl (picks l ks) :: segs l r
 | .sq ks lo :: r => .sq (picks l ks) lo :: segs l r
def flFrom (md : Region.Mode) (ops : Array Oper) : List Nat → Array Bool → Bool × Array Bool
 | [], listed => (true, listed)
 | k :: ks, listed => match ops[k]? with
  | none => (false, listed)
  | some o => let r := flFrom md ops ks (listed.setIfInBounds k true)
   (calm o.op && (Region.ready md ops listed).contains k && Region.free md ops listed k && ((List.range ops.size).all fun j => j == k || listed.getD j true || waitsFor md ops ops.size j k || looseOf md ops j) && r.1, r.2)
def sqFrom (md : Region.Mode) (ops : Array Oper) (lo : Bool) : List Nat → Array Bool → Bool × Array Bool
 | [], listed => (true, listed)
 | k :: ks, listed => match ops[k]? with
  | none => (false, listed)
  | some _ => let r := sqFrom md ops lo ks (listed.setIfInBounds k true)
   (Region.ready md ops listed == [k] && (!looseOf md ops k || (lo && ks.isEmpty)) && r.1, r.2)
def segFrom (md : Region.Mode) (ops : Array Oper) : List Seg → Array Bool → Bool
 | [], listed => (Region.ready md ops listed).isEmpty
 | .fl ks :: r, listed => let x := flFrom md ops ks listed; x.1 && segFrom md ops r x.2
 | .sq ks lo :: r, listed => let x := sqFrom md ops lo ks listed; x.1 && segFrom md ops r x.2
def segLen : List Seg → Nat
 | [] => 0
 | .fl ks :: r => segLen r + ks.length
 | .sq ks _ :: r => segLen r + ks.length
def segB (md : Region.Mode) (ops : Array Oper) (is : List Seg) : Bool := Region.noSelect ops && segLen is == ops.size && segFrom md ops is (Array.replicate ops.size false)
def wpSeg (P : Program) (ops : Array Oper) (C : World → Prop) (Q : Exit → Act → World → Prop) : List SegO → Act → World → Prop
 | [], a, w => Q .normal a w
 | .fl os :: r, a, w => C w ∧ wpQuiet P ops C (fun a' => wpSeg P ops C Q r a' w) os a
 | .sq os lo :: r, a, w => wpList P ops (Exit.then (fun a' w' => (lo = true → C w') ∧ wpSeg P ops C Q r a' w') Q) os a w
theorem fl_ok (hs : Region.noSelect ops = true) (hQ : ∀ c a d v w, Q (.panic c) (a.put d v) w → Q (.panic c) a w) {m : Nat} {R : Act → Prop} {w : World} (hC : C w) : ∀ (ks : List Nat) (listed : Array Bool) (a : Act), Shut md ops listed → (flFrom md ops ks listed).1 = true →
  (∀ a', Shut md ops (flFrom md ops ks listed).2 → R a' → wpAnyF P md ops Q C (looseOf md ops) m (flFrom md ops ks listed).2 a' w) →
  wpQuiet P ops C R (picks ops.toList ks) a → wpAnyF P md ops Q C (looseOf md ops) (m + ks.length) listed a w := by
 intro ks
 induction ks with
 | nil =>
  intro listed a hsh _ hR h
  exact hR a hsh (by simpa [picks, wpQuiet] using h)
 | cons k ks ih =>
  intro listed a hsh hB hR h
  cases hk : ops[k]? with
  | none => simp [flFrom, hk] at hB
  | some o =>
   have e : picks ops.toList (k :: ks) = o :: picks ops.toList ks := by simp [picks, hk]
   rw [e] at h
   simp only [flFrom, hk, Bool.and_eq_true] at hB hR
   obtain ⟨⟨⟨⟨hc, hr⟩, hf⟩, hlo⟩, hB'⟩ := hB
   have hrk : k ∈ Region.ready md ops listed := by simpa using hr
   obtain ⟨v, hy, hK⟩ : ∃ v, Stays P ops C o v a ∧ wpQuiet P ops C R (picks ops.toList ks) (a.put o.dst v) := by
    unfold wpQuiet at h
    by_cases hw : Region.wanted o (yielded ops a.tmps) = true
    ·rw [if_pos hw] at h
     obtain ⟨v, h1, h2⟩ := h
     refine ⟨v, .inl ⟨hw, fun x hx => ?_⟩, h2⟩
     have h3 := h1 x hx
     unfold Oper.quietAt at h3
     cases hq : (execOp a.eval o).run P x with
     | ok nx w2 =>
      obtain ⟨u, rfl⟩ := calm_value hc hq
      rw [hq] at h3
      simp only [Oper.quietUpon] at h3
      rw [h3.1, h3.2]
     | halt x' w2 => rw [hq] at h3; simp only [Oper.quietUpon] at h3
    ·rw [if_neg hw] at h
     exact ⟨undef, .inr ⟨by simpa using hw, rfl⟩, h⟩
   refine wpAnyF_early (f := ops.size) hk (Region.noSelect_spec hs) hQ (m + ks.length) listed a w ?_ (Region.free_spec hk hf) hrk hsh hy hC (ih _ _ (hsh.set hrk) hB' hR hK)
   intro j oj hj hjk hun
   simp only [List.all_eq_true, List.mem_range, Bool.or_eq_true, beq_iff_eq] at hlo
   rcases hlo j (Array.getElem?_eq_some_iff.1 hj).1 with ((h | h) | h) | h
   ·exact absurd h hjk
   ·rw [hun] at h; cases h
   ·exact .inl h
   ·exact .inr h
theorem sq_ok {m : Nat} {lo : Bool} {R : Act → World → Prop} : ∀ (ks : List Nat) (listed : Array Bool) (a : Act) (w : World), Shut md ops listed → (sqFrom md ops lo ks listed).1 = true →
  (∀ a' w', Shut md ops (sqFrom md ops lo ks listed).2 → (lo = true → C w') → R a' w' → wpAnyF P md ops Q C (looseOf md ops) m (sqFrom md ops lo ks listed).2 a' w') →
  wpList P ops (Exit.then (fun a' w' => (lo = true → C w') ∧ R a' w') Q) (picks ops.toList ks) a w → wpAnyF P md ops Q C (looseOf md ops) (m + ks.length) listed a w := by
 intro ks
 induction ks with
 | nil =>
  intro listed a w hsh _ hR h
  have h : (lo = true → C w) ∧ R a w := by simpa [picks, wpList, Exit.then] using h
  exact hR a w hsh h.1 h.2
 | cons k ks ih =>
  intro listed a w hsh hB hR h
  cases hk : ops[k]? with
  | none => simp [sqFrom, hk] at hB
  | some o =>
   have e : picks ops.toList (k :: ks) = o :: picks ops.toList ks := by simp [picks, hk]
   rw [e] at h
   simp only [sqFrom, hk, Bool.and_eq_true, beq_iff_eq] at hB hR
   obtain ⟨⟨hr, hlo⟩, hB'⟩ := hB
   have hrk : k ∈ Region.ready md ops listed := by rw [hr]; simp
   refine ⟨fun h' => (by rw [hr] at h'; cases h'), fun i hi => ?_⟩
   rw [hr] at hi
   obtain rfl : i = k := by simpa using hi
   unfold wpOp
   simp only [hk]
   unfold wpList at h
   have hmono : ∀ a' w', wpList P ops (Exit.then (fun a' w' => (lo = true → C w') ∧ R a' w') Q) (picks ops.toList ks) a' w' →
     (looseOf md ops i = true → C w') ∧ wpAnyF P md ops Q C (looseOf md ops) (m + ks.length) (listed.setIfInBounds i true) a' w' := by
    intro a' w' h'
    refine ⟨fun hl => ?_, ih _ _ _ (hsh.set hrk) hB' hR h'⟩
    simp only [hl, Bool.not_true, Bool.false_or, Bool.and_eq_true, List.isEmpty_iff] at hlo
    obtain ⟨hlo1, rfl⟩ := hlo
    have h' : (lo = true → C w') ∧ R a' w' := by simpa [picks, wpList, Exit.then] using h'
    exact h'.1 hlo1
   by_cases hw : Region.wanted o (yielded ops a.tmps) = true
   ·rw [if_pos hw] at h ⊢
    rcases h with h | h
    ·refine .inl ?_
     have h := Oper.wp_mono hmono h
     unfold Oper.wp at *
     generalize (execOp a.eval o).run P w = r at *
     cases r with
     | ok n w' => cases n <;> simp only [Oper.upon] at h ⊢ <;> exact h
     | halt x w' => cases x <;> simp only [Oper.upon] at h ⊢ <;> exact h
    ·exact .inr h
   ·rw [if_neg hw] at h ⊢
    exact hmono _ _ h
theorem seg_ok (hs : Region.noSelect ops = true) (hQ : ∀ c a d v w, Q (.panic c) (a.put d v) w → Q (.panic c) a w) : ∀ (is : List Seg) (listed : Array Bool) (a : Act) (w : World), Shut md ops listed →
  segFrom md ops is listed = true → wpSeg P ops C Q (segs ops.toList is) a w → wpAnyF P md ops Q C (looseOf md ops) (segLen is) listed a w := by
 intro is
 induction is with
 | nil =>
  intro listed a w _ hB h
  exact ⟨by simpa [segFrom] using hB, by simpa [wpSeg, segs] using h⟩
 | cons s is ih =>
  intro listed a w hsh hB h
  cases s with
  | fl ks =>
   simp only [segFrom, Bool.and_eq_true] at hB
   simp only [segs, wpSeg] at h
   exact fl_ok hs hQ h.1 ks listed a hsh hB.1 (fun a' hsh' hR => ih _ a' w hsh' hB.2 hR) h.2
  | sq ks lo =>
   simp only [segFrom, Bool.and_eq_true] at hB
   simp only [segs, wpSeg] at h
   exact sq_ok ks listed a w hsh hB.1 (fun a' w' hsh' _ hR => ih _ a' w' hsh' hB.2 hR) h
theorem wp_region_seg {id : Nat} {a : Act} {w : World} {l : List Oper} (is : List Seg) (hm : P.follows .mixedOrders = true) (hB : segB .any l.toArray is = true)
  (hQ : ∀ c a d v w, Q (.panic c) (a.put d v) w → Q (.panic c) a w)
  (h : wpSeg P l.toArray C Q (segs l is) a w.drew) : (Code.region id l.toArray true).wp P Q a w := by
 simp only [segB, Bool.and_eq_true, beq_iff_eq] at hB
 refine wp_region_any hm (wpAny_of_F (C := C) (loose := looseOf .any l.toArray) _ _ _ _ ?_)
 have := seg_ok (md := .any) (C := C) hB.1.1 hQ is (Array.replicate l.toArray.size false) a w.drew (shut_none _) hB.2 h
 rw [hB.1.2] at this
 exact this
theorem wpSeg_fl {os : List Oper} {r : List SegO} {a : Act} {w : World} (hC : C w) (h : wpQuiet P ops C (fun a' => wpSeg P ops C Q r a' w) os a) : wpSeg P ops C Q (.fl os :: r) a w := ⟨hC, h⟩
theorem wpSeg_sq {os : List Oper} {lo : Bool} {r : List SegO} {a : Act} {w : World}
  (h : ∀ K : Act → World → Prop, (∀ a' w', (lo = true → C w') → wpSeg P ops C Q r a' w' → K a' w') → wpList P ops (Exit.then K Q) os a w) : wpSeg P ops C Q (.sq os lo :: r) a w :=
 h _ (fun _ _ h1 h2 => ⟨h1, h2⟩)
theorem exit_then_self (Q : Exit → Act → World → Prop) : Exit.then (Q .normal) Q = Q := by
 funext e a w
 cases e <;> rfl
theorem wpSeg_last {os : List Oper} {a : Act} {w : World} (h : wpList P ops Q os a w) : wpSeg P ops C Q [.sq os false] a w := by
 unfold wpSeg
 have e : (fun a' w' => (false = true → C w') ∧ wpSeg P ops C Q [] a' w') = Q .normal := by
  funext a' w'
  simp [wpSeg]
 rw [e, exit_then_self]
 exact h
end
theorem elInt : Elem Tryz.prog 47 3 (.int .i64 0) 1 8 := Elem.mk' Tryz.underlying47 (by kernel_rfl) rfl (by decide)
abbrev vi (n : Nat) : Value := .int .i64 (n : Int)
theorem owned_at {w : World} {base e n : Nat} {v : Value} {vs : List Value} (h : w.ownsRow base e 1 v n vs) : ∃ a c, v = .slice a n c ∧ vs.length = n ∧ ∀ i x, vs[i]? = some x → ∃ g, a = some ⟨g, 0, none⟩ ∧ base ≤ g ∧ w.cell? ⟨g, i, none⟩ = some x := by
 have hl : vs.length = n := by have := h.1; simpa using this
 rcases h.2 with ⟨h0, h1⟩ | ⟨g, cap, cur, rfl, hb, hg, h1, h2, h3, h4⟩
 ·subst h0 h1
  simp at hl
  subst hl
  exact ⟨none, 0, rfl, rfl, by simp⟩
 ·exact ⟨_, _, rfl, hl, fun i x hi => ⟨g, rfl, hb, (owned_row h).cell hi⟩⟩
def dirtyL (ds : List Bool) : Nat → List Nat
 | 0 => []
 | k + 1 => dirtyL ds k ++ (if ds.getD k false then [k] else [])
theorem dirtyL_len (ds : List Bool) (k : Nat) : (dirtyL ds k).length ≤ k := by
 induction k with
 | zero => simp [dirtyL]
 | succ k ih => unfold dirtyL; split <;> simp <;> omega
theorem dirtyL_mem (ds : List Bool) (k l : Nat) : l ∈ dirtyL ds k ↔ l < k ∧ ds.getD l false = true := by
 induction k with
 | zero => simp [dirtyL]
 | succ k ih =>
  unfold dirtyL
  rw [List.mem_append, ih]
  constructor
  ·rintro (⟨h1, h2⟩ | h)
   ·exact ⟨by omega, h2⟩
   ·split at h
    ·rename_i hd
     simp at h; subst h; exact ⟨by omega, hd⟩
    ·simp at h
  ·rintro ⟨h1, h2⟩
   by_cases e : l = k
   ·subst e; right; rw [if_pos h2]; simp
   ·left; exact ⟨by omega, h2⟩
set_option maxHeartbeats 1000000 in
theorem dirty_any {w : World} {F : Foot} {S : Dev} (h : DevAt w F S) :
  Calls Tryz.prog 56 #[vdev F] w fun e w' => ∃ v, e = .returned v ∧ w'.ownsRow w.heap.size 3 1 v (dirtyL S.dirty S.dirty.length).length ((dirtyL S.dirty S.dirty.length).map vi) ∧ Below w.heap.size w w' := by
 have c1 : w.cell? ⟨F.d, 3, none⟩ = some (.slice (some ⟨F.t, 0, none⟩) S.dirty.length F.ct) := cell_of_row _ _ 3 _ _ _ h.head
 have hsm := h.small
 have hl := h.lenD
 have hn : S.dirty.length ≤ 1000000 := by omega
 have HR := LH h.dirty
 clear hsm hl h
 obtain ⟨n, hnn⟩ : ∃ n, n = S.dirty.length := ⟨_, rfl⟩
 rw [← hnn] at hn c1 ⊢
 have HN := LH hnn
 clear hnn
 go_enter Tryz.func56, Tryz.ntmps56
 go_wp2_with fail
 go_loopw [3, 11] (fun v i wr => ∃ k : Nat, k ≤ n ∧ i = .int .i64 k ∧ wr.ownsRow w.heap.size 3 1 v (dirtyL S.dirty k).length ((dirtyL S.dirty k).map vi) ∧ Below w.heap.size w wr) (fun _ i _ => n - (intOf i).toNat)
 case atStart => exact ⟨0, Nat.zero_le _, rfl, ⟨rfl, .inl ⟨rfl, rfl⟩⟩, Below.refl _ _⟩
 case round =>
  obtain ⟨k, hk, rfl, ho, hb⟩ := hrel
  obtain ⟨a1, c1', rfl, hc1, hm1⟩ := owned_form ho
  have hdl := dirtyL_len S.dirty k
  have HO := LH ho
  have HB := LH hb
  clear ho hb
  by_cases hlt : k < n
  ·have hlt' : (k : Int) < (n : Int) := by omega
   have HS : Hid (dirtyL S.dirty (k + 1) = dirtyL S.dirty k ++ (if S.dirty.getD k false then [k] else [])) := LH rfl
   have d0 : wr.cell? ⟨F.t, k, none⟩ = some (.bool (S.dirty.getD k false)) := below_cells HB.out (HR.out.cell (by have := HN.out; simp [← this, hlt])) (Nat.le_refl _)
   cases hq : S.dirty.getD k false
   ·rw [hq] at d0 HS
    clear hq
    go_wp2_with fail
    refine ⟨⟨k + 1, by omega, vint (by omega), ?_, HB.out⟩, by simp [intOf]; omega⟩
    rw [HS.out]
    simpa using HO.out
   ·rw [hq] at d0 HS
    have hone : Hid (∀ u ∈ (#[Value.int .i64 (k : Int)] : Array Value).toList, u.oneCell' = true) := LH (by intro u hu; simp at hu; subst hu; rfl)
    have hbase : Hid (w.heap.size ≤ wr.heap.size) := LH HB.out.size
    have hk9 : Hid ((dirtyL S.dirty k).length < 1000000000000) := LH (by omega)
    clear hq hdl hc1 hm1
    generalize hz : (dirtyL S.dirty k).length = z at *
    have HZ := LH hz
    clear hz
    go_wp2_with (at_builtin; refine wpList_append_new (us := #[.int .i64 (k : Int)]) elInt HO.out rfl hone.out hk9.out (by decide) hbase.out rfl rfl rfl (by simp [Act.eval]) ?_; intro g6 c6 w6 ho6 hg6 hc6 hm6 hb6 hl6; have HO6 := LH ho6; have HG6 := LH hg6; clear ho6 hg6)
    refine ⟨⟨k + 1, by omega, vint (by omega), ?_, below_grownBy HB.out HO.out HG6.out (Nat.le_refl _) (Nat.le_refl _)⟩, by simp [intOf]; omega⟩
    rw [HS.out]
    simpa [HZ.out] using HO6.out
  ·obtain rfl : k = n := by omega
   have hlt' : decide ((k : Int) < (k : Int)) = false := by simp
   go_wp2_with fail
   go_ret
   exact ⟨_, rfl, HO.out, HB.out⟩
def crashOne (S : Dev) (out : List Nat) (l c : Nat) : List Nat :=
 if c % 3 = 1 then (if S.pending.getD l false then splice out (8 * l) (seg S.flushed l) else out)
 else if c % 3 = 2 then splice out (8 * l) (seg S.cache l) else out
def crashTo (S : Dev) (ls cs : List Nat) : Nat → List Nat
 | 0 => S.lasting
 | i + 1 => crashOne S (crashTo S ls cs i) (ls.getD i 0) (cs.getD i 0)
def Dev.crashW (S : Dev) (cs : List Nat) : List Nat := crashTo S (dirtyL S.dirty S.dirty.length) cs (min (dirtyL S.dirty S.dirty.length).length cs.length)
def Dev.crash (S : Dev) (cs : List Nat) : Dev := freshDev (S.crashW cs) S.dirty.length
structure Dev.wf (S : Dev) : Prop where
 lenL : S.lasting.length = S.cache.length
 lenF : S.flushed.length = S.cache.length
 lenP : S.pending.length = S.dirty.length
 lenD : S.cache.length = 8 * S.dirty.length
 small : S.cache.length ≤ 1000000
 u64L : ∀ z ∈ S.lasting, z < 18446744073709551616
 u64C : ∀ z ∈ S.cache, z < 18446744073709551616
 u64F : ∀ z ∈ S.flushed, z < 18446744073709551616
theorem DevAt.wf {w : World} {F : Foot} {S : Dev} (h : DevAt w F S) : S.wf := ⟨h.lenL, h.lenF, h.lenP, h.lenD, h.small, h.u64L, h.u64C, h.u64F⟩
theorem crashTo_wf {S : Dev} (h : S.wf) (ls cs : List Nat) (hls : ∀ l ∈ ls, l < S.dirty.length) : ∀ i, i ≤ ls.length → (crashTo S ls cs i).length = S.cache.length ∧ ∀ z ∈ crashTo S ls cs i, z < 18446744073709551616
 | 0, _ => ⟨h.lenL, h.u64L⟩
 | i + 1, hi => by
  obtain ⟨h1, h2⟩ := crashTo_wf h ls cs hls i (by omega)
  have hl : ls.getD i 0 < S.dirty.length := hls _ (by simp [show i < ls.length by omega])
  have hD := h.lenD
  unfold crashTo crashOne
  generalize ls.getD i 0 = l at *
  split
  ·split
   ·have hs := seg_length S.flushed l (by rw [h.lenF]; omega)
    exact ⟨by rw [length_splice _ _ _ (by rw [hs]; omega)]; exact h1, splice_lt _ h2 (seg_lt _ h.u64F)⟩
   ·exact ⟨h1, h2⟩
  ·split
   ·have hs := seg_length S.cache l (by omega)
    exact ⟨by rw [length_splice _ _ _ (by rw [hs]; omega)]; exact h1, splice_lt _ h2 (seg_lt _ h.u64C)⟩
   ·exact ⟨h1, h2⟩
set_option maxHeartbeats 2000000 in
set_option maxRecDepth 100000 in
theorem crash_any {w : World} {F : Foot} {S : Dev} (h : DevAt w F S) (a : Option Addr) (m cap : Nat) (cs : List Nat) (hm : cs.length = m) (hc : Cells w a (cs.map vu8)) (hu : ∀ z ∈ cs, z < 256) (hmx : m ≤ 1000000000) :
  Calls Tryz.prog 23 #[vdev F, .slice a m cap] w fun e w' => ∃ G : Foot, e = .returned (vdev G) ∧ (∀ k ∈ G.list, w.heap.size ≤ k) ∧ DevAt w' G (S.crash cs) ∧ Below w.heap.size w w' := by
 have c0 : w.cell? ⟨F.d, 0, none⟩ = some (.slice (some ⟨F.l, 0, none⟩) S.cache.length F.cl) := cell_of_row _ _ 0 _ _ _ h.head
 have HWF := LH h.wf
 have HD := LH h
 have HMEM := LH h.mem
 have HM := LH hm
 have HC := LH hc
 have HU := LH hu
 clear hm hc hu
 have hls : ∀ l ∈ dirtyL S.dirty S.dirty.length, l < S.dirty.length := fun l hl => ((dirtyL_mem _ _ _).1 hl).1
 have hlsl := dirtyL_len S.dirty S.dirty.length
 have HCR : Hid (S.crash cs = freshDev (crashTo S (dirtyL S.dirty S.dirty.length) cs (min (dirtyL S.dirty S.dirty.length).length cs.length)) S.dirty.length) := LH rfl
 have hsml : S.cache.length ≤ 1000000 := h.small
 have HLD : Hid (S.cache.length = 8 * S.dirty.length) := LH h.lenD
 clear h
 have HLS := LH hls
 clear hls
 go_enter Tryz.func23, Tryz.ntmps23
 go_wp2_with fail
 refine (clone_any F.l 0 F.cl S.lasting HWF.out.lenL w (fun i v hi => by rw [Nat.zero_add]; exact HD.out.lasting.cell hi) (by rw [HWF.out.lenL]; exact hsml)).mono ?_
 rintro e w1 ⟨v1, rfl, ho1, hb1, hn1⟩
 obtain ⟨g, cg, rfl, hg1, hg2, hg3, hg4, hg5, hr1⟩ := NewRow.of ho1 hn1 (Nat.le_refl _)
 have hd1 := HD.out.below hb1
 have HB1 := LH hb1
 have HR1 := LH hr1
 have HD1 := LH hd1
 clear hb1 hr1 hd1
 clear ho1 hn1 HD c0
 go_wp2_with fail
 refine (dirty_any HD1.out).mono ?_
 rintro e w2 ⟨v2, rfl, ho2, hb2⟩
 generalize dirtyL S.dirty S.dirty.length = ls at *
 obtain ⟨a2, c2, rfl, hl2, hat2⟩ := owned_at ho2
 have HAT : Hid (∀ i, i < ls.length → ∃ b, a2 = some ⟨b, 0, none⟩ ∧ b ≠ g ∧ w2.cell? ⟨b, i, none⟩ = some (vi (ls.getD i 0))) := LH (fun i hi => by
  obtain ⟨b, h1, h2, h3⟩ := hat2 i (vi (ls.getD i 0)) (by simp [hi])
  exact ⟨b, h1, by omega, h3⟩)
 have HR2 := LH (HR1.out.keep (hb2.block g hg4))
 have HD2 := LH (HD1.out.below hb2)
 have HB2 := LH (HB1.out.trans (hb2.mono HB1.out.size))
 have HGF : Hid (∀ k ∈ F.list, k ≠ g) := LH (fun k hk e => by have := HMEM.out k hk; omega)
 clear hat2 ho2 hb2 HR1 HD1 HB1 hl2
 go_wp2_with fail
 go_loopw [16] (fun i wr => ∃ k : Nat, k ≤ ls.length ∧ k ≤ m ∧ i = .int .i64 k ∧ RowAt wr g 40 ((crashTo S ls cs k).map vu64) ∧ Touch [g] w2 wr) (fun i _ => ls.length - (intOf i).toNat)
 case atStart => exact ⟨0, Nat.zero_le _, Nat.zero_le _, rfl, HR2.out, Touch.refl _ _⟩
 case round =>
  obtain ⟨k, hk, hkm, rfl, hrr, htr⟩ := hrel
  have hol := (crashTo_wf HWF.out ls cs HLS.out k hk)
  have hdr := HD2.out.keep (fun b hb => htr.block b (HD2.out.mem b hb) (by simpa using HGF.out b hb))
  have HDr := LH hdr
  have HRr := LH hrr
  have HTr := LH htr
  have HOL := LH hol.1
  have HOU := LH hol.2
  clear hrr htr hol hdr
  have fin : Hid (k = min ls.length m → Calls Tryz.prog 43 #[.slice (some ⟨g, 0, none⟩) S.cache.length cg] wr fun e w' => ∃ G : Foot, e = .returned (vdev G) ∧ (∀ k ∈ G.list, w.heap.size ≤ k) ∧ DevAt w' G (S.crash cs) ∧ Below w.heap.size w w') := LH (fun hkk => by
   refine (load_any (crashTo S ls cs k) HOL.out HLD.out HRr.out hg1 hsml HOU.out).mono ?_
   rintro e w5 ⟨G, rfl, hG, hd5, hb5⟩
   have hbr : Below w.heap.size w wr := below_touch HB2.out HTr.out (fun q hq => by simp at hq; omega) (Nat.le_refl _)
   refine ⟨G, rfl, fun q hq => ?_, ?_, hbr.trans (hb5.mono hbr.size)⟩
   ·rcases hG q hq with rfl | hq
    ·exact hg3
    ·exact Nat.le_trans hbr.size hq
   ·rw [HCR.out, HM.out, ← hkk]
    exact hd5)
  by_cases hlt : k < ls.length
  ·have hlt' : (k : Int) < (ls.length : Int) := by omega
   obtain ⟨b2, rfl, hbg, hcl⟩ := HAT.out k hlt
   have d0 : wr.cell? ⟨b2, k, none⟩ = some (vi (ls.getD k 0)) := cell_of_touch HTr.out (by simpa using hbg) hcl
   have hl1 : ls.getD k 0 < S.dirty.length := HLS.out _ (by simp [hlt])
   have HST0 : Hid (crashTo S ls cs (k + 1) = crashOne S (crashTo S ls cs k) (ls.getD k 0) (cs.getD k 0)) := LH rfl
   generalize ls.getD k 0 = l at *
   clear hcl
   by_cases hkm2 : k < m
   ·have hkm' : ¬ (m : Int) ≤ (k : Int) := by omega
    obtain ⟨b3, o3, rfl, d1⟩ : ∃ b o, a = some ⟨b, o, none⟩ ∧ wr.cell? ⟨b, o + k, none⟩ = some (vu8 (cs.getD k 0)) := by
     have hwr : Cells wr a (cs.map vu8) := by
      have h1 := HC.out.below HB2.out (Nat.le_refl _)
      rcases HC.out with h0 | ⟨b, o, rfl, h0⟩
      ·exact .inl h0
      ·refine .inr ⟨b, o, rfl, fun i v hi => ?_⟩
       have hlt0 := World.block_lt_of_cell? _ _ (h0 i v hi)
       exact cell_of_touch HTr.out (by simp at hlt0 ⊢; omega) (below_cells HB2.out (h0 i v hi) (Nat.le_refl _))
     obtain ⟨b, o, h1, h2⟩ := hwr.atMap 0 (i := k) (by rw [HM.out]; exact hkm2)
     exact ⟨b, o, h1, h2.2 k (by rw [HM.out]; exact hkm2)⟩
    have hcu : cs.getD k 0 < 256 := HU.out _ (by simp [HM.out, hkm2])
    have e1 : wr.cell? ⟨F.d, 1, none⟩ = some (.slice (some ⟨F.c, 0, none⟩) S.cache.length F.cc) := cell_of_row _ _ 1 _ _ _ HDr.out.head
    have e2 : wr.cell? ⟨F.d, 2, none⟩ = some (.slice (some ⟨F.f, 0, none⟩) S.cache.length F.cf) := cell_of_row _ _ 2 _ _ _ HDr.out.head
    have e4 : wr.cell? ⟨F.d, 4, none⟩ = some (.slice (some ⟨F.p, 0, none⟩) S.dirty.length F.cp) := cell_of_row _ _ 4 _ _ _ HDr.out.head
    have p4 : wr.cell? ⟨F.p, l, none⟩ = some (.bool (S.pending.getD l false)) := HDr.out.pending.cell (by have := HWF.out.lenP; simp [show l < S.pending.length by omega])
    have h8 : 8 * l + 8 ≤ S.cache.length := by have := HLD.out; omega
    generalize cs.getD k 0 = c at *
    have HCC : Hid (c % 3 = 1 ∨ c % 3 = 2 ∨ c % 3 = 0) := LH (by omega)
    go_upto_region 7 with fail
    rcases HCC.out with hc | hc | hc
    ·have hq : (((c : Int) % 3 == 1) = true) := by simp; omega
     cases hpd : S.pending.getD l false
     ·rw [hpd] at p4
      have HST : Hid (crashTo S ls cs (k + 1) = crashTo S ls cs k) := LH (by rw [HST0.out, crashOne, if_pos hc, hpd]; rfl)
      clear hc hpd
      go_wp2_with fail
      refine ⟨⟨k + 1, by omega, by omega, vint (by omega), ?_, HTr.out⟩, by simp [intOf]; omega⟩
      rw [HST.out]
      exact HRr.out
     ·rw [hpd] at p4
      have HST : Hid (crashTo S ls cs (k + 1) = splice (crashTo S ls cs k) (8 * l) (seg S.flushed l)) := LH (by rw [HST0.out, crashOne, if_pos hc, hpd]; rfl)
      clear hc hpd
      go_wp2_with fail
      have q1 := fun x => later_cell (w := wr) e2 x
      have hcap : S.cache.length ≤ F.cf := HDr.out.capF
      refine wp_region_seg (C := fun w' => ∃ x : Later (wr), w' = x.val) [.fl [0, 1, 2, 4, 5, 6, 7, 8, 9], .sq [3] true, .sq [10, 11] false] (by kernel_rfl) (by kernel_rfl) (by intro c a d v w h; cases d <;> exact h) ?_
      simp only [segs, picks, List.getElem?_cons_succ, List.getElem?_cons_zero]
      have hC1 := later_drew (wr)
      refine wpSeg_fl hC1 ?_
      repeat (first | go_big_quiet_step (fail) | quiet_step (fail))
      refine wpQuiet_nil ?_
      refine wpSeg_sq (fun K hK => ?_)
      go_wp2_with fail
      refine (part_any _ g S.cache.length cg l h8 hg1 hsml _).mono ?_
      rintro e w3 ⟨rfl, rfl⟩
      go_wp2_with fail
      refine hK _ _ (fun _ => hC1) ?_
      clear hK K
      refine wpSeg_last ?_
      go_wp2_with fail
      refine (part_any _ F.f S.cache.length F.cf l h8 hcap hsml _).mono ?_
      rintro e w3 ⟨rfl, rfl⟩
      have HRd : Hid (RowAt wr.drew g 40 ((crashTo S ls cs k).map vu64)) := LH (HRr.out.keep rfl)
      have HDd := LH (HDr.out.below (later_below hC1))
      have hsl : Hid ((seg S.flushed l).length = 8) := LH (seg_length S.flushed l (by have := HWF.out.lenF; omega))
      have HSg := LH (seg_cell HDd.out.flushed l)
      have hfit : Hid (8 * l + ((seg S.flushed l).map vu64).length ≤ ((crashTo S ls cs k).map vu64).length) := LH (by simp [hsl.out, HOL.out]; omega)
      have hmin : Hid (((seg S.flushed l).map vu64).length = Nat.min 8 8) := LH (by simp [hsl.out])
      go_wp2_with (refine wpList_copy_row (off := 8 * l) (dLen := 8) (sLen := 8) rfl rfl Tryz.underlying31 (by kernel_rfl) rfl rfl HRd.out ((seg S.flushed l).map vu64) hmin.out HSg.out hfit.out (one_cells _) ?_; intro w4 hr4 ht4; have HR4 := LH hr4; have HT4 := LH ht4; clear hr4 ht4)
      refine ⟨⟨k + 1, by omega, by omega, vint (by omega), ?_, HTr.out.trans ((Touch.ofBelow (later_below hC1)).trans HT4.out)⟩, by simp [intOf]; omega⟩
      rw [HST.out, ← splice_map]
      exact HR4.out
    ·have hq : (((c : Int) % 3 == 1) = false) := by simp; omega
     have hq2 : (((c : Int) % 3 == 2) = true) := by simp; omega
     have HST : Hid (crashTo S ls cs (k + 1) = splice (crashTo S ls cs k) (8 * l) (seg S.cache l)) := LH (by rw [HST0.out, crashOne, if_neg (by omega), if_pos hc])
     clear hc
     go_wp2_with fail
     have q1 := fun x => later_cell (w := wr) e1 x
     have hcap : S.cache.length ≤ F.cc := HDr.out.capC
     refine wp_region_seg (C := fun w' => ∃ x : Later (wr), w' = x.val) [.fl [0, 1, 2, 4, 5, 6, 7, 8, 9], .sq [3] true, .sq [10, 11] false] (by kernel_rfl) (by kernel_rfl) (by intro c a d v w h; cases d <;> exact h) ?_
     simp only [segs, picks, List.getElem?_cons_succ, List.getElem?_cons_zero]
     have hC1 := later_drew (wr)
     refine wpSeg_fl hC1 ?_
     repeat (first | go_big_quiet_step (fail) | quiet_step (fail))
     refine wpQuiet_nil ?_
     refine wpSeg_sq (fun K hK => ?_)
     go_wp2_with fail
     refine (part_any _ g S.cache.length cg l h8 hg1 hsml _).mono ?_
     rintro e w3 ⟨rfl, rfl⟩
     go_wp2_with fail
     refine hK _ _ (fun _ => hC1) ?_
     clear hK K
     refine wpSeg_last ?_
     go_wp2_with fail
     refine (part_any _ F.c S.cache.length F.cc l h8 hcap hsml _).mono ?_
     rintro e w3 ⟨rfl, rfl⟩
     have HRd : Hid (RowAt wr.drew g 40 ((crashTo S ls cs k).map vu64)) := LH (HRr.out.keep rfl)
     have HDd := LH (HDr.out.below (later_below hC1))
     have hsl : Hid ((seg S.cache l).length = 8) := LH (seg_length S.cache l (by have := HWF.out.lenF; omega))
     have HSg := LH (seg_cell HDd.out.cache l)
     have hfit : Hid (8 * l + ((seg S.cache l).map vu64).length ≤ ((crashTo S ls cs k).map vu64).length) := LH (by simp [hsl.out, HOL.out]; omega)
     have hmin : Hid (((seg S.cache l).map vu64).length = Nat.min 8 8) := LH (by simp [hsl.out])
     go_wp2_with (refine wpList_copy_row (off := 8 * l) (dLen := 8) (sLen := 8) rfl rfl Tryz.underlying31 (by kernel_rfl) rfl rfl HRd.out ((seg S.cache l).map vu64) hmin.out HSg.out hfit.out (one_cells _) ?_; intro w4 hr4 ht4; have HR4 := LH hr4; have HT4 := LH ht4; clear hr4 ht4)
     refine ⟨⟨k + 1, by omega, by omega, vint (by omega), ?_, HTr.out.trans ((Touch.ofBelow (later_below hC1)).trans HT4.out)⟩, by simp [intOf]; omega⟩
     rw [HST.out, ← splice_map]
     exact HR4.out
    ·have hq : (((c : Int) % 3 == 1) = false) := by simp; omega
     have hq2 : (((c : Int) % 3 == 2) = false) := by simp; omega
     have HST : Hid (crashTo S ls cs (k + 1) = crashTo S ls cs k) := LH (by rw [HST0.out, crashOne, if_neg (by omega), if_neg (by omega)])
     clear hc
     go_wp2_with fail
     refine ⟨⟨k + 1, by omega, by omega, vint (by omega), ?_, HTr.out⟩, by simp [intOf]; omega⟩
     rw [HST.out]
     exact HRr.out
   ·obtain rfl : k = m := by omega
    have hkm' : (k : Int) ≤ (k : Int) := Int.le_refl _
    have HF := LH (fin.out (by omega))
    clear fin
    go_wp2_with fail
    refine HF.out.mono ?_
    rintro e w5 hz
    obtain ⟨G, rfl, hz2⟩ := hz
    have HZ2 := LH hz2
    clear hz2
    go_wp2_with fail
    go_ret
    exact ⟨G, rfl, HZ2.out⟩
  ·obtain rfl : k = ls.length := by omega
   have hlt' : decide ((ls.length : Int) < (ls.length : Int)) = false := by simp
   have HF := LH (fin.out (by omega))
   clear fin
   go_wp2_with fail
   refine HF.out.mono ?_
   rintro e w5 hz
   obtain ⟨G, rfl, hz2⟩ := hz
   have HZ2 := LH hz2
   clear hz2
   go_wp2_with fail
   go_ret
   exact ⟨G, rfl, HZ2.out⟩
end Go.Proofs.YtpohaahihdhleaaGreat
namespace Go.Proofs.YtpohaahihdhleaaGreat
theorem splice_getD (l s : List Nat) (o i : Nat) (h : o + s.length ≤ l.length) : (splice l o s).getD i 0 = if o ≤ i ∧ i < o + s.length then s.getD (i - o) 0 else l.getD i 0 := by
 unfold splice
 simp only [List.getD_eq_getElem?_getD]
 by_cases h1 : i < o
 ·rw [if_neg (by omega), List.getElem?_append_left (by simp; omega), List.getElem?_take_of_lt h1]
 ·rw [List.getElem?_append_right (by simp; omega), show (l.take o).length = o by simp; omega]
  by_cases h2 : i < o + s.length
  ·rw [if_pos (by omega), List.getElem?_append_left (by omega)]
  ·rw [if_neg (by omega), List.getElem?_append_right (by omega), List.getElem?_drop, show o + s.length + (i - o - s.length) = i by omega]
theorem seg_getD (l : List Nat) (j i : Nat) (hi : 8 * j ≤ i) (h2 : i < 8 * j + 8) : (seg l j).getD (i - 8 * j) 0 = l.getD i 0 := by
 rw [List.getD_eq_getElem?_getD, seg_at l j (i - 8 * j) (by omega), show 8 * j + (i - 8 * j) = i by omega, ← List.getD_eq_getElem?_getD]
theorem seg_eq_iff (l m : List Nat) (j : Nat) (h1 : 8 * j + 8 ≤ l.length) (h2 : 8 * j + 8 ≤ m.length) : seg l j = seg m j ↔ ∀ i, 8 * j ≤ i → i < 8 * j + 8 → l.getD i 0 = m.getD i 0 := by
 constructor
 ·intro h i hi hi2
  rw [← seg_getD l j i hi hi2, ← seg_getD m j i hi hi2, h]
 ·intro h
  apply List.ext_getElem (by rw [seg_length l j h1, seg_length m j h2])
  intro i hi1 hi2
  rw [seg_length l j h1] at hi1
  have := h (8 * j + i) (by omega) (by omega)
  have e1 := seg_getD l j (8 * j + i) (by omega) (by omega)
  have e2 := seg_getD m j (8 * j + i) (by omega) (by omega)
  rw [show 8 * j + i - 8 * j = i by omega] at e1 e2
  rw [this, ← e2] at e1
  simpa [List.getD_eq_getElem?_getD, seg_length l j h1, seg_length m j h2, hi1] using e1
theorem splice_seg_getD (l s : List Nat) (j i : Nat) (h1 : 8 * j + 8 ≤ l.length) (h2 : 8 * j + 8 ≤ s.length) : (splice l (8 * j) (seg s j)).getD i 0 = if i / 8 = j then s.getD i 0 else l.getD i 0 := by
 have hl := seg_length s j h2
 rw [splice_getD _ _ _ _ (by rw [hl]; exact h1), hl]
 by_cases h : i / 8 = j
 ·rw [if_pos (by omega), if_pos h, seg_getD s j i (by omega) (by omega)]
 ·rw [if_neg (by omega), if_neg h]
theorem getD_setB (l : List Bool) (i j : Nat) (b : Bool) (hi : i < l.length) : (l.set i b).getD j false = if j = i then b else l.getD j false := by
 simp only [List.getD_eq_getElem?_getD]
 by_cases h : j = i
 ·subst h; rw [if_pos rfl, List.getElem?_set_self hi]; rfl
 ·rw [if_neg h, List.getElem?_set_ne (Ne.symm h)]
theorem getD_setN (l : List Nat) (i j x : Nat) (hi : i < l.length) : (l.set i x).getD j 0 = if j = i then x else l.getD j 0 := by
 simp only [List.getD_eq_getElem?_getD]
 by_cases h : j = i
 ·subst h; rw [if_pos rfl, List.getElem?_set_self hi]; rfl
 ·rw [if_neg h, List.getElem?_set_ne (Ne.symm h)]
structure Dev.inv (S : Dev) : Prop where
 wf : S.wf
 sound : ∀ j, S.dirty.getD (j / 8) false = false → S.lasting.getD j 0 = S.cache.getD j 0
 pend : ∀ l, S.pending.getD l false = true → S.dirty.getD l false = true
theorem Dev.step_wf {S : Dev} (h : S.wf) : S.step.wf := by
 unfold Dev.step
 split
 ·exact ⟨h.lenL, h.lenF, h.lenP, h.lenD, h.small, h.u64L, h.u64C, h.u64F⟩
 ·exact ⟨h.lenL, h.lenF, h.lenP, h.lenD, h.small, h.u64L, h.u64C, h.u64F⟩
theorem Dev.step_inv {S : Dev} (h : S.inv) : S.step.inv := by
 obtain ⟨e1, e2, e3, e4, e5⟩ := S.step_rest
 exact ⟨Dev.step_wf h.wf, by rw [e1, e2, e4]; exact h.sound, by rw [e5, e4]; exact h.pend⟩
theorem fresh_inv {ws : List Nat} {m : Nat} (h8 : ws.length = 8 * m) (hs : ws.length ≤ 1000000) (hu : ∀ z ∈ ws, z < 18446744073709551616) : (freshDev ws m).inv := by
 refine ⟨⟨rfl, by simp [freshDev], by simp [freshDev], by simpa [freshDev] using h8, hs, hu, hu, ?_⟩, fun j _ => rfl, fun l hl => ?_⟩
 ·intro z hz
  simp [freshDev] at hz
  omega
 ·exfalso
  simp [freshDev, List.getD_eq_getElem?_getD, List.getElem?_replicate] at hl
  split at hl <;> simp at hl
theorem Dev.put_inv {S : Dev} (h : S.inv) (i x : Nat) (hi : i < S.cache.length) (hx : x < 18446744073709551616) : (S.put i x).inv := by
 have hw := h.wf
 have hD := hw.lenD
 have hl : i / 8 < S.dirty.length := by omega
 refine ⟨⟨by simp [Dev.put, hw.lenL], by simp [Dev.put, hw.lenF], by simp [Dev.put, hw.lenP], by simp [Dev.put, hD], by simp [Dev.put, hw.small], hw.u64L, set_lt hw.u64C _ _ hx, hw.u64F⟩, fun j hj => ?_, fun l hl2 => ?_⟩
 ·simp only [Dev.put] at hj ⊢
  rw [getD_setB _ _ _ _ hl] at hj
  rw [getD_setN _ _ _ _ hi]
  split at hj
  ·cases hj
  ·rw [if_neg (by rintro rfl; simp at *)]
   exact h.sound j hj
 ·simp only [Dev.put] at hl2 ⊢
  rw [getD_setB _ _ _ _ hl]
  split
  ·rfl
  ·exact h.pend l hl2
theorem Dev.store_inv {S : Dev} (h : S.inv) (i : Int) (x : Nat) (hx : x < 18446744073709551616) : (S.store i x).inv := by
 unfold Dev.store
 split
 ·exact h
 ·split
  ·exact Dev.step_inv h
  ·exact Dev.put_inv (Dev.step_inv h) _ _ (by rw [(Dev.step_rest S).2.1]; omega) hx
theorem Dev.hold_inv {S : Dev} (h : S.inv) (j : Nat) (hj : j < S.dirty.length) : (S.hold j).inv := by
 have hw := h.wf
 have hD := hw.lenD
 unfold Dev.hold
 split
 ·rename_i hd
  have hs := seg_length S.cache j (by omega)
  refine ⟨⟨hw.lenL, by rw [length_splice _ _ _ (by rw [hs, hw.lenF]; omega)]; exact hw.lenF, by simp [hw.lenP], hD, hw.small, hw.u64L, hw.u64C, splice_lt _ hw.u64F (seg_lt _ hw.u64C)⟩, h.sound, fun l hl => ?_⟩
  dsimp only at hl ⊢
  rw [getD_setB _ _ _ _ (by rw [hw.lenP]; exact hj)] at hl
  split at hl
  ·rename_i e; rw [e]; exact hd
  ·exact h.pend l hl
 ·exact h
theorem Dev.flush_inv {S : Dev} (h : S.inv) (j : Int) : (S.flush j).inv := by
 unfold Dev.flush
 split
 ·exact h
 ·split
  ·exact Dev.step_inv h
  ·exact Dev.hold_inv (Dev.step_inv h) _ (by rw [(Dev.step_rest S).2.2.2.1]; omega)
theorem Dev.flushRun_inv {S : Dev} (h : S.inv) (a m : Nat) : (S.flushRun a m).dev.inv := by
 induction m with
 | zero => exact h
 | succ m ih =>
  unfold Dev.flushRun
  split
  ·exact ih
  ·exact Dev.flush_inv ih _
structure FenceAt (S : Dev) (k : Nat) (T : Dev) : Prop where
 cache : T.cache = S.cache
 flushed : T.flushed = S.flushed
 lenD : T.dirty.length = S.dirty.length
 lenP : T.pending.length = S.pending.length
 lenL : T.lasting.length = S.lasting.length
 pending : ∀ l, T.pending.getD l false = if l < k then false else S.pending.getD l false
 dirty : ∀ l, T.dirty.getD l false = if l < k ∧ S.pending.getD l false = true then !decide (seg S.flushed l = seg S.cache l) else S.dirty.getD l false
 lasting : ∀ j, T.lasting.getD j 0 = if j / 8 < k ∧ S.pending.getD (j / 8) false = true then S.flushed.getD j 0 else S.lasting.getD j 0
 u64 : ∀ z ∈ T.lasting, z < 18446744073709551616
theorem fenceTo_at {S : Dev} (h : S.wf) : ∀ k, k ≤ S.dirty.length → FenceAt S k (S.fenceTo k)
 | 0, _ => ⟨rfl, rfl, rfl, rfl, rfl, by simp [Dev.fenceTo], by simp [Dev.fenceTo], by simp [Dev.fenceTo], h.u64L⟩
 | k + 1, hk => by
  have i := fenceTo_at h k (by omega)
  have hD := h.lenD
  have hP := h.lenP
  have hL := h.lenL
  have hF := h.lenF
  unfold Dev.fenceTo
  generalize S.fenceTo k = T at *
  have hp : T.pending.getD k false = S.pending.getD k false := by rw [i.pending k, if_neg (by omega)]
  unfold Dev.settle
  rw [hp]
  cases hq : S.pending.getD k false
  ·simp only [Bool.false_eq_true, if_false]
   refine ⟨i.cache, i.flushed, i.lenD, i.lenP, i.lenL, fun l => ?_, fun l => ?_, fun j => ?_, i.u64⟩
   ·rw [i.pending l]
    by_cases e : l = k
    ·subst e; rw [if_neg (by omega), if_pos (by omega), hq]
    ·by_cases h1 : l < k
     ·rw [if_pos h1, if_pos (by omega)]
     ·rw [if_neg h1, if_neg (by omega)]
   ·rw [i.dirty l]
    by_cases e : l = k
    ·subst e; rw [if_neg (by omega), if_neg (by rw [hq]; simp)]
    ·by_cases h1 : l < k ∧ S.pending.getD l false = true
     ·rw [if_pos h1, if_pos ⟨by omega, h1.2⟩]
     ·rw [if_neg h1, if_neg (fun h2 => h1 ⟨by omega, h2.2⟩)]
   ·rw [i.lasting j]
    by_cases e : j / 8 = k
    ·rw [if_neg (by omega), if_neg (by rw [e, hq]; simp)]
    ·by_cases h1 : j / 8 < k ∧ S.pending.getD (j / 8) false = true
     ·rw [if_pos h1, if_pos ⟨by omega, h1.2⟩]
     ·rw [if_neg h1, if_neg (fun h2 => h1 ⟨by omega, h2.2⟩)]
  ·simp only [if_true]
   rw [i.flushed, i.cache]
   have hs := seg_length S.flushed k (by omega)
   have hlT : 8 * k + 8 ≤ T.lasting.length := by rw [i.lenL]; omega
   refine ⟨rfl, rfl, by simp [i.lenD], by simp [i.lenP], by rw [length_splice _ _ _ (by rw [hs]; exact hlT)]; exact i.lenL, fun l => ?_, fun l => ?_, fun j => ?_, splice_lt _ i.u64 (seg_lt _ h.u64F)⟩
   ·dsimp only
    rw [getD_setB _ _ _ _ (by rw [i.lenP]; omega), i.pending l]
    by_cases e : l = k
    ·subst e; rw [if_pos rfl, if_pos (by omega)]
    ·rw [if_neg e]
     by_cases h1 : l < k
     ·rw [if_pos h1, if_pos (by omega)]
     ·rw [if_neg h1, if_neg (by omega)]
   ·dsimp only
    rw [getD_setB _ _ _ _ (by rw [i.lenD]; omega), i.dirty l]
    by_cases e : l = k
    ·subst e; rw [if_pos rfl, if_pos ⟨by omega, hq⟩]
    ·rw [if_neg e]
     by_cases h1 : l < k ∧ S.pending.getD l false = true
     ·rw [if_pos h1, if_pos ⟨by omega, h1.2⟩]
     ·rw [if_neg h1, if_neg (fun h2 => h1 ⟨by omega, h2.2⟩)]
   ·dsimp only
    rw [splice_seg_getD _ _ _ _ hlT (by omega), i.lasting j]
    by_cases e : j / 8 = k
    ·rw [if_pos e, if_pos ⟨by omega, by rw [e]; exact hq⟩]
    ·rw [if_neg e]
     by_cases h1 : j / 8 < k ∧ S.pending.getD (j / 8) false = true
     ·rw [if_pos h1, if_pos ⟨by omega, h1.2⟩]
     ·rw [if_neg h1, if_neg (fun h2 => h1 ⟨by omega, h2.2⟩)]
theorem getD_false_of {l : List Bool} {i : Nat} (h : l.length ≤ i) : l.getD i false = false := by simp [List.getD_eq_getElem?_getD, List.getElem?_eq_none h]
theorem getD_zero_of {l : List Nat} {i : Nat} (h : l.length ≤ i) : l.getD i 0 = 0 := by simp [List.getD_eq_getElem?_getD, List.getElem?_eq_none h]
theorem Dev.fence_at {S : Dev} (h : S.wf) (hs : S.stop = false) : FenceAt S S.dirty.length S.fence := by
 unfold Dev.fence
 rw [hs]
 simp only [Bool.false_eq_true, if_false]
 obtain ⟨e1, e2, e3, e4, e5⟩ := S.step_rest
 have i := fenceTo_at (Dev.step_wf h) S.dirty.length (by rw [e4]; exact Nat.le_refl _)
 exact ⟨by rw [← e2]; exact i.cache, by rw [← e3]; exact i.flushed, by rw [← e4]; exact e4 ▸ i.lenD, by rw [← e5]; exact i.lenP, by rw [← e1]; exact i.lenL, by have := i.pending; rwa [e5] at this, by have := i.dirty; rwa [e5, e3, e2, e4] at this, by have := i.lasting; rwa [e5, e3, e1] at this, i.u64⟩
theorem Dev.fence_inv {S : Dev} (h : S.inv) : S.fence.inv := by
 by_cases hs : S.stop = true
 ·unfold Dev.fence; rw [hs]; exact Dev.step_inv h
 ·have i := Dev.fence_at h.wf (by simpa using hs)
  have hw := h.wf
  have hD := hw.lenD
  generalize S.fence = T at *
  refine ⟨⟨by rw [i.lenL, i.cache]; exact hw.lenL, by rw [i.flushed, i.cache]; exact hw.lenF, by rw [i.lenP, i.lenD]; exact hw.lenP, by rw [i.cache, i.lenD]; exact hD, by rw [i.cache]; exact hw.small, i.u64, by rw [i.cache]; exact hw.u64C, by rw [i.flushed]; exact hw.u64F⟩, fun j hj => ?_, fun l hl => ?_⟩
  ·rw [i.lasting j, i.cache]
   rw [i.dirty (j / 8)] at hj
   by_cases h1 : j / 8 < S.dirty.length ∧ S.pending.getD (j / 8) false = true
   ·rw [if_pos h1]
    rw [if_pos h1] at hj
    have : seg S.flushed (j / 8) = seg S.cache (j / 8) := by simpa using hj
    exact (seg_eq_iff _ _ _ (by rw [hw.lenF]; omega) (by omega)).1 this j (by omega) (by omega)
   ·rw [if_neg h1]
    rw [if_neg h1] at hj
    exact h.sound j hj
  ·rw [i.pending l] at hl
   by_cases h1 : l < S.dirty.length
   ·rw [if_pos h1] at hl; cases hl
   ·rw [getD_false_of (by rw [hw.lenP]; omega)] at hl
    simp at hl
theorem Dev.persist_inv {S : Dev} (h : S.inv) (p n : Int) : (S.persist p n).dev.inv := by
 unfold Dev.persist
 split
 ·exact h
 ·split
  ·unfold Dev.persistN
   split
   ·exact Dev.flushRun_inv h _ _
   ·exact Dev.fence_inv (Dev.flushRun_inv h _ _)
  ·exact Dev.fence_inv h
theorem settle_steps (S : Dev) (j : Nat) : (S.settle j).steps = S.steps ∧ (S.settle j).fuse = S.fuse := by
 unfold Dev.settle; split <;> exact ⟨rfl, rfl⟩
theorem fenceTo_steps (S : Dev) (k : Nat) : (S.fenceTo k).steps = S.steps ∧ (S.fenceTo k).fuse = S.fuse := by
 induction k with
 | zero => exact ⟨rfl, rfl⟩
 | succ k ih => have h := settle_steps (S.fenceTo k) k; exact ⟨h.1.trans ih.1, h.2.trans ih.2⟩
theorem Dev.fence_ok {S : Dev} {N : Nat} (h : S.ok N) : S.fence.ok (N + 1) := by
 unfold Dev.fence
 split
 ·exact Dev.step_ok h
 ·have := Dev.step_ok h
  have e := fenceTo_steps S.step S.dirty.length
  unfold Dev.ok at *
  rw [e.1, e.2]
  exact this
theorem Dev.persist_ok {S : Dev} (hw : S.wf) {N : Nat} (h : S.ok N) (p n : Int) : (S.persist p n).dev.ok (N + 200000) := by
 have hD := hw.lenD
 have hs := hw.small
 unfold Dev.persist
 split
 ·exact h.mono (by omega)
 ·split
  ·unfold Dev.persistN
   have hM : (((p : Int) + (n : Int) - 1) / 8 - (p : Int) / 8 + 1).toNat ≤ 150000 := by omega
   split
   ·exact (Dev.flushRun_ok h _ _).mono (by omega)
   ·exact (Dev.fence_ok (Dev.flushRun_ok h _ _)).mono (by omega)
  ·exact (Dev.fence_ok h).mono (by omega)
theorem settle_live {S : Dev} (h : S.live) (j : Nat) : (S.settle j).live := by
 unfold Dev.settle; split <;> exact h
theorem fenceTo_live {S : Dev} (h : S.live) (k : Nat) : (S.fenceTo k).live := by
 induction k with
 | zero => exact h
 | succ k ih => exact settle_live ih k
theorem Dev.live.fence {S : Dev} (h : S.live) : S.fence.live := by
 unfold Dev.fence
 rw [h.stop]
 exact fenceTo_live h.step _
theorem Dev.live.persist_live {S : Dev} (h : S.live) (p n : Nat) (hn : 0 < n) (hd : S.cache.length = 8 * S.dirty.length) (hp : p + n ≤ S.cache.length) : (S.persist p n).dev.live := by
 unfold Dev.persist
 rw [if_neg (by omega), if_pos (by omega)]
 unfold Dev.persistN
 obtain ⟨i1, i2, i3, i4⟩ := h.flushRun ((p : Int) / 8).toNat (((p : Int) + (n : Int) - 1) / 8 - (p : Int) / 8 + 1).toNat (by omega)
 rw [if_neg (by rw [i1]; simp)]
 exact i2.fence
theorem Dev.flushRun_held {S : Dev} (h : S.inv) (a : Nat) : ∀ m, (S.flushRun a m).err = 0 → (S.flushRun a m).dev.cache = S.cache ∧ (S.flushRun a m).dev.dirty = S.dirty ∧ (0 < m → a + m ≤ S.dirty.length) ∧
  ∀ l, a ≤ l → l < a + m → S.dirty.getD l false = true → (S.flushRun a m).dev.pending.getD l false = true ∧ seg (S.flushRun a m).dev.flushed l = seg S.cache l
 | 0, _ => ⟨rfl, rfl, fun h => absurd h (Nat.lt_irrefl _), fun l h1 h2 => by omega⟩
 | m + 1, he => by
  have hinv := Dev.flushRun_inv h a m
  unfold Dev.flushRun at he ⊢
  by_cases h0 : (S.flushRun a m).err ≠ 0
  ·rw [if_pos h0] at he
   exact absurd he h0
  ·rw [if_neg h0] at he ⊢
   obtain ⟨i1, i2, i3, i4⟩ := Dev.flushRun_held h a m (by simpa using h0)
   generalize (S.flushRun a m).dev = T at *
   dsimp only at he ⊢
   unfold Dev.flushE at he
   unfold Dev.flush
   by_cases c1 : ((a + m : Nat) : Int) < 0 ∨ (T.dirty.length : Int) ≤ ((a + m : Nat) : Int)
   ·rw [if_pos c1] at he; simp at he
   rw [if_neg c1] at he ⊢
   cases c2 : T.stop
   ·simp only [Bool.false_eq_true, if_false]
    obtain ⟨e1, e2, e3, e4, e5⟩ := T.step_rest
    rw [show ((a + m : Nat) : Int).toNat = a + m by omega]
    have hw := Dev.step_wf hinv.wf
    have hD := hw.lenD
    have hdl : T.dirty.length = S.dirty.length := by rw [i2]
    have hj : a + m < T.step.dirty.length := by rw [e4]; omega
    rw [← e4] at i2
    rw [← e2] at i1
    rw [← e5, ← e3] at i4
    generalize T.step = U at *
    refine ⟨by rw [(Dev.hold_len U _).1, i1], by rw [(Dev.hold_len U _).2, i2], fun _ => by rw [← i2]; omega, fun l h1 h2 hd => ?_⟩
    unfold Dev.hold
    by_cases hl : l = a + m
    ·subst hl
     rw [if_pos (by rw [i2]; exact hd)]
     dsimp only
     refine ⟨by rw [getD_setB _ _ _ _ (by rw [hw.lenP]; exact hj), if_pos rfl], ?_⟩
     rw [seg_splice _ _ _ (seg_length _ _ (by omega)) (by rw [hw.lenF]; omega), i1]
    ·have := i4 l h1 (by omega) hd
     have hll : l < U.dirty.length := by
      rcases Nat.lt_or_ge l U.dirty.length with h | h
      ·exact h
      ·rw [← i2, getD_false_of h] at hd; cases hd
     split
     ·dsimp only
      refine ⟨by rw [getD_setB _ _ _ _ (by rw [hw.lenP]; exact hj), if_neg hl]; exact this.1, ?_⟩
      rw [← this.2]
      have hs := seg_length U.cache (a + m) (by omega)
      refine (seg_eq_iff _ _ _ (by rw [length_splice _ _ _ (by rw [hs, hw.lenF]; omega), hw.lenF]; omega) (by rw [hw.lenF]; omega)).2 (fun i h3 h4 => ?_)
      rw [splice_seg_getD _ _ _ _ (by rw [hw.lenF]; omega) (by omega), if_neg (by omega)]
     ·exact this
   ·rw [c2] at he
    simp at he
theorem Dev.persist_clean {S : Dev} (h : S.inv) (p n : Nat) (hn : 0 < n) (he : (S.persist p n).err = 0) : (S.persist p n).dev.cache = S.cache ∧ p + n ≤ S.cache.length ∧ (S.persist p n).dev.dirty.length = S.dirty.length ∧
  (∀ j, p ≤ j → j < p + n → (S.persist p n).dev.dirty.getD (j / 8) false = false) ∧ ∀ l, S.dirty.getD l false = false → (S.persist p n).dev.dirty.getD l false = false := by
 unfold Dev.persist at he ⊢
 by_cases c1 : (p : Int) < 0 ∨ (n : Int) < 0 ∨ (S.cache.length : Int) < (p : Int) ∨ (S.cache.length : Int) - (p : Int) < (n : Int)
 ·rw [if_pos c1] at he; simp at he
 rw [if_neg c1, if_pos (by omega)] at he ⊢
 unfold Dev.persistN at he ⊢
 generalize hA : ((p : Int) / 8).toNat = A at *
 generalize hM : (((p : Int) + (n : Int) - 1) / 8 - (p : Int) / 8 + 1).toNat = M at *
 by_cases c2 : (S.flushRun A M).err ≠ 0
 ·rw [if_pos c2] at he; exact absurd he c2
 rw [if_neg c2] at he ⊢
 obtain ⟨i1, i2, i3, i4⟩ := Dev.flushRun_held h A M (by simpa using c2)
 have hinv := Dev.flushRun_inv h A M
 generalize (S.flushRun A M).dev = T at *
 dsimp only at he ⊢
 unfold Dev.fenceE at he
 cases c3 : T.stop
 ·have f := Dev.fence_at hinv.wf c3
  refine ⟨f.cache.trans i1, by omega, by rw [f.lenD, i2], fun j h1 h2 => ?_, fun l hl => ?_⟩
  ·rw [f.dirty, i2, i1]
   cases hd : S.dirty.getD (j / 8) false
   ·rw [if_neg]
    rintro ⟨_, hp⟩
    have := hinv.pend _ hp
    rw [i2, hd] at this
    cases this
   ·have := i4 (j / 8) (by omega) (by omega) hd
    have hl : j / 8 < S.dirty.length := by
     rcases Nat.lt_or_ge (j / 8) S.dirty.length with h | h
     ·exact h
     ·rw [getD_false_of h] at hd; cases hd
    rw [if_pos ⟨hl, this.1⟩, this.2]
    simp
  ·rw [f.dirty, i2, if_neg]
   ·exact hl
   ·rintro ⟨_, hp⟩
    have := hinv.pend _ hp
    rw [i2, hl] at this
    cases this
 ·rw [c3] at he
  simp at he
end Go.Proofs.YtpohaahihdhleaaGreat
namespace Go.Proofs.YtpohaahihdhleaaGreat
open Go.RowKit
theorem run_eqItems_ints {P : Program} {e : TypeId} {k : IntKind} (he : P.underlying e = some (.int k)) (d : Nat) (w : World) (xs ys : List Int) :
  ∀ is : List Nat, (∀ i ∈ is, i < xs.length ∧ i < ys.length) → ∃ b, (Op.eqItems (d + 1) e 1 (xs.map (Value.int k)).toArray (ys.map (Value.int k)).toArray is).run P w = .ok b w ∧ (b = true ↔ ∀ i ∈ is, xs[i]? = ys[i]?)
 | [], _ => ⟨true, by simp [Op.eqItems], by simp⟩
 | i :: is, h => by
  obtain ⟨h1, h2⟩ := h i (by simp)
  obtain ⟨b, hb, hiff⟩ := run_eqItems_ints he d w xs ys is (fun j hj => h j (by simp [hj]))
  have hagg : (isAgg e).run P w = .ok false w := by unfold isAgg; rw [Sem.run_bind, run_underlying he w]; simp
  have hp : ∀ (zs : List Int) (hz : i < zs.length), (part e (zs.map (Value.int k)).toArray (i * 1)).run P w = .ok (.int k zs[i]) w := fun zs hz => by
   simp [part, hagg, hz]
  simp only [Op.eqItems, Sem.run_bind, hp xs h1, hp ys h2, Result.andThen_ok]
  rw [run_equalIn_int w d e k k _ _ he]
  simp only [Result.andThen_ok]
  by_cases hab : xs[i] = ys[i]
  ·have : (xs[i] == ys[i]) = true := by simpa using hab
   simp only [this, Bool.not_true, Bool.false_eq_true, if_false]
   refine ⟨b, hb, ?_⟩
   rw [hiff]
   simp [h1, h2, hab]
  ·have : (xs[i] == ys[i]) = false := by simpa using hab
   simp only [this, Bool.not_false, if_true, Sem.run_pure]
   refine ⟨false, rfl, ?_⟩
   simp [h1, h2, hab]
theorem cellsU64 : Tryz.prog.cellsOf 40 = 1 := by kernel_rfl
theorem infoU64 : (Tryz.prog.info? 40).isSome = true := by kernel_rfl
def arrW (ws : List Nat) : Value := .agg (ws.map vu64).toArray
def magicN : Nat := 8390047168116913201
def supH (n id : Nat) : List Nat := [magicN, 1, n, id, 0, 0, 0]
def supN (n id : Nat) : List Nat := [magicN, 1, n, id, 0, 0, 0, wordsN (supH n id)]
theorem agg8 : Agg Tryz.prog 101 #[.int .u64 0, .int .u64 0, .int .u64 0, .int .u64 0, .int .u64 0, .int .u64 0, .int .u64 0, .int .u64 0] := ⟨⟨_, Tryz.underlying101, rfl⟩, by kernel_rfl⟩
theorem row_front {w : World} {g e : Nat} {xs ys : List Value} (h : RowAt w g e (xs ++ ys)) : Cells w (some ⟨g, 0, none⟩) xs :=
 .inr ⟨g, 0, rfl, fun i v hi => by
  rw [Nat.zero_add]
  exact h.cell (by rw [List.getElem?_append_left (List.getElem?_eq_some_iff.1 hi).1]; exact hi)⟩
theorem supH_lt {n id : Nat} (hn : n < 18446744073709551616) (hid : id < 18446744073709551616) : ∀ z ∈ supH n id, z < 18446744073709551616 := by
 intro z hz
 unfold supH magicN at hz
 simp only [List.mem_cons, List.not_mem_nil, or_false] at hz
 omega
def SupPost (n id : Nat) (w : World) : Ending → World → Prop := fun e w' => e = .returned (arrW (supN n id)) ∧ Below w.heap.size w w'
set_option maxHeartbeats 2000000 in
set_option maxRecDepth 100000 in
theorem sencode_any (n id : Nat) (hn : n ≤ 4000000000000000000) (hid : id < 18446744073709551616) (w : World) :
  Calls Tryz.prog 108 #[.agg #[.int .i64 (n : Int), vu64 id]] w (SupPost n id w) := by
 have HP : Hid (∀ w', Below w.heap.size w w' → SupPost n id w (.returned (.agg ((supN n id).map vu64).toArray)) w') := LH (fun w' h => ⟨rfl, h⟩)
 generalize SupPost n id w = Post at *
 have HM := LH (((Mem.one w #[.int .i64 (n : Int), vu64 id] 42).alloc #[.int .u64 0, .int .u64 0, .int .u64 0, .int .u64 0, .int .u64 0, .int .u64 0, .int .u64 0, .int .u64 0] 101).alloc #[vu64 magicN, vu64 1, vu64 n, vu64 id, vu64 0, vu64 0, vu64 0, vu64 0] 101)
 have d0 := (Mem.two w #[.int .i64 (n : Int), vu64 id] 42 #[.int .u64 0, .int .u64 0, .int .u64 0, .int .u64 0, .int .u64 0, .int .u64 0, .int .u64 0, .int .u64 0] 101).cell 0 0 rfl rfl
 have d1 := (Mem.two w #[.int .i64 (n : Int), vu64 id] 42 #[.int .u64 0, .int .u64 0, .int .u64 0, .int .u64 0, .int .u64 0, .int .u64 0, .int .u64 0, .int .u64 0] 101).cell 0 1 rfl rfl
 go_enter Tryz.func108, Tryz.ntmps108
 go_upto_region 2 with fail
 clear d0 d1
 obtain ⟨q1, hq1⟩ : ∃ q, q = w.heap.size := ⟨_, rfl⟩
 obtain ⟨q2, hq2⟩ : ∃ q, q = w.heap.size + 1 := ⟨_, rfl⟩
 obtain ⟨q3, hq3⟩ : ∃ q, q = w.heap.size + 1 + 1 := ⟨_, rfl⟩
 have HM0 : Hid (Mem w (((w.alloc (.cells #[.int .i64 (n : Int), vu64 id] 42)).alloc (.cells #[.int .u64 0, .int .u64 0, .int .u64 0, .int .u64 0, .int .u64 0, .int .u64 0, .int .u64 0, .int .u64 0] 101)).alloc (.cells #[.int .u64 8390047168116913201, .int .u64 1, .int .u64 (n : Int), .int .u64 (id : Int), .int .u64 0, .int .u64 0, .int .u64 0, .int .u64 0] 101)) [⟨q1, 42, [.int .i64 (n : Int), vu64 id], true⟩, ⟨q2, 101, (List.replicate 8 0).map vu64, true⟩, ⟨q3, 101, (supH n id).map vu64 ++ [vu64 0], true⟩]) := LH (by
  have := HM.out
  simp only [World.size_alloc] at this
  rw [hq1, hq2, hq3]
  exact this)
 rw [← hq3, ← hq2, ← hq1]
 obtain ⟨w1, hw1⟩ : ∃ w1, w1 = (((w.alloc (.cells #[.int .i64 (n : Int), vu64 id] 42)).alloc (.cells #[.int .u64 0, .int .u64 0, .int .u64 0, .int .u64 0, .int .u64 0, .int .u64 0, .int .u64 0, .int .u64 0] 101)).alloc (.cells #[.int .u64 8390047168116913201, .int .u64 1, .int .u64 (n : Int), .int .u64 (id : Int), .int .u64 0, .int .u64 0, .int .u64 0, .int .u64 0] 101)) := ⟨_, rfl⟩
 rw [← hw1] at HM0 ⊢
 clear hq1 hq2 hq3 HM hw1
 go_wp2_with fail
 refine (crcWords_any (some ⟨q3, 0, none⟩) 8 (supH n id) rfl w1 (row_front (HM0.out.at 2 rfl)) (supH_lt (by omega) hid) (by simp [supH])).mono ?_
 rintro e w2 ⟨rfl, hb2⟩
 have HM2 := LH (HM0.out.later hb2)
 have hlt := wordsN_lt (supH n id)
 have HS : Hid (supN n id = supH n id ++ [wordsN (supH n id)]) := LH rfl
 generalize wordsN (supH n id) = cr at *
 have c7 : w2.cell? ⟨q3, 7, none⟩ = some (vu64 0) := HM2.out.cell 2 7 rfl rfl
 have f7 := HM2.out.frozen 2 7 rfl
 have HM3 : Hid (Mem w (w2.setCell ⟨q3, 7, none⟩ (.int .u64 (cr : Int))) [⟨q1, 42, [.int .i64 (n : Int), vu64 id], true⟩, ⟨q2, 101, (List.replicate 8 0).map vu64, true⟩, ⟨q3, 101, (supN n id).map vu64, true⟩]) := LH (by
  have := HM2.out.set 2 7 (.int .u64 (cr : Int)) rfl (by simp [supH])
  rw [HS.out]
  exact this)
 clear hb2 HM0
 go_upto_region 3 with fail
 generalize w2.setCell _ _ = w3 at *
 clear c7 f7 HM2
 go_wp2_with (first
  | (refine wpList_load_mem agg8 HM3.out 2 rfl rfl rfl rfl rfl ?_)
  | (refine wpList_store_mem agg8 HM3.out 1 rfl rfl rfl rfl rfl rfl rfl rfl ?_; intro w6 h6 ht6; have H6 := LH h6; clear h6 ht6))
 exact bodyPost_ret (results_cell_row (p := 2) rfl _ _ _ _ _ _ _ rfl (H6.out.exact 1 rfl) Tryz.underlying101 rfl (by kernel_rfl)) rfl (HP.out _ H6.out.below)
def supD (ws : List Nat) : Nat × Nat × Int :=
 if ws.getD 0 0 ≠ magicN then (0, 0, 24)
 else if ws.getD 7 0 ≠ wordsN (ws.take 7) then (0, 0, 25)
 else if 2 ≤ ws.getD 2 0 ∧ ws.getD 2 0 ≤ 256 ∧ supN (ws.getD 2 0) (ws.getD 3 0) = ws then (ws.getD 2 0, ws.getD 3 0, 0) else (0, 0, 26)
theorem equal8 (w : World) (xs ys : List Nat) (hx : xs.length = 8) (hy : ys.length = 8) : (Op.equalIn 10000 101 (.agg (xs.map vu64).toArray) (.agg (ys.map vu64).toArray)).run Tryz.prog w = .ok (decide (xs = ys)) w := by
 obtain ⟨i, hi⟩ := Option.isSome_iff_exists.1 infoU64
 have hn : ∀ l : List Nat, l.map vu64 = (l.map (fun n : Nat => (n : Int))).map (Value.int .u64) := by intro l; simp
 rw [show (10000 : Nat) = 9999 + 1 from rfl, run_equalIn_array w 9999 _ _ Tryz.underlying101 hi, cellsU64, show (9999 : Nat) = 9998 + 1 from rfl, hn xs, hn ys]
 obtain ⟨b, hb, hiff⟩ := run_eqItems_ints Tryz.underlying40 9998 w (xs.map (fun n : Nat => (n : Int))) (ys.map (fun n : Nat => (n : Int))) (List.range 8) (fun i hi => by simp at hi; simp; omega)
 rw [hb]
 have : b = decide (xs = ys) := by
  rw [Bool.eq_iff_iff, hiff, decide_eq_true_iff]
  constructor
  ·intro h
   apply List.ext_getElem (by rw [hx, hy])
   intro i h1 h2
   have := h i (by simp; omega)
   simp [h1, h2] at this
   omega
  ·rintro rfl; simp
 rw [this]
def rtI (r : Int) : Bool := decide (0 ≤ r ∧ r < 131072)
def slotR (ep : Nat) (rs : List Int) : Bool := rs.all rtI && decide (0 < ep)
theorem eight_ints {rs : List Int} (h : rs.length = 8) : ∃ a0 a1 a2 a3 a4 a5 a6 a7, rs = [a0, a1, a2, a3, a4, a5, a6, a7] := by
 match rs, h with
 | [a0, a1, a2, a3, a4, a5, a6, a7], _ => exact ⟨a0, a1, a2, a3, a4, a5, a6, a7, rfl⟩
def slotVal (ep : Nat) (rs : List Int) : Value := .agg (vu64 ep :: rs.map (Value.int .i64)).toArray
theorem all_bad {rs : List Int} {i : Nat} {r : Int} (hi : rs[i]? = some r) (h : rtI r = false) : rs.all rtI = false := by
 rw [List.all_eq_false]
 exact ⟨r, List.mem_of_getElem? hi, by rw [h]; decide⟩
theorem all_next {rs : List Int} {i : Nat} {r : Int} (h : (rs.take i).all rtI = true) (hi : rs[i]? = some r) (hr : rtI r = true) : (rs.take (i + 1)).all rtI = true := by
 rw [List.take_add_one, hi, List.all_append, h]
 simp [hr]
set_option maxHeartbeats 4000000 in
set_option maxRecDepth 100000 in
theorem slright_any (ep : Nat) (rs : List Int) (hl : rs.length = 8) (hep : ep < 18446744073709551616) (w : World) :
  Calls Tryz.prog 172 #[slotVal ep rs] w fun e w' => e = .returned (.bool (slotR ep rs)) ∧ Below w.heap.size w w' := by
 have HP : Hid (∀ b w', b = slotR ep rs → Below w.heap.size w w' → (fun e w' => e = Ending.returned (.bool (slotR ep rs)) ∧ Below w.heap.size w w') (.returned (.bool b)) w') := LH (fun b w' h1 h2 => by subst h1; exact ⟨rfl, h2⟩)
 generalize hPo : (fun e w' => e = Ending.returned (.bool (slotR ep rs)) ∧ Below w.heap.size w w') = Post at *
 clear hPo
 obtain ⟨a0, a1, a2, a3, a4, a5, a6, a7, rfl⟩ := eight_ints hl
 obtain ⟨rs, hrs⟩ : ∃ rs, rs = [a0, a1, a2, a3, a4, a5, a6, a7] := ⟨_, rfl⟩
 rw [← hrs] at HP
 have HRs := LH hrs
 have HBad : Hid (∀ (i : Nat) r, [a0, a1, a2, a3, a4, a5, a6, a7][i]? = some r → rtI r = false → false = slotR ep rs) := LH (fun i r h1 h2 => by
  unfold slotR; rw [hrs, all_bad h1 h2]; rfl)
 have HNx : Hid (∀ (i : Nat) r, [a0, a1, a2, a3, a4, a5, a6, a7][i]? = some r → (rs.take i).all rtI = true → rtI r = true → (rs.take (i + 1)).all rtI = true) := LH (fun i r h1 h2 h3 => all_next h2 (by rw [hrs]; exact h1) h3)
 clear hrs hl
 rw [show slotVal ep [a0, a1, a2, a3, a4, a5, a6, a7] = .agg #[vu64 ep, .int .i64 a0, .int .i64 a1, .int .i64 a2, .int .i64 a3, .int .i64 a4, .int .i64 a5, .int .i64 a6, .int .i64 a7] from rfl]
 have HM := LH (Mem.one w #[vu64 ep, .int .i64 a0, .int .i64 a1, .int .i64 a2, .int .i64 a3, .int .i64 a4, .int .i64 a5, .int .i64 a6, .int .i64 a7] 154)
 go_enter Tryz.func172, Tryz.ntmps172
 go_upto_region 1 with fail
 obtain ⟨q, hq⟩ : ∃ q, q = w.heap.size := ⟨_, rfl⟩
 rw [← hq] at HM ⊢
 generalize w.alloc _ = w1 at *
 clear hq
 have d0 := HM.out.cell 0 0 rfl rfl
 have d1 := HM.out.cell 0 1 rfl rfl
 have d2 := HM.out.cell 0 2 rfl rfl
 have d3 := HM.out.cell 0 3 rfl rfl
 have d4 := HM.out.cell 0 4 rfl rfl
 have d5 := HM.out.cell 0 5 rfl rfl
 have d6 := HM.out.cell 0 6 rfl rfl
 have d7 := HM.out.cell 0 7 rfl rfl
 have d8 := HM.out.cell 0 8 rfl rfl
 go_wp2_with fail
 go_loopw [7] (fun iv wr => ∃ i : Nat, i ≤ 8 ∧ iv = .int .i64 (i : Int) ∧ Hid ((rs.take i).all rtI = true) ∧ wr = w1) (fun iv _ => 8 - (intOf iv).toNat)
 case atStart => exact ⟨0, by omega, rfl, LH rfl, rfl⟩
 case round =>
  obtain ⟨i, hi, rfl, HA, rfl⟩ := hrel
  by_cases hlt : i < 8
  ·obtain ⟨r, hr⟩ : ∃ r, [a0, a1, a2, a3, a4, a5, a6, a7][i]? = some r := ⟨_, List.getElem?_eq_getElem (by simpa using hlt)⟩
   have HBi := LH (HBad.out i r hr)
   have HNi := LH (HNx.out i r hr HA.out)
   have hlt' : (i : Int) < 8 := by omega
   have HV : Hid ((#[Value.int .i64 a0, .int .i64 a1, .int .i64 a2, .int .i64 a3, .int .i64 a4, .int .i64 a5, .int .i64 a6, .int .i64 a7] : Array Value)[i]? = some (.int .i64 r)) := LH (by
    have : ([a0, a1, a2, a3, a4, a5, a6, a7].map (Value.int .i64))[i]? = some (.int .i64 r) := by rw [List.getElem?_map, hr]; rfl
    rw [← this]; simp)
   by_cases h1 : r < 0
   ·have HF := LH (HP.out false wr (HBi.out (by unfold rtI; rw [decide_eq_false]; omega)) HM.out.below)
    clear hr
    go_wp2_with (refine wpList_index_arr i Tryz.underlying24 Tryz.underlying3 rfl (by kernel_rfl) (by omega) (by omega) HV.out rfl rfl rfl rfl ?_)
    exact HF.out
   ·have h1' : decide (r < 0) = false := by simp; omega
    by_cases h2 : 131072 ≤ r
    ·have HF := LH (HP.out false wr (HBi.out (by unfold rtI; rw [decide_eq_false]; omega)) HM.out.below)
     clear hr h1
     go_wp2_with (refine wpList_index_arr i Tryz.underlying24 Tryz.underlying3 rfl (by kernel_rfl) (by omega) (by omega) HV.out rfl rfl rfl rfl ?_)
     exact HF.out
    ·have h2' : decide (131072 ≤ r) = false := by simp; omega
     have HN := LH (HNi.out (by unfold rtI; rw [decide_eq_true]; omega))
     clear hr h1 h2
     go_wp2_with (refine wpList_index_arr i Tryz.underlying24 Tryz.underlying3 rfl (by kernel_rfl) (by omega) (by omega) HV.out rfl rfl rfl rfl ?_)
     exact ⟨⟨i + 1, by omega, vint (by omega), HN, trivial⟩, by simp [intOf]; omega⟩
  ·have hi8 : i = 8 := by omega
   have hltd : decide ((i : Int) < 8) = false := by simp; omega
   have HF := LH (fun b (hb : b = decide (0 < ep)) => HP.out b wr (by
    have h9 := HA.out
    rw [hi8, List.take_of_length_le (by rw [HRs.out]; simp)] at h9
    unfold slotR; rw [h9, hb]; rfl) HM.out.below)
   clear hi8
   by_cases h0 : 0 < ep
   ·have h0' : (0 : Int) < (ep : Int) := by omega
    go_wp2_with fail
    exact HF.out true (by simp [h0])
   ·have h0' : decide ((0 : Int) < (ep : Int)) = false := by simp; omega
    go_wp2_with fail
    exact HF.out false (by simp [h0])
set_option maxHeartbeats 1000000 in
theorem gright_any (n : Int) (w : World) : Calls Tryz.prog 62 #[.agg #[.int .i64 n]] w fun e w' => e = .returned (.bool (decide (2 ≤ n ∧ n ≤ 256))) ∧ Below w.heap.size w w' := by
 have HM := LH (Mem.one w #[.int .i64 n] 44)
 have HP : Hid (∀ b w', b = decide (2 ≤ n ∧ n ≤ 256) → Below w.heap.size w w' → (fun e w' => e = Ending.returned (.bool (decide (2 ≤ n ∧ n ≤ 256))) ∧ Below w.heap.size w w') (.returned (.bool b)) w') := LH (fun b w' h1 h2 => by subst h1; exact ⟨rfl, h2⟩)
 generalize (fun e w' => e = Ending.returned (.bool (decide (2 ≤ n ∧ n ≤ 256))) ∧ Below w.heap.size w w') = Post at *
 go_enter Tryz.func62, Tryz.ntmps62
 go_upto_region 1 with fail
 obtain ⟨q, hq⟩ : ∃ q, q = w.heap.size := ⟨_, rfl⟩
 rw [← hq] at HM ⊢
 generalize w.alloc _ = w1 at *
 clear hq
 have d0 := HM.out.cell 0 0 rfl rfl
 by_cases h2 : 2 ≤ n
 ·by_cases h3 : n ≤ 256
  ·have HF := LH (HP.out true w1 (by simp [h2, h3]) HM.out.below)
   go_wp2_with fail
   exact HF.out
  ·have h3' : decide (n ≤ 256) = false := by simp; omega
   have HF := LH (HP.out false w1 (by simp; omega) HM.out.below)
   clear h3
   go_wp2_with fail
   exact HF.out
 ·have h2' : decide (2 ≤ n) = false := by simp; omega
  have HF := LH (HP.out false w1 (by simp; omega) HM.out.below)
  clear h2
  go_wp2_with fail
  exact HF.out
def SdPost (t : Nat × Nat × Int) (w : World) : Ending → World → Prop := fun e w' => e = .returned (.tuple #[.agg #[.int .i64 (t.1 : Int), vu64 t.2.1], .int .i64 t.2.2]) ∧ Below w.heap.size w w'
theorem eight_list {ws : List Nat} (h : ws.length = 8) : ∃ a0 a1 a2 a3 a4 a5 a6 a7, ws = [a0, a1, a2, a3, a4, a5, a6, a7] := by
 match ws, h with
 | [a0, a1, a2, a3, a4, a5, a6, a7], _ => exact ⟨a0, a1, a2, a3, a4, a5, a6, a7, rfl⟩
theorem aggSu : Agg Tryz.prog 42 #[.int .i64 0, .int .u64 0] := ⟨⟨_, Tryz.underlying42, rfl⟩, by kernel_rfl⟩
set_option maxHeartbeats 4000000 in
set_option maxRecDepth 100000 in
theorem sdecode_any (ws : List Nat) (hl : ws.length = 8) (hu : ∀ z ∈ ws, z < 18446744073709551616) (w : World) :
  Calls Tryz.prog 87 #[arrW ws] w (SdPost (supD ws) w) := by
 have HP : Hid (∀ (n id : Nat) (e : Int) w', (n, id, e) = supD ws → Below w.heap.size w w' → SdPost (supD ws) w (.returned (.tuple #[.agg #[.int .i64 (n : Int), vu64 id], .int .i64 e])) w') := LH (fun n id e w' h1 h2 => by rw [← h1]; exact ⟨rfl, h2⟩)
 generalize hPo : SdPost (supD ws) w = Post at *
 clear hPo
 obtain ⟨a0, a1, a2, a3, a4, a5, a6, a7, rfl⟩ := eight_list hl
 have h0 := hu a0 (by simp)
 have h2 := hu a2 (by simp)
 have h3 := hu a3 (by simp)
 have HU := LH hu
 have HD : Hid (supD [a0, a1, a2, a3, a4, a5, a6, a7] = if a0 ≠ magicN then (0, 0, 24) else if a7 ≠ wordsN [a0, a1, a2, a3, a4, a5, a6] then (0, 0, 25) else if 2 ≤ a2 ∧ a2 ≤ 256 ∧ supN a2 a3 = [a0, a1, a2, a3, a4, a5, a6, a7] then (a2, a3, 0) else (0, 0, 26)) := LH rfl
 clear hu hl
 rw [show arrW [a0, a1, a2, a3, a4, a5, a6, a7] = .agg #[vu64 a0, vu64 a1, vu64 a2, vu64 a3, vu64 a4, vu64 a5, vu64 a6, vu64 a7] from rfl]
 have HM := LH (Mem.two w #[vu64 a0, vu64 a1, vu64 a2, vu64 a3, vu64 a4, vu64 a5, vu64 a6, vu64 a7] 101 #[.int .i64 0, .int .u64 0] 42)
 go_enter Tryz.func87, Tryz.ntmps87
 go_upto_region 1 with fail
 obtain ⟨q1, hq1⟩ : ∃ q, q = w.heap.size := ⟨_, rfl⟩
 obtain ⟨q2, hq2⟩ : ∃ q, q = w.heap.size + 1 := ⟨_, rfl⟩
 rw [← hq2, ← hq1] at HM ⊢
 generalize (w.alloc _).alloc _ = w1 at *
 clear hq1 hq2
 have d0 := HM.out.cell 0 0 rfl rfl
 have d7 := HM.out.cell 0 7 rfl rfl
 by_cases e0 : a0 = magicN
 case neg =>
  have e0' : ((a0 : Int) == 8390047168116913201) = false := by rw [beq_eq_false_iff_ne]; unfold magicN at e0; omega
  have HF := LH (fun w' h => HP.out 0 0 24 w' (by rw [HD.out, if_pos e0]) h)
  clear e0
  go_wp2_with (refine wpList_store_mem aggSu HM.out 1 rfl rfl rfl rfl rfl rfl rfl rfl ?_; intro w6 h6 ht6; have H6 := LH h6; clear h6 ht6)
  refine bodyPost_ret (results_cell_row2 (p := 2) (u := 3) rfl _ _ _ _ _ _ _ rfl (H6.out.exact 1 rfl) Tryz.underlying42 rfl (by kernel_rfl)) rfl ?_
  exact HF.out _ H6.out.below
 have e0' : ((a0 : Int) == 8390047168116913201) = true := by rw [beq_iff_eq, e0]; rfl
 have HE0 := LH e0
 clear e0
 go_upto_region 3 with fail
 have r7 := fun x => later_cell d7 x
 clear d7 d0
 refine wp_region_seg (C := fun w' => ∃ x : Later (w1), w' = x.val) [.fl [0, 1, 2], .sq [3] true, .fl [4], .sq [5, 6] false] (by kernel_rfl) (by kernel_rfl) (by intro c a d v w h; cases d <;> exact h) ?_
 simp only [segs, picks, List.getElem?_cons_succ, List.getElem?_cons_zero]
 have hC1 := later_drew (w1)
 refine wpSeg_fl hC1 ?_
 repeat (first | go_big_quiet_step (fail) | quiet_step (fail))
 refine wpQuiet_nil ?_
 have HM1 := LH (HM.out.later (later_below hC1))
 clear r7
 refine wpSeg_sq (fun K hK => ?_)
 go_wp2_with fail
 refine (crcWords_any (some ⟨q1, 0, none⟩) 8 [a0, a1, a2, a3, a4, a5, a6] rfl _ (row_front (xs := [vu64 a0, vu64 a1, vu64 a2, vu64 a3, vu64 a4, vu64 a5, vu64 a6]) (ys := [vu64 a7]) (HM1.out.at 0 rfl)) (fun z hz => HU.out z (by simp only [List.mem_cons, List.not_mem_nil, or_false] at hz ⊢; omega)) (by simp)).mono ?_
 rintro e w2 ⟨rfl, hb2⟩
 have hC2 := later_step hC1 hb2
 have HM2 := LH (HM1.out.later hb2)
 have hlt := wordsN_lt [a0, a1, a2, a3, a4, a5, a6]
 have HW : Hid (wordsN [a0, a1, a2, a3, a4, a5, a6] = wordsN [a0, a1, a2, a3, a4, a5, a6]) := LH rfl
 obtain ⟨cr, hcr⟩ : ∃ cr, cr = wordsN [a0, a1, a2, a3, a4, a5, a6] := ⟨_, rfl⟩
 rw [← hcr] at hlt ⊢
 have HCr := LH hcr
 clear hb2 HW hcr HM1
 go_wp2_with fail
 refine hK _ _ (fun _ => hC2) ?_
 clear hK K
 refine wpSeg_fl hC2 ?_
 repeat (first | go_big_quiet_step (fail) | quiet_step (fail))
 refine wpQuiet_nil ?_
 clear hC1 hC2
 by_cases e7 : a7 = cr
 case neg =>
  have e7' : ((a7 : Int) == (cr : Int)) = false := by rw [beq_eq_false_iff_ne]; omega
  have HF := LH (fun w' h => HP.out 0 0 25 w' (by rw [HD.out, if_neg (by rw [HE0.out]; simp), if_pos (by rw [← HCr.out]; exact e7)]) h)
  clear e7
  refine wpSeg_last ?_
  go_wp2_with (refine wpList_store_mem aggSu HM2.out 1 rfl rfl rfl rfl rfl rfl rfl rfl ?_; intro w6 h6 ht6; have H6 := LH h6; clear h6 ht6)
  refine bodyPost_ret (results_cell_row2 (p := 2) (u := 3) rfl _ _ _ _ _ _ _ rfl (H6.out.exact 1 rfl) Tryz.underlying42 rfl (by kernel_rfl)) rfl ?_
  exact HF.out _ H6.out.below
 have e7' : ((a7 : Int) == (cr : Int)) = true := by rw [beq_iff_eq, e7]
 have HE7 := LH e7
 have d2 := HM2.out.cell 0 2 rfl rfl
 have d3 := HM2.out.cell 0 3 rfl rfl
 have HF := LH (fun (h9 : ¬ (2 ≤ a2 ∧ a2 ≤ 256)) w' h => HP.out 0 0 26 w' (by rw [HD.out, if_neg (by rw [HE0.out]; simp), if_neg (by rw [HE7.out, HCr.out]; simp), if_neg (fun hh => h9 ⟨hh.1, hh.2.1⟩)]) h)
 clear e7
 by_cases hA : a2 ≤ 1073741824
 case neg =>
  have hmn : min (a2 : Int) 1073741824 = 1073741824 := by omega
  have hA' : ¬ (a2 : Int) ≤ 1073741824 := by omega
  have HF := LH (HF.out (by omega))
  have hrd : decide (2 ≤ (1073741824 : Int) ∧ (1073741824 : Int) ≤ 256) = false := by decide
  have HM3 := LH (HM2.out.alloc #[.int .i64 1073741824, vu64 a3] 42)
  refine wpSeg_last ?_
  go_wp2_with fail
  go_upto_region 6 with fail
  obtain ⟨q4, hq4⟩ : ∃ q, q = w2.heap.size := ⟨_, rfl⟩
  rw [← hq4] at HM3 ⊢
  generalize w2.alloc _ = wc at *
  clear hq4 d2 d3 HM2
  have c0 := HM3.out.cell 2 0 rfl rfl
  have c1 := HM3.out.cell 2 1 rfl rfl
  refine wp_region_seg (C := fun w' => ∃ x : Later (wc), w' = x.val) [.sq [0, 1, 2, 3, 4, 5] false, .fl [6, 8], .sq [7] true, .sq [9, 10] false] (by kernel_rfl) (by kernel_rfl) (by intro c a d v w h; cases d <;> exact h) ?_
  simp only [segs, picks, List.getElem?_cons_succ, List.getElem?_cons_zero]
  have hC1 := later_drew (wc)
  refine wpSeg_sq (fun K hK => ?_)
  go_wp2_with fail
  refine (gright_any 1073741824 _).mono ?_
  rintro e w5 ⟨rfl, hb5⟩
  rw [hrd]
  have hC2 := later_step hC1 hb5
  have HM5 := LH (HM3.out.later (later_below hC2))
  clear hb5 c0 c1
  go_wp2_with fail
  refine hK _ _ (fun h => nomatch h) ?_
  clear hK K
  refine wpSeg_fl hC2 ?_
  repeat (first | go_big_quiet_step (fail) | quiet_step (fail))
  refine wpQuiet_nil ?_
  refine wpSeg_sq (fun K hK => ?_)
  go_wp2_with fail
  go_wp2_with fail
  refine hK _ _ (fun _ => hC2) ?_
  clear hK K
  clear hC1 hC2
  refine wpSeg_last ?_
  go_wp2_with (refine wpList_store_mem aggSu HM5.out 1 rfl rfl rfl rfl rfl rfl rfl rfl ?_; intro w6 h6 ht6; have H6 := LH h6; clear h6 ht6)
  refine bodyPost_ret (results_cell_row2 (p := 2) (u := 3) rfl _ _ _ _ _ _ _ rfl (H6.out.exact 1 rfl) Tryz.underlying42 rfl (by kernel_rfl)) rfl ?_
  exact HF.out _ H6.out.below
 have hmn : min (a2 : Int) 1073741824 = (a2 : Int) := by omega
 have hA' : (a2 : Int) ≤ 1073741824 := by omega
 have HM3 := LH (HM2.out.alloc #[.int .i64 (a2 : Int), vu64 a3] 42)
 refine wpSeg_last ?_
 go_wp2_with fail
 go_upto_region 6 with fail
 obtain ⟨q4, hq4⟩ : ∃ q, q = w2.heap.size := ⟨_, rfl⟩
 rw [← hq4] at HM3 ⊢
 generalize w2.alloc _ = wc at *
 clear hq4 d2 d3 HM2
 have c0 := HM3.out.cell 2 0 rfl rfl
 have c1 := HM3.out.cell 2 1 rfl rfl
 by_cases hr : 2 ≤ a2 ∧ a2 ≤ 256
 case neg =>
  have HF := LH (HF.out hr)
  have hrd : decide (2 ≤ (a2 : Int) ∧ (a2 : Int) ≤ 256) = false := by simp; omega
  clear hr
  refine wp_region_seg (C := fun w' => ∃ x : Later (wc), w' = x.val) [.sq [0, 1, 2, 3, 4, 5] false, .fl [6, 8], .sq [7] true, .sq [9, 10] false] (by kernel_rfl) (by kernel_rfl) (by intro c a d v w h; cases d <;> exact h) ?_
  simp only [segs, picks, List.getElem?_cons_succ, List.getElem?_cons_zero]
  have hC1 := later_drew (wc)
  refine wpSeg_sq (fun K hK => ?_)
  go_wp2_with fail
  refine (gright_any (a2 : Int) _).mono ?_
  rintro e w5 ⟨rfl, hb5⟩
  rw [hrd]
  have hC2 := later_step hC1 hb5
  have HM5 := LH (HM3.out.later (later_below hC2))
  clear hb5 c0 c1
  go_wp2_with fail
  refine hK _ _ (fun h => nomatch h) ?_
  clear hK K
  refine wpSeg_fl hC2 ?_
  repeat (first | go_big_quiet_step (fail) | quiet_step (fail))
  refine wpQuiet_nil ?_
  refine wpSeg_sq (fun K hK => ?_)
  go_wp2_with fail
  go_wp2_with fail
  refine hK _ _ (fun _ => hC2) ?_
  clear hK K
  clear hC1 hC2
  refine wpSeg_last ?_
  go_wp2_with (refine wpList_store_mem aggSu HM5.out 1 rfl rfl rfl rfl rfl rfl rfl rfl ?_; intro w6 h6 ht6; have H6 := LH h6; clear h6 ht6)
  refine bodyPost_ret (results_cell_row2 (p := 2) (u := 3) rfl _ _ _ _ _ _ _ rfl (H6.out.exact 1 rfl) Tryz.underlying42 rfl (by kernel_rfl)) rfl ?_
  exact HF.out _ H6.out.below
 have hrd : decide (2 ≤ (a2 : Int) ∧ (a2 : Int) ≤ 256) = true := by simp; omega
 have HSe := LH (fun w => sencode_any a2 a3 (by omega) h3 w)
 have b0 := HM3.out.cell 0 0 rfl rfl
 have b1 := HM3.out.cell 0 1 rfl rfl
 have b2 := HM3.out.cell 0 2 rfl rfl
 have b3 := HM3.out.cell 0 3 rfl rfl
 have b4 := HM3.out.cell 0 4 rfl rfl
 have b5 := HM3.out.cell 0 5 rfl rfl
 have b6 := HM3.out.cell 0 6 rfl rfl
 have b7 := HM3.out.cell 0 7 rfl rfl
 have r0 := fun x => later_cell b0 x
 have r1 := fun x => later_cell b1 x
 have r2 := fun x => later_cell b2 x
 have r3 := fun x => later_cell b3 x
 have r4 := fun x => later_cell b4 x
 have r5 := fun x => later_cell b5 x
 have r6 := fun x => later_cell b6 x
 have r7 := fun x => later_cell b7 x
 have rc0 := fun x => later_cell c0 x
 have rc1 := fun x => later_cell c1 x
 refine wp_region_seg (C := fun w' => ∃ x : Later (wc), w' = x.val) [.sq [0, 1, 2, 3, 4, 5] false, .fl [6, 8], .sq [7] true, .sq [9, 10] false] (by kernel_rfl) (by kernel_rfl) (by intro c a d v w h; cases d <;> exact h) ?_
 simp only [segs, picks, List.getElem?_cons_succ, List.getElem?_cons_zero]
 have hC1 := later_drew (wc)
 refine wpSeg_sq (fun K hK => ?_)
 go_wp2_with fail
 refine (gright_any (a2 : Int) _).mono ?_
 rintro e w5 ⟨rfl, hb5⟩
 rw [hrd]
 have hC2 := later_step hC1 hb5
 clear hb5 c0 c1 b0 b1 b2 b3 b4 b5 b6 b7
 go_wp2_with fail
 refine hK _ _ (fun h => nomatch h) ?_
 clear hK K
 refine wpSeg_fl hC2 ?_
 repeat (first | go_big_quiet_step (fail) | quiet_step (fail))
 refine wpQuiet_nil ?_
 clear r0 r1 r2 r3 r4 r5 r6 r7 rc0 rc1
 refine wpSeg_sq (fun K hK => ?_)
 go_wp2_with fail
 refine (HSe.out _).mono ?_
 rintro e w6 ⟨rfl, hb6⟩
 have hC3 := later_step hC2 hb6
 have HM6 := LH (HM3.out.later (later_below hC3))
 clear hb6
 go_wp2_with fail
 refine hK _ _ (fun _ => hC3) ?_
 clear hK K
 clear hC1 hC2 hC3
 have HSN : Hid (supN a2 a3 = [magicN, 1, a2, a3, 0, 0, 0, wordsN (supH a2 a3)]) := LH rfl
 rw [show arrW (supN a2 a3) = .agg #[vu64 magicN, vu64 1, vu64 a2, vu64 a3, vu64 0, vu64 0, vu64 0, vu64 (wordsN (supH a2 a3))] from rfl]
 have heq : ∀ w', (Op.equalIn 10000 101 (.agg #[vu64 magicN, vu64 1, vu64 a2, vu64 a3, vu64 0, vu64 0, vu64 0, vu64 (wordsN (supH a2 a3))]) (.agg #[vu64 a0, vu64 a1, vu64 a2, vu64 a3, vu64 a4, vu64 a5, vu64 a6, vu64 a7])).run Tryz.prog w' = .ok (decide (supN a2 a3 = [a0, a1, a2, a3, a4, a5, a6, a7])) w' := fun w' => equal8 w' (supN a2 a3) [a0, a1, a2, a3, a4, a5, a6, a7] rfl rfl
 by_cases hs : supN a2 a3 = [a0, a1, a2, a3, a4, a5, a6, a7]
 ·rw [decide_eq_true hs] at heq
  have HF2 := LH (fun w' h => HP.out a2 a3 0 w' (by rw [HD.out, if_neg (by rw [HE0.out]; simp), if_neg (by rw [HE7.out, HCr.out]; simp), if_pos ⟨hr.1, hr.2, hs⟩]) h)
  generalize wordsN (supH a2 a3) = sc at *
  generalize magicN = mg at *
  clear hs hr
  refine wpSeg_last ?_
  go_wp2_with (first | (refine wpList_load_mem aggSu HM6.out 2 rfl rfl rfl rfl rfl ?_) | (refine wpList_store_mem aggSu HM6.out 1 rfl rfl rfl rfl rfl rfl rfl rfl ?_; intro w6 h6 ht6; have H6 := LH h6; clear h6 ht6))
  refine bodyPost_ret (results_cell_row2 (p := 2) (u := 3) rfl _ _ _ _ _ _ _ rfl (H6.out.exact 1 rfl) Tryz.underlying42 rfl (by kernel_rfl)) rfl ?_
  exact HF2.out _ H6.out.below
 ·rw [decide_eq_false hs] at heq
  have HF2 := LH (fun w' h => HP.out 0 0 26 w' (by rw [HD.out, if_neg (by rw [HE0.out]; simp), if_neg (by rw [HE7.out, HCr.out]; simp), if_neg (fun hh => hs hh.2.2)]) h)
  generalize wordsN (supH a2 a3) = sc at *
  generalize magicN = mg at *
  clear hs hr
  refine wpSeg_last ?_
  go_wp2_with (refine wpList_store_mem aggSu HM6.out 1 rfl rfl rfl rfl rfl rfl rfl rfl ?_; intro w6 h6 ht6; have H6 := LH h6; clear h6 ht6)
  refine bodyPost_ret (results_cell_row2 (p := 2) (u := 3) rfl _ _ _ _ _ _ _ rfl (H6.out.exact 1 rfl) Tryz.underlying42 rfl (by kernel_rfl)) rfl ?_
  exact HF2.out _ H6.out.below
end Go.Proofs.YtpohaahihdhleaaGreat
