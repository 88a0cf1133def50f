/- Parts of the proof, one behind the other: Oa, St, Et, Eu, Ev, Rx, Ry, Uf, Ew, Ex, Ey, Wf, Wg, Wm, Wh, Hb, Zd, Jx, Zi. -/
import Derived.Test.YtfedgcdkagngnaaGreatDT9
import Derived.Lib.ItoaNum
import Derived.Lib.ItoaLen
import Derived.Lib.SplitLaws
import Derived.Deep.CutBlock
import Derived.RangeFuncNested
import Derived.RangeFuncBound
import Derived.RangeFuncCalls
import Derived.RangeFuncLeaves
import Derived.RangeFuncBox
import Derived.Shelf.Abstract
import Derived.WalkKit
import Derived.OwnWalkIn
import Derived.TacticsInMore
import Derived.LoopNIn
import Derived.LoopIn
import Derived.Maps.AppendAt
import Derived.Deep.Cut

/- Plain: numbers as text, and texts that are cut at one sign. -/
namespace Go.Proofs.YtfedgcdkagngnaaGreat
open Go.Lib
set_option linter.unusedVariables false

theorem dig_toNat (d : Nat) (h : d < 10) : (UInt8.ofNat (48 + d)).toNat = 48 + d := by simp [UInt8.toNat_ofNat']; omega
theorem dec_ne (u : Nat) : decDigits u ≠ [] := by rw [decDigits]; split <;> simp

theorem nDigits_le (k : Nat) : ∀ u, u < 10 ^ k → 1 ≤ k → nDigits u ≤ k := by
  induction k with
  | zero => intro u h hk; omega
  | succ k ih =>
    intro u h _
    by_cases hu : u < 10
    · rw [nDigits_small hu]; omega
    · rw [nDigits_big hu]
      rw [Nat.pow_succ] at h
      by_cases hk : k = 0
      · subst hk; simp at h; omega
      · have := ih (u / 10) (by omega) (by omega); omega

theorem dec_length (u : Nat) : (decDigits u).length = nDigits u := by rw [decDigits_eq]; simp

def In64 (n : Int) : Prop := -9223372036854775808 ≤ n ∧ n < 9223372036854775808

/-- taprootref31.Number's loop. -/
def over (n d : Int) : Bool := decide (n > 922337203685477580) || decide (n < -922337203685477580) || (decide (n = 922337203685477580) && decide (d > 7)) || (decide (n = -922337203685477580) && decide (d < -8))

end Go.Proofs.YtfedgcdkagngnaaGreat

/- Texts as values; numbers as text: what needs no function of the program. -/
namespace Go.Proofs.YtfedgcdkagngnaaGreat
open Go.RowKit
set_option linter.unusedVariables false
open Go.Lib (decDigits itoa nDigits)

/-- A text as a value. -/
def bstr (l : List UInt8) : ByteArray := ⟨l.toArray⟩
abbrev strV (l : List UInt8) : Value := .string (bstr l)
theorem bstr_size (l : List UInt8) : (bstr l).size = l.length := rfl
theorem bstr_toList (l : List UInt8) : (bstr l).toList = l := ByteArray.toList_mk l
theorem str_ne {a b : List UInt8} (h : a ≠ b) : ((bstr a).toList == (bstr b).toList) = false := by rw [bstr_toList, bstr_toList]; simpa using h

/-- A value is handed back, memory is made. -/
def Gives (v : Value) (w : World) : Ending → World → Prop := fun e w' => e = .returned v ∧ Below w.heap.size w w'

def vbs (l : List UInt8) : List Value := l.map fun b => .int .u8 (b.toNat : Int)
theorem vbs_nat (l : List UInt8) : vbs l = (l.map (·.toNat)).map vu8 := by simp [vbs, vu8]
theorem strOf_bytes (l : List UInt8) : strOf (l.map (·.toNat)) = bstr l := by
  unfold strOf bstr
  rw [List.map_map]
  congr 2
  exact (List.map_congr_left (fun b _ => by simp)).trans (List.map_id l)

theorem dec_small {u : Nat} (h : u < 10) : decDigits u = [UInt8.ofNat (48 + u)] := by rw [decDigits, dif_pos h]
theorem dec_big {u : Nat} (h : ¬ u < 10) : decDigits u = decDigits (u / 10) ++ [UInt8.ofNat (48 + u % 10)] := by rw [decDigits, dif_neg h]
theorem dec_pos (u : Nat) : 1 ≤ (decDigits u).length := by
  have := dec_ne u
  cases h : decDigits u with
  | nil => exact absurd h this
  | cons a b => simp

theorem bstr_append (a b : List UInt8) : bstr a ++ bstr b = bstr (a ++ b) := by
  apply ByteArray.ext
  simp [bstr]

theorem itoa_neg {u : Nat} (h : 1 ≤ u) : itoa (-(u : Int)) = 45 :: decDigits u := by
  unfold itoa
  rw [if_pos (by omega), show (-(u : Int)).natAbs = u by omega]
theorem itoa_pos (u : Nat) : itoa (u : Int) = decDigits u := by
  unfold itoa
  rw [if_neg (by omega), show (u : Int).toNat = u by omega]

theorem dec_len20 {u : Nat} (h : u < 18446744073709551616) : (decDigits u).length ≤ 20 := by rw [dec_length]; exact nDigits_le 20 u (by omega) (by omega)

/-- What is written of a number so far. -/
def partT (u v : Nat) (tail : List UInt8) : Prop := (v = 0 ∧ decDigits u = tail) ∨ (0 < v ∧ decDigits u = decDigits v ++ tail)
theorem partT_step {u v : Nat} {tail : List UInt8} (h : partT u v tail) (hv : 0 < v) : partT u (v / 10) (UInt8.ofNat (48 + v % 10) :: tail) := by
  rcases h with ⟨h, _⟩ | ⟨_, h⟩
  · omega
  · by_cases h10 : v < 10
    · refine .inl ⟨by omega, ?_⟩
      rw [h, dec_small h10, show v % 10 = v by omega]; rfl
    · refine .inr ⟨by omega, ?_⟩
      rw [h, dec_big h10]; simp

theorem one_byte (b : UInt8) : strOf [b.toNat] = bstr [b] := by
  have := strOf_bytes [b]
  simpa using this

end Go.Proofs.YtfedgcdkagngnaaGreat

/- law20: a world in memory; a new one; Pick. -/
namespace Go.Proofs.YtfedgcdkagngnaaGreat
open Go.RowKit
set_option linter.unusedVariables false

/-- A world of law20: an allocator, its objects in the order in which they were made. -/
structure WAt (w : World) (A : AF) (n B : Nat) (m : Al) (v : Value) (xs : List Nat) : Prop where
  al : AlAt w A n B m
  own : OwnI w v xs
  apart : ∀ b, rowOf v = some b → b ∉ A.list
theorem WAt.below {w w' : World} {A : AF} {n B : Nat} {m : Al} {v : Value} {xs : List Nat} (h : WAt w A n B m v xs) (hb : Below w.heap.size w w') : WAt w' A n B m v xs :=
  ⟨h.al.below hb, h.own.keep (fun b hb' => hb.block b (h.own.lt b hb')), h.apart⟩
theorem WAt.mono {w : World} {A : AF} {n n' B : Nat} {m : Al} {v : Value} {xs : List Nat} (h : WAt w A n B m v xs) (hn : n ≤ n') : WAt w A n' B m v xs := ⟨h.al.mono hn, h.own, h.apart⟩
/-- What calls leave of a world. -/
def WGo (w w' : World) (A : AF) (n B : Nat) (m : Al) (v : Value) (xs : List Nat) : Prop := ∃ R', WAt w' (A.re R') n B m v xs ∧ Touch A.hot w w' ∧ ∀ b ∈ R', b ∈ A.R ∨ w.heap.size ≤ b
theorem WGo.refl {w : World} {A : AF} {n B : Nat} {m : Al} {v : Value} {xs : List Nat} (h : WAt w A n B m v xs) : WGo w w A n B m v xs := ⟨A.R, h, Touch.refl _ _, fun _ h => .inl h⟩
theorem WGo.ahead {w w0 w1 : World} {A : AF} {n B : Nat} {m : Al} {v : Value} {xs : List Nat} (hb : Below w.heap.size w w0) (h : WGo w0 w1 A n B m v xs) : WGo w w1 A n B m v xs := by
  obtain ⟨R', h1, h2, h3⟩ := h
  exact ⟨R', h1, (Touch.ofBelow hb).trans h2, fun b hb' => (h3 b hb').imp id (fun c => Nat.le_trans hb.size c)⟩
theorem AF.hot_list {A : AF} {k : Nat} (h : k ∈ A.hot) : k ∈ A.list := by
  simp only [AF.hot, AF.list, AF.fix, List.mem_append, List.mem_cons] at h ⊢
  rcases h with h | h | h
  · exact .inl (.inr (.inl (MF.hot_sub h)))
  · exact .inl (.inr (.inr h))
  · exact .inr h
theorem AF.re_list {A : AF} {R : List Nat} {k : Nat} (h : k ∈ (A.re R).list) : k ∈ A.list ∨ k ∈ R := by
  simp only [AF.re, AF.list, AF.fix, List.mem_append, List.mem_cons] at h ⊢
  rcases h with h | h
  · exact .inl (.inl h)
  · exact .inr h
/-- The allocator changes; the list stays. -/
theorem WAt.al' {w w' : World} {A : AF} {n n' B : Nat} {m m' : Al} {v : Value} {xs : List Nat} (h : WAt w A n B m v xs) (hg : AlGo w w' A n' B m') : WGo w w' A n' B m' v xs := by
  obtain ⟨R', g1, g2, g3⟩ := hg
  refine ⟨R', ⟨g1, h.own.keep (fun b hb => g2.block b (h.own.lt b hb) (fun hm => h.apart b hb (AF.hot_list hm))), fun b hb hm => ?_⟩, g2, g3⟩
  rcases AF.re_list hm with c | c
  · exact h.apart b hb c
  · rcases g3 b c with c | c
    · exact h.apart b hb (by simp [AF.list, c])
    · have := h.own.lt b hb; omega
/-- A new heap. -/
theorem al0_ok {B : Nat} (hB2 : 2 ≤ B) (hB : B ≤ 100) : AlOk B (al0 B) := by
  have hf := fmt_formed hB2 hB
  have hl := al0_list hB2 hB
  have hbm : BmOk B (al0 B).bm := hf.bm hB2
  have hu : ∀ a, (List.replicate (512 * B) false).getD a false = false := fun a => by
    simp only [List.getD_eq_getElem?_getD, List.getElem?_replicate]; split <;> rfl
  refine ⟨hbm, hf.live, hf.len, by simp [al0], fun a ha => ?_, fun k a hk => ?_⟩
  · have := hu a
    unfold al0 at ha
    dsimp only at ha
    rw [this] at ha; cases ha
  · have h0 : (al0 B).fl.cnt k a = 0 := by unfold al0 FL.cnt FL.empty; simp
    rw [h0, if_neg]
    rintro ⟨hc, _⟩
    have := isCell_kind hc
    rw [hl] at this
    simp only [List.getD_eq_getElem?_getD, List.getElem?_replicate] at this
    split at this <;> cases this

/-- The n-th one, round and round; 0: there is none. -/
def pickN (xs : List Nat) (i : Int) : Nat := if i < 0 ∨ xs = [] then 0 else xs.getD (i.toNat % xs.length) 0
theorem pickN_mem {xs : List Nat} {i : Int} (h : pickN xs i ≠ 0) : pickN xs i ∈ xs := by
  unfold pickN at h ⊢
  by_cases c : i < 0 ∨ xs = []
  · rw [if_pos c] at h; exact absurd rfl h
  · rw [if_neg c] at h ⊢
    have hl : 0 < xs.length := List.length_pos_iff.2 (fun e => c (.inr e))
    have := Nat.mod_lt i.toNat hl
    rw [List.getD_eq_getElem?_getD, List.getElem?_eq_getElem this]
    exact List.getElem_mem _

set_option maxHeartbeats 2000000 in
set_option maxRecDepth 20000 in
theorem wpick_any {w : World} (x y v : Value) (xs : List Nat) (ho : OwnI w v xs) (hl : xs.length ≤ 1000000) (i : Int) :
    Calls Tryz.prog 28 #[.agg #[x, y, v], .int .i64 i] w (Gives (.int .i64 (pickN xs i : Nat)) w) := by
  obtain ⟨a, c, rfl, hc, _⟩ := ho.cells
  have HP : Hid (∀ z w', z = ((pickN xs i : Nat) : Int) → Below w.heap.size w w' → Gives (.int .i64 (pickN xs i : Nat)) w (.returned (.int .i64 z)) w') := Lib.hid (fun z w' h1 h2 => by subst h1; exact ⟨rfl, h2⟩)
  have HPk : Hid (pickN xs i = if i < 0 ∨ xs = [] then 0 else xs.getD (i.toNat % xs.length) 0) := Lib.hid rfl
  generalize Gives (.int .i64 (pickN xs i : Nat)) w = Post at *
  generalize pickN xs i = pk at *
  have HB := Lib.hid (below_alloc w (Obj.cells #[x, y, .slice a xs.length c] 28))
  have c2 : (w.alloc (Obj.cells #[x, y, .slice a xs.length c] 28)).cell? ⟨w.heap.size, 2, none⟩ = some (.slice a xs.length c) := cell_alloc_new _ _ _ 2 _ rfl
  have HC := Lib.hid (hc.below HB.out (Nat.le_refl _))
  clear ho hc
  obtain ⟨l, hl'⟩ : ∃ l, l = xs.length := ⟨_, rfl⟩
  rw [← hl'] at c2 HB HC hl ⊢
  have HL := Lib.hid hl'
  clear hl'
  go_enter Tryz.func28, Tryz.ntmps28
  go_upto_region 1 with fail
  generalize w.alloc _ = w0 at *
  by_cases hi : i < 0
  · have HE : Hid (0 = (pk : Int)) := Lib.hid (by rw [HPk.out, if_pos (.inl hi)]; rfl)
    go_wp2_with fail
    exact HP.out _ _ HE.out HB.out
  have hi0 : 0 ≤ i := by omega
  by_cases hx : l = 0
  · subst hx
    have HE : Hid (0 = (pk : Int)) := Lib.hid (by rw [HPk.out, if_pos (.inr (List.length_eq_zero_iff.1 HL.out.symm))]; rfl)
    go_wp2_with fail
    exact HP.out _ _ HE.out HB.out
  have hx0 : ((l : Int) == 0) = false := by simpa using hx
  obtain ⟨j, rfl⟩ := Int.eq_ofNat_of_zero_le hi0
  have hjl : j % l < l := Nat.mod_lt _ (by omega)
  have HE : Hid (pk = xs.getD (j % l) 0) := Lib.hid (by rw [HPk.out, if_neg (by rintro (h | h); exact hi h; exact hx (by rw [HL.out, h]; rfl)), HL.out]; rfl)
  have hcx : ∃ b off, a = some ⟨b, off, none⟩ ∧ w0.cell? ⟨b, off + j % l, none⟩ = some (.int .i64 ((xs.getD (j % l) 0 : Nat) : Int)) := by
    rcases HC.out with h | ⟨b, off, e, h⟩
    · exfalso
      have := congrArg List.length h
      rw [List.length_map, ← HL.out] at this
      exact hx (by simpa using this)
    · refine ⟨b, off, e, h _ _ ?_⟩
      rw [List.getElem?_map, List.getElem?_eq_getElem (by rw [← HL.out]; exact hjl), List.getD_eq_getElem?_getD, List.getElem?_eq_getElem (by rw [← HL.out]; exact hjl)]
      rfl
  obtain ⟨b, off, rfl, hcx⟩ := hcx
  rw [← HE.out] at hcx
  have hjm : (j : Int).tmod (l : Int) = ((j % l : Nat) : Int) := by rw [Int.tmod_eq_emod_of_nonneg (by omega)]; rfl
  have HE' := Lib.hid HE.out
  generalize j % l = jm at *
  go_upto_region 3 with fail
  have r0 := fun x => later_cell c2 x
  have r1 := fun x => later_cell hcx x
  clear c2 hcx
  refine wp_region_later (by kernel_rfl) (by kernel_rfl) ?_
  repeat (quiet_step (fail))
  refine wpQuiet_nil ?_
  rintro w5 ⟨x5, hx5⟩
  have HB5 := Lib.hid (HB.out.trans ((show Below w0.heap.size w0 w5 by rw [hx5]; exact x5.below).mono HB.out.size))
  clear hx5 r0 r1
  go_wp2_with fail
  exact HP.out _ _ rfl HB5.out

end Go.Proofs.YtfedgcdkagngnaaGreat

/- law20: Make. -/
namespace Go.Proofs.YtfedgcdkagngnaaGreat
open Go.RowKit
set_option linter.unusedVariables false

def clampI (x hi : Int) : Int := min (max x 0) hi
theorem clamp_size (p d : Int) : objSize (clampI p 8) (clampI d 12) ≠ 0 ∧ objSize (clampI p 8) (clampI d 12) ≤ 21 := by
  unfold clampI objSize
  split <;> omega

/-- Steps in blocks of the call's own; another list. -/
theorem WGo.mine {w w0 w1 w6 : World} {A : AF} {n B : Nat} {m : Al} {v v' : Value} {xs xs' : List Nat} {Q : List Nat} (hb : Below w.heap.size w w0) (hA : ∀ k ∈ A.list, k < w.heap.size) (hg : WGo w0 w1 A n B m v xs)
    (ht : Touch Q w1 w6) (hQ : ∀ k ∈ Q, w.heap.size ≤ k ∧ k < w0.heap.size) (ho : OwnI w6 v' xs') (hr : ∀ b, rowOf v' = some b → b < w.heap.size ∧ b ∉ A.list ∨ w1.heap.size ≤ b) : WGo w w6 A n B m v' xs' := by
  obtain ⟨R1, h1, h2, h3⟩ := hg
  have hl : ∀ k ∈ (A.re R1).list, k ∉ Q := fun k hk hq => by
    have h4 := hQ k hq
    rcases AF.re_list hk with c | c
    · have := hA k c; omega
    · rcases h3 k c with c | c
      · have := hA k (by simp [AF.list, c]); omega
      · omega
  refine ⟨R1, ⟨h1.al.keep (fun k hk => ht.block k (h1.al.mem k hk) (hl k hk)), ho, fun b hb' hm => ?_⟩, ((Touch.ofBelow hb).trans h2).own ht (fun k hk => .inl (hQ k hk).1), fun b hb' => (h3 b hb').imp id (fun c => Nat.le_trans hb.size c)⟩
  rcases hr b hb' with ⟨c1, c2⟩ | c
  · rcases AF.re_list hm with d | d
    · exact c2 d
    · rcases h3 b d with d | d
      · exact c2 (by simp [AF.list, d])
      · have := hb.size; omega
  · have := h1.al.mem b hm; omega

/-- What Make leaves: one more object, or all is as it was. -/
def MakePost (w : World) (A : AF) (n B : Nat) (m : Al) (v : Value) (xs : List Nat) (p d : Int) : Ending → World → Prop := fun e w' => ∃ (m' : Al) (v' : Value) (xs' : List Nat),
  e = .returned (.tuple #[vworld A v', .bool true]) ∧ WGo w w' A (n + 6) B m' v' xs' ∧ ((∃ a, Made B m m' a p d ∧ xs' = xs ++ [a]) ∨ (m' = m ∧ xs' = xs ∧ v' = v ∧ NoRoom m (objSize p d))) ∧ (∀ b, rowOf v' = some b → rowOf v = some b ∨ w.heap.size ≤ b) ∧ m' = (m.alloc 0 p d).al

set_option maxHeartbeats 4000000 in
set_option maxRecDepth 20000 in
theorem wmake_any {w : World} {A : AF} {n B : Nat} {m : Al} {v : Value} {xs : List Nat} (h : WAt w A n B m v xs) (hok : AlOk B m) (hB2 : 2 ≤ B) (hB : B ≤ 200) (hn : n < 900000000000) {N : Nat} (hN : N ≤ 900000000) (ho : m.bm.dev.ok N) (hl : xs.length ≤ 1000000) (p d : Int) :
    Calls Tryz.prog 76 #[vworld A v, .int .i64 p, .int .i64 d] w (MakePost w A n B m v xs (clampI p 8) (clampI d 12)) := by
  have HMem := Lib.hid (Mem.two w #[valloc A, vdev A.X.F, v] 28 #[.pointer none, .pointer none, .slice none 0 0] 28)
  have HW0 := Lib.hid (h.below HMem.out.below)
  have HB0 := Lib.hid HMem.out.below
  have HOk := Lib.hid hok
  have HCs := Lib.hid (clamp_size p d)
  have HP : Hid (∀ (m' : Al) (v' : Value) (xs' : List Nat) w', WGo w w' A (n + 6) B m' v' xs' → ((∃ a, Made B m m' a (clampI p 8) (clampI d 12) ∧ xs' = xs ++ [a]) ∨ (m' = m ∧ xs' = xs ∧ v' = v ∧ NoRoom m (objSize (clampI p 8) (clampI d 12)))) → (∀ b, rowOf v' = some b → rowOf v = some b ∨ w.heap.size ≤ b) → m' = (m.alloc 0 (clampI p 8) (clampI d 12)).al → MakePost w A n B m v xs (clampI p 8) (clampI d 12) (.returned (.tuple #[vworld A v', .bool true])) w') := Lib.hid (fun m' v' xs' w' h1 h2 h3 h4 => ⟨m', v', xs', rfl, h1, h2, h3, h4⟩)
  generalize MakePost w A n B m v xs (clampI p 8) (clampI d 12) = Post at *
  obtain ⟨p1, hp1⟩ : ∃ p1, max p 0 = p1 := ⟨_, rfl⟩
  obtain ⟨p2, hp2⟩ : ∃ p2, min p1 8 = p2 := ⟨_, rfl⟩
  obtain ⟨d1, hd1⟩ : ∃ d1, max d 0 = d1 := ⟨_, rfl⟩
  obtain ⟨d2, hd2⟩ : ∃ d2, min d1 12 = d2 := ⟨_, rfl⟩
  have ep : clampI p 8 = p2 := by unfold clampI; rw [hp1, hp2]
  have ed : clampI d 12 = d2 := by unfold clampI; rw [hd1, hd2]
  rw [ep, ed] at HP HCs
  have hAll := fun w' (h : AlAt w' A n B m) => aalloc_any h hok (by omega) hB hn hN ho 0 p2 d2
  have HAll := Lib.hid hAll
  have HDone : Hid ((∃ m' a, m.alloc 0 p2 d2 = ⟨m', ((a : Nat) : Int), 0⟩ ∧ Made B m m' a p2 d2) ∨ (m.alloc 0 p2 d2 = ⟨m, 0, 4⟩ ∧ NoRoom m (objSize p2 d2))) := Lib.hid (alloc_done hok hB (Int.le_refl _) (by decide) HCs.out.1 (by have := HCs.out.2; omega))
  have HV := Lib.hid h
  obtain ⟨sa, sc, rfl, hcs, _⟩ := h.own.cells
  have HCl := Lib.hid hcs
  obtain ⟨l, hl'⟩ : ∃ l, l = xs.length := ⟨_, rfl⟩
  rw [← hl'] at HMem HW0 HB0 HP HV hl ⊢
  have HL := Lib.hid hl'
  clear h hok ho hAll ep ed hcs hl'
  go_enter Tryz.func76, Tryz.ntmps76
  go_upto_region 1 with fail
  obtain ⟨q, hq⟩ : ∃ q, q = w.heap.size := ⟨_, rfl⟩
  rw [← hq] at HMem ⊢
  have HQ := Lib.hid hq
  generalize (w.alloc _).alloc _ = w0 at *
  clear hq
  have c0 := HMem.out.cell 0 0 rfl rfl
  go_wp2_with fail
  refine (HAll.out _ HW0.out.al).mono ?_
  rintro e w1 ⟨rfl, hg1⟩
  have HWg := Lib.hid (HW0.out.al' hg1)
  have HMr : Hid (MemR w.heap.size w1 [⟨q, 28, [valloc A, vdev A.X.F, .slice sa l sc], true⟩, ⟨q + 1, 28, [.pointer none, .pointer none, .slice none 0 0], true⟩]) := Lib.hid (by
    obtain ⟨_, _, ht, _⟩ := hg1
    refine HMem.out.r.apart ht (fun x hx hm => ?_)
    have h1 := HV.out.al.mem x.g (AF.hot_list hm)
    have h2 := HMem.out.base x hx
    omega)
  clear hg1 HAll
  rcases HDone.out with ⟨m', a, e, hm⟩ | ⟨e, hnr⟩
  · have HAe : Hid (m' = (m.alloc 0 p2 d2).al) := Lib.hid (by rw [e])
    rw [e] at HWg ⊢
    dsimp only at HWg ⊢
    have HMade := Lib.hid hm
    have ha0 : (0 : Int) < (a : Int) := by have := hm.lo; omega
    clear e hm HDone
    obtain ⟨R1, hw1, ht1, hr1⟩ := HWg.out
    have HW1 := Lib.hid hw1
    have HT1 := Lib.hid ht1
    have HR1 := Lib.hid hr1
    clear hw1 ht1 hr1
    have HO1 : Hid (OwnI (w1.alloc (.cells #[] 3)) (.slice (some ⟨w1.heap.size, 0, none⟩) 0 0) []) :=
      Lib.hid (.inl ⟨rfl, .inr ⟨w1.heap.size, 0, #[], rfl, Nat.zero_le _, heap_alloc_new w1 _, Nat.le_refl _, Nat.zero_le _, rfl, rfl⟩⟩)
    have HB1 := Lib.hid (below_alloc w1 (.cells #[] 3))
    have HC1 : Hid (Cells (w1.alloc (.cells #[] 3)) sa (xs.map vi)) := Lib.hid (by
      obtain ⟨a', c', e', hc', _⟩ := HW1.out.own.cells
      injection e' with e1 e2 e3
      subst e1
      exact hc'.below HB1.out (Nat.le_refl _))
    have HN1 : Hid (([] : List Nat).length + l ≤ 1000000000000) := Lib.hid (by simp; omega)
    have HMr1 := Lib.hid (HMr.out.later HB1.out)
    have c2 := HMr1.out.cell 0 2 rfl rfl
    have HN3 : Hid (([] ++ xs).length + 1 ≤ 1000000000000) := Lib.hid (by simp; have := HL.out; omega)
    have HR1n : Hid (∀ b, rowOf (.slice (some ⟨w1.heap.size, 0, none⟩) 0 0) = some b → w1.heap.size ≤ b) := Lib.hid (fun b hb => by
      have : rowOf (.slice (some ⟨w1.heap.size, 0, none⟩) 0 0) = none := rfl
      rw [this] at hb; cases hb)
    go_wp2_with (first
      | (refine wpList_load_r aggW HMr5.out 0 rfl rfl rfl rfl rfl ?_)
      | (refine wpList_store_r aggW HMr5.out 1 rfl rfl rfl rfl rfl rfl rfl rfl ?_; intro w6 h6 ht6; have H6 := Lib.hid h6; have HT6 := Lib.hid ht6; clear h6 ht6)
      | (at_builtin; refine wpList_append_newI (m := l) (B := w1.heap.size) HO1.out (Below.refl _ _) HR1n.out HB1.out.size HC1.out HL.out.symm HN1.out rfl rfl rfl rfl ?_; intro v2 w2 ho2 hb2 hr2; have HO2 := Lib.hid ho2; have HB2 := Lib.hid (HB1.out.trans hb2); have HR2 := Lib.hid hr2; clear ho2 hb2 hr2)
      | (at_builtin; refine wpList_append_newI (m := 1) (ys := [a]) (B := w1.heap.size) HO2.out (below_alloc _ _) HR2.out (Nat.le_trans HB2.out.size (below_alloc _ _).size) (RowAt.cells ⟨_, heap_alloc_new _ _, [], rfl⟩) rfl HN3.out rfl rfl rfl rfl ?_; intro v4 w4 ho4 hb4 hr4; have HO4 := Lib.hid ho4; have HB4 := Lib.hid ((HB2.out.trans ((below_alloc _ _).mono HB2.out.size)).trans hb4); have HR4 := Lib.hid hr4; clear ho4 hb4 hr4; have HMr4 := Lib.hid (HMr.out.later HB4.out); have cx := HMr4.out.cell 0 2 rfl rfl; have fx := HMr4.out.frozen 0 2 rfl; obtain ⟨a4, c4, e4, _⟩ := HO4.out.cells; generalize ([] ++ xs ++ [a]).length = l4 at e4; subst e4; have HMr5 := Lib.hid (HMr4.out.set 0 2 (.slice a4 l4 c4) rfl (Nat.lt_succ_self 2))))
    have HT5 : Hid (Touch [q, q + 1] w1 w6) := Lib.hid ((((Touch.ofBelow HB4.out).trans (Touch.setCell ⟨q, 2, none⟩ (by simp) _)).trans (HT6.out.wide (by simp))))
    have HO6 : Hid (OwnI w6 (.slice a4 l4 c4) (xs ++ [a])) := Lib.hid (by
      have h1 : ([] ++ xs ++ [a]) = xs ++ [a] := by simp
      rw [← h1]
      refine HO4.out.keep (fun b hb => ?_)
      have h2 := HR4.out b hb
      have h3 := HO4.out.lt b hb
      have h4 := HMr.out.glt 0 rfl
      have h5 := HMr.out.glt 1 rfl
      refine (HT6.out.block b (by simpa using h3) (by simp; omega)).trans (Below.heap_setCell _ _ _ b (fun e => ?_))
      have : b = q := e
      omega)
    refine bodyPost_ret (results_cell_row2 (p := 6) (u := 7) rfl _ _ _ _ _ _ _ rfl (H6.out.exact 1 rfl) Tryz.underlying28 rfl (by kernel_rfl)) rfl ?_
    refine HP.out m' _ (xs ++ [a]) w6 (WGo.mine HB0.out HV.out.al.mem HWg.out HT5.out (fun k hk => ?_) HO6.out (fun b hb => .inr (HR4.out b hb))) (.inl ⟨a, HMade.out, rfl⟩) (fun b hb => .inr (Nat.le_trans HB0.out.size (Nat.le_trans HT1.out.size (HR4.out b hb)))) HAe.out
    have h4 := HMem.out.glt 0 rfl
    have h5 := HMem.out.glt 1 rfl
    have h6 := HQ.out
    simp only [List.mem_cons, List.not_mem_nil, or_false] at hk
    rcases hk with rfl | rfl <;> omega
  · have HAe : Hid (m = (m.alloc 0 p2 d2).al) := Lib.hid (by rw [e])
    have HNr := Lib.hid hnr
    rw [e] at HWg ⊢
    dsimp only at HWg ⊢
    clear e hnr HDone
    go_wp2_with (first
      | (refine wpList_load_r aggW HMr.out 0 rfl rfl rfl rfl rfl ?_)
      | (refine wpList_store_r aggW HMr.out 1 rfl rfl rfl rfl rfl rfl rfl rfl ?_; intro w6 h6 ht6; have H6 := Lib.hid h6; have HT6 := Lib.hid ht6; clear h6 ht6))
    have HO6 : Hid (OwnI w6 (.slice sa l sc) xs) := Lib.hid (by
      refine HV.out.own.keep (fun b hb => ?_)
      have h1 := HV.out.own.lt b hb
      obtain ⟨R1, _, h2, _⟩ := HWg.out
      have h3 := HQ.out
      have h4 := HMem.out.glt 0 rfl
      have h5 := HMem.out.glt 1 rfl
      refine ((HT6.out.block b (Nat.lt_of_lt_of_le (by omega) h2.size) (by simp; omega)).trans (h2.block b (by omega) (fun hm => HV.out.apart b hb (AF.hot_list hm)))).trans (HB0.out.block b h1))
    refine bodyPost_ret (results_cell_row2 (p := 6) (u := 7) rfl _ _ _ _ _ _ _ rfl (H6.out.exact 1 rfl) Tryz.underlying28 rfl (by kernel_rfl)) rfl ?_
    refine HP.out m _ xs w6 (WGo.mine HB0.out HV.out.al.mem HWg.out HT6.out (fun k hk => ?_) HO6.out (fun b hb => .inl ⟨HV.out.own.lt b hb, HV.out.apart b hb⟩)) (.inr ⟨rfl, rfl, rfl, HNr.out⟩) (fun b hb => .inl hb) HAe.out
    have h4 := HMem.out.glt 0 rfl
    have h5 := HMem.out.glt 1 rfl
    have h6 := HQ.out
    simp only [List.mem_cons, List.not_mem_nil, or_false] at hk
    omega

end Go.Proofs.YtfedgcdkagngnaaGreat

/- law20: Lead. -/
namespace Go.Proofs.YtfedgcdkagngnaaGreat
open Go.RowKit
set_option linter.unusedVariables false

/-- A pointer of an object leads to another one. -/
def Al.lead (m : Al) (xs : List Nat) (i p t : Int) : Al := if pickN xs i = 0 then m else ⟨⟨(m.bm.dev.setPtr (pickN xs i : Nat) p (pickN xs t : Nat)).dev, m.bm.list, m.bm.free⟩, m.used, m.fl⟩

theorem setPtr_clen (S : Dev) (a i x : Int) : (S.setPtr a i x).dev.cache.length = S.cache.length := by
  unfold Dev.setPtr
  split
  · rfl
  · split
    · rfl
    · exact store_clen _ _ _

set_option maxHeartbeats 4000000 in
set_option maxRecDepth 20000 in
theorem wlead_any {w : World} {A : AF} {n B : Nat} {m : Al} {v : Value} {xs : List Nat} (h : WAt w A n B m v xs) {N : Nat} (hN : N ≤ 900000000) (ho : m.bm.dev.ok N) (hl : xs.length ≤ 1000000) (hx : ∀ x ∈ xs, x ≤ 1000000) (i p t : Int) :
    Calls Tryz.prog 59 #[vworld A v, .int .i64 i, .int .i64 p, .int .i64 t] w fun e w' => e = .returned (.tuple #[]) ∧ WGo w w' A n B (m.lead xs i p t) v xs := by
  have HMem := Lib.hid (Mem.one w #[valloc A, vdev A.X.F, v] 28)
  have HW0 := Lib.hid (h.below HMem.out.below)
  have HB0 := Lib.hid HMem.out.below
  have HOk := Lib.hid ho
  have hle : ∀ j, (pickN xs j) ≤ 1000000 := fun j => by
    by_cases c : pickN xs j = 0
    · omega
    · exact hx _ (pickN_mem c)
  have HP1 := Lib.hid (fun w' (ho : OwnI w' v xs) => wpick_any (valloc A) (vdev A.X.F) v xs ho hl i)
  have HP2 := Lib.hid (fun w' (ho : OwnI w' v xs) => wpick_any (valloc A) (vdev A.X.F) v xs ho hl t)
  have HL : Hid (m.lead xs i p t = if pickN xs i = 0 then m else ⟨⟨(m.bm.dev.setPtr (pickN xs i : Nat) p (pickN xs t : Nat)).dev, m.bm.list, m.bm.free⟩, m.used, m.fl⟩) := Lib.hid rfl
  have h1 := hle i
  have h2 := hle t
  have HHi := Lib.hid h
  generalize m.lead xs i p t = m' at *
  generalize pickN xs i = pi at *
  generalize pickN xs t = pt at *
  have HP : Hid (∀ w', WGo w w' A n B m' v xs → (fun e w' => e = Ending.returned (.tuple #[]) ∧ WGo w w' A n B m' v xs) (.returned (.tuple #[])) w') := Lib.hid (fun w' h => ⟨rfl, h⟩)
  generalize (fun e w' => e = Ending.returned (.tuple #[]) ∧ WGo w w' A n B m' v xs) = Post at *
  clear h ho hle hx
  go_enter Tryz.func59, Tryz.ntmps59
  go_upto_region 1 with fail
  obtain ⟨q, hq⟩ : ∃ q, q = w.heap.size := ⟨_, rfl⟩
  rw [← hq] at HMem ⊢
  generalize w.alloc _ = w0 at *
  clear hq
  go_wp2_with (refine wpList_load_mem aggW HMem.out 0 rfl rfl rfl rfl rfl ?_)
  refine (HP1.out _ HW0.out.own).mono ?_
  rintro e w1 ⟨rfl, hb1⟩
  have HM1 := Lib.hid (HMem.out.later hb1)
  have HW1 := Lib.hid (HW0.out.below hb1)
  clear hb1
  by_cases hp : pi = 0
  · subst hp
    have HE : Hid (m' = m) := Lib.hid (by rw [HL.out, if_pos rfl])
    go_wp2_with fail
    go_end0
    refine HP.out _ ?_
    rw [HE.out]
    exact WGo.ahead HM1.out.below (WGo.refl HW1.out)
  have hp0 : (0 : Int) < (pi : Int) := by omega
  have HE : Hid (m' = ⟨⟨(m.bm.dev.setPtr (pi : Nat) p (pt : Nat)).dev, m.bm.list, m.bm.free⟩, m.used, m.fl⟩) := Lib.hid (by rw [HL.out, if_neg hp])
  clear HL
  go_upto_region 3 with fail
  have c0 := HM1.out.cell 0 0 rfl rfl
  have c1 := HM1.out.cell 0 1 rfl rfl
  have c2 := HM1.out.cell 0 2 rfl rfl
  have r0 := fun x => later_cell c0 x
  have r1 := fun x => later_cell c1 x
  have r2 := fun x => later_cell c2 x
  refine wp_region_seg (C := fun w' => ∃ x : Later (w1), w' = x.val) [.fl [0, 1, 2, 3, 4, 5], .sq [6] true, .sq [7] false] (by kernel_rfl) (by kernel_rfl) (by intro c a d v w h; cases d <;> exact h) ?_
  simp only [segs, picks, List.getElem?_cons_succ, List.getElem?_cons_zero]
  have hC1 := later_drew (w1)
  refine wpSeg_fl hC1 ?_
  repeat (first | go_big_quiet_step (fail) | quiet_step (fail))
  refine wpQuiet_nil ?_
  have HW2 := Lib.hid (HW1.out.below (later_below hC1))
  have HM2 := Lib.hid (HM1.out.later (later_below hC1))
  clear c0 c1 c2 r0 r1 r2
  generalize w1.drew = w2 at *
  refine wpSeg_sq (fun K hK => ?_)
  go_wp2_with fail
  refine (HP2.out _ HW2.out.own).mono ?_
  rintro e w3 ⟨rfl, hb3⟩
  have HW3 := Lib.hid (HW2.out.below hb3)
  have HM3 := Lib.hid (HM2.out.later hb3)
  have hC2 := later_step hC1 hb3
  clear hb3
  go_wp2_with fail
  refine hK _ _ (fun _ => hC2) ?_
  clear hK K
  refine wpSeg_last ?_
  go_wp2_with fail
  refine (osetPtr_any HW3.out.al.man.dev (N := N) (by omega) HOk.out _ _ _ (by omega)).mono ?_
  rintro e w4 ⟨rfl, hd4, ht4⟩
  obtain ⟨hm4, ht4'⟩ := HW3.out.al.man.setDev hd4 ht4
  have HG4 : Hid (WGo w3 w4 A n B m' v xs) := Lib.hid (by
    rw [HE.out]
    exact HW3.out.al' (HW3.out.al.setMan (Nat.le_refl _) hm4 ht4' (setPtr_clen _ _ _ _)))
  clear hd4 ht4 hm4 ht4'
  go_wp2_with fail
  go_end0
  exact HP.out _ (WGo.ahead HM3.out.below HG4.out)

end Go.Proofs.YtfedgcdkagngnaaGreat

/- The reference's objects: Size, Encode, Decode; law08.Ref. -/
namespace Go.Proofs.YtfedgcdkagngnaaGreat
open Go.RowKit
set_option linter.unusedVariables false

theorem aggRo : Agg Tryz.prog 55 #[.int .i64 0, .int .i64 0] := ⟨⟨_, Tryz.underlying55, rfl⟩, by kernel_rfl⟩
set_option maxHeartbeats 1000000 in
theorem rsize8_any (p d : Int) (w : World) : Calls Tryz.prog 141 #[vob p d] w fun e w' => e = .returned (.int .i64 (objSize p d : Nat)) ∧ Below w.heap.size w w' := by
  have HM := Lib.hid (Mem.one w #[.int .i64 p, .int .i64 d] 55)
  have HS : Hid (objSize p d = if p < 0 ∨ 63 < p ∨ d < 0 ∨ 16384 < d then 0 else (1 + p + d).toNat) := Lib.hid rfl
  generalize objSize p d = n at *
  go_enter Tryz.func141, Tryz.ntmps141
  go_upto_region 1 with fail
  generalize w.alloc _ = w0 at *
  have c0 := HM.out.cell 0 0 rfl rfl
  have c1 := HM.out.cell 0 1 rfl rfl
  by_cases h1 : p < 0
  · have HV : Hid (n = 0) := Lib.hid (by rw [HS.out, if_pos (.inl h1)])
    go_wp2_with fail
    go_ret
    exact ⟨by rw [HV.out]; rfl, HM.out.below⟩
  by_cases h2 : 63 < p
  · have HV : Hid (n = 0) := Lib.hid (by rw [HS.out, if_pos (.inr (.inl h2))])
    go_wp2_with fail
    go_ret
    exact ⟨by rw [HV.out]; rfl, HM.out.below⟩
  by_cases h3 : d < 0
  · have HV : Hid (n = 0) := Lib.hid (by rw [HS.out, if_pos (.inr (.inr (.inl h3)))])
    go_wp2_with fail
    go_ret
    exact ⟨by rw [HV.out]; rfl, HM.out.below⟩
  by_cases h4 : 16384 < d
  · have HV : Hid (n = 0) := Lib.hid (by rw [HS.out, if_pos (.inr (.inr (.inr h4)))])
    go_wp2_with fail
    go_ret
    exact ⟨by rw [HV.out]; rfl, HM.out.below⟩
  have HV : Hid ((n : Int) = 1 + p + d) := Lib.hid (by rw [HS.out, if_neg (by omega)]; omega)
  go_wp2_with fail
  go_ret
  exact ⟨ret_int HV.out.symm, HM.out.below⟩
set_option maxHeartbeats 1000000 in
theorem rencode8_any (p d a : Int) (w : World) : Calls Tryz.prog 206 #[vob p d, .int .i64 a] w fun e w' => e = .returned (vu64 (oencN a p d)) ∧ Below w.heap.size w w' := by
  have HM := Lib.hid (Mem.one w #[.int .i64 p, .int .i64 d] 55)
  have HE : Hid (oencN a p d = if objSize p d = 0 then 0 else sealN (obN p d) (pl a)) := Lib.hid rfl
  generalize oencN a p d = y at *
  go_enter Tryz.func206, Tryz.ntmps206
  go_upto_region 1 with fail
  generalize w.alloc _ = w0 at *
  go_wp2_with (refine wpList_load_mem aggRo HM.out 0 rfl rfl rfl rfl rfl ?_)
  refine (rsize8_any p d _).mono ?_
  rintro e w1 ⟨rfl, hb1⟩
  have HM1 := Lib.hid (HM.out.later hb1)
  clear hb1 HM
  by_cases hr : objSize p d = 0
  · have HV : Hid (y = 0) := Lib.hid (by rw [HE.out, if_pos hr])
    rw [hr]
    clear hr
    go_wp2_with fail
    go_ret
    exact ⟨ret_int (by rw [HV.out]; rfl), HM1.out.below⟩
  · have HV : Hid (y = sealN (obN p d) (pl a)) := Lib.hid (by rw [HE.out, if_neg hr])
    have hn := obN_lt hr
    obtain ⟨⟨p0, p1⟩, d0, d1⟩ := obj_small hr
    have HN : Hid (165 + 256 * p + 16384 * d = (obN p d : Int)) := Lib.hid (by unfold obN; omega)
    have hz : (((objSize p d : Nat) : Int) == 0) = false := by simp; omega
    have c0 := HM1.out.cell 0 0 rfl rfl
    have c1 := HM1.out.cell 0 1 rfl rfl
    generalize objSize p d = sz at *
    generalize obN p d = n at *
    clear hr
    have hw : IntKind.u32.wrap (165 + 256 * p + 16384 * d) = 165 + 256 * p + 16384 * d := IntWalk.u32_in _ (by omega)
    go_wp2_with fail
    rw [HN.out]
    refine (rseal_any n _ hn _).mono ?_
    rintro e w2 ⟨rfl, hb2⟩
    rw [← HV.out]
    go_wp2_with fail
    go_ret
    exact ⟨rfl, (HM1.out.later hb2).below⟩
set_option maxHeartbeats 1000000 in
theorem rdecode8_any (a : Int) (x : Nat) (hx : x < 18446744073709551616) (w : World) :
    Calls Tryz.prog 154 #[.int .i64 a, vu64 x] w fun e w' => e = .returned (odecN a x).val ∧ Below w.heap.size w w' := by
  have HM := Lib.hid (Mem.one w #[.int .i64 0, .int .i64 0] 55)
  have HOS : Hid ((odecN a x).code = 0 → objSize (odecN a x).p (odecN a x).d ≠ 0) := Lib.hid (fun h => (odec_size h).1)
  go_enter Tryz.func154, Tryz.ntmps154
  go_upto_region 1 with fail
  generalize w.alloc _ = w0 at *
  go_wp2_with fail
  refine (ropen_any x _ hx _).mono ?_
  rintro e w1 ⟨rfl, hbo⟩
  have HM1 := Lib.hid (HM.out.later hbo)
  clear hbo HM
  cases ho : openN x (pl a) with
  | none =>
    have HV := Lib.hid (odecN_none ho)
    clear ho
    simp only [openV]
    go_wp2_with (refine wpList_store_mem aggRo HM1.out 0 rfl rfl rfl rfl rfl rfl rfl rfl ?_; intro w9 h9 _; have H9 := Lib.hid h9; clear h9)
    refine bodyPost_ret (results_cell_row2 (p := 4) (u := 5) rfl _ _ _ _ _ _ _ rfl (H9.out.exact 0 rfl) Tryz.underlying55 rfl (by kernel_rfl)) rfl ⟨by rw [HV.out]; rfl, H9.out.below⟩
  | some n =>
    obtain ⟨hn, -⟩ := openN_some ho
    have HK := Lib.hid (odecN_ok ho)
    have HL := Lib.hid (odecN_bad ho)
    have HD := Lib.hid (odecN_some ho)
    have HDS : Hid (odecS a x n = if oencN a (n / 256 % 64 : Nat) (n / 16384 % 32768 : Nat) = x then ⟨(n / 256 % 64 : Nat), (n / 16384 % 32768 : Nat), 0⟩ else ⟨0, 0, 26⟩) := Lib.hid rfl
    clear ho
    simp only [openV]
    have h64 : n / 256 % 64 < 64 := by omega
    have h6 : n / 16384 % 32768 < 32768 := by omega
    have hmod1 : (n : Int) / 256 % 64 = ((n / 256 % 64 : Nat) : Int) := by omega
    have hmod2 : (n : Int) / 16384 % 32768 = ((n / 16384 % 32768 : Nat) : Int) := by omega
    have HM1' := Lib.hid (HM1.out.alloc #[.int .i64 ((n : Int) / 256 % 64), .int .i64 ((n : Int) / 16384 % 32768)] 55)
    have HMOD1 := Lib.hid hmod1
    have HMOD2 := Lib.hid hmod2
    clear hmod1 hmod2
    go_upto_region 5 with fail
    rw [HMOD1.out, HMOD2.out] at HM1' ⊢
    clear HMOD1 HMOD2
    generalize n / 256 % 64 = k at *
    generalize n / 16384 % 32768 = l at *
    generalize w1.alloc _ = w2 at *
    generalize w1.heap.size = g at *
    clear HM1
    go_wp2_with (refine wpList_load_mem aggRo HM1'.out 1 rfl rfl rfl rfl rfl ?_)
    refine (rsize8_any k l _).mono ?_
    rintro e w3 ⟨rfl, hb3⟩
    have HM3 := Lib.hid (HM1'.out.later hb3)
    clear hb3 HM1'
    by_cases hyx : oencN a k l = x
    · have HV := Lib.hid (HK.out hyx)
      have hsz : objSize (k : Int) (l : Int) ≠ 0 := by
        have h1 := HOS.out
        rw [HD.out, HDS.out, if_pos hyx] at h1
        exact h1 rfl
      have hz : (((objSize (k : Int) (l : Int) : Nat) : Int) == 0) = false := by simp; omega
      generalize objSize (k : Int) (l : Int) = sz at *
      clear hsz
      have HYX := Lib.hid hyx
      clear hyx
      have c0 := HM3.out.cell 1 0 rfl rfl
      have c1 := HM3.out.cell 1 1 rfl rfl
      go_wp2_with fail
      clear c0 c1
      refine (rencode8_any k l a _).mono ?_
      rintro e w4 ⟨rfl, hb4⟩
      rw [HYX.out]
      have HM4 := Lib.hid (HM3.out.later hb4)
      clear hb4 HM3
      go_wp2_with (first | (refine wpList_load_mem aggRo HM4.out 1 rfl rfl rfl rfl rfl ?_) | (refine wpList_store_mem aggRo HM4.out 0 rfl rfl rfl rfl rfl rfl rfl rfl ?_; intro w9 h9 _; have H9 := Lib.hid h9; clear h9))
      refine bodyPost_ret (results_cell_row2 (p := 4) (u := 5) rfl _ _ _ _ _ _ _ rfl (H9.out.exact 0 rfl) Tryz.underlying55 rfl (by kernel_rfl)) rfl ⟨by rw [HV.out]; rfl, H9.out.below⟩
    · have HV := Lib.hid (HL.out hyx)
      by_cases hsz : objSize (k : Int) (l : Int) = 0
      · rw [hsz]
        clear hsz
        go_wp2_with (first | (refine wpList_load_mem aggRo HM3.out 1 rfl rfl rfl rfl rfl ?_) | (refine wpList_store_mem aggRo HM3.out 0 rfl rfl rfl rfl rfl rfl rfl rfl ?_; intro w9 h9 _; have H9 := Lib.hid h9; clear h9))
        refine bodyPost_ret (results_cell_row2 (p := 4) (u := 5) rfl _ _ _ _ _ _ _ rfl (H9.out.exact 0 rfl) Tryz.underlying55 rfl (by kernel_rfl)) rfl ⟨by rw [HV.out]; rfl, H9.out.below⟩
      have hz : (((objSize (k : Int) (l : Int) : Nat) : Int) == 0) = false := by simp; omega
      generalize objSize (k : Int) (l : Int) = sz at *
      clear hsz
      have HYX := Lib.hid hyx
      clear hyx
      have c0 := HM3.out.cell 1 0 rfl rfl
      have c1 := HM3.out.cell 1 1 rfl rfl
      go_wp2_with fail
      clear c0 c1
      refine (rencode8_any k l a _).mono ?_
      rintro e w4 ⟨rfl, hb4⟩
      have HM4 := Lib.hid (HM3.out.later hb4)
      clear hb4 HM3
      have hne : ¬ ((oencN a (k : Int) (l : Int) : Int) = (x : Int)) := by have := HYX.out; omega
      have hne2 : ((oencN a (k : Int) (l : Int) : Int) != (x : Int)) = true := by simp; have := HYX.out; omega
      generalize oencN a (k : Int) (l : Int) = y at *
      go_wp2_with (first | (refine wpList_load_mem aggRo HM4.out 1 rfl rfl rfl rfl rfl ?_) | (refine wpList_store_mem aggRo HM4.out 0 rfl rfl rfl rfl rfl rfl rfl rfl ?_; intro w9 h9 _; have H9 := Lib.hid h9; clear h9))
      refine bodyPost_ret (results_cell_row2 (p := 4) (u := 5) rfl _ _ _ _ _ _ _ rfl (H9.out.exact 0 rfl) Tryz.underlying55 rfl (by kernel_rfl)) rfl ⟨by rw [HV.out]; rfl, H9.out.below⟩
end Go.Proofs.YtfedgcdkagngnaaGreat

/- The reference's objects on a device: Head, Place, Init. -/
namespace Go.Proofs.YtfedgcdkagngnaaGreat
open Go.RowKit
set_option linter.unusedVariables false

/-- What Head answers. -/
def headV (o : Odec) : Value := .tuple #[vob o.p o.d, .bool (decide (o.code = 0))]

set_option maxHeartbeats 4000000 in
set_option maxRecDepth 100000 in
theorem rhead15_any {w : World} {v : Value} {S : Dev} {m : Nat} (hm : S.dirty.length = m) (h : RAt w v m S.ref) {N : Nat} (hf : S.fit N) (a : Int) :
    Calls Tryz.prog 86 #[v, .int .i64 a] w fun e w' => e = .returned (headV (headN S a)) ∧ Below w.heap.size w w' := by
  subst hm
  obtain ⟨an, cn, al, cl, aw, cw, ad, cd, ap, cp, m, sv, fz, dd, rfl, ho, hdl, hm8, hsv, hfz⟩ := ropen h hf
  have HV : Hid (headN S a = if a < 0 ∨ (S.cache.length : Int) ≤ a then ⟨0, 0, 22⟩ else
    if (odecN a (peek S.cache a)).code ≠ 0 ∨ (S.cache.length : Int) - a < (objSize (odecN a (peek S.cache a)).p (odecN a (peek S.cache a)).d : Nat) then ⟨0, 0, 22⟩ else ⟨(odecN a (peek S.cache a)).p, (odecN a (peek S.cache a)).d, 0⟩) := Lib.hid rfl
  generalize headN S a = R at *
  have HPk := Lib.hid (peek_lt hf.wf.u64C a)
  have HO := Lib.hid ho
  have HCL := Lib.hid ho.cl
  clear h hf ho hdl
  have HM := Lib.hid (Mem.two w #[.slice an m cn, .slice al m cl, .slice aw m cw, .slice ad m cd, .slice ap m cp, .int .i64 sv, .int .i64 fz, .bool dd] 34 #[.int .i64 0, .int .i64 0] 55)
  go_enter Tryz.func86, Tryz.ntmps86
  go_upto_region 1 with fail
  generalize (w.alloc _).alloc _ = w0 at *
  have c0 := HM.out.cell 0 0 rfl rfl
  by_cases h1 : a < 0
  · have HR : Hid (R = ⟨0, 0, 22⟩) := Lib.hid (by rw [HV.out, if_pos (.inl h1)])
    go_wp2_with (refine wpList_store_mem aggRo HM.out 1 rfl rfl rfl rfl rfl rfl rfl rfl ?_; intro w9 h9 _; have H9 := Lib.hid h9; clear h9)
    exact bodyPost_ret (results_cell_row2 (p := 4) (u := 5) rfl _ _ _ _ _ _ _ rfl (H9.out.exact 1 rfl) Tryz.underlying55 rfl (by kernel_rfl)) rfl ⟨by rw [HR.out]; rfl, H9.out.below⟩
  by_cases h2 : 8 * (m : Int) ≤ a
  · have HR : Hid (R = ⟨0, 0, 22⟩) := Lib.hid (by rw [HV.out, if_pos (.inr (by rw [HCL.out]; omega))])
    go_wp2_with (refine wpList_store_mem aggRo HM.out 1 rfl rfl rfl rfl rfl rfl rfl rfl ?_; intro w9 h9 _; have H9 := Lib.hid h9; clear h9)
    exact bodyPost_ret (results_cell_row2 (p := 4) (u := 5) rfl _ _ _ _ _ _ _ rfl (H9.out.exact 1 rfl) Tryz.underlying55 rfl (by kernel_rfl)) rfl ⟨by rw [HR.out]; rfl, H9.out.below⟩
  have HV2 : Hid (R = if (odecN a (peek S.cache a)).code ≠ 0 ∨ 8 * (m : Int) - a < (objSize (odecN a (peek S.cache a)).p (odecN a (peek S.cache a)).d : Nat) then ⟨0, 0, 22⟩ else ⟨(odecN a (peek S.cache a)).p, (odecN a (peek S.cache a)).d, 0⟩) := Lib.hid (by
    rw [HV.out, if_neg (by rw [HCL.out]; omega), show (S.cache.length : Int) = 8 * (m : Int) by rw [HCL.out]; omega])
  clear HV
  go_wp2_with fail
  refine (rget_any an m cn S.cache _ (HO.out.k1.below HM.out.below (Nat.le_refl _)) HCL.out (by omega) a).mono ?_
  rintro e w1 ⟨rfl, rfl⟩
  generalize peek S.cache a = x at *
  go_wp2_with fail
  refine (rdecode8_any a x HPk.out _).mono ?_
  rintro e w1 ⟨rfl, hb1⟩
  have HM1 := Lib.hid (HM.out.later hb1)
  generalize odecN a x = o at *
  obtain ⟨p, d, c⟩ := o
  unfold Odec.val
  dsimp only at HV2 ⊢
  have HM2 := Lib.hid (HM1.out.alloc #[.int .i64 p, .int .i64 d] 55)
  clear hb1 HM c0 HM1
  go_upto_region 4 with fail
  generalize w1.alloc _ = w2 at *
  generalize w1.heap.size = g at *
  by_cases hc : c = 0
  · subst hc
    have c0 := HM2.out.cell 0 0 rfl rfl
    have d0 := HM2.out.cell 2 0 rfl rfl
    have d1 := HM2.out.cell 2 1 rfl rfl
    have r0 := fun x => later_cell c0 x
    have r1 := fun x => later_cell d0 x
    have r2 := fun x => later_cell d1 x
    have hw : IntKind.i64.wrap (8 * (m : Int) - a) = 8 * (m : Int) - a := IntWalk.i64_in _ (by omega)
    refine wp_region_seg (C := fun w' => ∃ x : Later (w2), w' = x.val) [.sq [0, 1, 2] false, .fl [3, 5, 6, 7, 8, 9, 10], .sq [4] true, .sq [11, 12] false] (by kernel_rfl) (by kernel_rfl) (by intro c a d v w h; cases d <;> exact h) ?_
    simp only [segs, picks, List.getElem?_cons_succ, List.getElem?_cons_zero]
    have hC1 := later_drew (w2)
    refine wpSeg_sq (fun K hK => ?_)
    go_wp2_with fail
    refine hK _ _ (fun h => nomatch h) ?_
    clear hK K
    refine wpSeg_fl hC1 ?_
    repeat (first | go_big_quiet_step (fail) | quiet_step (fail))
    refine wpQuiet_nil ?_
    refine wpSeg_sq (fun K hK => ?_)
    go_wp2_with fail
    have HM3 := Lib.hid (HM2.out.later (later_below hC1))
    refine (rsize8_any p d _).mono ?_
    rintro e w3 ⟨rfl, hb3⟩
    have hC2 := later_step hC1 hb3
    have HM4 := Lib.hid (HM3.out.later hb3)
    clear hb3 HM3
    go_wp2_with fail
    refine hK _ _ (fun _ => hC2) ?_
    clear hK K
    clear HM2 c0 d0 d1 r0 r1 r2 hC1 hC2
    generalize objSize p d = sz at *
    by_cases h3 : 8 * (m : Int) - a < (sz : Int)
    · have HR : Hid (R = ⟨0, 0, 22⟩) := Lib.hid (by rw [HV2.out, if_pos (.inr h3)])
      refine wpSeg_last ?_
      go_wp2_with (refine wpList_store_mem aggRo HM4.out 1 rfl rfl rfl rfl rfl rfl rfl rfl ?_; intro w9 h9 _; have H9 := Lib.hid h9; clear h9)
      exact bodyPost_ret (results_cell_row2 (p := 4) (u := 5) rfl _ _ _ _ _ _ _ rfl (H9.out.exact 1 rfl) Tryz.underlying55 rfl (by kernel_rfl)) rfl ⟨by rw [HR.out]; rfl, H9.out.below⟩
    · have HR : Hid (R = ⟨p, d, 0⟩) := Lib.hid (by rw [HV2.out, if_neg (by simp; omega)])
      refine wpSeg_last ?_
      go_wp2_with (first | (refine wpList_load_mem aggRo HM4.out 2 rfl rfl rfl rfl rfl ?_) | (refine wpList_store_mem aggRo HM4.out 1 rfl rfl rfl rfl rfl rfl rfl rfl ?_; intro w9 h9 _; have H9 := Lib.hid h9; clear h9))
      exact bodyPost_ret (results_cell_row2 (p := 4) (u := 5) rfl _ _ _ _ _ _ _ rfl (H9.out.exact 1 rfl) Tryz.underlying55 rfl (by kernel_rfl)) rfl ⟨by rw [HR.out]; rfl, H9.out.below⟩
  · have HR : Hid (R = ⟨0, 0, 22⟩) := Lib.hid (by rw [HV2.out, if_pos (.inl hc)])
    have hc1 : (c != 0) = true := by simpa using hc
    clear hc
    refine wp_region_seg (C := fun w' => ∃ x : Later (w2), w' = x.val) [.sq [0, 1, 2] false, .fl [3, 5, 6, 7, 8, 9, 10], .sq [4] true, .sq [11, 12] false] (by kernel_rfl) (by kernel_rfl) (by intro c a d v w h; cases d <;> exact h) ?_
    simp only [segs, picks, List.getElem?_cons_succ, List.getElem?_cons_zero]
    have hC1 := later_drew (w2)
    refine wpSeg_sq (fun K hK => ?_)
    go_wp2_with fail
    refine hK _ _ (fun h => nomatch h) ?_
    clear hK K
    refine wpSeg_fl hC1 ?_
    repeat (first | go_big_quiet_step (fail) | quiet_step (fail))
    refine wpQuiet_nil ?_
    refine wpSeg_sq (fun K hK => ?_)
    go_wp2_with fail
    go_wp2_with fail
    refine hK _ _ (fun _ => hC1) ?_
    clear hK K
    have HM4 := Lib.hid (HM2.out.later (later_below hC1))
    clear HM2 hC1
    refine wpSeg_last ?_
    go_wp2_with (refine wpList_store_mem aggRo HM4.out 1 rfl rfl rfl rfl rfl rfl rfl rfl ?_; intro w9 h9 _; have H9 := Lib.hid h9; clear h9)
    exact bodyPost_ret (results_cell_row2 (p := 4) (u := 5) rfl _ _ _ _ _ _ _ rfl (H9.out.exact 1 rfl) Tryz.underlying55 rfl (by kernel_rfl)) rfl ⟨by rw [HR.out]; rfl, H9.out.below⟩
end Go.Proofs.YtfedgcdkagngnaaGreat

/- object: Ptr, Data, Ptrs; the reference's. -/
namespace Go.Proofs.YtfedgcdkagngnaaGreat
open Go.RowKit
set_option linter.unusedVariables false

/-- A pointer, held within its bound. -/
def capP (x : Nat) : Nat := if 1099511627776 < x then 1099511627776 else x
theorem capP_le (x : Nat) : capP x ≤ 1099511627776 := by unfold capP; split <;> omega

set_option maxHeartbeats 1000000 in
theorem optrG_any {w : World} {F : Foot} {S : Dev} (h : DevAt w F S) (a i : Int) :
    Calls Tryz.prog 58 #[vdev F, .int .i64 a, .int .i64 i] w fun e w' => e = .returned (.tuple #[.int .i64 ((if (placeN S a i false).code = 0 then capP (peek S.cache (placeN S a i false).at_) else 0 : Nat) : Int), .int .i64 (placeN S a i false).code]) ∧ Below w.heap.size w w' := by
  have HD := Lib.hid h
  clear h
  obtain ⟨pn, hpn⟩ : ∃ pn, pn = placeN S a i false := ⟨_, rfl⟩
  rw [← hpn]
  have HPN := Lib.hid hpn
  clear hpn
  generalize hR : (if pn.code = 0 then capP (peek S.cache pn.at_) else 0 : Nat) = R
  have HR := Lib.hid hR
  clear hR
  go_enter Tryz.func58, Tryz.ntmps58
  go_wp2_with fail
  refine (ofield_any HD.out a i false).mono ?_
  rw [← HPN.out]
  rintro e w1 ⟨rfl, hb1⟩
  clear HPN
  obtain ⟨q, c⟩ := pn
  dsimp only at HR ⊢
  have HB := Lib.hid hb1
  have HD1 := Lib.hid (HD.out.below hb1)
  clear hb1 HD
  by_cases hc : c = 0
  · subst hc
    go_wp2_with fail
    refine (dget_any HD1.out q).mono ?_
    rintro e w2 ⟨rfl, rfl⟩
    rw [if_pos trivial] at HR
    generalize peek S.cache q = x at *
    by_cases hx : 1099511627776 < x
    · have HV : Hid (R = 1099511627776) := Lib.hid (by rw [← HR.out]; unfold capP; rw [if_pos hx])
      have hmin : min (x : Int) 1099511627776 = 1099511627776 := Int.min_eq_right (by omega)
      go_wp2_with fail
      go_ret2
      exact ⟨by rw [HV.out]; rfl, HB.out⟩
    · have HV : Hid (R = x) := Lib.hid (by rw [← HR.out]; unfold capP; rw [if_neg hx])
      have hmin : min (x : Int) 1099511627776 = (x : Int) := Int.min_eq_left (by omega)
      go_wp2_with fail
      go_ret2
      exact ⟨by rw [HV.out]; rfl, HB.out⟩
  · have hc1 : (c != 0) = true := by simpa using hc
    have HV : Hid (R = 0) := Lib.hid (by rw [← HR.out, if_neg hc])
    clear hc
    go_wp2_with fail
    go_ret2
    exact ⟨by rw [HV.out]; rfl, HB.out⟩

set_option maxHeartbeats 1000000 in
theorem odataG_any {w : World} {F : Foot} {S : Dev} (h : DevAt w F S) (a i : Int) :
    Calls Tryz.prog 84 #[vdev F, .int .i64 a, .int .i64 i] w fun e w' => e = .returned (.tuple #[vu64 (if (placeN S a i true).code = 0 then peek S.cache (placeN S a i true).at_ else 0 : Nat), .int .i64 (placeN S a i true).code]) ∧ Below w.heap.size w w' := by
  have HD := Lib.hid h
  clear h
  obtain ⟨pn, hpn⟩ : ∃ pn, pn = placeN S a i true := ⟨_, rfl⟩
  rw [← hpn]
  have HPN := Lib.hid hpn
  clear hpn
  generalize hR : (if pn.code = 0 then peek S.cache pn.at_ else 0 : Nat) = R
  have HR := Lib.hid hR
  clear hR
  go_enter Tryz.func84, Tryz.ntmps84
  go_wp2_with fail
  refine (ofield_any HD.out a i true).mono ?_
  rw [← HPN.out]
  rintro e w1 ⟨rfl, hb1⟩
  clear HPN
  obtain ⟨q, c⟩ := pn
  dsimp only at HR ⊢
  have HB := Lib.hid hb1
  have HD1 := Lib.hid (HD.out.below hb1)
  clear hb1 HD
  by_cases hc : c = 0
  · subst hc
    go_wp2_with fail
    refine (dget_any HD1.out q).mono ?_
    rintro e w2 ⟨rfl, rfl⟩
    rw [if_pos trivial] at HR
    go_wp2_with fail
    go_ret2
    exact ⟨by rw [HR.out]; rfl, HB.out⟩
  · have hc1 : (c != 0) = true := by simpa using hc
    have HV : Hid (R = 0) := Lib.hid (by rw [← HR.out, if_neg hc])
    clear hc
    go_wp2_with fail
    go_ret2
    exact ⟨by rw [HV.out]; rfl, HB.out⟩

set_option maxHeartbeats 400000 in
theorem rptr_any (x : Nat) (w : World) : Calls Tryz.prog 111 #[vu64 x] w fun e w' => e = .returned (.int .i64 (capP x : Nat)) ∧ w = w' := by
  by_cases hx : 1099511627776 < x
  · have HV : Hid (capP x = 1099511627776) := Lib.hid (by unfold capP; rw [if_pos hx])
    have hx' : (1099511627776 : Int) < (x : Int) := by omega
    go_enter Tryz.func111, Tryz.ntmps111
    go_wp2_with fail
    go_ret
    exact ⟨by rw [HV.out]; rfl, rfl⟩
  · have HV : Hid (capP x = x) := Lib.hid (by unfold capP; rw [if_neg hx])
    have hx' : ¬ (1099511627776 : Int) < (x : Int) := by omega
    go_enter Tryz.func111, Tryz.ntmps111
    go_wp2_with fail
    go_ret
    exact ⟨by rw [HV.out]; rfl, rfl⟩

/-- Where an object's pointers lead. -/
def ptrL (S : Dev) (a : Int) (k : Nat) : List Nat := (List.range k).map fun i : Nat => capP (peek S.cache (a + 1 + (i : Int)))
theorem ptrL_succ (S : Dev) (a : Int) (k : Nat) : ptrL S a (k + 1) = ptrL S a k ++ [capP (peek S.cache (a + 1 + (k : Int)))] := by simp [ptrL, List.range_succ]
/-- What the reference's list of fields is. -/
def RList (e n : Nat) (vs : List Value) (w : World) : Ending → World → Prop := fun r w' => ∃ v, r = .returned v ∧ w'.ownsRow w.heap.size e 1 v n vs ∧ Below w.heap.size w w'

set_option maxHeartbeats 2000000 in
set_option maxRecDepth 20000 in
theorem rptrs15_any {w : World} {v : Value} {S : Dev} {m : Nat} (hm : S.dirty.length = m) (h : RAt w v m S.ref) {N : Nat} (hf : S.fit N) (a : Int) :
    Calls Tryz.prog 40 #[v, .int .i64 a] w (RList 3 (if (headN S a).code = 0 then (headN S a).p.toNat else 0) ((ptrL S a (if (headN S a).code = 0 then (headN S a).p.toNat else 0)).map vi) w) := by
  subst hm
  obtain ⟨an, cn, al, cl, aw, cw, ad, cd, ap, cp, m, sv, fz, dd, rfl, ho, hdl, hm8, hsv, hfz⟩ := ropen h hf
  have HRA := Lib.hid h
  have HF := Lib.hid hf
  have HSm := Lib.hid (head_small hf.wf.small (a := a))
  rw [hdl] at HRA
  have HK1 := Lib.hid ho.k1
  have HCL := Lib.hid ho.cl
  obtain ⟨n, hn⟩ : ∃ n, n = if (headN S a).code = 0 then (headN S a).p.toNat else 0 := ⟨_, rfl⟩
  rw [← hn]
  generalize hpo : RList 3 n ((ptrL S a n).map vi) w = Post
  have HDL := Lib.hid hdl
  have HN := Lib.hid hn
  have HPO := Lib.hid hpo
  clear hdl hn hpo
  clear h hf ho
  have HM := Lib.hid (Mem.one w #[.slice an m cn, .slice al m cl, .slice aw m cw, .slice ad m cd, .slice ap m cp, .int .i64 sv, .int .i64 fz, .bool dd] 34)
  go_enter Tryz.func40, Tryz.ntmps40
  go_upto_region 1 with fail
  generalize w.alloc _ = w0 at *
  go_wp2_with (refine wpList_load_mem aggRd HM.out 0 rfl rfl rfl rfl rfl ?_)
  refine (rhead15_any HDL.out (HRA.out.below HM.out.below (Nat.le_refl _)) HF.out a).mono ?_
  rintro e w1 ⟨rfl, hb1⟩
  generalize headN S a = x at *
  obtain ⟨p, d, c⟩ := x
  unfold headV
  dsimp only at HSm HN ⊢
  have HM2 := Lib.hid ((HM.out.later hb1).alloc #[.int .i64 p, .int .i64 d] 55)
  clear hb1 HM
  by_cases hc : c = 0
  · subst hc
    obtain ⟨ha, ⟨hp0, hp1⟩, _⟩ := HSm.out rfl
    have hnp : p = (n : Int) := by have := HN.out; rw [if_pos rfl] at this; omega
    subst hnp
    rw [decide_eq_true (show (0 : Int) = 0 from rfl)]
    go_upto_region 2 with fail
    generalize w1.alloc _ = w2 at *
    generalize w1.heap.size = g at *
    go_wp2_with fail
    go_loopw [7, 8] (fun v i wr => ∃ k : Nat, k ≤ n ∧ i = .int .i64 k ∧ wr.ownsRow w2.heap.size 3 1 v k ((ptrL S a k).map vi) ∧ Below w2.heap.size w2 wr) (fun _ i _ => n - (intOf i).toNat)
    case atStart => exact ⟨0, Nat.zero_le _, rfl, ⟨rfl, .inl ⟨rfl, rfl⟩⟩, Below.refl _ _⟩
    case round =>
      obtain ⟨k, hk, rfl, ho, hb⟩ := hrel
      obtain ⟨a1, c1, rfl, hc1, hm1⟩ := owned_form ho
      have c0 := (HM2.out.later hb).cell 0 0 rfl rfl
      have o0 := (HM2.out.later hb).cell 1 0 rfl rfl
      have HO := Lib.hid ho
      have HB := Lib.hid hb
      clear ho hb
      by_cases hlt : k < n
      · have hlt' : (k : Int) < (n : Int) := by omega
        have HS := Lib.hid (ptrL_succ S a k)
        go_wp2_with fail
        refine (rget_any an m cn S.cache _ (HK1.out.below (HM2.out.later HB.out).below (Nat.le_refl _)) HCL.out (by omega) _).mono ?_
        rintro e w3 ⟨rfl, rfl⟩
        generalize peek S.cache (a + 1 + (k : Int)) = y at *
        go_wp2_with fail
        refine (rptr_any y _).mono ?_
        rintro e w3 ⟨rfl, rfl⟩
        generalize capP y = y2 at *
        have hone : Hid (∀ u ∈ (#[vi y2] : Array Value).toList, u.oneCell' = true) := Lib.hid (by intro u hu; simp at hu; subst hu; rfl)
        have hbase : Hid (w2.heap.size ≤ wr.heap.size) := Lib.hid HB.out.size
        have hk9 : k < 1000000000000 := by omega
        clear c0 o0
        go_wp2_with (at_builtin; refine wpList_append_new (us := #[vi y2]) elInt HO.out rfl hone.out hk9 (by decide) hbase.out rfl rfl rfl (by simp [Act.eval]) ?_; intro g6 c6 w6 ho6 hg6 hc6 hm6 hb6 hl6; have HO6 := Lib.hid ho6; have HG6 := Lib.hid hg6; clear ho6 hg6)
        refine ⟨⟨k + 1, by omega, vint (by omega), ?_, below_grownBy HB.out HO.out HG6.out (Nat.le_refl _) (Nat.le_refl _)⟩, by simp [intOf]; omega⟩
        rw [HS.out]
        simpa using HO6.out
      · obtain rfl : k = n := by omega
        have hlt' : decide ((k : Int) < (k : Int)) = false := by simp
        go_wp2_with fail
        rw [← HPO.out]
        exact ⟨_, rfl, owned_base HO.out HM2.out.below.size, (HM2.out.later HB.out).below⟩
  · have hn0 : n = 0 := by rw [HN.out, if_neg hc]
    subst hn0
    rw [decide_eq_false hc]
    clear hc
    go_upto_region 2 with fail
    generalize w1.alloc _ = w2 at *
    generalize w1.heap.size = g at *
    go_wp2_with fail
    go_loopw [7, 8] (fun v i wr => v = .slice none 0 0 ∧ i = .int .i64 0 ∧ wr = w2) (fun _ i _ => 0)
    case atStart => exact ⟨rfl, rfl, rfl⟩
    case round =>
      obtain ⟨rfl, rfl, rfl⟩ := hrel
      go_wp2_with fail
      rw [← HPO.out]
      exact ⟨_, rfl, ⟨rfl, .inl ⟨rfl, rfl⟩⟩, HM2.out.below⟩

set_option maxHeartbeats 2000000 in
set_option maxRecDepth 20000 in
theorem rwords15_any {w : World} {v : Value} {S : Dev} {m : Nat} (hm : S.dirty.length = m) (h : RAt w v m S.ref) {N : Nat} (hf : S.fit N) (a : Int) :
    Calls Tryz.prog 158 #[v, .int .i64 a] w (RList 136 (if (headN S a).code = 0 then objSize (headN S a).p (headN S a).d else 0) ((wordsAt S.cache a (if (headN S a).code = 0 then objSize (headN S a).p (headN S a).d else 0)).map vu64) w) := by
  subst hm
  obtain ⟨an, cn, al, cl, aw, cw, ad, cd, ap, cp, m, sv, fz, dd, rfl, ho, hdl, hm8, hsv, hfz⟩ := ropen h hf
  have HRA := Lib.hid h
  have HF := Lib.hid hf
  have HSm := Lib.hid (head_small hf.wf.small (a := a))
  rw [hdl] at HRA
  have HK1 := Lib.hid ho.k1
  have HCL := Lib.hid ho.cl
  obtain ⟨n, hn⟩ : ∃ n, n = if (headN S a).code = 0 then objSize (headN S a).p (headN S a).d else 0 := ⟨_, rfl⟩
  rw [← hn]
  generalize hpo : RList 136 n ((wordsAt S.cache a n).map vu64) w = Post
  have HDL := Lib.hid hdl
  have HN := Lib.hid hn
  have HPO := Lib.hid hpo
  clear hdl hn hpo
  clear h hf ho
  have HM := Lib.hid (Mem.one w #[.slice an m cn, .slice al m cl, .slice aw m cw, .slice ad m cd, .slice ap m cp, .int .i64 sv, .int .i64 fz, .bool dd] 34)
  go_enter Tryz.func158, Tryz.ntmps158
  go_upto_region 1 with fail
  generalize w.alloc _ = w0 at *
  go_wp2_with (refine wpList_load_mem aggRd HM.out 0 rfl rfl rfl rfl rfl ?_)
  refine (rhead15_any HDL.out (HRA.out.below HM.out.below (Nat.le_refl _)) HF.out a).mono ?_
  rintro e w1 ⟨rfl, hb1⟩
  generalize headN S a = x at *
  obtain ⟨p, d, c⟩ := x
  unfold headV
  dsimp only at HSm HN ⊢
  have HM2 := Lib.hid ((HM.out.later hb1).alloc #[.int .i64 p, .int .i64 d] 55)
  clear hb1 HM
  by_cases hc : c = 0
  · subst hc
    obtain ⟨ha, hp, hd⟩ := HSm.out rfl
    have hnp : objSize p d = n := by have := HN.out; rw [if_pos rfl] at this; exact this.symm
    have hszl := objSize_le p d
    rw [hnp] at hszl
    have HNP := Lib.hid hnp
    clear hnp
    rw [decide_eq_true (show (0 : Int) = 0 from rfl)]
    go_upto_region 2 with fail
    generalize w1.alloc _ = w2 at *
    generalize w1.heap.size = g at *
    go_wp2_with fail
    go_loopw [7, 8] (fun v i wr => ∃ k : Nat, k ≤ n ∧ i = .int .i64 k ∧ wr.ownsRow w2.heap.size 136 1 v k ((wordsAt S.cache a k).map vu64) ∧ Below w2.heap.size w2 wr) (fun _ i _ => n - (intOf i).toNat)
    case atStart => exact ⟨0, Nat.zero_le _, rfl, ⟨rfl, .inl ⟨rfl, rfl⟩⟩, Below.refl _ _⟩
    case round =>
      obtain ⟨k, hk, rfl, ho, hb⟩ := hrel
      obtain ⟨a1, c1, rfl, hc1, hm1⟩ := owned_form ho
      have c0 := (HM2.out.later hb).cell 0 0 rfl rfl
      have o0 := (HM2.out.later hb).cell 1 0 rfl rfl
      have o1 := (HM2.out.later hb).cell 1 1 rfl rfl
      have HO := Lib.hid ho
      have HB := Lib.hid hb
      clear ho hb
      by_cases hlt : k < n
      · have hlt' : (k : Int) < (n : Int) := by omega
        have HS := Lib.hid (wordsAt_succ S.cache a k)
        go_wp2_with fail
        refine (rsize8_any p d _).mono ?_
        rintro e w3 ⟨rfl, hb3⟩
        rw [HNP.out]
        have HO3 := Lib.hid (owned_below HO.out hb3 (Nat.le_refl _))
        have HB3 := Lib.hid (HB.out.trans (hb3.mono HB.out.size))
        have c0 := (HM2.out.later HB3.out).cell 0 0 rfl rfl
        clear hb3 HO HB
        go_wp2_with fail
        refine (rget_any an m cn S.cache _ (HK1.out.below (HM2.out.later HB3.out).below (Nat.le_refl _)) HCL.out (by omega) _).mono ?_
        rintro e w4 ⟨rfl, rfl⟩
        generalize peek S.cache (a + (k : Int)) = y at *
        have hone : Hid (∀ u ∈ (#[vu64 y] : Array Value).toList, u.oneCell' = true) := Lib.hid (by intro u hu; simp at hu; subst hu; rfl)
        have hbase : Hid (w2.heap.size ≤ w3.heap.size) := Lib.hid HB3.out.size
        have hk9 : k < 1000000000000 := by omega
        go_wp2_with (at_builtin; refine wpList_append_new (us := #[vu64 y]) el64 HO3.out rfl hone.out hk9 (by decide) hbase.out rfl rfl rfl (by simp [Act.eval]) ?_; intro g6 c6 w6 ho6 hg6 hc6 hm6 hb6 hl6; have HO6 := Lib.hid ho6; have HG6 := Lib.hid hg6; clear ho6 hg6)
        refine ⟨⟨k + 1, by omega, vint (by omega), ?_, below_grownBy HB3.out HO3.out HG6.out (Nat.le_refl _) (Nat.le_refl _)⟩, by simp [intOf]; omega⟩
        rw [HS.out]
        simpa using HO6.out
      · obtain rfl : k = n := by omega
        have hlt' : decide ((k : Int) < (k : Int)) = false := by simp
        go_wp2_with fail
        refine (rsize8_any p d _).mono ?_
        rintro e w3 ⟨rfl, hb3⟩
        rw [HNP.out]
        have HO3 := Lib.hid (owned_below HO.out hb3 (Nat.le_refl _))
        have HB3 := Lib.hid (HB.out.trans (hb3.mono HB.out.size))
        clear hb3
        go_wp2_with fail
        rw [← HPO.out]
        exact ⟨_, rfl, owned_base HO3.out HM2.out.below.size, (HM2.out.later HB3.out).below⟩
  · have hn0 : n = 0 := by rw [HN.out, if_neg hc]
    subst hn0
    rw [decide_eq_false hc]
    clear hc
    go_upto_region 2 with fail
    generalize w1.alloc _ = w2 at *
    generalize w1.heap.size = g at *
    go_wp2_with fail
    go_loopw [7, 8] (fun v i wr => v = .slice none 0 0 ∧ i = .int .i64 0 ∧ wr = w2) (fun _ i _ => 0)
    case atStart => exact ⟨rfl, rfl, rfl⟩
    case round =>
      obtain ⟨rfl, rfl, rfl⟩ := hrel
      go_wp2_with fail
      rw [← HPO.out]
      exact ⟨_, rfl, ⟨rfl, .inl ⟨rfl, rfl⟩⟩, HM2.out.below⟩

end Go.Proofs.YtfedgcdkagngnaaGreat

/- law20: Now: the device as the document's. -/
namespace Go.Proofs.YtfedgcdkagngnaaGreat
open Go.RowKit
set_option linter.unusedVariables false

/-- The device that the words as they are make. -/
def nowD (S : Dev) : Dev := freshDev S.cache S.dirty.length
theorem nowD_fit {S : Dev} (h : S.wf) (N : Nat) : (nowD S).fit N :=
  ⟨⟨rfl, by simp [nowD, freshDev], by simp [nowD, freshDev], by simp [nowD, freshDev, h.lenD], h.small, h.u64C, h.u64C, fun z hz => by simp [nowD, freshDev] at hz; omega⟩, fresh_ok _ _ _, fun h => by cases h⟩
theorem nowD_ref {S : Dev} (h : S.wf) : freshR S.cache S.dirty.length = (nowD S).ref := by
  unfold freshR Dev.ref nowD freshDev
  rw [h.lenD]; rfl

/-- What Now tells. -/
def NowPost (S : Dev) (w : World) : Ending → World → Prop := fun e w' => ∃ v, e = .returned v ∧ RAt w' v S.dirty.length (nowD S).ref ∧ (∀ b, RIn v b → w.heap.size ≤ b) ∧ Below w.heap.size w w'

set_option maxHeartbeats 4000000 in
set_option maxRecDepth 20000 in
theorem wnow_any {w : World} {F : Foot} {S : Dev} (h : DevAt w F S) (x v : Value) (hL : S.cache.length ≤ 8192) :
    Calls Tryz.prog 16 #[.agg #[x, vdev F, v]] w (NowPost S w) := by
  have HMem := Lib.hid (Mem.two w #[x, vdev F, v] 28 zeroD 34)
  have HD0 := Lib.hid (h.below HMem.out.below)
  have HWf := Lib.hid h.wf
  have HP : Hid (∀ v w', RAt w' v S.dirty.length (nowD S).ref → (∀ b, RIn v b → w.heap.size ≤ b) → Below w.heap.size w w' → NowPost S w (.returned v) w') := Lib.hid (fun v w' h1 h2 h3 => ⟨v, rfl, h1, h2, h3⟩)
  generalize NowPost S w = Post at *
  obtain ⟨l, hl⟩ : ∃ l, l = S.cache.length := ⟨_, rfl⟩
  rw [← hl] at hL
  have HL := Lib.hid hl
  clear h hl
  go_enter Tryz.func16, Tryz.ntmps16
  go_upto_region 1 with fail
  rw [show (#[.slice none 0 0, .slice none 0 0, .slice none 0 0, .slice none 0 0, .slice none 0 0, .int .i64 0, .int .i64 0, .bool false] : Array Value) = zeroD from rfl]
  obtain ⟨q, hq⟩ : ∃ q, q = w.heap.size := ⟨_, rfl⟩
  rw [← hq] at HMem ⊢
  have HQ := Lib.hid hq
  generalize (w.alloc _).alloc _ = w0 at *
  clear hq
  go_wp2_with fail
  go_loopw [3, 4] (fun v i wr => ∃ k : Nat, k ≤ l ∧ i = .int .i64 (k : Int) ∧ Hid (wr.ownsRow w0.heap.size 136 1 v k ((S.cache.take k).map vu64)) ∧ Hid (Below w0.heap.size w0 wr)) (fun _ i _ => l - (intOf i).toNat)
  case atStart => exact ⟨0, Nat.zero_le _, rfl, Lib.hid ⟨rfl, .inl ⟨rfl, rfl⟩⟩, Lib.hid (Below.refl _ _)⟩
  case round =>
    obtain ⟨k, hk, rfl, HO, HB⟩ := hrel
    obtain ⟨a1, c1, rfl, hc1, hm1⟩ := owned_form HO.out
    have HM1 := Lib.hid (HMem.out.later HB.out)
    have HD1 := Lib.hid (HD0.out.below HB.out)
    have e1 := HM1.out.cell 0 1 rfl rfl
    by_cases hlt : k < l
    · have hlt' : (k : Int) < (l : Int) := by omega
      have hlt2 : (k : Int) < 8192 := by omega
      have HLn := Lib.hid (dlen_any HD1.out)
      rw [← HL.out] at HLn
      have HGet := Lib.hid (dget_any HD1.out (k : Int))
      rw [peek_in] at HGet
      have HS : Hid ((S.cache.take (k + 1)).map vu64 = (S.cache.take k).map vu64 ++ [vu64 (S.cache.getD k 0)]) := Lib.hid (by
        have : k < S.cache.length := by rw [← HL.out]; exact hlt
        rw [List.take_succ_eq_append_getElem this, List.map_append, List.getD_eq_getElem?_getD, List.getElem?_eq_getElem this]; rfl)
      generalize S.cache.getD k 0 = y at *
      have hone : Hid (∀ u ∈ (#[vu64 y] : Array Value).toList, u.oneCell' = true) := Lib.hid (by intro u hu; simp at hu; subst hu; rfl)
      have hbase : Hid (w0.heap.size ≤ wr.heap.size) := Lib.hid HB.out.size
      have hk9 : k < 1000000000000 := by omega
      go_wp2_with fail
      refine HLn.out.mono ?_
      rintro e w3 ⟨rfl, rfl⟩
      go_wp2_with fail
      refine HGet.out.mono ?_
      rintro e w4 ⟨rfl, rfl⟩
      go_wp2_with (at_builtin; refine wpList_append_new (us := #[vu64 y]) el64 HO.out rfl hone.out hk9 (by decide) hbase.out rfl rfl rfl (by simp [Act.eval]) ?_; intro g6 c6 w6 ho6 hg6 hc6 hm6 hb6 hl6; have HO6 := Lib.hid ho6; have HG6 := Lib.hid hg6; clear ho6 hg6)
      go_roundw
      case rel =>
        refine ⟨k + 1, by omega, vint (by omega), Lib.hid ?_, Lib.hid (below_grownBy HB.out HO.out HG6.out (Nat.le_refl _) (Nat.le_refl _))⟩
        rw [HS.out]
        simpa using HO6.out
      case measure => simp [intOf]; omega
    · obtain rfl : k = l := by omega
      have hlt' : ¬ (k : Int) < (k : Int) := by omega
      have HLn := Lib.hid (dlen_any HD1.out)
      rw [← HL.out] at HLn
      go_wp2_with fail
      refine HLn.out.mono ?_
      rintro e w3 ⟨rfl, rfl⟩
      have HC := Lib.hid (Cells.owned HO.out)
      have hll : S.cache.take k = S.cache := by rw [HL.out, List.take_length]
      rw [hll] at HC
      go_wp2_with fail
      refine (rload_at a1 k c1 S.cache HL.out.symm wr HC.out (by omega) HWf.out.u64C).mono ?_
      rintro e w6 ⟨v6, rfl, hra6, hloc6, hb6⟩
      have h8 := HWf.out.lenD
      have hlo := HL.out
      rw [show (k + 7) / 8 = S.dirty.length by omega, show padTo S.cache (8 * S.dirty.length) = S.cache by unfold padTo; rw [show 8 * S.dirty.length - S.cache.length = 0 by omega]; simp, nowD_ref HWf.out] at hra6
      obtain ⟨an, cn, al, cl, aw, cw, ad, cd, ap, cp, rfl, hex⟩ := hra6.ex
      have HRA := Lib.hid hra6
      have HM6 := Lib.hid (HM1.out.later hb6)
      have HLoc : Hid (∀ b, RIn (.agg #[.slice an S.dirty.length cn, .slice al S.dirty.length cl, .slice aw S.dirty.length cw, .slice ad S.dirty.length cd, .slice ap S.dirty.length cp, .int .i64 (nowD S).ref.steps, .int .i64 (nowD S).ref.fuse, .bool (nowD S).ref.dead]) b → wr.heap.size ≤ b) := Lib.hid (by
        rintro b ⟨cs, hcs, i, x, n, c, hi, rfl⟩
        exact hloc6 cs hcs i x n c hi)
      have HWr := Lib.hid (show q + 2 ≤ wr.heap.size by have := HM1.out.glt 0 rfl; have := HM1.out.glt 1 rfl; omega)
      clear hra6 hloc6 hb6 hex hll h8 hlo
      generalize (nowD S).ref.steps = st at *
      generalize (nowD S).ref.fuse = fz at *
      generalize (nowD S).ref.dead = dd at *
      go_wp2_with (refine wpList_store_mem aggRd HM6.out 1 rfl rfl rfl rfl rfl rfl rfl rfl ?_; intro w8 h8 ht8; have H8 := Lib.hid h8; have HT8 := Lib.hid ht8; clear h8 ht8)
      refine bodyPost_ret (results_cell_row rfl _ _ _ _ _ _ _ rfl (H8.out.exact 1 rfl) Tryz.underlying34 rfl (by kernel_rfl)) rfl ?_
      refine HP.out _ _ (HRA.out.touch HT8.out (.inr (fun b hb hm => ?_))) (fun b hb => ?_) H8.out.below
      · have := HLoc.out b hb
        have := HWr.out
        simp at hm; omega
      · have := HLoc.out b hb
        have := HWr.out
        have := HQ.out
        omega

end Go.Proofs.YtfedgcdkagngnaaGreat

/- law20: a heap of objects that calls leave: plain; in memory. -/
namespace Go.Proofs.YtfedgcdkagngnaaGreat
open Go.RowKit
set_option linter.unusedVariables false

/-- Objects that were made are in use, each once. -/
structure WOk (B : Nat) (m : Al) (xs : List Nat) : Prop where
  ok : AlOk B m
  us : ∀ x ∈ xs, m.used.getD x false = true
  nd : xs.Nodup
section
variable {B : Nat} {m m' : Al} {xs : List Nat}
theorem WOk.begun (hB2 : 2 ≤ B) (hB : B ≤ 100) : WOk B (al0 B) [] := ⟨al0_ok hB2 hB, by simp, List.nodup_nil⟩
theorem WOk.lt (h : WOk B m xs) {x : Nat} (hx : x ∈ xs) : 512 ≤ x ∧ x < 512 * B := by
  have h1 := h.us x hx
  have h2 := getD_true_lt h1
  rw [h.ok.lenU] at h2
  exact ⟨(h.ok.used_kind h1).1, h2⟩
theorem nodup_count {l : List Nat} (h : l.Nodup) (a : Nat) : l.count a ≤ 1 := List.nodup_iff_count.1 h a
theorem WOk.len (h : WOk B m xs) : xs.length ≤ 512 * B := nodup_len _ _ (fun x hx => (h.lt hx).2) (nodup_count h.nd)
theorem WOk.made (h : WOk B m xs) {a : Nat} {p d : Int} (hm : Made B m m' a p d) : WOk B m' (xs ++ [a]) := by
  have ha : m'.used.getD a false = true := by
    have h1 := placed_room hm.placed
    have h2 := h1.pos.2.2
    have h3 := h1.pos.1
    rw [hm.ok.bm.lenL] at h2
    rw [hm.used, getD_set_bool _ _ _ _ (by rw [h.ok.lenU]; omega), if_pos rfl]
  refine ⟨hm.ok, fun x hx => ?_, ?_⟩
  · rcases List.mem_append.1 hx with hx | hx
    · exact (hm.others h.ok (h.us x hx)).1
    · simp at hx; subst hx; exact ha
  · rw [List.nodup_append]
    refine ⟨h.nd, by simp, fun x hx y hy => ?_⟩
    simp at hy; subst hy
    intro e; subst e
    have := h.us x hx
    rw [hm.new] at this; cases this
theorem WOk.more (h : WOk B m xs) {a : Nat} {p d : Int} (hm : Made B m m' a p d) : WOk B m' xs := by
  have := h.made hm
  exact ⟨this.ok, fun x hx => this.us x (List.mem_append_left _ hx), h.nd⟩

theorem setPtr_okN {S : Dev} {N : Nat} (h : S.ok N) (a i x : Int) : (S.setPtr a i x).dev.ok (N + 1) := by
  unfold Dev.setPtr
  split
  · exact h.mono (by omega)
  · split
    · exact h.mono (by omega)
    · exact Dev.store_okN h _ _
theorem lead_okN {N : Nat} (h : m.bm.dev.ok N) (i p t : Int) : (m.lead xs i p t).bm.dev.ok (N + 1) := by
  unfold Al.lead
  split
  · exact h.mono (by omega)
  · exact setPtr_okN h _ _ _

/-- What a pointer's change does. -/
theorem lead_is (h : WOk B m xs) (hB : B ≤ 200) (i p t : Int) : m.lead xs i p t = m ∨
    ∃ (x : Nat) (o : Odec) (k : Nat), x = pickN xs i ∧ x ≠ 0 ∧ placedN m.bm.dev m.bm.list (x : Int) = some o ∧ p = (k : Int) ∧ p < o.p ∧ m.lead xs i p t = ⟨⟨m.bm.dev.store ((x + 1 + k : Nat) : Int) (pickN xs t), m.bm.list, m.bm.free⟩, m.used, m.fl⟩ := by
  by_cases c : pickN xs i = 0
  · left; unfold Al.lead; rw [if_pos c]
  · have hu := h.us _ (pickN_mem c)
    obtain ⟨o, ho⟩ := Option.isSome_iff_exists.1 (h.ok.placed _ hu)
    obtain ⟨h1, h2, _⟩ := placed_head ho
    have hc : (headN m.bm.dev ((pickN xs i : Nat) : Int)).code = 0 := by rw [h1]; exact h2
    have hpl : placeN m.bm.dev ((pickN xs i : Nat) : Int) p false = if 0 ≤ p ∧ p < o.p then ⟨((pickN xs i : Nat) : Int) + (1 + p), 0⟩ else ⟨0, 7⟩ := by
      unfold placeN
      rw [if_neg (show ¬ (headN m.bm.dev ((pickN xs i : Nat) : Int)).code ≠ 0 by omega), h1]; rfl
    unfold Al.lead
    rw [if_neg c]
    by_cases hp : 0 ≤ p ∧ p < o.p
    · right
      obtain ⟨k, rfl⟩ := Int.eq_ofNat_of_zero_le hp.1
      refine ⟨_, o, k, rfl, c, ho, rfl, hp.2, ?_⟩
      have e1 : m.bm.dev.setPtr ((pickN xs i : Nat) : Int) (k : Int) ((pickN xs t : Nat) : Int) = ⟨m.bm.dev.store (((pickN xs i : Nat) : Int) + (1 + (k : Int))) ((pickN xs t : Nat) : Int).toNat, m.bm.dev.storeE (((pickN xs i : Nat) : Int) + (1 + (k : Int)))⟩ := by
        unfold Dev.setPtr
        rw [hpl, if_pos hp]
        exact (if_neg (fun h => h rfl)).trans (if_neg (by omega))
      rw [e1]
      dsimp only
      rw [show ((pickN xs i : Nat) : Int) + (1 + (k : Int)) = ((pickN xs i + 1 + k : Nat) : Int) by push_cast; omega, Int.toNat_natCast]
    · left
      have e1 : m.bm.dev.setPtr ((pickN xs i : Nat) : Int) p ((pickN xs t : Nat) : Int) = ⟨m.bm.dev, 7⟩ := by
        unfold Dev.setPtr
        rw [hpl, if_neg hp]
        exact if_pos (fun h => by cases h)
      rw [e1]
theorem placed_size {S : Dev} {L : List Hd} {a : Int} {o : Odec} (h : placedN S L a = some o) : objSize o.p o.d ≠ 0 ∧ 0 ≤ o.p ∧ o.p < 64 ∧ 0 ≤ o.d ∧ o.d ≤ 16384 := by
  obtain ⟨h1, h2, _⟩ := placed_head h
  have := headN_code S a
  rw [h1] at this
  rcases this with this | this
  · have h3 := obj_small this.2.2.2.1
    exact ⟨this.2.2.2.1, h3.1.1, h3.1.2, h3.2⟩
  · rw [this] at h2; cases h2
theorem objSize_is {p d : Int} (h : objSize p d ≠ 0) : (objSize p d : Int) = 1 + p + d := by
  unfold objSize at h ⊢
  split
  · next c => rw [if_pos c] at h; exact absurd rfl h
  · omega
theorem WOk.lead (h : WOk B m xs) (hB : B ≤ 200) (i p t : Int) : WOk B (m.lead xs i p t) xs := by
  rcases lead_is h hB i p t with e | ⟨x, o, k, hx, x0, ho, rfl, hk, e⟩
  · rw [e]; exact h
  · have hu := h.us _ (hx ▸ pickN_mem (by rw [← hx]; exact x0))
    obtain ⟨s1, s2, s3, s4, s5⟩ := placed_size ho
    have hs := objSize_is s1
    have hv : pickN xs t < 18446744073709551616 := by
      by_cases c : pickN xs t = 0
      · omega
      · have := (h.lt (pickN_mem c)).2; omega
    obtain ⟨_, a2, _, _⟩ := h.ok.store hB hu ho (j := x + 1 + k) (v := pickN xs t) (by omega) (by omega) hv
    rw [e]
    exact ⟨a2, h.us, h.nd⟩
end

/-- Blocks that a call leaves as they are. -/
def Off (Q : List Nat) (w w' : World) : Prop := ∃ L, Touch L w w' ∧ ∀ k ∈ Q, k ∉ L
theorem MemR.off {B : Nat} {W W' : World} {L : List Ent} {Q : List Nat} (h : MemR B W L) (ho : Off Q W W') (hQ : ∀ x ∈ L.map Ent.g, x ∈ Q) : MemR B W' L := by
  obtain ⟨X, h1, h2⟩ := ho
  exact h.apart h1 (fun x hx => h2 _ (hQ _ (List.mem_map_of_mem hx)))

/-- A heap of law20 that a call has made, in memory; Q: other blocks of the call's own. -/
structure Hp (w wr : World) (Q : List Nat) (A : AF) (n B N : Nat) (m : Al) (v : Value) (xs : List Nat) : Prop where
  at_ : WAt wr A n B m v xs
  ok : WOk B m xs
  steps : m.bm.dev.ok N
  new : ∀ k ∈ A.list, w.heap.size ≤ k ∧ k ∉ Q
  newv : ∀ b, rowOf v = some b → w.heap.size ≤ b ∧ b ∉ Q
  qlt : ∀ k ∈ Q, k < wr.heap.size
  below : Below w.heap.size w wr
section
variable {w wr w' : World} {Q : List Nat} {A : AF} {n n' B N N' : Nat} {m m' : Al} {v v' : Value} {xs xs' : List Nat}
theorem Hp.later (h : Hp w wr Q A n B N m v xs) (hb : Below wr.heap.size wr w') : Hp w w' Q A n B N m v xs :=
  ⟨h.at_.below hb, h.ok, h.steps, h.new, h.newv, fun k hk => Nat.lt_of_lt_of_le (h.qlt k hk) hb.size, h.below.trans (hb.mono h.below.size)⟩
theorem Hp.mono (h : Hp w wr Q A n B N m v xs) (hn : n ≤ n') (hN : N ≤ N') : Hp w wr Q A n' B N' m v xs :=
  ⟨h.at_.mono hn, h.ok, h.steps.mono hN, h.new, h.newv, h.qlt, h.below⟩
/-- Steps in the caller's own blocks. -/
theorem Hp.own (h : Hp w wr Q A n B N m v xs) (ht : Touch Q wr w') (hQ : ∀ k ∈ Q, w.heap.size ≤ k) : Hp w w' Q A n B N m v xs :=
  ⟨⟨h.at_.al.keep (fun k hk => ht.block k (h.at_.al.mem k hk) (h.new k hk).2), h.at_.own.keep (fun b hb => ht.block b (h.at_.own.lt b hb) (h.newv b hb).2), h.at_.apart⟩,
    h.ok, h.steps, h.new, h.newv, fun k hk => Nat.lt_of_lt_of_le (h.qlt k hk) ht.size, below_touched h.below ht hQ (Nat.le_refl _)⟩
theorem Hp.go (h : Hp w wr Q A n B N m v xs) (hg : WGo wr w' A n' B m' v' xs') (hok : WOk B m' xs') (hs : m'.bm.dev.ok N') (hv : ∀ b, rowOf v' = some b → rowOf v = some b ∨ wr.heap.size ≤ b) :
    ∃ R, Hp w w' Q (A.re R) n' B N' m' v' xs' ∧ Off Q wr w' := by
  obtain ⟨R, h1, h2, h3⟩ := hg
  have hlt := h.below.size
  refine ⟨R, ⟨h1, hok, hs, fun k hk => ?_, fun b hb => ?_, fun k hk => Nat.lt_of_lt_of_le (h.qlt k hk) h2.size, below_touched h.below h2 (fun k hk => (h.new k (AF.hot_list hk)).1) (Nat.le_refl _)⟩, ⟨A.hot, h2, fun k hk hm => (h.new k (AF.hot_list hm)).2 hk⟩⟩
  · rcases AF.re_list hk with c | c
    · exact h.new k c
    · rcases h3 k c with c | c
      · exact h.new k (by simp [AF.list, c])
      · exact ⟨Nat.le_trans hlt c, fun hq => by have := h.qlt k hq; omega⟩
  · rcases hv b hb with c | c
    · exact h.newv b c
    · exact ⟨Nat.le_trans hlt c, fun hq => by have := h.qlt b hq; omega⟩
theorem Hp.more (h : Hp w wr Q A n B N m v xs) {Q' : List Nat} (hQ : ∀ k ∈ Q', k ∈ Q ∨ (wr.heap.size ≤ k ∧ k < w'.heap.size)) (hb : Below wr.heap.size wr w') : Hp w w' Q' A n B N m v xs := by
  have h' := h.later hb
  refine { h' with new := fun k hk => ⟨(h.new k hk).1, fun hq => ?_⟩, newv := fun b hb' => ⟨(h.newv b hb').1, fun hq => ?_⟩, qlt := fun k hk => ?_ }
  · rcases hQ k hq with c | c
    · exact (h.new k hk).2 c
    · have := h.at_.al.mem k hk; omega
  · rcases hQ b hq with c | c
    · exact (h.newv b hb').2 c
    · have := h.at_.own.lt b hb'; omega
  · rcases hQ k hk with c | c
    · exact h'.qlt k c
    · exact c.2
theorem Hp.less (h : Hp w wr Q A n B N m v xs) {Q' : List Nat} (hQ : ∀ k ∈ Q', k ∈ Q) : Hp w wr Q' A n B N m v xs :=
  { h with new := fun k hk => ⟨(h.new k hk).1, fun hq => (h.new k hk).2 (hQ k hq)⟩, newv := fun b hb => ⟨(h.newv b hb).1, fun hq => (h.newv b hb).2 (hQ b hq)⟩, qlt := fun k hk => h.qlt k (hQ k hk) }
/-- Make, Lead, of such a heap. -/
def HpMade (w wr : World) (Q : List Nat) (A : AF) (n B N : Nat) (m : Al) (v : Value) (xs : List Nat) (p d : Int) : Ending → World → Prop := fun e w' => ∃ (m' : Al) (v' : Value) (xs' R : List Nat),
  e = .returned (.tuple #[vworld A v', .bool true]) ∧ Hp w w' Q (A.re R) (n + 6) B (N + 600000) m' v' xs' ∧ Off Q wr w' ∧ ((∃ a, Made B m m' a p d ∧ xs' = xs ++ [a]) ∨ (m' = m ∧ xs' = xs ∧ v' = v ∧ NoRoom m (objSize p d)))
theorem Hp.make (h : Hp w wr Q A n B N m v xs) (hB2 : 2 ≤ B) (hB : B ≤ 200) (hn : n < 900000000000) (hN : N ≤ 900000000) (p d : Int) :
    Calls Tryz.prog 76 #[vworld A v, .int .i64 p, .int .i64 d] wr (HpMade w wr Q A n B N m v xs (clampI p 8) (clampI d 12)) := by
  have hl := h.ok.len
  refine (wmake_any h.at_ h.ok.ok hB2 hB hn hN h.steps (by omega) p d).mono ?_
  rintro e w' ⟨m', v', xs', rfl, hg, hm, hv, ha⟩
  have hs : m'.bm.dev.ok (N + 600000) := by rw [ha]; exact alloc_okN h.ok.ok.bm.clean.inv h.steps (by rw [h.ok.ok.bm.lenL]; omega) _ _ _
  have hok : WOk B m' xs' := by
    rcases hm with ⟨a, hm, rfl⟩ | ⟨rfl, rfl, _⟩
    · exact h.ok.made hm
    · exact h.ok
  obtain ⟨R, h1, h2⟩ := h.go hg hok hs hv
  exact ⟨m', v', xs', R, rfl, h1, h2, hm⟩
/-- Alloc, whatever comes of it. -/
def HpAll (w wr : World) (Q : List Nat) (A : AF) (n B N : Nat) (m : Al) (v : Value) (xs : List Nat) (p d : Int) : Ending → World → Prop := fun e w' => ∃ (m' : Al) (R : List Nat) (a er : Int),
  e = .returned (.tuple #[.int .i64 a, .int .i64 er]) ∧ Hp w w' Q (A.re R) (n + 6) B (N + 600000) m' v xs ∧ Off Q wr w' ∧ ((∃ a : Nat, Made B m m' a p d) ∨ m' = m)
theorem Hp.alloc (h : Hp w wr Q A n B N m v xs) (hB2 : 2 ≤ B) (hB : B ≤ 200) (hn : n < 900000000000) (hN : N ≤ 900000000) (p d : Int) (hs : objSize p d ≠ 0) (hm : (objSize p d : Int) ≤ 512 * ((B : Int) - 1)) :
    Calls Tryz.prog 77 #[valloc A, .int .i64 0, .int .i64 p, .int .i64 d] wr (HpAll w wr Q A n B N m v xs p d) := by
  refine (aalloc_any h.at_.al h.ok.ok (by omega) hB hn hN h.steps 0 p d).mono ?_
  rintro e w' ⟨rfl, hg⟩
  have hs' := alloc_okN h.ok.ok.bm.clean.inv h.steps (by rw [h.ok.ok.bm.lenL]; omega) 0 p d
  rcases alloc_done h.ok.ok hB (Int.le_refl 0) (by decide) hs hm with ⟨m', a, e, hm'⟩ | ⟨e, _⟩
  · rw [e] at hg hs' ⊢
    obtain ⟨R, h1, h2⟩ := h.go (h.at_.al' hg) (h.ok.more hm') hs' (fun b hb => .inl hb)
    exact ⟨m', R, _, _, rfl, h1, h2, .inl ⟨a, hm'⟩⟩
  · rw [e] at hg hs' ⊢
    obtain ⟨R, h1, h2⟩ := h.go (h.at_.al' hg) h.ok hs' (fun b hb => .inl hb)
    exact ⟨m, R, _, _, rfl, h1, h2, .inr rfl⟩
def HpLed (w wr : World) (Q : List Nat) (A : AF) (n B N : Nat) (m : Al) (v : Value) (xs : List Nat) : Ending → World → Prop := fun e w' => ∃ R : List Nat, e = .returned (.tuple #[]) ∧ Hp w w' Q (A.re R) n B (N + 1) m v xs ∧ Off Q wr w'
theorem Hp.lead (h : Hp w wr Q A n B N m v xs) (hB : B ≤ 200) (hN : N ≤ 900000000) (i p t : Int) :
    Calls Tryz.prog 59 #[vworld A v, .int .i64 i, .int .i64 p, .int .i64 t] wr (HpLed w wr Q A n B N (m.lead xs i p t) v xs) := by
  have hl := h.ok.len
  refine (wlead_any h.at_ hN h.steps (by omega) (fun x hx => by have := (h.ok.lt hx).2; omega) i p t).mono ?_
  rintro e w' ⟨rfl, hg⟩
  obtain ⟨R, h1, h2⟩ := h.go hg (h.ok.lead hB i p t) (lead_okN h.steps i p t) (fun b hb => .inl hb)
  exact ⟨R, rfl, h1, h2⟩
end

end Go.Proofs.YtfedgcdkagngnaaGreat

/- alloc: Used, Objects, Device. -/
namespace Go.Proofs.YtfedgcdkagngnaaGreat
open Go.RowKit
set_option linter.unusedVariables false

set_option maxHeartbeats 400000 in
theorem adev_any {w : World} {A : AF} {n B : Nat} {m : Al} (h : AlAt w A n B m) :
    Calls Tryz.prog 83 #[valloc A] w fun e w' => e = .returned (vdev A.X.F) ∧ w = w' := by
  have c1 := h.c1
  clear h
  go_enter Tryz.func83, Tryz.ntmps83
  go_wp2_with fail
  go_ret
  exact ⟨rfl, rfl⟩
set_option maxHeartbeats 400000 in
theorem aobjects_any {w : World} {A : AF} {n B : Nat} {m : Al} (h : AlAt w A n B m) :
    Calls Tryz.prog 25 #[valloc A] w (ListPost w (onesL m.used)) := by
  have c3 := h.c3
  have HS := Lib.hid h.set
  have HP : Hid (∀ e w', ListPost w (onesL m.used) e w' → ListPost w (onesL m.used) e w') := Lib.hid (fun _ _ h => h)
  generalize hP : ListPost w (onesL m.used) = Post at *
  clear h
  go_enter Tryz.func25, Tryz.ntmps25
  go_wp2_with fail
  refine (slist_any HS.out).mono ?_
  rw [hP]
  rintro e w1 hp
  have HPp := Lib.hid hp
  rw [← hP] at hp
  obtain ⟨v, rfl, _⟩ := hp
  clear hP
  go_wp2_with fail
  exact HPp.out
end Go.Proofs.YtfedgcdkagngnaaGreat

/- mark: a marker in memory. -/
namespace Go.Proofs.YtfedgcdkagngnaaGreat
open Go.RowKit
set_option linter.unusedVariables false

/-- Where a marker lies. -/
structure MkF where
  p : Nat
  X : SetF
  Y : SetF
  s : Nat
  v : Value
section
variable {w w' : World} {A : AF} {K : MkF} {M : Mk}
end

section
variable {w w0 w1 w' : World} {A : AF} {n B : Nat} {m : Al} {K : MkF} {M M' : Mk}
end

section
variable {w : World} {A : AF} {K : MkF} {M : Mk}
end

end Go.Proofs.YtfedgcdkagngnaaGreat

/- mark: Shade, scan. -/
namespace Go.Proofs.YtfedgcdkagngnaaGreat
open Go.RowKit
set_option linter.unusedVariables false

section
variable {w : World} {A : AF} {n B : Nat} {m : Al} {K : MkF} {M : Mk}
end

end Go.Proofs.YtfedgcdkagngnaaGreat

/- Plain: what steps of a marker do; how many there are; what is black at last. -/
namespace Go.Proofs.YtfedgcdkagngnaaGreat
set_option linter.unusedVariables false

section
variable {U : List Bool} {P : Nat → List Nat} {M : Mk}

section
variable {b : Bool} {M' : Mk}
end
end

end Go.Proofs.YtfedgcdkagngnaaGreat

/- mark: scan, grey. -/
namespace Go.Proofs.YtfedgcdkagngnaaGreat
open Go.RowKit
set_option linter.unusedVariables false

theorem Cells.touchL {w w' : World} {a : Option Addr} {vs : List Value} {L : List Nat} (h : Cells w a vs) (ht : Touch L w w') (hne : ∀ x, a = some x → x.block < w.heap.size → x.block ∉ L) : Cells w' a vs := by
  rcases h with h | ⟨b, off, rfl, h⟩
  · exact .inl h
  · exact .inr ⟨b, off, rfl, fun i v hi => cell_of_touch ht (show (⟨b, off + i, none⟩ : Addr).block ∉ L from hne ⟨b, off, none⟩ rfl (show b < w.heap.size from World.block_lt_of_cell? w ⟨b, off + i, none⟩ (h i v hi))) (h i v hi)⟩

section
variable {w : World} {A : AF} {n B : Nat} {m : Al} {K : MkF} {M : Mk}
end

end Go.Proofs.YtfedgcdkagngnaaGreat

/- hold: Closed: a range over a function whose rounds may end the function: they don't. -/
namespace Go.Proofs.YtfedgcdkagngnaaGreat
open Go.RowKit Go.Shelf
set_option linter.unusedVariables false

attribute [local go_sem] Oper.semAt_some

theorem keeps_below {B : Nat} {W W' : World} (h : Below W.heap.size W W') : KeepsFrom B W W' := ⟨h.size, fun k o _ hk _ => (h.block k (Array.getElem?_eq_some_iff.1 hk).1).trans hk⟩

theorem run_load_one {w : World} {a : Addr} {v : Value} (hg : w.cell? a = some v) : (Sem.load Mode.plain a Sem.pure).run Tryz.prog w = .ok v w := by
  simp [Sem.run, hg]
theorem results_cell_one {fn : Func} {p : Tmp} {v : Value} (h : fn.results = #[.cell p 4]) (tmps : Array Value) (w : World) (g : Nat) (hp : tmps.getD p undef = .pointer (some ⟨g, 0, none⟩)) (hg : w.cell? ⟨g, 0, none⟩ = some v) :
    (results fn tmps).run Tryz.prog w = .ok v w := by
  have hp' : tmps[p]?.getD undef = .pointer (some ⟨g, 0, none⟩) := by simpa using hp
  have hai := Tryz.isAgg4
  simp [results, h, hp', asAddr, loadVar, load, hai, go_sem]
  exact run_load_one hg

end Go.Proofs.YtfedgcdkagngnaaGreat

/- Plain: digits in a base. -/
namespace Go.Proofs.YtfedgcdkagngnaaGreat
open Go.Lib (decDigits itoa nDigits)
set_option linter.unusedVariables false

/-- A digit's sign. -/
def chrN (d : Nat) : UInt8 := UInt8.ofNat (if d ≤ 9 then 48 + d else 87 + d)
/-- So many digits of a number, the last ones. -/
def digW (b v : Nat) : Nat → List UInt8
  | 0 => []
  | k + 1 => digW b (v / b) k ++ [chrN (v % b)]
theorem digW_len (b v k : Nat) : (digW b v k).length = k := by
  induction k generalizing v with
  | zero => rfl
  | succ k ih => simp [digW, ih]
theorem digW_front (b v t : Nat) : digW b v (t + 1) = chrN (v / b ^ t % b) :: digW b v t := by
  induction t generalizing v with
  | zero => simp [digW]
  | succ t ih =>
    show digW b (v / b) (t + 1) ++ [chrN (v % b)] = chrN (v / b ^ (t + 1) % b) :: (digW b (v / b) t ++ [chrN (v % b)])
    rw [ih, Nat.div_div_eq_div_mul, Nat.pow_succ, Nat.mul_comm b]
    rfl

/-- So many digits are written of a number, at least so many. -/
structure Written (b v least T : Nat) : Prop where
  all : v / b ^ T = 0
  enough : least ≤ T
  last : T = least ∨ v / b ^ (T - 1) ≠ 0

theorem dec_digW : ∀ {T v : Nat}, Written 10 v 1 T → digW 10 v T = decDigits v
  | 0, v, h => by have := h.enough; omega
  | 1, v, h => by
    have h1 := h.all
    have h2 : v < 10 := by simp at h1; omega
    rw [dec_small h2]
    show digW 10 (v / 10) 0 ++ [chrN (v % 10)] = _
    rw [show v % 10 = v by omega]
    unfold chrN
    rw [if_pos (by omega)]; rfl
  | T + 2, v, h => by
    have h1 := h.all
    have h3 : v / 10 ^ (T + 1) ≠ 0 := by
      rcases h.last with h3 | h3
      · omega
      · simpa using h3
    have h2 : ¬ v < 10 := by
      intro c
      apply h3
      rw [Nat.pow_succ, Nat.mul_comm, ← Nat.div_div_eq_div_mul, show v / 10 = 0 by omega, Nat.zero_div]
    rw [dec_big h2]
    show digW 10 (v / 10) (T + 1) ++ [chrN (v % 10)] = _
    have e : ∀ k, v / 10 / 10 ^ k = v / 10 ^ (k + 1) := fun k => by rw [Nat.div_div_eq_div_mul, Nat.pow_succ, Nat.mul_comm]
    rw [dec_digW (T := T + 1) (v := v / 10) ⟨by rw [e]; exact h1, by omega, by
      by_cases c : T = 0
      · left; omega
      · right
        rw [show T + 1 - 1 = T from rfl, e]; exact h3⟩]
    unfold chrN
    rw [if_pos (by omega)]

/-- Sixteen digits. -/
theorem hex_digW {T v : Nat} (hv : v < 18446744073709551616) (h : Written 16 v 16 T) : T = 16 := by
  rcases h.last with h1 | h1
  · exact h1
  · apply Classical.byContradiction
    intro c
    have := h.enough
    apply h1
    apply Nat.div_eq_of_lt
    refine Nat.lt_of_lt_of_le hv ?_
    have : (16 : Nat) ^ 16 ≤ 16 ^ (T - 1) := Nat.pow_le_pow_right (by decide) (by omega)
    have e : (16 : Nat) ^ 16 = 18446744073709551616 := by decide
    omega

end Go.Proofs.YtfedgcdkagngnaaGreat

/- The document's Text of a number (ref31). -/
namespace Go.Proofs.YtfedgcdkagngnaaGreat
open Go.RowKit
set_option linter.unusedVariables false
open Go.Lib (decDigits itoa nDigits)

set_option maxHeartbeats 4000000 in
set_option maxRecDepth 100000 in
theorem rtext_any (n : Int) (hn : In64 n) (w : World) : Calls Tryz.prog 157 #[.int .i64 n] w (Gives (strV (itoa n)) w) := by
  obtain ⟨h1, h2⟩ := hn
  have HP : Hid (∀ (l : List UInt8) (w' : World), itoa n = l → Below w.heap.size w w' → Gives (strV (itoa n)) w (.returned (strV l)) w') := Lib.hid (fun l w' h hb => by subst h; exact ⟨rfl, hb⟩)
  generalize Gives (strV (itoa n)) w = Post at *
  by_cases hz : n = 0
  · subst hz
    have HI : Hid (itoa 0 = [48]) := Lib.hid (by decide +kernel)
    go_enter Tryz.func157, Tryz.ntmps157
    go_wp2_with fail
    exact HP.out _ _ HI.out (Below.refl _ _)
  · have hz' : (n == 0) = false := by simpa using hz
    by_cases h0 : n < 0
    · obtain ⟨u, hu⟩ : ∃ u : Nat, n = -(u : Int) := ⟨n.natAbs, by omega⟩
      subst hu
      have hu1 : 1 ≤ u := by omega
      have HI : Hid (itoa (-(u : Int)) = 45 :: decDigits u) := Lib.hid (itoa_neg hu1)
      have HL := Lib.hid (dec_len20 (u := u) (by omega))
      go_enter Tryz.func157, Tryz.ntmps157
      go_wp2_with fail
      go_loopw [3, 4] (fun s k wr => ∃ (v : Nat) (tail : List UInt8), s = .string (bstr tail) ∧ k = .int .i64 (-(v : Int)) ∧ v ≤ 9223372036854775808 ∧ tail.length ≤ 20 ∧ partT u v tail ∧ Below w.heap.size w wr) (fun _ k _ => (-(RowKit.intOf k)).toNat)
      case atStart => exact ⟨u, [], rfl, rfl, by omega, by simp, .inr ⟨by omega, by simp⟩, Below.refl _ _⟩
      case round =>
        obtain ⟨v, tail, rfl, rfl, hv, htl, hp, hb⟩ := hrel
        have HPt := Lib.hid hp
        have HB := Lib.hid hb
        clear hp hb
        by_cases hv0 : v = 0
        · subst hv0
          have HD : Hid (decDigits u = tail) := Lib.hid (by rcases HPt.out with ⟨_, h⟩ | ⟨h, _⟩; exact h; omega)
          have hsz : (bstr tail).size ≤ 20 := by rw [bstr_size]; exact htl
          go_wp2_with fail
          show Post (.returned (.string (bstr [45] ++ bstr tail))) _
          rw [bstr_append]
          exact HP.out _ _ (by rw [HI.out, HD.out]; rfl) HB.out
        · have hne : ((-(v : Int)) != 0) = true := by simp; omega
          have hv0' : 0 < v := by omega
          have HPt1 := Lib.hid (partT_step HPt.out hv0')
          have htl1 : tail.length + 1 ≤ 20 := by
            have := HL.out
            rcases HPt.out with ⟨h, _⟩ | ⟨_, h⟩
            · omega
            · rw [h] at this
              have := dec_pos v
              simp at *; omega
          have HS : Hid (strOf [48 + v % 10] ++ bstr tail = bstr (UInt8.ofNat (48 + v % 10) :: tail)) := Lib.hid (by
            have := one_byte (UInt8.ofNat (48 + v % 10))
            rw [dig_toNat _ (by omega)] at this
            rw [this, bstr_append]; rfl)
          have hs1 : (strOf [48 + v % 10]).size = 1 := rfl
          have hs2 : (bstr tail).size ≤ 20 := by rw [bstr_size]; exact htl
          have HCb : Hid (Cells (wr.alloc (.cells #[.int .u8 (48 + (v : Int) % 10)] 5)) (some ⟨wr.heap.size, 0, none⟩) ([48 + v % 10].map vu8)) := Lib.hid (by
            have := ((Mem.one wr #[.int .u8 (48 + (v : Int) % 10)] 5).at 0 rfl).cells
            have e : ([48 + v % 10].map vu8) = [.int .u8 (48 + (v : Int) % 10)] := by simp [vu8]
            rw [e]; exact this)
          have HB1 := Lib.hid (HB.out.trans ((below_alloc wr (.cells #[.int .u8 (48 + (v : Int) % 10)] 5)).mono HB.out.size))
          have hd1 : 0 ≤ (v : Int) % 10 := by omega
          have hd2 : (v : Int) % 10 < 10 := by omega
          generalize UInt8.ofNat (48 + v % 10) = b at *
          by_cases hd : v % 10 = 0
          · have hd' : (v : Int) % 10 = 0 := by omega
            rw [hd'] at HCb HB1
            rw [hd] at HCb hs1 HS
            clear hd1 hd2
            go_wp2_with (refine wpList_string_of (ns := [48 + 0]) Tryz.underlying153 Tryz.underlying5 Tryz.underlying9 HCb.out rfl rfl rfl ?_)
            exact ⟨⟨v / 10, b :: tail, by rw [← HS.out], vint (by omega), by omega, by simp; omega, HPt1.out, HB1.out⟩, by simp [RowKit.intOf]; omega⟩
          · have hd' : 0 < (v : Int) % 10 := by omega
            go_wp2_with (refine wpList_string_of (ns := [48 + v % 10]) Tryz.underlying153 Tryz.underlying5 Tryz.underlying9 HCb.out rfl rfl rfl ?_)
            exact ⟨⟨v / 10, b :: tail, by rw [← HS.out], vint (by omega), by omega, by simp; omega, HPt1.out, HB1.out⟩, by simp [RowKit.intOf]; omega⟩
    · have HI : Hid (itoa n = decDigits n.toNat) := Lib.hid (by unfold itoa; rw [if_neg h0])
      have HL := Lib.hid (dec_len20 (u := n.toNat) (by omega))
      have h3 : 0 ≤ n := by omega
      clear h0 hz
      go_enter Tryz.func157, Tryz.ntmps157
      go_wp2_with fail
      go_loopw [3, 4] (fun s k wr => ∃ (x : Int) (tail : List UInt8), s = .string (bstr tail) ∧ k = .int .i64 x ∧ 0 ≤ x ∧ x < 9223372036854775808 ∧ tail.length ≤ 20 ∧ Hid (partT n.toNat x.toNat tail) ∧ Below w.heap.size w wr) (fun _ k _ => (RowKit.intOf k).toNat)
      case atStart => exact ⟨n, [], rfl, rfl, h3, h2, by simp, Lib.hid (.inr ⟨by simp at hz'; omega, by simp⟩), Below.refl _ _⟩
      case round =>
        obtain ⟨x, tail, rfl, rfl, hx0, hx1, htl, HPt, hb⟩ := hrel
        have HB := Lib.hid hb
        clear hb
        have hsz : (bstr tail).size ≤ 20 := by rw [bstr_size]; exact htl
        by_cases hv0 : x = 0
        · subst hv0
          have HD : Hid (decDigits n.toNat = tail) := Lib.hid (by rcases HPt.out with ⟨_, h⟩ | ⟨h, _⟩; exact h; simp at h)
          have hneg : decide (n < 0) = false := by simp; omega
          go_wp2_with fail
          exact HP.out _ _ (by rw [HI.out, HD.out]) HB.out
        · have hne : (x != 0) = true := by simpa using hv0
          have hv0' : 0 < x.toNat := by omega
          have HPt1 := Lib.hid (partT_step HPt.out hv0')
          have htl1 : tail.length + 1 ≤ 20 := by
            have := HL.out
            rcases HPt.out with ⟨h, _⟩ | ⟨_, h⟩
            · omega
            · rw [h] at this
              have := dec_pos x.toNat
              simp at *; omega
          have HS : Hid (strOf [48 + x.toNat % 10] ++ bstr tail = bstr (UInt8.ofNat (48 + x.toNat % 10) :: tail)) := Lib.hid (by
            have := one_byte (UInt8.ofNat (48 + x.toNat % 10))
            rw [dig_toNat _ (by omega)] at this
            rw [this, bstr_append]; rfl)
          have hs1 : (strOf [48 + x.toNat % 10]).size = 1 := rfl
          have HCb : Hid (Cells (wr.alloc (.cells #[.int .u8 (48 + x % 10)] 5)) (some ⟨wr.heap.size, 0, none⟩) ([48 + x.toNat % 10].map vu8)) := Lib.hid (by
            have := ((Mem.one wr #[.int .u8 (48 + x % 10)] 5).at 0 rfl).cells
            have e : ([48 + x.toNat % 10].map vu8) = [.int .u8 (48 + x % 10)] := by simp [vu8]; omega
            rw [e]; exact this)
          have HB1 := Lib.hid (HB.out.trans ((below_alloc wr (.cells #[.int .u8 (48 + x % 10)] 5)).mono HB.out.size))
          have hd1 : 0 ≤ x % 10 := by omega
          have hd2 : x % 10 < 10 := by omega
          have HQ : Hid (x.toNat / 10 = (x / 10).toNat) := Lib.hid (by omega)
          rw [HQ.out] at HPt1
          generalize UInt8.ofNat (48 + x.toNat % 10) = b at *
          clear hv0 hv0'
          go_wp2_with (refine wpList_string_of (ns := [48 + x.toNat % 10]) Tryz.underlying153 Tryz.underlying5 Tryz.underlying9 HCb.out rfl rfl rfl ?_)
          exact ⟨⟨x / 10, b :: tail, by rw [← HS.out], rfl, by omega, by omega, by simp; omega, HPt1, HB1.out⟩, by simp [RowKit.intOf]; simp at hne; omega⟩

end Go.Proofs.YtfedgcdkagngnaaGreat

/- dump: digits, Number, Hex; the document's Hex. -/
namespace Go.Proofs.YtfedgcdkagngnaaGreat
open Go.RowKit
set_option linter.unusedVariables false
open Go.Lib (decDigits itoa nDigits)

theorem chrN_toNat (d : Nat) (h : d < 16) : (chrN d).toNat = if d ≤ 9 then 48 + d else 87 + d := by
  unfold chrN
  split <;> simp <;> omega
/-- The digits' room: what isn't written yet, what is. -/
def digRow64 (tail : List UInt8) : List Value := List.replicate (64 - tail.length) (.int .u8 0) ++ vbs tail
theorem digRow64_set (tail : List UInt8) (b : UInt8) (h : tail.length < 64) : (digRow64 tail).set (64 - tail.length - 1) (.int .u8 (b.toNat : Int)) = digRow64 (b :: tail) := by
  unfold digRow64
  obtain ⟨k, hk⟩ : ∃ k, 64 - tail.length = k + 1 := ⟨64 - tail.length - 1, by omega⟩
  rw [hk, show 64 - (b :: tail).length = k by simp; omega, show k + 1 - 1 = k by omega, List.replicate_succ', List.append_assoc, List.set_append_right _ _ (by simp)]
  simp [vbs]
theorem digRow64_len (tail : List UInt8) (h : tail.length ≤ 64) : (digRow64 tail).length = 64 := by simp [digRow64, vbs]; omega
theorem digRow64_drop (tail : List UInt8) : (digRow64 tail).drop (64 - tail.length) = vbs tail := by
  unfold digRow64
  rw [List.drop_append, List.drop_of_length_le (by simp)]; simp

theorem len64 : Tryz.prog.arrayLen 255 = 64 := by kernel_rfl
theorem arr64 : Tryz.prog.underlying 255 = some (.array (Tryz.prog.arrayLen 255) (Tryz.prog.elem 255)) := by kernel_rfl
theorem size64 (W : World) : (Go.sizeOf (Tryz.prog.elem 255)).run Tryz.prog W = .ok 1 W := by kernel_rfl
theorem slice64 (g a n : Nat) (W : World) (h2 : n + a = 64) (h3 : 1 ≤ n) : (Instr.sliceAt 255 (.pointer (some ⟨g, 0, none⟩)) (some (.int .i64 (a : Int))) none none).run Tryz.prog W = .ok (.slice (some ⟨g, a, none⟩) n n) W := by
  rw [run_sliceAt_array_l W _ _ arr64 .i64 _ (by omega) (by rw [len64]; omega), size64, len64]
  have e1 : (a : Int).toNat = a := by omega
  have e2 : 64 - a = n := by omega
  have e3 : ¬ 64 = a := by omega
  simp only [Result.andThen, slicedAt, e1, e2, if_neg e3]
  have : (⟨g, 0, none⟩ : Addr).add (a * 1) = ⟨g, a, none⟩ := by rw [add_none]; simp
  rw [this]

theorem ten20 (n : Nat) (h : n < 18446744073709551616) (b : Nat) (hb : 10 ≤ b) : n / b ^ 20 = 0 := by
  apply Nat.div_eq_of_lt
  refine Nat.lt_of_lt_of_le h ?_
  have h1 : (10 : Nat) ^ 20 ≤ b ^ 20 := Nat.pow_le_pow_left hb 20
  have h2 : (10 : Nat) ^ 20 = 100000000000000000000 := by decide
  omega

/-- What digits leaves. -/
def DigPost (b n least : Nat) (w : World) : Ending → World → Prop := fun e w' => ∃ T, Written b n least T ∧ T ≤ 20 ∧ e = .returned (strV (digW b n T)) ∧ Below w.heap.size w w'

/-- On the way: t digits are written. -/
structure DigInv (b n least t v : Nat) : Prop where
  val : v = n / b ^ t
  le : t ≤ 20
  last : t ≤ least ∨ n / b ^ (t - 1) ≠ 0
theorem DigInv.done {b n least t : Nat} (h : DigInv b n least t 0) (hl : least ≤ t) : Written b n least t :=
  ⟨h.val.symm, hl, by rcases h.last with h1 | h1; · exact .inl (by omega)
                      · exact .inr h1⟩
theorem DigInv.step {b n least t v : Nat} (h : DigInv b n least t v) (hb : 10 ≤ b) (hn : n < 18446744073709551616) (hl : least ≤ 16) (hg : 0 < v ∨ t < least) : DigInv b n least (t + 1) (v / b) := by
  refine ⟨by rw [h.val, Nat.div_div_eq_div_mul, Nat.pow_succ], ?_, ?_⟩
  · apply Classical.byContradiction
    intro c
    have ht : t = 20 := by have := h.le; omega
    subst ht
    have := ten20 n hn b hb
    rw [← h.val] at this
    omega
  · rcases hg with hg | hg
    · right
      rw [show t + 1 - 1 = t from rfl, ← h.val]; omega
    · left; omega

set_option maxHeartbeats 2000000 in
set_option maxRecDepth 100000 in
theorem digits10_any (n least : Nat) (hn : n < 18446744073709551616) (hl1 : 1 ≤ least) (hl : least ≤ 16) (w : World) : Calls Tryz.prog 153 #[.int .u64 (n : Int), .int .u64 10, .int .i64 (least : Int)] w (DigPost 10 n least w) := by
  have HM := Lib.hid (Mem.one w (List.replicate 64 (.int .u8 0)).toArray 255)
  have HP : Hid (∀ (T : Nat) (w' : World), Written 10 n least T → T ≤ 20 → Below w.heap.size w w' → DigPost 10 n least w (.returned (strV (digW 10 n T))) w') := Lib.hid (fun T w' h1 h2 h3 => ⟨T, h1, h2, rfl, h3⟩)
  generalize DigPost 10 n least w = Post at *
  go_enter Tryz.func153, Tryz.ntmps153
  go_upto_region 2 with fail
  have e64 : (List.replicate 64 (.int .u8 0) : List Value).toArray = #[.int .u8 0, .int .u8 0, .int .u8 0, .int .u8 0, .int .u8 0, .int .u8 0, .int .u8 0, .int .u8 0, .int .u8 0, .int .u8 0, .int .u8 0, .int .u8 0, .int .u8 0, .int .u8 0, .int .u8 0, .int .u8 0, .int .u8 0, .int .u8 0, .int .u8 0, .int .u8 0, .int .u8 0, .int .u8 0, .int .u8 0, .int .u8 0, .int .u8 0, .int .u8 0, .int .u8 0, .int .u8 0, .int .u8 0, .int .u8 0, .int .u8 0, .int .u8 0, .int .u8 0, .int .u8 0, .int .u8 0, .int .u8 0, .int .u8 0, .int .u8 0, .int .u8 0, .int .u8 0, .int .u8 0, .int .u8 0, .int .u8 0, .int .u8 0, .int .u8 0, .int .u8 0, .int .u8 0, .int .u8 0, .int .u8 0, .int .u8 0, .int .u8 0, .int .u8 0, .int .u8 0, .int .u8 0, .int .u8 0, .int .u8 0, .int .u8 0, .int .u8 0, .int .u8 0, .int .u8 0, .int .u8 0, .int .u8 0, .int .u8 0, .int .u8 0] := rfl
  rw [e64] at HM
  clear e64
  generalize w.alloc _ = w0 at *
  obtain ⟨g, hg⟩ : ∃ g, g = w.heap.size := ⟨_, rfl⟩
  rw [← hg] at HM ⊢
  have HG : Hid (w.heap.size ≤ g) := Lib.hid (by omega)
  clear hg
  go_wp2_with fail
  go_loopw [0, 8] (fun nv av wr => ∃ (v t a : Nat), nv = .int .u64 (v : Int) ∧ av = .int .i64 (a : Int) ∧ v < 18446744073709551616 ∧ a + t = 64 ∧ t ≤ 20 ∧ Hid (DigInv 10 n least t v) ∧ Hid (RowAt wr g 255 (digRow64 (digW 10 n t))) ∧ Hid (Below w.heap.size w wr)) (fun _ av _ => (intOf av).toNat)
  case atStart => exact ⟨n, 0, 64, rfl, rfl, hn, by omega, by omega, Lib.hid ⟨by simp, by omega, .inl (by omega)⟩, Lib.hid (HM.out.at 0 rfl), Lib.hid HM.out.below⟩
  case round =>
    obtain ⟨v, t, a, rfl, rfl, hv, hat, ht20, HI, HR, HB⟩ := hrel
    by_cases hgo : 0 < v ∨ t < least
    · have HI2 := Lib.hid (HI.out.step (by omega) hn hl hgo)
      have hto : ((a : Int) - 1).toNat = a - 1 := by omega
      have ha1 : 1 ≤ a := by omega
      have HF : Hid (digW 10 n (t + 1) = chrN (v % 10) :: digW 10 n t) := Lib.hid (by rw [digW_front, ← HI.out.val])
      have hlen : (digW 10 n t).length = t := digW_len _ _ _
      have hset := digRow64_set (digW 10 n t) (chrN (v % 10)) (by omega)
      rw [hlen, show 64 - t - 1 = a - 1 by omega] at hset
      have hct := chrN_toNat (v % 10) (by omega)
      obtain ⟨x, hx⟩ : ∃ x, (digRow64 (digW 10 n t))[a - 1]? = some x := ⟨_, List.getElem?_eq_getElem (by rw [digRow64_len _ (by omega)]; omega)⟩
      have e0 := HR.out.cell hx
      have e1 := HR.out.frozen (a - 1)
      have hdB : (v : Int) % 10 < 10 := by omega
      have hd0 : 0 ≤ (v : Int) % 10 := by omega
      have ha64 : (a : Int) ≤ 64 := by omega
      have ha0 : 0 ≤ (a : Int) - 1 := by omega
      have HSet := Lib.hid hset
      have HLen : Hid ((digRow64 (digW 10 n t)).length = 64) := Lib.hid (digRow64_len _ (by omega))
      have HCt := Lib.hid hct
      clear hset hct hx hlen
      have hbyte : ((48 : Int) + (v : Int) % 10) = ((chrN (v % 10)).toNat : Int) := by rw [HCt.out, if_pos (by omega)]; omega
      have HR1 : Hid (RowAt (wr.setCell ⟨g, a - 1, none⟩ (.int .u8 (48 + (v : Int) % 10))) g 255 (digRow64 (digW 10 n (t + 1)))) := Lib.hid (by
        rw [hbyte, HF.out, ← HSet.out]; exact HR.out.set (a - 1) (by rw [HLen.out]; omega) _)
      have HB1 : Hid (Below w.heap.size w (wr.setCell ⟨g, a - 1, none⟩ (.int .u8 (48 + (v : Int) % 10)))) := Lib.hid (HB.out.setCell HG.out _)
      clear hbyte
      rcases hgo with hgo | hgo
      · have hgo' : (0 : Int) < (v : Int) := by omega
        go_wp2_with fail
        go_roundw
        case rel => exact ⟨v / 10, t + 1, a - 1, vint (by omega), vint (by omega), by omega, by omega, HI2.out.le, HI2, HR1, HB1⟩
        case measure => simp [intOf]; omega
      · have hgo' : (64 : Int) - (least : Int) < (a : Int) := by omega
        by_cases hv0 : v = 0
        · subst hv0
          go_wp2_with fail
          go_roundw
          case rel => exact ⟨0 / 10, t + 1, a - 1, vint (by omega), vint (by omega), by omega, by omega, HI2.out.le, HI2, HR1, HB1⟩
          case measure => simp [intOf]; omega
        · have hgo2 : (0 : Int) < (v : Int) := by omega
          go_wp2_with fail
          go_roundw
          case rel => exact ⟨v / 10, t + 1, a - 1, vint (by omega), vint (by omega), by omega, by omega, HI2.out.le, HI2, HR1, HB1⟩
          case measure => simp [intOf]; omega
    · have hv0 : v = 0 := by omega
      subst hv0
      have htl : decide ((64 : Int) - (least : Int) < (a : Int)) = false := by simp; omega
      have HW := Lib.hid (HI.out.done (by omega))
      have hc := HR.out.cells.drop a
      have hlen : (digW 10 n t).length = t := digW_len _ _ _
      have h2 := digRow64_drop (digW 10 n t)
      rw [hlen, show 64 - t = a by omega] at h2
      rw [h2] at hc
      have HC : Hid (Cells wr (some ⟨g, a, none⟩) (((digW 10 n t).map (·.toNat)).map vu8)) := Lib.hid (by rw [← vbs_nat]; simpa using hc)
      have HE : Hid (strOf ((digW 10 n t).map (·.toNat)) = bstr (digW 10 n t)) := Lib.hid (strOf_bytes _)
      have hnl : ((digW 10 n t).map (·.toNat)).length + a = 64 := by simp; omega
      have hn1 : 1 ≤ ((digW 10 n t).map (·.toNat)).length := by simp; omega
      generalize (digW 10 n t).map (·.toNat) = ns at *
      have hsl := fun W => slice64 g a ns.length W hnl hn1
      clear hnl hn1 h2 hc hlen hgo
      go_wp2_with (refine wpList_string_of (ns := ns) Tryz.underlying153 Tryz.underlying5 Tryz.underlying9 HC.out rfl rfl rfl ?_; rw [HE.out])
      exact HP.out _ _ HW.out ht20 HB.out

set_option maxHeartbeats 2000000 in
set_option maxRecDepth 100000 in
theorem digits16_any (n least : Nat) (hn : n < 18446744073709551616) (hl1 : 1 ≤ least) (hl : least ≤ 16) (w : World) : Calls Tryz.prog 153 #[.int .u64 (n : Int), .int .u64 16, .int .i64 (least : Int)] w (DigPost 16 n least w) := by
  have HM := Lib.hid (Mem.one w (List.replicate 64 (.int .u8 0)).toArray 255)
  have HP : Hid (∀ (T : Nat) (w' : World), Written 16 n least T → T ≤ 20 → Below w.heap.size w w' → DigPost 16 n least w (.returned (strV (digW 16 n T))) w') := Lib.hid (fun T w' h1 h2 h3 => ⟨T, h1, h2, rfl, h3⟩)
  generalize DigPost 16 n least w = Post at *
  go_enter Tryz.func153, Tryz.ntmps153
  go_upto_region 2 with fail
  have e64 : (List.replicate 64 (.int .u8 0) : List Value).toArray = #[.int .u8 0, .int .u8 0, .int .u8 0, .int .u8 0, .int .u8 0, .int .u8 0, .int .u8 0, .int .u8 0, .int .u8 0, .int .u8 0, .int .u8 0, .int .u8 0, .int .u8 0, .int .u8 0, .int .u8 0, .int .u8 0, .int .u8 0, .int .u8 0, .int .u8 0, .int .u8 0, .int .u8 0, .int .u8 0, .int .u8 0, .int .u8 0, .int .u8 0, .int .u8 0, .int .u8 0, .int .u8 0, .int .u8 0, .int .u8 0, .int .u8 0, .int .u8 0, .int .u8 0, .int .u8 0, .int .u8 0, .int .u8 0, .int .u8 0, .int .u8 0, .int .u8 0, .int .u8 0, .int .u8 0, .int .u8 0, .int .u8 0, .int .u8 0, .int .u8 0, .int .u8 0, .int .u8 0, .int .u8 0, .int .u8 0, .int .u8 0, .int .u8 0, .int .u8 0, .int .u8 0, .int .u8 0, .int .u8 0, .int .u8 0, .int .u8 0, .int .u8 0, .int .u8 0, .int .u8 0, .int .u8 0, .int .u8 0, .int .u8 0, .int .u8 0] := rfl
  rw [e64] at HM
  clear e64
  generalize w.alloc _ = w0 at *
  obtain ⟨g, hg⟩ : ∃ g, g = w.heap.size := ⟨_, rfl⟩
  rw [← hg] at HM ⊢
  have HG : Hid (w.heap.size ≤ g) := Lib.hid (by omega)
  clear hg
  go_wp2_with fail
  go_loopw [0, 8] (fun nv av wr => ∃ (v t a : Nat), nv = .int .u64 (v : Int) ∧ av = .int .i64 (a : Int) ∧ v < 18446744073709551616 ∧ a + t = 64 ∧ t ≤ 20 ∧ Hid (DigInv 16 n least t v) ∧ Hid (RowAt wr g 255 (digRow64 (digW 16 n t))) ∧ Hid (Below w.heap.size w wr)) (fun _ av _ => (intOf av).toNat)
  case atStart => exact ⟨n, 0, 64, rfl, rfl, hn, by omega, by omega, Lib.hid ⟨by simp, by omega, .inl (by omega)⟩, Lib.hid (HM.out.at 0 rfl), Lib.hid HM.out.below⟩
  case round =>
    obtain ⟨v, t, a, rfl, rfl, hv, hat, ht20, HI, HR, HB⟩ := hrel
    by_cases hgo : 0 < v ∨ t < least
    · have HI2 := Lib.hid (HI.out.step (by omega) hn hl hgo)
      have hto : ((a : Int) - 1).toNat = a - 1 := by omega
      have ha1 : 1 ≤ a := by omega
      have HF : Hid (digW 16 n (t + 1) = chrN (v % 16) :: digW 16 n t) := Lib.hid (by rw [digW_front, ← HI.out.val])
      have hlen : (digW 16 n t).length = t := digW_len _ _ _
      have hset := digRow64_set (digW 16 n t) (chrN (v % 16)) (by omega)
      rw [hlen, show 64 - t - 1 = a - 1 by omega] at hset
      have hct := chrN_toNat (v % 16) (by omega)
      obtain ⟨x, hx⟩ : ∃ x, (digRow64 (digW 16 n t))[a - 1]? = some x := ⟨_, List.getElem?_eq_getElem (by rw [digRow64_len _ (by omega)]; omega)⟩
      have e0 := HR.out.cell hx
      have e1 := HR.out.frozen (a - 1)
      have hdB : (v : Int) % 16 < 16 := by omega
      have hd0 : 0 ≤ (v : Int) % 16 := by omega
      have ha64 : (a : Int) ≤ 64 := by omega
      have ha0 : 0 ≤ (a : Int) - 1 := by omega
      have HSet := Lib.hid hset
      have HLen : Hid ((digRow64 (digW 16 n t)).length = 64) := Lib.hid (digRow64_len _ (by omega))
      have HCt := Lib.hid hct
      clear hset hct hx hlen
      by_cases hd9 : v % 16 ≤ 9
      · have hd9' : (v : Int) % 16 ≤ 9 := by omega
        have hbyte : ((48 : Int) + (v : Int) % 16) = ((chrN (v % 16)).toNat : Int) := by rw [HCt.out, if_pos (by omega)]; omega
        have HR1 : Hid (RowAt (wr.setCell ⟨g, a - 1, none⟩ (.int .u8 (48 + (v : Int) % 16))) g 255 (digRow64 (digW 16 n (t + 1)))) := Lib.hid (by
          rw [hbyte, HF.out, ← HSet.out]; exact HR.out.set (a - 1) (by rw [HLen.out]; omega) _)
        have HB1 : Hid (Below w.heap.size w (wr.setCell ⟨g, a - 1, none⟩ (.int .u8 (48 + (v : Int) % 16)))) := Lib.hid (HB.out.setCell HG.out _)
        clear hbyte
        rcases hgo with hgo | hgo
        · have hgo' : (0 : Int) < (v : Int) := by omega
          go_wp2_with fail
          go_roundw
          case rel => exact ⟨v / 16, t + 1, a - 1, vint (by omega), vint (by omega), by omega, by omega, HI2.out.le, HI2, HR1, HB1⟩
          case measure => simp [intOf]; omega
        · have hgo' : (64 : Int) - (least : Int) < (a : Int) := by omega
          by_cases hv0 : v = 0
          · subst hv0
            go_wp2_with fail
            go_roundw
            case rel => exact ⟨0 / 16, t + 1, a - 1, vint (by omega), vint (by omega), by omega, by omega, HI2.out.le, HI2, HR1, HB1⟩
            case measure => simp [intOf]; omega
          · have hgo2 : (0 : Int) < (v : Int) := by omega
            go_wp2_with fail
            go_roundw
            case rel => exact ⟨v / 16, t + 1, a - 1, vint (by omega), vint (by omega), by omega, by omega, HI2.out.le, HI2, HR1, HB1⟩
            case measure => simp [intOf]; omega
      · have hd9' : (9 : Int) < (v : Int) % 16 := by omega
        have hbyte : ((97 : Int) + (v : Int) % 16 - 10) = ((chrN (v % 16)).toNat : Int) := by rw [HCt.out, if_neg hd9]; omega
        have HR1 : Hid (RowAt ((wr.setCell ⟨g, a - 1, none⟩ (.int .u8 (48 + (v : Int) % 16))).setCell ⟨g, a - 1, none⟩ (.int .u8 (97 + (v : Int) % 16 - 10))) g 255 (digRow64 (digW 16 n (t + 1)))) := Lib.hid (by
          have h1 := HR.out.set (a - 1) (by rw [HLen.out]; omega) (.int .u8 (48 + (v : Int) % 16))
          have h2 := h1.set (a - 1) (by rw [List.length_set, HLen.out]; omega) (.int .u8 (97 + (v : Int) % 16 - 10))
          rw [List.set_set, hbyte, HSet.out, ← HF.out] at h2
          rw [hbyte]; exact h2)
        have HB1 : Hid (Below w.heap.size w ((wr.setCell ⟨g, a - 1, none⟩ (.int .u8 (48 + (v : Int) % 16))).setCell ⟨g, a - 1, none⟩ (.int .u8 (97 + (v : Int) % 16 - 10)))) := Lib.hid ((HB.out.setCell HG.out _).setCell HG.out _)
        clear hbyte
        rcases hgo with hgo | hgo
        · have hgo' : (0 : Int) < (v : Int) := by omega
          go_wp2_with fail
          go_roundw
          case rel => exact ⟨v / 16, t + 1, a - 1, vint (by omega), vint (by omega), by omega, by omega, HI2.out.le, HI2, HR1, HB1⟩
          case measure => simp [intOf]; omega
        · have hgo' : (64 : Int) - (least : Int) < (a : Int) := by omega
          by_cases hv0 : v = 0
          · omega
          · have hgo2 : (0 : Int) < (v : Int) := by omega
            go_wp2_with fail
            go_roundw
            case rel => exact ⟨v / 16, t + 1, a - 1, vint (by omega), vint (by omega), by omega, by omega, HI2.out.le, HI2, HR1, HB1⟩
            case measure => simp [intOf]; omega
    · have hv0 : v = 0 := by omega
      subst hv0
      have htl : decide ((64 : Int) - (least : Int) < (a : Int)) = false := by simp; omega
      have HW := Lib.hid (HI.out.done (by omega))
      have hc := HR.out.cells.drop a
      have hlen : (digW 16 n t).length = t := digW_len _ _ _
      have h2 := digRow64_drop (digW 16 n t)
      rw [hlen, show 64 - t = a by omega] at h2
      rw [h2] at hc
      have HC : Hid (Cells wr (some ⟨g, a, none⟩) (((digW 16 n t).map (·.toNat)).map vu8)) := Lib.hid (by rw [← vbs_nat]; simpa using hc)
      have HE : Hid (strOf ((digW 16 n t).map (·.toNat)) = bstr (digW 16 n t)) := Lib.hid (strOf_bytes _)
      have hnl : ((digW 16 n t).map (·.toNat)).length + a = 64 := by simp; omega
      have hn1 : 1 ≤ ((digW 16 n t).map (·.toNat)).length := by simp; omega
      generalize (digW 16 n t).map (·.toNat) = ns at *
      have hsl := fun W => slice64 g a ns.length W hnl hn1
      clear hnl hn1 h2 hc hlen hgo
      go_wp2_with (refine wpList_string_of (ns := ns) Tryz.underlying153 Tryz.underlying5 Tryz.underlying9 HC.out rfl rfl rfl ?_; rw [HE.out])
      exact HP.out _ _ HW.out ht20 HB.out

end Go.Proofs.YtfedgcdkagngnaaGreat
