/- Parts of the proof, one behind the other: Cw, Ck, Fy, Fz, Cy, Ls, Il, Br, Ca, Pg, Cb, Cd, Ir, Cc, Ce, Ri, Arr, Cf. -/
import Derived.Test.YtpopbfagliagnaaGreatCH8
import Derived.Shelf.SlSortCmp.WholeK
import Derived.Ground.SlsfProg
import Derived.Test.YtpopbfagliagnaaGreatProg
import Derived.Shelf.SlSortCmp.NoneTotal
import Derived.OpenShut
import Derived.Lib.SmallJoins
set_option linter.unusedVariables false
namespace Go.Proofs.YtpopbfagliagnaaGreat
open Go.RowKit
def sumI (f : Nat → Int) : List Nat → Int
 | [] => 0
 | x :: xs => f x + sumI f xs
theorem sumI_nil (f : Nat → Int) : sumI f [] = 0 := rfl
theorem sumI_cons (f : Nat → Int) (x : Nat) (xs : List Nat) : sumI f (x :: xs) = f x + sumI f xs := rfl
theorem sumI_append (f : Nat → Int) (ys : List Nat) : ∀ xs, sumI f (xs ++ ys) = sumI f xs + sumI f ys
 | [] => by rw [List.nil_append, sumI_nil]; omega
 | x :: xs => by rw [List.cons_append, sumI_cons, sumI_cons, sumI_append f ys xs]; omega
theorem sumI_perm (f : Nat → Int) {xs ys : List Nat} (h : xs.Perm ys) : sumI f xs = sumI f ys := by
 induction h with
 | nil => rfl
 | cons x _ ih => rw [sumI_cons, sumI_cons, ih]
 | swap x y l => rw [sumI_cons, sumI_cons, sumI_cons, sumI_cons]; omega
 | trans _ _ h1 h2 => exact h1.trans h2
theorem sumI_one : ∀ xs : List Nat, sumI (fun _ => 1) xs = xs.length
 | [] => rfl
 | x :: xs => by rw [sumI_cons, sumI_one xs, List.length_cons]; omega
theorem sumI_congr {f g : Nat → Int} : ∀ {xs : List Nat}, (∀ x ∈ xs, f x = g x) → sumI f xs = sumI g xs
 | [], _ => rfl
 | x :: xs, h => by rw [sumI_cons, sumI_cons, h x (by simp), sumI_congr (fun y hy => h y (by simp [hy]))]
def ofB (b : Nat) (xs : List Nat) : List Nat := xs.filter (fun x => decide (x / 512 = b))
def upB (b : Nat) (xs : List Nat) : List Nat := xs.filter (fun x => decide (x / 512 ≤ b))
theorem upB_step (f : Nat → Int) (b : Nat) : ∀ xs, sumI f (upB (b + 1) xs) = sumI f (upB b xs) + sumI f (ofB (b + 1) xs)
 | [] => rfl
 | x :: xs => by
  have ih := upB_step f b xs
  unfold upB ofB at ih ⊢
  by_cases h1 : x / 512 = b + 1
  ·rw [List.filter_cons_of_pos (by simp [h1]), List.filter_cons_of_neg (by simp; omega), List.filter_cons_of_pos (by simp [h1])]
   rw [sumI_cons, ih, sumI_cons]; omega
  ·by_cases h2 : x / 512 ≤ b
   ·rw [List.filter_cons_of_pos (by simp; omega), List.filter_cons_of_pos (by simpa using h2), List.filter_cons_of_neg (by simpa using h1)]
    rw [sumI_cons, ih, sumI_cons]; omega
   ·rw [List.filter_cons_of_neg (by simp; omega), List.filter_cons_of_neg (by simpa using h2), List.filter_cons_of_neg (by simpa using h1)]
    exact ih
theorem ones_nodup (U : List Bool) : (onesL U).Nodup := List.Nodup.sublist List.filter_sublist List.nodup_range
section
variable {B : Nat} {m : Al}
theorem mem_ofB {b x : Nat} : x ∈ ofB b (onesL m.used) ↔ m.used.getD x false = true ∧ x / 512 = b := by
 unfold ofB
 rw [List.mem_filter, mem_onesL, decide_eq_true_iff]
theorem ofB_nodup (b : Nat) : (ofB b (onesL m.used)).Nodup := List.Nodup.sublist List.filter_sublist (ones_nodup _)
theorem cellL_nodup {b c : Nat} (hc : c < 32) : (cellL b c).Nodup := by
 unfold cellL
 refine List.Pairwise.imp (fun h => Nat.ne_of_lt h) (List.Pairwise.map (R := (· < ·)) (S := (· < ·)) _ (fun i j hij => cellOf_lt hc hij) List.pairwise_lt_range)
theorem ofB_small (hok : AlOk B m) {b c : Nat} (hc : c < 32) (hb1 : 1 ≤ b) (hbB : b < B) (hL : m.bm.list.getD b default = ⟨1, c, 0⟩) : (ofB b (onesL m.used)).Perm ((cellL b c).filter (fun x => m.used.getD x false)) :=
 (List.perm_ext_iff_of_nodup (ofB_nodup b) (List.Nodup.sublist List.filter_sublist (cellL_nodup hc))).2 fun x => by
  rw [mem_ofB, List.mem_filter]
  have hcl : x ∈ cellL b c ↔ isCell m.bm.list c x ∧ x / 512 = b := by
   rw [isCell_of hc hb1 (by rw [hok.bm.lenL]; exact hbB) hL]
   unfold cellL
   rw [List.mem_map]
   exact ⟨fun ⟨i, h1, h2⟩ => ⟨i, List.mem_range.1 h1, h2.symm⟩, fun ⟨i, h1, h2⟩ => ⟨i, List.mem_range.2 h1, h2.symm⟩⟩
  rw [hcl]
  constructor
  ·rintro ⟨hu, hb⟩
   refine ⟨⟨?_, hb⟩, hu⟩
   obtain ⟨o, ho⟩ := Option.isSome_iff_exists.1 (hok.placed x hu)
   cases placed_room ho with
   | cell k hk hcell hn =>
    have h1 := hcell.2.2.1
    rw [hb, hL] at h1
    injection h1 with _ h1 _
    obtain rfl : c = k := by omega
    exact hcell
   | run n h0 h1 hm hw hn =>
    have := (wholeN_fits (L := m.bm.list) (b := x / 512) (by omega)).2.1
    rw [hb, hL] at this
    exact absurd this (by show ¬ ((1 : Int) = 2); decide)
  ·rintro ⟨⟨_, hb⟩, hu⟩
   exact ⟨hu, hb⟩
theorem ofB_large (hok : AlOk B m) (hlg : LgOk m) {b : Nat} (hk : (m.bm.list.getD b default).k = 2) : (ofB b (onesL m.used)).Perm [512 * b] :=
 (List.perm_ext_iff_of_nodup (ofB_nodup b) (by simp)).2 fun x => by
  rw [mem_ofB, List.mem_singleton]
  constructor
  ·rintro ⟨hu, hb⟩
   obtain ⟨o, ho⟩ := Option.isSome_iff_exists.1 (hok.placed x hu)
   cases placed_room ho with
   | cell k hk' hcell hn =>
    have h1 := isCell_kind hcell
    rw [hb, hk] at h1
    exact absurd h1 (by decide)
   | run n h0 h1 hm hw hn => omega
  ·rintro rfl
   exact ⟨hlg b hk, by omega⟩
theorem ofB_none (hok : AlOk B m) {b : Nat} (h1 : (m.bm.list.getD b default).k ≠ 1) (h2 : (m.bm.list.getD b default).k ≠ 2) : ofB b (onesL m.used) = [] := by
 refine List.eq_nil_iff_forall_not_mem.2 fun x hx => ?_
 obtain ⟨hu, rfl⟩ := mem_ofB.1 hx
 rcases used_small hok hu with h | h
 ·exact h1 h
 ·exact h2 h
theorem cells1_is (m : Al) (c : Nat) : ∀ (xs : List Nat) (R : Rep), (Rep.cells1 m c R xs).fr = R.fr ∧ (Rep.cells1 m c R xs).sm = R.sm ∧ (Rep.cells1 m c R xs).lg = R.lg ∧
  ((Rep.cells1 m c R xs).ob : Int) = R.ob + sumI (fun _ => 1) (xs.filter (fun x => m.used.getD x false)) ∧ ((Rep.cells1 m c R xs).us : Int) = R.us + sumI (fun x => (sizeP m x : Nat)) (xs.filter (fun x => m.used.getD x false)) ∧
  (Rep.cells1 m c R xs).ce = R.ce + (xs.filter (fun x => !m.used.getD x false)).length ∧ (Rep.cells1 m c R xs).wa = R.wa + sumI (fun x => (clsWords (c : Int) : Nat) - (sizeP m x : Nat)) (xs.filter (fun x => m.used.getD x false))
 | [], R => ⟨rfl, rfl, rfl, by rw [List.filter_nil, sumI_nil]; simp [Rep.cells1], by rw [List.filter_nil, sumI_nil]; simp [Rep.cells1], rfl, by rw [List.filter_nil, sumI_nil]; simp [Rep.cells1]⟩
 | x :: xs, R => by
  have ih := cells1_is m c xs (Rep.cell1 m c R x)
  have e : Rep.cells1 m c R (x :: xs) = Rep.cells1 m c (Rep.cell1 m c R x) xs := rfl
  rw [e]
  obtain ⟨h1, h2, h3, h4, h5, h6, h7⟩ := ih
  rw [h1, h2, h3, h4, h5, h6, h7]
  unfold Rep.cell1
  cases hu : m.used.getD x false with
  | true =>
   rw [List.filter_cons_of_pos (p := fun x => m.used.getD x false) hu, List.filter_cons_of_neg (p := fun x => !m.used.getD x false) (by rw [hu]; decide), sumI_cons, sumI_cons, sumI_cons, if_pos rfl]
   unfold Rep.add
   dsimp only
   exact ⟨rfl, rfl, rfl, by omega, by omega, rfl, by omega⟩
  | false =>
   rw [List.filter_cons_of_neg (p := fun x => m.used.getD x false) (by rw [hu]; decide), List.filter_cons_of_pos (p := fun x => !m.used.getD x false) (by rw [hu]; decide), List.length_cons, if_neg (by decide)]
   dsimp only
   exact ⟨rfl, rfl, rfl, rfl, rfl, by omega, rfl⟩
def repTo (m : Al) : Nat → Rep
 | 0 => ⟨0, 0, 0, 0, 0, 0, 0⟩
 | b + 1 => (repTo m b).one m (b + 1)
theorem one_ok (hok : AlOk B m) {R : Rep} {N b : Nat} (h : R.ok N) (hb1 : 1 ≤ b) (hbB : b < B) : (R.one m b).ok (N + 400000) := by
 obtain ⟨k, c, l, _, he, hcls⟩ := hd_is hok.bm hb1 hbB
 have hr := of_decide_eq_true (hok.bm.right b hbB)
 unfold Rep.one
 rw [he] at hr ⊢
 unfold HdRight at hr
 dsimp only at hr ⊢
 by_cases h0 : k = 0
 ·rw [if_pos h0]
  obtain ⟨h1, h2, h3, h4, h5, h6, h7, h8⟩ := h
  exact ⟨by dsimp only; omega, by dsimp only; omega, by dsimp only; omega, by dsimp only; omega, by dsimp only; omega, by dsimp only; omega, by dsimp only; omega, by dsimp only; omega⟩
 rw [if_neg h0]
 by_cases h1 : k = 1
 ·rw [if_pos h1]
  obtain ⟨cn, rfl, hcn⟩ := hcls h1
  subst h1
  rw [Int.toNat_natCast]
  have hlen : (cellL b cn).length ≤ 512 := by rw [cellL_len]; unfold clsCells; exact Nat.le_trans (Nat.div_le_self _ _) (by omega)
  have hl0 : l = 0 := by omega
  have hf := (cells1_fit hok hcn hb1 hbB (he.trans (by rw [hl0])) h (xs := cellL b cn) (fun x hx => hx)).mono (N' := N + 307200) (by omega)
  have hw : clsWaste cn ≤ 512 := Nat.sub_le _ _
  unfold Rep.block
  generalize Rep.cells1 m cn R (cellL b cn) = R2 at *
  obtain ⟨h1, h2, h3, h4, h5, h6, h7, h8⟩ := hf
  exact ⟨by dsimp only; omega, by dsimp only; omega, by dsimp only; omega, by dsimp only; omega, by dsimp only; omega, by dsimp only; omega, by dsimp only; omega, by dsimp only; omega⟩
 rw [if_neg h1]
 by_cases h2 : k = 2
 ·rw [if_pos h2]
  have hs : sizeP m (512 * b) ≤ 16448 := by
   unfold sizeP
   split
   ·exact objSize_le _ _
   ·omega
  have hl : 1 ≤ l ∧ l < 256 := by omega
  unfold Rep.add
  obtain ⟨h1, h2, h3, h4, h5, h6, h7, h8⟩ := h
  exact ⟨by dsimp only; omega, by dsimp only; omega, by dsimp only; omega, by dsimp only; omega, by dsimp only; omega, by dsimp only; omega, by dsimp only; omega, by dsimp only; omega⟩
 ·rw [if_neg h2]
  exact h.mono (by omega)
theorem repTo_ok (hok : AlOk B m) : ∀ b, b < B → (repTo m b).ok (400000 * b)
 | 0, _ => ⟨Nat.le_refl _, Nat.le_refl _, Nat.le_refl _, Nat.le_refl _, Nat.le_refl _, Nat.le_refl _, by simp [repTo], by simp [repTo]⟩
 | b + 1, h => (one_ok hok (repTo_ok hok b (by omega)) (by omega) h).mono (by omega)
def kindTo (L : List Hd) (k : Int) : Nat → Nat
 | 0 => 0
 | b + 1 => kindTo L k b + if (L.getD (b + 1) default).k = k then 1 else 0
theorem kindTo_succ (L : List Hd) (k : Int) (b : Nat) : kindTo L k (b + 1) = kindTo L k b + if (L.getD (b + 1) default).k = k then 1 else 0 := rfl
theorem kindTo_fr (L : List Hd) : ∀ b, kindTo L 0 b = frTo L (b + 1)
 | 0 => rfl
 | b + 1 => by
  unfold kindTo frTo
  rw [kindTo_fr L b]
  by_cases h : (L.getD (b + 1) default).k = 0
  ·rw [if_pos h, if_pos ⟨by omega, h⟩]
  ·rw [if_neg h, if_neg (fun hh => h hh.2)]
def wasteTo (L : List Hd) : Nat → Nat
 | 0 => 0
 | b + 1 => wasteTo L b + if (L.getD (b + 1) default).k = 1 then clsWaste (L.getD (b + 1) default).c.toNat else 0
theorem wasteTo_succ (L : List Hd) (b : Nat) : wasteTo L (b + 1) = wasteTo L b + if (L.getD (b + 1) default).k = 1 then clsWaste (L.getD (b + 1) default).c.toNat else 0 := rfl
def sumK (f : Nat → Nat) : Nat → Nat
 | 0 => 0
 | n + 1 => sumK f n + f n
theorem sumK_add (f g : Nat → Nat) : ∀ n, sumK (fun k => f k + g k) n = sumK f n + sumK g n
 | 0 => rfl
 | n + 1 => by unfold sumK; rw [sumK_add f g n]; omega
theorem sumK_zero : ∀ n, sumK (fun _ => 0) n = 0
 | 0 => rfl
 | n + 1 => by unfold sumK; rw [sumK_zero n]
theorem sumK_one (g : Nat → Nat) (c : Nat) : ∀ n, sumK (fun k => if k = c then g k else 0) n = if c < n then g c else 0
 | 0 => by rw [if_neg (by omega)]; rfl
 | n + 1 => by
  unfold sumK
  rw [sumK_one g c n]
  by_cases h : n = c
  ·rw [if_pos h, if_neg (by omega), if_pos (by omega), h]; omega
  ·rw [if_neg h]
   by_cases h2 : c < n
   ·rw [if_pos h2, if_pos (by omega)]; rfl
   ·rw [if_neg h2, if_neg (by omega)]
theorem sumK_congr {f g : Nat → Nat} : ∀ {n}, (∀ k, k < n → f k = g k) → sumK f n = sumK g n
 | 0, _ => rfl
 | n + 1, h => by unfold sumK; rw [sumK_congr (fun k hk => h k (by omega)), h n (by omega)]
theorem cellsTo_is (u : Nat → Bool) (b k : Nat) : ∀ n, cellsTo u b k n = ((List.range n).map (cellOf b k)).filter (fun x => !u x)
 | 0 => rfl
 | n + 1 => by
  unfold cellsTo
  rw [cellsTo_is u b k n, List.range_succ, List.map_append, List.filter_append]
  congr 1
  cases h : u (cellOf b k n) <;> simp [h]
def freeSum (g : Nat → Nat) (m : Al) (b : Nat) : Nat := sumK (fun k => (freeTo (fun a => m.used.getD a false) m.bm.list k b).length * g k) 32
theorem freeSum_step (g : Nat → Nat) (m : Al) {b : Nat} : (∀ c, c < 32 → m.bm.list.getD (b + 1) default = ⟨1, (c : Nat), 0⟩ → freeSum g m (b + 1) = freeSum g m b + ((cellL (b + 1) c).filter (fun x => !m.used.getD x false)).length * g c) ∧
  ((m.bm.list.getD (b + 1) default).k ≠ 1 → freeSum g m (b + 1) = freeSum g m b) := by
 have h0 : ∀ k, (freeTo (fun a => m.used.getD a false) m.bm.list k (b + 1)).length * g k = (freeTo (fun a => m.used.getD a false) m.bm.list k b).length * g k + (if isSm m.bm.list k (b + 1) = true then (cellsTo (fun a => m.used.getD a false) (b + 1) k (clsCells k)).length else 0) * g k := fun k => by
  rw [freeTo, List.length_append, Nat.add_mul]
  congr 2
  split <;> rfl
 constructor
 ·intro c hc hL
  unfold freeSum
  rw [sumK_congr (fun k _ => h0 k), sumK_add]
  congr 1
  rw [sumK_congr (g := fun k => if k = c then ((cellL (b + 1) k).filter (fun x => !m.used.getD x false)).length * g k else 0) (fun k hk => ?_), sumK_one, if_pos hc]
  unfold isSm
  rw [hL]
  by_cases e : k = c
  ·subst e
   rw [if_pos (by simp), if_pos rfl, cellsTo_is]
   rfl
  ·rw [if_neg (by simp; omega), if_neg e, Nat.zero_mul]
 ·intro hk
  unfold freeSum
  rw [sumK_congr (fun k _ => h0 k), sumK_add, sumK_congr (f := fun k => (if isSm m.bm.list k (b + 1) = true then (cellsTo (fun a => m.used.getD a false) (b + 1) k (clsCells k)).length else 0) * g k) (g := fun _ => 0) (fun k _ => ?_), sumK_zero]
  ·rfl
  ·have : isSm m.bm.list k (b + 1) = false := by
    unfold isSm
    rw [decide_eq_false hk, Bool.false_and]
   rw [this, if_neg (by decide), Nat.zero_mul]
def roomP (m : Al) (x : Nat) : Nat := match placedN m.bm.dev m.bm.list (x : Int) with
 | some o => roomN o.p o.d
 | none => 0
theorem roomP_small (hok : AlOk B m) {b c x : Nat} (hc : c < 32) (hb1 : 1 ≤ b) (hbB : b < B) (hL : m.bm.list.getD b default = ⟨1, c, 0⟩) (hx : x ∈ cellL b c) (hu : m.used.getD x false = true) : roomP m x = clsWords (c : Int) := by
 have hcell := cellL_is hok hc hb1 hbB hL hx
 obtain ⟨o, ho⟩ := Option.isSome_iff_exists.1 (hok.placed x hu)
 have e : roomP m x = roomN o.p o.d := by unfold roomP; rw [ho]
 rw [e]
 cases placed_room ho with
 | cell k hk hcell2 hn =>
  have h1 := hcell2.2.2.1
  rw [hcell.2.2.1] at h1
  have h2 : ((c : Nat) : Int) = (k : Int) := congrArg Hd.c h1
  obtain rfl : c = k := by omega
  exact hn
 | run n h0 h1 hm hw hn =>
  have := (wholeN_fits (L := m.bm.list) (b := x / 512) (by omega)).2.1
  rw [isCell_kind hcell] at this
  exact absurd this (by decide)
theorem roomP_large (hok : AlOk B m) (hlg : LgOk m) {b : Nat} (hk : (m.bm.list.getD b default).k = 2) : ((roomP m (512 * b) : Nat) : Int) = (m.bm.list.getD b default).l * 512 := by
 have hus : m.used.getD (512 * b) false = true := hlg b hk
 obtain ⟨x, hx⟩ : ∃ x, x = 512 * b := ⟨_, rfl⟩
 rw [← hx] at hus ⊢
 obtain ⟨o, ho⟩ := Option.isSome_iff_exists.1 (hok.placed x hus)
 have e : roomP m x = roomN o.p o.d := by unfold roomP; rw [ho]
 rw [e]
 subst hx
 cases placed_room ho with
 | cell k hk' hcell hn =>
  have h1 := isCell_kind hcell
  rw [show 512 * b / 512 = b by omega, hk] at h1
  exact absurd h1 (by decide)
 | run n h0 h1 hm hw hn =>
  have := (wholeN_fits (L := m.bm.list) (b := 512 * b / 512) (by omega)).2.2.1
  rw [show 512 * b / 512 = b by omega] at hw this
  rw [hw] at this
  omega
structure RepIs (m : Al) (b : Nat) (R : Rep) : Prop where
 fr : R.fr = kindTo m.bm.list 0 b
 sm : R.sm = kindTo m.bm.list 1 b
 lg : R.lg = kindTo m.bm.list 2 b
 ob : (R.ob : Int) = sumI (fun _ => 1) (upB b (onesL m.used))
 us : (R.us : Int) = sumI (fun x => (sizeP m x : Nat)) (upB b (onesL m.used))
 ce : R.ce = freeSum (fun _ => 1) m b
 wa : R.wa = (wasteTo m.bm.list b : Nat) + sumI (fun x => (roomP m x : Nat) - (sizeP m x : Nat)) (upB b (onesL m.used))
theorem up_zero (hok : AlOk B m) : upB 0 (onesL m.used) = [] := by
 refine List.eq_nil_iff_forall_not_mem.2 fun x hx => ?_
 unfold upB at hx
 rw [List.mem_filter, mem_onesL, decide_eq_true_iff] at hx
 have := (hok.used_kind hx.1).1
 omega
theorem freeTo_zero (g : Nat → Nat) (m : Al) : freeSum g m 0 = 0 := by
 unfold freeSum
 exact (sumK_congr (fun k _ => by rw [freeTo]; exact Nat.zero_mul _)).trans (sumK_zero _)
theorem repIs_step (hok : AlOk B m) (hlg : LgOk m) {b : Nat} {R : Rep} (h : RepIs m b R) (hbB : b + 1 < B) : RepIs m (b + 1) (R.one m (b + 1)) := by
 obtain ⟨k, c, l, _, he, hcls⟩ := hd_is hok.bm (show 1 ≤ b + 1 by omega) hbB
 have hr := of_decide_eq_true (hok.bm.right (b + 1) hbB)
 have hk : (m.bm.list.getD (b + 1) default).k = k := by rw [he]
 have hF1 := (freeSum_step (fun _ => 1) m (b := b)).1
 have hF2 := (freeSum_step (fun _ => 1) m (b := b)).2
 have hRl := roomP_large (b := b + 1) hok hlg
 have hO2 := ofB_large (b := b + 1) hok hlg
 have hO0 := ofB_none (b := b + 1) hok
 obtain ⟨a1, a2, a3, a4, a5, a6, a7⟩ := h
 unfold Rep.one
 rw [he] at hr hRl hO2 hO0 hF2 ⊢
 unfold HdRight at hr
 dsimp only at hr hRl hO2 hO0 hF2 ⊢
 by_cases h0 : k = 0
 ·rw [if_pos h0]
  have hO := hO0 (by omega) (by omega)
  refine ⟨?_, ?_, ?_, ?_, ?_, ?_, ?_⟩
  ·rw [kindTo_succ, hk, if_pos h0, ← a1]
  ·rw [kindTo_succ, hk, if_neg (by omega), ← a2]; rfl
  ·rw [kindTo_succ, hk, if_neg (by omega), ← a3]; rfl
  ·show (R.ob : Int) = _; rw [upB_step, hO, ← a4, sumI_nil]; omega
  ·show (R.us : Int) = _; rw [upB_step, hO, ← a5, sumI_nil]; omega
  ·rw [hF2 (by omega), ← a6]
  ·show R.wa = _; rw [upB_step, hO, wasteTo_succ, hk, if_neg (by omega), a7, sumI_nil]; omega
 rw [if_neg h0]
 by_cases h1 : k = 1
 ·rw [if_pos h1]
  obtain ⟨cn, rfl, hcn⟩ := hcls h1
  subst h1
  have hl0 : l = 0 := by omega
  subst hl0
  rw [Int.toNat_natCast]
  have hP := ofB_small hok hcn (by omega) hbB he
  obtain ⟨d1, d2, d3, d4, d5, d6, d7⟩ := cells1_is m cn (cellL (b + 1) cn) R
  unfold Rep.block
  refine ⟨?_, ?_, ?_, ?_, ?_, ?_, ?_⟩
  ·dsimp only; rw [d1]; rw [kindTo_succ, hk, if_neg (by omega), ← a1]; rfl
  ·dsimp only; rw [d2]; rw [kindTo_succ, hk, if_pos rfl, ← a2]
  ·dsimp only; rw [d3]; rw [kindTo_succ, hk, if_neg (by omega), ← a3]; rfl
  ·dsimp only; rw [d4, upB_step, sumI_perm _ hP, ← a4]
  ·dsimp only; rw [d5, upB_step, sumI_perm _ hP, ← a5]
  ·dsimp only; rw [d6, hF1 cn hcn he, ← a6, Nat.mul_one]
  ·dsimp only
   rw [d7, upB_step, sumI_perm _ hP, a7]
   rw [wasteTo_succ, hk, if_pos rfl, he]
   dsimp only
   rw [Int.toNat_natCast, sumI_congr (f := fun x => ((roomP m x : Nat) : Int) - (sizeP m x : Nat)) (g := fun x => ((clsWords (cn : Int) : Nat) : Int) - (sizeP m x : Nat)) (xs := (cellL (b + 1) cn).filter _) (fun x hx => by
    obtain ⟨x1, x2⟩ := List.mem_filter.1 hx
    show ((roomP m x : Nat) : Int) - _ = _
    rw [roomP_small hok hcn (by omega) hbB he x1 x2])]
   omega
 rw [if_neg h1]
 by_cases h2 : k = 2
 ·rw [if_pos h2]
  have hP := hO2 h2
  unfold Rep.add
  refine ⟨?_, ?_, ?_, ?_, ?_, ?_, ?_⟩
  ·dsimp only; rw [kindTo_succ, hk, if_neg h0, ← a1]; rfl
  ·dsimp only; rw [kindTo_succ, hk, if_neg h1, ← a2]; rfl
  ·dsimp only; rw [kindTo_succ, hk, if_pos h2, ← a3]
  ·dsimp only; rw [upB_step, sumI_perm _ hP, ← a4]; simp only [sumI_nil, sumI_cons]; omega
  ·dsimp only; rw [upB_step, sumI_perm _ hP, ← a5]; simp only [sumI_nil, sumI_cons]; omega
  ·dsimp only; rw [hF2 (by omega), ← a6]
  ·dsimp only
   rw [upB_step, sumI_perm _ hP, a7]
   rw [wasteTo_succ, hk, if_neg h1, ← hRl h2]
   simp only [sumI_nil, sumI_cons]
   omega
 ·rw [if_neg h2]
  have hO := hO0 h1 h2
  refine ⟨?_, ?_, ?_, ?_, ?_, ?_, ?_⟩
  ·rw [kindTo_succ, hk, if_neg h0, ← a1]; rfl
  ·rw [kindTo_succ, hk, if_neg h1, ← a2]; rfl
  ·rw [kindTo_succ, hk, if_neg h2, ← a3]; rfl
  ·show (R.ob : Int) = _; rw [upB_step, hO, ← a4, sumI_nil]; omega
  ·show (R.us : Int) = _; rw [upB_step, hO, ← a5, sumI_nil]; omega
  ·rw [hF2 h1, ← a6]
  ·show R.wa = _; rw [upB_step, hO, wasteTo_succ, hk, if_neg h1, a7, sumI_nil]; omega
theorem repTo_is (hok : AlOk B m) (hlg : LgOk m) : ∀ b, b < B → RepIs m b (repTo m b)
 | 0, _ => ⟨rfl, rfl, rfl, by rw [up_zero hok]; rfl, by rw [up_zero hok]; rfl, (freeTo_zero _ _).symm, by rw [up_zero hok]; rfl⟩
 | b + 1, h => repIs_step hok hlg (repTo_is hok hlg b (by omega)) h
theorem up_all (hok : AlOk B m) (hB : 1 ≤ B) : upB (B - 1) (onesL m.used) = onesL m.used :=
 List.filter_eq_self.2 fun x hx => by
  have := (hok.used_kind (mem_onesL.1 hx)).2.1
  simp; omega
theorem rep_objects (hok : AlOk B m) (hlg : LgOk m) (hB : 1 ≤ B) : (repTo m (B - 1)).ob = (onesL m.used).length := by
 have := (repTo_is hok hlg (B - 1) (by omega)).ob
 rw [up_all hok hB, sumI_one] at this
 omega
theorem rep_free (hok : AlOk B m) (hlg : LgOk m) (hB : 1 ≤ B) : (repTo m (B - 1)).fr = sumOf (runsOf m.bm.free) := by
 rw [(repTo_is hok hlg (B - 1) (by omega)).fr, kindTo_fr, show B - 1 + 1 = B by omega, frTo_sum hok.bm]
end
def HdGood (S : Dev) (b : Nat) : Prop := (decN b (devWord S b)).code = 0 ∧ peek S.lasting (256 + (b : Int)) = devWord S b
def GoodTo (S : Dev) (k : Nat) : Prop := ∀ b, 1 ≤ b → b < k → HdGood S b
theorem GoodTo.succ {S : Dev} {k : Nat} (h : GoodTo S k) (hk : HdGood S k) : GoodTo S (k + 1) := fun b h1 h2 => by
 by_cases e : b = k
 ·subst e; exact hk
 ·exact h b h1 (by omega)
def ChPost (S : Dev) (B : Nat) (w : World) : Ending → World → Prop := fun en w' => Below w.heap.size w w' ∧
  ((GoodTo S B ∧ soundN (hds (devWord S) B) B 1 = 0 ∧ ∃ g c, en = .returned (.tuple #[.slice (some ⟨g, 0, none⟩) B c, .int .i64 0, .int .i64 0]) ∧ w.heap.size ≤ g ∧ B ≤ c ∧ RowAt w' g 103 (hdCs (hds (devWord S) B))) ∨
   (∃ b : Nat, 1 ≤ b ∧ b < B ∧ GoodTo S b ∧ ¬ HdGood S b ∧ en = .returned (.tuple #[.slice none 0 0, .int .i64 b, .int .i64 21])) ∨
   (GoodTo S B ∧ ∃ z : Nat, soundN (hds (devWord S) B) B 1 = z ∧ z ≠ 0 ∧ en = .returned (.tuple #[.slice none 0 0, .int .i64 (z : Int), .int .i64 40])))
set_option maxHeartbeats 2000000 in
set_option maxRecDepth 100000 in
theorem cheaders_any {w : World} {F : Foot} {S : Dev} (h : DevAt w F S) (B : Nat) (hB1 : 1 ≤ B) (hB : B ≤ 1000) :
  Calls Tryz.prog 49 #[vdev F, vgeom B] w (ChPost S B w) := by
 have HD := LH h
 have HP : Hid (ChPost S B w = ChPost S B w) := LH rfl
 generalize hP : ChPost S B w = Post at HP ⊢
 have HPE := LH hP
 clear h hP HP
 go_enter Tryz.func49, Tryz.ntmps49
 have hbx : Below w.heap.size w (w.alloc (.cells #[.int .i64 (B : Int)] 44)) := below_alloc _ _
 have hcx : (w.alloc (.cells #[.int .i64 (B : Int)] 44)).cell? ⟨w.heap.size, 0, none⟩ = some (.int .i64 (B : Int)) := cell_alloc_new _ _ _ 0 _ rfl
 have hsx : (w.alloc (.cells #[.int .i64 (B : Int)] 44)).heap.size = w.heap.size + 1 := by simp
 have HSX := LH hsx
 clear hsx
 go_wp2_with (first
  | (at_make; refine wpList_make_rows elHd (w.heap.size + 1) B (z := .int .i64 0) (by intro i hi; simp at hi; rcases i with _ | _ | _ | i <;> first | rfl | omega) (by omega) (by omega) (by omega) (by decide) (by simp) rfl rfl rfl rfl ?_; intro w1 hown hgrow))
 try rw [HSX.out] at hown
 try rw [HSX.out]
 have hb1 : Below w.heap.size w w1 := hbx.trans (below_grown hgrow (by rw [HSX.out]; omega))
 have hc1 : w1.cell? ⟨w.heap.size, 0, none⟩ = some (.int .i64 (B : Int)) := by
  rw [(below_grown hgrow (Nat.le_refl _)).cell (p := ⟨w.heap.size, 0, none⟩) (by rw [HSX.out]; simp)]; exact hcx
 have hr1 : RowAt w1 (w.heap.size + 1) 103 (List.replicate (B * 3) (.int .i64 0)) := owned_row hown
 have HR1 := LH hr1
 have HB1 := LH hb1
 clear hbx hcx hown hgrow hr1 hb1 HSX
 obtain ⟨gx, hgx⟩ : ∃ gx, gx = w.heap.size := ⟨_, rfl⟩
 obtain ⟨g, hg⟩ : ∃ g, g = w.heap.size + 1 := ⟨_, rfl⟩
 have HG : Hid (gx = w.heap.size ∧ g = w.heap.size + 1) := LH ⟨hgx, hg⟩
 rw [← hg] at HR1 ⊢
 rw [← hgx] at hc1 ⊢
 have hgne : gx ≠ g := by omega
 clear hgx hg
 go_loopw [8] (fun i wr => ∃ k : Nat, 1 ≤ k ∧ k ≤ B ∧ i = .int .i64 k ∧ GoodTo S k ∧ RowAt wr g 103 (hdCs (hds (devWord S) k) ++ List.replicate (3 * (B - k)) (.int .i64 0)) ∧ wr.cell? ⟨gx, 0, none⟩ = some (.int .i64 (B : Int)) ∧ Below w.heap.size w wr) (fun i _ => B - (intOf i).toNat)
 case atStart => exact ⟨1, Nat.le_refl _, hB1, rfl, (fun b h1 h2 => by omega), by
   have e : hdCs (hds (devWord S) 1) ++ List.replicate (3 * (B - 1)) (Value.int .i64 0) = List.replicate (B * 3) (Value.int .i64 0) := by
    have : hdCs (hds (devWord S) 1) = List.replicate 3 (Value.int .i64 0) := rfl
    rw [this, List.replicate_append_replicate]
    congr 1
    omega
   rw [e]; exact HR1.out, hc1, HB1.out⟩
 case round =>
  clear hc1 HR1 HB1
  obtain ⟨k, hk1, hk2, rfl, hok, hr, hcx, hb⟩ := hrel
  have HOK := LH hok
  have HR := LH hr
  have HB := LH hb
  have HDr := LH (HD.out.below hb)
  clear hok hr hb
  by_cases hlt : k < B
  ·have hlt' : (k : Int) < (B : Int) := by omega
   go_wp2_with fail
   refine (gheader_any _ _ _ (by omega)).mono ?_
   rintro e w2 ⟨rfl, hb2⟩
   have HH : Hid (hdAt (B : Int) (k : Int) = 256 + (k : Int)) := LH (by unfold hdAt; rw [if_neg (by omega)])
   rw [HH.out]
   have HD2 := LH (HDr.out.below hb2)
   have HB2 := LH hb2
   clear hb2
   go_wp2_with fail
   refine (dget_any HD2.out _).mono ?_
   rintro e w3 ⟨rfl, rfl⟩
   have hx : devWord S k < 18446744073709551616 := peek_lt HD2.out.u64C _
   have HX : Hid (peek S.cache (256 + (k : Int)) = devWord S k) := LH rfl
   rw [HX.out]
   go_wp2_with fail
   refine (bdecode_any (k : Int) (devWord S k) (by omega) (by omega) hx _).mono ?_
   rintro e w4 ⟨rfl, hb4⟩
   have HF : Hid (⟨(decN k (devWord S k)).k, (decN k (devWord S k)).c, (decN k (devWord S k)).l⟩ = hdF (devWord S) k) := LH (by unfold hdF; rw [if_neg (by omega)])
   have HC : Hid ((decN k (devWord S k)).code = 0 ∨ (decN k (devWord S k)).code ≠ 0) := LH (by omega)
   have HOK2 : Hid ((decN k (devWord S k)).code = 0 → peek S.lasting (256 + (k : Int)) = devWord S k → GoodTo S (k + 1)) := LH (fun h h' => HOK.out.succ ⟨h, h'⟩)
   have HBad : Hid (((decN k (devWord S k)).code ≠ 0 ∨ peek S.lasting (256 + (k : Int)) ≠ devWord S k) → ∀ w', Below w.heap.size w w' → Post (.returned (.tuple #[.slice none 0 0, .int .i64 k, .int .i64 21])) w') := LH (fun h w' hw' => by
    rw [← HPE.out]; exact ⟨hw', .inr (.inl ⟨k, hk1, hlt, HOK.out, fun hg => h.elim (fun c => c hg.1) (fun c => c hg.2), rfl⟩)⟩)
   unfold Dec.val
   generalize decN k (devWord S k) = dd at *
   obtain ⟨dk, dc, dl, dcode⟩ := dd
   dsimp only at *
   have hb24 : Below wr.heap.size wr w4 := HB2.out.trans (hb4.mono HB2.out.size)
   have HB4 := LH hb24
   clear hb4 hb24 HB2 HD2
   rcases HC.out with hz | hz
   ·subst hz
    have hr4 : RowAt w4 g 103 _ := HR.out.keep (HB4.out.block g HR.out.lt)
    have hcx4 : w4.cell? ⟨gx, 0, none⟩ = some (.int .i64 (B : Int)) := below_cells HB4.out hcx (Nat.le_refl _)
    have hgl : g < w4.heap.size := hr4.lt
    have hgxl : gx < w4.heap.size := World.block_lt_of_cell? _ _ hcx4
    have HR4 := LH hr4
    have HCX4 := LH hcx4
    clear hr4 hcx hcx4
    have hb5 := below_alloc w4 (Obj.cells #[Value.int .i64 dk, Value.int .i64 dc, Value.int .i64 dl] 103)
    have HR5 : Hid (RowAt (w4.alloc (Obj.cells #[Value.int .i64 dk, Value.int .i64 dc, Value.int .i64 dl] 103)) g 103 (hdCs (hds (devWord S) k) ++ List.replicate (3 * (B - k)) (.int .i64 0))) := LH (HR4.out.keep (hb5.block g hgl))
    have HCX5 : Hid ((w4.alloc (Obj.cells #[Value.int .i64 dk, Value.int .i64 dc, Value.int .i64 dl] 103)).cell? ⟨gx, 0, none⟩ = some (.int .i64 (B : Int))) := LH (below_cells hb5 HCX4.out (Nat.le_refl _))
    have HB5 : Hid (Below w.heap.size w (w4.alloc (Obj.cells #[Value.int .i64 dk, Value.int .i64 dc, Value.int .i64 dl] 103))) := LH (HB.out.trans ((HB4.out.trans (hb5.mono HB4.out.size)).mono HB.out.size))
    have hlen : Hid (k * 3 + 3 ≤ (hdCs (hds (devWord S) k) ++ List.replicate (3 * (B - k)) (Value.int .i64 0)).length) := LH (by rw [List.length_append, hdCs_length, hds_length, List.length_replicate]; omega)
    have hone : Hid (∀ u ∈ (#[Value.int .i64 dk, Value.int .i64 dc, Value.int .i64 dl] : Array Value).toList, u.oneCell' = true) := LH (by intro u hu; simp at hu; rcases hu with rfl | rfl | rfl <;> rfl)
    have HD5 := LH ((HDr.out.below HB4.out).below hb5)
    have HM5 := LH (Mem.one w4 #[Value.int .i64 dk, Value.int .i64 dc, Value.int .i64 dl] 103)
    clear hb5 HR4 HCX4 HB4
    go_upto_region 6 with fail
    obtain ⟨hp, hhp⟩ : ∃ hp, hp = w4.heap.size := ⟨_, rfl⟩
    rw [← hhp] at HM5 ⊢
    generalize w4.alloc _ = w5 at *
    clear hhp
    have hcx5 := HCX5.out
    have r0 := fun x => later_cell hcx5 x
    have HLa := LH (fun w' (h : Below w5.heap.size w5 w') => dlasting_any (HD5.out.below h) (256 + (k : Int)))
    have HGt := LH (fun w' (h : Below w5.heap.size w5 w') => dget_any (HD5.out.below h) (256 + (k : Int)))
    have hly : peek S.lasting (256 + (k : Int)) < 18446744073709551616 := peek_lt HD5.out.u64L _
    rw [HX.out] at HGt
    generalize peek S.lasting (256 + (k : Int)) = ly at *
    refine wp_region_seg (C := fun w' => ∃ x : Later (w5), w' = x.val) [.sq [0, 1, 2] false, .fl [3, 4, 5, 8, 9, 10], .sq [6] true, .sq [7] true, .sq [11] true, .sq [12, 13, 14] false] (by kernel_rfl) (by kernel_rfl) (by intro c a d v w h; cases d <;> exact h) ?_
    simp only [segs, picks, List.getElem?_cons_succ, List.getElem?_cons_zero]
    have hC1 := later_drew (w5)
    refine wpSeg_sq (fun K hK => ?_)
    go_wp2_with fail
    go_wp2_with fail
    refine hK _ _ (fun h => nomatch h) ?_
    clear hK K
    refine wpSeg_fl hC1 ?_
    repeat (first | go_big_quiet_step (fail) | quiet_step (fail))
    refine wpQuiet_nil ?_
    refine wpSeg_sq (fun K hK => ?_)
    go_wp2_with fail
    refine (gheader_any _ _ _ (by omega)).mono ?_
    rintro e w6 ⟨rfl, hb6⟩
    rw [HH.out]
    have hC2 := later_step hC1 hb6
    clear hb6
    go_wp2_with fail
    refine hK _ _ (fun _ => hC2) ?_
    clear hK K
    refine wpSeg_sq (fun K hK => ?_)
    go_wp2_with fail
    refine (HLa.out _ (later_below hC2)).mono ?_
    rintro e w7 ⟨rfl, rfl⟩
    go_wp2_with fail
    refine hK _ _ (fun _ => hC2) ?_
    clear hK K
    refine wpSeg_sq (fun K hK => ?_)
    go_wp2_with fail
    refine (gheader_any _ _ _ (by omega)).mono ?_
    rintro e w8 ⟨rfl, hb8⟩
    rw [HH.out]
    have hC3 := later_step hC2 hb8
    clear hb8
    go_wp2_with fail
    refine hK _ _ (fun _ => hC3) ?_
    clear hK K
    refine wpSeg_last ?_
    go_wp2_with fail
    refine (HGt.out _ (later_below hC3)).mono ?_
    rintro e w9 ⟨rfl, rfl⟩
    have HB8 : Hid (Below w5.heap.size w5 w8) := LH (later_below hC3)
    have HR8 := LH (HR5.out.keep (HB8.out.block g HR5.out.lt))
    have HCX8 : Hid (w8.cell? ⟨gx, 0, none⟩ = some (.int .i64 (B : Int))) := LH (below_cells HB8.out HCX5.out (Nat.le_refl _))
    have HBw : Hid (Below w.heap.size w w8) := LH (HB5.out.trans (HB8.out.mono HB5.out.size))
    have HM8 := LH (HM5.out.later HB8.out)
    have d0 := HM8.out.cell 0 0 rfl rfl
    have d1 := HM8.out.cell 0 1 rfl rfl
    have d2 := HM8.out.cell 0 2 rfl rfl
    clear hC1 hC2 hC3 r0 hcx5 HM5 HR5 HCX5 HB5 HLa HGt HC
    by_cases hlq : ly = devWord S k
    ·have HOK3 := LH (HOK2.out trivial hlq)
     rw [hlq]
     generalize devWord S k = dw at *
     go_wp2_with (refine wpList_store_part (off := k * 3) (cs := #[.int .i64 dk, .int .i64 dc, .int .i64 dl]) aggHd HR8.out rfl hlen.out hone.out rfl rfl rfl rfl ?_; intro w10 hr10 ht10; have HR10 := LH hr10; have HT10 := LH ht10; clear hr10 ht10)
     refine ⟨⟨k + 1, by omega, by omega, vint (by omega), HOK3.out, ?_, ?_, ?_⟩, by simp [intOf]; omega⟩
     ·have := HR10.out
      rw [show #[Value.int .i64 dk, Value.int .i64 dc, Value.int .i64 dl].toList = (⟨dk, dc, dl⟩ : Hd).cs from rfl, row_step _ _ _ hlt _ HF.out] at this
      exact this
     ·exact cell_of_touch HT10.out (by simp; exact hgne) HCX8.out
     ·exact below_touch HBw.out HT10.out (by have := HG.out; simp; omega) (Nat.le_refl _)
    ·have HZ := LH (HBad.out (.inr hlq))
     have hlq2 : (ly != devWord S k) = true := by simpa using hlq
     have hlq3 : ((ly : Int) != (devWord S k : Int)) = true := by simp; omega
     generalize devWord S k = dw at *
     go_wp2_with fail
     go_ret3
     exact HZ.out _ HBw.out
   ·have hz1 : (dcode != 0) = true := by simpa using hz
    have HZ := LH (HBad.out (.inl hz))
    have HBE : Hid (Below w.heap.size w w4) := LH (HB.out.trans (HB4.out.mono HB.out.size))
    have HCXx : Hid ((w4.alloc (Obj.cells #[Value.int .i64 dk, Value.int .i64 dc, Value.int .i64 dl] 103)).cell? ⟨gx, 0, none⟩ = some (.int .i64 (B : Int))) := LH (below_cells (below_alloc w4 _) (below_cells HB4.out hcx (Nat.le_refl _)) (Nat.le_refl _))
    have HBy : Hid (Below w.heap.size w (w4.alloc (Obj.cells #[Value.int .i64 dk, Value.int .i64 dc, Value.int .i64 dl] 103))) := LH (HBE.out.alloc (HBE.out.size) _)
    clear hz HBad HC HOK2 hcx
    go_upto_region 6 with fail
    generalize w4.alloc _ = w5 at *
    have hcx5 := HCXx.out
    have r0 := fun x => later_cell hcx5 x
    refine wp_region_seg (C := fun w' => ∃ x : Later (w5), w' = x.val) [.sq [0, 1, 2] false, .fl [3, 4, 5, 8, 9, 10], .sq [6] true, .sq [7] true, .sq [11] true, .sq [12, 13, 14] false] (by kernel_rfl) (by kernel_rfl) (by intro c a d v w h; cases d <;> exact h) ?_
    simp only [segs, picks, List.getElem?_cons_succ, List.getElem?_cons_zero]
    have hC1 := later_drew (w5)
    refine wpSeg_sq (fun K hK => ?_)
    go_wp2_with fail
    go_wp2_with fail
    refine hK _ _ (fun h => nomatch h) ?_
    clear hK K
    refine wpSeg_fl hC1 ?_
    repeat (first | go_big_quiet_step (fail) | quiet_step (fail))
    refine wpQuiet_nil ?_
    refine wpSeg_sq (fun K hK => ?_)
    go_wp2_with fail
    go_wp2_with fail
    refine hK _ _ (fun _ => hC1) ?_
    clear hK K
    refine wpSeg_sq (fun K hK => ?_)
    go_wp2_with fail
    go_wp2_with fail
    refine hK _ _ (fun _ => hC1) ?_
    clear hK K
    refine wpSeg_sq (fun K hK => ?_)
    go_wp2_with fail
    go_wp2_with fail
    refine hK _ _ (fun _ => hC1) ?_
    clear hK K
    refine wpSeg_last ?_
    go_wp2_with fail
    go_ret3
    exact HZ.out _ (HBy.out.trans ((later_below hC1).mono HBy.out.size))
  ·obtain rfl : k = B := by omega
   have hlt' : decide ((k : Int) < (k : Int)) = false := by simp
   have hr' : RowAt wr g 103 (hdCs (hds (devWord S) k)) := by
    have := HR.out
    simpa using this
   have HRr := LH hr'
   have HSd := LH (bsound_any (some ⟨g, 0, none⟩) k k (hds (devWord S) k) (hds_length _ _) wr hr'.cells hB)
   unfold SoundPost at HSd
   rw [hds_length] at HSd
   clear hr'
   have HGg : Hid (w.heap.size ≤ g) := LH (by have := HG.out; omega)
   go_wp2_with fail
   refine HSd.out.mono ?_
   rintro e w5 ⟨rfl, hb5⟩
   have HB5 := LH (HB.out.trans (hb5.mono HB.out.size))
   have HR5 := LH (HRr.out.keep (hb5.block g HRr.out.lt))
   obtain ⟨z, hz⟩ : ∃ z, z = soundN (hds (devWord S) k) k 1 := ⟨_, rfl⟩
   rw [← hz]
   have HZ := LH hz.symm
   clear hb5 hz HSd HRr HR
   by_cases hz0 : z = 0
   ·subst hz0
    have HFin : Hid (Post (.returned (.tuple #[.slice (some ⟨g, 0, none⟩) k k, .int .i64 0, .int .i64 0])) w5) := LH (by
     rw [← HPE.out]
     exact ⟨HB5.out, .inl ⟨HOK.out, HZ.out, g, k, rfl, HGg.out, Nat.le_refl _, HR5.out⟩⟩)
    rw [show decide ((0 : Nat) = 0) = true from rfl]
    go_wp2_with fail
    go_ret3
    exact HFin.out
   ·have HFin : Hid (Post (.returned (.tuple #[.slice none 0 0, .int .i64 (z : Int), .int .i64 40])) w5) := LH (by
     rw [← HPE.out]
     exact ⟨HB5.out, .inr (.inr ⟨HOK.out, z, HZ.out, hz0, rfl⟩)⟩)
    rw [decide_eq_false hz0]
    go_wp2_with fail
    go_ret3
    exact HFin.out
end Go.Proofs.YtpopbfagliagnaaGreat
namespace Go.Proofs.YtpopbfagliagnaaGreat
open Go.RowKit Go.Maps
end Go.Proofs.YtpopbfagliagnaaGreat
namespace Go.Proofs.YtpopbfagliagnaaGreat
variable {B : Nat} {m : Al} {bm : Bm}
theorem devWord_is (h : BmOk B bm) {b : Nat} (h1 : 1 ≤ b) (h2 : b < B) : devWord bm.dev b = encN (b : Int) (bm.list.getD b default).k (bm.list.getD b default).c (bm.list.getD b default).l := by
 unfold devWord
 rw [show (256 + (b : Int)) = ((256 + b : Nat) : Int) by omega, peek_in]
 exact h.word b h1 h2
theorem hds_at (f : Nat → Nat) {k q : Nat} (h : q < k) : (hds f k).getD q default = hdF f q := by
 unfold hds
 rw [List.getD_eq_getElem?_getD, List.getElem?_map, List.getElem?_range h]
 rfl
theorem bm_open (h : BmOk B bm) : AllOk (devWord bm.dev) B ∧ ∀ q, 1 ≤ q → (hds (devWord bm.dev) B).getD q default = bm.list.getD q default := by
 refine ⟨fun b h1 h2 => by rw [devWord_is h h1 h2, dec_enc _ _ _ _ (h.right b h2)], fun q h1 => ?_⟩
 by_cases h2 : q < B
 ·rw [hds_at _ h2]
  unfold hdF
  rw [if_neg (by omega), devWord_is h h1 h2, dec_enc _ _ _ _ (h.right q h2)]
 ·rw [List.getD_eq_getElem?_getD, List.getElem?_eq_none (by rw [hds_length]; omega), List.getD_eq_getElem?_getD, List.getElem?_eq_none (by rw [h.lenL]; omega)]
theorem bmOk_open (h : BmOk B bm) : BmOk B (bmOf bm.dev B) := by
 have hq := (bm_open h).2
 unfold bmOf
 refine ⟨hds_length _ _, freeL_len _ _ _, h.clean, fun b hb => ?_, fun b h1 h2 => ?_, fun b => ?_, fun b h1 h2 hk => ?_⟩
 ·dsimp only
  by_cases e : b = 0
  ·subst e
   rw [hds_at _ hb]
   rfl
  ·rw [hq b (by omega)]; exact h.right b hb
 ·dsimp only
  rw [hq b h1]; exact h.word b h1 h2
 ·dsimp only
  rw [freeL_fb]
  unfold freeAt
  constructor
  ·rintro ⟨_, h2, h3, h4⟩
   exact ⟨h2, h3, by simpa using h4⟩
  ·rintro ⟨h2, h3, h4⟩
   exact ⟨h3, h2, h3, by simpa using h4⟩
 ·dsimp only at hk ⊢
  rw [hq b h1] at hk ⊢
  obtain ⟨g1, g2⟩ := h.large b h1 h2 hk
  exact ⟨g1, fun i i1 i2 => by rw [hq _ (by omega)]; exact g2 i i1 i2⟩
theorem snd_open (h : BmOk B bm) (hs : Snd bm.list) : Snd (bmOf bm.dev B).list := by
 have hq := (bm_open h).2
 intro q q1 hk
 rw [show (bmOf bm.dev B).list = hds (devWord bm.dev) B from rfl] at hk ⊢
 rw [hq q q1] at hk
 obtain ⟨a, a1, a2, a3, a4⟩ := hs q q1 hk
 exact ⟨a, a1, a2, by rw [hq a a1]; exact a3, by rw [hq a a1]; exact a4⟩
theorem sound_to (h : BmOk B bm) (hs : Snd bm.list) : ∀ f b, 1 ≤ b → (∀ a, 1 ≤ a → a < b → (bm.list.getD a default).k = 2 → (a : Int) + (bm.list.getD a default).l ≤ (b : Int)) → soundN bm.list f b = 0
 | 0, _, _, _ => rfl
 | f + 1, b, hb, hr => by
  unfold soundN
  by_cases c : bm.list.length ≤ b
  ·rw [if_pos c]
  ·rw [if_neg c]
   have hbB : b < B := by rw [h.lenL] at c; omega
   have hri := of_decide_eq_true (h.right b hbB)
   unfold HdRight at hri
   by_cases h2 : (bm.list.getD b default).k = 2
   ·rw [if_pos h2]
    obtain ⟨g1, g2⟩ := h.large b hb hbB h2
    obtain ⟨l, hl⟩ := Int.eq_ofNat_of_zero_le (show 0 ≤ (bm.list.getD b default).l by omega)
    have hw : wholeN bm.list b = l := by
     refine wholeN_of (by omega) ?_ (by rw [h.lenL]; omega) (fun i i1 i2 => g2 i i1 (by omega))
     have h3 : (bm.list.getD b default).c = 0 := by omega
     generalize bm.list.getD b default = x at *
     obtain ⟨k, c, l'⟩ := x
     dsimp only at h2 h3 hl
     rw [h2, h3, hl]
    rw [hw, if_neg (by omega)]
    refine sound_to h hs f (b + l) (by omega) (fun a a1 a2 hk => ?_)
    by_cases c1 : a < b
    ·have := hr a a1 c1 hk; omega
    ·by_cases c2 : a = b
     ·subst c2; omega
     ·have := g2 (a - b) (by omega) (by omega)
      rw [show b + (a - b) = a by omega] at this
      rw [this] at hk
      exact absurd hk (by simp)
   ·rw [if_neg h2]
    by_cases h3 : (bm.list.getD b default).k = 3
    ·obtain ⟨a, a1, a2, a3, a4⟩ := hs b hb h3
     have := hr a a1 a2 a3
     omega
    ·rw [if_neg h3]
     refine sound_to h hs f (b + 1) (by omega) (fun a a1 a2 hk => ?_)
     by_cases c2 : a = b
     ·subst c2; exact absurd hk h2
     ·have := hr a a1 (by omega) hk; omega
theorem sound_open (h : BmOk B bm) (hs : Snd bm.list) : soundN (hds (devWord bm.dev) B) B 1 = 0 :=
 sound_to (bmOk_open h) (snd_open h hs) B 1 (Nat.le_refl _) (fun a a1 a2 _ => by omega)
end Go.Proofs.YtpopbfagliagnaaGreat
namespace Go.Proofs.YtpopbfagliagnaaGreat
open Go.RowKit
theorem good_all {B : Nat} {bm : Bm} (h : BmOk B bm) : GoodTo bm.dev B := fun b b1 b2 => by
 refine ⟨(bm_open h).1 b b1 b2, ?_⟩
 have hc := h.clean.clean b b1 b2
 have hs := h.clean.inv.sound (256 + b) hc
 unfold devWord peek
 rw [if_pos (by omega), if_pos (by omega), show (256 + (b : Int)).toNat = 256 + b by omega]
 exact hs
theorem cheaders_heap {w : World} {F : Foot} {B : Nat} {bm : Bm} (hb : BmOk B bm) (hs : Snd bm.list) (h : DevAt w F bm.dev) (hB1 : 1 ≤ B) (hB : B ≤ 1000) :
  Calls Tryz.prog 49 #[vdev F, vgeom B] w fun en w' => Below w.heap.size w w' ∧ ∃ g c, en = .returned (.tuple #[.slice (some ⟨g, 0, none⟩) B c, .int .i64 0, .int .i64 0]) ∧ w.heap.size ≤ g ∧ B ≤ c ∧ RowAt w' g 103 (hdCs (hds (devWord bm.dev) B)) :=
 (cheaders_any h B hB1 hB).mono (by
  rintro e w' ⟨h1, ⟨_, _, h2⟩ | ⟨b, b1, b2, _, hn, _⟩ | ⟨_, z, hz, hne, _⟩⟩
  ·exact ⟨h1, h2⟩
  ·exact absurd (good_all hb b b1 b2) hn
  ·exact absurd ((sound_open hb hs).symm.trans hz).symm hne)
theorem hds_all {B : Nat} {bm : Bm} (hb : BmOk B bm) (q : Nat) (hq : 1 ≤ q) : (hds (devWord bm.dev) B).getD q default = bm.list.getD q default := (bm_open hb).2 q hq
end Go.Proofs.YtpopbfagliagnaaGreat
namespace Go.Proofs
open Go.Shelf
def Tryz.sortSp_ren : Go.Shelf.Ren := ⟨fun | 6 => 309 | 15 => 283 | 14 => 341 | 28 => 328 | 29 => 329 | 20 => 351 | 21 => 352 | 22 => 353 | 23 => 354 | 24 => 355 | 25 => 356 | 26 => 357 | 27 => 358 | 46 => 361 | 47 => 345 | 48 => 346 | 49 => 362 | 50 => 363 | 57 => 364 | n => n, fun | 22 => 283 | 24 => 286 | 25 => 401 | 3 => 3 | 39 => 167 | 0 => 0 | 53 => 231 | 55 => 40 | 4 => 4 | 46 => 408 | 45 => 407 | 50 => 238 | 5 => 5 | 9 => 9 | 66 => 421 | 70 => 424 | 76 => 433 | 77 => 258 | n => n, fun | n => n⟩
theorem Tryz.sortSp : Go.Proofs.SlLaysF0.n6 Tryz.prog Tryz.sortSp_ren := {
 mixed := by kernel_rfl
 f6 := ⟨Tryz.f309.name, by decide, Tryz.func309.trans (congrArg some (by kernel_rfl))⟩
 f14 := ⟨Tryz.f341.name, by decide, Tryz.func341.trans (congrArg some (by kernel_rfl))⟩
 f15 := Tryz.func283.trans (congrArg some (by kernel_rfl))
 f20 := ⟨Tryz.f351.name, by decide, Tryz.func351.trans (congrArg some (by kernel_rfl))⟩
 f21 := ⟨Tryz.f352.name, by decide, Tryz.func352.trans (congrArg some (by kernel_rfl))⟩
 f22 := ⟨Tryz.f353.name, by decide, Tryz.func353.trans (congrArg some (by kernel_rfl))⟩
 f23 := ⟨Tryz.f354.name, by decide, Tryz.func354.trans (congrArg some (by kernel_rfl))⟩
 f24 := ⟨Tryz.f355.name, by decide, Tryz.func355.trans (congrArg some (by kernel_rfl))⟩
 f25 := ⟨Tryz.f356.name, by decide, Tryz.func356.trans (congrArg some (by kernel_rfl))⟩
 f26 := ⟨Tryz.f357.name, by decide, Tryz.func357.trans (congrArg some (by kernel_rfl))⟩
 f27 := ⟨Tryz.f358.name, by decide, Tryz.func358.trans (congrArg some (by kernel_rfl))⟩
 f28 := Tryz.func328.trans (congrArg some (by kernel_rfl))
 f29 := Tryz.func329.trans (congrArg some (by kernel_rfl))
 f46 := ⟨Tryz.f361.name, by decide, Tryz.func361.trans (congrArg some (by kernel_rfl))⟩
 f47 := Tryz.func345.trans (congrArg some (by kernel_rfl))
 f48 := Tryz.func346.trans (congrArg some (by kernel_rfl))
 f49 := ⟨Tryz.f362.name, by decide, Tryz.func362.trans (congrArg some (by kernel_rfl))⟩
 f50 := ⟨Tryz.f363.name, by decide, Tryz.func363.trans (congrArg some (by kernel_rfl))⟩
 f57 := ⟨Tryz.f364.name, by decide, Tryz.func364.trans (congrArg some (by kernel_rfl))⟩
 t0 := Tryz.underlying0
 a0 := Tryz.isAgg0
 z0 := Tryz.sizeOf0
 v0 := Tryz.zeroValue0
 t3 := Tryz.underlying3
 a3 := Tryz.isAgg3
 z3 := Tryz.sizeOf3
 v3 := Tryz.zeroValue3
 t4 := Tryz.underlying4
 a4 := Tryz.isAgg4
 z4 := Tryz.sizeOf4
 v4 := Tryz.zeroValue4
 t5 := Tryz.underlying5
 a5 := Tryz.isAgg5
 z5 := Tryz.sizeOf5
 v5 := Tryz.zeroValue5
 t9 := Tryz.underlying9
 a9 := Tryz.isAgg9
 z9 := Tryz.sizeOf9
 v9 := Tryz.zeroValue9
 t22 := Tryz.underlying283
 a22 := Tryz.isAgg283
 z22 := Tryz.sizeOf283
 v22 := Tryz.zeroValue283
 t25 := Tryz.underlying401
 a25 := Tryz.isAgg401
 z25 := Tryz.sizeOf401
 v25 := Tryz.zeroValue401
 t39 := Tryz.underlying167
 a39 := Tryz.isAgg167
 z39 := Tryz.sizeOf167
 v39 := Tryz.zeroValue167
 t45 := Tryz.underlying407
 a45 := Tryz.isAgg407
 z45 := Tryz.sizeOf407
 v45 := Tryz.zeroValue407
 t46 := Tryz.underlying408
 a46 := Tryz.isAgg408
 z46 := Tryz.sizeOf408
 v46 := Tryz.zeroValue408
 t50 := Tryz.underlying238
 a50 := Tryz.isAgg238
 z50 := Tryz.sizeOf238
 v50 := Tryz.zeroValue238
 t53 := Tryz.underlying231
 a53 := Tryz.isAgg231
 z53 := Tryz.sizeOf231
 v53 := Tryz.zeroValue231
 t55 := Tryz.underlying40
 a55 := Tryz.isAgg40
 z55 := Tryz.sizeOf40
 v55 := Tryz.zeroValue40
 t66 := Tryz.underlying421
 a66 := Tryz.isAgg421
 z66 := Tryz.sizeOf421
 v66 := Tryz.zeroValue421
 t70 := Tryz.underlying424
 a70 := Tryz.isAgg424
 z70 := Tryz.sizeOf424
 v70 := Tryz.zeroValue424
 t76 := Tryz.underlying433
 a76 := Tryz.isAgg433
 z76 := Tryz.sizeOf433
 v76 := Tryz.zeroValue433
 t77 := Tryz.underlying258
 a77 := Tryz.isAgg258
 z77 := Tryz.sizeOf258
 v77 := Tryz.zeroValue258 }
end Go.Proofs
namespace Go.Proofs.YtpopbfagliagnaaGreat
open Go.RowKit Go.Maps Go.Sort Go.Shelf
abbrev Spb := {x : Sp // x.1 ≤ 1000000000000}
instance : Inhabited Spb := ⟨⟨(0, 0), by decide⟩⟩
def encSp (x : Spb) : List Value := [.int .i64 (x.1.1 : Int), .int .i64 (x.1.2 : Int)]
def cfSp (x y : Spb) : Int := (x.1.1 : Int) - (y.1.1 : Int)
theorem ltSp (x y : Spb) : ltOf cfSp x y = decide (x.1.1 < y.1.1) := by
 unfold ltOf cfSp
 by_cases h : x.1.1 < y.1.1
 ·rw [decide_eq_true h]; simp; omega
 ·rw [decide_eq_false h]; simp; omega
theorem swoSp : SWO (ltOf cfSp) where
 irrefl x := by rw [ltSp]; simp
 trans x y z h1 h2 := by rw [ltSp] at *; simp at *; omega
 ntrans x y z h1 h2 := by rw [ltSp] at *; simp at *; omega
theorem spCs_at : ∀ (l : List Sp) (i : Nat) (s n : Nat), l[i]? = some (s, n) → (spCs l)[i * 2]? = some (.int .i64 (s : Int)) ∧ (spCs l)[i * 2 + 1]? = some (.int .i64 (n : Int))
 | [], i, s, n, h => by simp at h
 | x :: l, 0, s, n, h => by
  simp at h
  subst h
  exact ⟨rfl, rfl⟩
 | x :: l, i + 1, s, n, h => by
  have ih := spCs_at l i s n (by simpa using h)
  have e : spCs (x :: l) = .int .i64 x.1 :: .int .i64 x.2 :: spCs l := rfl
  rw [e, show (i + 1) * 2 = i * 2 + 1 + 1 by omega]
  simpa using ih
theorem flat_get (xs : List Spb) (t : Nat) (h : t < xs.length * 2) : (spCs (xs.map (·.1)))[t]? = some (flatK encSp 2 xs.toArray)[t]! := by
 have hs : t < xs.toArray.size * 2 := by simpa using h
 rw [get_flatK encSp 2 xs.toArray t hs]
 have hd : t / 2 < xs.length := by omega
 have hx : xs.toArray[t / 2]! = xs[t / 2] := by simp [hd]
 have hl : (xs.map (·.1))[t / 2]? = some (xs[t / 2].1.1, xs[t / 2].1.2) := by simp [hd]
 obtain ⟨h1, h2⟩ := spCs_at _ _ _ _ hl
 rw [hx]
 generalize xs[t / 2] = y at *
 clear hl hx hd
 rcases Nat.mod_two_eq_zero_or_one t with h0 | h0
 ·rw [show t = t / 2 * 2 by omega, h1, show t / 2 * 2 % 2 = 0 by omega]
  rfl
 ·rw [show t = t / 2 * 2 + 1 by omega, h2, show (t / 2 * 2 + 1) % 2 = 1 by omega]
  rfl
theorem holds_sp {w : World} {g e : Nat} {xs : List Spb} (h : RowAt w g e (spCs (xs.map (·.1)))) : HoldsK encSp 2 w g 0 xs.toArray := by
 intro j hj
 have hj' : j < xs.length * 2 := by simpa using hj
 have := flat_get xs j hj'
 rw [Nat.zero_add]
 exact ⟨h.cell this, h.frozen _⟩
theorem cells_sp {w : World} {g : Nat} {xs : List Spb} (h : HoldsK encSp 2 w g 0 xs.toArray) : Cells w (some ⟨g, 0, none⟩) (spCs (xs.map (·.1))) := by
 refine .inr ⟨g, 0, rfl, fun i v hi => ?_⟩
 have hlt : i < xs.length * 2 := by
  have := (List.getElem?_eq_some_iff.1 hi).1
  rw [spCs_length] at this; simp at this; omega
 have h1 := h i (by simpa using hlt)
 have h2 := flat_get xs i hlt
 rw [hi] at h2
 rw [h1.1]
 simp only [id]
 exact h2.symm
theorem grownBy_sortK {w : World} {g n : Nat} {os : Array Obj} (d : Array Spb) : w.grownBy (sortWorldK encSp 2 w g 0 n d os) (some g) := by
 refine ⟨rfl, rfl, rfl, by simp [sortWorldK, putRowK], fun k hk hne => ?_⟩
 unfold sortWorldK putRowK
 rw [heap_grow_old _ _ (by simpa using hk)]
 have : g ≠ k := fun e => hne (by rw [e])
 simp [putRow, mapBlock, Sort.ahead, Array.getElem?_modify, this]
set_option maxHeartbeats 1000000 in
theorem cmp_any (x y : Spb) (W : World) : Calls Tryz.prog 310 #[.agg (encSp x).toArray, .agg (encSp y).toArray] W fun e w' => e = .returned (.int .i64 (cfSp x y)) ∧ ∃ q os', w' = grow (W.drewN q) os' := by
 obtain ⟨⟨a, b⟩, hx⟩ := x
 obtain ⟨⟨c, d⟩, hy⟩ := y
 unfold encSp cfSp
 dsimp only at hx hy ⊢
 go_enter Tryz.func310, Tryz.ntmps310
 go_wp2_with fail
 go_ret
 exact ⟨rfl, 0, _, by rw [alloc_eq_grow, alloc_eq_grow, grow_grow]; rfl⟩
theorem aggSp (w : World) : (isAgg 286).run Tryz.prog w = .ok true w := Tryz.isAgg286 w
theorem sizeSp (w : World) : (Go.sizeOf 286).run Tryz.prog w = .ok 2 w := Tryz.sizeOf286 w
theorem sort_any (g cap : Nat) (xs : List Spb) (n : Nat) (hn : xs.length = n) (w : World) {e : Nat} (hr : RowAt w g e (spCs (xs.map (·.1)))) (hsz : n ≤ 1000000000000) :
  Calls Tryz.prog 309 #[.slice (some ⟨g, 0, none⟩) n cap, .func (.func 310) #[] #[]] w fun e w' =>
   e = .returned (.tuple #[]) ∧ ∃ ys : List Spb, ys.Perm xs ∧ ys.Pairwise (fun a b => a.1.1 ≤ b.1.1) ∧ Cells w' (some ⟨g, 0, none⟩) (spCs (ys.map (·.1))) ∧ w.grownBy w' (some g) := by
 subst hn
 have eg : ∀ args w, (callFunc 310 args).run Tryz.prog w = .ok (.enter 310 args) w := enters_of Tryz.func310 (by kernel_rfl) rfl
 have hlt : g < w.heap.size := hr.lt
 have hH := holds_sp hr
 have hcon := AnyQ.slices_SortFunc Tryz.sortSp 2 aggSp sizeSp encSp (fun _ => rfl) (fun x v hv => by simp [encSp] at hv; rcases hv with rfl | rfl <;> rfl) cfSp swoSp 310 #[] g 0 cap xs.toArray w eg (fun m os dk hs x y => cmp_any x y _) hH hlt (by simp; omega)
 change Calls Tryz.prog 309 _ _ _ at hcon
 rw [List.size_toArray] at hcon
 refine hcon.mono ?_
 rintro e w' ⟨rfl, d', n, os, hp, hs, rfl⟩
 have hsz' : d'.size = xs.length := by simpa using hp.1
 have hex1 : (d'.extract 0 xs.length).toList = d'.toList := by rw [← hsz']; simp
 refine ⟨rfl, d'.toList, ?_, ?_, ?_, grownBy_sortK d'⟩
 ·have := hp.2.2
  rw [hex1] at this
  simpa using this
 ·rw [List.pairwise_iff_getElem]
  intro i j hi hj hij
  have h := hs i j (Nat.zero_le _) hij (by simpa [hsz'] using hj)
  rw [ltSp] at h
  have hi' : i < d'.size := by simpa using hi
  have hj' : j < d'.size := by simpa using hj
  simp [hi', hj'] at h
  simpa using h
 ·have h1 : HoldsK encSp 2 (sortWorldK encSp 2 w g 0 n d' os) g 0 d' := holdsK_sortWorldK_c encSp 2 w g 0 xs.toArray d' n os hH hlt (by simpa using hsz')
  exact cells_sp (xs := d'.toList) (by simpa using h1)
theorem sorted_runs {l : List Bool} {ys : List Spb} {done : List Sp} (hp : (ys.map (·.1)).Perm done) (hd : done.Perm (runsOf l)) (hs : ys.Pairwise (fun a b => a.1.1 ≤ b.1.1)) : ys.map (·.1) = runsOf l := by
 have hq := hp.trans hd
 have hris := (runsOf_is l).rising
 have hnd : ((runsOf l).map (·.1)).Nodup := by
  unfold List.Nodup
  rw [List.pairwise_map]
  exact hris.imp (fun h => by omega)
 have hnd2 : ((ys.map (·.1)).map (·.1)).Nodup := (hq.map (·.1)).nodup_iff.2 hnd
 refine rising_ext ?_ hris (fun x => hq.mem_iff)
 unfold Rising
 unfold List.Nodup at hnd2
 rw [List.pairwise_map] at hnd2
 have h2 : (ys.map (·.1)).Pairwise (fun a b => a.1 ≤ b.1) := by rw [List.pairwise_map]; exact hs
 exact (List.Pairwise.and h2 hnd2).imp (fun h => by omega)
theorem as_spb : ∀ (l : List Sp), (∀ x ∈ l, x.1 ≤ 1000000000000) → ∃ xs : List Spb, xs.map (·.1) = l
 | [], _ => ⟨[], rfl⟩
 | x :: l, h => by
  obtain ⟨xs, hxs⟩ := as_spb l (fun y hy => h y (by simp [hy]))
  exact ⟨⟨x, h x (by simp)⟩ :: xs, by simp [hxs]⟩
def SpList (w : World) (l : List Sp) : Ending → World → Prop := fun e w' => ∃ (a : Option Addr) (c : Nat), e = .returned (.slice a l.length c) ∧ Cells w' a (spCs l) ∧ Below w.heap.size w w'
theorem elBsp : Elem Tryz.prog 283 286 (.agg #[.int .i64 0, .int .i64 0]) 2 16 := Elem.mk' Tryz.underlying283 (by kernel_rfl) rfl (by decide)
theorem runs_len (f : Nat → Bool) : ∀ L, (runsTo f L).length ≤ L
 | 0 => by simp [runsTo]
 | b + 1 => by
  have ih := runs_len f b
  unfold runsTo
  split
  ·split
   ·split
    ·simp
    ·rename_i x hx
     obtain ⟨ys, hy⟩ := List.getLast?_eq_some_iff.1 hx
     rw [hy] at ih ⊢
     simp at ih ⊢; omega
   ·simp; omega
  ·omega
set_option maxHeartbeats 2000000 in
theorem ilist_any {w : World} {T : Tri} {n : Nat} {l : List Bool} (h : IxAt w T n l) (hl : l.length ≤ 100000000000) :
  Calls Tryz.prog 255 #[.pointer (some ⟨T.p, 0, none⟩)] w (SpList w (runsOf l)) := by
 have HLt := LH (show T.s < w.heap.size from h.mem T.s (by simp [Tri.list]))
 obtain ⟨M, E, hA, hMO, _⟩ := h
 have e0 : w.cell? ⟨T.p, 0, none⟩ = some (.map (some T.s)) := hA.row.cell rfl
 have HS := LH hA.byS
 have HMO := LH hMO
 have HRl := LH (runs_len (fb l) l.length)
 have HL := LH hl
 clear hA hMO hl
 obtain ⟨B, hB⟩ : ∃ B, B = w.heap.size + 1 := ⟨_, rfl⟩
 have HBB := LH hB
 clear hB
 generalize hPo : SpList w (runsOf l) = Post
 have HPo := LH hPo
 clear hPo
 go_enter Tryz.func255, Tryz.ntmps255
 go_wp2_with (at_range; refine wpList_irange rfl _ 248 rfl 3 Tryz.underlying3 Tryz.underlying248 T.s n M rfl HS.out ?_; intro w0 cnt0 hr0 hg0 hs0)
 have HR0 := LH hr0
 have HB0 := LH (grown_none hg0)
 have HS0 := LH hs0
 clear hr0 hg0 hs0
 go_frame
 go_loopw [3] (fun v wr => ∃ (L : Int → Bool) (cnt : Nat) (done rest : List Sp), wr.ownsRow B 286 2 v done.length (spCs done) ∧ B ≤ wr.heap.size ∧ IRange Tryz.prog 3 wr T.s w.heap.size n M L cnt ∧ Below w.heap.size w wr ∧ Part l M L done rest) (fun _ wr => wr.rangeLeft T.s w.heap.size)
 case atStart => exact ⟨_, _, [], runsOf l, ⟨rfl, .inl ⟨rfl, rfl⟩⟩, by rw [HS0.out, HBB.out]; exact Nat.le_refl _, HR0.out, HB0.out, Part.start HMO.out⟩
 case round =>
  obtain ⟨L, cnt, done, rest, ho, hbs, hr, hb, hp⟩ := hrel
  have HR := LH hr
  have HB := LH hb
  have HO := LH ho
  have HP := LH hp
  have HBs := LH hbs
  obtain ⟨a1, c1, rfl, hc1, hm1⟩ := owned_form ho
  clear hr hb hp ho hbs
  go_wp2_with (at_next; refine wpList_inext rfl _ rfl 3 Tryz.underlying3 T.s w.heap.size n M _ _ rfl HR.out ?_ ?_)
  ·intro h0
   have hperm := HP.out.finish h0
   have hlen : done.length = (runsOf l).length := hperm.length_eq
   have hbd : ∀ x ∈ done, x.1 ≤ 1000000000000 := fun x hx => by
    have h1 := ((runsOf_is l).mem x.1 x.2).1 (hperm.mem_iff.1 hx)
    have := runEnds h1
    have := HL.out
    omega
   obtain ⟨xs, hxs⟩ := as_spb done hbd
   have hxl : xs.length = done.length := by rw [← hxs]; simp
   have hdl : done.length ≤ 1000000000000 := by rw [hlen]; have := HRl.out; have := HL.out; unfold runsOf; omega
   have HPm := LH hperm
   have HXs := LH hxs
   have HLen := LH hlen
   have HXl := LH hxl
   clear h0 hperm hlen hbd hxs hxl
   by_cases hd0 : done.length = 0
   ·have hnil : done = [] := List.eq_nil_of_length_eq_zero hd0
    have hrn : runsOf l = [] := List.eq_nil_of_length_eq_zero (by rw [← HLen.out]; exact hd0)
    have HRn := LH hrn
    subst hnil
    clear hrn hd0
    go_wp2_with (go_at_call 309; refine (show Calls Tryz.prog 309 _ _ _ from AnyF.slices_SortFunc_none (P := Tryz.prog) (ρ := Tryz.sortSp_ren) { Tryz.sortSp with } a1 c1 _ _).mono ?_; rintro e w' ⟨rfl, rfl⟩)
    rw [← HPo.out, HRn.out]
    exact ⟨a1, c1, rfl, .inl rfl, HB.out⟩
   ·obtain ⟨g, c2, he, _, _, hg1, hg2⟩ := owned_some HO.out (by omega)
    cases he
    have HRow := LH (show RowAt wr g 286 (spCs (xs.map (·.1))) by rw [HXs.out]; exact owned_row HO.out)
    go_wp2_with (go_at_call 309; refine (sort_any g c1 xs done.length HXl.out _ HRow.out hdl).mono ?_; rintro e w' ⟨rfl, ys, hyp, hys, hyc, hyg⟩; have HYp := LH hyp; have HYs := LH hys; have HYc := LH hyc; have HYg := LH hyg; clear hyp hys hyc hyg)
    rw [← HPo.out]
    have he : ys.map (·.1) = runsOf l := sorted_runs (done := done) (by rw [← HXs.out]; exact HYp.out.map _) HPm.out HYs.out
    refine ⟨some ⟨g, 0, none⟩, c1, by rw [← HLen.out]; rfl, ?_, ?_⟩
    ·rw [← he]; exact HYc.out
    ·exact HB.out.trans (grown_one HYg.out (by have := HBB.out; omega) HB.out.size)
  ·intro x c w1 cnt1 hwx hwc hL hMx hr1 hlt hg1 hs1 hen
   obtain ⟨s, k, rfl, rfl, _, hp1⟩ := HP.out.step HMO.out hL hMx
   have hP1 := LH hp1
   have HB1 : Hid (Below w.heap.size w w1) := LH (HB.out.trans (grown_one hg1 (Nat.le_refl _) HB.out.size))
   have hob : ∀ g, (Value.slice a1 done.length c1).ownBlock = some g → B ≤ g ∧ g < wr.heap.size := fun g hg => HO.out.lt g hg
   have hO1 := HO.out.kept hg1 (by
    cases hb : (Value.slice a1 done.length c1).ownBlock with
    | none => exact .inl rfl
    | some g => exact .inr (fun e => by have := (hob g hb).1; have := HBB.out; cases e; omega))
   have HO1 := LH hO1
   have HR1 := LH hr1
   have hdl : done.length < 1000000000000 := by
    have h1 := HP.out.perm.length_eq
    have := HRl.out
    have := HL.out
    unfold runsOf at h1
    simp at h1
    omega
   have HBs1 : Hid (B ≤ w1.heap.size) := LH (by have := HBs.out; omega)
   have HLt1 := LH hlt
   have HOb := LH hob
   have hone : Hid (∀ u ∈ (#[Value.int .i64 (s : Int), Value.int .i64 (k : Int)] : Array Value).toList, u.oneCell' = true) := LH (by intro u hu; simp at hu; rcases hu with rfl | rfl <;> rfl)
   clear hL hMx hr1 hlt hg1 hs1 hwx hwc hp1 hO1 hob
   go_wp2_with (at_builtin; refine wpList_append_new (us := #[.int .i64 (s : Int), .int .i64 (k : Int)]) elBsp HO1.out rfl hone.out hdl (by decide) HBs1.out rfl rfl rfl (by simp [Act.eval]) ?_; intro g6 c6 w6 ho6 hg6 hc6 hm6 hb6 hl6; have HO6 := LH ho6; have HG6 := LH hg6; clear ho6 hg6)
   have hrs : some T.s ≠ (Value.slice a1 done.length c1).ownBlock := fun e => by have := (HOb.out T.s e.symm).1; have := HBB.out; have := HLt.out; omega
   have hrr : some w.heap.size ≠ (Value.slice a1 done.length c1).ownBlock := fun e => by have := (HOb.out w.heap.size e.symm).1; have := HBB.out; omega
   have HR6 := LH (HR1.out.kept HG6.out hrs hrr)
   have HB6 : Hid (Below w.heap.size w w6) := LH (below_grownBy HB1.out HO1.out HG6.out (Nat.le_refl _) (by have := HBB.out; omega))
   have hz6 := HG6.out.size
   clear hrs hrr
   go_roundw
   case rel => exact ⟨_, _, done ++ [(s, k)], _, by rw [List.length_append, spCs_append]; exact HO6.out, Nat.le_trans HBs1.out hz6, HR6.out, HB6.out, hP1.out⟩
   case measure => rw [HR6.out.left_eq, HR.out.left_eq]; exact HLt1.out
end Go.Proofs.YtpopbfagliagnaaGreat
namespace Go.Proofs.YtpopbfagliagnaaGreat
open Go.RowKit
set_option maxHeartbeats 1000000 in
theorem bruns_any {w : World} {X : MF} {n B : Nat} {m : Bm} (h : ManAt w X n B m) (hB : B ≤ 1000) :
  Calls Tryz.prog 178 #[.pointer (some ⟨X.m, 0, none⟩)] w (SpList w (runsOf m.free)) := by
 have c1 := h.c1
 have HI := LH (ilist_any h.ix (by rw [h.lenF]; omega))
 clear h
 go_enter Tryz.func178, Tryz.ntmps178
 go_wp2_with fail
 refine HI.out.mono ?_
 rintro e w1 ⟨a, c, rfl, hc, hb⟩
 have HC := LH hc
 have HB := LH hb
 clear hc hb
 go_wp2_with fail
 go_ret
 exact ⟨a, c, rfl, HC.out, HB.out⟩
end Go.Proofs.YtpopbfagliagnaaGreat
namespace Go.Proofs.YtpopbfagliagnaaGreat
open Go.RowKit Go.Maps
theorem rep_result3 {P : Program} {fn : Func} {p u z : Tmp} {ty : TypeId} (h : fn.results = #[.cell p ty, .tmp u, .tmp z]) (tmps : Array Value) (w : World) (g : Nat) (t : TypeId) (cs : Array Value) (fr : Nat × Nat) (d : TypeDesc)
  (hp : tmps.getD p undef = .pointer (some ⟨g, 0, none⟩)) (hg : w.heap[g]? = some (.cells cs t fr))
  (hu : P.underlying ty = some d) (hd : (match d with | .struct _ | .array _ _ => true | _ => false) = true) (hi : (P.info? ty).map (·.size) = some cs.size) :
  (results fn tmps).run P w = .ok (.tuple #[.agg cs, tmps.getD u undef, tmps.getD z undef]) w := by
 have hp' : tmps[p]?.getD undef = .pointer (some ⟨g, 0, none⟩) := by simpa using hp
 simp [results, h, hp', asAddr, run_loadVar_row w g t ty cs fr d hg hu hd hi]
theorem aggRep : Agg Tryz.prog 157 #[.int .i64 0, .int .i64 0, .int .i64 0, .int .i64 0, .int .i64 0, .int .i64 0, .int .i64 0] := ⟨⟨_, Tryz.underlying157, rfl⟩, by kernel_rfl⟩
def zeroRep : Rep := ⟨0, 0, 0, 0, 0, 0, 0⟩
theorem run_isfree {B : Nat} {bm : Bm} (h : BmOk B bm) {s k i : Nat} (hm : (s, k) ∈ runsOf bm.free) (hi : i < k) : 1 ≤ s + i ∧ s + i < B ∧ (bm.list.getD (s + i) default).k = 0 := by
 have hr := ((runsOf_is bm.free).mem s k).1 hm
 exact (h.free (s + i)).1 (hr.2.1 (s + i) (by omega) (by omega))
def WholeIs (m : Al) (B : Nat) (w : World) : Ending → World → Prop := fun e w' => e = .returned (.tuple #[.agg (repTo m (B - 1)).cs.toArray, .int .i64 0, .int .i64 0]) ∧ Below w.heap.size w w'
set_option maxHeartbeats 8000000 in
set_option maxRecDepth 100000 in
theorem cwhole_any {w : World} {A : AF} {n B : Nat} {m : Al} (h : AlAt w A n B m) (hok : AlOk B m) (hlg : LgOk m) (hsn : Snd m.bm.list) (hB1 : 2 ≤ B) (hB : B ≤ 100) :
  Calls Tryz.prog 78 #[valloc A] w (WholeIs m B w) := by
 have HP : Hid (∀ w' (R : Rep), R = repTo m (B - 1) → Below w.heap.size w w' → WholeIs m B w (.returned (.tuple #[.agg R.cs.toArray, .int .i64 0, .int .i64 0])) w') := LH (fun w' R h1 h2 => by subst h1; exact ⟨rfl, h2⟩)
 generalize WholeIs m B w = Post at *
 have HA := LH h
 have HUp := LH (hok.upto.mono (show 512 * B ≤ 900000 by omega))
 have HM0 := LH (Mem.one w zeroRep.cs.toArray 157)
 have c0' := (h.below HM0.out.below).c0
 clear h
 go_enter Tryz.func78, Tryz.ntmps78
 go_upto_region 1 with fail
 rw [show (#[.int .i64 0, .int .i64 0, .int .i64 0, .int .i64 0, .int .i64 0, .int .i64 0, .int .i64 0] : Array Value) = zeroRep.cs.toArray from rfl]
 obtain ⟨q2, hq2⟩ : ∃ q, q = w.heap.size := ⟨_, rfl⟩
 have HQ2 := LH hq2
 rw [← hq2] at HM0 ⊢
 generalize w.alloc _ = w0 at *
 have HA0 := LH (HA.out.below HM0.out.below)
 clear hq2
 go_wp2_with fail
 refine (bgeom_any HA0.out.man).mono ?_
 rintro e w1 ⟨rfl, hb1⟩
 have HM1 := LH ((HM0.out.later hb1).alloc #[.int .i64 (B : Int)] 44)
 have HA1 := LH ((HA0.out.below hb1).below (below_alloc w1 (.cells #[.int .i64 (B : Int)] 44)))
 clear hb1 c0'
 go_upto_region 2 with fail
 obtain ⟨q5, hq5⟩ : ∃ q, q = w1.heap.size := ⟨_, rfl⟩
 rw [← hq5] at HM1 ⊢
 generalize w1.alloc _ = w2 at *
 clear hq5
 have e5 := HM1.out.cell 1 0 rfl rfl
 have r5 := fun x => later_cell e5 x
 refine wp_region_seg (C := fun w' => ∃ x : Later (w2), w' = x.val) [.fl [0, 2], .sq [1] true, .sq [3, 4] false, .fl [5, 6, 7, 8, 9], .sq [10] false] (by kernel_rfl) (by kernel_rfl) (by intro c a d v w h; cases d <;> exact h) ?_
 simp only [segs, picks, List.getElem?_cons_succ, List.getElem?_cons_zero]
 have hC1 := later_drew (w2)
 refine wpSeg_fl hC1 ?_
 repeat (first | go_big_quiet_step (fail) | quiet_step (fail))
 refine wpQuiet_nil ?_
 refine wpSeg_sq (fun K hK => ?_)
 go_wp2_with fail
 refine (adev_any (HA1.out.below (later_below hC1))).mono ?_
 rintro e w3 ⟨rfl, rfl⟩
 go_wp2_with fail
 refine hK _ _ (fun _ => hC1) ?_
 clear hK K
 refine wpSeg_sq (fun K hK => ?_)
 go_wp2_with fail
 refine (cheaders_heap hok.bm hsn (HA1.out.below (later_below hC1)).man.dev (by omega) (by omega)).mono ?_
 rintro e w4 ⟨hb4, g, gc, rfl, hg, hgc, hr4⟩
 have hC2 := later_step hC1 hb4
 have HB4 := LH (later_below hC2)
 have HR4 := LH hr4
 have HG := LH hg
 clear hb4 hr4 hg r5 e5
 go_wp2_with fail
 refine hK _ _ (fun h => nomatch h) ?_
 clear hK K
 refine wpSeg_fl hC2 ?_
 repeat (first | go_big_quiet_step (fail) | quiet_step (fail))
 refine wpQuiet_nil ?_
 refine wpSeg_last ?_
 go_wp2_with fail
 clear hC1 hC2
 have HA4 := LH (HA1.out.below HB4.out)
 have HM4 := LH (HM1.out.later HB4.out)
 clear HB4 HM1 HM0 HA0 HA1
 go_wp2_with fail
 refine (cfree_any HA4.out hok (by omega) (by omega) HUp.out).mono ?_
 rintro e w5 ⟨mp, nn, M, rfl, hmp, hV, hI, hb5⟩
 have HA5 := LH ((HA4.out.below hb5).below (below_alloc w5 (.cells zeroRep.cs.toArray 157)))
 have HM5 := LH ((HM4.out.later hb5).alloc zeroRep.cs.toArray 157)
 have HRp0 : Hid (RepAt (w5.alloc (.cells zeroRep.cs.toArray 157)) w5.heap.size (repTo m 0)) := LH (heap_alloc_new _ _)
 have HG5 : Hid (RowAt (w5.alloc (.cells zeroRep.cs.toArray 157)) g 103 (hdCs (hds (devWord m.bm.dev) B))) := LH (HR4.out.keep (((hb5.trans ((below_alloc w5 (.cells zeroRep.cs.toArray 157)).mono hb5.size))).block g HR4.out.lt))
 have HV5 : Hid (VMap Tryz.prog 3 (w5.alloc (.cells zeroRep.cs.toArray 157)) mp nn M) := LH (hV.block ((below_alloc w5 (.cells zeroRep.cs.toArray 157)).block mp hV.lt))
 have HLt5 : Hid (g < w5.heap.size ∧ mp < w5.heap.size ∧ w.heap.size ≤ w5.heap.size ∧ q2 < w5.heap.size) := LH ⟨Nat.lt_of_lt_of_le HR4.out.lt hb5.size, hV.lt, (HM4.out.later hb5).below.size, (HM4.out.later hb5).glt 0 rfl⟩
 have hLl : (hds (devWord m.bm.dev) B).length = B := hds_length _ _
 have hLa := hds_all hok.bm
 clear hb5 hV hmp HA4 HM4 HR4 HG
 go_upto_region 9 with fail
 rw [show (#[.int .i64 0, .int .i64 0, .int .i64 0, .int .i64 0, .int .i64 0, .int .i64 0, .int .i64 0] : Array Value) = zeroRep.cs.toArray from rfl]
 obtain ⟨q, hq⟩ : ∃ q, q = w5.heap.size := ⟨_, rfl⟩
 rw [← hq] at HM5 HRp0 ⊢
 have HQ : Hid (g ≠ q ∧ mp ≠ q ∧ q2 ≠ q ∧ w.heap.size ≤ q) := LH ⟨by have := HLt5.out; omega, by have := HLt5.out; omega, by have := HLt5.out; omega, by have := HLt5.out; omega⟩
 have HrA : Hid (q ∉ A.list) := LH (fun hm => by have := HA.out.mem q hm; have := HQ.out; omega)
 generalize w5.alloc _ = w6 at *
 clear hq HLt5
 have HOb := LH (rep_objects hok hlg (show 1 ≤ B by omega))
 have HFr := LH (rep_free hok hlg (show 1 ≤ B by omega))
 have HOkR := LH (fun j (h : j < B) => (repTo_ok hok j h).mono (show 400000 * j ≤ 100000000 by omega))
 have HOkA := LH hok
 generalize hds (devWord m.bm.dev) B = L at *
 go_wp2_with fail
 go_loopw [11] (fun iv wr => ∃ j : Nat, j + 1 ≤ B ∧ iv = .int .i64 ((j + 1 : Nat) : Int) ∧ Hid (RepAt wr q (repTo m j)) ∧ Hid (Touch [q] w6 wr)) (fun iv _ => B - (intOf iv).toNat)
 case atStart => exact ⟨0, by omega, rfl, HRp0, LH (Touch.refl _ _)⟩
 case round =>
  obtain ⟨j, hj, rfl, HRp, HT⟩ := hrel
  by_cases hlt : j + 1 < B
  ·have hlt' : ((j + 1 : Nat) : Int) < (B : Int) := by omega
   have HAr := LH (HA5.out.keep (fun k hk => HT.out.block k (HA5.out.mem k hk) (by simp; intro e; exact HrA.out (e ▸ hk))))
   have HVr := LH (HV5.out.block (HT.out.block mp HV5.out.lt (by simp; exact HQ.out.2.1)))
   have HCr := LH (HG5.out.keep (HT.out.block g HG5.out.lt (by simp; exact HQ.out.1))).cells
   have HOne := LH (rone_any HAr.out hok (by omega) hlg HVr.out hI HRp.out (HOkR.out j (by omega)) HrA.out (lc := gc) HCr.out hLl hLa (show 1 ≤ j + 1 by omega) hlt)
   clear HAr HVr HCr
   go_wp2_with fail
   refine HOne.out.mono ?_
   rintro e w7 ⟨rfl, hr7, ht7⟩
   have HR7 : Hid (RepAt w7 q (repTo m (j + 1))) := LH hr7
   have HT7 := LH (HT.out.trans ht7)
   clear hr7 ht7 HOne
   go_wp2_with fail
   exact ⟨⟨j + 1, by omega, vint (by omega), HR7, HT7⟩, by simp [intOf]; omega⟩
  ·obtain rfl : B = j + 1 := by omega
   have hlt' : decide (((j + 1 : Nat) : Int) < ((j + 1 : Nat) : Int)) = false := by simp
   have HOb' : Hid ((repTo m j).ob = (onesL m.used).length) := LH (by simpa using HOb.out)
   have HFr' : Hid ((repTo m j).fr = sumOf (runsOf m.bm.free)) := LH (by simpa using HFr.out)
   have HP' : Hid (∀ w', Below w.heap.size w w' → Post (.returned (.tuple #[.agg (repTo m j).cs.toArray, .int .i64 0, .int .i64 0])) w') := LH (fun w' h => HP.out w' _ (by simp) h)
   have HAr := LH (HA5.out.keep (fun k hk => HT.out.block k (HA5.out.mem k hk) (by simp; intro e; exact HrA.out (e ▸ hk))))
   have HGr := LH (HG5.out.keep (HT.out.block g HG5.out.lt (by simp; exact HQ.out.1)))
   have HMr := LH (HM5.out.upd 2 (y := ⟨q, 157, (repTo m j).cs, true⟩) rfl rfl HT.out ⟨_, HRp.out, [], by simp, fun _ => rfl⟩)
   have HSm : Hid (sumOf (runsOf m.bm.free) ≤ 200) := LH (Nat.le_trans (sum_le hok.bm) (by omega))
   have HRn := LH (fun s k y (hm : (s, k) ∈ runsOf m.bm.free) (hy : y < k) => run_isfree hok.bm hm hy)
   have hl9 : (runsOf m.bm.free).length ≤ 200 := by
    rw [← spans_runs hok.bm]
    exact Nat.le_trans (spanL_len (freeAt m.bm.list) m.bm.list.length) (by rw [hok.bm.lenL]; omega)
   generalize repTo m j = R at *
   obtain ⟨U, hU⟩ : ∃ U, U = (onesL m.used).length := ⟨_, rfl⟩
   rw [← hU] at HOb'
   have e3 : wr.cell? ⟨q, 3, none⟩ = some (.int .i64 (U : Int)) := by rw [← HOb'.out]; exact HRp.out.cell rfl
   have r3 := fun x => later_cell e3 x
   have HU := LH hU
   clear hlt HT HRp HA5 HG5 HV5 HM5 hU
   go_upto_region 15 with fail
   refine wp_region_seg (C := fun w' => ∃ x : Later (wr), w' = x.val) [.fl [0, 1, 2], .sq [3] true, .fl [4], .sq [5] false] (by kernel_rfl) (by kernel_rfl) (by intro c a d v w h; cases d <;> exact h) ?_
   simp only [segs, picks, List.getElem?_cons_succ, List.getElem?_cons_zero]
   have hC1 := later_drew (wr)
   refine wpSeg_fl hC1 ?_
   repeat (first | go_big_quiet_step (fail) | quiet_step (fail))
   refine wpQuiet_nil ?_
   refine wpSeg_sq (fun K hK => ?_)
   go_wp2_with fail
   refine (aobjects_any (HAr.out.below (later_below hC1))).mono ?_
   intro e w8 hp
   obtain ⟨au, cu, rfl, hcu, hb8, _⟩ := hp.own
   rw [← HU.out]
   have hC2 := later_step hC1 hb8
   have HB8 := LH (later_below hC2)
   clear hp hcu hb8 r3 e3
   go_wp2_with fail
   refine hK _ _ (fun _ => hC2) ?_
   clear hK K
   refine wpSeg_fl hC2 ?_
   repeat (first | go_big_quiet_step (fail) | quiet_step (fail))
   refine wpQuiet_nil ?_
   have HA8 := LH (HAr.out.below HB8.out)
   have HG8 := LH (HGr.out.keep (HB8.out.block g HGr.out.lt))
   have HM8 := LH (HMr.out.later HB8.out)
   have c0 := HA8.out.c0
   clear HAr HGr HMr HB8 hC1 hC2
   refine wpSeg_last ?_
   go_wp2_with fail
   refine (bruns_any HA8.out.man (by omega)).mono ?_
   rintro e w9 ⟨a1, c1, rfl, hc1, hb9⟩
   have HC := LH hc1
   have HG9 := LH (HG8.out.keep (hb9.block g HG8.out.lt))
   have HM9 := LH (HM8.out.later hb9)
   clear hc1 hb9 c0 HA8 HG8 HM8
   generalize runsOf m.bm.free = Rs at *
   obtain ⟨l, hl⟩ : ∃ l, l = Rs.length := ⟨_, rfl⟩
   rw [← hl] at hl9 ⊢
   have HL := LH hl
   clear hl
   have HLe : Hid (∀ i, sumOf (Rs.take i) ≤ 200) := LH (fun i => by
    refine Nat.le_trans ?_ HSm.out
    conv => rhs; rw [← List.take_append_drop i Rs]
    unfold sumOf
    rw [List.map_append, List.sum_append]
    omega)
   have HEl : Hid (∀ s k, (s, k) ∈ Rs → k ≤ 200) := LH (fun s k hm => Nat.le_trans (sum_memF hm) HSm.out)
   go_wp2_with fail
   go_loopw [14, 79] (fun nv iv wq => ∃ i x : Nat, i ≤ l ∧ x ≤ 200 ∧ nv = .int .i64 (x : Int) ∧ iv = .int .i64 (i : Int) ∧ Hid (x = sumOf (Rs.take i)) ∧ Hid (Below w9.heap.size w9 wq)) (fun _ iv _ => l - (intOf iv).toNat)
   case atStart => exact ⟨0, 0, Nat.zero_le _, Nat.zero_le _, rfl, rfl, LH rfl, LH (Below.refl _ _)⟩
   case round =>
    obtain ⟨i, x, hi, hx, rfl, rfl, HX, HB⟩ := hrel
    by_cases hlt : i < l
    ·have hlt' : (i : Int) < (l : Int) := by omega
     obtain ⟨⟨s, k⟩, hg⟩ : ∃ o, Rs[i]? = some o := ⟨_, List.getElem?_eq_getElem (by rw [← HL.out]; exact hlt)⟩
     have hgd : Rs.getD i (0, 0) = (s, k) := by rw [List.getD_eq_getElem?_getD, hg]; rfl
     have hmm := List.mem_of_getElem? hg
     have hk := HEl.out s k hmm
     have HRi := LH (fun y (hy : y < k) => HRn.out s k y hmm hy)
     have HNx : Hid (sumOf (Rs.take (i + 1)) = x + k) := LH (by
      have h1 := (List.getElem?_eq_some_iff.1 hg).1
      rw [List.take_succ_eq_append_getElem h1, (List.getElem?_eq_some_iff.1 hg).2, HX.out]
      unfold sumOf
      rw [List.map_append, List.sum_append]
      simp)
     have hxk : x + k ≤ 200 := by rw [← HNx.out]; exact HLe.out _
     obtain ⟨b1, o1, rfl, e0, e1⟩ := sp_cells (HC.out.below HB.out (Nat.le_refl _)) (by rw [← HL.out]; exact hlt) hgd
     have HMa := LH (Mem.one wr #[.int .i64 (s : Int), .int .i64 (k : Int)] 286)
     clear hg hgd hmm
     go_upto_region 21 with fail
     generalize wr.alloc _ = wa at *
     obtain ⟨qs, hqs⟩ : ∃ qs, qs = wr.heap.size := ⟨_, rfl⟩
     rw [← hqs] at HMa ⊢
     have d0 := HMa.out.cell 0 0 rfl rfl
     have d1 := HMa.out.cell 0 1 rfl rfl
     have HSp : Hid (qs < wa.heap.size) := LH (HMa.out.glt 0 rfl)
     have HBa := LH (HB.out.trans (HMa.out.below.mono HB.out.size))
     clear e0 e1 HB HMa hqs
     go_wp2_with fail
     go_loopw [89] (fun yv wq => ∃ y : Nat, y ≤ k ∧ yv = .int .i64 (y : Int) ∧ Hid (Below wa.heap.size wa wq)) (fun yv _ => k - (intOf yv).toNat)
     case atStart => exact ⟨0, Nat.zero_le _, rfl, LH (Below.refl _ _)⟩
     case round =>
      obtain ⟨y, hy, rfl, HBy⟩ := hrel
      by_cases hly : y < k
      ·have hly' : (y : Int) < (k : Int) := by omega
       obtain ⟨f1, f2, f3⟩ := HRi.out y hly
       have HGy := LH ((HG9.out.keep (HBa.out.block g HG9.out.lt)).keep (HBy.out.block g (Nat.lt_of_lt_of_le HG9.out.lt HBa.out.size)))
       obtain ⟨hh, hhe⟩ : ∃ hh, hh = L.getD (s + y) default := ⟨_, rfl⟩
       have hh0 : hh.k = 0 := by rw [hhe, hLa _ f1]; exact f3
       obtain ⟨hk1, hc1, hl1⟩ := hh
       have hk0 : hk1 = 0 := hh0
       subst hk0
       obtain ⟨b2, o2, he2, g0, _, _⟩ := hd_cells HGy.out.cells (j := s + y) (by rw [hLl]; exact f2) hhe.symm
       injection he2 with he2
       injection he2 with he2 he3 _
       subst he2 he3
       rw [Nat.zero_add] at g0
       obtain ⟨z, hz⟩ : ∃ z, z = s + y := ⟨_, rfl⟩
       rw [← hz] at g0 f2
       have hzI : (s : Int) + (y : Int) = (z : Int) := by omega
       have hzB : (z : Int) < (j : Int) + 1 := by omega
       have c0 : wr.cell? ⟨qs, 0, none⟩ = some (.int .i64 (s : Int)) := by rw [HBy.out.cell (p := ⟨qs, 0, none⟩) HSp.out]; exact d0
       clear hhe hh0 hz
       go_wp2_with fail
       refine ⟨⟨y + 1, by omega, vint (by omega), HBy⟩, ?_⟩
       simp [intOf]; omega
      ·obtain rfl : y = k := by omega
       have hly' : decide ((y : Int) < (y : Int)) = false := by simp
       have HBz := LH (HBa.out.trans (HBy.out.mono HBa.out.size))
       go_wp2_with fail
       refine ⟨⟨i + 1, x + y, by omega, hxk, vint (by omega), vint (by omega), LH HNx.out.symm, HBz⟩, ?_⟩
       simp [intOf]; omega
    ·obtain rfl : i = l := by omega
     have hlt2 : decide ((i : Int) < (i : Int)) = false := by simp
     have hxF : x = R.fr := by rw [HX.out, HL.out, List.take_length, HFr'.out]
     have HMe := LH (HM9.out.later HB.out)
     have e0 : wr.cell? ⟨q, 0, none⟩ = some (.int .i64 (x : Int)) := by rw [hxF]; exact HMe.out.cell 2 0 rfl rfl
     clear hxF
     go_wp2_with (first
      | (refine wpList_load_mem aggRep HMe.out 2 rfl rfl rfl rfl rfl ?_)
      | (refine wpList_store_mem aggRep HMe.out 0 rfl rfl rfl rfl rfl rfl rfl rfl ?_; intro w6 h6 ht6; have H6 := LH h6; clear h6 ht6))
     refine bodyPost_ret (rep_result3 (p := 2) (u := 3) (z := 4) rfl _ _ _ _ _ _ _ rfl (H6.out.exact 0 rfl) Tryz.underlying157 rfl (by kernel_rfl)) rfl ?_
     exact HP'.out _ H6.out.below
section
variable {w wr w' : World} {Q : List Nat} {A : AF} {n n' B N N' : Nat} {m m' : Al}
end
theorem repTo_al0 {B : Nat} (hB2 : 2 ≤ B) (hB : B ≤ 100) : ∀ b, b < B → repTo (al0 B) b = ⟨b, 0, 0, 0, 0, 0, 0⟩
 | 0, _ => rfl
 | b + 1, h => by
  have hk : ((al0 B).bm.list.getD (b + 1) default).k = 0 := by
   rw [al0_list hB2 hB, List.getD_eq_getElem?_getD, List.getElem?_replicate]
   split <;> rfl
  unfold repTo Rep.one
  rw [if_pos hk, repTo_al0 hB2 hB b (by omega)]
set_option maxHeartbeats 4000000 in
set_option maxRecDepth 100000 in
theorem awake28_any (w : World) : Calls Tryz.prog 43 #[] w (Gives (.bool true) w) := by
 have HP : Hid (∀ w', Below w.heap.size w w' → Gives (.bool true) w (.returned (.bool true)) w') := LH (fun w' h => ⟨rfl, h⟩)
 generalize Gives (.bool true) w = Post at *
 go_enter Tryz.func43, Tryz.ntmps43
 go_wp2_with fail
 refine (begun20_any 4 (by omega) (by omega) _).mono ?_
 rintro e w1 ⟨A, n, rfl, ha, hn, hA, hb⟩
 have hh := Hq.begun (by omega) (by omega) ha hA (Below.refl w.heap.size w) hb (Q := []) (by simp)
 have HB1 := LH hb
 have HM1 := LH (Mem.one w1 #[valloc A, vdev A.X.F, .slice none 0 0] 132)
 have HH := LH (hh.later HM1.out.below)
 have HB2 : Hid (Below w.heap.size w (w1.alloc (.cells #[valloc A, vdev A.X.F, .slice none 0 0] 132))) := LH (hb.trans (HM1.out.below.mono hb.size))
 clear ha hA hb hh hn HB1
 go_upto_region 2 with fail
 obtain ⟨p, hp⟩ : ∃ p, p = w1.heap.size := ⟨_, rfl⟩
 rw [← hp] at HM1 ⊢
 generalize w1.alloc _ = w2 at *
 clear hp
 have c0 := HM1.out.cell 0 0 rfl rfl
 go_wp2_with fail
 refine (cwhole_any HH.out.at_ HH.out.ok HH.out.lg HH.out.snd (by omega) (by omega)).mono ?_
 rintro e w3 ⟨rfl, hb3⟩
 have HR : Hid (repTo (al0 4) (4 - 1) = ⟨3, 0, 0, 0, 0, 0, 0⟩) := LH (repTo_al0 (by omega) (by omega) 3 (by omega))
 rw [HR.out, show (Rep.cs ⟨3, 0, 0, 0, 0, 0, 0⟩).toArray = #[.int .i64 3, .int .i64 0, .int .i64 0, .int .i64 0, .int .i64 0, .int .i64 0, .int .i64 0] from rfl]
 have HB3 := LH (HB2.out.trans (hb3.mono HB2.out.size))
 have HM3 := LH (Mem.one w3 #[.int .i64 3, .int .i64 0, .int .i64 0, .int .i64 0, .int .i64 0, .int .i64 0, .int .i64 0] 157)
 have HB4 : Hid (Below w.heap.size w (w3.alloc (.cells #[.int .i64 3, .int .i64 0, .int .i64 0, .int .i64 0, .int .i64 0, .int .i64 0, .int .i64 0] 157))) := LH (HB3.out.trans (HM3.out.below.mono HB3.out.size))
 clear hb3 c0
 go_upto_region 5 with fail
 obtain ⟨q, hq⟩ : ∃ q, q = w3.heap.size := ⟨_, rfl⟩
 rw [← hq] at HM3 ⊢
 generalize w3.alloc _ = w4 at *
 clear hq
 have d0 := HM3.out.cell 0 0 rfl rfl
 have d1 := HM3.out.cell 0 1 rfl rfl
 have d2 := HM3.out.cell 0 2 rfl rfl
 have d3 := HM3.out.cell 0 3 rfl rfl
 have d4 := HM3.out.cell 0 4 rfl rfl
 have d5 := HM3.out.cell 0 5 rfl rfl
 have d6 := HM3.out.cell 0 6 rfl rfl
 go_wp2_with fail
 exact HP.out _ HB4.out
end Go.Proofs.YtpopbfagliagnaaGreat
namespace Go.Proofs.YtpopbfagliagnaaGreat
open Go.RowKit
theorem elBl : Elem Tryz.prog 36 4 (.bool false) 1 1 := Elem.mk' Tryz.underlying36 (by kernel_rfl) rfl (by decide)
theorem setTo_row {w : World} {g e : Nat} {l : List Bool} {s : Nat} {v : Bool} {k : Nat} (h : RowAt w g e ((setTo l s v k).map Value.bool)) (hk : s + k < l.length) : RowAt (w.setCell ⟨g, s + k, none⟩ (.bool v)) g e ((setTo l s v (k + 1)).map Value.bool) := by
 have := h.set (s + k) (by rw [List.length_map, setTo_length]; exact hk) (.bool v)
 rw [setTo, List.map_set]
 exact this
set_option maxHeartbeats 4000000 in
set_option maxRecDepth 100000 in
theorem rsound12_any (a : Option Addr) (n cap : Nat) (L : List Hd) (hn : L.length = n) (hn1 : 1 ≤ n) (hl : n ≤ 1000) (w : World) (hc : Cells w a (hdCs L)) :
  Calls Tryz.prog 138 #[.slice a n cap] w (Gives (.int .i64 (soundN L n 1 : Nat)) w) := by
 have HP : Hid (∀ (z : Nat) w', z = soundN L n 1 → Below w.heap.size w w' → Gives (.int .i64 (soundN L n 1 : Nat)) w (.returned (.int .i64 (z : Int))) w') := LH (fun z w' h1 h2 => by subst h1; exact ⟨rfl, h2⟩)
 generalize Gives (.int .i64 (soundN L n 1 : Nat)) w = Post at *
 have HC := LH hc
 have HN := LH hn
 clear hc hn
 go_enter Tryz.func138, Tryz.ntmps138
 go_upto_region 2 with (at_make; refine wpList_make_len elBl w.heap.size n rfl rfl rfl (by omega) (by decide) (Nat.le_refl _) rfl rfl rfl rfl ?_; intro w2 hown hgrow; have HO := LH hown; have HG := LH hgrow; clear hown hgrow)
 have HB2 : Hid (Below w.heap.size w w2) := LH (below_grown HG.out (Nat.le_refl _))
 have hr0 := owned_row HO.out
 obtain ⟨g, hg⟩ : ∃ g, g = w.heap.size := ⟨_, rfl⟩
 rw [← hg] at hr0 ⊢
 have HR2 : Hid (RowAt w2 g 4 ((List.replicate n false).map Value.bool)) := LH (by rw [List.map_replicate]; simpa using hr0)
 have HGw : Hid (w.heap.size ≤ g) := LH (Nat.le_of_eq hg.symm)
 clear hr0 hg HO HG
 go_wp2_with fail
 go_loopw [4] (fun iv wr => ∃ (b e f : Nat) (T : List Bool), 1 ≤ b ∧ b ≤ e ∧ e ≤ n ∧ n ≤ e + f ∧ iv = .int .i64 (b : Int) ∧ Hid (soundN L n 1 = soundN L f e) ∧ T.length = n ∧ Hid (∀ i, b ≤ i → fb T i = decide (i < e)) ∧ Hid (∀ i, b ≤ i → i < e → (L.getD i default).k = 3) ∧ Hid (RowAt wr g 4 (T.map Value.bool)) ∧ Hid (Below w.heap.size w wr)) (fun iv _ => n - (intOf iv).toNat)
 case atStart =>
  exact ⟨1, 1, n, List.replicate n false, Nat.le_refl _, Nat.le_refl _, hn1, by omega, rfl, LH rfl, List.length_replicate, LH (fun i hi => by
   unfold fb
   rw [List.getD_eq_getElem?_getD, List.getElem?_replicate, decide_eq_false (by omega)]
   split <;> rfl), LH (fun i h1 h2 => by omega), HR2, HB2⟩
 case round =>
  obtain ⟨b, e, f, T, hb1, hbe, hen, hef, rfl, HS, hTl, HT, HK, HR, HB⟩ := hrel
  by_cases hlt : b < n
  ·have hlt' : (b : Int) < (n : Int) := by omega
   obtain ⟨k, c, z, he⟩ := hdGetD L b
   obtain ⟨b1, o1, rfl, d0, _, _⟩ := hd_cells (HC.out.below HB.out (Nat.le_refl _)) (by rw [HN.out]; exact hlt) he
   have hTb : fb T b = decide (b < e) := HT.out b (Nat.le_refl _)
   have hKb : b < e → k = 3 := fun h => by have := HK.out b (Nat.le_refl _) h; rw [he] at this; exact this
   have ht0 : wr.cell? ⟨g, b, none⟩ = some (.bool (decide (b < e))) := by
    refine HR.out.cell ?_
    rw [List.getElem?_map, List.getElem?_eq_getElem (by rw [hTl]; exact hlt), Option.map_some, ← hTb]
    unfold fb
    rw [List.getD_eq_getElem?_getD, List.getElem?_eq_getElem (by rw [hTl]; exact hlt)]
    rfl
   have hSucc : b = e → ∃ f', f = f' + 1 := fun h => ⟨f - 1, by omega⟩
   by_cases h2 : k = 2
   ·subst h2
    obtain rfl : b = e := by
     rcases Nat.lt_or_ge b e with h | h
     ·exact absurd (hKb h) (by decide)
     ·omega
    obtain ⟨f, rfl⟩ := hSucc rfl
    have hSt : soundN L (f + 1) b = if wholeN L b = 0 then b else soundN L f (b + wholeN L b) := by
     rw [soundN, if_neg (by rw [HN.out]; omega), if_pos (by rw [he])]
    have HSt : Hid (soundN L n 1 = if wholeN L b = 0 then b else soundN L f (b + wholeN L b)) := LH (HS.out.trans hSt)
    have HFi := LH (fun (h : wholeN L b ≠ 0) => wholeN_fits h)
    have HWh := LH (rwhole_any (some ⟨b1, o1, none⟩) n cap L HN.out wr (HC.out.below HB.out (Nat.le_refl _)) hl b hlt)
    rw [decide_eq_false (Nat.lt_irrefl b)] at ht0
    clear hSt hSucc hKb hTb he
    generalize wholeN L b = q at *
    go_wp2_with fail
    refine HWh.out.mono ?_
    rintro e w3 ⟨rfl, hb3⟩
    have HB3 := LH (HB.out.trans (hb3.mono HB.out.size))
    have HR3 := LH (HR.out.keep (hb3.block g HR.out.lt))
    have t3 : w3.cell? ⟨g, b, none⟩ = some (.bool false) := by rw [hb3.cell (p := ⟨g, b, none⟩) HR.out.lt]; exact ht0
    clear hb3 d0 ht0 HWh
    by_cases hq : q = 0
    ·have hq' : ((q : Int) == 0) = true := by simp [hq]
     have HFin := LH (HP.out b w3 (by rw [HSt.out, if_pos hq]) HB3.out)
     subst hq
     go_wp2_with fail
     exact HFin.out
    ·have hq' : ((q : Int) == 0) = false := by rw [beq_eq_false_iff_ne]; omega
     have HF := LH (HFi.out hq)
     have hfit : b + q ≤ n := by rw [← HN.out]; exact HF.out.2.2.2.1
     go_wp2_with fail
     go_loopw [6] (fun yv wq => ∃ y : Nat, y ≤ q ∧ yv = .int .i64 (y : Int) ∧ Hid (RowAt wq g 4 ((setTo T b true y).map Value.bool)) ∧ Hid (Below w.heap.size w wq)) (fun yv _ => q - (intOf yv).toNat)
     case atStart => exact ⟨0, Nat.zero_le _, rfl, HR3, HB3⟩
     case round =>
      obtain ⟨y, hy, rfl, HRy, HBy⟩ := hrel
      by_cases hly : y < q
      ·have hly' : (y : Int) < (q : Int) := by omega
       obtain ⟨x, hx⟩ : ∃ x, x = b + y := ⟨_, rfl⟩
       have hxI : (b : Int) + (y : Int) = (x : Int) := by omega
       have hxn : (x : Int) < (n : Int) := by omega
       obtain ⟨u, hu⟩ : ∃ u, ((setTo T b true y).map Value.bool)[x]? = some u := ⟨_, List.getElem?_eq_getElem (by rw [List.length_map, setTo_length]; omega)⟩
       have e0 : wr.cell? ⟨g, x, none⟩ = some u := HRy.out.cell hu
       have e1 : wr.frozen? ⟨g, x, none⟩ = false := HRy.out.frozen _
       have HSt2 : Hid (RowAt (wr.setCell ⟨g, x, none⟩ (.bool true)) g 4 ((setTo T b true (y + 1)).map Value.bool)) := LH (by rw [hx]; exact setTo_row HRy.out (by omega))
       have HBt := LH (HBy.out.setCell (p := ⟨g, x, none⟩) HGw.out (.bool true))
       clear hu hx
       go_wp2_with fail
       refine ⟨⟨y + 1, by omega, vint (by omega), HSt2, HBt⟩, ?_⟩
       simp [intOf]; omega
      ·obtain rfl : y = q := by omega
       have hly' : decide ((y : Int) < (y : Int)) = false := by simp
       have HTy : Hid (∀ i, b + 1 ≤ i → fb (setTo T b true y) i = decide (i < b + y)) := LH (fun i hi => by
        rw [setTo_fb _ _ _ _ (by rw [hTl]; exact hfit)]
        by_cases h : b ≤ i ∧ i < b + y
        ·rw [if_pos h, decide_eq_true h.2]
        ·rw [if_neg h, HT.out i (by omega), decide_eq_false (by omega), decide_eq_false (by omega)])
       have HKy : Hid (∀ i, b + 1 ≤ i → i < b + y → (L.getD i default).k = 3) := LH (fun i h1 h2 => by
        have := HF.out.2.2.2.2 (i - b) (by omega) (by omega)
        rw [show b + (i - b) = i by omega] at this
        rw [this])
       have HSy : Hid (soundN L n 1 = soundN L f (b + y)) := LH (by rw [HSt.out, if_neg hq])
       go_wp2_with fail
       refine ⟨⟨b + 1, b + y, f, setTo T b true y, by omega, by omega, hfit, by omega, vint (by omega), HSy, by rw [setTo_length]; exact hTl, HTy, HKy, HRy, HBy⟩, ?_⟩
       simp [intOf]; omega
   by_cases h3 : k = 3
   ·subst h3
    by_cases hbl : b < e
    ·rw [decide_eq_true hbl] at ht0
     have HT' : Hid (∀ i, b + 1 ≤ i → fb T i = decide (i < e)) := LH (fun i hi => HT.out i (by omega))
     have HK' : Hid (∀ i, b + 1 ≤ i → i < e → (L.getD i default).k = 3) := LH (fun i h1 h2 => HK.out i (by omega) h2)
     clear hSucc hKb hTb he
     go_wp2_with fail
     refine ⟨⟨b + 1, e, f, T, by omega, by omega, hen, hef, vint (by omega), HS, hTl, HT', HK', HR, HB⟩, ?_⟩
     simp [intOf]; omega
    ·obtain rfl : b = e := by omega
     obtain ⟨f, rfl⟩ := hSucc rfl
     rw [decide_eq_false (Nat.lt_irrefl b)] at ht0
     have HFin := LH (HP.out b wr (by rw [HS.out, soundN, if_neg (by rw [HN.out]; omega), if_neg (by rw [he]; show ¬ ((3 : Int) = 2); decide), if_pos (by rw [he])]) HB.out)
     clear hSucc hKb hTb he
     go_wp2_with fail
     exact HFin.out
   ·have h2' : (k == 2) = false := by simpa using h2
    have h3' : (k == 3) = false := by simpa using h3
    obtain rfl : b = e := by
     rcases Nat.lt_or_ge b e with h | h
     ·exact absurd (hKb h) h3
     ·omega
    obtain ⟨f, rfl⟩ := hSucc rfl
    have HS' : Hid (soundN L n 1 = soundN L f (b + 1)) := LH (by rw [HS.out, soundN, if_neg (by rw [HN.out]; omega), if_neg (by rw [he]; exact h2), if_neg (by rw [he]; exact h3)])
    have HT' : Hid (∀ i, b + 1 ≤ i → fb T i = decide (i < b + 1)) := LH (fun i hi => by rw [HT.out i (by omega), decide_eq_false (by omega), decide_eq_false (by omega)])
    have HK' : Hid (∀ i, b + 1 ≤ i → i < b + 1 → (L.getD i default).k = 3) := LH (fun i h1 h2 => by omega)
    clear hSucc hKb hTb he
    go_wp2_with fail
    refine ⟨⟨b + 1, b + 1, f, T, by omega, by omega, by omega, by omega, vint (by omega), HS', hTl, HT', HK', HR, HB⟩, ?_⟩
    simp [intOf]; omega
  ·obtain rfl : b = n := by omega
   have hlt' : decide ((b : Int) < (b : Int)) = false := by simp
   obtain rfl : b = e := by omega
   have HFin := LH (HP.out 0 wr (by
    rw [HS.out]
    cases f with
    | zero => rfl
    | succ f => rw [soundN, if_pos (by rw [HN.out]; omega)]) HB.out)
   go_wp2_with fail
   exact HFin.out
def RhPost (S : Dev) (B : Nat) (w : World) : Ending → World → Prop := fun en w' => Below w.heap.size w w' ∧
  ((GoodTo S B ∧ soundN (hds (devWord S) B) B 1 = 0 ∧ ∃ g c, en = .returned (.tuple #[.slice (some ⟨g, 0, none⟩) B c, .int .i64 0, .int .i64 0]) ∧ w.heap.size ≤ g ∧ B ≤ c ∧ RowAt w' g 101 (hdCs (hds (devWord S) B))) ∨
   (∃ b : Nat, 1 ≤ b ∧ b < B ∧ GoodTo S b ∧ ¬ HdGood S b ∧ en = .returned (.tuple #[.slice none 0 0, .int .i64 b, .int .i64 21])) ∨
   (GoodTo S B ∧ ∃ z : Nat, soundN (hds (devWord S) B) B 1 = z ∧ z ≠ 0 ∧ en = .returned (.tuple #[.slice none 0 0, .int .i64 (z : Int), .int .i64 40])))
set_option maxHeartbeats 4000000 in
set_option maxRecDepth 100000 in
theorem rheaders28_any {w : World} {v : Value} {S : Dev} {m : Nat} (h : RAt w v m S.ref) (hm : m ≤ 100000) (B : Nat) (hB1 : 1 ≤ B) (hB : B ≤ 1000) :
  Calls Tryz.prog 50 #[v, .int .i64 (B : Int)] w (RhPost S B w) := by
 have HP1 : Hid (∀ w' g c, GoodTo S B → soundN (hds (devWord S) B) B 1 = 0 → w.heap.size ≤ g → B ≤ c → RowAt w' g 101 (hdCs (hds (devWord S) B)) → Below w.heap.size w w' → RhPost S B w (.returned (.tuple #[.slice (some ⟨g, 0, none⟩) B c, .int .i64 0, .int .i64 0])) w') := LH (fun w' g c h1 h2 h3 h4 h5 h6 => ⟨h6, .inl ⟨h1, h2, g, c, rfl, h3, h4, h5⟩⟩)
 have HP2 : Hid (∀ w' (b : Nat), 1 ≤ b → b < B → GoodTo S b → ¬ HdGood S b → Below w.heap.size w w' → RhPost S B w (.returned (.tuple #[.slice none 0 0, .int .i64 (b : Int), .int .i64 21])) w') := LH (fun w' b h1 h2 h3 h4 h5 => ⟨h5, .inr (.inl ⟨b, h1, h2, h3, h4, rfl⟩)⟩)
 have HP3 : Hid (∀ w' (z : Nat), GoodTo S B → soundN (hds (devWord S) B) B 1 = z → z ≠ 0 → Below w.heap.size w w' → RhPost S B w (.returned (.tuple #[.slice none 0 0, .int .i64 (z : Int), .int .i64 40])) w') := LH (fun w' z h1 h2 h3 h4 => ⟨h4, .inr (.inr ⟨h1, z, h2, h3, rfl⟩)⟩)
 generalize RhPost S B w = Post at *
 obtain ⟨an, cn, al, cl, aw, cw, ad, cd, ap, cp, rfl, hcn, hcl, _⟩ := h.ex
 have HN := LH (show Cells w an (S.cache.map vu64) from hcn)
 have HLa := LH (show Cells w al (S.lasting.map vu64) from hcl)
 have HlN := LH (show S.cache.length = 8 * m from h.lenN)
 have HlL := LH (show S.lasting.length = 8 * m from h.lenL)
 have HuN := LH (show ∀ z ∈ S.cache, z < 18446744073709551616 from h.u64N)
 generalize S.ref.steps = st at *
 generalize S.ref.fuse = fz at *
 generalize S.ref.dead = dd at *
 clear h hcn hcl
 have HM := LH (Mem.one w #[.slice an m cn, .slice al m cl, .slice aw m cw, .slice ad m cd, .slice ap m cp, .int .i64 st, .int .i64 fz, .bool dd] 38)
 go_enter Tryz.func50, Tryz.ntmps50
 go_upto_region 1 with fail
 obtain ⟨q, hq⟩ : ∃ q, q = w.heap.size := ⟨_, rfl⟩
 rw [← hq] at HM ⊢
 generalize w.alloc _ = w0 at *
 clear hq
 have HB0 := LH HM.out.below
 go_wp2_with (refine wpList_load_mem aggRd HM.out 0 rfl rfl rfl rfl rfl ?_)
 refine (rread_any an m cn S.cache _ _ _ _ _ _ _ w0 (HN.out.below HB0.out (Nat.le_refl _)) HlN.out hm HuN.out B hB1 hB).mono ?_
 rintro e w1 ⟨hb1, hpost⟩
 obtain ⟨lv, bv, ec, k, rfl, hk1, hkB, hAk, hcase⟩ : ∃ (lv : Value) (bv ec : Int) (k : Nat), e = .returned (.tuple #[lv, .int .i64 bv, .int .i64 ec]) ∧ 1 ≤ k ∧ k ≤ B ∧ AllOk (devWord S) k ∧
   ((ec = 0 ∧ k = B ∧ ∃ g c, lv = .slice (some ⟨g, 0, none⟩) B c ∧ w0.heap.size ≤ g ∧ B ≤ c ∧ RowAt w1 g 101 (hdCs (hds (devWord S) B))) ∨ (ec = 21 ∧ bv = (k : Int) ∧ k < B ∧ (decN k (devWord S k)).code ≠ 0)) := by
  rcases hpost with ⟨h1, g, c, he, h2, h3, h4⟩ | ⟨b, h1, h2, h3, h4, he⟩
  ·exact ⟨_, 0, 0, B, he, hB1, Nat.le_refl _, h1, .inl ⟨rfl, rfl, g, c, rfl, h2, h3, h4⟩⟩
  ·exact ⟨_, b, 21, b, he, h1, by omega, h3, .inr ⟨rfl, rfl, h2, h4⟩⟩
 have HB1 := LH (HB0.out.trans (hb1.mono HB0.out.size))
 have HW0 := LH HB0.out.size
 have HM1 := LH (HM.out.later hb1)
 have HCa := LH hcase
 have HAk := LH hAk
 clear hb1 hpost hcase hAk HB0 HM
 go_upto_if 20 with fail
 go_cut [1] from 12 (fun kv wc => kv = .int .i64 (k : Int) ∧ wc = w1)
 case first =>
  rcases HCa.out with ⟨h0, h1, _⟩ | ⟨h0, h1, _⟩
  ·subst h0 h1
   go_wp2_with fail
   go_meet
   exact ⟨rfl, rfl⟩
  ·subst h0 h1
   go_wp2_with fail
   go_meet
   exact ⟨rfl, rfl⟩
 case rest =>
  obtain ⟨rfl, rfl⟩ := hcut
  have HN1 := LH (HN.out.below HB1.out (Nat.le_refl _))
  have HL1 := LH (HLa.out.below HB1.out (Nat.le_refl _))
  have HGn := LH (fun i (w' : World) (h : Below wc.heap.size wc w') => rget_any an m cn S.cache w' (HN1.out.below h (Nat.le_refl _)) HlN.out (by omega) i)
  have HGl := LH (fun i (w' : World) (h : Below wc.heap.size wc w') => rget_any al m cl S.lasting w' (HL1.out.below h (Nat.le_refl _)) HlL.out (by omega) i)
  go_wp2_with fail
  go_loopw [10] (fun iv wr => ∃ i : Nat, 1 ≤ i ∧ i ≤ k ∧ iv = .int .i64 (i : Int) ∧ Hid (GoodTo S i) ∧ Hid (Below wc.heap.size wc wr)) (fun iv _ => k - (intOf iv).toNat)
  case atStart => exact ⟨1, Nat.le_refl _, hk1, rfl, LH (fun b h1 h2 => by omega), LH (Below.refl _ _)⟩
  case round =>
   obtain ⟨i, hi1, hik, rfl, HGd, HB⟩ := hrel
   by_cases hlt : i < k
   ·have hlt' : (i : Int) < (k : Int) := by omega
    have HMr := LH (HM1.out.later HB.out)
    have e0 := HMr.out.cell 0 0 rfl rfl
    have e1 := HMr.out.cell 0 1 rfl rfl
    have r0 := fun x => later_cell e0 x
    have r1 := fun x => later_cell e1 x
    have HGs : Hid (peek S.lasting (256 + (i : Int)) = peek S.cache (256 + (i : Int)) → GoodTo S (i + 1)) := LH (fun he => HGd.out.succ ⟨HAk.out i hi1 hlt, he⟩)
    have HNs : Hid (peek S.lasting (256 + (i : Int)) ≠ peek S.cache (256 + (i : Int)) → ¬ HdGood S i) := LH (fun he hg => he hg.2)
    have HCn := LH (HGn.out (256 + (i : Int)))
    have HCl := LH (HGl.out (256 + (i : Int)))
    generalize peek S.lasting (256 + (i : Int)) = pl at *
    generalize peek S.cache (256 + (i : Int)) = pn at *
    clear e0 e1
    go_upto_region 7 with fail
    refine wp_region_seg (C := fun w' => ∃ x : Later (wr), w' = x.val) [.fl [0, 1, 2, 3, 5, 6, 7, 8], .sq [4] true, .sq [9, 10] false] (by kernel_rfl) (by kernel_rfl) (by intro c a d v w h; cases d <;> exact h) ?_
    simp only [segs, picks, List.getElem?_cons_succ, List.getElem?_cons_zero]
    have hC1 := later_drew (wr)
    refine wpSeg_fl hC1 ?_
    repeat (first | go_big_quiet_step (fail) | quiet_step (fail))
    refine wpQuiet_nil ?_
    have HBd : Hid (Below wc.heap.size wc wr.drew) := LH (HB.out.trans ((later_below hC1).mono HB.out.size))
    clear r0 r1
    refine wpSeg_sq (fun K hK => ?_)
    go_wp2_with fail
    refine (HCl.out _ HBd.out).mono ?_
    rintro e w3 ⟨rfl, rfl⟩
    go_wp2_with fail
    refine hK _ _ (fun _ => hC1) ?_
    clear hK K
    by_cases he : pl = pn
    ·subst he
     have HG2 := LH (HGs.out rfl)
     refine wpSeg_last ?_
     go_wp2_with fail
     refine (HCn.out _ HBd.out).mono ?_
     rintro e w3 ⟨rfl, rfl⟩
     go_wp2_with fail
     refine ⟨⟨i + 1, by omega, by omega, vint (by omega), HG2, HBd⟩, ?_⟩
     simp [intOf]; omega
    ·have heI : ((pl : Int) == (pn : Int)) = false := by rw [beq_eq_false_iff_ne]; omega
     have HFin := LH (HP2.out wr.drew i hi1 (by omega) HGd.out (HNs.out he) (HB1.out.trans (HBd.out.mono HB1.out.size)))
     refine wpSeg_last ?_
     go_wp2_with fail
     refine (HCn.out _ HBd.out).mono ?_
     rintro e w3 ⟨rfl, rfl⟩
     go_wp2_with fail
     go_ret3
     exact HFin.out
   ·obtain rfl : i = k := by omega
    have hlt' : decide ((i : Int) < (i : Int)) = false := by simp
    have HBr := LH (HB1.out.trans (HB.out.mono HB1.out.size))
    rcases HCa.out with ⟨h0, h1, g, c, rfl, hg, hgc, hr⟩ | ⟨h0, h1, h2, h3⟩
    ·subst h0 h1
     have HRg := LH (hr.keep (HB.out.block g hr.lt))
     have HLn : Hid ((hds (devWord S) i).length = i) := LH (hds_length _ _)
     have HSd := LH (rsound12_any (some ⟨g, 0, none⟩) i c (hds (devWord S) i) HLn.out hi1 hB wr HRg.out.cells)
     have hg0 : w.heap.size ≤ g := Nat.le_trans HW0.out hg
     clear hr hg HCa
     go_wp2_with fail
     refine HSd.out.mono ?_
     rintro e w4 ⟨rfl, hb4⟩
     have HB4 := LH (HBr.out.trans (hb4.mono HBr.out.size))
     have HR4 := LH (HRg.out.keep (hb4.block g HRg.out.lt))
     obtain ⟨z, hz⟩ : ∃ z, z = soundN (hds (devWord S) i) i 1 := ⟨_, rfl⟩
     have HZ := LH hz
     rw [← hz]
     clear hb4 hz
     by_cases hz0 : z = 0
     ·subst hz0
      have HFin := LH (HP1.out w4 g c HGd.out HZ.out.symm hg0 hgc HR4.out HB4.out)
      go_wp2_with fail
      go_ret3
      exact HFin.out
     ·have hz' : ((z : Int) == 0) = false := by rw [beq_eq_false_iff_ne]; omega
      have HFin := LH (HP3.out w4 z HGd.out HZ.out.symm hz0 HB4.out)
      go_wp2_with fail
      go_ret3
      exact HFin.out
    ·subst h0 h1
     have HFin := LH (HP2.out wr i hi1 h2 HGd.out (fun hg => h3 hg.1) HBr.out)
     go_wp2_with fail
     go_ret3
     exact HFin.out
end Go.Proofs.YtpopbfagliagnaaGreat
namespace Go.Proofs.YtpopbfagliagnaaGreat
open Go.RowKit Go.ChangeShapes Go.WideShapes Go.Deep
theorem wf_bounds {x : Int} (h : (Lit.int .i64 x).wf = true) : -9223372036854775808 ≤ x ∧ x ≤ 9223372036854775807 := by
 simp [Lit.wf, IntKind.min, IntKind.max, IntKind.bits, IntKind.signed] at h
 omega
theorem list_of {α : Type} (P : Nat → α → Prop) : ∀ n, (∀ i, i < n → ∃ x, P i x) → ∃ l : List α, l.length = n ∧ ∀ i x, l[i]? = some x → P i x
 | 0, _ => ⟨[], rfl, by simp⟩
 | n + 1, h => by
  obtain ⟨l, hl, hp⟩ := list_of P n (fun i hi => h i (by omega))
  obtain ⟨x, hx⟩ := h n (by omega)
  refine ⟨l ++ [x], by simp [hl], fun i y hy => ?_⟩
  by_cases hi : i < l.length
  ·rw [List.getElem?_append_left hi] at hy; exact hp i y hy
  ·rw [List.getElem?_append_right (by omega)] at hy
   have h0 : i - l.length = 0 := by
    have := (List.getElem?_eq_some_iff.1 hy).1; simp at this; omega
   rw [h0] at hy
   simp at hy
   subst hy
   rw [show i = n by omega]; exact hx
section
variable {H : Type} {enc : TypeId × Value → H} {P : Program} {w : World} {base : Nat} {spare : Nat → Bool} {held : Bool}
theorem ints_struct {e T : TypeId} {fs : Array Field} {n fuel : Nat} {us : List Value} {z : DataW H × List MemPlace} (he : P.underlying e = some (.struct fs)) (hT : P.underlying T = some (.int .i64)) (hc : P.cellsOf T = 1)
  (hF : ((List.range n).all fun j => match fs[j]? with | some f => f.type == T && f.offset == j | none => false) = true) (hlen : us.length = n) (hz : DataW.trod enc P w base spare held fuel e us = some z) :
  ∃ zs : List Int, zs.length = n ∧ us = zs.map (Value.int .i64) ∧ ∀ x ∈ zs, -9223372036854775808 ≤ x ∧ x ≤ 9223372036854775807 := by
 obtain ⟨ys, n', _, _, _, hyl, hf⟩ := DataW.trod_struct he hz
 have each : ∀ j, j < n → ∃ x : Int, us[j]? = some (.int .i64 x) ∧ (-9223372036854775808 ≤ x ∧ x ≤ 9223372036854775807) := by
  intro j hj
  have h1 := List.all_eq_true.1 hF j (List.mem_range.2 hj)
  cases hfj : fs[j]? with
  | none => rw [hfj] at h1; cases h1
  | some f =>
   rw [hfj] at h1
   simp only [Bool.and_eq_true, beq_iff_eq] at h1
   have h2 := hf j f hfj
   rw [h1.1, h1.2, hc] at h2
   have hjs : j < ys.length := by rw [hyl]; exact (Array.getElem?_eq_some_iff.1 hfj).1
   rw [List.getElem?_eq_getElem hjs] at h2
   have hju : j < us.length := by omega
   have h3 : (us.drop j).take 1 = [us[j]] := by rw [List.drop_eq_getElem_cons hju]; rfl
   rw [h3] at h2
   obtain ⟨x, hx, _, hw⟩ := DataW.trod_int hT h2
   have hx' : us[j] = .int .i64 x := by simpa using hx
   exact ⟨x, by rw [List.getElem?_eq_getElem hju, hx'], wf_bounds hw⟩
 obtain ⟨zs, hl, hp⟩ := list_of (fun j x => us[j]? = some (.int .i64 x) ∧ (-9223372036854775808 ≤ x ∧ x ≤ 9223372036854775807)) n each
 refine ⟨zs, hl, ?_, fun x hx => ?_⟩
 ·apply List.ext_getElem?
  intro i
  by_cases hi : i < zs.length
  ·rw [(hp i _ (List.getElem?_eq_getElem hi)).1, List.getElem?_map, List.getElem?_eq_getElem hi]; rfl
  ·rw [List.getElem?_eq_none (by omega), List.getElem?_eq_none (by simp; omega)]
 ·obtain ⟨i, hi, rfl⟩ := List.mem_iff_getElem.1 hx
  exact (hp i _ (List.getElem?_eq_getElem hi)).2
theorem recs_ints_read {α : Type} {f : α → List Value} {n : Nat} (hfl : ∀ x, (f x).length = n) (hn : 0 < n) (d : α) (mk : List Int → α) (hmk : ∀ zs : List Int, zs.length = n → f (mk zs) = zs.map (Value.int .i64))
  {t e T : TypeId} {fs : Array Field} {fuel : Nat} {v : Value} {y : DataW H × List MemPlace} (ht : P.underlying t = some (.slice e)) (he : P.underlying e = some (.struct fs)) (hT : P.underlying T = some (.int .i64)) (hC : P.cellsOf e = n) (hc : P.cellsOf T = 1)
  (hF : ((List.range n).all fun j => match fs[j]? with | some f => f.type == T && f.offset == j | none => false) = true) (h : DataW.trod enc P w base spare held fuel t [v] = some y) :
  ∃ (a : Option Addr) (len cap : Nat) (l : List α), v = .slice a len cap ∧ l.length = len ∧ Cells w a (recs f l) ∧ (∀ o ∈ l, ∃ zs : List Int, o = mk zs ∧ zs.length = n ∧ ∀ x ∈ zs, -9223372036854775808 ≤ x ∧ x ≤ 9223372036854775807) ∧ len ≤ maxLen := by
 obtain ⟨a, len, cap, m, rfl, hl, hm, hcs⟩ := elems_read ht hC hn h
 rcases hcs with rfl | ⟨b, off, rfl, hcs⟩
 ·exact ⟨a, 0, cap, [], rfl, rfl, Cells.nil _ _, by simp, Nat.zero_le _⟩
 ·have each : ∀ i, i < len → ∃ x : α, (∀ r u, (f x)[r]? = some u → w.cell? ⟨b, off + i * n + r, none⟩ = some u) ∧ ∃ zs : List Int, x = mk zs ∧ zs.length = n ∧ ∀ x ∈ zs, -9223372036854775808 ≤ x ∧ x ≤ 9223372036854775807 := by
   intro i hi
   obtain ⟨us, z, hlen, hat, hz⟩ := hcs i hi
   obtain ⟨zs, h1, h2, h3⟩ := ints_struct he hT hc hF hlen hz
   exact ⟨mk zs, fun r u hr => by rw [hmk zs h1, ← h2] at hr; exact hat r u hr, zs, rfl, h1, h3⟩
  obtain ⟨l, hll, hcl, hok⟩ := recs_of hfl hn d each
  exact ⟨_, len, cap, l, rfl, hll, hcl, hok, by omega⟩
end
end Go.Proofs.YtpopbfagliagnaaGreat
namespace Go.Proofs.YtpopbfagliagnaaGreat
open Go.RowKit Go.ChangeShapes Go.WideShapes
section
variable {H : Type} {enc : TypeId × Value → H} {P : Program} {w : World} {base b0 : Nat} {r : Reach} {spare : Nat → Bool} {held : Bool}
end
end Go.Proofs.YtpopbfagliagnaaGreat
namespace Go.Proofs.YtpopbfagliagnaaGreat
open Go.RowKit Go.ChangeShapes Go.WideShapes Go.Deep
section
variable {H : Type} {enc : TypeId × Value → H} {P : Program} {w : World} {base : Nat} {spare : Nat → Bool} {held : Bool}
theorem wf_u16 {x : Int} (h : (Lit.int .u16 x).wf = true) : 0 ≤ x ∧ x ≤ 65535 := by
 simp [Lit.wf, IntKind.min, IntKind.max, IntKind.bits, IntKind.signed] at h
 omega
theorem u16s_array {e T : TypeId} {n fuel : Nat} {us : List Value} {z : DataW H × List MemPlace} (he : P.underlying e = some (.array n T)) (hT : P.underlying T = some (.int .u16)) (hc : P.cellsOf T = 1)
  (hlen : us.length = n) (hz : DataW.trod enc P w base spare held fuel e us = some z) :
  ∃ zs : List Int, zs.length = n ∧ us = zs.map (Value.int .u16) ∧ ∀ x ∈ zs, 0 ≤ x ∧ x ≤ 65535 := by
 obtain ⟨ys, m, _, _, _, hyl, hf⟩ := DataW.trod_array he hz
 have each : ∀ j, j < n → ∃ x : Int, us[j]? = some (.int .u16 x) ∧ (0 ≤ x ∧ x ≤ 65535) := by
  intro j hj
  have h2 := hf j hj
  rw [hc, Nat.mul_one] at h2
  have hjs : j < ys.length := by omega
  have hju : j < us.length := by omega
  have h3 : (us.drop j).take 1 = [us[j]] := by rw [List.drop_eq_getElem_cons hju]; rfl
  rw [h3, List.getElem?_eq_getElem hjs] at h2
  obtain ⟨x, hx, _, hw⟩ := DataW.trod_int hT h2
  have hx' : us[j] = .int .u16 x := by simpa using hx
  exact ⟨x, by rw [List.getElem?_eq_getElem hju, hx'], wf_u16 hw⟩
 obtain ⟨zs, hl, hp⟩ := list_of (fun j x => us[j]? = some (.int .u16 x) ∧ (0 ≤ x ∧ x ≤ 65535)) n each
 refine ⟨zs, hl, ?_, fun x hx => ?_⟩
 ·apply List.ext_getElem?
  intro i
  by_cases hi : i < zs.length
  ·rw [(hp i _ (List.getElem?_eq_getElem hi)).1, List.getElem?_map, List.getElem?_eq_getElem hi]; rfl
  ·rw [List.getElem?_eq_none (by omega), List.getElem?_eq_none (by simp; omega)]
 ·obtain ⟨i, hi, rfl⟩ := List.mem_iff_getElem.1 hx
  exact (hp i _ (List.getElem?_eq_getElem hi)).2
theorem recs_u16s_read {α : Type} {f : α → List Value} {n : Nat} (hfl : ∀ x, (f x).length = n) (hn : 0 < n) (d : α) (mk : List Int → α) (hmk : ∀ zs : List Int, zs.length = n → f (mk zs) = zs.map (Value.int .u16))
  {t e T : TypeId} {fuel : Nat} {v : Value} {y : DataW H × List MemPlace} (ht : P.underlying t = some (.slice e)) (he : P.underlying e = some (.array n T)) (hT : P.underlying T = some (.int .u16)) (hC : P.cellsOf e = n) (hc : P.cellsOf T = 1)
  (h : DataW.trod enc P w base spare held fuel t [v] = some y) :
  ∃ (a : Option Addr) (len cap : Nat) (l : List α), v = .slice a len cap ∧ l.length = len ∧ Cells w a (recs f l) ∧ (∀ o ∈ l, ∃ zs : List Int, o = mk zs ∧ zs.length = n ∧ ∀ x ∈ zs, 0 ≤ x ∧ x ≤ 65535) ∧ len ≤ maxLen := by
 obtain ⟨a, len, cap, m, rfl, hl, hm, hcs⟩ := elems_read ht hC hn h
 rcases hcs with rfl | ⟨b, off, rfl, hcs⟩
 ·exact ⟨a, 0, cap, [], rfl, rfl, Cells.nil _ _, by simp, Nat.zero_le _⟩
 ·have each : ∀ i, i < len → ∃ x : α, (∀ r u, (f x)[r]? = some u → w.cell? ⟨b, off + i * n + r, none⟩ = some u) ∧ ∃ zs : List Int, x = mk zs ∧ zs.length = n ∧ ∀ x ∈ zs, 0 ≤ x ∧ x ≤ 65535 := by
   intro i hi
   obtain ⟨us, z, hlen, hat, hz⟩ := hcs i hi
   obtain ⟨zs, h1, h2, h3⟩ := u16s_array he hT hc hlen hz
   exact ⟨mk zs, fun r u hr => by rw [hmk zs h1, ← h2] at hr; exact hat r u hr, zs, rfl, h1, h3⟩
  obtain ⟨l, hll, hcl, hok⟩ := recs_of hfl hn d each
  exact ⟨_, len, cap, l, rfl, hll, hcl, hok, by omega⟩
end
structure U2 where
 a : Int
 b : Int
def U2.cs (o : U2) : List Value := [.int .u16 o.a, .int .u16 o.b]
theorem U2.len (o : U2) : (U2.cs o).length = 2 := rfl
theorem two_u16 (zs : List Int) (h : zs.length = 2) : (U2.cs ⟨zs.getD 0 0, zs.getD 1 0⟩) = zs.map (Value.int .u16) := by
 match zs, h with
 | [x, y], _ => rfl
end Go.Proofs.YtpopbfagliagnaaGreat
