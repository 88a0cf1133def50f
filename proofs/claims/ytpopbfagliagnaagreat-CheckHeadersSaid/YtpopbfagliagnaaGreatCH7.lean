/- Parts of the proof, one behind the other: Zq, En, Eo, Ep, Eq, Er, Cm, Fc, Fd, So, Fe, Ff, Df, Fg, Fh, Es, Yf, Zw, Qv, Zl, Oa, St, Et, Eu, Ev, Rx, Ry, Uf, Ew, Wa, Ex, Fa, Fb, Wb, Ey, We. -/
import Derived.Test.YtpopbfagliagnaaGreatCH6
import Derived.Deep.Cut
import Derived.WideKeyEntry
import Derived.Shelf.Sort.Plain
import Derived.Shelf.Slices.In.SortNone
import Derived.Test.YtpopbfagliagnaaGreatProg
import Derived.Shelf.SlicesE.DeleteFunc
import Derived.Lib.SliceRun
import Derived.BigQuiet
import Derived.Lib.ItoaNum
import Derived.Lib.ItoaLen
import Derived.Lib.SplitLaws
import Derived.Deep.CutBlock
import Derived.RangeFuncNested
import Derived.RangeFuncBound
import Derived.RangeFuncCalls
import Derived.RangeFuncLeaves
import Derived.RangeFuncBox
import Derived.Shelf.Abstract
import Derived.WalkKit
import Derived.OwnWalkIn
import Derived.TacticsInMore
import Derived.LoopNIn
import Derived.LoopIn
import Derived.Maps.AppendAt
set_option linter.unusedVariables false
namespace Go.Proofs.YtpopbfagliagnaaGreat
open Go.RowKit
def blockOf (B a : Int) : Int := if a < 0 ∨ B * 512 ≤ a then -1 else a / 512
set_option maxHeartbeats 1000000 in
theorem gblockOf_any (B : Nat) (hB : B ≤ 1000) (a : Int) (w : World) : Calls Tryz.prog 169 #[vgeom (B : Int), .int .i64 a] w fun e w' => e = .returned (.int .i64 (blockOf (B : Int) a)) ∧ Below w.heap.size w w' := by
 have HB := LH (below_alloc w (Obj.cells #[.int .i64 (B : Int)] 44))
 have c0 : (w.alloc (Obj.cells #[.int .i64 (B : Int)] 44)).cell? ⟨w.heap.size, 0, none⟩ = some (.int .i64 (B : Int)) := cell_alloc_new _ _ _ 0 _ rfl
 by_cases h1 : a < 0
 ·have HE : Hid (blockOf (B : Int) a = -1) := LH (by unfold blockOf; rw [if_pos (.inl h1)])
  go_enter Tryz.func169, Tryz.ntmps169
  go_wp2_with fail
  go_ret
  exact ⟨ret_int HE.out.symm, HB.out⟩
 by_cases h2 : (B : Int) * 512 ≤ a
 ·have HE : Hid (blockOf (B : Int) a = -1) := LH (by unfold blockOf; rw [if_pos (.inr h2)])
  go_enter Tryz.func169, Tryz.ntmps169
  go_wp2_with fail
  refine (gwords_any _ _ (by omega) (by omega)).mono ?_
  rintro e w1 ⟨rfl, hb1⟩
  have HB1 := LH (HB.out.trans (hb1.mono HB.out.size))
  clear hb1
  go_wp2_with fail
  go_ret
  exact ⟨ret_int HE.out.symm, HB1.out⟩
 have HE : Hid (blockOf (B : Int) a = a / 512) := LH (by unfold blockOf; rw [if_neg (by omega)])
 have h3 : 0 ≤ a := by omega
 have h4 : a < (B : Int) * 512 := by omega
 go_enter Tryz.func169, Tryz.ntmps169
 go_wp2_with fail
 refine (gwords_any _ _ (by omega) (by omega)).mono ?_
 rintro e w1 ⟨rfl, hb1⟩
 have HB1 := LH (HB.out.trans (hb1.mono HB.out.size))
 clear hb1
 go_wp2_with fail
 go_ret
 exact ⟨ret_int HE.out.symm, HB1.out⟩
def firstOf (B b : Int) : Int := if b < 0 ∨ B ≤ b then -1 else b * 512
set_option maxHeartbeats 1000000 in
theorem gfirst_any (B : Nat) (hB : B ≤ 1000) (b : Int) (w : World) : Calls Tryz.prog 185 #[vgeom (B : Int), .int .i64 b] w fun e w' => e = .returned (.int .i64 (firstOf (B : Int) b)) ∧ Below w.heap.size w w' := by
 by_cases h1 : b < 0
 ·have HE : Hid (firstOf (B : Int) b = -1) := LH (by unfold firstOf; rw [if_pos (.inl h1)])
  go_enter Tryz.func185, Tryz.ntmps185
  go_wp2_with fail
  go_ret
  exact ⟨ret_int HE.out.symm, below_alloc _ _⟩
 by_cases h2 : (B : Int) ≤ b
 ·have HE : Hid (firstOf (B : Int) b = -1) := LH (by unfold firstOf; rw [if_pos (.inr h2)])
  go_enter Tryz.func185, Tryz.ntmps185
  go_wp2_with fail
  go_ret
  exact ⟨ret_int HE.out.symm, below_alloc _ _⟩
 have HE : Hid (firstOf (B : Int) b = b * 512) := LH (by unfold firstOf; rw [if_neg (by omega)])
 have h3 : 0 ≤ b := by omega
 have h4 : b < (B : Int) := by omega
 go_enter Tryz.func185, Tryz.ntmps185
 go_wp2_with fail
 go_ret
 exact ⟨ret_int HE.out.symm, below_alloc _ _⟩
set_option maxHeartbeats 1000000 in
theorem gdata_any (B : Nat) (hB : B ≤ 1000) (a : Int) (w : World) : Calls Tryz.prog 260 #[vgeom (B : Int), .int .i64 a] w fun e w' => e = .returned (.bool (decide (1 ≤ blockOf (B : Int) a))) ∧ Below w.heap.size w w' := by
 have HB := LH (below_alloc w (Obj.cells #[.int .i64 (B : Int)] 44))
 go_enter Tryz.func260, Tryz.ntmps260
 go_wp2_with fail
 refine (gblockOf_any B hB a _).mono ?_
 rintro e w1 ⟨rfl, hb1⟩
 have HB1 := LH (HB.out.trans (hb1.mono HB.out.size))
 clear hb1
 go_wp2_with fail
 go_ret
 exact ⟨rfl, HB1.out⟩
def cellAt (B k b i : Int) : Int :=
 if ¬ (0 ≤ k ∧ k < 32) ∨ b < 1 ∨ B ≤ b ∨ i < 0 ∨ (clsCells k : Int) ≤ i then -1 else b * 512 + i * (clsWords k : Int)
set_option maxHeartbeats 4000000 in
set_option maxRecDepth 20000 in
theorem caddr_any (B : Nat) (hB : B ≤ 1000) (k b i : Int) (w : World) : Calls Tryz.prog 262 #[vgeom (B : Int), .int .i64 k, .agg #[.int .i64 b, .int .i64 i]] w fun e w' => e = .returned (.int .i64 (cellAt (B : Int) k b i)) ∧ Below w.heap.size w w' := by
 have HM := LH (Mem.two w #[.int .i64 (B : Int)] 44 #[.int .i64 b, .int .i64 i] 289)
 have HP : Hid (∀ (x : Int) (w' : World), x = cellAt (B : Int) k b i → Below w.heap.size w w' → (fun e w' => e = Ending.returned (.int .i64 (cellAt (B : Int) k b i)) ∧ Below w.heap.size w w') (.returned (.int .i64 x)) w') := LH (fun x w' h1 h2 => by subst h1; exact ⟨rfl, h2⟩)
 generalize (fun e w' => e = Ending.returned (.int .i64 (cellAt (B : Int) k b i)) ∧ Below w.heap.size w w') = Post at *
 have HC : Hid (cellAt (B : Int) k b i = if ¬ (0 ≤ k ∧ k < 32) ∨ b < 1 ∨ (B : Int) ≤ b ∨ i < 0 ∨ (clsCells k : Int) ≤ i then -1 else b * 512 + i * (clsWords k : Int)) := LH rfl
 have hcl : clsCells k ≤ 512 := Nat.div_le_self _ _
 have hwl := clsWords_le k
 generalize cellAt (B : Int) k b i = x at *
 go_enter Tryz.func262, Tryz.ntmps262
 go_upto_region 1 with fail
 generalize (w.alloc _).alloc _ = w0 at *
 obtain ⟨q, hq⟩ : ∃ q, q = w.heap.size := ⟨_, rfl⟩
 rw [← hq] at HM ⊢
 clear hq
 have c0 := HM.out.cell 0 0 rfl rfl
 have c1 := HM.out.cell 1 0 rfl rfl
 have c2 := HM.out.cell 1 1 rfl rfl
 have r0 := fun x => later_cell c0 x
 have r1 := fun x => later_cell c1 x
 have r2 := fun x => later_cell c2 x
 have hpos := fun h => clsWords_pos k h
 by_cases hk : 0 ≤ k ∧ k < 32
 case neg =>
  have HE : Hid (-1 = x) := LH (by rw [HC.out, if_pos (.inl hk)])
  have HK : Hid (decide (0 ≤ k ∧ k < 32) = false) := LH (by simpa using hk)
  have HR : Hid (∀ x : Later w0, Calls Tryz.prog 220 #[.int .i64 k] x.val fun e w' => e = .returned (.bool false) ∧ Below x.val.heap.size x.val w') := LH (fun x => (cright_any k x.val).mono (by rintro e w' ⟨rfl, rfl⟩; rw [HK.out]; exact ⟨rfl, Below.refl _ _⟩))
  clear hk hpos
  refine wp_region_later (by kernel_rfl) (by kernel_rfl) ?_
  repeat (quiet_step ((rename_i x; exact calls_later (HR.out x))))
  refine wpQuiet_nil ?_
  rintro w5 ⟨x5, hx5⟩
  have HM5 := LH (HM.out.later (W' := w5) (by rw [hx5]; exact x5.below))
  clear hx5 c0 c1 c2 r0 r1 r2 HM
  go_wp2_with fail
  exact HP.out _ _ HE.out HM5.out.below
 have HR : Hid (∀ x : Later w0, Calls Tryz.prog 220 #[.int .i64 k] x.val fun e w' => e = .returned (.bool true) ∧ Below x.val.heap.size x.val w') := LH (fun x => (cright_any k x.val).mono (by rintro e w' ⟨rfl, rfl⟩; rw [decide_eq_true hk]; exact ⟨rfl, Below.refl _ _⟩))
 have hp2 := hpos hk
 clear hpos
 by_cases hout : b < 1 ∨ (B : Int) ≤ b ∨ i < 0
 ·have HE : Hid (-1 = x) := LH (by rw [HC.out, if_pos (by rcases hout with h | h | h; exact .inr (.inl h); exact .inr (.inr (.inl h)); exact .inr (.inr (.inr (.inl h))))])
  have hc : b < 1 ∨ (1 ≤ b ∧ (B : Int) ≤ b) ∨ (1 ≤ b ∧ b < (B : Int) ∧ i < 0) := by omega
  clear hout hk
  rcases hc with h1 | ⟨h1, h2⟩ | ⟨h1, h2, h3⟩
  all_goals
   refine wp_region_later (by kernel_rfl) (by kernel_rfl) ?_
   repeat (quiet_step ((rename_i x; exact calls_later (HR.out x))))
   refine wpQuiet_nil ?_
   rintro w5 ⟨x5, hx5⟩
   have HM5 := LH (HM.out.later (W' := w5) (by rw [hx5]; exact x5.below))
   clear hx5 c0 c1 c2 r0 r1 r2 HM
   go_wp2_with fail
   exact HP.out _ _ HE.out HM5.out.below
 have h1 : 1 ≤ b := by omega
 have h2 : b < (B : Int) := by omega
 have h3 : 0 ≤ i := by omega
 clear hout
 obtain ⟨cn, hcn⟩ : ∃ cn, cn = clsCells k := ⟨_, rfl⟩
 have HCl : Hid (∀ x : Later w0, Calls Tryz.prog 279 #[.int .i64 k] x.val fun e w' => e = .returned (.int .i64 (cn : Int)) ∧ Below x.val.heap.size x.val w') := LH (fun x => by rw [hcn]; exact ccells_any k x.val)
 rw [← hcn] at HC hcl
 clear hcn
 by_cases h4 : (cn : Int) ≤ i
 ·have HE : Hid (-1 = x) := LH (by rw [HC.out, if_pos (.inr (.inr (.inr (.inr h4))))])
  clear hk
  refine wp_region_later (by kernel_rfl) (by kernel_rfl) ?_
  repeat (quiet_step ((rename_i x; first | (go_at_call 220; exact calls_later (HR.out x)) | (go_at_call 279; exact calls_later (HCl.out x)))))
  refine wpQuiet_nil ?_
  rintro w5 ⟨x5, hx5⟩
  have HM5 := LH (HM.out.later (W' := w5) (by rw [hx5]; exact x5.below))
  clear hx5 c0 c1 c2 r0 r1 r2 HM
  go_wp2_with fail
  exact HP.out _ _ HE.out HM5.out.below
 ·have h5 : i < (cn : Int) := by omega
  have HE : Hid (x = b * 512 + i * (clsWords k : Int)) := LH (by rw [HC.out, if_neg (by rintro (h | h | h | h | h); exact h hk; omega; omega; omega; exact h4 h)])
  clear h4
  refine wp_region_later (by kernel_rfl) (by kernel_rfl) ?_
  repeat (quiet_step ((rename_i x; first | (go_at_call 220; exact calls_later (HR.out x)) | (go_at_call 279; exact calls_later (HCl.out x)))))
  refine wpQuiet_nil ?_
  rintro w5 ⟨x5, hx5⟩
  have HM5 := LH (HM.out.later (W' := w5) (by rw [hx5]; exact x5.below))
  clear hx5 c0 c1 c2 r0 r1 r2 HM
  go_wp2_with fail
  have c0 := HM5.out.cell 0 0 rfl rfl
  have c1 := HM5.out.cell 1 0 rfl rfl
  have c2 := HM5.out.cell 1 1 rfl rfl
  have r0 := fun x => later_cell c0 x
  have r1 := fun x => later_cell c1 x
  have r2 := fun x => later_cell c2 x
  obtain ⟨wn, hwn⟩ : ∃ wn, wn = clsWords k := ⟨_, rfl⟩
  have HFi : Hid (∀ x : Later w5, Calls Tryz.prog 185 #[vgeom (B : Int), .int .i64 b] x.val fun e w' => e = .returned (.int .i64 (b * 512)) ∧ Below x.val.heap.size x.val w') := LH (fun x => by
   have := gfirst_any B hB b x.val
   rw [show firstOf (B : Int) b = b * 512 by unfold firstOf; rw [if_neg (by omega)]] at this
   exact this)
  have HWo : Hid (∀ x : Later w5, Calls Tryz.prog 261 #[.int .i64 k] x.val fun e w' => e = .returned (.int .i64 (wn : Int)) ∧ Below x.val.heap.size x.val w') := LH (fun x => by rw [hwn]; exact cwords_any k x.val)
  rw [← hwn] at HE hwl hp2
  have hm1 : 0 ≤ i * (wn : Int) := Int.mul_nonneg h3 (by omega)
  have hm2 : i * (wn : Int) ≤ 512 * 256 := Int.mul_le_mul (by omega) (by omega) (by omega) (by omega)
  clear hwn hk
  refine wp_region_later (by kernel_rfl) (by kernel_rfl) ?_
  repeat (quiet_step ((rename_i x; first | (go_at_call 185; exact calls_later (HFi.out x)) | (go_at_call 261; exact calls_later (HWo.out x)))))
  refine wpQuiet_nil ?_
  rintro w6 ⟨x6, hx6⟩
  have HM6 := LH (HM5.out.later (W' := w6) (by rw [hx6]; exact x6.below))
  clear hx6 c0 c1 c2 r0 r1 r2 HM5
  go_wp2_with fail
  have e1 : IntKind.i64.wrap (i * (wn : Int)) = i * (wn : Int) := IntWalk.i64_in _ (by omega)
  have e2 : IntKind.i64.wrap (b * 512 + i * (wn : Int)) = b * 512 + i * (wn : Int) := IntWalk.i64_in _ (by omega)
  refine HP.out _ _ ?_ HM6.out.below
  rw [e1, e2, HE.out]
end Go.Proofs.YtpopbfagliagnaaGreat
namespace Go.Proofs.YtpopbfagliagnaaGreat
open Go.RowKit Go.Maps
theorem cellAt_of {B k b i : Nat} (hk : k < 32) (hb : 1 ≤ b) (hbB : b < B) (hi : i < clsCells k) : cellAt (B : Int) (k : Int) (b : Int) (i : Int) = (cellOf b k i : Nat) := by
 unfold cellAt cellOf
 rw [if_neg (by omega), Int.natCast_add, Int.natCast_mul, Int.natCast_mul]
 omega
theorem nodup_len : ∀ (M : Nat) (l : List Nat), (∀ x ∈ l, x < M) → (∀ a, l.count a ≤ 1) → l.length ≤ M
 | 0, l, h, _ => by
  cases l with
  | nil => simp
  | cons x l => exact absurd (h x (by simp)) (by omega)
 | M + 1, l, h, h1 => by
  have e : l.length = (l.filter (fun x => x == M)).length + (l.filter (fun x => !(x == M))).length := by
   induction l with
   | nil => rfl
   | cons x l ih =>
    have := ih (fun y hy => h y (by simp [hy])) (fun a => Nat.le_trans (List.count_le_count_cons) (h1 a))
    by_cases c : x = M <;> simp [c] <;> omega
  have h2 : (l.filter (fun x => x == M)).length ≤ 1 := by
   rw [← List.countP_eq_length_filter]
   exact h1 M
  have h3 := nodup_len M (l.filter (fun x => !(x == M))) (fun x hx => by
   obtain ⟨g1, g2⟩ := List.mem_filter.1 hx
   have := h x g1
   simp at g2
   omega) (fun a => Nat.le_trans (List.Sublist.count_le a List.filter_sublist) (h1 a))
  omega
theorem AlOk.upto {B : Nat} {m : Al} (h : AlOk B m) : m.fl.upto (512 * B) := by
 have key : ∀ k, k < 32 → ∀ l : List Nat, (∀ a, l.count a ≤ m.fl.cnt k a) → l.length ≤ 512 * B := fun k hk l hl => by
  refine nodup_len _ l (fun x hx => ?_) (fun a => ?_)
  ·have h1 := hl x
   have h2 : 0 < l.count x := List.count_pos_iff.2 hx
   have h3 := h.cells k x hk
   by_cases c : isCell m.bm.list k x ∧ m.used.getD x false = false
   ·have := c.1.2.1
    rw [h.bm.lenL] at this
    exact this
   ·rw [if_neg c] at h3; omega
  ·have h1 := hl a
   have h3 := h.cells k a hk
   split at h3 <;> omega
 intro i hi
 unfold FL.at
 by_cases e : i < 32
 ·rw [if_pos e]
  refine key i e _ (fun a => ?_)
  unfold FL.cnt; omega
 ·rw [if_neg e]
  refine key ((i - 32) % 32) (Nat.mod_lt _ (by decide)) _ (fun a => ?_)
  unfold FL.cnt
  have : (i - 32) / 32 < 4 := by omega
  rcases four this with c | c | c | c <;> rw [c] <;> omega
set_option maxHeartbeats 1000000 in
theorem gfirstN_any (B : Nat) (hB : B ≤ 1000) (b : Nat) (hb : b < B) (w : World) : Calls Tryz.prog 185 #[vgeom (B : Int), .int .i64 (b : Int)] w fun e w' => e = .returned (.int .i64 ((b : Int) * 512)) ∧ Below w.heap.size w w' := by
 have := gfirst_any B hB (b : Int) w
 rw [show firstOf (B : Int) (b : Int) = (b : Int) * 512 by unfold firstOf; rw [if_neg (by omega)]] at this
 exact this
end Go.Proofs.YtpopbfagliagnaaGreat
namespace Go.Proofs.YtpopbfagliagnaaGreat
open Go.RowKit
def begins (k a : Nat) : Bool := decide (a % 512 % clsWords k = 0 ∧ a % 512 / clsWords k < clsCells k)
theorem aggCell : Agg Tryz.prog 289 #[.int .i64 0, .int .i64 0] := ⟨⟨_, Tryz.underlying289, rfl⟩, by kernel_rfl⟩
theorem begins_at {B k a : Nat} (hk : k < 32) (h1 : 512 ≤ a) (h2 : a < 512 * B) : begins k a = decide (cellAt (B : Int) (k : Int) ((a / 512 : Nat) : Int) ((a % 512 / clsWords k : Nat) : Int) = (a : Int)) := by
 have hp := clsWords_pos (k : Int) (by omega)
 unfold begins
 have e := Nat.div_add_mod (a % 512) (clsWords k)
 have hlt := Nat.mod_lt (a % 512) (show 0 < clsWords (k : Int) by omega)
 by_cases hi : a % 512 / clsWords k < clsCells k
 ·have hc := cellAt_of (B := B) hk (b := a / 512) (by omega) (by omega) hi
  rw [hc]
  unfold cellOf
  rw [Nat.mul_comm (clsWords (k : Int))] at e
  generalize a % 512 / clsWords (k : Int) * clsWords (k : Int) = y at *
  generalize hz : a % 512 % clsWords (k : Int) = z at *
  rw [Bool.eq_iff_iff, decide_eq_true_eq, decide_eq_true_eq]
  omega
 ·have hc : cellAt (B : Int) (k : Int) ((a / 512 : Nat) : Int) ((a % 512 / clsWords k : Nat) : Int) = -1 := by
   unfold cellAt
   rw [if_pos]
   exact .inr (.inr (.inr (.inr (by omega))))
  rw [hc, decide_eq_false (fun h => hi h.2), decide_eq_false (by omega)]
def AtPost (k a : Nat) (w : World) : Ending → World → Prop := fun e w' => (∃ x y : Int, e = .returned (.tuple #[.agg #[.int .i64 x, .int .i64 y], .bool (begins k a)])) ∧ Below w.heap.size w w'
set_option maxHeartbeats 2000000 in
set_option maxRecDepth 20000 in
theorem cat_any (B : Nat) (hB : B ≤ 1000) (k a : Nat) (hk : k < 32) (h1 : 512 ≤ a) (h2 : a < 512 * B) (w : World) : Calls Tryz.prog 183 #[vgeom (B : Int), .int .i64 (k : Int), .int .i64 (a : Int)] w (AtPost k a w) := by
 have HM := LH (Mem.two w #[.int .i64 (B : Int)] 44 #[.int .i64 0, .int .i64 0] 289)
 have HP : Hid (∀ (x y : Int) b w', b = begins k a → Below w.heap.size w w' → AtPost k a w (.returned (.tuple #[.agg #[.int .i64 x, .int .i64 y], .bool b])) w') := LH (fun x y b w' h1 h2 => by subst h1; exact ⟨⟨x, y, rfl⟩, h2⟩)
 generalize AtPost k a w = Post at *
 have HBe := LH (begins_at (B := B) hk h1 h2)
 have hp := clsWords_pos (k : Int) (by omega)
 have hbo : blockOf (B : Int) (a : Int) = ((a / 512 : Nat) : Int) := by unfold blockOf; rw [if_neg (by omega)]; omega
 have HData := LH (fun w => gdata_any B hB (a : Int) w)
 have HBlk := LH (fun w => gblockOf_any B hB (a : Int) w)
 rw [hbo] at HData HBlk
 rw [decide_eq_true (show (1 : Int) ≤ ((a / 512 : Nat) : Int) by omega)] at HData
 have HWd := LH (fun w => cwords_any (k : Int) w)
 have HAd := LH (fun w => caddr_any B hB (k : Int) ((a / 512 : Nat) : Int) ((a % 512 / clsWords k : Nat) : Int) w)
 have HRg := LH (fun w => cright_any (k : Int) w)
 rw [decide_eq_true (show (0 : Int) ≤ (k : Int) ∧ (k : Int) < 32 by omega)] at HRg
 have hda : a < 512000 := by omega
 obtain ⟨b, hb⟩ : ∃ b, b = a / 512 := ⟨_, rfl⟩
 obtain ⟨o, ho⟩ : ∃ o, o = a % 512 := ⟨_, rfl⟩
 have ho2 : (a : Int) % 512 = (o : Int) := by omega
 have ho5 : o < 512 := by omega
 rw [← hb] at HBlk HAd HBe
 rw [← ho] at HAd HBe
 obtain ⟨W, hW⟩ : ∃ W, W = clsWords (k : Int) := ⟨_, rfl⟩
 rw [← hW] at HWd HAd HBe hp
 obtain ⟨i, hi⟩ : ∃ i, i = o / W := ⟨_, rfl⟩
 rw [← hi] at HAd HBe
 have hi2 : (o : Int) / (W : Int) = (i : Int) := by rw [hi]; rfl
 have hi3 : i ≤ 512 := by rw [hi]; exact Nat.le_trans (Nat.div_le_self _ _) (by omega)
 generalize cellAt (B : Int) (k : Int) (b : Int) (i : Int) = ca at *
 generalize begins k a = be at *
 clear hbo hb ho hW hi h1 h2
 go_enter Tryz.func183, Tryz.ntmps183
 go_upto_region 1 with fail
 obtain ⟨q, hq⟩ : ∃ q, q = w.heap.size := ⟨_, rfl⟩
 rw [← hq] at HM ⊢
 generalize (w.alloc _).alloc _ = w0 at *
 clear hq
 have c0 := HM.out.cell 0 0 rfl rfl
 go_wp2_with fail
 refine (HRg.out _).mono ?_
 rintro e w1 ⟨rfl, rfl⟩
 go_wp2_with fail
 refine (HData.out _).mono ?_
 rintro e w1 ⟨rfl, hb1⟩
 have HM1 := LH (HM.out.later hb1)
 clear hb1 c0
 have c0 := HM1.out.cell 0 0 rfl rfl
 go_wp2_with fail
 refine (HBlk.out _).mono ?_
 rintro e w2 ⟨rfl, hb2⟩
 have HM2 := LH (HM1.out.later hb2)
 clear hb2 c0
 go_wp2_with fail
 refine (HWd.out _).mono ?_
 rintro e w3 ⟨rfl, hb3⟩
 have HM3 := LH (HM2.out.later hb3)
 clear hb3
 go_upto_region 4 with fail
 have HM4 := LH (HM3.out.alloc #[.int .i64 (b : Int), .int .i64 (i : Int)] 289)
 obtain ⟨q4, hq4⟩ : ∃ q4, q4 = w3.heap.size := ⟨_, rfl⟩
 rw [← hq4] at HM4 ⊢
 generalize w3.alloc _ = w4 at *
 clear hq4
 have d0 := HM4.out.cell 2 0 rfl rfl
 have d1 := HM4.out.cell 2 1 rfl rfl
 have c1 := HM4.out.cell 0 0 rfl rfl
 have hnd := HM4.out.nd
 simp only [List.map_cons, List.map_nil, List.map_append, List.cons_append, List.nil_append, List.nodup_cons, List.mem_cons, List.not_mem_nil, or_false, not_or] at hnd
 have hq1 : q ∉ [q + 1] := by simp
 have hq2 : q4 ∉ [q + 1] := by simp; exact fun e => hnd.2.1 e.symm
 have r0 := fun x => near_cell (L := [q + 1]) d0 hq2 x
 have r1 := fun x => near_cell (L := [q + 1]) d1 hq2 x
 have r2 := fun x => near_cell (L := [q + 1]) c1 hq1 x
 have HT0 : Hid (Touch [q + 1] w4 w4.drew) := LH (Touch.ofBelow (later_below (later_drew w4)))
 have HD0 : Hid (Below w4.heap.size w4 w4.drew) := LH (later_below (later_drew w4))
 have hC1 := near_of HT0.out
 clear d0 d1 c1 hnd hq1 hq2
 refine wp_region_seg (C := fun w' => ∃ x : Near [q + 1] w4, w' = x.val) [.fl [0, 1, 2, 3, 5], .sq [4] true, .fl [6], .sq [7] true, .sq [8] false] (by kernel_rfl) (by kernel_rfl) (by intro c a d v w h; cases d <;> exact h) ?_
 simp only [segs, picks, List.getElem?_cons_succ, List.getElem?_cons_zero]
 refine wpSeg_fl hC1 ?_
 repeat (first | go_big_quiet_step (fail) | quiet_step (fail))
 refine wpQuiet_nil ?_
 clear r0 r1 r2
 generalize w4.drew = w5 at *
 refine wpSeg_sq (fun K hK => ?_)
 go_wp2_with fail
 refine (HAd.out _).mono ?_
 rintro e w6 ⟨rfl, hb6⟩
 have HM6 := LH (HM4.out.later (HD0.out.trans (hb6.mono HD0.out.size)))
 have HT6 : Hid (Touch [q + 1] w4 w6) := LH (HT0.out.later hb6)
 have hC2 := near_of HT6.out
 clear hb6
 go_wp2_with fail
 refine hK _ _ (fun _ => hC2) ?_
 clear hK K
 refine wpSeg_fl hC2 ?_
 repeat (first | go_big_quiet_step (fail) | quiet_step (fail))
 refine wpQuiet_nil ?_
 refine wpSeg_sq (fun K hK => ?_)
 go_wp2_with (refine wpList_store_mem aggCell HM6.out 1 rfl rfl rfl rfl rfl rfl rfl rfl ?_; intro w7 h7 ht7; have H7 := LH h7; have HT7 := LH (HT6.out.trans ht7); clear h7 ht7)
 have hC3 := near_of HT7.out
 go_wp2_with fail
 refine hK _ _ (fun _ => hC3) ?_
 clear hK K
 refine wpSeg_last ?_
 go_wp2_with fail
 refine bodyPost_ret (results_cell_row2 (p := 6) (u := 7) rfl _ _ _ _ _ _ _ rfl (H7.out.exact 1 rfl) Tryz.underlying289 rfl (by kernel_rfl)) rfl ?_
 refine HP.out _ _ _ _ ?_ H7.out.below
 rw [HBe.out]
 rfl
def AtFull (k a : Nat) (w : World) : Ending → World → Prop := fun e w' => (∃ y : Int, e = .returned (.tuple #[.agg #[.int .i64 ((a / 512 : Nat) : Int), .int .i64 y], .bool (begins k a)])) ∧ Below w.heap.size w w'
set_option maxHeartbeats 2000000 in
set_option maxRecDepth 20000 in
theorem cat_full (B : Nat) (hB : B ≤ 1000) (k a : Nat) (hk : k < 32) (h1 : 512 ≤ a) (h2 : a < 512 * B) (w : World) : Calls Tryz.prog 183 #[vgeom (B : Int), .int .i64 (k : Int), .int .i64 (a : Int)] w (AtFull k a w) := by
 have HM := LH (Mem.two w #[.int .i64 (B : Int)] 44 #[.int .i64 0, .int .i64 0] 289)
 have HP : Hid (∀ (x y : Int) b w', b = begins k a → x = ((a / 512 : Nat) : Int) → Below w.heap.size w w' → AtFull k a w (.returned (.tuple #[.agg #[.int .i64 x, .int .i64 y], .bool b])) w') := LH (fun x y b w' h1 h3 h2 => by subst h1; subst h3; exact ⟨⟨y, rfl⟩, h2⟩)
 generalize AtFull k a w = Post at *
 have HBe := LH (begins_at (B := B) hk h1 h2)
 have hp := clsWords_pos (k : Int) (by omega)
 have hbo : blockOf (B : Int) (a : Int) = ((a / 512 : Nat) : Int) := by unfold blockOf; rw [if_neg (by omega)]; omega
 have HData := LH (fun w => gdata_any B hB (a : Int) w)
 have HBlk := LH (fun w => gblockOf_any B hB (a : Int) w)
 rw [hbo] at HData HBlk
 rw [decide_eq_true (show (1 : Int) ≤ ((a / 512 : Nat) : Int) by omega)] at HData
 have HWd := LH (fun w => cwords_any (k : Int) w)
 have HAd := LH (fun w => caddr_any B hB (k : Int) ((a / 512 : Nat) : Int) ((a % 512 / clsWords k : Nat) : Int) w)
 have HRg := LH (fun w => cright_any (k : Int) w)
 rw [decide_eq_true (show (0 : Int) ≤ (k : Int) ∧ (k : Int) < 32 by omega)] at HRg
 have hda : a < 512000 := by omega
 obtain ⟨b, hb⟩ : ∃ b, b = a / 512 := ⟨_, rfl⟩
 have HBq := LH hb
 obtain ⟨o, ho⟩ : ∃ o, o = a % 512 := ⟨_, rfl⟩
 have ho2 : (a : Int) % 512 = (o : Int) := by omega
 have ho5 : o < 512 := by omega
 rw [← hb] at HBlk HAd HBe
 rw [← ho] at HAd HBe
 obtain ⟨W, hW⟩ : ∃ W, W = clsWords (k : Int) := ⟨_, rfl⟩
 rw [← hW] at HWd HAd HBe hp
 obtain ⟨i, hi⟩ : ∃ i, i = o / W := ⟨_, rfl⟩
 rw [← hi] at HAd HBe
 have hi2 : (o : Int) / (W : Int) = (i : Int) := by rw [hi]; rfl
 have hi3 : i ≤ 512 := by rw [hi]; exact Nat.le_trans (Nat.div_le_self _ _) (by omega)
 generalize cellAt (B : Int) (k : Int) (b : Int) (i : Int) = ca at *
 generalize begins k a = be at *
 clear hbo hb ho hW hi h1 h2
 go_enter Tryz.func183, Tryz.ntmps183
 go_upto_region 1 with fail
 obtain ⟨q, hq⟩ : ∃ q, q = w.heap.size := ⟨_, rfl⟩
 rw [← hq] at HM ⊢
 generalize (w.alloc _).alloc _ = w0 at *
 clear hq
 have c0 := HM.out.cell 0 0 rfl rfl
 go_wp2_with fail
 refine (HRg.out _).mono ?_
 rintro e w1 ⟨rfl, rfl⟩
 go_wp2_with fail
 refine (HData.out _).mono ?_
 rintro e w1 ⟨rfl, hb1⟩
 have HM1 := LH (HM.out.later hb1)
 clear hb1 c0
 have c0 := HM1.out.cell 0 0 rfl rfl
 go_wp2_with fail
 refine (HBlk.out _).mono ?_
 rintro e w2 ⟨rfl, hb2⟩
 have HM2 := LH (HM1.out.later hb2)
 clear hb2 c0
 go_wp2_with fail
 refine (HWd.out _).mono ?_
 rintro e w3 ⟨rfl, hb3⟩
 have HM3 := LH (HM2.out.later hb3)
 clear hb3
 go_upto_region 4 with fail
 have HM4 := LH (HM3.out.alloc #[.int .i64 (b : Int), .int .i64 (i : Int)] 289)
 obtain ⟨q4, hq4⟩ : ∃ q4, q4 = w3.heap.size := ⟨_, rfl⟩
 rw [← hq4] at HM4 ⊢
 generalize w3.alloc _ = w4 at *
 clear hq4
 have d0 := HM4.out.cell 2 0 rfl rfl
 have d1 := HM4.out.cell 2 1 rfl rfl
 have c1 := HM4.out.cell 0 0 rfl rfl
 have hnd := HM4.out.nd
 simp only [List.map_cons, List.map_nil, List.map_append, List.cons_append, List.nil_append, List.nodup_cons, List.mem_cons, List.not_mem_nil, or_false, not_or] at hnd
 have hq1 : q ∉ [q + 1] := by simp
 have hq2 : q4 ∉ [q + 1] := by simp; exact fun e => hnd.2.1 e.symm
 have r0 := fun x => near_cell (L := [q + 1]) d0 hq2 x
 have r1 := fun x => near_cell (L := [q + 1]) d1 hq2 x
 have r2 := fun x => near_cell (L := [q + 1]) c1 hq1 x
 have HT0 : Hid (Touch [q + 1] w4 w4.drew) := LH (Touch.ofBelow (later_below (later_drew w4)))
 have HD0 : Hid (Below w4.heap.size w4 w4.drew) := LH (later_below (later_drew w4))
 have hC1 := near_of HT0.out
 clear d0 d1 c1 hnd hq1 hq2
 refine wp_region_seg (C := fun w' => ∃ x : Near [q + 1] w4, w' = x.val) [.fl [0, 1, 2, 3, 5], .sq [4] true, .fl [6], .sq [7] true, .sq [8] false] (by kernel_rfl) (by kernel_rfl) (by intro c a d v w h; cases d <;> exact h) ?_
 simp only [segs, picks, List.getElem?_cons_succ, List.getElem?_cons_zero]
 refine wpSeg_fl hC1 ?_
 repeat (first | go_big_quiet_step (fail) | quiet_step (fail))
 refine wpQuiet_nil ?_
 clear r0 r1 r2
 generalize w4.drew = w5 at *
 refine wpSeg_sq (fun K hK => ?_)
 go_wp2_with fail
 refine (HAd.out _).mono ?_
 rintro e w6 ⟨rfl, hb6⟩
 have HM6 := LH (HM4.out.later (HD0.out.trans (hb6.mono HD0.out.size)))
 have HT6 : Hid (Touch [q + 1] w4 w6) := LH (HT0.out.later hb6)
 have hC2 := near_of HT6.out
 clear hb6
 go_wp2_with fail
 refine hK _ _ (fun _ => hC2) ?_
 clear hK K
 refine wpSeg_fl hC2 ?_
 repeat (first | go_big_quiet_step (fail) | quiet_step (fail))
 refine wpQuiet_nil ?_
 refine wpSeg_sq (fun K hK => ?_)
 go_wp2_with (refine wpList_store_mem aggCell HM6.out 1 rfl rfl rfl rfl rfl rfl rfl rfl ?_; intro w7 h7 ht7; have H7 := LH h7; have HT7 := LH (HT6.out.trans ht7); clear h7 ht7)
 have hC3 := near_of HT7.out
 go_wp2_with fail
 refine hK _ _ (fun _ => hC3) ?_
 clear hK K
 refine wpSeg_last ?_
 go_wp2_with fail
 refine bodyPost_ret (results_cell_row2 (p := 6) (u := 7) rfl _ _ _ _ _ _ _ rfl (H7.out.exact 1 rfl) Tryz.underlying289 rfl (by kernel_rfl)) rfl ?_
 refine HP.out _ _ _ _ ?_ (by rw [HBq.out]) H7.out.below
 rw [HBe.out]
 rfl
end Go.Proofs.YtpopbfagliagnaaGreat
namespace Go.Proofs.YtpopbfagliagnaaGreat
open Go.Maps Go.ChangeMaps Go.MapKept Go.WideElems
section
variable {P : Program} {k e t : TypeId} {w : World} {b n : Nat} {M : Lit → Option Value}
variable {ops : Array Oper} {rest : List Oper} {o : Oper} {a : Act} {Q : Exit → Act → World → Prop}
end
end Go.Proofs.YtpopbfagliagnaaGreat
namespace Go.Proofs.YtpopbfagliagnaaGreat
open Go.RowKit Go.Maps
end Go.Proofs.YtpopbfagliagnaaGreat
namespace Go.Proofs
open Go.Shelf
def Tryz.lays189_ren : Go.Shelf.Ren := ⟨fun | 189 => 222 | 125 => 283 | 257 => 282 | 128 => 328 | 129 => 329 | 294 => 319 | 295 => 320 | 296 => 321 | 297 => 322 | 298 => 323 | 299 => 324 | 216 => 325 | 300 => 326 | 301 => 327 | 328 => 344 | 329 => 345 | 330 => 346 | 331 => 347 | 332 => 348 | 215 => 349 | 343 => 360 | n => n, fun | 28 => 47 | 3 => 3 | 46 => 167 | 0 => 0 | 51 => 231 | 53 => 40 | 4 => 4 | 183 => 408 | 182 => 407 | 131 => 238 | 5 => 5 | 9 => 9 | 218 => 421 | 222 => 424 | 228 => 433 | 229 => 258 | n => n, fun | n => n⟩
theorem Tryz.lays189 : Go.Proofs.Lays.n189 Tryz.prog Tryz.lays189_ren := {
 mixed := by kernel_rfl
 f125 := Tryz.func283.trans (congrArg some (by kernel_rfl))
 f128 := Tryz.func328.trans (congrArg some (by kernel_rfl))
 f129 := Tryz.func329.trans (congrArg some (by kernel_rfl))
 f189 := Tryz.func222.trans (congrArg some (by kernel_rfl))
 f215 := Tryz.func349.trans (congrArg some (by kernel_rfl))
 f216 := Tryz.func325.trans (congrArg some (by kernel_rfl))
 f257 := Tryz.func282.trans (congrArg some (by kernel_rfl))
 f294 := Tryz.func319.trans (congrArg some (by kernel_rfl))
 f295 := Tryz.func320.trans (congrArg some (by kernel_rfl))
 f296 := Tryz.func321.trans (congrArg some (by kernel_rfl))
 f297 := Tryz.func322.trans (congrArg some (by kernel_rfl))
 f298 := Tryz.func323.trans (congrArg some (by kernel_rfl))
 f299 := Tryz.func324.trans (congrArg some (by kernel_rfl))
 f300 := Tryz.func326.trans (congrArg some (by kernel_rfl))
 f301 := Tryz.func327.trans (congrArg some (by kernel_rfl))
 f328 := Tryz.func344.trans (congrArg some (by kernel_rfl))
 f329 := Tryz.func345.trans (congrArg some (by kernel_rfl))
 f330 := Tryz.func346.trans (congrArg some (by kernel_rfl))
 f331 := Tryz.func347.trans (congrArg some (by kernel_rfl))
 f332 := Tryz.func348.trans (congrArg some (by kernel_rfl))
 f343 := Tryz.func360.trans (congrArg some (by kernel_rfl))
 t0 := Tryz.underlying0
 a0 := Tryz.isAgg0
 z0 := Tryz.sizeOf0
 v0 := Tryz.zeroValue0
 t3 := Tryz.underlying3
 a3 := Tryz.isAgg3
 z3 := Tryz.sizeOf3
 v3 := Tryz.zeroValue3
 t4 := Tryz.underlying4
 a4 := Tryz.isAgg4
 z4 := Tryz.sizeOf4
 v4 := Tryz.zeroValue4
 t5 := Tryz.underlying5
 a5 := Tryz.isAgg5
 z5 := Tryz.sizeOf5
 v5 := Tryz.zeroValue5
 t9 := Tryz.underlying9
 a9 := Tryz.isAgg9
 z9 := Tryz.sizeOf9
 v9 := Tryz.zeroValue9
 t28 := Tryz.underlying47
 a28 := Tryz.isAgg47
 z28 := Tryz.sizeOf47
 v28 := Tryz.zeroValue47
 t46 := Tryz.underlying167
 a46 := Tryz.isAgg167
 z46 := Tryz.sizeOf167
 v46 := Tryz.zeroValue167
 t51 := Tryz.underlying231
 a51 := Tryz.isAgg231
 z51 := Tryz.sizeOf231
 v51 := Tryz.zeroValue231
 t53 := Tryz.underlying40
 a53 := Tryz.isAgg40
 z53 := Tryz.sizeOf40
 v53 := Tryz.zeroValue40
 t131 := Tryz.underlying238
 a131 := Tryz.isAgg238
 z131 := Tryz.sizeOf238
 v131 := Tryz.zeroValue238
 t182 := Tryz.underlying407
 a182 := Tryz.isAgg407
 z182 := Tryz.sizeOf407
 v182 := Tryz.zeroValue407
 t183 := Tryz.underlying408
 a183 := Tryz.isAgg408
 z183 := Tryz.sizeOf408
 v183 := Tryz.zeroValue408
 t218 := Tryz.underlying421
 a218 := Tryz.isAgg421
 z218 := Tryz.sizeOf421
 v218 := Tryz.zeroValue421
 t222 := Tryz.underlying424
 a222 := Tryz.isAgg424
 z222 := Tryz.sizeOf424
 v222 := Tryz.zeroValue424
 t228 := Tryz.underlying433
 a228 := Tryz.isAgg433
 z228 := Tryz.sizeOf433
 v228 := Tryz.zeroValue433
 t229 := Tryz.underlying258
 a229 := Tryz.isAgg258
 z229 := Tryz.sizeOf258
 v229 := Tryz.zeroValue258 }
end Go.Proofs
namespace Go.Proofs.YtpopbfagliagnaaGreat
open Go.RowKit Go.Maps Go.Shelf Go.Sort
theorem putCells_front (cur : Array Value) (d : Array Int) (h : d.size ≤ cur.size) : (putCells (Value.int .i64) 0 d cur).toList = d.toList.map (Value.int .i64) ++ cur.toList.drop d.size := by
 apply List.ext_getElem?
 intro k
 unfold putCells
 rw [Array.getElem?_toList, Array.getElem?_mapIdx]
 by_cases hk : k < d.size
 ·rw [List.getElem?_append_left (by simpa using hk), List.getElem?_map, Array.getElem?_toList, Array.getElem?_eq_getElem hk, Array.getElem?_eq_getElem (show k < cur.size by omega)]
  simp [hk]
 ·rw [List.getElem?_append_right (by simpa using hk), List.getElem?_drop]
  have e : d.size + (k - (d.toList.map (Value.int .i64)).length) = k := by simp; omega
  rw [e, Array.getElem?_toList]
  cases cur[k]? with
  | none => rfl
  | some x => simp [hk]
theorem putRow_heap {w : World} {g : Nat} {cur : Array Value} {e : TypeId} {fr : Nat × Nat} (hg : w.heap[g]? = some (.cells cur e fr)) (d : Array Int) (q : Nat) :
  (putRow (Value.int .i64) (Sort.ahead w q) g 0 d).heap[g]? = some (.cells (putCells (Value.int .i64) 0 d cur) e fr) := by
 unfold putRow mapBlock
 simp [Array.getElem?_modify, hg, onCells]
theorem putRow_grown (w : World) (g : Nat) (d : Array Int) (q : Nat) : w.grownBy (putRow (Value.int .i64) (Sort.ahead w q) g 0 d) (some g) := by
 refine ⟨rfl, rfl, rfl, by simp [putRow, mapBlock], fun k hk hne => ?_⟩
 have : ¬ g = k := fun e => hne (by rw [e])
 simp [putRow, mapBlock, Array.getElem?_modify, this]
theorem grow_grown (w : World) (os : Array Obj) : w.grownBy (grow w os) none :=
 ⟨rfl, rfl, rfl, by simp [grow], fun k hk _ => heap_grow_old w os hk⟩
theorem row_put {w : World} {g cap : Nat} {cur : Array Value} (hg : w.heap[g]? = some (.cells cur 3 (0, 0))) (hc : cur.size = cap) (h2 : cap ≤ maxLen) (d : Array Int) (hd : d.size ≤ cap) (q : Nat) (ys : List Nat) (hy : d.toList.take ys.length = ys.map (fun x : Nat => (x : Int))) (hl : ys.length ≤ d.size) :
  OwnI (putRow (Value.int .i64) (Sort.ahead w q) g 0 d) (.slice (some ⟨g, 0, none⟩) ys.length cap) ys := by
 refine .inl ⟨by simp, .inr ⟨g, cap, _, rfl, Nat.zero_le _, putRow_heap hg d q, by omega, h2, by unfold putCells; simp [hc], ?_⟩⟩
 rw [putCells_front _ _ (by omega), Nat.mul_one, List.take_append_of_le_length (by simpa using hl), ← List.map_take, hy, List.map_map]
 rfl
theorem OwnI.row {w : World} {v : Value} {xs : List Nat} (h : OwnI w v xs) (hx : xs ≠ []) : ∃ g cap cur, v = .slice (some ⟨g, 0, none⟩) xs.length cap ∧ w.heap[g]? = some (.cells cur 3 (0, 0)) ∧ xs.length ≤ cap ∧ cap ≤ maxLen ∧ cur.size = cap ∧ rowOf v = some g ∧
  Go.Sort.Holds (Value.int .i64) w g 0 (xs.map (fun x : Nat => (x : Int))).toArray := by
 rcases h with h | ⟨a, _, h⟩
 ·rcases h.2 with ⟨_, h0⟩ | ⟨g, cap, cur, rfl, hb, hg, h1, h2, h3, h4⟩
  ·exact absurd (List.length_eq_zero_iff.1 h0) hx
  ·have hpos : 0 < xs.length := List.length_pos_iff.2 hx
   refine ⟨g, cap, cur, rfl, hg, h1, h2, by omega, ?_, fun j hj => ⟨?_, frozen_of_row _ _ _ _ _ hg⟩⟩
   ·show (if cap = 0 then none else some g) = some g
    rw [if_neg (by omega)]
   ·have hj' : j < xs.length := by simpa using hj
    rw [Nat.zero_add, cell_of_row _ _ j _ _ _ hg]
    have h5 := congrArg (fun l => l[j]?) h4
    rw [Nat.mul_one] at h5
    simp only [List.getElem?_take, if_pos hj', List.getElem?_map, List.getElem?_eq_getElem hj', Option.map_some] at h5
    rw [← Array.getElem?_toList, h5]
    simp [vi, hj']
 ·exact absurd h hx
theorem OwnI.none_val {w : World} {v : Value} (h : OwnI w v []) : ∃ p c, v = .slice p 0 c := by
 obtain ⟨a, c, e, _⟩ := h.cells
 exact ⟨a, c, e⟩
def SortedI (w : World) (v : Value) (xs : List Nat) : Ending → World → Prop := fun e w' => e = .returned (.tuple #[]) ∧ ∃ ys : List Nat, OwnI w' v ys ∧ ys.Pairwise (· ≤ ·) ∧ ys.Perm xs ∧ w.grownBy w' (rowOf v)
theorem sortI_any {w : World} {v : Value} {xs : List Nat} (h : OwnI w v xs) (hl : xs.length ≤ 1000000000) : Calls Tryz.prog 222 #[v] w (SortedI w v xs) := by
 by_cases hx : xs = []
 ·subst hx
  obtain ⟨p, c, rfl⟩ := h.none_val
  refine (Any.slices_Sort_int_none Tryz.lays189 p c w).mono ?_
  rintro e w' ⟨rfl, rfl⟩
  exact ⟨rfl, [], h, List.Pairwise.nil, List.Perm.refl _, grown_self _ _⟩
 ·obtain ⟨g, cap, cur, rfl, hg, h1, h2, h3, h4, hH⟩ := h.row hx
  have hc := Any.slices_Sort_int Tryz.lays189 g 0 cap (xs.map (fun x : Nat => (x : Int))) w hH (Array.getElem?_eq_some_iff.1 hg).1 (by rw [List.length_map]; omega)
  rw [List.length_map] at hc
  refine hc.mono ?_
  rintro e w' ⟨rfl, q, os, rfl⟩
  have hm : (xs.map (fun x : Nat => (x : Int))).mergeSort (fun x y => decide (x ≤ y)) = (xs.mergeSort (fun x y => decide (x ≤ y))).map (fun x : Nat => (x : Int)) := by
   rw [List.map_mergeSort (s := fun x y : Int => decide (x ≤ y)) (fun a _ b _ => by simp)]
  rw [hm]
  have hpm := List.mergeSort_perm xs (fun x y => decide (x ≤ y))
  have hlm : (xs.mergeSort (fun x y => decide (x ≤ y))).length = xs.length := hpm.length_eq
  have hso : (xs.mergeSort (fun x y => decide (x ≤ y))).Pairwise (· ≤ ·) := by
   have := List.pairwise_mergeSort (le := fun x y : Nat => decide (x ≤ y)) (fun a b c h1 h2 => by simp at *; omega) (fun a b => by simp; omega) xs
   exact this.imp (fun h => by simpa using h)
  have ho := row_put hg h3 h2 ((xs.mergeSort (fun x y => decide (x ≤ y))).map (fun x : Nat => (x : Int))).toArray (by rw [List.size_toArray, List.length_map, hlm]; exact h1) q (xs.mergeSort (fun x y => decide (x ≤ y))) (by rw [List.take_of_length_le (by simp)]) (by simp)
  rw [hlm] at ho
  have hgr := putRow_grown w g ((xs.mergeSort (fun x y => decide (x ≤ y))).map (fun x : Nat => (x : Int))).toArray q
  refine ⟨rfl, _, ?_, hso, hpm, ?_⟩
  ·exact ho.keep (fun b hb => heap_grow_old _ _ (ho.lt b hb))
  ·have hg2 := grow_grown (putRow (Value.int .i64) (Sort.ahead w q) g 0 ((xs.mergeSort (fun x y => decide (x ≤ y))).map (fun x : Nat => (x : Int))).toArray) os
   rw [h4]
   exact ⟨hg2.os.trans hgr.os, hg2.tape.trans hgr.tape, hg2.output.trans hgr.output, Nat.le_trans hgr.size hg2.size, fun k hk hne => (hg2.block k (Nat.lt_of_lt_of_le hk hgr.size) (by simp)).trans (hgr.block k hk hne)⟩
end Go.Proofs.YtpopbfagliagnaaGreat
namespace Go.Proofs.YtpopbfagliagnaaGreat
open Go.RowKit Go.Maps
def FL.allTo (S : FL) (k : Nat) : Nat → List Nat
 | 0 => S.g k
 | i + 1 => S.allTo k i ++ S.c i k
theorem FL.allTo_all (S : FL) (k : Nat) : S.allTo k 4 = S.all k := rfl
theorem FL.allTo_len {S : FL} {N k : Nat} (h : S.upto N) (hk : k < 32) : ∀ i, i ≤ 4 → (S.allTo k i).length ≤ (i + 1) * N
 | 0, _ => by
  have := h k (by omega)
  rw [S.at_g hk] at this
  simpa [FL.allTo] using this
 | i + 1, hi => by
  have h1 := FL.allTo_len h hk i (by omega)
  have h2 := h (slotI i k) (by unfold slotI; omega)
  rw [S.at_c i hk] at h2
  unfold FL.allTo
  rw [List.length_append, Nat.add_mul (i + 1) 1 N, Nat.one_mul]
  omega
def ListI (w : World) (S : FL) (k : Nat) : Ending → World → Prop := fun e w' => ∃ v ys, e = .returned v ∧ OwnI w' v ys ∧ ys.Pairwise (· ≤ ·) ∧ (∀ a, ys.count a = S.cnt k a) ∧ (∀ b, rowOf v = some b → w.heap.size ≤ b) ∧ Below w.heap.size w w'
set_option maxHeartbeats 4000000 in
set_option maxRecDepth 20000 in
theorem flist_any {w : World} {f mb n : Nat} {R : List Nat} {S : FL} (h : FreeAt w f mb n R S) (hL : S.upto 900000) (k : Nat) (hk : k < 32) :
  Calls Tryz.prog 126 #[vfree f, .int .i64 (k : Int)] w (ListI w S k) := by
 obtain ⟨V, hfv⟩ := h.v
 have HFV := LH hfv
 have HUp := LH hL
 have HP : Hid (∀ v ys w', OwnI w' v ys → ys.Pairwise (· ≤ ·) → ys.Perm (S.all k) → (∀ b, rowOf v = some b → w.heap.size ≤ b) → Below w.heap.size w w' → ListI w S k (.returned v) w') := LH (fun v ys w' h1 h2 h3 h4 h5 => ⟨v, ys, rfl, h1, h2, fun a => by rw [← S.all_count]; exact h3.count_eq a, h4, h5⟩)
 generalize ListI w S k = Post at *
 have hVk := HFV.out.inn.rows k (by omega)
 rw [S.at_g hk] at hVk
 obtain ⟨ag, cg, eg, hcg, _, _, hgn⟩ := hVk.cells2
 have HLg : Hid ((S.g k).length ≤ 900000) := LH (by have := HUp.out k (by omega); rwa [S.at_g hk] at this)
 have HCl := LH (cloneI_any ag _ cg (S.g k) rfl hcg (by have := HLg.out; omega) hgn)
 have ck := HFV.out.inn.g hk
 rw [eg] at ck
 have c32 := HFV.out.inn.m
 obtain ⟨lg, hlg⟩ : ∃ lg, lg = (S.g k).length := ⟨_, rfl⟩
 rw [← hlg] at ck HCl
 clear h hL hfv hVk hcg hgn eg hlg
 go_enter Tryz.func126, Tryz.ntmps126
 go_wp2_with fail
 refine (cright_any _ _).mono ?_
 rintro e w1 ⟨rfl, rfl⟩
 rw [decide_eq_true (show (0 : Int) ≤ (k : Int) ∧ (k : Int) < 32 by omega)]
 go_wp2_with fail
 refine HCl.out.mono ?_
 rintro e w1 ⟨v1, rfl, ho1, hr1, hb1⟩
 have HO1 := LH ho1
 have HR1 := LH hr1
 have HB1 := LH hb1
 clear ho1 hr1 hb1 ck c32
 go_wp2_with fail
 go_loopw [5, 17] (fun ov iv wr => ∃ i : Nat, i ≤ 4 ∧ iv = .int .i64 (i : Int) ∧ Hid (OwnI wr ov (S.allTo k i)) ∧ Hid (∀ b, rowOf ov = some b → w.heap.size ≤ b) ∧ Hid (Below w.heap.size w wr)) (fun _ iv _ => 4 - (intOf iv).toNat)
 case atStart => exact ⟨0, by omega, rfl, HO1, HR1, HB1⟩
 case round =>
  obtain ⟨i, hi4, rfl, HO, HR, HB⟩ := hrel
  by_cases hlt : i < 4
  case neg =>
   obtain rfl : i = 4 := by omega
   have HSo := LH (sortI_any HO.out (by have := FL.allTo_len HUp.out hk 4 (by omega); omega))
   go_wp2_with fail
   refine HSo.out.mono ?_
   rintro e w2 ⟨rfl, ys, ho, hs, hp, hg⟩
   have HFin := LH (HP.out _ ys w2 ho hs (by rw [← S.allTo_all]; exact hp) HR.out ⟨hg.os.trans HB.out.os, hg.tape.trans HB.out.tape, hg.output.trans HB.out.output, Nat.le_trans HB.out.size hg.size, fun b hb => (hg.block b (Nat.lt_of_lt_of_le hb HB.out.size) (fun e => by have := HR.out b e.symm; omega)).trans (HB.out.block b hb)⟩)
   clear ho hs hp hg
   go_wp2_with fail
   exact HFin.out
  have hi160 : slotI i k < 160 := by unfold slotI; omega
  have HFr := LH (HFV.out.below HB.out)
  obtain ⟨ac, cc, ec, hcc, _, _, _⟩ := (HFr.out.inn.rows (slotI i k) hi160).cells2
  rw [S.at_c i hk] at ec hcc
  obtain ⟨M, hm, hv⟩ := HFr.out.inn.map
  have HM := LH hm
  obtain ⟨lc, hlc⟩ : ∃ lc, lc = (S.c i k).length := ⟨_, rfl⟩
  rw [← hlc] at ec
  have HLc := LH hlc.symm
  have HVi := LH ((hv i k hlt hk).trans ec)
  have HCc := LH hcc
  have hkey := key_slot (i : Int) (k : Int) (wf_small i (by omega)) (wf_small k (by omega))
  have c32 := HFr.out.inn.m
  have HN1 : Hid ((S.allTo k i).length + lc ≤ 1000000000000) := LH (by
   have h1 := FL.allTo_len HUp.out hk i (by omega)
   have h2 := HUp.out (slotI i k) hi160
   rw [S.at_c i hk, ← hlc] at h2
   have : (i + 1) * 900000 ≤ 5 * 900000 := Nat.mul_le_mul_right _ (by omega)
   omega)
  clear hm hv ec hcc hlc
  go_wp2_with (first
   | (refine wpList_vlook rfl _ _ 332 rfl 336 47 keyed_slot Tryz.underlying332 _ (zero_ints _) mb n M rfl HM.out _ _ rfl hkey ?_; rw [HVi.out])
   | (at_builtin; refine wpList_append_newI (m := lc) (B := w.heap.size) HO.out (Below.refl _ _) HR.out HB.out.size HCc.out HLc.out HN1.out rfl rfl rfl rfl ?_; intro v' w2 ho hb hr; have HO2 := LH ho; have HB2 := LH hb; have HR2 := LH hr; clear ho hb hr))
  go_roundw
  case rel => exact ⟨i + 1, by omega, vint (by omega), HO2, HR2, LH (HB.out.trans HB2.out)⟩
  case measure => simp [intOf]; omega
end Go.Proofs.YtpopbfagliagnaaGreat
namespace Go.Proofs
open Go.Shelf
end Go.Proofs
namespace Go.Proofs.YtpopbfagliagnaaGreat
open Go.RowKit Go.Maps Go.Shelf Go.Sort Go.Lib
end Go.Proofs.YtpopbfagliagnaaGreat
namespace Go.Proofs.YtpopbfagliagnaaGreat
open Go.RowKit Go.Maps
end Go.Proofs.YtpopbfagliagnaaGreat
namespace Go.Proofs.YtpopbfagliagnaaGreat
open Go.RowKit
def PlPost (S : Dev) (L : List Hd) (a : Int) (w : World) : Ending → World → Prop := fun e w' => (∃ p d : Int, e = .returned (.tuple #[vob p d, .bool (placedN S L a).isSome]) ∧ ∀ o, placedN S L a = some o → o = ⟨p, d, 0⟩) ∧ Below w.heap.size w w'
theorem headN_cases (S : Dev) (a : Int) : headN S a = ⟨0, 0, 22⟩ ∨ ∃ p d, headN S a = ⟨p, d, 0⟩ := by
 rcases headN_code S a with h | h
 ·refine .inr ⟨(headN S a).p, (headN S a).d, ?_⟩
  have := h.1
  generalize headN S a = o at *
  obtain ⟨p, d, c⟩ := o
  dsimp only at this
  rw [this]
 ·exact .inl h
set_option maxHeartbeats 4000000 in
set_option maxRecDepth 20000 in
theorem aplaced_any {w : World} {F : Foot} {S : Dev} (h : DevAt w F S) (a : Option Addr) (B cap : Nat) (L : List Hd) (hlen : L.length = B) (hc : Cells w a (hdCs L)) (hB : B ≤ 1000) (hS : S.cache.length ≤ 1000000) (x : Int) :
  Calls Tryz.prog 85 #[vdev F, vgeom (B : Int), .slice a B cap, .int .i64 x] w (PlPost S L x w) := by
 have HM := LH (Mem.two w #[.int .i64 (B : Int)] 44 #[.int .i64 0, .int .i64 0] 169)
 have HP : Hid (∀ (p d : Int) b w', b = (placedN S L x).isSome → (∀ o, placedN S L x = some o → o = ⟨p, d, 0⟩) → Below w.heap.size w w' → PlPost S L x w (.returned (.tuple #[vob p d, .bool b])) w') := LH (fun p d b w' h1 h2 h3 => by subst h1; exact ⟨⟨p, d, rfl, h2⟩, h3⟩)
 generalize PlPost S L x w = Post at *
 have HD0 := LH (h.below HM.out.below)
 have HC0 := LH (hc.below HM.out.below (Nat.le_refl _))
 have HLen := LH hlen
 have HBlk := LH (fun w => gblockOf_any B hB x w)
 clear h hc hlen
 go_enter Tryz.func85, Tryz.ntmps85
 go_upto_region 1 with fail
 obtain ⟨q, hq⟩ : ∃ q, q = w.heap.size := ⟨_, rfl⟩
 rw [← hq] at HM ⊢
 generalize (w.alloc _).alloc _ = w0 at *
 clear hq
 have c0 := HM.out.cell 0 0 rfl rfl
 by_cases hin : x < 512 ∨ 512 * (B : Int) ≤ x
 ·have HN : Hid (placedN S L x = none) := LH (by unfold placedN; rw [if_pos (by rw [HLen.out]; omega)])
  have hbb : blockOf (B : Int) x < 1 := by unfold blockOf; split <;> omega
  have HBb := LH HBlk.out
  generalize blockOf (B : Int) x = bb at *
  clear hin
  go_wp2_with fail
  refine (HBlk.out _).mono ?_
  rintro e w1 ⟨rfl, hb1⟩
  have HM1 := LH (HM.out.later hb1)
  clear hb1 c0
  go_wp2_with (refine wpList_store_mem aggOb HM1.out 1 rfl rfl rfl rfl rfl rfl rfl rfl ?_; intro w7 h7 ht7; have H7 := LH h7; clear h7 ht7)
  refine bodyPost_ret (results_cell_row2 (p := 8) (u := 9) rfl _ _ _ _ _ _ _ rfl (H7.out.exact 1 rfl) Tryz.underlying169 rfl (by kernel_rfl)) rfl ?_
  refine HP.out _ _ _ _ (by rw [HN.out]; rfl) (fun o ho => by rw [HN.out] at ho; cases ho) H7.out.below
 obtain ⟨y, hy⟩ : ∃ y : Nat, x = (y : Int) := ⟨x.toNat, by omega⟩
 subst hy
 have h1 : 512 ≤ y := by omega
 have h2 : y < 512 * B := by omega
 have hbo : blockOf (B : Int) (y : Int) = ((y / 512 : Nat) : Int) := by unfold blockOf; rw [if_neg (by omega)]; omega
 rw [hbo] at HBlk
 obtain ⟨b, hb⟩ : ∃ b, b = y / 512 := ⟨_, rfl⟩
 have hb1 : 1 ≤ b := by omega
 have hb2 : b < B := by omega
 rw [← hb] at HBlk
 have HBy := LH hb
 have HPl : Hid (placedN S L (y : Int) = if (headN S (y : Int)).code ≠ 0 then none
  else if small (objSize (headN S (y : Int)).p (headN S (y : Int)).d) then (if isCell L (ofN (objSize (headN S (y : Int)).p (headN S (y : Int)).d : Nat)) y then some (headN S (y : Int)) else none)
  else if y % 512 = 0 ∧ wholeN L b = objBlocks (objSize (headN S (y : Int)).p (headN S (y : Int)).d) then some (headN S (y : Int)) else none) := LH (by
  unfold placedN
  rw [Int.toNat_natCast, ← hb, HLen.out]
  by_cases c : (headN S (y : Int)).code ≠ 0
  ·rw [if_pos (.inr (.inr c)), if_pos c]
  ·rw [if_neg (by omega), if_neg c])
 clear hbo hin hb
 go_wp2_with fail
 refine (HBlk.out _).mono ?_
 rintro e w1 ⟨rfl, hb1'⟩
 have HM1 := LH (HM.out.later hb1')
 have HD1 := LH (HD0.out.below hb1')
 have HC1 := LH (HC0.out.below hb1' (Nat.le_refl _))
 clear hb1' c0
 go_wp2_with fail
 refine (ohead_any HD1.out (y : Int)).mono ?_
 rintro e w2 ⟨rfl, hb2'⟩
 have HM2 := LH (HM1.out.later hb2')
 have HD2 := LH (HD1.out.below hb2')
 have HC2 := LH (HC1.out.below hb2' (Nat.le_refl _))
 clear hb2'
 unfold Odec.val
 rcases headN_cases S (y : Int) with hh | ⟨p, d, hh⟩
 ·have HN : Hid (placedN S L (y : Int) = none) := LH (by rw [HPl.out, hh]; rfl)
  rw [hh]
  dsimp only
  go_upto_region 5 with fail
  have HM3 := LH (HM2.out.alloc #[.int .i64 0, .int .i64 0] 169)
  generalize w2.alloc _ = w3 at *
  go_wp2_with (refine wpList_store_mem aggOb HM3.out 1 rfl rfl rfl rfl rfl rfl rfl rfl ?_; intro w7 h7 ht7; have H7 := LH h7; clear h7 ht7)
  refine bodyPost_ret (results_cell_row2 (p := 8) (u := 9) rfl _ _ _ _ _ _ _ rfl (H7.out.exact 1 rfl) Tryz.underlying169 rfl (by kernel_rfl)) rfl ?_
  refine HP.out _ _ _ _ (by rw [HN.out]; rfl) (fun o ho => by rw [HN.out] at ho; cases ho) H7.out.below
 have HS0 : Hid (objSize p d ≠ 0) := LH (by
  have := headN_code S (y : Int)
  rw [hh] at this
  rcases this with h | h
  ·exact h.2.2.2.1
  ·injection h with _ _ h3; cases h3)
 rw [hh]
 have HPl2 : Hid (placedN S L (y : Int) = if small (objSize p d) then (if isCell L (ofN (objSize p d : Nat)) y then some ⟨p, d, 0⟩ else none)
  else if y % 512 = 0 ∧ wholeN L b = objBlocks (objSize p d) then some ⟨p, d, 0⟩ else none) := LH (by rw [HPl.out, hh, if_neg (by simp)])
 dsimp only
 clear HPl HBlk
 have HSm := LH (fun w => osmall_any p d w)
 have HBl := LH (fun w => oblocks_any p d w)
 generalize objSize p d = s at *
 go_upto_region 7 with fail
 have HB3 := LH (below_alloc w2 (Obj.cells #[.int .i64 p, .int .i64 d] 169))
 have HM3 := LH (HM2.out.alloc #[.int .i64 p, .int .i64 d] 169)
 have HC3 := LH (HC2.out.below HB3.out (Nat.le_refl _))
 obtain ⟨q3, hq3⟩ : ∃ q3, q3 = w2.heap.size := ⟨_, rfl⟩
 rw [← hq3] at HM3 ⊢
 generalize w2.alloc _ = w3 at *
 clear hq3
 obtain ⟨k, c, z, he⟩ := hdGetD L b
 obtain ⟨b1, o1, rfl, e0, e1, e2⟩ := hd_cells HC3.out (by rw [HLen.out]; exact hb2) he
 have HEb := LH he
 clear he
 have hbB : (b : Int) < (B : Int) := by omega
 go_upto_region 8 with fail
 have HB4 := LH (below_alloc w3 (Obj.cells #[.int .i64 k, .int .i64 c, .int .i64 z] 103))
 have HM4 := LH (HM3.out.alloc #[.int .i64 k, .int .i64 c, .int .i64 z] 103)
 have HC4 := LH (HC3.out.below HB4.out (Nat.le_refl _))
 obtain ⟨q4, hq4⟩ : ∃ q4, q4 = w3.heap.size := ⟨_, rfl⟩
 rw [← hq4] at HM4 ⊢
 generalize w3.alloc _ = w4 at *
 clear hq4 e0 e1 e2
 have d0 := HM4.out.cell 2 0 rfl rfl
 have d1 := HM4.out.cell 2 1 rfl rfl
 go_wp2_with fail
 refine (HSm.out _).mono ?_
 rintro e w5 ⟨rfl, hb5⟩
 have HM5 := LH (HM4.out.later hb5)
 have HC5 := LH (HC4.out.below hb5 (Nat.le_refl _))
 clear hb5 d0 d1
 have hnd := HM5.out.nd
 simp only [List.map_cons, List.map_nil, List.map_append, List.cons_append, List.nil_append, List.nodup_cons, List.mem_cons, List.not_mem_nil, or_false, not_or] at hnd
 have hn0 : q ∉ [q + 1] := by simp
 have hn2 : q3 ∉ [q + 1] := by simp; exact fun e => hnd.2.1.1 e.symm
 have hn3 : q4 ∉ [q + 1] := by simp; exact fun e => hnd.2.1.2 e.symm
 have HNs := LH (And.intro hn0 (And.intro hn2 hn3))
 clear hnd hn0 hn2 hn3
 by_cases hsm : small s
 ·have hk := ofN_lt hsm
  rw [ofV_small _ hsm]
  have HPl3 : Hid (placedN S L (y : Int) = if isCell L (ofN (s : Int)) y then some ⟨p, d, 0⟩ else none) := LH (by rw [HPl2.out, if_pos hsm])
  generalize ofN (s : Int) = kk at *
  have HIs : Hid (isCell L kk y ↔ begins kk y = true ∧ (⟨k, c, z⟩ : Hd) = ⟨1, kk, 0⟩) := LH (by
   unfold isCell begins
   rw [← HBy.out, HEb.out, decide_eq_true_eq, HLen.out]
   constructor
   ·rintro ⟨_, _, h3, h4, h5⟩; exact ⟨⟨h4, h5⟩, h3⟩
   ·rintro ⟨⟨h4, h5⟩, h3⟩; exact ⟨h1, h2, h3, h4, h5⟩)
  have HAt := LH (fun w => cat_any B hB kk y hk h1 h2 w)
  clear HPl2 hsm HSm HBl
  have c0 := HM5.out.cell 0 0 rfl rfl
  go_wp2_with fail
  refine (HAt.out _).mono ?_
  rintro e w6 ⟨⟨ax, ay, rfl⟩, hb6⟩
  have HM6 := LH (HM5.out.later hb6)
  clear hb6 c0 HAt
  go_upto_region 11 with fail
  have HM7 := LH (HM6.out.alloc #[.int .i64 ax, .int .i64 ay] 289)
  generalize w6.alloc _ = w7 at *
  have d0 := HM7.out.cell 2 0 rfl rfl
  have d1 := HM7.out.cell 2 1 rfl rfl
  have d3 := HM7.out.cell 3 0 rfl rfl
  have d4 := HM7.out.cell 3 1 rfl rfl
  have d5 := HM7.out.cell 3 2 rfl rfl
  have r0 := fun x => near_cell (L := [q + 1]) d0 HNs.out.2.1 x
  have r1 := fun x => near_cell (L := [q + 1]) d1 HNs.out.2.1 x
  have r3 := fun x => near_cell (L := [q + 1]) d3 HNs.out.2.2 x
  have r4 := fun x => near_cell (L := [q + 1]) d4 HNs.out.2.2 x
  have r5 := fun x => near_cell (L := [q + 1]) d5 HNs.out.2.2 x
  have HT0 : Hid (Touch [q + 1] w7 w7.drew) := LH (Touch.ofBelow (later_below (later_drew w7)))
  have HD0 : Hid (Below w7.heap.size w7 w7.drew) := LH (later_below (later_drew w7))
  have hC1 := near_of HT0.out
  clear d0 d1 d3 d4 d5
  have hgd := gsBh
  cases hbg : begins kk y with
  | false =>
   have HN : Hid (placedN S L (y : Int) = none) := LH (by rw [HPl3.out, if_neg (fun h => by have := (HIs.out.1 h).1; rw [hbg] at this; cases this)])
   clear hbg HPl3 HIs
   refine wp_region_seg (C := fun w' => ∃ x : Near [q + 1] w7, w' = x.val) [.fl [0, 1, 2, 3, 4, 5, 6, 7], .sq [8] true, .sq [9] false] (by kernel_rfl) (by kernel_rfl) (by intro c a d v w h; cases d <;> exact h) ?_
   simp only [segs, picks, List.getElem?_cons_succ, List.getElem?_cons_zero]
   refine wpSeg_fl hC1 ?_
   repeat (first | go_big_quiet_step (fail) | quiet_step (fail))
   refine wpQuiet_nil ?_
   refine wpSeg_sq (fun K hK => ?_)
   go_wp2_with (refine wpList_store_mem aggOb (HM7.out.later HD0.out) 1 rfl rfl rfl rfl rfl rfl rfl rfl ?_; intro w8 h8 ht8; have H8 := LH h8; have HT8 := LH (HT0.out.trans ht8); clear h8 ht8)
   have hC2 := near_of HT8.out
   go_wp2_with fail
   refine hK _ _ (fun _ => hC2) ?_
   clear hK K
   refine wpSeg_last ?_
   go_wp2_with fail
   refine bodyPost_ret (results_cell_row2 (p := 8) (u := 9) rfl _ _ _ _ _ _ _ rfl (H8.out.exact 1 rfl) Tryz.underlying169 rfl (by kernel_rfl)) rfl ?_
   refine HP.out _ _ _ _ (by rw [HN.out]; rfl) (fun o ho => by rw [HN.out] at ho; cases ho) H8.out.below
  | true =>
   by_cases hq : (⟨k, c, z⟩ : Hd) = ⟨1, kk, 0⟩
   ·have heq : ∀ w', (Op.equalIn 10000 103 (.agg #[.int .i64 k, .int .i64 c, .int .i64 z]) (.agg #[.int .i64 1, .int .i64 (kk : Int), .int .i64 0])).run Tryz.prog w' = .ok true w' := fun w' => equalBh w' _ _ _ _ _ _ _ (by rw [← hd_beq]; simp [hq])
    have HN : Hid (placedN S L (y : Int) = some ⟨p, d, 0⟩) := LH (by rw [HPl3.out, if_pos (HIs.out.2 ⟨hbg, hq⟩)])
    clear hbg HPl3 HIs hq
    refine wp_region_seg (C := fun w' => ∃ x : Near [q + 1] w7, w' = x.val) [.fl [0, 1, 2, 3, 4, 5, 6, 7], .sq [8] true, .sq [9] false] (by kernel_rfl) (by kernel_rfl) (by intro c a d v w h; cases d <;> exact h) ?_
    simp only [segs, picks, List.getElem?_cons_succ, List.getElem?_cons_zero]
    refine wpSeg_fl hC1 ?_
    repeat (first | go_big_quiet_step (fail) | quiet_step (fail))
    refine wpQuiet_nil ?_
    refine wpSeg_sq (fun K hK => ?_)
    go_wp2_with (refine wpList_store_mem aggOb (HM7.out.later HD0.out) 1 rfl rfl rfl rfl rfl rfl rfl rfl ?_; intro w8 h8 ht8; have H8 := LH h8; have HT8 := LH (HT0.out.trans ht8); clear h8 ht8)
    have hC2 := near_of HT8.out
    go_wp2_with fail
    refine hK _ _ (fun _ => hC2) ?_
    clear hK K
    refine wpSeg_last ?_
    go_wp2_with fail
    refine bodyPost_ret (results_cell_row2 (p := 8) (u := 9) rfl _ _ _ _ _ _ _ rfl (H8.out.exact 1 rfl) Tryz.underlying169 rfl (by kernel_rfl)) rfl ?_
    refine HP.out _ _ _ _ (by rw [HN.out]; rfl) (fun o ho => by rw [HN.out] at ho; cases ho; rfl) H8.out.below
   ·have heq : ∀ w', (Op.equalIn 10000 103 (.agg #[.int .i64 k, .int .i64 c, .int .i64 z]) (.agg #[.int .i64 1, .int .i64 (kk : Int), .int .i64 0])).run Tryz.prog w' = .ok false w' := fun w' => equalBh w' _ _ _ _ _ _ _ (by rw [← hd_beq]; simp [hq])
    have HN : Hid (placedN S L (y : Int) = none) := LH (by rw [HPl3.out, if_neg (fun h => hq (HIs.out.1 h).2)])
    clear hbg HPl3 HIs hq
    refine wp_region_seg (C := fun w' => ∃ x : Near [q + 1] w7, w' = x.val) [.fl [0, 1, 2, 3, 4, 5, 6, 7], .sq [8] true, .sq [9] false] (by kernel_rfl) (by kernel_rfl) (by intro c a d v w h; cases d <;> exact h) ?_
    simp only [segs, picks, List.getElem?_cons_succ, List.getElem?_cons_zero]
    refine wpSeg_fl hC1 ?_
    repeat (first | go_big_quiet_step (fail) | quiet_step (fail))
    refine wpQuiet_nil ?_
    refine wpSeg_sq (fun K hK => ?_)
    go_wp2_with (refine wpList_store_mem aggOb (HM7.out.later HD0.out) 1 rfl rfl rfl rfl rfl rfl rfl rfl ?_; intro w8 h8 ht8; have H8 := LH h8; have HT8 := LH (HT0.out.trans ht8); clear h8 ht8)
    have hC2 := near_of HT8.out
    go_wp2_with fail
    refine hK _ _ (fun _ => hC2) ?_
    clear hK K
    refine wpSeg_last ?_
    go_wp2_with fail
    refine bodyPost_ret (results_cell_row2 (p := 8) (u := 9) rfl _ _ _ _ _ _ _ rfl (H8.out.exact 1 rfl) Tryz.underlying169 rfl (by kernel_rfl)) rfl ?_
    refine HP.out _ _ _ _ (by rw [HN.out]; rfl) (fun o ho => by rw [HN.out] at ho; cases ho) H8.out.below
 rw [ofV_large _ hsm]
 have HNb : Hid (1 ≤ objBlocks s) := LH (by
  unfold objBlocks
  rw [if_neg hsm]
  have := HS0.out
  omega)
 have HPl3 : Hid (placedN S L (y : Int) = if y % 512 = 0 ∧ wholeN L b = objBlocks s then some ⟨p, d, 0⟩ else none) := LH (by rw [HPl2.out, if_neg hsm])
 clear HPl2 hsm HSm
 have HWh := LH (bwhole_any (some ⟨b1, o1, none⟩) B cap L HLen.out w5 HC5.out hB b hb2)
 go_wp2_with fail
 refine HWh.out.mono ?_
 rintro e w6 hp6
 obtain ⟨hv6, hb6⟩ := hp6
 have HM6 := LH (HM5.out.later hb6)
 clear hb6 HWh
 have c0 := HM6.out.cell 0 0 rfl rfl
 have d0 := HM6.out.cell 2 0 rfl rfl
 have d1 := HM6.out.cell 2 1 rfl rfl
 have r0 := fun x => near_cell (L := [q + 1]) d0 HNs.out.2.1 x
 have r1 := fun x => near_cell (L := [q + 1]) d1 HNs.out.2.1 x
 have r2 := fun x => near_cell (L := [q + 1]) c0 HNs.out.1 x
 have HT0 : Hid (Touch [q + 1] w6 w6.drew) := LH (Touch.ofBelow (later_below (later_drew w6)))
 have HD0 : Hid (Below w6.heap.size w6 w6.drew) := LH (later_below (later_drew w6))
 have hC1 := near_of HT0.out
 clear c0 d0 d1
 have HFi := LH (fun w => gfirstN_any B hB b hb2 w)
 obtain ⟨nb, hnb⟩ : ∃ nb, nb = objBlocks s := ⟨_, rfl⟩
 rw [← hnb] at HPl3 HNb HBl
 obtain ⟨wn, hwn⟩ : ∃ wn, wn = wholeN L b := ⟨_, rfl⟩
 rw [← hwn] at HPl3 hv6
 clear hnb hwn
 by_cases hw0 : wn = 0
 ·subst hw0
  have hv7 : e = .returned (.tuple #[.int .i64 0, .bool false]) := by rw [hv6]; rfl
  have HN : Hid (placedN S L (y : Int) = none) := LH (by rw [HPl3.out, if_neg (by have := HNb.out; omega)])
  subst hv7
  clear hv6
  go_upto_region 13 with fail
  refine wp_region_seg (C := fun w' => ∃ x : Near [q + 1] w6, w' = x.val) [.fl [0, 1, 2, 3, 4, 5], .sq [6] true, .fl [7, 8, 9, 10, 11], .sq [12] true, .fl [13, 14], .sq [15] true, .sq [16] false] (by kernel_rfl) (by kernel_rfl) (by intro c a d v w h; cases d <;> exact h) ?_
  simp only [segs, picks, List.getElem?_cons_succ, List.getElem?_cons_zero]
  refine wpSeg_fl hC1 ?_
  repeat (first | go_big_quiet_step (fail) | quiet_step (fail))
  refine wpQuiet_nil ?_
  refine wpSeg_sq (fun K hK => ?_)
  go_wp2_with fail
  go_wp2_with fail
  refine hK _ _ (fun _ => hC1) ?_
  clear hK K
  refine wpSeg_fl hC1 ?_
  repeat (first | go_big_quiet_step (fail) | quiet_step (fail))
  refine wpQuiet_nil ?_
  refine wpSeg_sq (fun K hK => ?_)
  go_wp2_with fail
  go_wp2_with fail
  refine hK _ _ (fun _ => hC1) ?_
  clear hK K
  refine wpSeg_fl hC1 ?_
  repeat (first | go_big_quiet_step (fail) | quiet_step (fail))
  refine wpQuiet_nil ?_
  refine wpSeg_sq (fun K hK => ?_)
  go_wp2_with (refine wpList_store_mem aggOb (HM6.out.later HD0.out) 1 rfl rfl rfl rfl rfl rfl rfl rfl ?_; intro w8 h8 ht8; have H8 := LH h8; have HT8 := LH (HT0.out.trans ht8); clear h8 ht8)
  have hC2 := near_of HT8.out
  go_wp2_with fail
  refine hK _ _ (fun _ => hC2) ?_
  clear hK K
  refine wpSeg_last ?_
  go_wp2_with fail
  refine bodyPost_ret (results_cell_row2 (p := 8) (u := 9) rfl _ _ _ _ _ _ _ rfl (H8.out.exact 1 rfl) Tryz.underlying169 rfl (by kernel_rfl)) rfl ?_
  refine HP.out _ _ _ _ (by rw [HN.out]; rfl) (fun o ho => by rw [HN.out] at ho; cases ho) H8.out.below
 have hv7 : e = .returned (.tuple #[.int .i64 (wn : Int), .bool true]) := by rw [hv6, decide_eq_true hw0]
 subst hv7
 clear hv6
 have hb512 : b < 1000 := by omega
 go_upto_region 13 with fail
 by_cases hy5 : y = b * 512
 case neg =>
  have hy6 : ((y : Int) == (b : Int) * 512) = false := by simp; omega
  have HN : Hid (placedN S L (y : Int) = none) := LH (by rw [HPl3.out, if_neg (by have := HBy.out; omega)])
  clear hy5
  refine wp_region_seg (C := fun w' => ∃ x : Near [q + 1] w6, w' = x.val) [.fl [0, 1, 2, 3, 4, 5], .sq [6] true, .fl [7, 8, 9, 10, 11], .sq [12] true, .fl [13, 14], .sq [15] true, .sq [16] false] (by kernel_rfl) (by kernel_rfl) (by intro c a d v w h; cases d <;> exact h) ?_
  simp only [segs, picks, List.getElem?_cons_succ, List.getElem?_cons_zero]
  refine wpSeg_fl hC1 ?_
  repeat (first | go_big_quiet_step (fail) | quiet_step (fail))
  refine wpQuiet_nil ?_
  refine wpSeg_sq (fun K hK => ?_)
  go_wp2_with fail
  refine (HFi.out _).mono ?_
  rintro e w7 ⟨rfl, hb7⟩
  have HD7 := LH (HD0.out.trans (hb7.mono HD0.out.size))
  have HT7 := LH (HT0.out.later hb7)
  have hC2 := near_of HT7.out
  clear hb7
  go_wp2_with fail
  refine hK _ _ (fun _ => hC2) ?_
  clear hK K
  refine wpSeg_fl hC2 ?_
  repeat (first | go_big_quiet_step (fail) | quiet_step (fail))
  refine wpQuiet_nil ?_
  refine wpSeg_sq (fun K hK => ?_)
  go_wp2_with fail
  go_wp2_with fail
  refine hK _ _ (fun _ => hC2) ?_
  clear hK K
  refine wpSeg_fl hC2 ?_
  repeat (first | go_big_quiet_step (fail) | quiet_step (fail))
  refine wpQuiet_nil ?_
  refine wpSeg_sq (fun K hK => ?_)
  go_wp2_with (refine wpList_store_mem aggOb (HM6.out.later HD7.out) 1 rfl rfl rfl rfl rfl rfl rfl rfl ?_; intro w8 h8 ht8; have H8 := LH h8; have HT8 := LH (HT7.out.trans ht8); clear h8 ht8)
  have hC3 := near_of HT8.out
  go_wp2_with fail
  refine hK _ _ (fun _ => hC3) ?_
  clear hK K
  refine wpSeg_last ?_
  go_wp2_with fail
  refine bodyPost_ret (results_cell_row2 (p := 8) (u := 9) rfl _ _ _ _ _ _ _ rfl (H8.out.exact 1 rfl) Tryz.underlying169 rfl (by kernel_rfl)) rfl ?_
  refine HP.out _ _ _ _ (by rw [HN.out]; rfl) (fun o ho => by rw [HN.out] at ho; cases ho) H8.out.below
 have hy6 : ((y : Int) == (b : Int) * 512) = true := by simp; omega
 have HN : Hid (placedN S L (y : Int) = if wn = nb then some ⟨p, d, 0⟩ else none) := LH (by
  rw [HPl3.out]
  by_cases c : wn = nb
  ·rw [if_pos ⟨by omega, c⟩, if_pos c]
  ·rw [if_neg (fun h => c h.2), if_neg c])
 clear hy5
 refine wp_region_seg (C := fun w' => ∃ x : Near [q + 1] w6, w' = x.val) [.fl [0, 1, 2, 3, 4, 5], .sq [6] true, .fl [7, 8, 9, 10, 11], .sq [12] true, .fl [13, 14], .sq [15] true, .sq [16] false] (by kernel_rfl) (by kernel_rfl) (by intro c a d v w h; cases d <;> exact h) ?_
 simp only [segs, picks, List.getElem?_cons_succ, List.getElem?_cons_zero]
 refine wpSeg_fl hC1 ?_
 repeat (first | go_big_quiet_step (fail) | quiet_step (fail))
 refine wpQuiet_nil ?_
 refine wpSeg_sq (fun K hK => ?_)
 go_wp2_with fail
 refine (HFi.out _).mono ?_
 rintro e w7 ⟨rfl, hb7⟩
 have HD7 := LH (HD0.out.trans (hb7.mono HD0.out.size))
 have HT7 := LH (HT0.out.later hb7)
 have hC2 := near_of HT7.out
 clear hb7
 go_wp2_with fail
 refine hK _ _ (fun _ => hC2) ?_
 clear hK K
 refine wpSeg_fl hC2 ?_
 repeat (first | go_big_quiet_step (fail) | quiet_step (fail))
 refine wpQuiet_nil ?_
 refine wpSeg_sq (fun K hK => ?_)
 go_wp2_with fail
 refine (HBl.out _).mono ?_
 rintro e w8 ⟨rfl, hb8⟩
 have HD8 := LH (HD7.out.trans (hb8.mono HD7.out.size))
 have HT8 := LH (HT7.out.later hb8)
 have hC3 := near_of HT8.out
 clear hb8
 go_wp2_with fail
 refine hK _ _ (fun _ => hC3) ?_
 clear hK K
 refine wpSeg_fl hC3 ?_
 repeat (first | go_big_quiet_step (fail) | quiet_step (fail))
 refine wpQuiet_nil ?_
 refine wpSeg_sq (fun K hK => ?_)
 go_wp2_with (refine wpList_store_mem aggOb (HM6.out.later HD8.out) 1 rfl rfl rfl rfl rfl rfl rfl rfl ?_; intro w9 h9 ht9; have H9 := LH h9; have HT9 := LH (HT8.out.trans ht9); clear h9 ht9)
 have hC4 := near_of HT9.out
 go_wp2_with fail
 refine hK _ _ (fun _ => hC4) ?_
 clear hK K
 refine wpSeg_last ?_
 go_wp2_with fail
 refine bodyPost_ret (results_cell_row2 (p := 8) (u := 9) rfl _ _ _ _ _ _ _ rfl (H9.out.exact 1 rfl) Tryz.underlying169 rfl (by kernel_rfl)) rfl ?_
 refine HP.out _ _ _ _ ?_ (fun o ho => ?_) H9.out.below
 ·rw [HN.out]
  by_cases c : wn = nb
  ·subst c; simp
  ·rw [if_neg c]; simp; omega
 ·rw [HN.out] at ho
  split at ho
  ·cases ho; rfl
  ·cases ho
set_option maxHeartbeats 2000000 in
set_option maxRecDepth 20000 in
theorem aplace_any {w : World} {A : AF} {n B : Nat} {m : Al} (h : AlAt w A n B m) (hB : B ≤ 1000) (x : Int) :
  Calls Tryz.prog 166 #[valloc A, .int .i64 x] w (PlPost m.bm.dev m.bm.list x w) := by
 have HM := LH (Mem.one w #[.int .i64 0, .int .i64 0] 169)
 have HP : Hid (∀ (p d : Int) b w', b = (placedN m.bm.dev m.bm.list x).isSome → (∀ o, placedN m.bm.dev m.bm.list x = some o → o = ⟨p, d, 0⟩) → Below w.heap.size w w' → PlPost m.bm.dev m.bm.list x w (.returned (.tuple #[vob p d, .bool b])) w') := LH (fun p d b w' h1 h2 h3 => by subst h1; exact ⟨⟨p, d, rfl, h2⟩, h3⟩)
 have HLn : Hid (m.bm.list.length = B) := LH h.man.tab.len
 have HSm : Hid (m.bm.dev.cache.length ≤ 1000000) := LH h.man.dev.small
 generalize PlPost m.bm.dev m.bm.list x w = Post at *
 have HA0 := LH (h.below HM.out.below)
 have HAh := LH h
 clear h
 go_enter Tryz.func166, Tryz.ntmps166
 go_upto_region 1 with fail
 obtain ⟨q, hq⟩ : ∃ q, q = w.heap.size := ⟨_, rfl⟩
 have HQn : Hid (∀ k ∈ A.list, k ∉ [q]) := LH (fun k hk hm => by
  have := HAh.out.mem k hk
  simp at hm
  omega)
 rw [← hq] at HM ⊢
 generalize w.alloc _ = w0 at *
 clear hq
 have c0 := HA0.out.c0
 have c1 := HA0.out.c1
 have c2 := HA0.out.c2
 have c3 := HA0.out.man.c0
 have r0 := fun x => near_cell (L := [q]) c0 (HQn.out _ (by simp [AF.list, AF.fix])) x
 have r1 := fun x => near_cell (L := [q]) c1 (HQn.out _ (by simp [AF.list, AF.fix])) x
 have r2 := fun x => near_cell (L := [q]) c2 (HQn.out _ (by simp [AF.list, AF.fix])) x
 have r3 := fun x => near_cell (L := [q]) c3 (HQn.out _ (by simp [AF.list, AF.fix, MF.list])) x
 have HT0 : Hid (Touch [q] w0 w0.drew) := LH (Touch.ofBelow (later_below (later_drew w0)))
 have HD0 : Hid (Below w0.heap.size w0 w0.drew) := LH (later_below (later_drew w0))
 have hC1 := near_of HT0.out
 clear c0 c1 c2 c3
 refine wp_region_seg (C := fun w' => ∃ x : Near [q] w0, w' = x.val) [.fl [0, 1, 2, 3, 4, 5, 6, 7, 8, 9, 10, 11, 12, 13, 14, 16], .sq [15] true, .sq [17] false, .fl [18, 19], .sq [20, 21] false] (by kernel_rfl) (by kernel_rfl) (by intro c a d v w h; cases d <;> exact h) ?_
 simp only [segs, picks, List.getElem?_cons_succ, List.getElem?_cons_zero]
 refine wpSeg_fl hC1 ?_
 repeat (first | go_big_quiet_step (fail) | quiet_step (fail))
 refine wpQuiet_nil ?_
 clear r0 r1 r2 r3
 generalize w0.drew = w1 at *
 have HA1 := LH (HA0.out.below HD0.out)
 refine wpSeg_sq (fun K hK => ?_)
 go_wp2_with fail
 refine (tall_any HA1.out.man.tab hB).mono ?_
 rintro e w2 ⟨g, cg, rfl, hg1, hg2, hrow, hb2⟩
 have HD2 := LH (HD0.out.trans (hb2.mono HD0.out.size))
 have HT2 := LH (HT0.out.later hb2)
 have hC2 := near_of HT2.out
 have HR2 := LH hrow.cells
 clear hb2 hrow
 go_wp2_with fail
 refine hK _ _ (fun _ => hC2) ?_
 clear hK K
 have HA2 := LH (HA0.out.below HD2.out)
 refine wpSeg_sq (fun K hK => ?_)
 go_wp2_with fail
 refine (aplaced_any HA2.out.man.dev _ B cg m.bm.list HLn.out HR2.out hB HSm.out x).mono ?_
 rintro e w3 ⟨⟨p, d, rfl, ho⟩, hb3⟩
 have HO := LH ho
 have HD3 := LH (HD2.out.trans (hb3.mono HD2.out.size))
 have HT3 := LH (HT2.out.later hb3)
 have hC3 := near_of HT3.out
 clear ho hb3
 go_wp2_with fail
 refine hK _ _ (fun _ => hC3) ?_
 clear hK K
 refine wpSeg_fl hC3 ?_
 repeat (first | go_big_quiet_step (fail) | quiet_step (fail))
 refine wpQuiet_nil ?_
 refine wpSeg_last ?_
 go_wp2_with (refine wpList_store_mem aggOb (HM.out.later HD3.out) 0 rfl rfl rfl rfl rfl rfl rfl rfl ?_; intro w9 h9 ht9; have H9 := LH h9; clear h9 ht9)
 refine bodyPost_ret (results_cell_row2 (p := 4) (u := 5) rfl _ _ _ _ _ _ _ rfl (H9.out.exact 0 rfl) Tryz.underlying169 rfl (by kernel_rfl)) rfl ?_
 exact HP.out _ _ _ _ rfl HO.out H9.out.below
def bmOf (S : Dev) (B : Nat) : Bm := ⟨S, hds (devWord S) B, freeL (freeAt (hds (devWord S) B)) B B⟩
def OpenBm (w : World) (F : Foot) (S : Dev) (B : Nat) : Ending → World → Prop := fun e w' => Below w.heap.size w w' ∧
  ((AllOk (devWord S) B ∧ soundN (hds (devWord S) B) B 1 = 0 ∧ ∃ (X : MF) (n : Nat), e = .returned (.tuple #[.pointer (some ⟨X.m, 0, none⟩), .int .i64 0]) ∧ X.F = F ∧ ManAt w' X n B (bmOf S B) ∧ n ≤ 1000000 ∧
      (∀ k ∈ X.list, k ∈ F.list ∨ w.heap.size ≤ k)) ∨
   (AllOk (devWord S) B ∧ soundN (hds (devWord S) B) B 1 ≠ 0 ∧ e = .returned (.tuple #[.pointer none, .int .i64 40])) ∨
   (¬ AllOk (devWord S) B ∧ e = .returned (.tuple #[.pointer none, .int .i64 21])))
theorem bspans_fill (l : List Hd) (B : Nat) (h : l.length = B) : fillR (op2s (spansOf l)) (List.replicate B false) = (freeL (freeAt l) B B, 0) := by
 unfold spansOf
 rw [h]
 exact fill_spans (freeAt l) B B (Nat.le_refl _)
set_option maxHeartbeats 4000000 in
set_option maxRecDepth 20000 in
theorem bopen_any {w : World} {F : Foot} {S : Dev} (h : DevAt w F S) (B : Nat) (hB1 : 1 ≤ B) (hB : B ≤ 1000) :
    Calls Tryz.prog 117 #[vdev F, vgeom B] w (OpenBm w F S B) := by
  have HM := LH (Mem.one w #[.int .i64 (B : Int)] 44)
  have HD := LH (h.below HM.out.below)
  have HMF := LH h.mem
  have HNF := LH h.nodup
  have HL : Hid ((hds (devWord S) B).length = B) := LH (hds_length _ _)
  have HFill := LH (bspans_fill (hds (devWord S) B) B HL.out)
  have HBm : Hid (bmOf S B = ⟨S, hds (devWord S) B, freeL (freeAt (hds (devWord S) B)) B B⟩) := LH rfl
  have HFl : Hid ((freeL (freeAt (hds (devWord S) B)) B B).length = B) := LH (freeL_len _ _ _)
  have HPE : Hid (OpenBm w F S B = fun e w' => Below w.heap.size w w' ∧
  ((AllOk (devWord S) B ∧ soundN (hds (devWord S) B) B 1 = 0 ∧ ∃ (X : MF) (n : Nat), e = .returned (.tuple #[.pointer (some ⟨X.m, 0, none⟩), .int .i64 0]) ∧ X.F = F ∧ ManAt w' X n B (bmOf S B) ∧ n ≤ 1000000 ∧
      (∀ k ∈ X.list, k ∈ F.list ∨ w.heap.size ≤ k)) ∨
   (AllOk (devWord S) B ∧ soundN (hds (devWord S) B) B 1 ≠ 0 ∧ e = .returned (.tuple #[.pointer none, .int .i64 40])) ∨
   (¬ AllOk (devWord S) B ∧ e = .returned (.tuple #[.pointer none, .int .i64 21])))) := LH rfl
  generalize hP : OpenBm w F S B = Post at *
  clear h hP
  go_enter Tryz.func117, Tryz.ntmps117
  go_upto_region 1 with fail
  generalize hw0 : w.alloc _ = w0 at *
  clear hw0
  obtain ⟨q, hq⟩ : ∃ q, q = w.heap.size := ⟨_, rfl⟩
  rw [← hq] at HM ⊢
  have HQ := LH hq
  clear hq
  have c0 := HM.out.cell 0 0 rfl rfl
  unfold vdev at *
  go_wp2_with fail
  refine (open_tabG HD.out B hB1 hB).mono ?_
  rintro e w1 ⟨hb1, ⟨hok, p, g, cc, rfl, hp, hg, hpg, htab⟩ | ⟨b, hb0, hbB, hok, hbad, rfl⟩⟩
  case inr =>
    have HE : Hid (¬ AllOk (devWord S) B) := LH (fun h => hbad (h b hb0 hbB))
    have HB1 := LH (HM.out.later hb1)
    clear hok hbad hb1
    go_wp2_with fail
    rw [HPE.out]
    exact ⟨HB1.out.below, .inr (.inr ⟨HE.out, rfl⟩)⟩
  have HM1 := LH (HM.out.later hb1)
  have HD1 := LH (HD.out.below hb1)
  have HT1 := LH htab
  have HOK := LH hok
  have HG : Hid (w0.heap.size ≤ p ∧ w0.heap.size ≤ g ∧ p ≠ g) := LH ⟨hp, hg, hpg⟩
  have HW0 : Hid (w.heap.size + 1 ≤ w0.heap.size) := LH (by have := HM.out.glt 0 rfl; have := HQ.out; omega)
  clear hb1 htab hok hp hg hpg c0 HM HD
  generalize hds (devWord S) B = L at *
  go_wp2_with fail
  refine (tall_any HT1.out hB).mono ?_
  rintro e w2 ⟨a2, k2, rfl, hq2, hk2, hr2, hb2⟩
  have HM2 := LH (HM1.out.later hb2)
  have HD2 := LH (HD1.out.below hb2)
  have HT2 := LH (HT1.out.keep (hb2.block p HT1.out.lt.1) (hb2.block g HT1.out.lt.2))
  have HR2 := LH hr2
  clear hq2 hk2 hr2 hb2 HM1 HD1 HT1
  go_wp2_with fail
  refine (bsound_any _ B k2 L HL.out w2 HR2.out.cells hB).mono ?_
  rintro e w3 ⟨rfl, hb3⟩
  rw [HL.out]
  have HM3 := LH (HM2.out.later hb3)
  have HD3 := LH (HD2.out.below hb3)
  have HT3 := LH (HT2.out.keep (hb3.block p HT2.out.lt.1) (hb3.block g HT2.out.lt.2))
  clear hb3 HM2 HD2 HT2 HR2
  obtain ⟨sn, hsn⟩ : ∃ sn, sn = soundN L B 1 := ⟨_, rfl⟩
  rw [← hsn] at HPE ⊢
  clear hsn
  by_cases hs : sn = 0
  case neg =>
    have hs' : decide (sn = 0) = false := by simpa using hs
    rw [hs']
    have HS := LH hs
    clear hs hs'
    go_wp2_with fail
    rw [HPE.out]
    exact ⟨HM3.out.below, .inr (.inl ⟨HOK.out, HS.out, rfl⟩)⟩
  have hs' : decide (sn = 0) = true := by simpa using hs
  rw [hs']
  have HS := LH hs
  clear hs hs'
  have c0 := HM3.out.cell 0 0 rfl rfl
  go_upto_region 7 with fail
  have r0 := fun x => later_cell c0 x
  clear c0
  refine wp_region_seg (C := fun w' => ∃ x : Later (w3), w' = x.val) [.fl [0, 1, 2], .sq [3] true, .sq [4, 5] false, .fl [6, 7, 8], .sq [9] false] (by kernel_rfl) (by kernel_rfl) (by intro c a d v w h; cases d <;> exact h) ?_
  simp only [segs, picks, List.getElem?_cons_succ, List.getElem?_cons_zero]
  have hC1 := later_drew (w3)
  refine wpSeg_fl hC1 ?_
  repeat (first | go_big_quiet_step (fail) | quiet_step (fail))
  refine wpQuiet_nil ?_
  refine wpSeg_sq (fun K hK => ?_)
  go_wp2_with fail
  refine (tspans_any ((HT3.out.keep ((later_below hC1).block p HT3.out.lt.1) ((later_below hC1).block g HT3.out.lt.2)).at HG.out.2.2) (by rw [HL.out]; exact hB)).mono ?_
  rintro e w4 ⟨v, rfl, ho4, hb4⟩
  have hC2 := later_step hC1 hb4
  obtain ⟨a4, c4, rfl, _, hm4⟩ := owned_form ho4
  have HC4 : Hid (Cells w4 a4 (recs Op2.cs (op2s (spansOf L)))) := LH (by rw [op2s_cs]; exact Cells.owned2 ho4)
  have HSl : Hid ((op2s (spansOf L)).length = (spansOf L).length) := LH (by simp [op2s])
  have HSl2 : Hid ((spansOf L).length ≤ 1000000) := LH (by
    have := spanL_len (freeAt L) L.length
    unfold spansOf
    rw [HL.out] at this ⊢
    omega)
  generalize (spansOf L).length = nl at *
  clear ho4 hb4 hm4
  go_wp2_with fail
  refine hK _ _ (fun _ => hC2) ?_
  clear hK K
  refine wpSeg_sq (fun K hK => ?_)
  go_wp2_with fail
  refine (ifill_any (B : Int) (by omega) a4 nl c4 (op2s (spansOf L)) HSl.out _ HC4.out HSl2.out).mono ?_
  rw [show (B : Int).toNat = B from rfl, HFill.out]
  rintro e w5 ⟨hb5, ⟨_, T, kk, rfl, hix, hkk, hT⟩ | ⟨hne, _⟩⟩
  case inr => exact absurd rfl hne
  have hC3 := later_step hC2 hb5
  have HIx := LH hix
  have HTt := LH hT
  have HW4 : Hid (w3.heap.size ≤ w4.heap.size) := LH ((later_below hC2).size)
  clear hix hT hb5 HC4 HSl HSl2
  go_wp2_with fail
  refine hK _ _ (fun _ => hC3) ?_
  clear hK K
  refine wpSeg_fl hC3 ?_
  repeat (first | go_big_quiet_step (fail) | quiet_step (fail))
  refine wpQuiet_nil ?_
  have HM5 := LH (HM3.out.later (later_below hC3))
  have HD5 := LH (HD3.out.below (later_below hC3))
  have HT5 := LH (HT3.out.keep ((later_below hC3).block p HT3.out.lt.1) ((later_below hC3).block g HT3.out.lt.2))
  have HFl3 : Hid (∀ k ∈ F.list, k < w.heap.size) := HMF
  have HT3l : Hid (p < w3.heap.size ∧ g < w3.heap.size) := LH HT3.out.lt
  have c0 := HM5.out.cell 0 0 rfl rfl
  clear hC1 hC2 hC3 r0 HM3 HD3 HT3
  refine wpSeg_last ?_
  go_wp2_with fail
  rw [HPE.out]
  have hbx := below_alloc w5 (.cells #[.pointer (some ⟨p, 0, none⟩), .pointer (some ⟨T.p, 0, none⟩), .int .i64 (B : Int)] 87)
  have hTl := HIx.out.mem
  have hsz := HW4.out
  obtain ⟨hG1, hG2, hG3⟩ := HG.out
  have hW0 := HW0.out
  have h3 := HT3l.out
  have hw05 : w0.heap.size ≤ w5.heap.size := by have := HT5.out.lt; omega
  refine ⟨HM5.out.below.trans (hbx.mono HM5.out.below.size), .inl ⟨HOK.out, HS.out, ⟨w5.heap.size, p, g, cc, F, T⟩, kk, rfl, rfl, ?_, hkk, ?_⟩⟩
  · rw [HBm.out]
    refine ⟨heap_alloc_new _ _, HT5.out.keep (hbx.block p HT5.out.lt.1) (hbx.block g HT5.out.lt.2), HD5.out.below hbx, HIx.out.below hbx, HFl.out, ?_⟩
    obtain ⟨M, E, hmp, _⟩ := HIx.out
    have e1 := hmp.ne1
    have e2 := hmp.ne2
    have e3 := hmp.ne3
    have t1 := HTt.out T.p (by simp [Tri.list])
    have t2 := HTt.out T.s (by simp [Tri.list])
    have t3 := HTt.out T.e (by simp [Tri.list])
    have l1 := hTl T.p (by simp [Tri.list])
    have l2 := hTl T.s (by simp [Tri.list])
    have l3 := hTl T.e (by simp [Tri.list])
    have lp := HT5.out.lt
    have hF : ∀ k, w.heap.size ≤ k → k ∉ F.list := fun k hk hm => by have := HFl3.out k hm; omega
    simp only [MF.list, List.nodup_cons, List.mem_cons, not_or]
    refine ⟨⟨by omega, by omega, by omega, by omega, by omega, hF _ (by omega)⟩, ⟨by omega, by omega, by omega, by omega, hF _ (by omega)⟩, ⟨by omega, e1, e2, hF _ (by omega)⟩, ⟨by omega, by omega, hF _ (by omega)⟩, ⟨e3, hF _ (by omega)⟩, hF _ (by omega), HNF.out⟩
  · intro k hk
    have t1 := HTt.out T.p (by simp [Tri.list])
    have t2 := HTt.out T.s (by simp [Tri.list])
    have t3 := HTt.out T.e (by simp [Tri.list])
    simp only [MF.list, List.mem_cons] at hk
    rcases hk with rfl | rfl | rfl | rfl | rfl | rfl | hk
    · right; omega
    · right; omega
    · right; omega
    · right; omega
    · right; omega
    · right; omega
    · exact .inl hk
theorem fmtTo_dirty {S : Dev} (hS : ∀ l, S.dirty.getD l false = false) (hD : S.cache.length = 8 * S.dirty.length) : ∀ k l, (∀ b, 1 ≤ b → b < k → (256 + b) / 8 ≠ l) → (S.fmtTo k).dirty.getD l false = false
 | 0, l, _ => hS l
 | k + 1, l, h => by
  have ih := fmtTo_dirty hS hD k l (fun b h1 h2 => h b h1 (by omega))
  unfold Dev.fmtTo
  split
  ·exact hS l
  ·rename_i hk
   unfold Dev.store
   by_cases c : (((256 + k : Nat) : Int)) < 0 ∨ (((S.fmtTo k).cache.length : Nat) : Int) ≤ ((256 + k : Nat) : Int)
   ·rw [if_pos c]; exact ih
   ·rw [if_neg c]
    split
    ·rw [(S.fmtTo k).step_rest.2.2.2.1]; exact ih
    ·show ((S.fmtTo k).step.dirty.set (((256 + k : Nat) : Int).toNat / 8) true).getD l false = false
     rw [(S.fmtTo k).step_rest.2.2.2.1, List.getD_eq_getElem?_getD, List.getElem?_set_ne (by have := h k (by omega) (by omega); omega), ← List.getD_eq_getElem?_getD]
     exact ih
structure Formed (S : Dev) (B : Nat) : Prop where
 inv : S.inv
 live : S.live
 ok : S.ok 201000
 len : S.cache.length = 512 * B
 dlen : S.dirty.length = 64 * B
 last : S.lasting = S.cache
 dirty : S.dirty = List.replicate (64 * B) false
 pending : S.pending = List.replicate (64 * B) false
 clean : Clean S B
 allOk : AllOk (devWord S) B
 hds : hds (devWord S) B = List.replicate B ⟨0, 0, 0⟩
 word : ∀ b, 1 ≤ b → b < B → devWord S b = encN b 0 0 0
theorem fmt_formed {B : Nat} (hB2 : 2 ≤ B) (hB : B ≤ 100) : Formed ((freshDev (List.replicate (512 * B) 0) (64 * B)).fmt B) B := by
 obtain ⟨S, hS⟩ : ∃ S, S = freshDev (List.replicate (512 * B) 0) (64 * B) := ⟨_, rfl⟩
 rw [← hS]
 have hl : S.cache.length = 512 * B := by rw [hS]; simp [freshDev]
 have hd : S.dirty.length = 64 * B := by rw [hS]; simp [freshDev]
 have hi : S.inv := by rw [hS]; exact fresh_inv (by simp; omega) (by simp; omega) (fun z hz => by simp at hz; omega)
 have hv : S.live := by rw [hS]; exact fresh_live _ _
 have ho : S.ok 100 := by rw [hS]; exact fresh_ok _ _ _
 have hf : ∀ l, S.dirty.getD l false = false := fun l => by
  rw [hS]; unfold freshDev; simp only [List.getD_eq_getElem?_getD, List.getElem?_replicate]; split <;> rfl
 obtain ⟨p1, p2, p3, p5, p4⟩ := fmtTo_props hv ho B (by rw [hl]; omega)
 have hti := fmtTo_inv hi B
 have he := (p1.persist 257 (B - 1) (by omega) (by rw [p3, p5]; exact hi.wf.lenD) (by rw [p3, hl]; omega)).1
 obtain ⟨q1, q2, q3, q4, q5⟩ := Dev.persist_clean hti 257 (B - 1) (by omega) he
 have hfm : S.fmt B = ((S.fmtTo B).persist ((257 : Nat) : Int) ((B - 1 : Nat) : Int)).dev := by unfold Dev.fmt; rw [show ((B : Int) - 1) = ((B - 1 : Nat) : Int) by omega]; rfl
 rw [← hfm] at q1 q3 q4 q5
 have hinv : (S.fmt B).inv := by rw [hfm]; exact Dev.persist_inv hti _ _
 have hdl : (S.fmt B).dirty.length = 64 * B := by rw [q3, p5, hd]
 have hdirty : ∀ l, (S.fmt B).dirty.getD l false = false := by
  intro l
  by_cases c : ∃ b, 1 ≤ b ∧ b < B ∧ (256 + b) / 8 = l
  ·obtain ⟨b, b1, b2, rfl⟩ := c
   exact q4 (256 + b) (by omega) (by omega)
  ·exact q5 l (fmtTo_dirty hf hi.wf.lenD B l (fun b b1 b2 e => c ⟨b, b1, b2, e⟩))
 have hrep : ∀ n l, (List.replicate n false).getD l false = false := fun n l => by simp only [List.getD_eq_getElem?_getD, List.getElem?_replicate]; split <;> rfl
 refine ⟨hinv, ?_, ?_, by rw [q1, p3, hl], hdl, ?_, ?_, ?_, fmt_clean hi hv ho hB2 (by rw [hl]; omega), fmt_ok hv ho B hB2 hi.wf.lenD (by rw [hl]; omega), fmt_hds hv ho B hB2 hi.wf.lenD (by rw [hl]; omega), fmt_words hv ho B hB2 hi.wf.lenD (by rw [hl]; omega)⟩
 ·rw [hfm]; exact p1.persist_live 257 (B - 1) (by omega) (by rw [p3, p5]; exact hi.wf.lenD) (by rw [p3, hl]; omega)
 ·exact (Dev.persist_ok hti.wf p2 _ _).mono (by omega)
 ·exact nat_ext (hinv.wf.lenL) (fun i => hinv.sound i (hdirty _))
 ·exact bool_ext (by rw [hdl]; simp) (fun l => by rw [hdirty, hrep])
 ·refine bool_ext (by rw [hinv.wf.lenP, hdl]; simp) (fun l => ?_)
  rw [hrep]
  cases hp : (S.fmt B).pending.getD l false with
  | false => rfl
  | true => have := hinv.pend l hp; rw [hdirty] at this; cases this
theorem sound_zero (B : Nat) : ∀ f b, soundN (List.replicate B ⟨0, 0, 0⟩) f b = 0
 | 0, _ => rfl
 | f + 1, b => by
  have hz : (List.replicate B (⟨0, 0, 0⟩ : Hd)).getD b default = ⟨0, 0, 0⟩ := by
   simp only [List.getD_eq_getElem?_getD, List.getElem?_replicate]; split <;> rfl
  rw [soundN, hz, sound_zero B f (b + 1)]
  split
  ·rfl
  ·rw [if_neg (by decide), if_neg (by decide)]
theorem Formed.bm {S : Dev} {B : Nat} (h : Formed S B) (hB : 2 ≤ B) : BmOk B (bmOf S B) := by
 have hz : ∀ b, (List.replicate B (⟨0, 0, 0⟩ : Hd)).getD b default = ⟨0, 0, 0⟩ := fun b => by
  simp only [List.getD_eq_getElem?_getD, List.getElem?_replicate]; split <;> rfl
 unfold bmOf
 rw [h.hds]
 refine ⟨by simp, freeL_len _ _ _, h.clean, fun b _ => by dsimp only; rw [hz]; decide, fun b h1 h2 => ?_, fun b => ?_, fun b h1 h2 hk => ?_⟩
 ·dsimp only
  rw [hz]
  have := h.word b h1 h2
  unfold devWord at this
  rw [show (256 + (b : Int)) = ((256 + b : Nat) : Int) by omega, peek_in] at this
  exact this
 ·dsimp only
  rw [freeL_fb, hz]
  unfold freeAt
  rw [hz]
  constructor
  ·rintro ⟨_, h2, h3, _⟩; exact ⟨h2, h3, rfl⟩
  ·rintro ⟨h2, h3, _⟩; exact ⟨h3, h2, h3, rfl⟩
 ·dsimp only at hk; rw [hz] at hk; cases hk
section
variable {P : Program} {C : World → Prop} {ops : Array Oper} {rest : List Oper} {o : Oper} {a : Act}
variable {Q : Exit → Act → World → Prop} {w W : World} {L : List Ent}
end
theorem RAt.arr {w : World} {D : Array Value} {m : Nat} {R : RDev} (h : RAt w (.agg D) m R) : D.size = 8 ∧ D.toList.all (·.oneCell') = true := by
 obtain ⟨an, cn, al, cl, aw, cw, ad, cd, ap, cp, he, _⟩ := h.ex
 cases he
 exact ⟨rfl, rfl⟩
theorem RAt.agg {w : World} {v : Value} {m : Nat} {R : RDev} (h : RAt w v m R) : ∃ D, v = .agg D := by
 obtain ⟨an, cn, al, cl, aw, cw, ad, cd, ap, cp, he, _⟩ := h.ex
 exact ⟨_, he⟩
theorem RAt.oldp {w : World} {v : Value} {m : Nat} {R : RDev} (h : RAt w v m R) (hm : 0 < m) : ∀ b, RIn v b → b < w.heap.size := by
 rcases h.old with h | h
 ·omega
 ·exact h
abbrev vworld (A : AF) (L : Value) : Value := .agg #[valloc A, vdev A.X.F, L]
def zeroW : Array Value := #[.pointer none, .pointer none, .slice none 0 0]
theorem aggW : Agg Tryz.prog 132 zeroW := ⟨⟨_, Tryz.underlying132, rfl⟩, by kernel_rfl⟩
def dev0 (B : Nat) : Dev := (freshDev (List.replicate (512 * B) 0) (64 * B)).fmt B
def al0 (B : Nat) : Al := ⟨bmOf (dev0 B) B, List.replicate (512 * B) false, FL.empty⟩
theorem al0_list {B : Nat} (hB2 : 2 ≤ B) (hB : B ≤ 100) : (al0 B).bm.list = List.replicate B ⟨0, 0, 0⟩ := (fmt_formed hB2 hB).hds
def BegunPost (B : Nat) (w : World) : Ending → World → Prop := fun e w' => ∃ (A : AF) (n : Nat), e = .returned (.tuple #[vworld A (.slice none 0 0), .bool true]) ∧ AlAt w' A n B (al0 B) ∧ n ≤ 1000000 ∧ (∀ k ∈ A.list, w.heap.size ≤ k) ∧ Below w.heap.size w w'
theorem free_small {B : Nat} (b : Nat) : (hdGet (List.replicate B (⟨0, 0, 0⟩ : Hd)) (b : Int)) = ⟨0, 0, 0⟩ := by
 unfold hdGet
 split
 ·rfl
 ·simp only [List.getD_eq_getElem?_getD, List.getElem?_replicate]; split <;> rfl
set_option maxHeartbeats 8000000 in
set_option maxRecDepth 100000 in
theorem begun20_any (B : Nat) (hB2 : 2 ≤ B) (hB : B ≤ 100) (w : World) : Calls Tryz.prog 128 #[.int .i64 (B : Int)] w (BegunPost B w) := by
 generalize hP : BegunPost B w = Post
 have HP := LH hP
 clear hP
 have HM := LH (Mem.two w zeroW 132 #[.int .i64 (B : Int)] 44)
 have HFo : Hid (Formed (dev0 B) B) := LH (fmt_formed hB2 hB)
 go_enter Tryz.func128, Tryz.ntmps128
 go_upto_region 2 with fail
 rw [show (#[.pointer none, .pointer none, .slice none 0 0] : Array Value) = zeroW from rfl]
 generalize (w.alloc _).alloc _ = w0 at *
 obtain ⟨q, hq⟩ : ∃ q, q = w.heap.size := ⟨_, rfl⟩
 rw [← hq] at HM ⊢
 have HQ := LH hq
 clear hq
 have c0 := HM.out.cell 1 0 rfl rfl
 go_wp2_with fail
 refine (gwords_any _ _ (by omega) (by omega)).mono ?_
 rintro e w1 ⟨rfl, hb1⟩
 have HM1 := LH (HM.out.later hb1)
 clear hb1 HM c0
 go_wp2_with fail
 refine (new_any ((B : Int) * 512) _ (by omega)).mono ?_
 rintro e w2 ⟨F, rfl, hF, hd2, hb2⟩
 have hfd : freshDev (List.replicate (8 * ((((B : Int) * 512).toNat + 7) / 8)) 0) ((((B : Int) * 512).toNat + 7) / 8) = freshDev (List.replicate (512 * B) 0) (64 * B) := by
  have h1 : (((B : Int) * 512).toNat + 7) / 8 = 64 * B := by omega
  rw [h1, show 8 * (64 * B) = 512 * B by omega]
 rw [hfd] at hd2
 clear hfd
 obtain ⟨S, hS⟩ : ∃ S, S = freshDev (List.replicate (512 * B) 0) (64 * B) := ⟨_, rfl⟩
 have hlv : S.live := by rw [hS]; exact fresh_live _ _
 have hok : S.ok 100 := by rw [hS]; exact fresh_ok _ _ _
 have hSl : S.cache.length = 512 * B := by rw [hS]; simp [freshDev]
 rw [← hS] at hd2
 have HS0 : Hid (S.fmt B = dev0 B) := LH (by rw [hS]; rfl)
 have HD2 := LH hd2
 have HM2 := LH (HM1.out.later hb2)
 have HF := LH (fun k hk => Nat.le_trans HM1.out.below.size (hF k hk))
 have HF1 := LH (fun k (hk : k ∈ F.list) => Nat.lt_of_lt_of_le (HM1.out.glt 0 rfl) (hF k hk))
 have HF2 := LH (fun k (hk : k ∈ F.list) => Nat.lt_of_lt_of_le (HM1.out.glt 1 rfl) (hF k hk))
 have HLv : Hid (S.live ∧ S.ok 100 ∧ 256 + B ≤ S.cache.length) := LH ⟨hlv, hok, by omega⟩
 clear hd2 hb2 hF hS hlv hok hSl HM1
 unfold vdev
 have c0 := HM2.out.cell 1 0 rfl rfl
 go_wp2_with fail
 refine (format_any HD2.out HLv.out.1 HLv.out.2.1 B hB2 (by omega) HLv.out.2.2).mono ?_
 rintro e w3 ⟨rfl, hd3, ht3⟩
 rw [HS0.out] at hd3
 have HD3 := LH hd3
 have HM3 : Hid (Mem w w3 [⟨q, 132, zeroW.toList, true⟩, ⟨q + 1, 44, [.int .i64 (B : Int)], true⟩]) := LH (by
  have hr := HM2.out.rows
  refine ⟨below_touched HM2.out.below ht3 (fun k hk => HF.out k hk) (Nat.le_refl _), fun x hx => (hr x hx).keep (ht3.block _ (HM2.out.lt x hx) (fun hk => ?_)), HM2.out.base, HM2.out.nd⟩
  simp only [List.mem_cons, List.not_mem_nil, or_false] at hx
  rcases hx with rfl | rfl
  ·exact Nat.lt_irrefl _ (HF1.out _ hk)
  ·exact Nat.lt_irrefl _ (HF2.out _ hk))
 clear hd3 ht3 HM2 HD2 c0 HLv HS0
 have c0 := HM3.out.cell 1 0 rfl rfl
 go_wp2_with fail
 refine (bopen_any HD3.out B (by omega) (by omega)).mono ?_
 rintro e w4 ⟨hb4, ⟨_, _, X, n, rfl, hXF, hm4, hn4, hX4⟩ | ⟨_, hbad, _⟩ | ⟨hbad, _⟩⟩
 case inr.inr => exact absurd HFo.out.allOk hbad
 case inr.inl => exact absurd (by rw [HFo.out.hds]; exact sound_zero B B 1) hbad
 subst hXF
 have HM4 := LH (HM3.out.later hb4)
 have HA4 := LH hm4
 have HXn : Hid (∀ k ∈ X.list, w.heap.size ≤ k ∧ k ≠ q ∧ k ≠ q + 1) := LH (fun k hk => by
  have h1 := HM3.out.glt 0 rfl
  have h2 := HM3.out.glt 1 rfl
  have h3 := HM3.out.below.size
  rcases hX4 k hk with h | h
  ·refine ⟨HF.out k h, fun e => ?_, fun e => ?_⟩
   ·have := HF1.out k h; omega
   ·have := HF2.out k h; omega
  ·exact ⟨Nat.le_trans h3 h, by omega, by omega⟩)
 clear hb4 hm4 hX4 HM3 HD3 c0 HF HF1 HF2
 have HNo : Hid (∀ b : Nat, b < B → (hdGet (bmOf (dev0 B) B).list (b : Int)).k ≠ 1) := LH (fun b _ => by
  have e : (bmOf (dev0 B) B).list = List.replicate B ⟨0, 0, 0⟩ := HFo.out.hds
  rw [e, free_small]; decide)
 have HDl : Hid ((bmOf (dev0 B) B).dev.cache.length = 512 * B) := LH HFo.out.len
 go_wp2_with fail
 refine (anew_free HA4.out (by omega) (by rw [HDl.out]; omega) HNo.out).mono ?_
 rintro e w5 ⟨A, rfl, hAX, ha5, hb5, hA5⟩
 rw [HDl.out] at ha5
 have HA5 : Hid (AlAt w5 A n B (al0 B)) := LH ha5
 have HM5 := LH (HM4.out.later hb5)
 have HAn : Hid (∀ k ∈ A.list, w.heap.size ≤ k ∧ k ≠ q ∧ k ≠ q + 1) := LH (fun k hk => by
  have h1 := HM4.out.glt 0 rfl
  have h2 := HM4.out.glt 1 rfl
  have h3 := HM4.out.below.size
  rcases hA5 k hk with h | h
  ·exact HXn.out k h
  ·exact ⟨Nat.le_trans h3 h, by omega, by omega⟩)
 have HAX := LH hAX
 clear ha5 hb5 hA5 hAX HM4 HA4 HNo HDl
 go_upto_region 9 with fail
 have hAq : A.a ∉ [q] := by have := (HAn.out A.a (by simp [AF.list, AF.fix])).2.1; simpa using this
 have hAm : A.X.m ∉ [q] := by have := (HAn.out A.X.m (by simp [AF.list, AF.fix, MF.list])).2.1; simpa using this
 have HC0 : ∃ x : Near [q] w5, w5.drew = x.val := near_of (Touch.ofBelow (later_below (later_drew w5)))
 have r0 := fun x => near_cell (L := [q]) HA5.out.c0 hAq x
 refine wp_region_seg (C := fun w' => ∃ x : Near [q] w5, w' = x.val) [.fl [0, 1, 2, 3, 4, 5, 6, 7, 8, 9, 10, 11, 12, 13, 14, 15], .sq [16] true, .sq [17] false] (by kernel_rfl) (by kernel_rfl) (by intro c a d v w h; cases d <;> exact h) ?_
 simp only [segs, picks, List.getElem?_cons_succ, List.getElem?_cons_zero]
 refine wpSeg_fl HC0 ?_
 repeat (first | go_big_quiet_step (fail) | quiet_step (fail))
 refine wpQuiet_nil ?_
 have HM6 := LH (HM5.out.later (later_below (later_drew w5)))
 refine wpSeg_sq (fun K hK => ?_)
 go_wp2_with (refine wpList_store_mem aggW HM6.out 0 rfl rfl rfl rfl rfl rfl rfl rfl ?_; intro w6 h6 ht6; have H6 := LH h6; have HT6 := LH ht6; clear h6 ht6)
 have HC1 : ∃ x : Near [q] w5, w6 = x.val := near_of ((Touch.ofBelow (later_below (later_drew w5))).trans HT6.out)
 go_wp2_with fail
 refine hK _ _ (fun _ => HC1) ?_
 clear hK K
 refine wpSeg_last ?_
 go_wp2_with fail
 refine bodyPost_ret (results_cell_row2 (p := 2) (u := 3) rfl _ _ _ _ _ _ _ rfl (H6.out.exact 0 rfl) Tryz.underlying132 rfl (by kernel_rfl)) rfl ?_
 rw [← HP.out]
 have hAe := HAX.out
 subst hAe
 refine ⟨A, n, rfl, ?_, hn4, fun k hk => (HAn.out k hk).1, H6.out.below⟩
 exact (HA5.out.below (later_below (later_drew w5))).keep (fun k hk => HT6.out.block k (Nat.lt_of_lt_of_le (HA5.out.mem k hk) (later_below (later_drew w5)).size) (by have := (HAn.out k hk).2.1; simpa using this))
end Go.Proofs.YtpopbfagliagnaaGreat
namespace Go.Proofs.YtpopbfagliagnaaGreat
open Go.Lib
def over (n d : Int) : Bool := decide (n > 922337203685477580) || decide (n < -922337203685477580) || (decide (n = 922337203685477580) && decide (d > 7)) || (decide (n = -922337203685477580) && decide (d < -8))
end Go.Proofs.YtpopbfagliagnaaGreat
namespace Go.Proofs.YtpopbfagliagnaaGreat
open Go.RowKit
open Go.Lib (decDigits itoa nDigits)
def Gives (v : Value) (w : World) : Ending → World → Prop := fun e w' => e = .returned v ∧ Below w.heap.size w w'
theorem al0_ok {B : Nat} (hB2 : 2 ≤ B) (hB : B ≤ 100) : AlOk B (al0 B) := by
 have hf := fmt_formed hB2 hB
 have hl := al0_list hB2 hB
 have hbm : BmOk B (al0 B).bm := hf.bm hB2
 have hu : ∀ a, (List.replicate (512 * B) false).getD a false = false := fun a => by
  simp only [List.getD_eq_getElem?_getD, List.getElem?_replicate]; split <;> rfl
 refine ⟨hbm, hf.live, hf.len, by simp [al0], fun a ha => ?_, fun k a hk => ?_⟩
 ·have := hu a
  unfold al0 at ha
  dsimp only at ha
  rw [this] at ha; cases ha
 ·have h0 : (al0 B).fl.cnt k a = 0 := by unfold al0 FL.cnt FL.empty; simp
  rw [h0, if_neg]
  rintro ⟨hc, _⟩
  have := isCell_kind hc
  rw [hl] at this
  simp only [List.getD_eq_getElem?_getD, List.getElem?_replicate] at this
  split at this <;> cases this
def nowD (S : Dev) : Dev := freshDev S.cache S.dirty.length
theorem nowD_fit {S : Dev} (h : S.wf) (N : Nat) : (nowD S).fit N :=
 ⟨⟨rfl, by simp [nowD, freshDev], by simp [nowD, freshDev], by simp [nowD, freshDev, h.lenD], h.small, h.u64C, h.u64C, fun z hz => by simp [nowD, freshDev] at hz; omega⟩, fresh_ok _ _ _, fun h => by cases h⟩
end Go.Proofs.YtpopbfagliagnaaGreat
namespace Go.Proofs.YtpopbfagliagnaaGreat
section
variable {ok : Nat → Prop} {P : Nat → List Nat} {f seen rest : List Nat}
end
structure Mk where
 ms : List Bool
 sc : List Bool
 st : List Nat
 most : Nat
 miss : Nat
 again : Bool
 cur : Nat
section
variable {U : List Bool} {P : Nat → List Nat} {M : Mk}
end
end Go.Proofs.YtpopbfagliagnaaGreat
namespace Go.Proofs.YtpopbfagliagnaaGreat
open Go.RowKit
section
variable {B : Nat} {m m' : Al} {xs : List Nat}
end
def Off (Q : List Nat) (w w' : World) : Prop := ∃ L, Touch L w w' ∧ ∀ k ∈ Q, k ∉ L
theorem Off.ofBelow {Q : List Nat} {w w' : World} (h : Below w.heap.size w w') : Off Q w w' := ⟨[], Touch.ofBelow h, by simp⟩
section
variable {w wr w' : World} {Q : List Nat} {A : AF} {n n' B N N' : Nat} {m m' : Al} {v v' : Value} {xs xs' : List Nat}
end
end Go.Proofs.YtpopbfagliagnaaGreat
namespace Go.Proofs.YtpopbfagliagnaaGreat
variable {B : Nat} {m : Al}
def Snd (L : List Hd) : Prop := ∀ q, 1 ≤ q → (L.getD q default).k = 3 → ∃ a, 1 ≤ a ∧ a < q ∧ (L.getD a default).k = 2 ∧ (q : Int) < (a : Int) + (L.getD a default).l
def cellsTo (u : Nat → Bool) (b k : Nat) : Nat → List Nat
 | 0 => []
 | n + 1 => cellsTo u b k n ++ if u (cellOf b k n) then [] else [cellOf b k n]
def isSm (L : List Hd) (k b : Nat) : Bool := decide ((L.getD b default).k = 1) && decide ((L.getD b default).c = (k : Int))
def freeTo (u : Nat → Bool) (L : List Hd) (k : Nat) : Nat → List Nat
 | 0 => []
 | n + 1 => freeTo u L k n ++ if isSm L k (n + 1) then cellsTo u (n + 1) k (clsCells k) else []
theorem cellOf_lt {b k i j : Nat} (hk : k < 32) (h : i < j) : cellOf b k i < cellOf b k j := by
 have hp := clsWords_pos (k : Int) (by omega)
 unfold cellOf
 have : (i + 1) * clsWords k ≤ j * clsWords k := Nat.mul_le_mul_right _ h
 rw [Nat.add_mul, Nat.one_mul] at this
 omega
end Go.Proofs.YtpopbfagliagnaaGreat
namespace Go.Proofs.YtpopbfagliagnaaGreat
open Go.RowKit Go.Shelf
attribute [local go_sem] Oper.semAt_some
theorem onesF_next {l : List Bool} {a : Nat} : onesF l a = match nextB l a with | some i => i :: onesF l (i + 1) | none => [] := by
 cases h : nextB l a with
 | none => exact onesF_none h
 | some i => exact onesF_step h
def Coming (l : List Bool) (pre : List Nat) (o : Option Nat) : Prop := onesL l = pre ++ (match o with | some i => i :: onesF l (i + 1) | none => [])
theorem Coming.start (l : List Bool) : Coming l [] (nextB l 0) := by unfold Coming; rw [List.nil_append, ← onesF_zero]; exact onesF_next
theorem Coming.next {l : List Bool} {pre : List Nat} {i : Nat} (h : Coming l pre (some i)) : Coming l (pre ++ [i]) (nextB l (i + 1)) := by
 unfold Coming at h ⊢
 rw [h, ← onesF_next]; simp
theorem Coming.done {l : List Bool} {pre : List Nat} (h : Coming l pre none) : pre = onesL l := by unfold Coming at h; simpa using h.symm
theorem Coming.lt {l : List Bool} {pre : List Nat} {i : Nat} (h : Coming l pre (some i)) : pre.length < (onesL l).length := by unfold Coming at h; rw [h]; simp
theorem Coming.pre {l : List Bool} {pre : List Nat} {i : Nat} (h : Coming l pre (some i)) : pre ++ [i] <+: onesL l := by unfold Coming at h; rw [h]; exact ⟨onesF l (i + 1), by simp⟩
theorem Coming.in_ {l : List Bool} {pre : List Nat} {i : Nat} (h : Coming l pre (some i)) : i < l.length := by
 have : i ∈ onesL l := by unfold Coming at h; rw [h]; simp
 unfold onesL at this
 exact List.mem_range.1 (List.mem_filter.1 this).1
theorem nextV_eq (o : Option Nat) : nextV o = .tuple #[.int .i64 ((o.getD 0 : Nat) : Int), .bool o.isSome] := by cases o <;> rfl
def leftB (n : Nat) (v b : Value) : Nat := match b with
 | .bool true => n + 1 - (intOf v).toNat
 | _ => 0
theorem leftB_next {l : List Bool} {pre : List Nat} {i : Nat} (h : Coming l pre (some i)) : leftB l.length (.int .i64 (((nextB l (i + 1)).getD 0 : Nat) : Int)) (.bool (nextB l (i + 1)).isSome) < leftB l.length (.int .i64 (i : Int)) (.bool true) := by
 have hi := h.in_
 cases ho : nextB l (i + 1) with
 | none => simp [leftB, intOf]; omega
 | some j =>
  have := nextB_is ho
  simp [leftB, intOf]; omega
def KpB (n₀ Bn : Nat) (A B : World) : Prop := Below n₀ A B ∧ B.heap[Bn]? = A.heap[Bn]?
theorem KpB.trans {n₀ Bn : Nat} {A B C : World} (h : KpB n₀ Bn A B) (k : KpB n₀ Bn B C) : KpB n₀ Bn A C := ⟨h.1.trans k.1, k.2.trans h.2⟩
theorem KpB.book {n₀ Bn : Nat} {w : World} (hn : n₀ ≤ w.heap.size) (hB : Bn < w.heap.size) (W : World) (l : Nat) (o o' : Obj) (hl : w.heap.size ≤ l) (h : W.heap[l]? = some o) (h1 : o.isCells = false) (h2 : o.isWalk = false) : KpB n₀ Bn W (W.putObj l o') :=
 ⟨belowK_b hn W l o o' hl h h1 h2, World.putObj_heap_other (by omega)⟩
set_option maxRecDepth 100000 in
set_option maxHeartbeats 2000000 in
theorem sall1_in {X : SetF} {l : List Bool} (n : Nat) (hn : 1 ≤ n) (lp Bn n₀ : Nat) (J Jx : List Nat → World → Prop)
  (hY : ∀ pre (x : Nat) W, J pre W → pre.length < (onesL l).length → YieldAt Fence.wide (n - 1) Tryz.prog lp #[.int .i64 (x : Int)] W fun e W' =>
   (e = .returned (.bool true) ∧ J (pre ++ [x]) W' ∧ KpB n₀ Bn W W') ∨ (e = .returned (.bool false) ∧ Jx (pre ++ [x]) W'))
  (W : World) (hBn : Boxed W Bn 74 (vset X)) (hS : SetAt W X l) (hX : ∀ k ∈ X.list, k < n₀) (h0 : J [] W) :
  CallsIn Fence.wide n Tryz.prog 280 #[.func (.yield lp) #[] #[], .pointer (some ⟨Bn, 0, none⟩)] W fun e W' => (∃ v, e = .returned v) ∧
   ((∃ ys, ys = onesL l ∧ J ys W') ∨ (∃ pre, pre <+: onesL l ∧ Jx pre W')) := by
 have HS := LH hS
 refine callsIn_of_wp Tryz.func280 rfl trivial ?_ rfl
 simp only [Tryz.ntmps280, List.size_toArray, List.length_cons, List.length_nil, Nat.reduceAdd, Nat.reduceSub, Array.replicate_succ, Array.replicate_zero, List.push_toArray, List.append_toArray, List.nil_append, List.cons_append]
 have HN0 := LH (snext_any hS 0)
 rw [show (0 : Int).toNat = 0 from rfl, nextV_eq] at HN0
 have HC0 := LH (Coming.start l)
 generalize nextB l 0 = o0 at *
 have hc0 := hBn.cell
 clear hS
 gi_wp2_with (refine ⟨trivial, ?_⟩; gi_at_call 281; refine (callsIn_wide.2 HN0.out).mono ?_; rintro e w1 ⟨rfl, rfl⟩)
 gi_loopw [3, 4] (fun v b wr => ∃ (pre : List Nat) (o : Option Nat), v = .int .i64 ((o.getD 0 : Nat) : Int) ∧ b = .bool o.isSome ∧ Hid (Coming l pre o) ∧ Hid (SetAt wr X l) ∧ Boxed wr Bn 74 (vset X) ∧ J pre wr) (fun v b _ => leftB l.length v b)
 case atStart => exact ⟨[], o0, rfl, rfl, HC0, HS, hBn, h0⟩
 case round =>
  clear HN0 hBn h0 HS HC0 hc0
  obtain ⟨pre, o, rfl, rfl, HC, HS, hBn, hJ⟩ := hrel
  cases o with
  | none =>
   simp only [Option.isSome_none, Option.getD_none]
   gi_wp2
   go_end0
   exact ⟨⟨_, rfl⟩, .inl ⟨pre, HC.out.done, hJ⟩⟩
  | some i =>
   simp only [Option.isSome_some, Option.getD_some]
   obtain ⟨fn, tmps, assign, body, hy, hR⟩ := hY pre i wr hJ HC.out.lt
   gi_wp2
   refine hR.mono ?_
   rintro e W3 (⟨rfl, hJ3, hk3⟩ | ⟨rfl, hJx3⟩)
   ·have hBn3 : Boxed W3 Bn 74 (vset X) := hk3.2.trans hBn
    have hc3 := hBn3.cell
    have HS3 := LH (HS.out.keep (fun k hk => hk3.1.block k (hX k hk)))
    have HN := LH (snext_any HS3.out ((i : Int) + 1))
    rw [show ((i : Int) + 1).toNat = i + 1 by omega, nextV_eq] at HN
    have HL := LH (leftB_next HC.out)
    have HC3 := LH HC.out.next
    have hil := HC.out.in_
    have hls := HS.out.small
    clear hk3 hy hR
    generalize nextB l (i + 1) = o at *
    gi_wp2_with (refine ⟨trivial, ?_⟩; gi_at_call 281; refine (callsIn_wide.2 HN.out).mono ?_; rintro e w1 ⟨rfl, rfl⟩)
    go_roundw
    case rel => exact ⟨pre ++ [i], o, rfl, rfl, HC3, HS3, hBn3, hJ3⟩
    case measure => exact HL.out
   ·gi_wp2
    refine bodyPost_ret (results_none rfl _ _ _) rfl ?_
    exact ⟨⟨_, rfl⟩, .inr ⟨pre ++ [i], HC.out.pre, hJx3⟩⟩
set_option maxHeartbeats 1000000 in
theorem sall_in (X : SetF) (n : Nat) (w : World) :
  CallsIn Fence.wide n Tryz.prog 215 #[vset X] w fun e w' => e = .returned (.func (.func 280) #[] #[.pointer (some ⟨w.heap.size, 0, none⟩)]) ∧ w' = w.alloc (.cells #[vset X] 74) := by
 refine callsIn_of_wp Tryz.func215 rfl trivial ?_ rfl
 simp only [Tryz.ntmps215, List.size_toArray, List.length_cons, List.length_nil, Nat.reduceAdd, Nat.reduceSub, Array.replicate_succ, Array.replicate_zero, List.push_toArray, List.append_toArray, List.nil_append, List.cons_append]
 gi_wp2
 go_ret
 exact ⟨rfl, rfl⟩
theorem sall_stops {X : SetF} {l : List Bool} (n : Nat) (hn : 1 ≤ n) (Bn n₀ : Nat) (w : World) (hn₀ : n₀ ≤ w.heap.size) (hc : Boxed w Bn 74 (vset X)) (hS : SetAt w X l) (hX : ∀ k ∈ X.list, k < n₀) :
  SeqStopsK Fence.wide n Tryz.prog 280 #[.pointer (some ⟨Bn, 0, none⟩)] (fun x : Nat => #[Value.int .i64 (x : Int)]) (KpB n₀ Bn) (fun ys => ys = onesL l) (fun pre => pre <+: onesL l) (onesL l).length w := fun lp J Jx W hW _ _ hY h0 =>
 sall1_in n hn lp Bn n₀ J Jx hY W ((hW.block Bn hc.lt).trans hc) (hS.below hW) hX h0
theorem infoInt : (Tryz.prog.info? 3).map (fun i => (i.zero, i.size, i.bytes)) = some (some (.int .i64 0), 1, 8) := by kernel_rfl
def ListPost (w : World) (xs : List Nat) : Ending → World → Prop := fun e w' => ∃ v, e = .returned v ∧ w'.ownsRow w.heap.size 3 1 v xs.length (xs.map vi) ∧ (v = .slice none 0 0 ↔ xs = []) ∧ Below w.heap.size w w'
set_option maxRecDepth 100000 in
set_option maxHeartbeats 2000000 in
theorem slist_any {w : World} {X : SetF} {l : List Bool} (h : SetAt w X l) : Calls Tryz.prog 122 #[vset X] w (ListPost w (onesL l)) := by
 have hlen : (onesL l).length ≤ 1000000 := by rw [onesL_length]; exact Nat.le_trans (count_le_len l) h.small
 obtain ⟨i0, hi, hz0, hz1, hz2⟩ := info_parts infoInt
 refine (callsIn_wide (n := 5)).1 ?_
 refine callsIn_of_wp_marks Tryz.func122 rfl trivial ?_ rfl
 simp only [Tryz.ntmps122, List.size_toArray, List.length_cons, List.length_nil, Nat.reduceAdd, Nat.reduceSub, Array.replicate_succ, Array.replicate_zero, List.push_toArray, List.append_toArray, List.nil_append, List.cons_append]
 gi_wp2_with (refine ⟨trivial, ?_⟩; gi_at_call 215; refine (sall_in X _ _).mono ?_; rintro e w' ⟨rfl, rfl⟩)
 have bO := Boxed.new w 47 (.slice none 0 0)
 have bN := Boxed.new (w.alloc (.cells #[.slice none 0 0] 47)) 74 (vset X)
 rw [World.size_alloc] at bN
 have hB0 : Below w.heap.size w ((w.alloc (.cells #[.slice none 0 0] 47)).alloc (.cells #[vset X] 74)) := ((Below.refl _ w).alloc (Nat.le_refl _) _).alloc (by simp) _
 refine wpIn_rangeFunc_ownG rfl (by omega) (gf := 280) (lb := #[.pointer (some ⟨w.heap.size + 1, 0, none⟩)]) rfl trivial (enters_of Tryz.func280 (by kernel_rfl) rfl)
  (sall_stops 4 (by omega) (w.heap.size + 1) w.heap.size _ (by simp; omega) bN (h.below hB0) h.mem) KpB.trans (KpB.book (by simp; omega) (by simp)) (Below.refl _ _) (fun _ => rfl)
  (fun pre W => (∃ v, Boxed W w.heap.size 47 v ∧ W.ownsRow w.heap.size 3 1 v pre.length (pre.map vi) ∧ (v = .slice none 0 0 ↔ pre = [])) ∧ Boxed W (w.heap.size + 1) 74 (vset X) ∧ Below w.heap.size w W)
  (fun _ _ _ => False)
  (OwnFrom.and (Own.from (holdsRow_own w.heap.size w.heap.size 47 3 1 (fun pre : List Nat => pre.length) (fun pre => pre.map vi) (fun pre v => v = .slice none 0 0 ↔ pre = [])) _) (OwnFrom.and (Own.from (boxed_own _ _ _) _) (ownFrom_below (Nat.le_refl _) (by simp; omega))))
  (fun _ _ _ _ _ hs _ _ => hs)
  ⟨⟨_, bO.alloc _, World.ownsRow_nil _ _ _ _, by simp⟩, bN, hB0⟩
  (fun x => { tmps := #[vset X, undef, .slice none 0 0, .pointer (some ⟨w.heap.size, 0, none⟩), .int .i64 (x : Int), vset X, .func (.func 280) #[] #[.pointer (some ⟨w.heap.size + 1, 0, none⟩)], .int .i64 (x : Int), undef, undef, undef, undef, undef], defers := [] }) ?assign ?body ?done ?stop
 case assign =>
  intro l x W K hK
  gi_wp2
  exact hK
 case body =>
  rintro l' pre x W ⟨⟨v, hv, hrow, hnil⟩, hX, hB⟩ hlt
  have hc := hv.cell
  gi_wp2_with (gi_at_builtin; refine wpListIn_append_own _ rfl _ _ 47 rfl w.heap.size 3 i0 (.int .i64 0) 1 8 Tryz.underlying47 hi hz0 hz1 hz2 rfl (by decide) _ _ _ rfl (hrow.alloc _) ⟨W.heap.size, 0, none⟩ 1 1 [.int .i64 (x : Int)] rfl rfl (cell_one_new _ _ _) (by simp [Value.oneCell']) (by have : maxLen = 9223372036854775807 := rfl; omega) (by omega) (by have := hB.size; simp; omega) ?_; intro v' w1 hown' hgrow _; obtain ⟨g', cap', rfl⟩ := ownsRow_succ hown'; obtain ⟨hv1, hv2, hr2, hk2, hb2⟩ := hv.appended (by decide) hrow hB.size (Nat.le_refl _) hown' hgrow; have hc1 := hv1.cell; have hf1 := hv1.frozen)
  have hX2 := Boxed.other ((hX.alloc _).kept hgrow (hX.not_row (by decide) hrow)) (show w.heap.size + 1 ≠ w.heap.size by omega) (Value.slice (some ⟨g', 0, none⟩) (pre.length + 1) cap')
  exact ⟨hk2.from _, ⟨hb2, hX2.trans hX.symm⟩, ⟨_, hv2, by simpa using hr2, by simp⟩, hX2, hB.trans hb2⟩
 case done =>
  rintro D ys W hD rfl ⟨⟨v, hv, hrow, hnil⟩, _, hB⟩ hK
  have hc := hv.cell
  gi_wp2
  refine ⟨by simp, .inl ⟨_, _, rfl, run_takeDeferred hK, ?_⟩⟩
  exact ⟨_, results_tmp rfl _ _ _, v, rfl, ownsRow_putObj hrow _ hK rfl, hnil, hB.trans (belowK_b (w := w) (Nat.le_refl _) W D _ _ (by simp at hD; omega) hK rfl rfl)⟩
 case stop =>
  rintro D c pre W _ _ h _
  exact h.elim
end Go.Proofs.YtpopbfagliagnaaGreat
namespace Go.Proofs.YtpopbfagliagnaaGreat
open Go.RowKit
set_option maxHeartbeats 400000 in
theorem adev_any {w : World} {A : AF} {n B : Nat} {m : Al} (h : AlAt w A n B m) :
  Calls Tryz.prog 175 #[valloc A] w fun e w' => e = .returned (vdev A.X.F) ∧ w = w' := by
 have c1 := h.c1
 clear h
 go_enter Tryz.func175, Tryz.ntmps175
 go_wp2_with fail
 go_ret
 exact ⟨rfl, rfl⟩
set_option maxHeartbeats 400000 in
theorem aused_any {w : World} {A : AF} {n B : Nat} {m : Al} (h : AlAt w A n B m) (x : Int) :
  Calls Tryz.prog 62 #[valloc A, .int .i64 x] w fun e w' => e = .returned (.bool (hasI m.used x)) ∧ w = w' := by
 have c3 := h.c3
 have HS := LH h.set
 clear h
 go_enter Tryz.func62, Tryz.ntmps62
 go_wp2_with fail
 refine (shas_any HS.out x).mono ?_
 rintro e w1 ⟨rfl, rfl⟩
 go_wp2_with fail
 go_ret
 exact ⟨rfl, rfl⟩
set_option maxHeartbeats 400000 in
theorem aobjects_any {w : World} {A : AF} {n B : Nat} {m : Al} (h : AlAt w A n B m) :
  Calls Tryz.prog 35 #[valloc A] w (ListPost w (onesL m.used)) := by
 have c3 := h.c3
 have HS := LH h.set
 have HP : Hid (∀ e w', ListPost w (onesL m.used) e w' → ListPost w (onesL m.used) e w') := LH (fun _ _ h => h)
 generalize hP : ListPost w (onesL m.used) = Post at *
 clear h
 go_enter Tryz.func35, Tryz.ntmps35
 go_wp2_with fail
 refine (slist_any HS.out).mono ?_
 rw [hP]
 rintro e w1 hp
 have HPp := LH hp
 rw [← hP] at hp
 obtain ⟨v, rfl, _⟩ := hp
 clear hP
 go_wp2_with fail
 exact HPp.out
theorem ListPost.own {w w' : World} {xs : List Nat} {e : Ending} (h : ListPost w xs e w') : ∃ a c, e = .returned (.slice a xs.length c) ∧ Cells w' a (xs.map vi) ∧ Below w.heap.size w w' ∧ (∀ b o s, a = some ⟨b, o, s⟩ → w.heap.size ≤ b) := by
 obtain ⟨v, rfl, ho, _, hb⟩ := h
 obtain ⟨a, c, rfl, _⟩ := owned_form ho
 exact ⟨a, c, rfl, Cells.owned ho, hb, fun b o s e => by subst e; exact owned_addr ho _ rfl⟩
end Go.Proofs.YtpopbfagliagnaaGreat
namespace Go.Proofs.YtpopbfagliagnaaGreat
open Go.RowKit Go.Maps
end Go.Proofs.YtpopbfagliagnaaGreat
