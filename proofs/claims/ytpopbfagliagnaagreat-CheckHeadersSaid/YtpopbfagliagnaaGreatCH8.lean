/- Parts of the proof, one behind the other: Wf, Wg, Wm, Wh, Wi, Wj, Wk, Fi, Fj, Fk, Wc, Fl, Wl, Ws, M, Fn, Fo, Fp, Fq, Fr, Zd, Jx, Zi, Zj, Sb, Js, Zh, Zk, Ga, Gb, Gc, Fs, Gd, Zo, Wd, Ge, Tx, Ft, Fu, Pa, Pb, Th, Pc, Ti, Ha, Ta, Tb, Tj, Kb, Fv, Fw, Fx, Pf, Kc, Kd, Kf, Kg, Kh, Ki, Kj, Kk, Kl, Cn, Co, Cq, Gs, Cu, Ct, Cv. -/
import Derived.Test.YtpopbfagliagnaaGreatCH7
import Derived.Lib.SliceRun
import Derived.Deep.DeepCutAuto
import Derived.Deep.CutBlock
import Derived.WalkKit
import Derived.Deep.Cut
import Derived.Test.YtpopbfagliagnaaGreatProg
import Derived.Shelf.Strings.Builder1
import Derived.OrdersIn
import Derived.RangeFuncNested
set_option linter.unusedVariables false
namespace Go.Proofs.YtpopbfagliagnaaGreat
open Go.RowKit
structure MkF where
 p : Nat
 X : SetF
 Y : SetF
 s : Nat
 v : Value
section
variable {w w' : World} {A : AF} {K : MkF} {M : Mk}
end
section
variable {w w0 w1 w' : World} {A : AF} {n B : Nat} {m : Al} {K : MkF} {M M' : Mk}
end
section
variable {w : World} {A : AF} {K : MkF} {M : Mk}
end
section
variable {w : World} {A : AF} {n B : Nat} {m : Al} {K : MkF} {M : Mk}
end
end Go.Proofs.YtpopbfagliagnaaGreat
namespace Go.Proofs.YtpopbfagliagnaaGreat
section
variable {U : List Bool} {P : Nat → List Nat} {M : Mk}
section
variable {b : Bool} {M' : Mk}
end
end
end Go.Proofs.YtpopbfagliagnaaGreat
namespace Go.Proofs.YtpopbfagliagnaaGreat
open Go.RowKit
section
variable {w : World} {A : AF} {n B : Nat} {m : Al} {K : MkF} {M : Mk}
end
section
variable {U : List Bool} {P : Nat → List Nat} {M : Mk}
end
section
variable {w : World} {A : AF} {n B : Nat} {m : Al} {K : MkF} {M : Mk}
end
section
variable {w : World} {A : AF} {n B : Nat} {m : Al} {K : MkF} {M : Mk}
end
end Go.Proofs.YtpopbfagliagnaaGreat
namespace Go.Proofs.YtpopbfagliagnaaGreat
open Go.RowKit Go.Maps
set_option maxHeartbeats 1000000 in
theorem afreeCells_any {w : World} {A : AF} {n B : Nat} {m : Al} (h : AlAt w A n B m) (hL : m.fl.upto 900000) (k : Nat) (hk : k < 32) :
  Calls Tryz.prog 41 #[valloc A, .int .i64 (k : Int)] w (ListI w m.fl k) := by
 have HL := LH (flist_any h.free hL k hk)
 have c4 := h.c4
 have HP : Hid (∀ e w', ListI w m.fl k e w' → ListI w m.fl k e w') := LH (fun _ _ h => h)
 clear h hL
 generalize hPo : ListI w m.fl k = Post at *
 go_enter Tryz.func41, Tryz.ntmps41
 go_wp2_with fail
 refine HL.out.mono ?_
 intro e w1 h1
 have h2 := h1
 rw [← hPo] at h2
 obtain ⟨v, ys, rfl, _⟩ := h2
 have H1 := LH h1
 clear h1 hPo
 go_wp2_with fail
 exact H1.out
end Go.Proofs.YtpopbfagliagnaaGreat
namespace Go.Proofs.YtpopbfagliagnaaGreat
open Go.RowKit
theorem dev0_ok {B : Nat} (hB2 : 2 ≤ B) (hB : B ≤ 100) : (dev0 B).ok 201000 := (fmt_formed hB2 hB).ok
section
variable {w wr w' : World} {Q Q' : List Nat} {A : AF} {n N N' : Nat} {m m' : Al} {v : Value} {xs : List Nat} {K : MkF} {M M' : Mk}
end
end Go.Proofs.YtpopbfagliagnaaGreat
namespace Go.Proofs.YtpopbfagliagnaaGreat
open Go.RowKit Go.Maps
end Go.Proofs.YtpopbfagliagnaaGreat
namespace Go.Proofs.YtpopbfagliagnaaGreat
open Go.RowKit
end Go.Proofs.YtpopbfagliagnaaGreat
namespace Go.Proofs.YtpopbfagliagnaaGreat
open Go.RowKit Go.Maps
section
variable {P : Program} {C : World → Prop} {ops : Array Oper} {rest : List Oper} {o : Oper} {a : Act} {Q : Act → Prop}
end
section
variable {w : World} {P : Program} {ops : Array Oper} {rest : List Oper} {o : Oper} {act : Act} {Q : Exit → Act → World → Prop}
end
end Go.Proofs.YtpopbfagliagnaaGreat
namespace Go.Proofs.YtpopbfagliagnaaGreat
open Go.RowKit
end Go.Proofs.YtpopbfagliagnaaGreat
namespace Go.Proofs.YtpopbfagliagnaaGreat
open Go.Lib (decDigits itoa nDigits)
end Go.Proofs.YtpopbfagliagnaaGreat
namespace Go.Proofs.YtpopbfagliagnaaGreat
open Go.RowKit
open Go.Lib (decDigits itoa nDigits)
open Go.Lib (decDigits itoa nDigits)
open Go.Lib (decDigits itoa nDigits)
section
variable {P : Program} {w : World} {ops : Array Oper} {rest : List Oper} {o : Oper} {a : Act} {Q : Exit → Act → World → Prop}
end
end Go.Proofs.YtpopbfagliagnaaGreat
namespace Go.Proofs.YtpopbfagliagnaaGreat
open Go.RowKit Go.Shelf
end Go.Proofs.YtpopbfagliagnaaGreat
namespace Go.Proofs.YtpopbfagliagnaaGreat
open Go.RowKit
def nlB (wd : Int) (b B : Nat) : Prop := 0 < wd ∧ (b : Int) % wd = 0 ∧ (b : Int) < (B : Int) - 1
instance (wd : Int) (b B : Nat) : Decidable (nlB wd b B) := by unfold nlB; infer_instance
open Go.Lib (decDigits itoa nDigits)
open Go.Lib (decDigits itoa nDigits)
set_option maxHeartbeats 2000000 in
theorem rwhole_any (a : Option Addr) (n cap : Nat) (l : List Hd) (hn : l.length = n) (w : World) (hc : Cells w a (hdCs l)) (hl : n ≤ 1000) (b : Nat) (hb : b < n) :
  Calls Tryz.prog 217 #[.slice a n cap, .int .i64 (b : Int)] w (Gives (.int .i64 (wholeN l b : Nat)) w) := by
 have hbl : b < l.length := by rw [hn]; exact hb
 obtain ⟨k, c, z, he⟩ := hdGetD l b
 have HW : Hid (wholeN l b = if k ≠ 2 ∨ z < 1 ∨ (n : Int) - b < z then 0 else if contTo l b z.toNat then z.toNat else 0) := LH (by
  unfold wholeN
  rw [he, hn]
  dsimp only
  by_cases h1 : k ≠ 2 ∨ z < 1 ∨ (n : Int) - b < z
  ·rw [if_pos (.inr h1), if_pos h1]
  ·rw [if_neg h1, if_neg (by rintro (h | h); omega; exact h1 h)])
 obtain ⟨b1, o1, rfl, d0, d1, d2⟩ := hd_cells hc hbl he
 have HC := LH hc
 have HN := LH hn
 have HP : Hid (∀ (x : Int) w', x = (wholeN l b : Int) → Below w.heap.size w w' → Gives (.int .i64 (wholeN l b : Nat)) w (.returned (.int .i64 x)) w') := LH (fun x w' h1 h2 => by subst h1; exact ⟨rfl, h2⟩)
 generalize Gives (.int .i64 (wholeN l b : Nat)) w = Post at *
 have HB1 : Hid (b1 < w.heap.size) := LH (by
  have : (w.cell? ⟨b1, o1 + b * 3, none⟩).isSome = true := by rw [d0]; rfl
  apply Classical.byContradiction
  intro hc
  have hnone : w.heap[b1]? = none := Array.getElem?_eq_none (by omega)
  simp [World.cell?, hnone] at this)
 have HD2 := LH d2
 clear hc hn he d1
 have hbn : (b : Int) < (n : Int) := by omega
 by_cases hk : k = 2
 case neg =>
  have HE : Hid (wholeN l b = 0) := LH (by rw [HW.out, if_pos (.inl hk)])
  have hk' : (k != 2) = true := by simpa using hk
  clear hk
  go_enter Tryz.func217, Tryz.ntmps217
  go_wp2_with fail
  exact HP.out _ _ (by rw [HE.out]; rfl) (Below.refl _ _)
 subst hk
 by_cases hz : z < 1
 ·have HE : Hid (wholeN l b = 0) := LH (by rw [HW.out, if_pos (.inr (.inl hz))])
  go_enter Tryz.func217, Tryz.ntmps217
  go_wp2_with fail
  exact HP.out _ _ (by rw [HE.out]; rfl) (Below.refl _ _)
 by_cases hz2 : (n : Int) - b < z
 ·have HE : Hid (wholeN l b = 0) := LH (by rw [HW.out, if_pos (.inr (.inr hz2))])
  have hw1 : IntKind.i64.wrap ((n : Int) - (b : Int)) = (n : Int) - (b : Int) := IntWalk.i64_in _ (by omega)
  go_enter Tryz.func217, Tryz.ntmps217
  go_wp2_with fail
  exact HP.out _ _ (by rw [HE.out]; rfl) (Below.refl _ _)
 obtain ⟨m, rfl⟩ := Int.eq_ofNat_of_zero_le (show 0 ≤ z by omega)
 have hm1 : 1 ≤ m := by omega
 have hmn : b + m ≤ n := by omega
 have HW2 : Hid (wholeN l b = if contTo l b m then m else 0) := LH (by rw [HW.out, if_neg (by rintro (h | h | h); exact h rfl; omega; omega)]; rfl)
 have hw1 : IntKind.i64.wrap ((n : Int) - (b : Int)) = (n : Int) - (b : Int) := IntWalk.i64_in _ (by omega)
 clear HW hz hz2
 go_enter Tryz.func217, Tryz.ntmps217
 go_wp2_with fail
 go_loopw [5] (fun i wr => ∃ j : Nat, 1 ≤ j ∧ j ≤ m ∧ i = .int .i64 (j : Int) ∧ contTo l b j = true ∧ Below w.heap.size w wr) (fun i _ => m - (intOf i).toNat)
 case atStart => exact ⟨1, Nat.le_refl _, hm1, rfl, by simp [contTo], Below.refl _ _⟩
 case round =>
  obtain ⟨j, hj1, hjm, rfl, hco, hbe⟩ := hrel
  have HCo := LH hco
  have HB := LH hbe
  have e9 := (HB.out.cell (p := ⟨b1, o1 + b * 3 + 2, none⟩) HB1.out).trans HD2.out
  clear hco hbe d0 d2
  by_cases hlt : j < m
  ·have hlt' : (j : Int) < (m : Int) := by omega
   have hin : b + j < n := by omega
   have hin' : (b : Int) + (j : Int) < (n : Int) := by omega
   obtain ⟨k2, c2, z2, he2⟩ := hdGetD l (b + j)
   obtain ⟨b2, o2, hee, e0, e1, e2⟩ := hd_cells (HC.out.below HB.out (Nat.le_refl _)) (by rw [HN.out]; exact hin) he2
   cases hee
   have hto : ((b : Int) + (j : Int)).toNat = b + j := by omega
   have HE2 := LH he2
   have HNo : Hid ((⟨k2, c2, z2⟩ : Hd) ≠ ⟨3, 0, (j : Int)⟩ → wholeN l b = 0) := LH (fun hq => by rw [HW2.out, contTo_no hj1 hlt (by rw [he2]; exact hq)]; rfl)
   clear he2
   go_upto_region 7 with fail
   have HMa := LH (Mem.one wr #[.int .i64 k2, .int .i64 c2, .int .i64 z2] 101)
   have HBa := LH (HB.out.trans (HMa.out.below.mono HB.out.size))
   generalize wr.alloc _ = wa at *
   have f0 := HMa.out.cell 0 0 rfl rfl
   have f1 := HMa.out.cell 0 1 rfl rfl
   have f2 := HMa.out.cell 0 2 rfl rfl
   by_cases h1 : k2 = 3
   ·subst h1
    by_cases h2 : c2 = 0
    ·subst h2
     by_cases h3 : z2 = (j : Int)
     ·subst h3
      have HCo2 : Hid (contTo l b (j + 1) = true) := LH (by rw [contTo, HCo.out, HE2.out]; simp)
      have hne : ((j : Int) != (j : Int)) = false := by simp
      go_wp2_with fail
      exact ⟨⟨j + 1, by omega, by omega, vint (by omega), HCo2.out, HBa.out⟩, by simp [intOf]; omega⟩
     ·have HE : Hid (wholeN l b = 0) := LH (HNo.out (by intro e; injection e with _ _ e3; exact h3 e3))
      have hne : (z2 != (j : Int)) = true := by simpa using h3
      clear h3
      go_wp2_with fail
      exact HP.out _ _ (by rw [HE.out]; rfl) HBa.out
    ·have HE : Hid (wholeN l b = 0) := LH (HNo.out (by intro e; injection e with _ e3 _; exact h2 e3))
     have hne : (c2 != 0) = true := by simpa using h2
     clear h2
     go_wp2_with fail
     exact HP.out _ _ (by rw [HE.out]; rfl) HBa.out
   ·have HE : Hid (wholeN l b = 0) := LH (HNo.out (by intro e; injection e with e3 _ _; exact h1 e3))
    have hne : (k2 != 3) = true := by simpa using h1
    clear h1
    go_wp2_with fail
    exact HP.out _ _ (by rw [HE.out]; rfl) HBa.out
  ·obtain rfl : j = m := by omega
   have hlt' : decide ((j : Int) < (j : Int)) = false := by simp
   have HE : Hid (wholeN l b = j) := LH (by rw [HW2.out, HCo.out]; rfl)
   go_wp2_with fail
   exact HP.out _ _ (by rw [HE.out]) HB.out
theorem Cells.touchNe {w w' : World} {a : Option Addr} {vs : List Value} {q : Nat} (h : Cells w a vs) (ht : Touch [q] w w') (hne : ∀ x, a = some x → x.block ≠ q) : Cells w' a vs := by
 rcases h with h | ⟨b, off, rfl, h⟩
 ·exact .inl h
 ·exact .inr ⟨b, off, rfl, fun i v hi => cell_of_touch ht (by simpa using hne _ rfl) (h i v hi)⟩
end Go.Proofs.YtpopbfagliagnaaGreat
namespace Go.Proofs.YtpopbfagliagnaaGreat
section
variable {P : Program} {ops : Array Oper} {md : Region.Mode} {C : World → Prop} {Q : Exit → Act → World → Prop} {ex : List Nat}
end
end Go.Proofs.YtpopbfagliagnaaGreat
namespace Go.Proofs.YtpopbfagliagnaaGreat
open Go.RowKit Go.Maps
end Go.Proofs.YtpopbfagliagnaaGreat
namespace Go.Proofs.YtpopbfagliagnaaGreat
variable {B : Nat} {m : Al}
theorem sum_memF : ∀ {l : List (Nat × Nat)} {x : Nat × Nat}, x ∈ l → x.2 ≤ sumOf l
 | [], _, h => by cases h
 | y :: l, x, h => by
  have e : sumOf (y :: l) = y.2 + sumOf l := by simp [sumOf]
  rw [e]
  rcases List.mem_cons.1 h with rfl | h
  ·omega
  ·have := sum_memF h; omega
theorem sum_count (f : Nat → Bool) : ∀ L, sumOf (runsTo f L) = ((List.range L).filter f).length
 | 0 => rfl
 | b + 1 => by
  have ih := sum_count f b
  rw [List.range_succ, List.filter_append, List.length_append]
  have hpos : 0 < b ∧ f (b - 1) = true → 0 < ((List.range b).filter f).length := fun hp => List.length_pos_iff.2 (List.ne_nil_of_mem (List.mem_filter.2 ⟨List.mem_range.2 (show b - 1 < b by omega), hp.2⟩))
  generalize ((List.range b).filter f).length = c at *
  have hsum : ∀ l : List (Nat × Nat), ∀ x : Nat × Nat, sumOf (l ++ [x]) = sumOf l + x.2 := sum_add
  unfold runsTo
  generalize runsTo f b = R at *
  by_cases hf : f b
  ·rw [if_pos hf]
   have e1 : ([b].filter f).length = 1 := by simp [hf]
   rw [e1]
   by_cases hp : 0 < b ∧ f (b - 1) = true
   ·rw [if_pos hp]
    have hc := hpos hp
    split
    ·rename_i hx
     have h0 : R = [] := List.getLast?_eq_none_iff.1 hx
     rw [h0] at ih
     have : sumOf [] = 0 := rfl
     omega
    ·rename_i x hx
     obtain ⟨ys, hy⟩ := List.getLast?_eq_some_iff.1 hx
     rw [hy, hsum] at ih
     rw [hy, List.dropLast_concat, hsum]
     dsimp only
     omega
   ·rw [if_neg hp, hsum, ih]
  ·rw [if_neg hf, ih]
   simp [hf]
end Go.Proofs.YtpopbfagliagnaaGreat
namespace Go.Proofs.YtpopbfagliagnaaGreat
open Go.RowKit
theorem spanL_runs {ks f : Nat → Bool} : ∀ b, (∀ i, i < b → f i = (decide (i ≠ 0) && ks i)) → spanL ks b = runsTo f b
 | 0, _ => rfl
 | b + 1, h => by
  have ih := spanL_runs b (fun i hi => h i (by omega))
  have hb := h b (by omega)
  unfold spanL runsTo
  rw [← ih]
  by_cases h0 : b = 0
  ·subst h0
   rw [if_pos (.inl rfl), if_neg (by rw [hb]; simp)]
  ·have hp := h (b - 1) (by omega)
   have hfb : f b = ks b := by rw [hb, decide_eq_true (show b ≠ 0 from h0)]; rfl
   rw [hfb]
   cases hk : ks b with
   | false => rw [if_pos (.inr rfl), if_neg (by simp)]
   | true =>
    rw [if_neg (by simp [h0]), if_pos rfl]
    by_cases hq : 1 < b ∧ ks (b - 1) = true
    ·have hq' : 0 < b ∧ f (b - 1) = true := ⟨by omega, by rw [hp, hq.2, decide_eq_true (show b - 1 ≠ 0 by omega)]; rfl⟩
     rw [if_pos hq, if_pos hq']
     unfold bump
     cases hl : (spanL ks b).getLast? with
     | none => exact List.getLast?_eq_none_iff.1 hl
     | some x => rfl
    ·have hq' : ¬ (0 < b ∧ f (b - 1) = true) := by
      rintro ⟨_, h2⟩
      rw [hp, Bool.and_eq_true, decide_eq_true_iff] at h2
      exact hq ⟨by omega, h2.2⟩
     rw [if_neg hq, if_neg hq']
theorem spans_runs {B : Nat} {b : Bm} (h : BmOk B b) : spansOf b.list = runsOf b.free := by
 unfold spansOf runsOf
 rw [h.lenL, h.lenF]
 refine spanL_runs B (fun i hi => ?_)
 rw [Bool.eq_iff_iff, h.free i, Bool.and_eq_true, decide_eq_true_iff]
 unfold freeAt
 rw [beq_iff_eq]
 exact ⟨fun ⟨h1, _, h3⟩ => ⟨by omega, h3⟩, fun ⟨h1, h3⟩ => ⟨by omega, hi, h3⟩⟩
def frTo (L : List Hd) : Nat → Nat
 | 0 => 0
 | n + 1 => frTo L n + if 1 ≤ n ∧ (L.getD n default).k = 0 then 1 else 0
theorem frTo_le (L : List Hd) : ∀ n, frTo L n ≤ n
 | 0 => Nat.le_refl _
 | n + 1 => by unfold frTo; have := frTo_le L n; split <;> omega
theorem frTo_filter {B : Nat} {b : Bm} (h : BmOk B b) : ∀ n, n ≤ B → frTo b.list n = ((List.range n).filter (fb b.free)).length
 | 0, _ => rfl
 | n + 1, hn => by
  unfold frTo
  rw [frTo_filter h n (by omega), List.range_succ, List.filter_append, List.length_append]
  congr 1
  by_cases c : 1 ≤ n ∧ (b.list.getD n default).k = 0
  ·rw [if_pos c, List.filter_cons_of_pos ((h.free n).2 ⟨c.1, by omega, c.2⟩)]; rfl
  ·rw [if_neg c, List.filter_cons_of_neg (fun hf => c ⟨((h.free n).1 hf).1, ((h.free n).1 hf).2.2⟩)]; rfl
theorem frTo_sum {B : Nat} {b : Bm} (h : BmOk B b) : frTo b.list B = sumOf (runsOf b.free) := by
 unfold runsOf
 rw [frTo_filter h B (Nat.le_refl _), sum_count, h.lenF]
theorem sum_le {B : Nat} {b : Bm} (h : BmOk B b) : sumOf (runsOf b.free) ≤ B := by rw [← frTo_sum h]; exact frTo_le _ _
section
variable {B : Nat} {m : Al}
end
end Go.Proofs.YtpopbfagliagnaaGreat
namespace Go.Proofs.YtpopbfagliagnaaGreat
open Go.RowKit Go.Maps
end Go.Proofs.YtpopbfagliagnaaGreat
namespace Go.Proofs.YtpopbfagliagnaaGreat
section
variable {U : List Bool} {P : Nat → List Nat} {hs hk hs' : List Bool} {at_ : Nat} {open_ : List Nat}
end
end Go.Proofs.YtpopbfagliagnaaGreat
namespace Go.Proofs.YtpopbfagliagnaaGreat
open Go.RowKit Go.Maps
theorem hd_is {B : Nat} {b : Bm} (h : BmOk B b) {q : Nat} (h1 : 1 ≤ q) (h2 : q < B) : ∃ k c l : Int, hdGet b.list (q : Int) = ⟨k, c, l⟩ ∧ b.list.getD q default = ⟨k, c, l⟩ ∧ (k = 1 → ∃ cn : Nat, c = (cn : Int) ∧ cn < 32) := by
 have hg := hdGet_at h h1 h2
 have hr := of_decide_eq_true (h.right q h2)
 generalize b.list.getD q default = x at *
 obtain ⟨k, c, l⟩ := x
 refine ⟨k, c, l, hg, rfl, fun hk => ?_⟩
 unfold HdRight at hr
 dsimp only at hr
 exact ⟨c.toNat, by omega, by omega⟩
theorem cells_vmap {P : Program} {k : TypeId} {w w' : World} {b n : Nat} {M : Lit → Option Value} {a : Option Addr} {vs : List Value} (hV : VMap P k w b n M) (h : Cells w a vs) (hg : w.grownBy w' (some b)) : Cells w' a vs := by
 by_cases he : vs = []
 ·exact .inl he
 refine h.touchNe (q := b) (by simpa using grown_touchO hg) (fun x hx e => ?_)
 rcases h with h | ⟨b1, off, rfl, hc⟩
 ·exact he h
 ·injection hx with hx
  subst hx
  obtain ⟨v, l, rfl⟩ := List.exists_cons_of_ne_nil he
  have h0 := hc 0 v rfl
  obtain ⟨D, ⟨es, clock, hb, _⟩, _⟩ := hV
  subst e
  simp [World.cell?, hb] at h0
end Go.Proofs.YtpopbfagliagnaaGreat
namespace Go.Proofs.YtpopbfagliagnaaGreat
open Go.RowKit
def LgOk (m : Al) : Prop := ∀ q, (m.bm.list.getD q default).k = 2 → m.used.getD (512 * q) false = true
theorem LgOk.start {B : Nat} (hB2 : 2 ≤ B) (hB : B ≤ 100) : LgOk (al0 B) := fun q hq => by
 rw [al0_list hB2 hB, List.getD_eq_getElem?_getD, List.getElem?_replicate] at hq
 split at hq
 ·exact absurd hq (by decide)
 ·exact absurd hq (by decide)
section
variable {B : Nat} {m m' : Al}
theorem used_small (h : AlOk B m) {a : Nat} (hu : m.used.getD a false = true) : (m.bm.list.getD (a / 512) default).k = 1 ∨ (m.bm.list.getD (a / 512) default).k = 2 := by
 obtain ⟨o, ho⟩ := Option.isSome_iff_exists.1 (h.placed a hu)
 cases placed_room ho with
 | cell k hk hc hn => exact .inl (isCell_kind hc)
 | run n hb h1 hm hw hn => exact .inr (wholeN_fits (by omega)).2.1
end
section
variable {C : World → Prop} {ops : Array Oper} {rest : List Oper} {o : Oper} {a : Act} {Q : Act → Prop}
end
theorem snd_al0 {B : Nat} (hB2 : 2 ≤ B) (hB : B ≤ 100) : Snd (al0 B).bm.list := by
 intro q _ hq
 rw [al0_list hB2 hB] at hq
 simp only [List.getD_eq_getElem?_getD, List.getElem?_replicate] at hq
 split at hq <;> exact absurd hq (by decide)
section
variable {w wr w' : World} {Q : List Nat} {A : AF} {n n' B N N' : Nat} {m m' : Al}
structure Hq (w wr : World) (Q : List Nat) (A : AF) (n B N : Nat) (m : Al) : Prop where
 at_ : AlAt wr A n B m
 ok : AlOk B m
 lg : LgOk m
 snd : Snd m.bm.list
 steps : m.bm.dev.ok N
 new : ∀ k ∈ A.list, w.heap.size ≤ k ∧ k ∉ Q
 qlt : ∀ k ∈ Q, k < wr.heap.size
 below : Below w.heap.size w wr
theorem Hq.later (h : Hq w wr Q A n B N m) (hb : Below wr.heap.size wr w') : Hq w w' Q A n B N m :=
 ⟨h.at_.below hb, h.ok, h.lg, h.snd, h.steps, h.new, fun k hk => Nat.lt_of_lt_of_le (h.qlt k hk) hb.size, h.below.trans (hb.mono h.below.size)⟩
theorem Hq.begun {w0 w w1 : World} {A : AF} {n B : Nat} (hB2 : 2 ≤ B) (hB : B ≤ 100) (h : AlAt w1 A n B (al0 B)) (hA : ∀ k ∈ A.list, w0.heap.size ≤ k) (hb0 : Below w.heap.size w w0) (hb : Below w0.heap.size w0 w1) {Q : List Nat} (hQ : ∀ k ∈ Q, k < w0.heap.size) :
  Hq w w1 Q A n B 201000 (al0 B) :=
 ⟨h, al0_ok hB2 hB, LgOk.start hB2 hB, snd_al0 hB2 hB, dev0_ok hB2 hB, fun k hk => ⟨Nat.le_trans hb0.size (hA k hk), fun hq => (by have := hQ k hq; have := hA k hk; omega)⟩, fun k hk => Nat.lt_of_lt_of_le (hQ k hk) hb.size, hb0.trans (hb.mono hb0.size)⟩
end
section
variable {w wr w' : World} {Q Q' R : List Nat} {A : AF} {n n' B N N' : Nat} {m m' : Al} {K : MkF} {M M' : Mk}
end
section
variable {w wr w' : World} {Q Q' : List Nat} {v : Value} {xs : List Nat}
end
section
variable {w w' : World} {s b : Nat} {A : AF} {K : MkF} {vg : Value} {G Q : List Nat}
end
end Go.Proofs.YtpopbfagliagnaaGreat
namespace Go.Proofs.YtpopbfagliagnaaGreat
open Go.RowKit Go.Maps
section
variable {w : World} {A : AF} {n B : Nat} {m : Al} {K : MkF} {M : Mk}
end
section
variable {U : List Bool} {f : Nat} {pre : List Nat} {i : Nat} {M : Mk}
end
section
variable {w : World} {A : AF} {n B : Nat} {m : Al} {K : MkF} {M : Mk} {s b : Nat} {vg : Value} {G : List Nat}
end
section
variable {w : World} {A : AF} {n B : Nat} {m : Al} {K : MkF} {M : Mk} {s b : Nat} {vg : Value} {G : List Nat}
end
section
variable {w wr w' : World} {Q Q' R : List Nat} {A : AF} {n n' B N N' : Nat} {m m' : Al} {K : MkF} {M M' : Mk}
end
section
variable {B : Nat} {m m1 m2 : Al} {ws : List Nat} {i x : Nat}
end
section
variable {w w3 w4 w5 : World} {A : AF} {n B N : Nat} {m : Al} {K : MkF} {M : Mk} {s b : Nat} {vg v2 : Value} {G G2 Q : List Nat}
structure NearO (Q : List Nat) (w : World) where
 val : World
 off : Off Q w val
instance (Q : List Nat) (w : World) : Nonempty (NearO Q w) := ⟨⟨w, Off.ofBelow (Below.refl _ _)⟩⟩
end
section
variable {w w3 w4 w5 : World} {A : AF} {n B N : Nat} {m : Al} {K : MkF} {M : Mk} {v v2 : Value} {xs : List Nat} {Q : List Nat}
end
section
variable {w wr w' : World} {Q Q' : List Nat} {A : AF} {n n' B N N' c c' : Nat} {m m' : Al} {K : MkF} {M M' : Mk} {vm : Value} {mk : List Nat}
end
section
variable {w : World} {A : AF} {n B : Nat} {m : Al} {K : MkF} {M : Mk} {s b : Nat} {vg : Value} {G : List Nat}
end
theorem hdGet_nat {l : List Hd} {b : Nat} (h1 : 1 ≤ b) (h2 : b < l.length) : hdGet l (b : Int) = l.getD b default := by
 unfold hdGet
 rw [if_neg (by omega), Int.toNat_natCast]
section
variable {B : Nat} {U0 : List Bool} {M : Mk} {m m' : Al} {b : Nat}
end
def InM (M : Lit → Option Value) (f : Nat → Bool) : Prop := ∀ x : Nat, x ≤ 1000000 → M (.int .i64 (x : Int)) = if f x then some (.bool true) else none
theorem InM.put {M : Lit → Option Value} {f g : Nat → Bool} (h : InM M f) {c : Nat} (hg : ∀ x, g x = (f x || decide (x = c))) : InM (putL M (.int .i64 (c : Int)) (some (.bool true))) g := fun x hx => by
 rw [hg x]
 by_cases e : x = c
 ·subst e; rw [putL_same]; simp
 ·rw [putL_other _ (fun h => e (by injection h with _ h; omega)), h x hx]; simp [e]
theorem InM.get {M : Lit → Option Value} {f : Nat → Bool} (h : InM M f) {c : Nat} (hc : c ≤ 1000000) : (M (.int .i64 (c : Int))).getD (.bool false) = .bool (f c) := by
 rw [h c hc]; cases f c <;> rfl
theorem InM.same {M : Lit → Option Value} {f g : Nat → Bool} (h : InM M f) (hg : ∀ x, g x = f x) : InM M g := fun x hx => by rw [hg x]; exact h x hx
def isFree (m : Al) (k x : Nat) : Bool := decide (isCell m.bm.list k x ∧ m.used.getD x false = false)
def freeUpto (m : Al) (k x : Nat) : Bool := (List.range k).any (fun j => isFree m j x)
theorem freeUpto_step (m : Al) (k x : Nat) : freeUpto m (k + 1) x = (freeUpto m k x || isFree m k x) := by
 unfold freeUpto
 rw [List.range_succ, List.any_append]; simp
theorem freeUpto_no {m : Al} {k x : Nat} (h : isFree m k x = true) : freeUpto m k x = false := by
 unfold freeUpto
 rw [List.any_eq_false]
 intro j hj hc
 have h1 := (of_decide_eq_true h).1.2.2.1
 have h2 := (of_decide_eq_true hc).1.2.2.1
 rw [h1] at h2
 injection h2 with _ h2 _
 have := List.mem_range.1 hj
 omega
section
variable {B : Nat} {m : Al} {k : Nat} {ys : List Nat}
theorem free_list (h : AlOk B m) (hk : k < 32) (hc : ∀ a, ys.count a = m.fl.cnt k a) : ys.Nodup ∧ ∀ x, ys.contains x = isFree m k x := by
 have hc2 : ∀ a, ys.count a = if isCell m.bm.list k a ∧ m.used.getD a false = false then 1 else 0 := fun a => by rw [hc, h.cells k a hk]
 refine ⟨List.nodup_iff_count.2 (fun a => by rw [hc2]; split <;> omega), fun x => ?_⟩
 rw [Bool.eq_iff_iff, List.contains_iff_mem, ← List.count_pos_iff, hc2]
 unfold isFree
 rw [decide_eq_true_iff]
 split <;> simp_all
theorem isFree_at (h : AlOk B m) {x : Nat} (hx : isFree m k x = true) : 512 ≤ x ∧ x < 512 * B ∧ m.bm.list.getD (x / 512) default = ⟨1, k, 0⟩ ∧ begins k x = true := by
 obtain ⟨⟨h1, h2, h3, h4⟩, _⟩ := of_decide_eq_true hx
 rw [h.bm.lenL] at h2
 exact ⟨h1, h2, h3, decide_eq_true h4⟩
end
theorem keyed_int : Keyed Tryz.prog 3 := int_keyed Tryz.underlying3
theorem key_int (x : Nat) (hx : x ≤ 1000000) : keyOf Tryz.prog 3 (.int .i64 (x : Int)) = some (.int .i64 (x : Int)) := keyOf_int_mk Tryz.underlying3 (by simp [Lit.wf, IntKind.min, IntKind.max, IntKind.bits, IntKind.signed]; omega)
theorem zero_bool (w : World) : (zeroValue 4).run Tryz.prog w = .ok (.bool false) w := Tryz.zeroValue4 w
def CfPost (w : World) (m : Al) : Ending → World → Prop := fun e w' => ∃ (mp n : Nat) (M : Lit → Option Value), e = .returned (.tuple #[.map (some mp), .int .i64 0, .int .i64 0]) ∧ w.heap.size ≤ mp ∧ VMap Tryz.prog 3 w' mp n M ∧ InM M (freeUpto m 32) ∧ Below w.heap.size w w'
set_option maxHeartbeats 8000000 in
set_option maxRecDepth 100000 in
theorem cfree_any {w : World} {A : AF} {n B : Nat} {m : Al} (h : AlAt w A n B m) (hok : AlOk B m) (hB1 : 1 ≤ B) (hB : B ≤ 100) (hL : m.fl.upto 900000) :
  Calls Tryz.prog 176 #[valloc A] w (CfPost w m) := by
 have HP : Hid (∀ mp n M w', w.heap.size ≤ mp → VMap Tryz.prog 3 w' mp n M → InM M (freeUpto m 32) → Below w.heap.size w w' → CfPost w m (.returned (.tuple #[.map (some mp), .int .i64 0, .int .i64 0])) w') := LH (fun mp n M w' h1 h2 h3 h4 => ⟨mp, n, M, rfl, h1, h2, h3, h4⟩)
 generalize CfPost w m = Post at *
 have HA := LH h
 have HOk := LH hok
 have HLu := LH hL
 have HMp := LH (VMap.made w Tryz.prog 3)
 have HB0 := LH (below_alloc w (.map #[] 0))
 clear h hok hL
 have hmm := @run_makeMap Tryz.prog
 go_enter Tryz.func176, Tryz.ntmps176
 go_upto_block 0 with fail
 clear hmm
 obtain ⟨mp, hmp⟩ : ∃ mp, mp = w.heap.size := ⟨_, rfl⟩
 rw [← hmp] at HMp ⊢
 have HMq : Hid (w.heap.size ≤ mp) := LH (by rw [hmp]; exact Nat.le_refl _)
 generalize w.alloc _ = w0 at *
 clear hmp
 go_wp2_with fail
 go_loopw [12] (fun kv wr => ∃ (k n1 : Nat) (M : Lit → Option Value), k ≤ 32 ∧ kv = .int .i64 (k : Int) ∧ n1 ≤ 1000000 * k ∧ Hid (VMap Tryz.prog 3 wr mp n1 M) ∧ Hid (InM M (freeUpto m k)) ∧ Hid (Below w.heap.size w wr)) (fun kv _ => 32 - (RowKit.intOf kv).toNat)
 case atStart => exact ⟨0, 0, _, by omega, rfl, by omega, HMp, LH (fun x _ => rfl), HB0⟩
 case round =>
  clear HMp HB0
  obtain ⟨k, n1, M, hk32, rfl, hn1, HV, HI, HB⟩ := hrel
  by_cases hlt : k < 32
  case neg =>
   obtain rfl : k = 32 := by omega
   have HFin := LH (HP.out mp n1 M wr HMq.out HV.out HI.out HB.out)
   clear HV HI HB
   go_wp2_with fail
   go_ret3
   exact HFin.out
  have hlt' : (k : Int) < 32 := by omega
  have HFc := LH (afreeCells_any (HA.out.below HB.out) HLu.out k hlt)
  go_wp2_with fail
  refine HFc.out.mono ?_
  rintro e w5 ⟨vy, ys, rfl, ho5, _, hc5, _, hb5⟩
  obtain ⟨ay, cy, rfl, hcy, _, _⟩ := ho5.cells
  obtain ⟨hnd, hin⟩ := free_list HOk.out hlt hc5
  have HNd := LH hnd
  have HIn := LH hin
  have HC5 := LH hcy
  have HV5 := LH (HV.out.block (hb5.block mp HV.out.lt))
  have HB5 := LH (HB.out.trans (hb5.mono HB.out.size))
  have HYl : Hid (ys.length ≤ 100000) := LH (by
   have h1 := nodup_len (512 * B) ys (fun x hx => (isFree_at HOk.out ((hin x).symm.trans (by simpa using hx))).2.1) (fun a => List.nodup_iff_count.1 hnd a)
   omega)
  obtain ⟨yl, hyl⟩ : ∃ yl, yl = ys.length := ⟨_, rfl⟩
  have HYn := LH hyl
  rw [← hyl] at HYl ⊢
  have hyl9 := HYl.out
  clear ho5 hcy hc5 hb5 hnd hin hyl HFc HV HB
  rename World => wz
  go_wp2_with fail
  go_loopw [19] (fun iv wr => ∃ (i n2 : Nat) (M2 : Lit → Option Value), i ≤ yl ∧ iv = .int .i64 (i : Int) ∧ n2 ≤ 1000000 * k + i ∧ Hid (VMap Tryz.prog 3 wr mp n2 M2) ∧ Hid (InM M2 (fun x => freeUpto m k x || (ys.take i).contains x)) ∧ Hid (Cells wr ay (ys.map vi)) ∧ Hid (Below w.heap.size w wr)) (fun iv _ => yl - (RowKit.intOf iv).toNat)
  case atStart => exact ⟨0, n1, M, Nat.zero_le _, rfl, by omega, HV5, LH (HI.out.same (fun x => by simp)), HC5, HB5⟩
  case round =>
   clear HV5 HI HC5 HB5
   obtain ⟨i, n2, M2, hi, rfl, hn2, HV, HI, HC, HB⟩ := hrel
   by_cases hil : i < yl
   case neg =>
    obtain rfl : i = yl := by omega
    have hil' : decide ((i : Int) < (i : Int)) = false := by simp
    have HI2 : Hid (InM M2 (freeUpto m (k + 1))) := LH (HI.out.same (fun x => by rw [freeUpto_step, HYn.out, List.take_length, HIn.out x]))
    clear HI HC
    go_wp2_with fail
    refine ⟨⟨k + 1, n2, M2, by omega, vint (by omega), by omega, HV, HI2, HB⟩, ?_⟩
    simp [RowKit.intOf]; omega
   have hil' : (i : Int) < (yl : Int) := by omega
   obtain ⟨x, hx⟩ : ∃ x, ys[i]? = some x := ⟨_, List.getElem?_eq_getElem (by rw [← HYn.out]; exact hil)⟩
   have hmem : x ∈ ys := List.mem_of_getElem? hx
   have hfr : isFree m k x = true := by rw [← HIn.out x]; simpa using hmem
   obtain ⟨x1, x2, x3, x4⟩ := isFree_at HOk.out hfr
   have HNo : Hid ((freeUpto m k x || (ys.take i).contains x) = false) := LH (by
    rw [freeUpto_no hfr, Bool.false_or, ← Bool.not_eq_true, List.contains_iff_mem]
    intro hm
    obtain ⟨j, hj, hjx⟩ := List.mem_iff_getElem.1 hm
    rw [List.length_take] at hj
    have h1 : ys[j]? = some x := by rw [List.getElem?_eq_getElem (by omega)]; rw [List.getElem_take] at hjx; rw [hjx]
    have := (List.getElem?_inj (by rw [← HYn.out]; exact hil) HNd.out).1 (hx.trans h1.symm)
    omega)
   have HStp : Hid (∀ z, (freeUpto m k z || (ys.take (i + 1)).contains z) = ((freeUpto m k z || (ys.take i).contains z) || decide (z = x))) := LH (fun z => by
    rw [Bool.or_assoc]
    congr 1
    rw [Bool.eq_iff_iff, List.take_add_one, hx]
    simp)
   obtain ⟨b1, o1, q1, _, hc1⟩ := HC.out.at (i := i) (by rw [List.length_map, ← HYn.out]; exact hil)
   have hc1 := hc1 i (vi x) (by rw [List.getElem?_map, hx]; rfl)
   have HAr := LH (HA.out.below HB.out)
   have a0 := HAr.out.c0
   subst q1
   clear hx hmem hfr
   rename World => wv
   go_wp2_with fail
   refine (bgeom_any HAr.out.man).mono ?_
   rintro e w6 ⟨rfl, hb6⟩
   have HB6 := LH hb6
   have HCt := LH (cat_full B (by omega) k x hlt x1 x2 w6)
   have hx9 : x ≤ 100000 := by omega
   clear hb6 hc1 a0
   go_wp2_with fail
   refine HCt.out.mono ?_
   rintro e w7 ⟨⟨yy, rfl⟩, hb7⟩
   rw [x4]
   obtain ⟨xb, hxb⟩ : ∃ xb, xb = x / 512 := ⟨_, rfl⟩
   rw [← hxb] at x3 ⊢
   have hxb1 : 1 ≤ xb := by omega
   have hxbB : xb < B := by omega
   have HM8 := LH (Mem.one w7 #[.int .i64 (xb : Int), .int .i64 yy] 289)
   have HB8 : Hid (Below wv.heap.size wv (w7.alloc (.cells #[.int .i64 (xb : Int), .int .i64 yy] 289))) := LH ((HB6.out.trans (hb7.mono HB6.out.size)).trans (HM8.out.below.mono (Nat.le_trans HB6.out.size hb7.size)))
   obtain ⟨q9, hq9⟩ : ∃ q9, q9 = w7.heap.size := ⟨_, rfl⟩
   have HX3 := LH x3
   clear hb7 HCt HB6 hxb x1 x2 x3 x4
   go_upto_region 9 with fail
   rw [← hq9] at HM8 ⊢
   generalize w7.alloc _ = w8 at *
   clear hq9
   have HA8 := LH (HAr.out.below HB8.out)
   have a0 := HA8.out.c0
   have a1 := HA8.out.man.c0
   have d0 := HM8.out.cell 0 0 rfl rfl
   have r0 := fun x => later_cell a0 x
   have r1 := fun x => later_cell a1 x
   have r2 := fun x => later_cell d0 x
   have HGet := LH (fun w' (h' : Below w8.heap.size w8 w') => tget_any ((HA8.out.below h').man.tab.at (MF.notHot (MF.apart (HA8.out.below h').man.nd).t).1) (xb : Int) (by rw [HA8.out.man.tab.len]; omega))
   rw [hdGet_nat hxb1 (by rw [HA8.out.man.tab.len]; exact hxbB), HX3.out] at HGet
   unfold Hd.val at HGet
   dsimp only at HGet
   refine wp_region_seg (C := fun w' => ∃ x : Later (w8), w' = x.val) [.sq [0, 1, 2] false, .fl [3, 4, 5, 6, 7, 8, 9, 10, 11, 13, 14], .sq [12] true, .sq [15, 16, 17] false] (by kernel_rfl) (by kernel_rfl) (by intro c a d v w h; cases d <;> exact h) ?_
   simp only [segs, picks, List.getElem?_cons_succ, List.getElem?_cons_zero]
   have hC1 := later_drew (w8)
   refine wpSeg_sq (fun K hK => ?_)
   go_wp2_with fail
   go_wp2_with fail
   refine hK _ _ (fun h => nomatch h) ?_
   clear hK K
   refine wpSeg_fl hC1 ?_
   repeat (first | go_big_quiet_step (fail) | quiet_step (fail))
   refine wpQuiet_nil ?_
   refine wpSeg_sq (fun K hK => ?_)
   go_wp2_with fail
   refine (HGet.out _ (later_below hC1)).mono ?_
   rintro e w9 ⟨rfl, hb9⟩
   have hC2 := later_step hC1 hb9
   clear hb9
   go_wp2_with fail
   refine hK _ _ (fun _ => hC2) ?_
   clear hK K
   have HB9 : Hid (Below wv.heap.size wv w9) := LH (HB8.out.trans ((later_below hC2).mono HB8.out.size))
   have HV9 := LH (HV.out.block (HB9.out.block mp HV.out.lt))
   have HC9 := LH (HC.out.below HB9.out (Nat.le_refl _))
   have HGm : Hid ((M2 (.int .i64 (x : Int))).getD (.bool false) = .bool false) := LH (by rw [HI.out.get (by omega), HNo.out])
   have hkey := key_int x (by omega)
   have hn9 : n2 < maxLen := by have : maxLen = 9223372036854775807 := rfl; omega
   clear r0 r1 r2 a0 a1 d0 hC1 hC2 HGet HM8 HA8 HAr HB8 HV HC HX3
   refine wpSeg_last ?_
   go_wp2_with (first
    | (refine wpList_vlook rfl _ _ 279 rfl 3 4 keyed_int Tryz.underlying279 _ (zero_bool _) mp n2 M2 rfl HV9.out _ _ rfl hkey ?_; rw [HGm.out])
    | (refine wpList_vstore rfl _ _ _ 279 rfl 3 4 keyed_int Tryz.underlying279 mp n2 M2 rfl HV9.out hn9 _ _ _ rfl rfl hkey ?_; intro wf h6 hg6; have HV6 := LH h6; have HG6 := LH hg6; clear h6 hg6))
   have HC6 := LH (cells_vmap HV9.out HC9.out HG6.out)
   have HBf : Hid (Below w.heap.size w wf) := LH (below_touch (HB.out.trans (HB9.out.mono HB.out.size)) (grown_touchO HG6.out) (fun b hb => by simp at hb; subst hb; exact HMq.out) (Nat.le_refl _))
   refine ⟨⟨i + 1, n2 + 1, _, by omega, vint (by omega), by omega, HV6, LH (HI.out.put HStp.out), HC6, HBf⟩, ?_⟩
   simp [RowKit.intOf]; omega
structure Rep where
 fr : Nat
 sm : Nat
 lg : Nat
 ob : Nat
 us : Nat
 ce : Nat
 wa : Int
def Rep.cs (R : Rep) : List Value := [vi R.fr, vi R.sm, vi R.lg, vi R.ob, vi R.us, vi R.ce, .int .i64 R.wa]
def Rep.ok (R : Rep) (N : Nat) : Prop := R.fr ≤ N ∧ R.sm ≤ N ∧ R.lg ≤ N ∧ R.ob ≤ N ∧ R.us ≤ N ∧ R.ce ≤ N ∧ -(N : Int) ≤ R.wa ∧ R.wa ≤ N
def RepAt (w : World) (r : Nat) (R : Rep) : Prop := w.heap[r]? = some (.cells R.cs.toArray 157 (0, 0))
section
variable {w w' : World} {r : Nat} {R : Rep}
theorem RepAt.lt (h : RepAt w r R) : r < w.heap.size := (Array.getElem?_eq_some_iff.1 h).1
theorem RepAt.keep (h : RepAt w r R) (hk : w'.heap[r]? = w.heap[r]?) : RepAt w' r R := hk.trans h
theorem RepAt.below (h : RepAt w r R) (hb : Below w.heap.size w w') : RepAt w' r R := h.keep (hb.block r h.lt)
theorem RepAt.row (h : RepAt w r R) : RowAt w r 157 R.cs := ⟨_, h, [], by simp⟩
theorem RepAt.cell (h : RepAt w r R) {i : Nat} {v : Value} (hi : R.cs[i]? = some v) : w.cell? ⟨r, i, none⟩ = some v := cell_of_row _ _ i _ _ _ (by rw [h]) |>.trans (by simpa using hi)
theorem RepAt.set (h : RepAt w r R) {R' : Rep} (i : Nat) (v : Value) (he : R.cs.toArray.setIfInBounds i v = R'.cs.toArray) : RepAt (w.setCell ⟨r, i, none⟩ v) r R' ∧ Touch [r] w (w.setCell ⟨r, i, none⟩ v) :=
 ⟨by unfold RepAt; rw [heap_setCell_same w r i _ _ _ h, he], Touch.setCell _ (by simp) _⟩
end
def Rep.add (R : Rep) (s : Nat) (room : Int) : Rep := { R with ob := R.ob + 1, us := R.us + s, wa := R.wa + (room - s) }
set_option maxHeartbeats 4000000 in
set_option maxRecDepth 20000 in
theorem radd_any {w : World} {r : Nat} {R : Rep} (h : RepAt w r R) (hR : R.ok 1000000000) (p d : Int) (room : Int) (hs : objSize p d ≤ 1000000) (hr : 0 ≤ room) (hr2 : room ≤ 1000000) :
  Calls Tryz.prog 254 #[.pointer (some ⟨r, 0, none⟩), .agg #[.int .i64 p, .int .i64 d], .int .i64 room] w fun e w' => e = .returned (.tuple #[]) ∧ RepAt w' r (R.add (objSize p d) room) ∧ Touch [r] w w' := by
 have HP : Hid (∀ w', RepAt w' r (R.add (objSize p d) room) → Touch [r] w w' → (fun e w' => e = Ending.returned (.tuple #[]) ∧ RepAt w' r (R.add (objSize p d) room) ∧ Touch [r] w w') (.returned (.tuple #[])) w') := LH (fun w' h1 h2 => ⟨rfl, h1, h2⟩)
 generalize (fun e w' => e = Ending.returned (.tuple #[]) ∧ RepAt w' r (R.add (objSize p d) room) ∧ Touch [r] w w') = Post at *
 have HSz := LH (fun w => osize_any p d w)
 obtain ⟨s, hs'⟩ : ∃ s, s = objSize p d := ⟨_, rfl⟩
 rw [← hs'] at HSz HP hs
 have hb0 := below_alloc w (.cells #[.int .i64 p, .int .i64 d] 169)
 have HM := LH (Mem.one w #[.int .i64 p, .int .i64 d] 169)
 have HR0 := LH (h.below hb0)
 have HB0 := LH hb0
 have HRne : Hid (r ≠ w.heap.size) := LH (Nat.ne_of_lt h.lt)
 obtain ⟨q, hq⟩ : ∃ q, q = w.heap.size := ⟨_, rfl⟩
 obtain ⟨rf, rs, rl, ro, ru, rc, ra⟩ := R
 obtain ⟨k1, k2, k3, k4, k5, k6, k7, k8⟩ := hR
 dsimp only at k1 k2 k3 k4 k5 k6 k7 k8
 clear h hb0 hs'
 go_enter Tryz.func254, Tryz.ntmps254
 go_upto_region 1 with fail
 rw [← hq] at HM HRne ⊢
 generalize w.alloc _ = w0 at *
 clear hq
 have c3 : w0.cell? ⟨r, 3, none⟩ = some (.int .i64 (ro : Int)) := HR0.out.cell rfl
 have f3 := HR0.out.row.frozen 3
 obtain ⟨h1, t1⟩ := HR0.out.set (R' := ⟨rf, rs, rl, ro + 1, ru, rc, ra⟩) 3 (.int .i64 ((ro : Int) + 1)) rfl
 have HR1 := LH h1
 have HT1 := LH t1
 clear h1 t1
 go_upto_region 2 with fail
 generalize w0.setCell _ _ = w1 at *
 have HM1 : Hid (MemR w.heap.size w1 [⟨q, 169, [.int .i64 p, .int .i64 d], true⟩]) := LH (HM.out.r.apart HT1.out (by intro x hx; simp at hx; subst hx; simp; exact fun e => HRne.out e.symm))
 have c4 : w1.cell? ⟨r, 4, none⟩ = some (.int .i64 (ru : Int)) := HR1.out.cell rfl
 have m0 := HM1.out.cell 0 0 rfl rfl
 have m1 := HM1.out.cell 0 1 rfl rfl
 have r0 := fun x => later_cell c4 x
 have r1 := fun x => later_cell m0 x
 have r2 := fun x => later_cell m1 x
 clear c3 f3
 refine wp_region_seg (C := fun w' => ∃ x : Later (w1), w' = x.val) [.fl [0, 1, 2, 3, 4], .sq [5] true, .sq [6, 7, 8, 9] false] (by kernel_rfl) (by kernel_rfl) (by intro c a d v w h; cases d <;> exact h) ?_
 simp only [segs, picks, List.getElem?_cons_succ, List.getElem?_cons_zero]
 have hC1 := later_drew (w1)
 refine wpSeg_fl hC1 ?_
 repeat (first | go_big_quiet_step (fail) | quiet_step (fail))
 refine wpQuiet_nil ?_
 refine wpSeg_sq (fun K hK => ?_)
 go_wp2_with fail
 refine (HSz.out _).mono ?_
 rintro e w2 ⟨rfl, hb2⟩
 have hC2 := later_step hC1 hb2
 clear hb2
 have HR2 := LH (HR1.out.below (later_below hC2))
 have HM2 := LH (HM1.out.later (later_below hC2))
 have HT2 : Hid (Touch [r] w0 w2) := LH (HT1.out.trans (Touch.ofBelow (later_below hC2)))
 have f4 := HR2.out.row.frozen 4
 have d4 : w2.cell? ⟨r, 4, none⟩ = some (.int .i64 (ru : Int)) := HR2.out.cell rfl
 obtain ⟨h1, t1⟩ := HR2.out.set (R' := ⟨rf, rs, rl, ro + 1, ru + s, rc, ra⟩) 4 (.int .i64 ((ru : Int) + (s : Int))) rfl
 have HR3 := LH h1
 have HT3 := LH (HT2.out.trans t1)
 have HM3 : Hid (MemR w.heap.size (w2.setCell ⟨r, 4, none⟩ (.int .i64 ((ru : Int) + (s : Int)))) [⟨q, 169, [.int .i64 p, .int .i64 d], true⟩]) := LH (HM2.out.apart t1 (by intro x hx; simp at hx; subst hx; simp; exact fun e => HRne.out e.symm))
 clear h1 t1 r0 r1 r2 c4 m0 m1
 go_wp2_with fail
 refine hK _ _ (fun _ => hC2) ?_
 clear hK K
 refine wpSeg_last ?_
 go_upto_region 3 with fail
 generalize w2.setCell _ _ = w3 at *
 have c6 : w3.cell? ⟨r, 6, none⟩ = some (.int .i64 ra) := HR3.out.cell rfl
 have m0 := HM3.out.cell 0 0 rfl rfl
 have m1 := HM3.out.cell 0 1 rfl rfl
 have r0 := fun x => later_cell c6 x
 have r1 := fun x => later_cell m0 x
 have r2 := fun x => later_cell m1 x
 have hw : IntKind.i64.wrap (room - (s : Int)) = room - (s : Int) := by rw [IntKind.wrap_i64]; omega
 clear hC1 hC2 HR2 HM2 HT2 f4 d4
 refine wp_region_seg (C := fun w' => ∃ x : Later (w3), w' = x.val) [.fl [0, 1, 2, 3, 4, 5], .sq [6] true, .fl [7], .sq [8, 9, 10, 11] false] (by kernel_rfl) (by kernel_rfl) (by intro c a d v w h; cases d <;> exact h) ?_
 simp only [segs, picks, List.getElem?_cons_succ, List.getElem?_cons_zero]
 have hC1 := later_drew (w3)
 refine wpSeg_fl hC1 ?_
 repeat (first | go_big_quiet_step (fail) | quiet_step (fail))
 refine wpQuiet_nil ?_
 refine wpSeg_sq (fun K hK => ?_)
 go_wp2_with fail
 refine (HSz.out _).mono ?_
 rintro e w4 ⟨rfl, hb4⟩
 have hC2 := later_step hC1 hb4
 clear hb4
 have HR4 := LH (HR3.out.below (later_below hC2))
 have HT4 : Hid (Touch [r] w0 w4) := LH (HT3.out.trans (Touch.ofBelow (later_below hC2)))
 have f6 := HR4.out.row.frozen 6
 have d6 : w4.cell? ⟨r, 6, none⟩ = some (.int .i64 ra) := HR4.out.cell rfl
 obtain ⟨h1, t1⟩ := HR4.out.set (R' := ⟨rf, rs, rl, ro + 1, ru + s, rc, ra + (room - s)⟩) 6 (.int .i64 (ra + (room - (s : Int)))) rfl
 have HR5 := LH h1
 have HT5 : Hid (Touch [r] w (w4.setCell ⟨r, 6, none⟩ (.int .i64 (ra + (room - (s : Int)))))) := LH ((Touch.ofBelow HB0.out).trans (HT4.out.trans t1))
 clear h1 t1 r0 r1 r2 c6 m0 m1
 go_wp2_with fail
 refine hK _ _ (fun _ => hC2) ?_
 clear hK K
 refine wpSeg_fl hC2 ?_
 repeat (first | go_big_quiet_step (fail) | quiet_step (fail))
 refine wpQuiet_nil ?_
 refine wpSeg_last ?_
 go_wp2_with fail
 go_end0
 exact HP.out _ HR5.out HT5.out
end Go.Proofs.YtpopbfagliagnaaGreat
namespace Go.Proofs.YtpopbfagliagnaaGreat
open Go.RowKit Go.Shelf Go.Maps
attribute [local go_sem] Oper.semAt_some
def cellL (b k : Nat) : List Nat := (List.range (clsCells k)).map (cellOf b k)
theorem cellL_len (b k : Nat) : (cellL b k).length = clsCells k := by simp [cellL]
def Kp3 (Bk Bg Bb : Nat) (A B : World) : Prop := B.heap[Bk]? = A.heap[Bk]? ∧ B.heap[Bg]? = A.heap[Bg]? ∧ B.heap[Bb]? = A.heap[Bb]?
set_option maxRecDepth 100000 in
set_option maxHeartbeats 4000000 in
theorem call1_in {B c b : Nat} (hB : B ≤ 1000) (hc : c < 32) (hb1 : 1 ≤ b) (hbB : b < B) (n : Nat) (hn : 1 ≤ n) (lp Bk Bg Bb : Nat) (J Jx : List {x : Nat // x ∈ cellL b c} → World → Prop)
  (hAb : ∀ s W W', J s W → Below W.heap.size W W' → J s W')
  (hY : ∀ pre (x : {x : Nat // x ∈ cellL b c}) W, J pre W → pre.length < (cellL b c).length → YieldAt Fence.wide (n - 1) Tryz.prog lp #[.int .i64 (x.val : Int)] W fun e W' =>
   (e = .returned (.bool true) ∧ J (pre ++ [x]) W' ∧ Kp3 Bk Bg Bb W W') ∨ (e = .returned (.bool false) ∧ Jx (pre ++ [x]) W'))
  (W : World) (hk : Boxed W Bk 3 (.int .i64 (c : Int))) (hg : Boxed W Bg 44 (.int .i64 (B : Int))) (hbb : Boxed W Bb 3 (.int .i64 (b : Int))) (h0 : J [] W) :
  CallsIn Fence.wide n Tryz.prog 340 #[.func (.yield lp) #[] #[], .pointer (some ⟨Bk, 0, none⟩), .pointer (some ⟨Bg, 0, none⟩), .pointer (some ⟨Bb, 0, none⟩)] W fun e W' => (∃ v, e = .returned v) ∧
   ((∃ ys, ys.map Subtype.val = cellL b c ∧ J ys W') ∨ (∃ pre, True ∧ Jx pre W')) := by
 obtain ⟨N, hN⟩ : ∃ N, N = clsCells (c : Int) := ⟨_, rfl⟩
 have hN9 : N ≤ 512 := by rw [hN]; unfold clsCells; exact Nat.le_trans (Nat.div_le_self _ _) (by omega)
 have HNn := LH hN
 have HCc := LH (fun w => ccells_any (c : Int) w)
 rw [← hN] at HCc
 have HAd := LH (fun i w => caddr_any B hB (c : Int) (b : Int) i w)
 have HCa : Hid (∀ i : Nat, i < N → cellAt (B : Int) (c : Int) (b : Int) (i : Int) = (cellOf b c i : Nat)) := LH (fun i hi => cellAt_of hc hb1 hbB (by rw [← hN]; exact hi))
 have HIn : Hid (∀ i : Nat, i < N → cellOf b c i ∈ cellL b c) := LH (fun i hi => List.mem_map.2 ⟨i, List.mem_range.2 (by rw [← hN]; exact hi), rfl⟩)
 have hck := hk.cell
 have hcg := hg.cell
 have hcb := hbb.cell
 clear hN
 refine callsIn_of_wp Tryz.func340 rfl trivial ?_ rfl
 simp only [Tryz.ntmps340, List.size_toArray, List.length_cons, List.length_nil, Nat.reduceAdd, Nat.reduceSub, Array.replicate_succ, Array.replicate_zero, List.push_toArray, List.append_toArray, List.nil_append, List.cons_append]
 gi_wp2_with (refine ⟨trivial, ?_⟩; gi_at_call 279; refine (callsIn_wide.2 (HCc.out _)).mono ?_; rintro e w1 ⟨rfl, hbw⟩)
 have hk1 : Boxed w1 Bk 3 (.int .i64 (c : Int)) := (hbw.block Bk hk.lt).trans hk
 have hg1 : Boxed w1 Bg 44 (.int .i64 (B : Int)) := (hbw.block Bg hg.lt).trans hg
 have hbb1 : Boxed w1 Bb 3 (.int .i64 (b : Int)) := (hbw.block Bb hbb.lt).trans hbb
 have hj1 := hAb _ _ _ h0 hbw
 clear hk hg hbb h0 hbw hck hcg hcb HCc
 gi_loopw [9] (fun iv wr => ∃ (i : Nat) (pre : List {x : Nat // x ∈ cellL b c}), i ≤ N ∧ iv = .int .i64 (i : Int) ∧ Hid (pre.length = i ∧ pre.map Subtype.val = (cellL b c).take i) ∧ Boxed wr Bk 3 (.int .i64 (c : Int)) ∧ Boxed wr Bg 44 (.int .i64 (B : Int)) ∧ Boxed wr Bb 3 (.int .i64 (b : Int)) ∧ J pre wr) (fun iv _ => N - (RowKit.intOf iv).toNat)
 case atStart => exact ⟨0, [], Nat.zero_le _, rfl, LH ⟨rfl, rfl⟩, hk1, hg1, hbb1, hj1⟩
 case round =>
  clear hk1 hg1 hbb1 hj1
  obtain ⟨i, pre, hi, rfl, HPr, hk, hg, hbb, hJ⟩ := hrel
  have hck := hk.cell
  have hcg := hg.cell
  have hcb := hbb.cell
  by_cases hlt : i < N
  case neg =>
   obtain rfl : i = N := by omega
   have hlt' : decide ((i : Int) < (i : Int)) = false := by simp
   gi_wp2
   go_end0
   refine ⟨⟨_, rfl⟩, .inl ⟨pre, ?_, hJ⟩⟩
   rw [HPr.out.2, HNn.out]
   exact List.take_of_length_le (by rw [cellL_len]; exact Nat.le_refl _)
  have hlt' : (i : Int) < (N : Int) := by omega
  have HAi := LH (fun w => HAd.out (i : Int) w)
  rw [HCa.out i hlt] at HAi
  have hx := HIn.out i hlt
  have hx9 : cellOf b c i ≤ 1000000 := by
   have h1 : clsWords (c : Int) ≤ 512 := Nat.le_trans (clsWords_le _) (by omega)
   have h2 : i * clsWords (c : Int) ≤ 512 * 512 := Nat.mul_le_mul (by omega) h1
   unfold cellOf
   omega
  have HPx : Hid (∀ y : {x : Nat // x ∈ cellL b c}, y.val = cellOf b c i → (pre ++ [y]).length = i + 1 ∧ (pre ++ [y]).map Subtype.val = (cellL b c).take (i + 1)) := LH (fun y hy => by
   refine ⟨by rw [List.length_append, HPr.out.1]; rfl, ?_⟩
   rw [List.map_append, HPr.out.2, List.take_add_one]
   congr 1
   have : (cellL b c)[i]? = some (cellOf b c i) := by
    unfold cellL
    rw [List.getElem?_map, List.getElem?_range (by rw [← HNn.out]; exact hlt)]; rfl
   rw [this, ← hy]; rfl)
  have HPl : Hid (pre.length < (cellL b c).length) := LH (by rw [HPr.out.1, cellL_len, ← HNn.out]; exact hlt)
  obtain ⟨y, hyv⟩ : ∃ y : {x : Nat // x ∈ cellL b c}, y.val = cellOf b c i := ⟨⟨_, hx⟩, rfl⟩
  have HPy := LH (HPx.out y hyv)
  rw [← hyv] at HAi hx9
  have hyn : decide ((y.val : Int) < 0) = false := by simp
  clear HPx hx hyv
  gi_wp2_with (refine ⟨trivial, ?_⟩; gi_at_call 262; refine (callsIn_wide.2 (HAi.out _)).mono ?_; rintro e w3 ⟨rfl, hb3⟩; have hJ3 := hAb _ _ _ hJ hb3; have hk3 : Boxed w3 Bk 3 (.int .i64 (c : Int)) := (hb3.block Bk hk.lt).trans hk; have hg3 : Boxed w3 Bg 44 (.int .i64 (B : Int)) := (hb3.block Bg hg.lt).trans hg; have hbb3 : Boxed w3 Bb 3 (.int .i64 (b : Int)) := (hb3.block Bb hbb.lt).trans hbb; obtain ⟨fn, tmps, assign, body, hy, hR⟩ := hY pre y w3 hJ3 HPl.out; clear hb3)
  refine hR.mono ?_
  rintro e W6 (⟨rfl, hJ6, hk6⟩ | ⟨rfl, hJx6⟩)
  ·have hk7 : Boxed W6 Bk 3 (.int .i64 (c : Int)) := hk6.1.trans hk3
   have hg7 : Boxed W6 Bg 44 (.int .i64 (B : Int)) := hk6.2.1.trans hg3
   have hbb7 : Boxed W6 Bb 3 (.int .i64 (b : Int)) := hk6.2.2.trans hbb3
   clear hk6 hy hR
   gi_wp2
   go_roundw
   case rel => exact ⟨i + 1, pre ++ [y], by omega, vint (by omega), HPy, hk7, hg7, hbb7, hJ6⟩
   case measure => simp [RowKit.intOf]; omega
  ·gi_wp2
   refine bodyPost_ret (results_none rfl _ _ _) rfl ?_
   exact ⟨⟨_, rfl⟩, .inr ⟨_, trivial, hJx6⟩⟩
theorem Kp3.trans {Bk Bg Bb : Nat} {A B C : World} (h : Kp3 Bk Bg Bb A B) (k : Kp3 Bk Bg Bb B C) : Kp3 Bk Bg Bb A C := ⟨k.1.trans h.1, k.2.1.trans h.2.1, k.2.2.trans h.2.2⟩
theorem Kp3.book {Bk Bg Bb : Nat} {w : World} (h1 : Bk < w.heap.size) (h2 : Bg < w.heap.size) (h3 : Bb < w.heap.size) (W : World) (l : Nat) (o o' : Obj) (hl : w.heap.size ≤ l) (_ : W.heap[l]? = some o) (_ : o.isCells = false) (_ : o.isWalk = false) : Kp3 Bk Bg Bb W (W.putObj l o') :=
 ⟨World.putObj_heap_other (by omega), World.putObj_heap_other (by omega), World.putObj_heap_other (by omega)⟩
theorem abides_stays {β : Type} {B : Nat} {J : β → World → Prop} {s : β} {W W' : World} (h : AbidesFrom B J) (hs : J s W) (hb : Below W.heap.size W W') : J s W' :=
 h s W W' none hs ⟨hb.os, hb.tape, hb.output, hb.size, fun k hk _ => hb.block k hk⟩ (fun r e => by cases e)
theorem call_stops {B c b : Nat} {w : World} (hB : B ≤ 1000) (hc : c < 32) (hb1 : 1 ≤ b) (hbB : b < B) (n : Nat) (hn : 1 ≤ n) (Bk Bg Bb : Nat) (hk : Boxed w Bk 3 (.int .i64 (c : Int))) (hg : Boxed w Bg 44 (.int .i64 (B : Int))) (hbb : Boxed w Bb 3 (.int .i64 (b : Int))) :
  SeqStopsK Fence.wide n Tryz.prog 340 #[.pointer (some ⟨Bk, 0, none⟩), .pointer (some ⟨Bg, 0, none⟩), .pointer (some ⟨Bb, 0, none⟩)] (fun x : {x : Nat // x ∈ cellL b c} => #[Value.int .i64 (x.val : Int)]) (Kp3 Bk Bg Bb) (fun ys => ys.map Subtype.val = cellL b c) (fun _ => True) (cellL b c).length w :=
 fun lp J Jx W hW hJa _ hY h0 => call1_in hB hc hb1 hbB n hn lp Bk Bg Bb J Jx (fun _ _ _ hs hb => abides_stays hJa hs hb) hY W ((hW.block Bk hk.lt).trans hk) ((hW.block Bg hg.lt).trans hg) ((hW.block Bb hbb.lt).trans hbb) h0
set_option maxHeartbeats 1000000 in
theorem call_in (B c b : Nat) (n : Nat) (w : World) :
  CallsIn Fence.wide n Tryz.prog 307 #[vgeom (B : Int), .int .i64 (c : Int), .int .i64 (b : Int)] w fun e w' => e = .returned (.func (.func 340) #[] #[.pointer (some ⟨w.heap.size + 1, 0, none⟩), .pointer (some ⟨w.heap.size, 0, none⟩), .pointer (some ⟨w.heap.size + 2, 0, none⟩)]) ∧ w' = ((w.alloc (.cells #[.int .i64 (B : Int)] 44)).alloc (.cells #[.int .i64 (c : Int)] 3)).alloc (.cells #[.int .i64 (b : Int)] 3) := by
 refine callsIn_of_wp Tryz.func307 rfl trivial ?_ rfl
 simp only [Tryz.ntmps307, List.size_toArray, List.length_cons, List.length_nil, Nat.reduceAdd, Nat.reduceSub, Array.replicate_succ, Array.replicate_zero, List.push_toArray, List.append_toArray, List.nil_append, List.cons_append]
 gi_wp2
 go_ret
 exact ⟨rfl, rfl⟩
end Go.Proofs.YtpopbfagliagnaaGreat
namespace Go.Proofs.YtpopbfagliagnaaGreat
open Go.RowKit
def isDefer : Op → Bool
 | .defer _ => true
 | _ => false
section
variable {P : Program} {ops : Array Oper} {md : Region.Mode} {C : World → Prop} {Q : Exit → Act → World → Prop}
theorem wpOp_in {i l₀ n : Nat} {K : Act → World → Prop} {a : Act} {w : World} (hd : ∀ o, ops[i]? = some o → isDefer o.op = false) (hL : ¬ LetsOut Q) (h : wpOp P ops Q i K a w) : wpOpIn (Fence.wide.inRound l₀) n P ops Q i K a w := by
 unfold wpOp at h
 unfold wpOpIn
 cases ho : ops[i]? with
 | none => rw [ho] at h; exact h
 | some o =>
  rw [ho] at h
  have hdo : ∀ c, o.op ≠ .defer c := fun c e => by have := hd o ho; rw [e] at this; cases this
  simp only at h ⊢
  split at h
  ·rename_i hw
   rw [if_pos hw]
   rcases h with h | h
   ·refine ⟨fun f _ => trivial, ?_⟩
    rw [Oper.semAt_eq _ _ _ hdo]
    unfold Oper.wp at h
    generalize (execOp a.eval o).run P w = r at *
    cases r with
    | ok x w' =>
     cases x <;> simp only [Oper.upon, Oper.uponIn] at h ⊢
     case value => exact h
     case skip => exact h
     case defer => exact h
     case enter f args => exact ⟨fun hh => (by cases hh), callsIn_wide.2 h⟩
     case row r args => exact ⟨fun hh => (by cases hh), fun c cs _ => let ⟨v, w', r, s⟩ := h c cs; ⟨v, w', r, stepsIn_wide.2 s⟩⟩
    | halt x w' => cases x <;> simp only [Oper.upon, Oper.uponIn] at h ⊢; exact h
   ·exact absurd h.2 hL
  ·rename_i hw
   rw [if_neg hw]
   exact ⟨fun f _ => trivial, h⟩
theorem wpAny_in {l₀ n : Nat} (hd : ∀ (i : Nat) o, ops[i]? = some o → isDefer o.op = false) (hL : ¬ LetsOut Q) : ∀ (fuel : Nat) (listed : Array Bool) (a : Act) (w : World), wpAny P md ops Q fuel listed a w → wpAnyIn (Fence.wide.inRound l₀) n P md ops Q fuel listed a w
 | 0, _, _, _, h => h
 | fuel + 1, _, _, _, h => ⟨h.1, fun i hi => wpOp_in (hd i) hL (wpOp_mono (fun a' w' h' => wpAny_in hd hL fuel _ a' w' h') (h.2 i hi))⟩
theorem wpIn_region_seg {l₀ n id : Nat} {a : Act} {w : World} {l : List Oper} (is : List Seg) (hm : P.follows .mixedOrders = true) (hB : segB .any l.toArray is = true)
  (hQ : ∀ c a d v w, Q (.panic c) (a.put d v) w → Q (.panic c) a w) (hL : ¬ LetsOut Q) (hd : (l.all fun o => !isDefer o.op) = true)
  (h : wpSeg P l.toArray C Q (segs l is) a w.drew) : (Code.region id l.toArray true).wpIn (Fence.wide.inRound l₀) n P Q a w := by
 simp only [segB, Bool.and_eq_true, beq_iff_eq] at hB
 refine wpIn_region_any hm (wpAny_in (fun i o ho => ?_) hL _ _ _ _ (wpAny_of_F (C := C) (loose := looseOf .any l.toArray) _ _ _ _ ?_))
 ·have hi : l[i]? = some o := by simpa using ho
  have := List.all_eq_true.1 hd o (List.mem_of_getElem? hi)
  simpa using this
 ·have := seg_ok (md := .any) (C := C) hB.1.1 hQ is (Array.replicate l.toArray.size false) a w.drew (shut_none _) hB.2 h
  rw [hB.1.2] at this
  exact this
end
def clsWaste (c : Nat) : Nat := 512 - clsCells (c : Int) * clsWords (c : Int)
set_option maxHeartbeats 1000000 in
theorem cwaste_any (c : Nat) (hc : c < 32) (w : World) : Calls Tryz.prog 308 #[.int .i64 (c : Int)] w fun e w' => e = .returned (.int .i64 (clsWaste c : Nat)) ∧ Below w.heap.size w w' := by
 have h5 : clsCells (c : Int) * clsWords (c : Int) ≤ 512 := by unfold clsCells; exact Nat.div_mul_le_self _ _
 have HW : Hid (((512 : Int) - ((clsCells (c : Int) : Nat) : Int) * ((clsWords (c : Int) : Nat) : Int)) = (clsWaste c : Nat)) := LH (by
  unfold clsWaste
  rw [← Int.natCast_mul]
  omega)
 have hm : (((clsCells (c : Int) : Nat) : Int) * ((clsWords (c : Int) : Nat) : Int)) ≤ 512 := by rw [← Int.natCast_mul]; omega
 have hm0 : 0 ≤ (((clsCells (c : Int) : Nat) : Int) * ((clsWords (c : Int) : Nat) : Int)) := by rw [← Int.natCast_mul]; omega
 have HR := LH (fun w => cright_any (c : Int) w)
 rw [decide_eq_true (show (0 : Int) ≤ (c : Int) ∧ (c : Int) < 32 by omega)] at HR
 have HC := LH (fun w => ccells_any (c : Int) w)
 have HD := LH (fun w => cwords_any (c : Int) w)
 have HP : Hid (∀ w', Below w.heap.size w w' → (fun e w' => e = Ending.returned (.int .i64 (clsWaste c : Nat)) ∧ Below w.heap.size w w') (.returned (.int .i64 (clsWaste c : Nat))) w') := LH (fun w' h => ⟨rfl, h⟩)
 generalize (fun e w' => e = Ending.returned (.int .i64 (clsWaste c : Nat)) ∧ Below w.heap.size w w') = Post at *
 generalize clsCells (c : Int) = x at *
 generalize clsWords (c : Int) = y at *
 go_enter Tryz.func308, Tryz.ntmps308
 go_wp2_with fail
 refine (HR.out _).mono ?_
 rintro e w1 ⟨rfl, rfl⟩
 go_wp2_with fail
 refine (HC.out _).mono ?_
 rintro e w2 ⟨rfl, hb2⟩
 have HB2 := LH hb2
 clear hb2
 go_wp2_with fail
 refine (HD.out _).mono ?_
 rintro e w3 ⟨rfl, hb3⟩
 have HFin := LH (HP.out _ (HB2.out.trans (hb3.mono HB2.out.size)))
 clear hb3
 go_wp2_with fail
 rw [HW.out]
 exact HFin.out
end Go.Proofs.YtpopbfagliagnaaGreat
namespace Go.Proofs.YtpopbfagliagnaaGreat
open Go.RowKit Go.Shelf Go.Maps
attribute [local go_sem] Oper.semAt_some
def sizeP (m : Al) (x : Nat) : Nat := match placedN m.bm.dev m.bm.list (x : Int) with
 | some o => objSize o.p o.d
 | none => 0
def Rep.cell1 (m : Al) (c : Nat) (R : Rep) (x : Nat) : Rep := if m.used.getD x false then R.add (sizeP m x) (clsWords (c : Int) : Nat) else { R with ce := R.ce + 1 }
def Rep.cells1 (m : Al) (c : Nat) (R : Rep) (xs : List Nat) : Rep := xs.foldl (Rep.cell1 m c) R
theorem Rep.cells1_snoc (m : Al) (c : Nat) (R : Rep) (xs : List Nat) (x : Nat) : Rep.cells1 m c R (xs ++ [x]) = Rep.cell1 m c (Rep.cells1 m c R xs) x := by unfold Rep.cells1; rw [List.foldl_append]; rfl
def RepJ (w4 : World) (r : Nat) (m : Al) (c : Nat) (R : Rep) {b : Nat} (pre : List {x : Nat // x ∈ cellL b c}) (W : World) : Prop := RepAt W r (Rep.cells1 m c R (pre.map Subtype.val)) ∧ Touch [r] w4 W
theorem repJ_own (w4 : World) (r : Nat) (m : Al) (c : Nat) (R : Rep) {b : Nat} : OwnFrom w4.heap.size (fun (pre : List {x : Nat // x ∈ cellL b c}) W => RepJ w4 r m c R pre W) := by
 rintro s W W' row ⟨h1, h2⟩ hg hr
 have hne : ∀ k, row = some k → k ≠ r := fun k e hk => by
  obtain ⟨_, o, ho, hc⟩ := hr k e
  subst hk
  rw [h1] at ho
  injection ho with ho
  subst ho
  cases hc
 refine ⟨h1.keep (hg.block r h1.lt (fun e => hne r e.symm rfl)), ⟨hg.os.trans h2.os, hg.tape.trans h2.tape, hg.output.trans h2.output, Nat.le_trans h2.size hg.size, fun k hk hn => ?_⟩⟩
 refine (hg.block k (Nat.lt_of_lt_of_le hk h2.size) (fun e => ?_)).trans (h2.block k hk hn)
 have := (hr k e.symm).1
 omega
theorem keeps_touch {B r : Nat} {W W' : World} {R : Rep} (h : Touch [r] W W') (hr : RepAt W r R) : KeepsFrom B W W' := ⟨h.size, fun k o _ hk ho => by
 have hne : k ≠ r := fun e => by
  subst e
  rw [hr] at hk
  injection hk with hk
  subst hk
  cases ho
 exact (h.block k (Array.getElem?_eq_some_iff.1 hk).1 (by simpa using hne)).trans hk⟩
theorem kp3_touch {Bk Bg Bb r : Nat} {W W' : World} (h : Touch [r] W W') (h1 : Bk ≠ r ∧ Bk < W.heap.size) (h2 : Bg ≠ r ∧ Bg < W.heap.size) (h3 : Bb ≠ r ∧ Bb < W.heap.size) : Kp3 Bk Bg Bb W W' :=
 ⟨h.block _ h1.2 (by simpa using h1.1), h.block _ h2.2 (by simpa using h2.1), h.block _ h3.2 (by simpa using h3.1)⟩
theorem wp_nopanic {P : Program} {c : Code} {K : Act → World → Prop} {Q : Exit → Act → World → Prop} {a : Act} {w : World} (h : c.wp P (Exit.then K (fun _ _ _ => False)) a w) : c.wp P (Exit.then K Q) a w :=
 Code.wp_mono (fun e a w he => by cases e <;> first | exact he | exact he.elim) h
theorem Rep.ok.mono {R : Rep} {N N' : Nat} (h : R.ok N) (hN : N ≤ N') : R.ok N' := by
 obtain ⟨h1, h2, h3, h4, h5, h6, h7, h8⟩ := h
 exact ⟨by omega, by omega, by omega, by omega, by omega, by omega, by omega, by omega⟩
theorem clsWords_256 (c : Int) : clsWords c ≤ 256 := clsWords_le c
theorem Rep.cell1_ok {m : Al} {c : Nat} {R : Rep} {x N : Nat} (h : R.ok N) (hs : m.used.getD x false = true → sizeP m x ≤ 256) : (Rep.cell1 m c R x).ok (N + 600) := by
 obtain ⟨h1, h2, h3, h4, h5, h6, h7, h8⟩ := h
 have hw := clsWords_256 (c : Int)
 unfold Rep.cell1
 split
 ·next hu =>
  have hs := hs hu
  unfold Rep.add Rep.ok
  dsimp only
  exact ⟨by omega, by omega, by omega, by omega, by omega, by omega, by omega, by omega⟩
 ·unfold Rep.ok
  dsimp only
  exact ⟨by omega, by omega, by omega, by omega, by omega, by omega, by omega, by omega⟩
theorem Rep.cells1_ok {m : Al} {c : Nat} : ∀ {xs : List Nat} {R : Rep} {N : Nat} (_ : R.ok N) (_ : ∀ x ∈ xs, m.used.getD x false = true → sizeP m x ≤ 256), (Rep.cells1 m c R xs).ok (N + 600 * xs.length)
 | [], _, _, h, _ => h
 | x :: xs, R, N, h, hs => by
  have := Rep.cells1_ok (c := c) (xs := xs) (Rep.cell1_ok (c := c) h (hs x (by simp))) (fun y hy => hs y (by simp [hy]))
  exact this.mono (by rw [List.length_cons]; omega)
theorem sizeP_le {B : Nat} {m : Al} (hok : AlOk B m) {c x : Nat} (hc : c < 32) (hx : isCell m.bm.list c x) (hu : m.used.getD x false = true) : sizeP m x ≤ clsWords (c : Int) := by
 obtain ⟨o, ho⟩ := Option.isSome_iff_exists.1 (hok.placed x hu)
 have hs : sizeP m x = objSize o.p o.d := by unfold sizeP; rw [ho]
 rw [hs]
 have hr : objSize o.p o.d ≤ roomN o.p o.d := by
  by_cases h0 : objSize o.p o.d = 0
  ·omega
  ·exact room_fits h0
 cases placed_room ho with
 | cell k hk hcell hn =>
  have h1 := hcell.2.2.1
  have h2 := hx.2.2.1
  rw [h1] at h2
  injection h2 with _ h2 _
  obtain rfl : k = c := by omega
  omega
 | run n hb h1 hm hw hn =>
  have := (wholeN_fits (L := m.bm.list) (b := x / 512) (by omega)).2.1
  rw [isCell_kind hx] at this
  exact absurd this (by decide)
theorem cellL_is {B : Nat} {m : Al} (hok : AlOk B m) {b c x : Nat} (hc : c < 32) (hb1 : 1 ≤ b) (hbB : b < B) (hL : m.bm.list.getD b default = ⟨1, c, 0⟩) (hx : x ∈ cellL b c) : isCell m.bm.list c x := by
 obtain ⟨i, hi, hix⟩ := List.mem_map.1 hx
 exact ((isCell_of (L := m.bm.list) hc hb1 (by rw [hok.bm.lenL]; exact hbB) hL).2 ⟨i, List.mem_range.1 hi, hix.symm⟩).1
theorem cells1_fit {B : Nat} {m : Al} (hok : AlOk B m) {b c : Nat} (hc : c < 32) (hb1 : 1 ≤ b) (hbB : b < B) (hL : m.bm.list.getD b default = ⟨1, c, 0⟩) {R : Rep} {N : Nat} (hR : R.ok N) {xs : List Nat} (hx : ∀ x ∈ xs, x ∈ cellL b c) : (Rep.cells1 m c R xs).ok (N + 600 * xs.length) :=
 Rep.cells1_ok hR (fun x h1 hu => Nat.le_trans (sizeP_le hok hc (cellL_is hok hc hb1 hbB hL (hx x h1)) hu) (clsWords_256 _))
def Rep.block (R : Rep) (m : Al) (b c : Nat) : Rep := { Rep.cells1 m c R (cellL b c) with sm := (Rep.cells1 m c R (cellL b c)).sm + 1, wa := (Rep.cells1 m c R (cellL b c)).wa + (clsWaste c : Nat) }
theorem run_load_cell {w : World} {a : Addr} {v : Value} (hg : w.cell? a = some v) : (Sem.load Mode.plain a Sem.pure).run Tryz.prog w = .ok v w := by
 simp [Sem.run, hg]
theorem results_cell_two {fn : Func} {p q : Tmp} {u v : Value} (h : fn.results = #[.cell p 3, .cell q 50]) (tmps : Array Value) (w : World) (g k : Nat) (hp : tmps.getD p undef = .pointer (some ⟨g, 0, none⟩)) (hq : tmps.getD q undef = .pointer (some ⟨k, 0, none⟩))
  (hg : w.cell? ⟨g, 0, none⟩ = some u) (hk : w.cell? ⟨k, 0, none⟩ = some v) : (results fn tmps).run Tryz.prog w = .ok (.tuple #[u, v]) w := by
 have hp' : tmps[p]?.getD undef = .pointer (some ⟨g, 0, none⟩) := by simpa using hp
 have hq' : tmps[q]?.getD undef = .pointer (some ⟨k, 0, none⟩) := by simpa using hq
 have ha := Tryz.isAgg3
 have hb := Tryz.isAgg50
 simp [results, h, hp', hq', asAddr, loadVar, load, ha, hb, go_sem, hg, hk, Sem.run_bind, Result.andThen, run_load_cell hg, run_load_cell hk]
set_option maxRecDepth 100000 in
set_option maxHeartbeats 8000000 in
theorem rblock_any {w : World} {A : AF} {n B : Nat} {m : Al} (h : AlAt w A n B m) (hok : AlOk B m) (hB : B ≤ 200) {mp nn : Nat} {M : Lit → Option Value} (hV : VMap Tryz.prog 3 w mp nn M) (hI : InM M (freeUpto m 32)) {r : Nat} {R : Rep} (hR : RepAt w r R) (hRo : R.ok 100000000) (hrA : r ∉ A.list)
  {b c : Nat} (hb1 : 1 ≤ b) (hbB : b < B) (hc : c < 32) (hL : m.bm.list.getD b default = ⟨1, c, 0⟩) :
  Calls Tryz.prog 253 #[.pointer (some ⟨r, 0, none⟩), valloc A, .map (some mp), .int .i64 (b : Int), .int .i64 (c : Int)] w fun e w' => e = .returned (.tuple #[.int .i64 0, .int .i64 0]) ∧ RepAt w' r (R.block m b c) ∧ Touch [r] w w' := by
 refine (callsIn_wide (n := 5)).1 ?_
 refine callsIn_of_wp_marks Tryz.func253 rfl trivial ?_ rfl
 simp only [Tryz.ntmps253, List.size_toArray, List.length_cons, List.length_nil, Nat.reduceAdd, Nat.reduceSub, Array.replicate_succ, Array.replicate_zero, List.push_toArray, List.append_toArray, List.nil_append, List.cons_append]
 have HG := LH (fun w' (h' : Below w.heap.size w w') => bgeom_any (h.below h').man)
 have b5 := Boxed.new w 368 (.pointer (some ⟨r, 0, none⟩))
 have b6 := Boxed.new (w.alloc (.cells #[.pointer (some ⟨r, 0, none⟩)] 368)) 45 (valloc A)
 have b7 := Boxed.new ((w.alloc (.cells #[.pointer (some ⟨r, 0, none⟩)] 368)).alloc (.cells #[valloc A] 45)) 279 (.map (some mp))
 have b9 := Boxed.new (((w.alloc (.cells #[.pointer (some ⟨r, 0, none⟩)] 368)).alloc (.cells #[valloc A] 45)).alloc (.cells #[.map (some mp)] 279)) 3 (.int .i64 (c : Int))
 rw [World.size_alloc] at b6
 rw [World.size_alloc, World.size_alloc] at b7
 rw [World.size_alloc, World.size_alloc, World.size_alloc] at b9
 have b10 := Boxed.new ((((w.alloc (.cells #[.pointer (some ⟨r, 0, none⟩)] 368)).alloc (.cells #[valloc A] 45)).alloc (.cells #[.map (some mp)] 279)).alloc (.cells #[.int .i64 (c : Int)] 3)) 3 (.int .i64 0)
 rw [World.size_alloc, World.size_alloc, World.size_alloc, World.size_alloc] at b10
 have b11 := Boxed.new (((((w.alloc (.cells #[.pointer (some ⟨r, 0, none⟩)] 368)).alloc (.cells #[valloc A] 45)).alloc (.cells #[.map (some mp)] 279)).alloc (.cells #[.int .i64 (c : Int)] 3)).alloc (.cells #[.int .i64 0] 3)) 50 (.int .i64 0)
 rw [World.size_alloc, World.size_alloc, World.size_alloc, World.size_alloc, World.size_alloc] at b11
 have b10' := b10.alloc (.cells #[.int .i64 0] 50)
 have b5' := ((((b5.alloc (.cells #[valloc A] 45)).alloc (.cells #[.map (some mp)] 279)).alloc (.cells #[.int .i64 (c : Int)] 3)).alloc (.cells #[.int .i64 0] 3)).alloc (.cells #[.int .i64 0] 50)
 have b6' := (((b6.alloc (.cells #[.map (some mp)] 279)).alloc (.cells #[.int .i64 (c : Int)] 3)).alloc (.cells #[.int .i64 0] 3)).alloc (.cells #[.int .i64 0] 50)
 have b7' := ((b7.alloc (.cells #[.int .i64 (c : Int)] 3)).alloc (.cells #[.int .i64 0] 3)).alloc (.cells #[.int .i64 0] 50)
 have b9' := (b9.alloc (.cells #[.int .i64 0] 3)).alloc (.cells #[.int .i64 0] 50)
 have hBl : Below w.heap.size w ((((((w.alloc (.cells #[.pointer (some ⟨r, 0, none⟩)] 368)).alloc (.cells #[valloc A] 45)).alloc (.cells #[.map (some mp)] 279)).alloc (.cells #[.int .i64 (c : Int)] 3)).alloc (.cells #[.int .i64 0] 3)).alloc (.cells #[.int .i64 0] 50)) :=
  ((((((Below.refl _ w).alloc (Nat.le_refl _) _).alloc (by simp) _).alloc (by simp; omega) _).alloc (by simp; omega) _).alloc (by simp; omega) _).alloc (by simp; omega) _
 clear b5 b6 b7 b9 b10
 gi_wp2_with fail
 generalize (((((w.alloc _).alloc _).alloc _).alloc _).alloc _).alloc _ = w0 at *
 have HBl := LH hBl
 have HA0 := LH (h.below hBl)
 have a0 := HA0.out.c0
 have e6 := b6'.cell
 have e9 := b9'.cell
 have r0 := fun x => later_cell a0 x
 have r6 := fun x => later_cell e6 x
 have r9 := fun x => later_cell e9 x
 clear hBl a0 e6 e9
 refine wpIn_wide.2 (wp_nopanic ?_)
 refine wp_region_seg (C := fun w' => ∃ x : Later (w0), w' = x.val) [.fl [0, 1, 2, 3, 5, 6], .sq [4] true, .sq [7] false] (by kernel_rfl) (by kernel_rfl) (by intro c a d v w h; cases d <;> exact h) ?_
 simp only [segs, picks, List.getElem?_cons_succ, List.getElem?_cons_zero]
 have hC1 := later_drew (w0)
 refine wpSeg_fl hC1 ?_
 repeat (first | go_big_quiet_step (fail) | quiet_step (fail))
 refine wpQuiet_nil ?_
 refine wpSeg_sq (fun K hK => ?_)
 go_wp2_with fail
 refine (bgeom_any (HA0.out.below (later_below hC1)).man).mono ?_
 rintro e w1 ⟨rfl, hb1⟩
 have hC2 := later_step hC1 hb1
 have HB1 : Hid (Below w0.heap.size w0 w1) := LH (later_below hC2)
 clear hb1 r0 r6 r9
 go_wp2_with fail
 refine hK _ _ (fun _ => hC2) ?_
 clear hK K
 refine wpSeg_last ?_
 go_wp2_with fail
 refine ((callsIn_wide (n := 4)).1 (call_in B c b 4 w1)).mono ?_
 rintro e w2 ⟨rfl, rfl⟩
 have bK := (Boxed.new (w1.alloc (.cells #[.int .i64 (B : Int)] 44)) 3 (.int .i64 (c : Int))).alloc (.cells #[.int .i64 (b : Int)] 3)
 have bG := ((Boxed.new w1 44 (.int .i64 (B : Int))).alloc (.cells #[.int .i64 (c : Int)] 3)).alloc (.cells #[.int .i64 (b : Int)] 3)
 have bB := Boxed.new ((w1.alloc (.cells #[.int .i64 (B : Int)] 44)).alloc (.cells #[.int .i64 (c : Int)] 3)) 3 (.int .i64 (b : Int))
 rw [World.size_alloc] at bK
 rw [World.size_alloc, World.size_alloc] at bB
 have hb2 : Below w1.heap.size w1 (((w1.alloc (.cells #[.int .i64 (B : Int)] 44)).alloc (.cells #[.int .i64 (c : Int)] 3)).alloc (.cells #[.int .i64 (b : Int)] 3)) := (((Below.refl _ w1).alloc (Nat.le_refl _) _).alloc (by simp) _).alloc (by simp; omega) _
 generalize ((w1.alloc _).alloc _).alloc _ = w2 at *
 have HB2 : Hid (Below w0.heap.size w0 w2) := LH (HB1.out.trans (hb2.mono HB1.out.size))
 clear hb2 hC1 hC2
 go_wp2_with fail
 have HT0 : Hid (Touch [r] w2 w2) := LH (Touch.refl _ _)
 have HR2 : Hid (RepAt w2 r R) := LH ((hR.below HBl.out).below HB2.out)
 have hst := call_stops (show B ≤ 1000 by omega) hc hb1 hbB 4 (by omega) (w1.heap.size + 1) w1.heap.size (w1.heap.size + 1 + 1) bK bG bB
 refine wpIn_block ?_
 refine wpIn_rangeFunc_ownG rfl (by omega) (gf := 340) (lb := #[.pointer (some ⟨w1.heap.size + 1, 0, none⟩), .pointer (some ⟨w1.heap.size, 0, none⟩), .pointer (some ⟨w1.heap.size + 1 + 1, 0, none⟩)]) rfl trivial (enters_of Tryz.func340 (by kernel_rfl) rfl)
  hst Kp3.trans (Kp3.book bK.lt bG.lt bB.lt) (Below.refl _ _) (fun _ => rfl)
  (fun pre W => RepJ w2 r m c R pre W) (fun _ _ _ => False) (repJ_own w2 r m c R) (fun _ _ _ _ _ hs _ _ => hs) ⟨HR2.out, HT0.out⟩
  (fun x => { tmps := #[.pointer (some ⟨r, 0, none⟩), valloc A, .map (some mp), .int .i64 (b : Int), .int .i64 (c : Int), .pointer (some ⟨w.heap.size, 0, none⟩), .pointer (some ⟨w.heap.size + 1, 0, none⟩), .pointer (some ⟨w.heap.size + 1 + 1, 0, none⟩), undef, .pointer (some ⟨w.heap.size + 1 + 1 + 1, 0, none⟩), .pointer (some ⟨w.heap.size + 1 + 1 + 1 + 1, 0, none⟩), .pointer (some ⟨w.heap.size + 1 + 1 + 1 + 1 + 1, 0, none⟩), .int .i64 (x.val : Int), undef, undef, undef, valloc A, .pointer (some ⟨A.a, 0, none⟩), .pointer (some ⟨A.a, 0, none⟩), .pointer (some ⟨A.X.m, 0, none⟩), vgeom (B : Int), .int .i64 (c : Int), .int .i64 (b : Int), .func (.func 340) #[] #[.pointer (some ⟨w1.heap.size + 1, 0, none⟩), .pointer (some ⟨w1.heap.size, 0, none⟩), .pointer (some ⟨w1.heap.size + 1 + 1, 0, none⟩)], .int .i64 (x.val : Int), undef, undef, undef, undef, undef, undef, undef, undef, undef, undef, undef, undef, undef, undef, undef, undef, undef, undef, undef, undef, undef, undef, undef, undef, undef, undef, undef, undef, undef, undef, undef, undef, undef, undef, undef, undef, undef, undef, undef, undef, undef, undef, undef, undef, undef, undef, undef, undef, undef, undef, undef, undef, undef, undef, undef, undef, undef, undef, undef, undef, undef], defers := [] }) ?assign ?body ?done ?stop
 case assign =>
  intro l x W K hK
  gi_wp2
  exact hK
 case stop =>
  rintro D c pre W _ _ h _
  exact h.elim
 case body =>
  rintro l' pre x W ⟨hRp, hT⟩ hlt'
  have hrw : r < w.heap.size := hR.lt
  have hz0 := HBl.out.size
  have hz2 := HB2.out.size
  have hz1 := HB1.out.size
  have hzK := bK.lt
  have hzB := bB.lt
  have hzT := hT.size
  have hkp : ∀ k, k ≠ r → k < w2.heap.size → W.heap[k]? = w2.heap[k]? := fun k hk hl => hT.block k hl (by simpa using hk)
  have b5W : Boxed W w.heap.size 368 (.pointer (some ⟨r, 0, none⟩)) := (hkp _ (by omega) (Nat.lt_of_lt_of_le b5'.lt hz2)).trans ((HB2.out.block _ b5'.lt).trans b5')
  have b6W : Boxed W (w.heap.size + 1) 45 (valloc A) := (hkp _ (by omega) (Nat.lt_of_lt_of_le b6'.lt hz2)).trans ((HB2.out.block _ b6'.lt).trans b6')
  have b7W : Boxed W (w.heap.size + 1 + 1) 279 (.map (some mp)) := (hkp _ (by omega) (Nat.lt_of_lt_of_le b7'.lt hz2)).trans ((HB2.out.block _ b7'.lt).trans b7')
  have b9W : Boxed W (w.heap.size + 1 + 1 + 1) 3 (.int .i64 (c : Int)) := (hkp _ (by omega) (Nat.lt_of_lt_of_le b9'.lt hz2)).trans ((HB2.out.block _ b9'.lt).trans b9')
  have HA2 := HA0.out.below HB2.out
  have HAW := LH (HA2.keep (fun k hk => hkp k (fun e => hrA (e ▸ hk)) (HA2.mem k hk)))
  have hmr : mp ≠ r := fun e => by
   subst e
   obtain ⟨D, ⟨es, clock, hb, _⟩, _⟩ := hV
   rw [hR] at hb; cases hb
  have HVW := LH (hV.block ((hkp mp hmr (Nat.lt_of_lt_of_le (Nat.lt_of_lt_of_le hV.lt hz0) hz2)).trans ((HB2.out.block mp (Nat.lt_of_lt_of_le hV.lt hz0)).trans (HBl.out.block mp hV.lt))))
  have e5 := b5W.cell
  have e6 := b6W.cell
  have e7 := b7W.cell
  have e9 := b9W.cell
  have HU := LH (aused_any HAW.out (x.val : Int))
  rw [hasI_nat] at HU
  have hcell := x.property
  have hx9 : x.val ≤ 1000000 := by
   obtain ⟨i, hi, hix⟩ := List.mem_map.1 hcell
   have h1 : clsCells (c : Int) ≤ 512 := by unfold clsCells; exact Nat.le_trans (Nat.div_le_self _ _) (by omega)
   have h2 := List.mem_range.1 hi
   have h3 : i * clsWords (c : Int) ≤ 512 * 256 := Nat.mul_le_mul (by omega) (clsWords_256 _)
   rw [← hix]; unfold cellOf; omega
  have HcJ : Hid (Rep.cells1 m c R ((pre ++ [x]).map Subtype.val) = Rep.cell1 m c (Rep.cells1 m c R (pre.map Subtype.val)) x.val) := LH (by rw [List.map_append]; exact Rep.cells1_snoc _ _ _ _ _)
  have HTw := LH hT
  have hpl : pre.length < 513 := by
   have h1 : clsCells (c : Int) ≤ 512 := by unfold clsCells; exact Nat.le_trans (Nat.div_le_self _ _) (by omega)
   rw [cellL_len] at hlt'
   omega
  have hRok : (Rep.cells1 m c R (pre.map Subtype.val)).ok 1000000000 := (cells1_fit hok hc hb1 hbB hL hRo (xs := pre.map Subtype.val) (fun y hy => by obtain ⟨z, _, rfl⟩ := List.mem_map.1 hy; exact z.property)).mono (by rw [List.length_map]; omega)
  generalize Rep.cells1 m c R (pre.map Subtype.val) = R1 at *
  have HRp := LH hRp
  cases hu : m.used.getD x.val false with
  | false =>
   rw [hu] at HU
   have HFr : Hid (freeUpto m 32 x.val = true) := LH (by
    unfold freeUpto
    rw [List.any_eq_true]
    refine ⟨c, List.mem_range.2 hc, ?_⟩
    unfold isFree
    rw [decide_eq_true_iff]
    refine ⟨((isCell_of (L := m.bm.list) hc hb1 (by rw [hok.bm.lenL]; exact hbB) hL).2 ?_).1, hu⟩
    obtain ⟨i, hi, hix⟩ := List.mem_map.1 hcell
    exact ⟨i, List.mem_range.1 hi, hix.symm⟩)
   have hlk : (Instr.lookup 279 (.map (some mp)) (.int .i64 (x.val : Int)) false).run Tryz.prog W = .ok (.bool true) W := by
    have := HVW.out.look keyed_int Tryz.underlying279 (zero_bool W) (key_int x.val hx9)
    rw [hI.get hx9, HFr.out] at this
    exact this
   have d5 : W.cell? ⟨r, 5, none⟩ = some (vi R1.ce) := HRp.out.cell rfl
   have f5 := HRp.out.row.frozen 5
   have hce : R1.ce ≤ 1000000000 := hRok.2.2.2.2.2.1
   gi_wp2_with (refine ⟨trivial, ?_⟩; gi_at_call 62; refine (callsIn_wide.2 HU.out).mono ?_; rintro e w1 ⟨rfl, rfl⟩)
   obtain ⟨h1, t1⟩ := HRp.out.set (R' := { R1 with ce := R1.ce + 1 }) 5 (.int .i64 ((R1.ce : Int) + 1)) rfl
   refine ⟨keeps_touch t1 HRp.out, kp3_touch t1 ⟨by omega, by omega⟩ ⟨by omega, by omega⟩ ⟨by omega, by omega⟩, ?_, HTw.out.trans t1⟩
   show RepAt _ r (Rep.cells1 m c R ((pre ++ [x]).map Subtype.val))
   rw [HcJ.out]
   unfold Rep.cell1
   rw [hu]
   exact h1
  | true =>
   have HAp := LH (fun w' (h' : Below W.heap.size W w') => aplace_any (HAW.out.below h') (by omega) (x.val : Int))
   have HCw := LH (fun w => cwords_any (c : Int) w)
   rw [hu] at HU
   have HFr : Hid (freeUpto m 32 x.val = false) := LH (by
    unfold freeUpto
    rw [List.any_eq_false]
    intro j _ hj
    unfold isFree at hj
    rw [decide_eq_true_iff] at hj
    rw [hj.2] at hu; cases hu)
   have hlk : (Instr.lookup 279 (.map (some mp)) (.int .i64 (x.val : Int)) false).run Tryz.prog W = .ok (.bool false) W := by
    have := HVW.out.look keyed_int Tryz.underlying279 (zero_bool W) (key_int x.val hx9)
    rw [hI.get hx9, HFr.out] at this
    exact this
   obtain ⟨po, hpo⟩ := Option.isSome_iff_exists.1 (hok.placed x.val hu)
   have HSz : Hid (sizeP m x.val = objSize po.p po.d) := LH (by unfold sizeP; rw [hpo])
   have HPl := LH (HAp.out W (Below.refl _ _))
   gi_wp2_with (first
    | (refine ⟨trivial, ?_⟩; gi_at_call 62; refine (callsIn_wide.2 HU.out).mono ?_; rintro e w1 ⟨rfl, rfl⟩)
    | (refine ⟨trivial, ?_⟩; gi_at_call 166; refine (callsIn_wide.2 HPl.out).mono ?_; rintro e W2 ⟨⟨p, d, rfl, hpd⟩, hb2⟩; have HPd := LH (hpd _ hpo); have HB2w := LH hb2; rw [hpo]; clear hpd hb2))
   have HM5 := LH (Mem.one W2 #[.int .i64 p, .int .i64 d] 169)
   have HB5 : Hid (Below W.heap.size W (W2.alloc (.cells #[.int .i64 p, .int .i64 d] 169))) := LH (HB2w.out.trans (HM5.out.below.mono HB2w.out.size))
   obtain ⟨qo, hqo⟩ : ∃ qo, qo = W2.heap.size := ⟨_, rfl⟩
   rw [← hqo] at HM5 ⊢
   generalize W2.alloc _ = w5 at *
   have g5b : Boxed w5 w.heap.size 368 (.pointer (some ⟨r, 0, none⟩)) := (HB5.out.block _ b5W.lt).trans b5W
   have g5 := g5b.cell
   have g9b : Boxed w5 (w.heap.size + 1 + 1 + 1) 3 (.int .i64 (c : Int)) := (HB5.out.block _ b9W.lt).trans b9W
   have g9 := g9b.cell
   have m0 := HM5.out.cell 0 0 rfl rfl
   have m1 := HM5.out.cell 0 1 rfl rfl
   have r5 := fun x => later_cell g5 x
   have r9 := fun x => later_cell g9 x
   have q0 := fun x => later_cell m0 x
   have q1 := fun x => later_cell m1 x
   have HR5 := LH (HRp.out.below HB5.out)
   have HSp : Hid (sizeP m x.val = objSize p d) := LH (by rw [HSz.out, HPd.out])
   clear e5 e6 e7 e9 g5 g9 m0 m1 hlk hqo
   refine wpIn_region_seg (C := fun w' => ∃ x : Later (w5), w' = x.val) [.fl [0, 1, 2], .sq [3] true, .sq [4] false] (by kernel_rfl) (by kernel_rfl) (by intro c a d v w h; cases d <;> exact h) (by rintro ⟨a, w, h⟩; exact h) (by kernel_rfl) ?_
   simp only [segs, picks, List.getElem?_cons_succ, List.getElem?_cons_zero]
   have hC1 := later_drew (w5)
   refine wpSeg_fl hC1 ?_
   repeat (first | go_big_quiet_step (fail) | quiet_step (fail))
   refine wpQuiet_nil ?_
   refine wpSeg_sq (fun K hK => ?_)
   go_wp2_with fail
   refine (HCw.out _).mono ?_
   rintro e w6 ⟨rfl, hb6⟩
   have hC2 := later_step hC1 hb6
   clear hb6 r5 r9 q0 q1
   go_wp2_with fail
   refine hK _ _ (fun _ => hC2) ?_
   clear hK K
   refine wpSeg_last ?_
   go_wp2_with fail
   have hs256 : sizeP m x.val ≤ 256 := Nat.le_trans (sizeP_le hok hc (cellL_is hok hc hb1 hbB hL hcell) hu) (clsWords_256 _)
   refine (radd_any (HR5.out.below (later_below hC2)) hRok p d (clsWords (c : Int) : Nat) (by rw [← HSp.out]; omega) (by omega) (by have := clsWords_256 (c : Int); omega)).mono ?_
   rintro e w7 ⟨rfl, hr7, ht7⟩
   have htW : Touch [r] W w7 := ((Touch.ofBelow HB5.out).trans (Touch.ofBelow (later_below hC2))).trans ht7
   have HFin : Hid (RepJ w2 r m c R (pre ++ [x]) w7) := LH ⟨by
    rw [HcJ.out]
    unfold Rep.cell1
    rw [hu, if_pos rfl, HSp.out]
    exact hr7, HTw.out.trans htW⟩
   have HKe := LH (keeps_touch (B := w2.heap.size) htW HRp.out)
   have HK3 : Hid (Kp3 (w1.heap.size + 1) w1.heap.size (w1.heap.size + 1 + 1) W w7) := LH (kp3_touch htW ⟨by omega, by omega⟩ ⟨by omega, by omega⟩ ⟨by omega, by omega⟩)
   clear hr7 ht7 htW hC1 hC2
   go_wp2_with fail
   exact ⟨HKe.out, HK3.out, HFin.out⟩
 case done =>
  rintro D ys W hD hys ⟨hRp, hT⟩ hK
  have hrw : r < w.heap.size := hR.lt
  have hz0 := HBl.out.size
  have hz2 := HB2.out.size
  have hkp : ∀ k, k ≠ r → k < w2.heap.size → W.heap[k]? = w2.heap[k]? := fun k hk hl => hT.block k hl (by simpa using hk)
  have b5W : Boxed W w.heap.size 368 (.pointer (some ⟨r, 0, none⟩)) := (hkp _ (by omega) (Nat.lt_of_lt_of_le b5'.lt hz2)).trans ((HB2.out.block _ b5'.lt).trans b5')
  have b9W : Boxed W (w.heap.size + 1 + 1 + 1) 3 (.int .i64 (c : Int)) := (hkp _ (by omega) (Nat.lt_of_lt_of_le b9'.lt hz2)).trans ((HB2.out.block _ b9'.lt).trans b9')
  rw [hys] at hRp
  have hRok : (Rep.cells1 m c R (cellL b c)).ok 1000000000 := (cells1_fit hok hc hb1 hbB hL hRo (xs := cellL b c) (fun y hy => hy)).mono (by
   have h1 : clsCells (c : Int) ≤ 512 := by unfold clsCells; exact Nat.le_trans (Nat.div_le_self _ _) (by omega)
   rw [cellL_len]; omega)
  have HBk : Hid (R.block m b c = { Rep.cells1 m c R (cellL b c) with sm := (Rep.cells1 m c R (cellL b c)).sm + 1, wa := (Rep.cells1 m c R (cellL b c)).wa + (clsWaste c : Nat) }) := LH rfl
  generalize Rep.cells1 m c R (cellL b c) = R2 at *
  have e5 := b5W.cell
  have d1 : W.cell? ⟨r, 1, none⟩ = some (vi R2.sm) := hRp.cell rfl
  have f1 := hRp.row.frozen 1
  have hsm : R2.sm ≤ 1000000000 := hRok.2.1
  have hwa : -1000000000 ≤ R2.wa ∧ R2.wa ≤ 1000000000 := hRok.2.2.2.2.2.2
  obtain ⟨h1, t1⟩ := (show RepAt W r R2 from hRp).set (R' := { R2 with sm := R2.sm + 1 }) 1 (.int .i64 ((R2.sm : Int) + 1)) rfl
  have HR6 := LH h1
  have HT6 := LH t1
  have hzW := hT.size
  gi_wp2_with fail
  generalize W.setCell _ _ = w6 at *
  have g5 : w6.cell? ⟨w.heap.size, 0, none⟩ = some (.pointer (some ⟨r, 0, none⟩)) := (show Boxed w6 w.heap.size 368 (.pointer (some ⟨r, 0, none⟩)) from (HT6.out.block _ b5W.lt (by simp; omega)).trans b5W).cell
  have g9 : w6.cell? ⟨w.heap.size + 1 + 1 + 1, 0, none⟩ = some (.int .i64 (c : Int)) := (show Boxed w6 (w.heap.size + 1 + 1 + 1) 3 (.int .i64 (c : Int)) from (HT6.out.block _ b9W.lt (by simp; omega)).trans b9W).cell
  have d6 : w6.cell? ⟨r, 6, none⟩ = some (.int .i64 R2.wa) := HR6.out.cell rfl
  have r5 := fun x => later_cell g5 x
  have r9 := fun x => later_cell g9 x
  have r6 := fun x => later_cell d6 x
  have HWs := LH (fun w => cwaste_any c hc w)
  have hws : clsWaste c ≤ 512 := Nat.sub_le _ _
  clear h1 t1 e5 d1 f1 g5 g9 d6
  refine wpIn_wide.2 (wp_nopanic ?_)
  refine wp_region_seg (C := fun w' => ∃ x : Later (w6), w' = x.val) [.fl [0, 1, 2, 3, 4], .sq [5] true, .sq [6, 7, 8, 9] false] (by kernel_rfl) (by kernel_rfl) (by intro c a d v w h; cases d <;> exact h) ?_
  simp only [segs, picks, List.getElem?_cons_succ, List.getElem?_cons_zero]
  have hC1 := later_drew (w6)
  refine wpSeg_fl hC1 ?_
  repeat (first | go_big_quiet_step (fail) | quiet_step (fail))
  refine wpQuiet_nil ?_
  refine wpSeg_sq (fun K hK => ?_)
  go_wp2_with fail
  refine (HWs.out _).mono ?_
  rintro e w7 ⟨rfl, hb7⟩
  have hC2 := later_step hC1 hb7
  have HR7 := LH (HR6.out.below (later_below hC2))
  have d6 : w7.cell? ⟨r, 6, none⟩ = some (.int .i64 R2.wa) := HR7.out.cell rfl
  have f6 := HR7.out.row.frozen 6
  clear hb7 r5 r6 r9
  obtain ⟨h2, t2⟩ := HR7.out.set (R' := { R2 with sm := R2.sm + 1, wa := R2.wa + (clsWaste c : Nat) }) 6 (.int .i64 (R2.wa + ((clsWaste c : Nat) : Int))) rfl
  have HT7 : Hid (Touch [r] W w7) := LH (HT6.out.trans (Touch.ofBelow (later_below hC2)))
  have HR8 := LH h2
  have HT8 := LH (HT7.out.trans t2)
  clear h2 t2
  go_wp2_with fail
  refine hK _ _ (fun _ => hC2) ?_
  clear hK K
  refine wpSeg_last ?_
  go_wp2_with fail
  generalize w7.setCell _ _ = w8 at *
  have HT28 : Hid (Touch [r] w2 w8) := LH (hT.trans HT8.out)
  have hz8 := HT28.out.size
  have k10 : Boxed w8 (w.heap.size + 1 + 1 + 1 + 1) 3 (.int .i64 0) := (HT28.out.block _ (Nat.lt_of_lt_of_le b10'.lt hz2) (by simp; omega)).trans ((HB2.out.block _ b10'.lt).trans b10')
  have k11 : Boxed w8 (w.heap.size + 1 + 1 + 1 + 1 + 1) 50 (.int .i64 0) := (HT28.out.block _ (Nat.lt_of_lt_of_le b11.lt hz2) (by simp; omega)).trans ((HB2.out.block _ b11.lt).trans b11)
  have c10 := k10.cell
  have f10 := k10.frozen
  have k11' := k11.other (show w.heap.size + 1 + 1 + 1 + 1 + 1 ≠ w.heap.size + 1 + 1 + 1 + 1 by omega) (.int .i64 0)
  have c11 := k11'.cell
  have f11 := k11'.frozen
  have hD8 : w8.heap[D]? = some (.deferred (some [])) := (HT8.out.block D (Array.getElem?_eq_some_iff.1 hK).1 (by simp; omega)).trans hK
  have hDa : D ≠ w.heap.size + 1 + 1 + 1 + 1 := fun e => by have := b10'.lt; omega
  have hDb : D ≠ w.heap.size + 1 + 1 + 1 + 1 + 1 := fun e => by have := b11.lt; omega
  have hK2 : ((w8.setCell ⟨w.heap.size + 1 + 1 + 1 + 1, 0, none⟩ (.int .i64 0)).setCell ⟨w.heap.size + 1 + 1 + 1 + 1 + 1, 0, none⟩ (.int .i64 0)).heap[D]? = some (.deferred (some [])) := (Below.heap_setCell _ _ _ _ hDb).trans ((Below.heap_setCell _ _ _ _ hDa).trans hD8)
  have k10b : Boxed (((w8.setCell ⟨w.heap.size + 1 + 1 + 1 + 1, 0, none⟩ (.int .i64 0)).setCell ⟨w.heap.size + 1 + 1 + 1 + 1 + 1, 0, none⟩ (.int .i64 0)).putObj D (.deferred none)) (w.heap.size + 1 + 1 + 1 + 1) 3 (.int .i64 0) := (World.putObj_heap_other (fun e => hDa e.symm)).trans ((k10.set (.int .i64 0)).other (by omega) _)
  have k11b : Boxed (((w8.setCell ⟨w.heap.size + 1 + 1 + 1 + 1, 0, none⟩ (.int .i64 0)).setCell ⟨w.heap.size + 1 + 1 + 1 + 1 + 1, 0, none⟩ (.int .i64 0)).putObj D (.deferred none)) (w.heap.size + 1 + 1 + 1 + 1 + 1) 50 (.int .i64 0) := (World.putObj_heap_other (fun e => hDb e.symm)).trans (k11'.set (.int .i64 0))
  have z10 := k10b.cell
  have z11 := k11b.cell
  gi_wp2
  refine ⟨by simp, .inl ⟨_, _, rfl, run_takeDeferred hK2, ?_⟩⟩
  have B9 : Below w.heap.size w8 (((w8.setCell ⟨w.heap.size + 1 + 1 + 1 + 1, 0, none⟩ (.int .i64 0)).setCell ⟨w.heap.size + 1 + 1 + 1 + 1 + 1, 0, none⟩ (.int .i64 0)).putObj D (.deferred none)) :=
   (((Below.refl w.heap.size w8).setCell (p := ⟨w.heap.size + 1 + 1 + 1 + 1, 0, none⟩) (by show w.heap.size ≤ w.heap.size + 1 + 1 + 1 + 1; omega) (.int .i64 0)).setCell (p := ⟨w.heap.size + 1 + 1 + 1 + 1 + 1, 0, none⟩) (by show w.heap.size ≤ w.heap.size + 1 + 1 + 1 + 1 + 1; omega) (.int .i64 0)).trans (belowK_b (w := w2) (by omega) _ D _ (.deferred none) hD hK2 rfl rfl)
  have t08 : Touch [r] w w8 := (Touch.ofBelow (HBl.out.trans (HB2.out.mono hz0))).trans HT28.out
  refine ⟨.tuple #[.int .i64 0, .int .i64 0], results_cell_two (p := 10) (q := 11) rfl _ _ _ _ rfl rfl z10 z11, rfl, ?_, ⟨B9.os.trans t08.os, B9.tape.trans t08.tape, B9.output.trans t08.output, Nat.le_trans t08.size B9.size, fun k hk hn => (B9.block k hk).trans (t08.block k hk hn)⟩⟩
  rw [HBk.out]
  exact HR8.out.keep (B9.block r hrw)
def Rep.one (R : Rep) (m : Al) (b : Nat) : Rep :=
 if (m.bm.list.getD b default).k = 0 then { R with fr := R.fr + 1 }
 else if (m.bm.list.getD b default).k = 1 then R.block m b (m.bm.list.getD b default).c.toNat
 else if (m.bm.list.getD b default).k = 2 then { R.add (sizeP m (512 * b)) ((m.bm.list.getD b default).l * 512) with lg := R.lg + 1 }
 else R
end Go.Proofs.YtpopbfagliagnaaGreat
namespace Go.Proofs.YtpopbfagliagnaaGreat
open Go.RowKit Go.Maps
set_option maxHeartbeats 8000000 in
set_option maxRecDepth 100000 in
theorem rone_any {w : World} {A : AF} {n B : Nat} {m : Al} (h : AlAt w A n B m) (hok : AlOk B m) (hB : B ≤ 200) (hlg : LgOk m) {mp nn : Nat} {M : Lit → Option Value} (hV : VMap Tryz.prog 3 w mp nn M) (hI : InM M (freeUpto m 32)) {r : Nat} {R : Rep} (hR : RepAt w r R) (hRo : R.ok 100000000) (hrA : r ∉ A.list)
  {la : Option Addr} {lc : Nat} {L : List Hd} (hC : Cells w la (hdCs L)) (hLl : L.length = B) (hLa : ∀ q, 1 ≤ q → L.getD q default = m.bm.list.getD q default) {b : Nat} (hb1 : 1 ≤ b) (hbB : b < B) :
  Calls Tryz.prog 177 #[.pointer (some ⟨r, 0, none⟩), valloc A, .map (some mp), .slice la B lc, .int .i64 (b : Int)] w fun e w' => e = .returned (.tuple #[.int .i64 0, .int .i64 0]) ∧ RepAt w' r (R.one m b) ∧ Touch [r] w w' := by
 have HP : Hid (∀ w', RepAt w' r (R.one m b) → Touch [r] w w' → (fun e w' => e = Ending.returned (.tuple #[.int .i64 0, .int .i64 0]) ∧ RepAt w' r (R.one m b) ∧ Touch [r] w w') (.returned (.tuple #[.int .i64 0, .int .i64 0])) w') := LH (fun w' h1 h2 => ⟨rfl, h1, h2⟩)
 generalize (fun e w' => e = Ending.returned (.tuple #[.int .i64 0, .int .i64 0]) ∧ RepAt w' r (R.one m b) ∧ Touch [r] w w') = Post at *
 obtain ⟨k, c, l, _, he, hcls⟩ := hd_is hok.bm hb1 hbB
 have hbl : b < L.length := by rw [hLl]; exact hbB
 obtain ⟨b1, o1, rfl, d0, d1, d2⟩ := hd_cells hC hbl ((hLa b hb1).trans he)
 have hbI : (b : Int) < (B : Int) := by omega
 have HOne : Hid (R.one m b = if k = 0 then { R with fr := R.fr + 1 } else if k = 1 then R.block m b c.toNat else if k = 2 then { R.add (sizeP m (512 * b)) (l * 512) with lg := R.lg + 1 } else R) := LH (by unfold Rep.one; rw [he])
 have hb0 := below_alloc w (.cells #[.int .i64 k, .int .i64 c, .int .i64 l] 103)
 have HM := LH (Mem.one w #[.int .i64 k, .int .i64 c, .int .i64 l] 103)
 have HR0 := LH (hR.below hb0)
 have HA0 := LH (h.below hb0)
 have HV0 := LH (hV.block (hb0.block mp hV.lt))
 have HB0 := LH hb0
 clear hb0 h hV
 go_enter Tryz.func177, Tryz.ntmps177
 go_upto_region 2 with fail
 generalize w.alloc _ = w0 at *
 have e0 := HM.out.cell 0 0 rfl rfl
 have e1 := HM.out.cell 0 1 rfl rfl
 have e2 := HM.out.cell 0 2 rfl rfl
 by_cases hk0 : k = 0
 ·subst hk0
  have g0 : w0.cell? ⟨r, 0, none⟩ = some (vi R.fr) := HR0.out.cell rfl
  have f0 := HR0.out.row.frozen 0
  have hfr : R.fr ≤ 100000000 := hRo.1
  obtain ⟨h1, t1⟩ := HR0.out.set (R' := { R with fr := R.fr + 1 }) 0 (.int .i64 ((R.fr : Int) + 1)) rfl
  have HFin := LH (HP.out _ (by rw [HOne.out, if_pos rfl]; exact h1) ((Touch.ofBelow HB0.out).trans t1))
  clear h1 t1
  go_wp2_with fail
  exact HFin.out
 have hk0' : (k == 0) = false := by simpa using hk0
 by_cases hk1 : k = 1
 ·subst hk1
  obtain ⟨cn, rfl, hcn⟩ := hcls rfl
  have hl0 : l = 0 := by
   have hr := of_decide_eq_true (hok.bm.right b hbB)
   rw [he] at hr
   unfold HdRight at hr
   dsimp only at hr
   omega
  subst hl0
  have HBl := LH (rblock_any HA0.out hok hB HV0.out hI HR0.out hRo hrA hb1 hbB hcn he)
  go_wp2_with fail
  refine HBl.out.mono ?_
  rintro e w2 ⟨rfl, hr2, ht2⟩
  have HFin := LH (HP.out w2 (by rw [HOne.out, if_neg (by omega), if_pos trivial, Int.toNat_natCast]; exact hr2) ((Touch.ofBelow HB0.out).trans ht2))
  clear hr2 ht2
  go_wp2_with fail
  exact HFin.out
 have hk1' : (k == 1) = false := by simpa using hk1
 by_cases hk2 : k = 2
 ·subst hk2
  have hr := of_decide_eq_true (hok.bm.right b hbB)
  rw [he] at hr
  unfold HdRight at hr
  dsimp only at hr
  have hl1 : 1 ≤ l ∧ l < 256 := by omega
  have hus : m.used.getD (512 * b) false = true := hlg b (by rw [he])
  obtain ⟨po, hpo⟩ := Option.isSome_iff_exists.1 (hok.placed (512 * b) hus)
  have hsz : objSize po.p po.d ≤ 200000 := by
   have h1 : objSize po.p po.d ≤ roomN po.p po.d := by
    by_cases h0 : objSize po.p po.d = 0
    ·omega
    ·exact room_fits h0
   have h2 := (placed_room hpo).pos.2.2
   rw [hok.bm.lenL] at h2
   omega
  have HSz : Hid (sizeP m (512 * b) = objSize po.p po.d) := LH (by unfold sizeP; rw [hpo])
  have HPl : Hid (∀ w', Below w0.heap.size w0 w' → Calls Tryz.prog 166 #[valloc A, .int .i64 ((512 * b : Nat) : Int)] w' (fun e w2 => e = .returned (.tuple #[.agg #[.int .i64 po.p, .int .i64 po.d], .bool true]) ∧ Below w'.heap.size w' w2)) := LH (fun w' h' => (aplace_any (HA0.out.below h') (by omega) ((512 * b : Nat) : Int)).mono (by
   rintro e w2 ⟨⟨p, d, rfl, hpd⟩, hb4⟩
   have h1 := hpd _ hpo
   rw [hpo, h1]
   exact ⟨rfl, hb4⟩))
  have HGm := LH (bgeom_any HA0.out.man)
  have HFs := LH (fun w => gfirstN_any B (by omega) b hbB w)
  have HUs := LH (fun w' (h' : Below w0.heap.size w0 w') => aused_any (HA0.out.below h') ((512 * b : Nat) : Int))
  rw [hasI_nat, hus] at HUs
  have hxe : (b : Int) * 512 = ((512 * b : Nat) : Int) := by omega
  rw [hxe] at HFs
  have a0 := HA0.out.c0
  obtain ⟨p, hp⟩ : ∃ p, p = po.p := ⟨_, rfl⟩
  obtain ⟨d, hd⟩ : ∃ d, d = po.d := ⟨_, rfl⟩
  rw [← hp, ← hd] at HPl HSz hsz
  obtain ⟨xx, hxx⟩ : ∃ xx, xx = 512 * b := ⟨_, rfl⟩
  rw [← hxx] at HPl HUs HFs HSz HOne
  clear hxe hr hus hpo hp hd hxx hLa hlg
  go_wp2_with fail
  refine HGm.out.mono ?_
  rintro e w2 ⟨rfl, hb2⟩
  have HB2 := LH hb2
  clear hb2 a0
  go_wp2_with fail
  refine (HFs.out _).mono ?_
  rintro e w3 ⟨rfl, hb3⟩
  have HB3 := LH (HB2.out.trans (hb3.mono HB2.out.size))
  clear hb3 HB2
  go_wp2_with fail
  refine (HPl.out _ HB3.out).mono ?_
  rintro e w4 ⟨rfl, hb4⟩
  have HM5 := LH (Mem.one w4 #[.int .i64 p, .int .i64 d] 169)
  have HB5 : Hid (Below w0.heap.size w0 (w4.alloc (.cells #[.int .i64 p, .int .i64 d] 169))) := LH ((HB3.out.trans (hb4.mono HB3.out.size)).trans (HM5.out.below.mono (Nat.le_trans HB3.out.size hb4.size)))
  obtain ⟨qo, hqo⟩ : ∃ qo, qo = w4.heap.size := ⟨_, rfl⟩
  clear hb4 HB3 HPl HFs
  go_upto_region 10 with fail
  rw [← hqo] at HM5 ⊢
  generalize w4.alloc _ = w5 at *
  clear hqo
  have HA5 := LH (HUs.out _ HB5.out)
  go_wp2_with fail
  refine HA5.out.mono ?_
  rintro e w6 ⟨rfl, rfl⟩
  have HR5 := LH (HR0.out.below HB5.out)
  have g2 := (HM.out.later HB5.out).cell 0 2 rfl rfl
  have hl512 : l * 512 ≤ 200000 := by omega
  have hl0 : 0 ≤ l * 512 := by omega
  have HAd := LH (radd_any HR5.out (hRo.mono (by omega)) p d (l * 512) (by omega) hl0 (by omega))
  have o0 := HM5.out.cell 0 0 rfl rfl
  have o1 := HM5.out.cell 0 1 rfl rfl
  clear HUs HA5 HR5
  trace_state
  go_wp2_with fail
  refine HAd.out.mono ?_
  rintro e w7 ⟨rfl, hr7, ht7⟩
  have HT7 : Hid (Touch [r] w w7) := LH (((Touch.ofBelow HB0.out).trans (Touch.ofBelow HB5.out)).trans ht7)
  have HR7 := LH hr7
  clear hr7 ht7 o0 o1 g2
  have g7 : w7.cell? ⟨r, 2, none⟩ = some (vi R.lg) := HR7.out.cell rfl
  have f7 := HR7.out.row.frozen 2
  have hlgR : R.lg ≤ 100000000 := hRo.2.2.1
  obtain ⟨h1, t1⟩ := HR7.out.set (R' := { R.add (objSize p d) (l * 512) with lg := R.lg + 1 }) 2 (.int .i64 ((R.lg : Int) + 1)) rfl
  have HFin := LH (HP.out _ (by rw [HOne.out, if_neg (by omega), if_neg (by omega), if_pos trivial, HSz.out]; exact h1) (HT7.out.trans t1))
  clear h1 t1 HR7 HT7
  go_wp2_with fail
  exact HFin.out
 have hk2' : (k == 2) = false := by simpa using hk2
 have HFin := LH (HP.out w0 (by rw [HOne.out, if_neg hk0, if_neg hk1, if_neg hk2]; exact HR0.out) (Touch.ofBelow HB0.out))
 go_wp2_with fail
 exact HFin.out
end Go.Proofs.YtpopbfagliagnaaGreat
