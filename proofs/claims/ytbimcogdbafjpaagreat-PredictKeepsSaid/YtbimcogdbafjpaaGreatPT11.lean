/- Parts of the proof, one behind the other: Fn, Fo, Fp, Fq, Fr, Zd, Jx, Zi, Zj, Sb, Js, Zh, Zk, Ga, Gb, Gc, Fs, Gd, Zo, Wd, Ge, Tx, Ft, Fu, Pa, Pb, Pc, Ls, Il, Br, Pi, Pd. -/
import Derived.Test.YtbimcogdbafjpaaGreatPT10
import Derived.WalkKit
import Derived.Deep.Cut
import Derived.Shelf.Strings.Builder1
import Derived.Test.YtbimcogdbafjpaaGreatProg
import Derived.Shelf.SlSortCmp.WholeK
import Derived.Ground.SlsfProg
import Derived.Shelf.SlSortCmp.NoneTotal
set_option linter.unusedVariables false
namespace Go.Proofs.YtbimcogdbafjpaaGreat
open Go.RowKit Go.Maps
def FreeL (w : World) (ys : List Nat) : Ending → World → Prop := fun e w' => ∃ v, e = .returned v ∧ OwnI w' v ys ∧ (∀ b, rowOf v = some b → w.heap.size ≤ b) ∧ Below w.heap.size w w'
set_option maxHeartbeats 4000000 in
set_option maxRecDepth 20000 in
theorem rfree16_any {w : World} (a : Option Addr) (n cap : Nat) (L : List Hd) (hn : L.length = n) (hc : Cells w a (hdCs L)) (hl : n ≤ 200) (k : Nat) (hk : k < 32) (b : Option Addr) (un uc : Nat) (xs : List Nat) (hun : xs.length = un) (hx : Cells w b (xs.map vi)) (hul : un ≤ 1000000) :
  Calls Tryz.prog 79 #[.slice a n cap, .int .i64 (k : Int), .slice b un uc] w (FreeL w (freeTo (fun y => xs.contains y) L k (n - 1))) := by
 have HP : Hid (∀ v w', OwnI w' v (freeTo (fun y => xs.contains y) L k (n - 1)) → (∀ b, rowOf v = some b → w.heap.size ≤ b) → Below w.heap.size w w' → FreeL w (freeTo (fun y => xs.contains y) L k (n - 1)) (.returned v) w') := LH (fun v w' h1 h2 h3 => ⟨v, rfl, h1, h2, h3⟩)
 generalize FreeL w (freeTo (fun y => xs.contains y) L k (n - 1)) = Post at *
 obtain ⟨u, hu⟩ : ∃ u : Nat → Bool, u = fun y => xs.contains y := ⟨_, rfl⟩
 rw [← hu] at HP
 have HU := LH hu
 have HC := LH hc
 have HX := LH hx
 have HLn := LH hn
 have HUn := LH hun
 have hcp := clsWords_pos (k : Int) (by omega)
 have hc256 : clsCells k ≤ 256 := by
  unfold clsCells
  have := Nat.div_le_div_left (c := 2) (b := clsWords (k : Int)) (a := 512) hcp (by decide)
  omega
 have hw512 : clsWords k ≤ 512 := by
  have := clsWords_le (k : Int)
  omega
 clear hc hx hn hun hu
 obtain ⟨cc, hcc⟩ : ∃ cc, cc = clsCells k := ⟨_, rfl⟩
 obtain ⟨cw, hcw⟩ : ∃ cw, cw = clsWords k := ⟨_, rfl⟩
 have HCe := LH (fun w => rccells_any (k : Int) w)
 have HWe := LH (fun w => rcwords_any (k : Int) w)
 rw [← hcc] at HCe hc256
 rw [← hcw] at HWe hw512
 have HCc := LH hcc
 have HCw := LH hcw
 clear hcc hcw hcp
 go_enter Tryz.func79, Tryz.ntmps79
 go_wp2_with fail
 go_loopw [7, 8] (fun ov bv wr => ∃ bn : Nat, 1 ≤ bn ∧ (bn ≤ n ∨ bn = 1) ∧ bv = .int .i64 (bn : Int) ∧ Hid (OwnI wr ov (freeTo u L k (bn - 1))) ∧ Hid (∀ b, rowOf ov = some b → w.heap.size ≤ b) ∧ Hid (Below w.heap.size w wr)) (fun _ bv _ => n + 1 - (intOf bv).toNat)
 case atStart => exact ⟨1, by omega, by omega, rfl, LH (OwnI.nil _), LH (fun b hb => by cases hb), LH (Below.refl _ _)⟩
 case round =>
  obtain ⟨bn, hb1, hbn, rfl, HO, HR, HB⟩ := hrel
  by_cases hlt : bn < n
  case neg =>
   have hlt' : ¬ (bn : Int) < (n : Int) := by omega
   have e : bn - 1 = n - 1 := by omega
   rw [e] at HO
   go_wp2_with fail
   exact HP.out _ _ HO.out HR.out HB.out
  have hlt' : (bn : Int) < (n : Int) := by omega
  obtain ⟨kk, cc0, zz, he⟩ := hdGetD L bn
  obtain ⟨ba, oa, rfl, e0, e1, e2⟩ := hd_cells HC.out (by rw [HLn.out]; exact hlt) he
  have HSm : Hid (isSm L k bn = (decide (kk = 1) && decide (cc0 = (k : Int)))) := LH (by unfold isSm; rw [he])
  have HSuc : Hid (freeTo u L k (bn + 1 - 1) = freeTo u L k (bn - 1) ++ if isSm L k bn then cellsTo u bn k cc else []) := LH (by
   rw [HCc.out]
   obtain ⟨z, rfl⟩ : ∃ z, bn = z + 1 := ⟨bn - 1, by omega⟩
   rfl)
  generalize hF : freeTo u L k (bn - 1) = F at *
  have HFl : Hid (F.length ≤ 60000) := LH (by rw [← hF]; have := freeTo_len (u := u) (L := L) hk (bn - 1); have : 256 * (bn - 1) ≤ 256 * 200 := Nat.mul_le_mul_left _ (by omega); omega)
  have HE0 := LH e0
  have HE1 := LH e1
  clear he e0 e1 e2 hF
  go_wp2_with fail
  go_loopw [7, 9] (fun ov iv wi => ∃ i : Nat, i ≤ cc ∧ iv = .int .i64 (i : Int) ∧ Hid (OwnI wi ov (F ++ if isSm L k bn then cellsTo u bn k i else [])) ∧ Hid (∀ b, rowOf ov = some b → w.heap.size ≤ b) ∧ Hid (Below w.heap.size w wi)) (fun _ iv _ => cc - (intOf iv).toNat)
  case atStart => exact ⟨0, by omega, rfl, LH (by
   have h := HO.out
   by_cases e : isSm L k bn
   ·rw [if_pos e]; show OwnI _ _ (F ++ []); rw [List.append_nil]; exact h
   ·rw [if_neg e, List.append_nil]; exact h), HR, HB⟩
  case round =>
   obtain ⟨i, hic, rfl, HOi, HRi, HBi⟩ := hrel
   have c0 := (HBi.out.cell (p := ⟨ba, oa + bn * 3, none⟩) (World.block_lt_of_cell? _ _ HE0.out)).trans HE0.out
   have c1 := (HBi.out.cell (p := ⟨ba, oa + bn * 3 + 1, none⟩) (World.block_lt_of_cell? _ _ HE1.out)).trans HE1.out
   by_cases hk1 : kk = 1
   case neg =>
    have HNext : Hid (OwnI wr _ (freeTo u L k (bn + 1 - 1))) := LH (by
     have h := HOi.out
     have e : isSm L k bn = false := by rw [HSm.out]; simp [hk1]
     rw [HSuc.out]
     rw [e] at h ⊢
     exact h)
    go_wp2_with fail
    go_roundw
    case rel => exact ⟨bn + 1, by omega, by omega, vint (by omega), HNext, HRi, HBi⟩
    case measure => simp [intOf]; omega
   subst hk1
   by_cases hk2 : cc0 = (k : Int)
   case neg =>
    have HNext : Hid (OwnI wr _ (freeTo u L k (bn + 1 - 1))) := LH (by
     have h := HOi.out
     have e : isSm L k bn = false := by rw [HSm.out]; simp [hk2]
     rw [HSuc.out]
     rw [e] at h ⊢
     exact h)
    go_wp2_with fail
    go_roundw
    case rel => exact ⟨bn + 1, by omega, by omega, vint (by omega), HNext, HRi, HBi⟩
    case measure => simp [intOf]; omega
   subst hk2
   have HYes : Hid (isSm L k bn = true) := LH (by rw [HSm.out]; simp)
   rw [HYes.out, if_pos rfl] at HOi
   go_wp2_with fail
   refine (HCe.out _).mono ?_
   rintro e w2 ⟨rfl, hb2⟩
   have HO2 := LH (HOi.out.keep (fun b hb => hb2.block b (HOi.out.lt b hb)))
   have HB2 := LH (HBi.out.trans (hb2.mono HBi.out.size))
   clear hb2 c0 c1
   by_cases hii : i < cc
   case neg =>
    obtain rfl : i = cc := by omega
    have HNext : Hid (OwnI w2 _ (freeTo u L k (bn + 1 - 1))) := LH (by rw [HSuc.out, HYes.out, if_pos rfl]; exact HO2.out)
    have hni : ¬ (i : Int) < (i : Int) := by omega
    go_wp2_with fail
    go_roundw
    case rel => exact ⟨bn + 1, by omega, by omega, vint (by omega), HNext, HRi, HB2⟩
    case measure => simp [intOf]; omega
   have hiI : (i : Int) < (cc : Int) := by omega
   have hfit : i * cw + cw ≤ 512 := by
    have h1 := HCc.out
    have h2 := HCw.out
    unfold clsCells at h1
    rw [← h2] at h1
    have h3 : (i + 1) * cw ≤ 512 / cw * cw := Nat.mul_le_mul_right _ (by omega)
    have h4 := Nat.div_mul_le_self 512 cw
    rw [Nat.add_mul, Nat.one_mul] at h3
    omega
   have hm0 : (0 : Int) ≤ (i : Int) * (cw : Int) := by rw [← Int.natCast_mul]; omega
   have hm1 : (i : Int) * (cw : Int) ≤ 512 := by rw [← Int.natCast_mul]; omega
   obtain ⟨at_, hat⟩ : ∃ at_, at_ = cellOf bn k i := ⟨_, rfl⟩
   have hatI : 512 * (bn : Int) + (i : Int) * (cw : Int) = (at_ : Int) := by rw [hat, HCw.out]; unfold cellOf; rw [Int.natCast_add, Int.natCast_mul, Int.natCast_mul]; rfl
   have HAt := LH hat
   have HStop : Hid (cellsTo u bn k (i + 1) = cellsTo u bn k i ++ if u at_ then [] else [at_]) := LH (by rw [hat]; rfl)
   clear hat hfit
   go_wp2_with fail
   refine (HWe.out _).mono ?_
   rintro e w3 ⟨rfl, hb3⟩
   have HO3 := LH (HO2.out.keep (fun b hb => hb3.block b (HO2.out.lt b hb)))
   have HB3 := LH (HB2.out.trans (hb3.mono HB2.out.size))
   clear hb3 HO2
   go_wp2_with fail
   go_loopw [11, 12] (fun fv jv wj => ∃ j : Nat, j ≤ un ∧ fv = .bool ((xs.take j).contains at_) ∧ jv = .int .i64 (j : Int) ∧ Hid (OwnI wj u7 (F ++ cellsTo u bn k i)) ∧ Hid (Below w.heap.size w wj)) (fun _ jv _ => un - (intOf jv).toNat)
   case atStart => exact ⟨0, by omega, rfl, rfl, HO3, HB3⟩
   case round =>
    obtain ⟨j, hj, rfl, rfl, HOj, HBj⟩ := hrel
    by_cases hjj : j < un
    ·have hjI : (j : Int) < (un : Int) := by omega
     obtain ⟨x, hx⟩ : ∃ x, xs[j]? = some x := ⟨_, List.getElem?_eq_getElem (by rw [HUn.out]; exact hjj)⟩
     have HCs := LH (contains_take_succ xs at_ j x hx)
     obtain ⟨bb, ob, rfl, _, hcx⟩ := (HX.out.below HBj.out (Nat.le_refl _)).at (i := j) (by rw [List.length_map, HUn.out]; exact hjj)
     have cx := hcx j (vi x) (by rw [List.getElem?_map, hx]; rfl)
     unfold vi at cx
     clear hcx hx
     have HXe : Hid (((x : Int) == (at_ : Int)) = (x == at_)) := LH (by
      by_cases e : x = at_
      ·subst e; simp
      ·have e2 : ¬ (x : Int) = (at_ : Int) := by omega
       rw [beq_eq_false_iff_ne.2 e2, beq_eq_false_iff_ne.2 e])
     obtain ⟨nf, hnf⟩ : ∃ nf, nf = (xs.take (j + 1)).contains at_ := ⟨_, rfl⟩
     rw [← hnf] at HCs
     have HNe := LH hnf.symm
     clear hnf
     cases hf : (xs.take j).contains at_ with
     | true =>
      rw [hf] at HCs
      have HNf : Hid (nf = true) := LH (by rw [HCs.out]; rfl)
      clear hf
      go_wp2_with fail
      go_roundw
      case rel => exact ⟨j + 1, by omega, by rw [HNe.out, HNf.out], vint (by omega), HOj, HBj⟩
      case measure => simp [intOf]; omega
     | false =>
      rw [hf] at HCs
      have HNf : Hid (nf = (x == at_)) := LH (by rw [HCs.out]; rfl)
      clear hf
      go_wp2_with fail
      go_roundw
      case rel => exact ⟨j + 1, by omega, by rw [HNe.out, HNf.out, HXe.out], vint (by omega), HOj, HBj⟩
      case measure => simp [intOf]; omega
    ·obtain rfl : j = un := by omega
     have hni : ¬ (j : Int) < (j : Int) := by omega
     have HUa : Hid (u at_ = (xs.take j).contains at_) := LH (by rw [HU.out, ← HUn.out, List.take_length])
     cases hf : (xs.take j).contains at_ with
     | true =>
      have HNext : Hid (OwnI wr u7 (F ++ cellsTo u bn k (i + 1))) := LH (by rw [HStop.out, HUa.out, hf, if_pos rfl, List.append_nil]; exact HOj.out)
      clear hf
      go_wp2_with fail
      go_roundw
      case rel => exact ⟨i + 1, by omega, vint (by omega), LH (by rw [HYes.out, if_pos rfl]; exact HNext.out), HRi, HBj⟩
      case measure => simp [intOf]; omega
     | false =>
      have HE : Hid (cellsTo u bn k (i + 1) = cellsTo u bn k i ++ [at_]) := LH (by rw [HStop.out, HUa.out, hf, if_neg (by simp)])
      have HC1 : Hid (Cells (wr.alloc (.cells #[.int .i64 (at_ : Int)] 3)) (some ⟨wr.heap.size, 0, none⟩) ([at_].map vi)) := LH (RowAt.cells ⟨_, heap_alloc_new _ _, [], rfl⟩)
      have hba := below_alloc wr (.cells #[.int .i64 (at_ : Int)] 3)
      have HB1 := LH (HBj.out.trans (hba.mono HBj.out.size))
      have HO1 := LH (HOj.out.keep (fun b hb => hba.block b (HOj.out.lt b hb)))
      have HN1 : Hid ((F ++ cellsTo u bn k i).length + 1 ≤ 1000000000000) := LH (by
       have h1 := HFl.out
       have h2 := cellsTo_len (u := u) (b := bn) (k := k) i
       rw [List.length_append]; omega)
      clear hba hf
      go_wp2_with (at_builtin; refine wpList_append_newI (m := 1) (B := w.heap.size) HO1.out (Below.refl _ _) HRi.out HB1.out.size HC1.out rfl HN1.out rfl rfl rfl rfl ?_; intro v' w9 ho hb hr; have HO9 := LH ho; have HB9 := LH hb; have HR9 := LH hr; clear ho hb hr)
      go_roundw
      case rel => exact ⟨i + 1, by omega, vint (by omega), LH (by rw [HYes.out, if_pos rfl, HE.out, ← List.append_assoc]; exact HO9.out), HR9, LH (HB1.out.trans HB9.out)⟩
      case measure => simp [intOf]; omega
section
variable {P : Program} {C : World → Prop} {ops : Array Oper} {rest : List Oper} {o : Oper} {a : Act} {Q : Act → Prop}
end
section
variable {w : World} {P : Program} {ops : Array Oper} {rest : List Oper} {o : Oper} {act : Act} {Q : Exit → Act → World → Prop}
end
end Go.Proofs.YtbimcogdbafjpaaGreat
namespace Go.Proofs.YtbimcogdbafjpaaGreat
open Go.RowKit
end Go.Proofs.YtbimcogdbafjpaaGreat
namespace Go.Proofs.YtbimcogdbafjpaaGreat
open Go.Lib (decDigits itoa nDigits)
end Go.Proofs.YtbimcogdbafjpaaGreat
namespace Go.Proofs.YtbimcogdbafjpaaGreat
open Go.RowKit
open Go.Lib (decDigits itoa nDigits)
open Go.Lib (decDigits itoa nDigits)
open Go.Lib (decDigits itoa nDigits)
section
variable {P : Program} {w : World} {ops : Array Oper} {rest : List Oper} {o : Oper} {a : Act} {Q : Exit → Act → World → Prop}
end
end Go.Proofs.YtbimcogdbafjpaaGreat
namespace Go.Proofs
open Go.Shelf
end Go.Proofs
namespace Go.Proofs.YtbimcogdbafjpaaGreat
open Go.RowKit Go.Shelf
end Go.Proofs.YtbimcogdbafjpaaGreat
namespace Go.Proofs.YtbimcogdbafjpaaGreat
open Go.RowKit
def nlB (wd : Int) (b B : Nat) : Prop := 0 < wd ∧ (b : Int) % wd = 0 ∧ (b : Int) < (B : Int) - 1
instance (wd : Int) (b B : Nat) : Decidable (nlB wd b B) := by unfold nlB; infer_instance
open Go.Lib (decDigits itoa nDigits)
open Go.Lib (decDigits itoa nDigits)
theorem Cells.owned3 {w : World} {base e size n n' cap : Nat} {a : Option Addr} {xs : List Value} (h : w.ownsRow base e size (.slice a n' cap) n xs) : Cells w a xs := by
 rcases h.2 with ⟨h0, h1⟩ | ⟨g, c, cur, hv, hb, hg, _, _, _, h4⟩
 ·subst h1
  exact .inl (List.length_eq_zero_iff.1 (by rw [h.1, Nat.zero_mul]))
 ·simp at hv
  obtain ⟨rfl, _⟩ := hv
  refine .inr ⟨g, 0, rfl, fun i v hi => ?_⟩
  have hr : RowAt w g e xs := ⟨cur, hg, cur.toList.drop (n * size), by rw [← h4, List.take_append_drop]⟩
  rw [Nat.zero_add]
  exact hr.cell hi
end Go.Proofs.YtbimcogdbafjpaaGreat
namespace Go.Proofs.YtbimcogdbafjpaaGreat
section
variable {P : Program} {ops : Array Oper} {md : Region.Mode} {C : World → Prop} {Q : Exit → Act → World → Prop} {ex : List Nat}
end
end Go.Proofs.YtbimcogdbafjpaaGreat
namespace Go.Proofs.YtbimcogdbafjpaaGreat
open Go.RowKit Go.Maps
end Go.Proofs.YtbimcogdbafjpaaGreat
namespace Go.Proofs.YtbimcogdbafjpaaGreat
variable {B : Nat} {m : Al}
theorem long_ltF {n : Nat} (hn : 1 ≤ n) : ∀ {l : List (Nat × Nat)}, (∀ x ∈ l, x.2 < n) → longOf l < n := by
 intro l h
 have : ∀ (l : List Nat) (m : Nat), m < n → (∀ x ∈ l, x < n) → l.foldl max m < n := by
  intro l
  induction l with
  | nil => intro m hm _; exact hm
  | cons x l ih => intro m hm h; exact ih _ (by have := h x (by simp); omega) (fun y hy => h y (by simp [hy]))
 exact this _ 0 hn (fun x hx => by obtain ⟨y, hy, rfl⟩ := List.mem_map.1 hx; exact h y hy)
theorem long_geF : ∀ {l : List (Nat × Nat)} {x : Nat × Nat}, x ∈ l → x.2 ≤ longOf l := by
 intro l x hx
 have h1 : ∀ (l : List Nat) (m : Nat), m ≤ l.foldl max m := by
  intro l
  induction l with
  | nil => intro m; exact Nat.le_refl _
  | cons y l ih => intro m; exact Nat.le_trans (Nat.le_max_left m y) (ih _)
 have h2 : ∀ (l : List Nat) (m y : Nat), y ∈ l → y ≤ l.foldl max m := by
  intro l
  induction l with
  | nil => intro m y hy; cases hy
  | cons z l ih =>
   intro m y hy
   rcases List.mem_cons.1 hy with rfl | hy
   ·exact Nat.le_trans (Nat.le_max_right m y) (h1 l _)
   ·exact ih _ y hy
 exact h2 _ 0 _ (List.mem_map.2 ⟨x, hx, rfl⟩)
theorem pick_noneF {l : List Bool} {n : Nat} (h : pick n (runsOf l) = none) : ∀ x ∈ runsOf l, x.2 < n := by
 have hb := pick_best (n := n) (runsOf_is l).rising
 rw [h] at hb
 exact fun x hx => hb x.1 x.2 hx
theorem pick_longF {l : List Bool} {n : Nat} (hn : 1 ≤ n) : pick n (runsOf l) = none ↔ ¬ n ≤ longOf (runsOf l) := by
 constructor
 ·intro h
  have := long_ltF hn (pick_noneF h)
  omega
 ·intro h
  cases hp : pick n (runsOf l) with
  | none => rfl
  | some x =>
   exfalso
   obtain ⟨h1, h2⟩ := pick_run hp
   have := long_geF (((runsOf_is l).mem x.1 x.2).2 h1)
   dsimp only at this
   omega
theorem sum_memF : ∀ {l : List (Nat × Nat)} {x : Nat × Nat}, x ∈ l → x.2 ≤ sumOf l
 | [], _, h => by cases h
 | y :: l, x, h => by
  have e : sumOf (y :: l) = y.2 + sumOf l := by simp [sumOf]
  rw [e]
  rcases List.mem_cons.1 h with rfl | h
  ·omega
  ·have := sum_memF h; omega
theorem sum_count (f : Nat → Bool) : ∀ L, sumOf (runsTo f L) = ((List.range L).filter f).length
 | 0 => rfl
 | b + 1 => by
  have ih := sum_count f b
  rw [List.range_succ, List.filter_append, List.length_append]
  have hpos : 0 < b ∧ f (b - 1) = true → 0 < ((List.range b).filter f).length := fun hp => List.length_pos_iff.2 (List.ne_nil_of_mem (List.mem_filter.2 ⟨List.mem_range.2 (show b - 1 < b by omega), hp.2⟩))
  generalize ((List.range b).filter f).length = c at *
  have hsum : ∀ l : List (Nat × Nat), ∀ x : Nat × Nat, sumOf (l ++ [x]) = sumOf l + x.2 := sum_add
  unfold runsTo
  generalize runsTo f b = R at *
  by_cases hf : f b
  ·rw [if_pos hf]
   have e1 : ([b].filter f).length = 1 := by simp [hf]
   rw [e1]
   by_cases hp : 0 < b ∧ f (b - 1) = true
   ·rw [if_pos hp]
    have hc := hpos hp
    split
    ·rename_i hx
     have h0 : R = [] := List.getLast?_eq_none_iff.1 hx
     rw [h0] at ih
     have : sumOf [] = 0 := rfl
     omega
    ·rename_i x hx
     obtain ⟨ys, hy⟩ := List.getLast?_eq_some_iff.1 hx
     rw [hy, hsum] at ih
     rw [hy, List.dropLast_concat, hsum]
     dsimp only
     omega
   ·rw [if_neg hp, hsum, ih]
  ·rw [if_neg hf, ih]
   simp [hf]
theorem sum_noneF {l : List Bool} : pick 1 (runsOf l) = none ↔ ¬ 0 < sumOf (runsOf l) := by
 rw [pick_longF (Nat.le_refl 1)]
 constructor
 ·intro h h2
  apply h
  have : runsOf l ≠ [] := fun e => by rw [e] at h2; simp [sumOf] at h2
  obtain ⟨x, hx⟩ := List.exists_mem_of_ne_nil _ this
  have h3 := long_geF hx
  have h4 := ((runsOf_is l).mem x.1 x.2).1 hx
  have := h4.1
  omega
 ·intro h h2
  apply h
  have : runsOf l ≠ [] := fun e => by rw [e] at h2; simp [longOf] at h2
  obtain ⟨x, hx⟩ := List.exists_mem_of_ne_nil _ this
  have h4 := ((runsOf_is l).mem x.1 x.2).1 hx
  have h5 := h4.1
  have : x.2 ≤ sumOf (runsOf l) := by
   exact sum_memF hx
  omega
def roomy16 (m : Al) (n : Nat) : Prop := if small n then 0 < (m.fl.all (ofN (n : Nat))).length ∨ 0 < sumOf (runsOf m.bm.free) else objBlocks n ≤ longOf (runsOf m.bm.free)
theorem cells_none {S : FL} {k : Nat} (h : ¬ 0 < (S.all k).length) : S.g k = [] ∧ ∀ i, i < 4 → S.c i k = [] := by
 have h0 : S.all k = [] := List.length_eq_zero_iff.1 (by omega)
 unfold FL.all at h0
 simp only [List.append_eq_nil_iff] at h0
 obtain ⟨⟨⟨⟨h1, h2⟩, h3⟩, h4⟩, h5⟩ := h0
 refine ⟨h1, fun i hi => ?_⟩
 rcases four hi with rfl | rfl | rfl | rfl <;> assumption
theorem room_no (h : AlOk B m) {mu n : Nat} (hmu : mu < 4) (h1 : 1 ≤ n) (h9 : n ≤ 16448) (hno : ¬ roomy16 m n) : m.room mu n = ⟨m, 0, 4⟩ := by
 unfold roomy16 at hno
 unfold Al.room
 by_cases hs : small n
 ·rw [if_pos hs] at hno ⊢
  have hk := ofN_lt hs
  generalize ofN (n : Int) = k at *
  obtain ⟨hg, hc⟩ := cells_none (fun h => hno (.inl h))
  have hp := sum_noneF.2 (fun h => hno (.inr h))
  have hcell : m.fl.cell mu k = none := by
   cases hx : m.fl.cell mu k with
   | none => rfl
   | some x =>
    exfalso
    have h2 := FL.taken_cnt hmu hx k x
    rw [if_pos ⟨rfl, rfl⟩] at h2
    have h0 : m.fl.cnt k x = 0 := by
     unfold FL.cnt
     rw [hg, hc 0 (by omega), hc 1 (by omega), hc 2 (by omega), hc 3 (by omega)]
     rfl
    omega
  unfold Al.roomS
  rw [hcell, if_neg (by simp)]
  rcases small_live h.bm h.live k hk with ⟨e, _⟩ | ⟨b, s1, s2, s3, s4, s5, s6, s7, s8, s9, s10, s11⟩
  ·rw [e, if_neg (by simp), if_neg (by simp)]
   unfold Al.steal FL.owner
   rw [hc 0 (by omega), hc 1 (by omega), hc 2 (by omega), hc 3 (by omega)]
   simp
  ·exact absurd hp s11
 ·rw [if_neg hs] at hno ⊢
  have hb : 1 ≤ objBlocks n ∧ objBlocks n < 256 := by
   unfold objBlocks; rw [if_neg hs]; omega
  unfold Al.roomL
  rcases large_live h.bm h.live (objBlocks n) hb.1 hb.2 with ⟨e, _⟩ | ⟨b, _, _, _, _, _, _, _, _, _, _, hp⟩
  ·rw [e, if_pos (by simp)]
  ·exact absurd ((pick_longF hb.1).2 hno) hp
theorem alloc_room (h : AlOk B m) (hB : B ≤ 200) {mu p d : Int} (h0 : 0 ≤ mu) (h4 : mu < 4) (hs : objSize p d ≠ 0) (hm : (objSize p d : Int) ≤ 512 * ((B : Int) - 1)) :
  (∃ m' a, m.alloc mu p d = ⟨m', ((a : Nat) : Int), 0⟩ ∧ Made B m m' a p d ∧ roomy16 m (objSize p d)) ∨ (m.alloc mu p d = ⟨m, 0, 4⟩ ∧ ¬ roomy16 m (objSize p d)) := by
 rcases alloc_done h hB h0 h4 hs hm with ⟨m', a, he, hmd⟩ | ⟨he, hn⟩
 ·left
  refine ⟨m', a, he, hmd, Classical.byContradiction fun hno => ?_⟩
  have hr := room_no h (mu := mu.toNat) (by omega) (by omega) (objSize_le p d) hno
  unfold Al.alloc at he
  rw [if_neg (by omega), h.bm.lenL, if_neg (by omega), hr, if_pos (by simp)] at he
  have := congrArg AlR.err he
  simp at this
 ·right
  refine ⟨he, fun hr => ?_⟩
  unfold roomy16 at hr
  by_cases hsm : small (objSize p d)
  ·rw [if_pos hsm] at hr
   obtain ⟨h1, h2⟩ := hn.cell hsm
   rcases hr with hr | hr
   ·obtain ⟨x, hx⟩ := List.exists_mem_of_length_pos hr
    have := List.count_pos_iff.2 hx
    rw [FL.all_count, h2] at this
    omega
   ·exact absurd hr (sum_noneF.1 h1)
  ·rw [if_neg hsm] at hr
   have hb : 1 ≤ objBlocks (objSize p d) := by unfold objBlocks; rw [if_neg hsm]; omega
   exact (pick_longF hb).1 (hn.run hsm) hr
end Go.Proofs.YtbimcogdbafjpaaGreat
namespace Go.Proofs.YtbimcogdbafjpaaGreat
open Go.RowKit
theorem spanL_runs {ks f : Nat → Bool} : ∀ b, (∀ i, i < b → f i = (decide (i ≠ 0) && ks i)) → spanL ks b = runsTo f b
 | 0, _ => rfl
 | b + 1, h => by
  have ih := spanL_runs b (fun i hi => h i (by omega))
  have hb := h b (by omega)
  unfold spanL runsTo
  rw [← ih]
  by_cases h0 : b = 0
  ·subst h0
   rw [if_pos (.inl rfl), if_neg (by rw [hb]; simp)]
  ·have hp := h (b - 1) (by omega)
   have hfb : f b = ks b := by rw [hb, decide_eq_true (show b ≠ 0 from h0)]; rfl
   rw [hfb]
   cases hk : ks b with
   | false => rw [if_pos (.inr rfl), if_neg (by simp)]
   | true =>
    rw [if_neg (by simp [h0]), if_pos rfl]
    by_cases hq : 1 < b ∧ ks (b - 1) = true
    ·have hq' : 0 < b ∧ f (b - 1) = true := ⟨by omega, by rw [hp, hq.2, decide_eq_true (show b - 1 ≠ 0 by omega)]; rfl⟩
     rw [if_pos hq, if_pos hq']
     unfold bump
     cases hl : (spanL ks b).getLast? with
     | none => exact List.getLast?_eq_none_iff.1 hl
     | some x => rfl
    ·have hq' : ¬ (0 < b ∧ f (b - 1) = true) := by
      rintro ⟨_, h2⟩
      rw [hp, Bool.and_eq_true, decide_eq_true_iff] at h2
      exact hq ⟨by omega, h2.2⟩
     rw [if_neg hq, if_neg hq']
theorem spans_runs {B : Nat} {b : Bm} (h : BmOk B b) : spansOf b.list = runsOf b.free := by
 unfold spansOf runsOf
 rw [h.lenL, h.lenF]
 refine spanL_runs B (fun i hi => ?_)
 rw [Bool.eq_iff_iff, h.free i, Bool.and_eq_true, decide_eq_true_iff]
 unfold freeAt
 rw [beq_iff_eq]
 exact ⟨fun ⟨h1, _, h3⟩ => ⟨by omega, h3⟩, fun ⟨h1, h3⟩ => ⟨by omega, hi, h3⟩⟩
def frTo (L : List Hd) : Nat → Nat
 | 0 => 0
 | n + 1 => frTo L n + if 1 ≤ n ∧ (L.getD n default).k = 0 then 1 else 0
theorem frTo_le (L : List Hd) : ∀ n, frTo L n ≤ n
 | 0 => Nat.le_refl _
 | n + 1 => by unfold frTo; have := frTo_le L n; split <;> omega
theorem frTo_filter {B : Nat} {b : Bm} (h : BmOk B b) : ∀ n, n ≤ B → frTo b.list n = ((List.range n).filter (fb b.free)).length
 | 0, _ => rfl
 | n + 1, hn => by
  unfold frTo
  rw [frTo_filter h n (by omega), List.range_succ, List.filter_append, List.length_append]
  congr 1
  by_cases c : 1 ≤ n ∧ (b.list.getD n default).k = 0
  ·rw [if_pos c, List.filter_cons_of_pos ((h.free n).2 ⟨c.1, by omega, c.2⟩)]; rfl
  ·rw [if_neg c, List.filter_cons_of_neg (fun hf => c ⟨((h.free n).1 hf).1, ((h.free n).1 hf).2.2⟩)]; rfl
theorem frTo_sum {B : Nat} {b : Bm} (h : BmOk B b) : frTo b.list B = sumOf (runsOf b.free) := by
 unfold runsOf
 rw [frTo_filter h B (Nat.le_refl _), sum_count, h.lenF]
theorem sum_le {B : Nat} {b : Bm} (h : BmOk B b) : sumOf (runsOf b.free) ≤ B := by rw [← frTo_sum h]; exact frTo_le _ _
def numC (m : Al) (k : Nat) : Nat := (m.fl.all k).length
theorem count_len {x y : List Nat} (h : ∀ a, x.count a = y.count a) : x.length = y.length := (List.perm_iff_count.2 h).length_eq
theorem numC_list {m : Al} {k : Nat} {ys : List Nat} (h : ∀ a, ys.count a = m.fl.cnt k a) : ys.length = numC m k := count_len (fun a => by rw [h, FL.all_count])
theorem numC_free {B : Nat} {m : Al} (h : AlOk B m) {k : Nat} (hk : k < 32) (hB : 1 ≤ B) : (freeTo (fun a => m.used.getD a false) m.bm.list k (B - 1)).length = numC m k := by
 have hL : ∀ b, b < m.bm.list.length → (m.bm.list.getD b default).k = 1 → (m.bm.list.getD b default).l = 0 := fun b hb h1 => by
  have hr := of_decide_eq_true (h.bm.right b (by rw [← h.bm.lenL]; exact hb))
  unfold HdRight at hr
  omega
 refine numC_list (fun x => ?_)
 rw [h.cells k x hk, freeTo_count hk hL x _ (by rw [h.bm.lenL]; omega)]
 congr 1
 refine propext ⟨fun ⟨h1, h2, _⟩ => ⟨h1, h2⟩, fun ⟨h1, h2⟩ => ⟨h1, h2, ?_⟩⟩
 have := h1.2.1
 rw [h.bm.lenL] at this
 omega
theorem numC_le {B : Nat} {m : Al} (h : AlOk B m) {k : Nat} (hk : k < 32) (hB : 1 ≤ B) : numC m k ≤ 256 * (B - 1) := by
 rw [← numC_free h hk hB]; exact freeTo_len hk _
def prdS (m : Al) (k : Nat) : Nat := numC m k + sumOf (runsOf m.bm.free) * clsCells k
def divs (l : List (Nat × Nat)) (z : Nat) : Nat := (l.map (fun x => x.2 / z)).sum
def prdN (m : Al) (n : Nat) : Nat := if small n then prdS m (ofN (n : Int)) else divs (runsOf m.bm.free) (objBlocks n)
theorem divs_perm {a b : List (Nat × Nat)} (h : a.Perm b) (z : Nat) : divs a z = divs b z := (h.map _).sum_nat
theorem divs_cons (x : Nat × Nat) (l : List (Nat × Nat)) (z : Nat) : divs (x :: l) z = x.2 / z + divs l z := by unfold divs; rw [List.map_cons, List.sum_cons]
theorem divs_snoc (x : Nat × Nat) (l : List (Nat × Nat)) (z : Nat) : divs (l ++ [x]) z = divs l z + x.2 / z := by unfold divs; simp
theorem divs_le (l : List (Nat × Nat)) {z : Nat} (hz : 1 ≤ z) : divs l z ≤ sumOf l := by
 unfold divs sumOf
 induction l with
 | nil => exact Nat.le_refl _
 | cons x l ih => rw [List.map_cons, List.map_cons, List.sum_cons, List.sum_cons]; have := Nat.div_le_self x.2 z; omega
theorem divs_none {l : List (Nat × Nat)} {z : Nat} (h : ∀ x ∈ l, x.2 < z) : divs l z = 0 := by
 induction l with
 | nil => rfl
 | cons x l ih => rw [divs_cons, ih (fun y hy => h y (List.mem_cons_of_mem _ hy)), Nat.div_eq_of_lt (h x List.mem_cons_self)]
theorem take_perm {l : List Bool} {a k z : Nat} (hr : IsRun (fb l) a k) (hz : 1 ≤ z) (hk : z ≤ k) :
  ∃ R, (runsOf l).Perm ((a, k) :: R) ∧ (runsOf (setTo l a false z)).Perm ((if z < k then [(a + z, k - z)] else []) ++ R) := by
 have h1 := runsOf_is l
 have h2 := runsOf_is (setTo l a false z)
 refine ⟨(runsOf l).filter (fun x => x.1 != a), ?_, ?_⟩
 ·refine (List.perm_ext_iff_of_nodup (rising_nodup h1.rising) (List.nodup_cons.2 ⟨by simp, (rising_nodup h1.rising).filter _⟩)).2 fun x => ?_
  rw [List.mem_cons, List.mem_filter, bne_iff_ne]
  constructor
  ·intro hx
   by_cases e : x.1 = a
   ·refine .inl (Prod.ext e ?_)
    have hx' := (h1.mem x.1 x.2).1 hx
    rw [e] at hx'
    exact hx'.one hr
   ·exact .inr ⟨hx, e⟩
  ·rintro (rfl | ⟨hx, _⟩)
   ·exact (h1.mem a k).2 hr
   ·exact hx
 ·refine (List.perm_ext_iff_of_nodup (rising_nodup h2.rising) ?_).2 fun x => ?_
  ·split
   ·refine List.nodup_cons.2 ⟨fun hm => ?_, (rising_nodup h1.rising).filter _⟩
    obtain ⟨hm, _⟩ := List.mem_filter.1 hm
    have hm' := (h1.mem _ _).1 hm
    have := hr.2.1 (a + z - 1) (by omega) (by omega)
    rw [hm'.2.2.1 (a + z - 1) (by omega)] at this
    cases this
   ·exact (rising_nodup h1.rising).filter _
  ·rw [List.mem_append, List.mem_filter, bne_iff_ne, show x = (x.1, x.2) from rfl, h2.mem x.1 x.2, take_runs hr hz hk, h1.mem x.1 x.2]
   split
   ·next c => rw [List.mem_singleton, Prod.ext_iff]; exact ⟨fun h => h.imp (fun h => h.2) id, fun h => h.imp (fun h => ⟨c, h⟩) id⟩
   ·next c => exact ⟨fun h => h.imp (fun h => absurd h.1 c) id, fun h => h.imp (fun h => absurd h (by simp)) id⟩
theorem divs_take {l : List Bool} {a k z : Nat} (hr : IsRun (fb l) a k) (hz : 1 ≤ z) (hk : z ≤ k) : divs (runsOf l) z = divs (runsOf (setTo l a false z)) z + 1 := by
 obtain ⟨R, p1, p2⟩ := take_perm hr hz hk
 rw [divs_perm p1, divs_perm p2, divs_cons]
 show k / z + _ = _
 have hdiv : k / z = (k - z) / z + 1 := by
  conv => lhs; rw [show k = (k - z) + z by omega]
  exact Nat.add_div_right _ (by omega)
 split
 ·rw [List.singleton_append, divs_cons]; show _ = (k - z) / z + _ + 1; omega
 ·obtain rfl : k = z := by omega
  rw [List.nil_append, Nat.div_self (by omega)]; omega
theorem sum_take {l : List Bool} {a k z : Nat} (hr : IsRun (fb l) a k) (hz : 1 ≤ z) (hk : z ≤ k) : sumOf (runsOf l) = sumOf (runsOf (setTo l a false z)) + z := by
 obtain ⟨R, p1, p2⟩ := take_perm hr hz hk
 have hc : ∀ (x : Nat × Nat) (l : List (Nat × Nat)), sumOf (x :: l) = x.2 + sumOf l := fun x l => by unfold sumOf; rw [List.map_cons, List.sum_cons]
 rw [sum_perm p1, sum_perm p2, hc]
 show k + _ = _
 split
 ·rw [List.singleton_append, hc]; show _ = (k - z) + _ + z; omega
 ·obtain rfl : k = z := by omega
  rw [List.nil_append]; omega
def TopQ (f : Nat → Nat) (lo hi : Nat) (b w : Nat) : Prop := (b = 0 ∧ w = 0 ∧ ∀ k, lo ≤ k → k < hi → f k = 0) ∨ (0 < b ∧ lo ≤ w ∧ w < hi ∧ f w = b ∧ (∀ k, lo ≤ k → k < w → f k < b) ∧ ∀ k, lo ≤ k → k < hi → f k ≤ b)
theorem TopQ.nil (f : Nat → Nat) (lo : Nat) : TopQ f lo lo 0 0 := .inl ⟨rfl, rfl, fun k h1 h2 => by omega⟩
theorem TopQ.up {f : Nat → Nat} {lo hi b w : Nat} (h : TopQ f lo hi b w) (hl : lo ≤ hi) : TopQ f lo (hi + 1) (if b < f hi then f hi else b) (if b < f hi then hi else w) := by
 by_cases c : b < f hi
 ·rw [if_pos c, if_pos c]
  refine .inr ⟨by omega, hl, by omega, rfl, fun k h1 h2 => ?_, fun k h1 h2 => ?_⟩
  ·rcases h with ⟨_, _, h⟩ | ⟨_, _, _, _, _, h⟩
   ·have := h k h1 h2; omega
   ·have := h k h1 h2; omega
  ·by_cases e : k = hi
   ·subst e; exact Nat.le_refl _
   ·rcases h with ⟨_, _, h⟩ | ⟨_, _, _, _, _, h⟩
    ·have := h k h1 (by omega); omega
    ·have := h k h1 (by omega); omega
 ·rw [if_neg c, if_neg c]
  rcases h with ⟨h1, h2, h3⟩ | ⟨h1, h2, h3, h4, h5, h6⟩
  ·refine .inl ⟨h1, h2, fun k k1 k2 => ?_⟩
   by_cases e : k = hi
   ·subst e; omega
   ·exact h3 k k1 (by omega)
  ·refine .inr ⟨h1, h2, by omega, h4, h5, fun k k1 k2 => ?_⟩
   by_cases e : k = hi
   ·subst e; omega
   ·exact h6 k k1 (by omega)
theorem TopQ.down {f : Nat → Nat} {lo hi b w : Nat} (h : TopQ f (lo + 1) hi b w) (hl : lo < hi) : TopQ f lo hi (if 0 < f lo ∧ b ≤ f lo then f lo else b) (if 0 < f lo ∧ b ≤ f lo then lo else w) := by
 by_cases c : 0 < f lo ∧ b ≤ f lo
 ·rw [if_pos c, if_pos c]
  refine .inr ⟨c.1, Nat.le_refl _, hl, rfl, fun k h1 h2 => by omega, fun k h1 h2 => ?_⟩
  by_cases e : k = lo
  ·subst e; exact Nat.le_refl _
  ·rcases h with ⟨_, _, h⟩ | ⟨_, _, _, _, _, h⟩
   ·have := h k (by omega) h2; omega
   ·have := h k (by omega) h2; omega
 ·rw [if_neg c, if_neg c]
  rcases h with ⟨h1, h2, h3⟩ | ⟨h1, h2, h3, h4, h5, h6⟩
  ·refine .inl ⟨h1, h2, fun k k1 k2 => ?_⟩
   by_cases e : k = lo
   ·subst e; omega
   ·exact h3 k (by omega) k2
  ·refine .inr ⟨h1, by omega, h3, h4, fun k k1 k2 => ?_, fun k k1 k2 => ?_⟩
   ·by_cases e : k = lo
    ·subst e; omega
    ·exact h5 k (by omega) k2
   ·by_cases e : k = lo
    ·subst e; omega
    ·exact h6 k (by omega) k2
theorem TopQ.one {f : Nat → Nat} {lo hi b w b' w' : Nat} (h : TopQ f lo hi b w) (h' : TopQ f lo hi b' w') : b = b' ∧ w = w' := by
 rcases h with ⟨h1, h2, h3⟩ | ⟨h1, h2, h3, h4, h5, h6⟩ <;> rcases h' with ⟨g1, g2, g3⟩ | ⟨g1, g2, g3, g4, g5, g6⟩
 ·omega
 ·have := h3 w' g2 g3; omega
 ·have := g3 w h2 h3; omega
 ·have e1 := h6 w' g2 g3
  have e2 := g6 w h2 h3
  have eb : b = b' := by omega
  refine ⟨eb, ?_⟩
  rcases Nat.lt_trichotomy w w' with c | c | c
  ·have := g5 w h2 c; omega
  ·exact c
  ·have := h5 w' g2 c; omega
theorem objBlocks_33 {n : Nat} (h : n ≤ 16448) : objBlocks n ≤ 33 := by unfold objBlocks; split <;> omega
theorem small_free {b : Bm} {k : Int} (h : (b.small k).err = 0) : (b.small k).bm.free = (takeR b.free 1).1 ∧ (takeR b.free 1).2.2 = 0 := by
 unfold Bm.small at h ⊢
 split at h
 ·cases h
 ·next c1 =>
  rw [if_neg c1]
  split at h
  ·next c2 => exact absurd h c2
  ·next c2 => rw [if_neg c2]; exact ⟨rfl, by simpa using c2⟩
theorem large_free {b : Bm} {n : Int} (h : (b.large n).err = 0) : (b.large n).bm.free = (takeR b.free n).1 ∧ (takeR b.free n).2.2 = 0 ∧ 1 ≤ n := by
 unfold Bm.large at h ⊢
 split at h
 ·cases h
 ·next c1 =>
  rw [if_neg c1]
  split at h
  ·next c2 => exact absurd h c2
  ·next c2 =>
   rw [if_neg c2]
   have c2' : (takeR b.free n).2.2 = 0 := by simpa using c2
   split
   ·exact ⟨rfl, c2', by omega⟩
   ·exact ⟨rfl, c2', by omega⟩
theorem taken_len {S : FL} {m k x : Nat} (hm : m < 4) (h : S.cell m k = some x) : (S.all k).length = ((S.taken m k).all k).length + 1 := by
 have := count_len (x := S.all k) (y := x :: (S.taken m k).all k) (fun a => by
  rw [FL.all_count, FL.taken_cnt hm h k a, List.count_cons, FL.all_count]
  by_cases e : a = x
  ·subst e; simp
  ·rw [if_neg (by rintro ⟨_, h⟩; exact e h), if_neg (by simpa using fun h => e h.symm)])
 rw [this, List.length_cons]
theorem drain_len {S : FL} {m k : Nat} (hm : m < 4) (hk : k < 32) : ((S.drain m).all k).length = (S.all k).length :=
 count_len (fun a => by rw [FL.all_count, FL.all_count, FL.drain_cnt _ hm hk])
theorem count_mapRange {f : Nat → Nat} (hf : ∀ i j, f i = f j → i = j) (a : Nat) : ∀ n, ((List.range n).map f).count a = if ∃ i, i < n ∧ a = f i then 1 else 0
 | 0 => by rw [if_neg (by rintro ⟨i, hi, _⟩; omega)]; rfl
 | n + 1 => by
  rw [List.range_succ, List.map_append, List.count_append, count_mapRange hf a n]
  by_cases e : a = f n
  ·subst e
   rw [if_neg (by rintro ⟨i, hi, e⟩; have := hf _ _ e; omega), if_pos ⟨n, by omega, rfl⟩]; simp
  ·have h0 : ([n].map f).count a = 0 := by
    rw [List.count_eq_zero]; simpa using e
   rw [h0, Nat.add_zero]
   congr 1
   refine propext ⟨fun ⟨i, hi, h⟩ => ⟨i, by omega, h⟩, fun ⟨i, hi, h⟩ => ⟨i, ?_, h⟩⟩
   by_cases c : i = n
   ·subst c; exact absurd h e
   ·omega
section
variable {B : Nat} {m : Al}
theorem carved_len (h : AlOk B m) {b k : Nat} (hk : k < 32) (hb : 1 ≤ b) (hbB : b < B) (hz : (m.bm.list.getD b default).k = 0) : ((m.carved b k).all k).length = numC m k + clsCells (k : Int) := by
 have h0 : ∀ i, i < clsCells (k : Int) → m.fl.cnt k (cellOf b k i) = 0 := fun i hi => by
  rw [h.cells k _ hk, if_neg]
  rintro ⟨hc, _⟩
  have := isCell_kind hc
  rw [(cellOf_at hk hi).1, hz] at this
  cases this
 have hu : ∀ i, i < clsCells (k : Int) → m.used.getD (cellOf b k i) false = false := fun i hi => by
  cases hc : m.used.getD (cellOf b k i) false with
  | false => rfl
  | true =>
   have := (h.used_kind hc).2.2
   rw [(cellOf_at hk hi).1] at this
   exact absurd hz this
 have := count_len (x := (m.carved b k).all k) (y := m.fl.all k ++ (List.range (clsCells (k : Int))).map (cellOf b k)) (fun a => by
  rw [FL.all_count, List.count_append, FL.all_count, count_mapRange (cellOf_inj hk)]
  unfold Al.carved
  rw [FL.carve_cnt (cellOf_inj hk) h0]
  congr 2
  refine propext ⟨fun ⟨_, _, i, hi, e⟩ => ⟨i, hi, e⟩, fun ⟨i, hi, e⟩ => ⟨rfl, by rw [e]; exact hu i hi, i, hi, e⟩⟩)
 rw [this, List.length_append, List.length_map, List.length_range]; rfl
theorem room_prd (h : AlOk B m) (hB : B ≤ 200) {mu n : Nat} (hmu : mu < 4) (h1 : 1 ≤ n) (h9 : n ≤ 16448) (he : (m.room mu n).err = 0) :
  prdN m n = prdN (m.room mu n).al n + 1 ∧ ((m.room mu n).al.bm = m.bm ∨ sumOf (runsOf (m.room mu n).al.bm.free) + 1 ≤ sumOf (runsOf m.bm.free)) ∧ (m.room mu n).al.used = m.used ∧
   ∀ q : Nat, ((m.room mu n).al.bm.list.getD q default).k = 2 → (m.bm.list.getD q default).k = 2 ∨ (m.room mu n).a = ((512 * q : Nat) : Int) := by
 unfold Al.room at he ⊢
 unfold prdN
 by_cases hs : small n
 ·rw [if_pos hs] at he
  rw [if_pos hs, if_pos hs, if_pos hs]
  have hk := ofN_lt hs
  generalize ofN (n : Int) = k at *
  have htk : ∀ (bm : Bm) (f : FL), (m.take bm f mu k).err = 0 → ∃ x, f.cell mu k = some x ∧ (m.take bm f mu k).al = ⟨bm, m.used, f.taken mu k⟩ := fun bm f hz => by
   unfold Al.take at hz ⊢
   cases hc : f.cell mu k with
   | none => rw [hc] at hz; rw [if_neg (by simp)] at hz; cases hz
   | some x => exact ⟨x, rfl, by rw [if_pos (by simp)]⟩
  unfold Al.roomS at he ⊢
  cases hc : m.fl.cell mu k with
  | some x =>
   rw [hc, if_pos (by rfl)] at he
   rw [if_pos (by rfl)]
   obtain ⟨y, hy, e⟩ := htk _ _ he
   rw [e]
   have := taken_len hmu hy
   exact ⟨by unfold prdS numC; dsimp only; omega, .inl rfl, rfl, fun q hq => .inl hq⟩
  | none =>
   rw [hc, if_neg (by simp)] at he
   rw [if_neg (by simp)]
   by_cases hz : (m.bm.small k).err = 0
   ·rw [if_pos hz] at he ⊢
    obtain ⟨y, hy, e⟩ := htk _ _ he
    rw [e]
    rcases small_live h.bm h.live k hk with ⟨e2, hp⟩ | ⟨b, s1, s2, s3, s4, s5, s6, s7, s8, s9, s10, s11⟩
    ·rw [e2] at hz; cases hz
    ·obtain ⟨f1, f2⟩ := small_free hz
     obtain ⟨a, kk, g1, g2, g3, _⟩ := takeR_fit (Nat.le_refl 1) f2
     rw [show ((1 : Nat) : Int) = 1 from rfl] at g1
     rw [g1] at f1
     dsimp only at f1
     have hsum := sum_take g2 (Nat.le_refl 1) g3
     rw [← f1] at hsum
     have hl := taken_len hmu hy
     rw [s1, Int.toNat_natCast] at hl
     rw [s1, Int.toNat_natCast]
     rw [carved_len h hk s3 s4 ((h.bm.free b).1 s5).2.2] at hl
     refine ⟨?_, .inr ?_, rfl, fun q hq => .inl ?_⟩
     ·unfold prdS
      show numC m k + _ = ((FL.taken _ mu k).all k).length + _ + 1
      rw [hsum, Nat.add_mul, Nat.one_mul]
      dsimp only at hl ⊢
      omega
     ·show sumOf (runsOf (m.bm.small k).bm.free) + 1 ≤ _
      omega
     ·have hq' : ((m.bm.small k).bm.list.getD q default).k = 2 := hq
      rw [s9 q] at hq'
      split at hq'
      ·cases hq'
      ·exact hq'
   ·rw [if_neg hz] at he ⊢
    by_cases hz4 : (m.bm.small k).err ≠ 4
    ·rw [if_pos hz4] at he
     exact absurd he hz
    ·rw [if_neg hz4] at he ⊢
     have hbm : (m.bm.small k).bm = m.bm := by
      rcases small_live h.bm h.live k hk with ⟨e2, _⟩ | ⟨b, _, s2, _⟩
      ·rw [e2]
      ·exact absurd s2 hz
     unfold Al.steal at he ⊢
     cases ho : m.fl.owner k with
     | none => rw [ho] at he; cases he
     | some i =>
      rw [ho] at he
      dsimp only at he ⊢
      have hi : i < 4 := by
       unfold FL.owner at ho
       repeat' split at ho
       all_goals cases ho
       all_goals omega
      obtain ⟨y, hy, e⟩ := htk _ _ he
      rw [e, hbm]
      have h1 := taken_len hmu hy
      rw [drain_len hi hk] at h1
      exact ⟨by unfold prdS numC; dsimp only; omega, .inl rfl, rfl, fun q hq => .inl hq⟩
 ·rw [if_neg hs] at he
  rw [if_neg hs, if_neg hs, if_neg hs]
  unfold Al.roomL at he ⊢
  by_cases hz : (m.bm.large (objBlocks n)).err ≠ 0
  ·rw [if_pos hz] at he; exact absurd he hz
  ·rw [if_neg hz]
   obtain ⟨f1, f2, f3⟩ := large_free (show (m.bm.large (objBlocks n)).err = 0 by simpa using hz)
   obtain ⟨a, kk, g1, g2, g3, _⟩ := takeR_fit (z := objBlocks n) (by omega) f2
   rw [g1] at f1
   dsimp only at f1
   have hsum := sum_take g2 (by omega) g3
   have hdiv := divs_take g2 (by omega) g3
   have hlive := large_live h.bm h.live (objBlocks n) (by omega) (by have := objBlocks_33 h9; omega)
   dsimp only
   refine ⟨by rw [f1]; exact hdiv, .inr (by rw [f1]; omega), rfl, fun q hq => ?_⟩
   rcases hlive with ⟨e2, _⟩ | ⟨b, s1, s2, s3, s4, s5, s6, s7, s8, s9, s10, s11⟩
   ·rw [e2] at hz; exact absurd (show (4 : Int) ≠ 0 by decide) hz
   ·rw [s9 q] at hq
    split at hq
    ·next c => right; rw [s1, c]; omega
    ·split at hq
     ·cases hq
     ·exact .inl hq
theorem alloc_prd (h : AlOk B m) (hB : B ≤ 200) {mu p d : Int} (h0 : 0 ≤ mu) (h4 : mu < 4) (hs : objSize p d ≠ 0) (hm : (objSize p d : Int) ≤ 512 * ((B : Int) - 1)) :
  (∃ m' a, m.alloc mu p d = ⟨m', ((a : Nat) : Int), 0⟩ ∧ Made B m m' a p d ∧ prdN m (objSize p d) = prdN m' (objSize p d) + 1 ∧ (∀ q : Nat, (m'.bm.list.getD q default).k = 2 → (m.bm.list.getD q default).k = 2 ∨ a = 512 * q) ∧ ∀ N, m.bm.dev.ok N → ∃ N', m'.bm.dev.ok N' ∧ N' + 600000 * sumOf (runsOf m'.bm.free) ≤ N + 20000 + 600000 * sumOf (runsOf m.bm.free)) ∨
  (m.alloc mu p d = ⟨m, 0, 4⟩ ∧ prdN m (objSize p d) = 0) := by
 have hz : 1 ≤ objSize p d ∧ objSize p d ≤ 16448 := by
  refine ⟨by omega, ?_⟩
  have h1 := objSize_is hs
  have h2 := obj_small hs
  omega
 rcases alloc_room h hB h0 h4 hs hm with ⟨m', a, e, hmd, hr⟩ | ⟨e, hr⟩
 ·refine .inl ⟨m', a, e, hmd, ?_⟩
  have hra := e
  unfold Al.alloc at hra
  rw [if_neg (by omega), if_neg (by rw [h.bm.lenL]; omega)] at hra
  by_cases he : (m.room mu.toNat (objSize p d)).err ≠ 0
  ·rw [if_pos he] at hra
   injection hra with _ _ h3
   exact absurd h3 he
  ·rw [if_neg he] at hra
   have he0 : (m.room mu.toNat (objSize p d)).err = 0 := by simpa using he
   obtain ⟨p1, p2, _, p4⟩ := room_prd h hB (mu := mu.toNat) (by omega) hz.1 hz.2 he0
   have hfl : m'.fl = (m.room mu.toNat (objSize p d)).al.fl ∧ m'.bm.free = (m.room mu.toNat (objSize p d)).al.bm.free ∧ m'.bm.dev = ((m.room mu.toNat (objSize p d)).al.bm.dev.init (m.room mu.toNat (objSize p d)).a p d).dev ∧ m'.bm.list = (m.room mu.toNat (objSize p d)).al.bm.list ∧ (m.room mu.toNat (objSize p d)).a = (a : Int) := by
    unfold Al.made at hra
    split at hra
    ·next c => injection hra with _ _ h3; exact absurd h3 c
    ·injection hra with h1 h2 _; subst h1; exact ⟨rfl, rfl, rfl, rfl, h2⟩
   obtain ⟨f1, f2, f3, f4, f5⟩ := hfl
   refine ⟨?_, fun q hq => ?_, fun N hN => ?_⟩
   ·rw [p1]
    unfold prdN prdS numC
    rw [f1, f2]
   ·rw [f4] at hq
    exact (p4 q hq).imp id (fun h => by rw [f5] at h; omega)
   ·rw [f2, f3]
    rcases p2 with p2 | p2
    ·rw [p2]
     exact ⟨N + 20000, init_ok hN _ _ _, by omega⟩
    ·exact ⟨N + 500000 + 20000, init_ok (room_okN h.bm.clean.inv hN (by rw [h.bm.lenL]; omega) _ _) _ _ _, by omega⟩
 ·refine .inr ⟨e, ?_⟩
  unfold roomy16 at hr
  unfold prdN
  by_cases c : small (objSize p d)
  ·rw [if_pos c] at hr ⊢
   unfold prdS numC
   have e1 : (m.fl.all (ofN (objSize p d : Nat))).length = 0 := by omega
   have e2 : sumOf (runsOf m.bm.free) = 0 := by omega
   rw [e1, e2, Nat.zero_mul]
  ·rw [if_neg c] at hr ⊢
   refine divs_none (fun x hx => ?_)
   have := long_geF hx
   omega
end
end Go.Proofs.YtbimcogdbafjpaaGreat
namespace Go.Proofs.YtbimcogdbafjpaaGreat
open Go.RowKit Go.Maps
def prdI (m : Al) (k : Int) : Nat := if 0 ≤ k ∧ k < 32 then prdS m k.toNat else 0
theorem prdI_nat (m : Al) {k : Nat} (hk : k < 32) : prdI m (k : Int) = prdS m k := by unfold prdI; rw [if_pos ⟨by omega, by omega⟩]; rfl
theorem clsCells_256 {k : Nat} (hk : k < 32) : clsCells (k : Int) ≤ 256 := by
 have hcp := clsWords_pos (k : Int) (by omega)
 unfold clsCells
 have := Nat.div_le_div_left (c := 2) (b := clsWords (k : Int)) (a := 512) hcp (by decide)
 omega
theorem prdS_le {B : Nat} {m : Al} (h : AlOk B m) (hB : 1 ≤ B) {k : Nat} (hk : k < 32) : prdS m k ≤ 512 * B := by
 unfold prdS
 have h1 := numC_le h hk hB
 have h2 := sum_le h.bm
 have h3 := clsCells_256 hk
 have h4 : sumOf (runsOf m.bm.free) * clsCells (k : Int) ≤ B * 256 := Nat.mul_le_mul h2 h3
 omega
def lrgI (l : List (Nat × Nat)) (z : Int) : Nat := if 1 ≤ z then divs l z.toNat else 0
set_option maxHeartbeats 4000000 in
set_option maxRecDepth 20000 in
theorem psmall_any {w : World} {A : AF} {n B : Nat} {m : Al} (h : AlAt w A n B m) (hok : AlOk B m) (hB1 : 1 ≤ B) (hB : B ≤ 200) (k : Int) :
  Calls Tryz.prog 72 #[valloc A, .int .i64 k] w (Gives (.int .i64 (prdI m k : Nat)) w) := by
 have HP : Hid (∀ x w', x = ((prdI m k : Nat) : Int) → Below w.heap.size w w' → Gives (.int .i64 (prdI m k : Nat)) w (.returned (.int .i64 x)) w') := LH (fun x w' h1 h2 => by subst h1; exact ⟨rfl, h2⟩)
 have HD : Hid (prdI m k = if 0 ≤ k ∧ k < 32 then prdS m k.toNat else 0) := LH rfl
 generalize Gives (.int .i64 (prdI m k : Nat)) w = Post at *
 generalize prdI m k = pd at *
 have HA := LH h
 have HU := LH (hok.upto.mono (show 512 * B ≤ 900000 by omega))
 have HOk := LH hok
 have c0 := h.c0
 clear h hok
 go_enter Tryz.func72, Tryz.ntmps72
 go_wp2_with fail
 refine (cright_any _ _).mono ?_
 rintro e w1 ⟨rfl, rfl⟩
 by_cases hk : 0 ≤ k ∧ k < 32
 case neg =>
  rw [decide_eq_false hk]
  have HE : Hid ((0 : Int) = ((pd : Nat) : Int)) := LH (by rw [HD.out, if_neg hk]; rfl)
  clear hk
  go_wp2_with fail
  exact HP.out _ _ HE.out (Below.refl _ _)
 rw [decide_eq_true hk]
 obtain ⟨kn, rfl⟩ := Int.eq_ofNat_of_zero_le hk.1
 have hk32 : kn < 32 := by omega
 have HE : Hid (pd = numC m kn + sumOf (runsOf m.bm.free) * clsCells (kn : Int)) := LH (by rw [HD.out, if_pos hk]; rfl)
 have hF : sumOf (runsOf m.bm.free) ≤ 200 := Nat.le_trans (sum_le HOk.out.bm) hB
 have hC : clsCells (kn : Int) ≤ 256 := clsCells_256 hk32
 have hN : numC m kn ≤ 51200 := Nat.le_trans (numC_le HOk.out hk32 hB1) (by omega)
 have HBf := LH (fun w' (h : AlAt w' A n B m) => bfree_any h.man (by omega))
 have HCc := LH (fun w' => ccells_any (kn : Int) w')
 generalize sumOf (runsOf m.bm.free) = F at *
 generalize clsCells (kn : Int) = C at *
 have hFC0 : (0 : Int) ≤ (F : Int) * (C : Int) := by rw [← Int.natCast_mul]; omega
 have hFC1 : (F : Int) * (C : Int) ≤ 51200 := by
  have : F * C ≤ 200 * 256 := Nat.mul_le_mul hF hC
  rw [← Int.natCast_mul]; omega
 clear hk
 go_upto_region 3 with fail
 have r0 := fun x => later_cell c0 x
 refine wp_region_seg (C := fun w' => ∃ x : Later (w), w' = x.val) [.fl [0, 1, 4, 5, 6, 7, 9], .sq [2] true, .fl [3], .sq [8] true, .sq [10] true, .fl [11], .sq [12, 13] false] (by kernel_rfl) (by kernel_rfl) (by intro c a d v w h; cases d <;> exact h) ?_
 simp only [segs, picks, List.getElem?_cons_succ, List.getElem?_cons_zero]
 have hC1 := later_drew (w)
 refine wpSeg_fl hC1 ?_
 repeat (first | go_big_quiet_step (fail) | quiet_step (fail))
 refine wpQuiet_nil ?_
 have HA1 := LH (HA.out.below (later_below hC1))
 have HB1 : Hid (Below w.heap.size w w.drew) := LH (later_below hC1)
 clear r0 c0
 generalize w.drew = w2 at *
 refine wpSeg_sq (fun K hK => ?_)
 go_wp2_with fail
 refine (afreeCells_any HA1.out HU.out kn hk32).mono ?_
 rintro e w3 ⟨v, ys, rfl, ho, _, hcnt, _, hb⟩
 obtain ⟨a3, c3, rfl, _⟩ := ho.cells
 obtain ⟨l3, hl3⟩ : ∃ l3, l3 = ys.length := ⟨_, rfl⟩
 rw [← hl3]
 have hlN : l3 = numC m kn := by rw [hl3]; exact numC_list hcnt
 have HA3 := LH (HA1.out.below hb)
 have HB3 := LH (HB1.out.trans (hb.mono HB1.out.size))
 have hC2 := later_step hC1 hb
 rw [← hlN] at HE hN
 clear hb hcnt ho hl3 hlN
 go_wp2_with fail
 refine hK _ _ (fun _ => hC2) ?_
 clear hK K
 refine wpSeg_fl hC2 ?_
 repeat (first | go_big_quiet_step (fail) | quiet_step (fail))
 refine wpQuiet_nil ?_
 refine wpSeg_sq (fun K hK => ?_)
 go_wp2_with fail
 refine (HBf.out _ HA3.out).mono ?_
 rintro e w4 ⟨rfl, hb⟩
 have HB4 := LH (HB3.out.trans (hb.mono HB3.out.size))
 have hC3 := later_step hC2 hb
 clear hb
 go_wp2_with fail
 refine hK _ _ (fun _ => hC3) ?_
 clear hK K
 refine wpSeg_sq (fun K hK => ?_)
 go_wp2_with fail
 refine (HCc.out _).mono ?_
 rintro e w5 ⟨rfl, hb⟩
 have HB5 := LH (HB4.out.trans (hb.mono HB4.out.size))
 have hC4 := later_step hC3 hb
 clear hb
 go_wp2_with fail
 refine hK _ _ (fun _ => hC4) ?_
 clear hK K
 refine wpSeg_fl hC4 ?_
 repeat (first | go_big_quiet_step (fail) | quiet_step (fail))
 refine wpQuiet_nil ?_
 refine wpSeg_last ?_
 go_wp2_with fail
 exact HP.out _ _ (by rw [HE.out]; push_cast; rfl) HB5.out
def wrdK (m : Al) (k : Nat) : Nat := prdI m (k : Int) * clsWords (k : Int)
theorem wrdK_le {B : Nat} {m : Al} (h : AlOk B m) (hB1 : 1 ≤ B) (hB : B ≤ 200) {k : Nat} (hk : k < 32) : prdI m (k : Int) ≤ 102400 ∧ clsWords (k : Int) ≤ 256 ∧ wrdK m k ≤ 26214400 := by
 have h1 : prdI m (k : Int) ≤ 102400 := by rw [prdI_nat m hk]; exact Nat.le_trans (prdS_le h hB1 hk) (by omega)
 have h2 := clsWords_le (k : Int)
 have h3 : wrdK m k ≤ 102400 * 256 := Nat.mul_le_mul h1 h2
 exact ⟨h1, h2, by omega⟩
def TopPost (f : Nat → Nat) (w : World) : Ending → World → Prop := fun e w' => ∃ b k : Nat, TopQ f 0 32 b k ∧ e = .returned (.tuple #[.int .i64 (b : Int), .int .i64 (k : Int)]) ∧ Below w.heap.size w w'
set_option maxHeartbeats 4000000 in
set_option maxRecDepth 20000 in
theorem pwords_any {w : World} {A : AF} {n B : Nat} {m : Al} (h : AlAt w A n B m) (hok : AlOk B m) (hB1 : 1 ≤ B) (hB : B ≤ 200) :
  Calls Tryz.prog 67 #[valloc A] w (TopPost (wrdK m) w) := by
 have HP : Hid (∀ (b k : Nat) w', TopQ (wrdK m) 0 32 b k → Below w.heap.size w w' → TopPost (wrdK m) w (.returned (.tuple #[.int .i64 (b : Int), .int .i64 (k : Int)])) w') := LH (fun b k w' h1 h2 => ⟨b, k, h1, rfl, h2⟩)
 generalize TopPost (wrdK m) w = Post at *
 have HA := LH h
 have HSm := LH (fun w' (h : AlAt w' A n B m) k => psmall_any h hok hB1 hB k)
 have HLe := LH (fun (k : Nat) (hk : k < 32) => wrdK_le hok hB1 hB hk)
 have HWk : Hid (∀ k, wrdK m k = prdI m (k : Int) * clsWords (k : Int)) := LH (fun _ => rfl)
 obtain ⟨f, hf⟩ : ∃ f, f = wrdK m := ⟨_, rfl⟩
 rw [← hf] at HP HLe HWk
 clear h hok hf
 go_enter Tryz.func67, Tryz.ntmps67
 go_wp2_with fail
 go_loopw [4, 5, 8] (fun bv wv kv wr => ∃ b v k : Nat, k ≤ 32 ∧ b ≤ 26214400 ∧ v ≤ 32 ∧ bv = .int .i64 (b : Int) ∧ wv = .int .i64 (v : Int) ∧ kv = .int .i64 (k : Int) ∧ Hid (TopQ f 0 k b v) ∧ Hid (Below w.heap.size w wr)) (fun _ _ kv _ => 32 - (intOf kv).toNat)
 case atStart => exact ⟨0, 0, 0, by omega, by omega, by omega, rfl, rfl, rfl, LH (TopQ.nil _ _), LH (Below.refl _ _)⟩
 case round =>
  obtain ⟨b, v, k, hk, hb, hv, rfl, rfl, rfl, HQ, HB⟩ := hrel
  by_cases hlt : k < 32
  ·have HA1 := LH (HA.out.below HB.out)
   obtain ⟨l1, l2, l3⟩ := HLe.out k hlt
   have HF := LH (HWk.out k)
   have HU := LH (TopQ.up HQ.out (Nat.zero_le _))
   clear HQ
   go_wp2_with fail
   refine (HSm.out _ HA1.out (k : Int)).mono ?_
   rintro e w2 ⟨rfl, hb2⟩
   have HB2 := LH (HB.out.trans (hb2.mono HB.out.size))
   clear hb2
   generalize prdI m (k : Int) = x at *
   go_wp2_with fail
   refine (cwords_any (k : Int) _).mono ?_
   rintro e w3 ⟨rfl, hb3⟩
   have HB3 := LH (HB2.out.trans (hb3.mono HB2.out.size))
   clear hb3
   generalize clsWords (k : Int) = y at *
   have hxyI : (x : Int) * (y : Int) = (f k : Int) := by rw [HF.out]; push_cast; rfl
   generalize f k = z at *
   have hxy0 : (0 : Int) ≤ (x : Int) * (y : Int) := by omega
   have hxy1 : (x : Int) * (y : Int) ≤ 26214400 := by omega
   by_cases hbz : b < z
   ·rw [if_pos hbz, if_pos hbz] at HU
    have hbz' : (b : Int) < (x : Int) * (y : Int) := by omega
    go_wp2_with fail
    refine ⟨⟨z, k, k + 1, by omega, by omega, by omega, vint (by omega), rfl, vint (by omega), HU, HB3⟩, ?_⟩
    simp [intOf]; omega
   ·rw [if_neg hbz, if_neg hbz] at HU
    have hbz' : (x : Int) * (y : Int) ≤ (b : Int) := by omega
    go_wp2_with fail
    refine ⟨⟨b, v, k + 1, by omega, by omega, by omega, rfl, rfl, vint (by omega), HU, HB3⟩, ?_⟩
    simp [intOf]; omega
  ·obtain rfl : k = 32 := by omega
   go_wp2_with fail
   exact HP.out _ _ _ HQ.out HB.out
end Go.Proofs.YtbimcogdbafjpaaGreat
namespace Go.Proofs
open Go.Shelf
def Tryz.sortSp_ren : Go.Shelf.Ren := ⟨fun | 6 => 231 | 15 => 237 | 14 => 245 | 28 => 257 | 29 => 258 | 20 => 262 | 21 => 263 | 22 => 264 | 23 => 265 | 24 => 266 | 25 => 267 | 26 => 268 | 27 => 269 | 46 => 277 | 47 => 271 | 48 => 272 | 49 => 278 | 50 => 279 | 57 => 282 | n => n, fun | 22 => 178 | 24 => 232 | 25 => 306 | 3 => 3 | 39 => 158 | 0 => 0 | 53 => 211 | 55 => 113 | 4 => 4 | 46 => 320 | 45 => 319 | 50 => 174 | 5 => 5 | 9 => 9 | 66 => 333 | 70 => 337 | 76 => 342 | 77 => 137 | n => n, fun | n => n⟩
theorem Tryz.sortSp : Go.Proofs.SlLaysF0.n6 Tryz.prog Tryz.sortSp_ren := {
 mixed := by kernel_rfl
 f6 := ⟨Tryz.f231.name, by decide, Tryz.func231.trans (congrArg some (by kernel_rfl))⟩
 f14 := ⟨Tryz.f245.name, by decide, Tryz.func245.trans (congrArg some (by kernel_rfl))⟩
 f15 := Tryz.func237.trans (congrArg some (by kernel_rfl))
 f20 := ⟨Tryz.f262.name, by decide, Tryz.func262.trans (congrArg some (by kernel_rfl))⟩
 f21 := ⟨Tryz.f263.name, by decide, Tryz.func263.trans (congrArg some (by kernel_rfl))⟩
 f22 := ⟨Tryz.f264.name, by decide, Tryz.func264.trans (congrArg some (by kernel_rfl))⟩
 f23 := ⟨Tryz.f265.name, by decide, Tryz.func265.trans (congrArg some (by kernel_rfl))⟩
 f24 := ⟨Tryz.f266.name, by decide, Tryz.func266.trans (congrArg some (by kernel_rfl))⟩
 f25 := ⟨Tryz.f267.name, by decide, Tryz.func267.trans (congrArg some (by kernel_rfl))⟩
 f26 := ⟨Tryz.f268.name, by decide, Tryz.func268.trans (congrArg some (by kernel_rfl))⟩
 f27 := ⟨Tryz.f269.name, by decide, Tryz.func269.trans (congrArg some (by kernel_rfl))⟩
 f28 := Tryz.func257.trans (congrArg some (by kernel_rfl))
 f29 := Tryz.func258.trans (congrArg some (by kernel_rfl))
 f46 := ⟨Tryz.f277.name, by decide, Tryz.func277.trans (congrArg some (by kernel_rfl))⟩
 f47 := Tryz.func271.trans (congrArg some (by kernel_rfl))
 f48 := Tryz.func272.trans (congrArg some (by kernel_rfl))
 f49 := ⟨Tryz.f278.name, by decide, Tryz.func278.trans (congrArg some (by kernel_rfl))⟩
 f50 := ⟨Tryz.f279.name, by decide, Tryz.func279.trans (congrArg some (by kernel_rfl))⟩
 f57 := ⟨Tryz.f282.name, by decide, Tryz.func282.trans (congrArg some (by kernel_rfl))⟩
 t0 := Tryz.underlying0
 a0 := Tryz.isAgg0
 z0 := Tryz.sizeOf0
 v0 := Tryz.zeroValue0
 t3 := Tryz.underlying3
 a3 := Tryz.isAgg3
 z3 := Tryz.sizeOf3
 v3 := Tryz.zeroValue3
 t4 := Tryz.underlying4
 a4 := Tryz.isAgg4
 z4 := Tryz.sizeOf4
 v4 := Tryz.zeroValue4
 t5 := Tryz.underlying5
 a5 := Tryz.isAgg5
 z5 := Tryz.sizeOf5
 v5 := Tryz.zeroValue5
 t9 := Tryz.underlying9
 a9 := Tryz.isAgg9
 z9 := Tryz.sizeOf9
 v9 := Tryz.zeroValue9
 t22 := Tryz.underlying178
 a22 := Tryz.isAgg178
 z22 := Tryz.sizeOf178
 v22 := Tryz.zeroValue178
 t25 := Tryz.underlying306
 a25 := Tryz.isAgg306
 z25 := Tryz.sizeOf306
 v25 := Tryz.zeroValue306
 t39 := Tryz.underlying158
 a39 := Tryz.isAgg158
 z39 := Tryz.sizeOf158
 v39 := Tryz.zeroValue158
 t45 := Tryz.underlying319
 a45 := Tryz.isAgg319
 z45 := Tryz.sizeOf319
 v45 := Tryz.zeroValue319
 t46 := Tryz.underlying320
 a46 := Tryz.isAgg320
 z46 := Tryz.sizeOf320
 v46 := Tryz.zeroValue320
 t50 := Tryz.underlying174
 a50 := Tryz.isAgg174
 z50 := Tryz.sizeOf174
 v50 := Tryz.zeroValue174
 t53 := Tryz.underlying211
 a53 := Tryz.isAgg211
 z53 := Tryz.sizeOf211
 v53 := Tryz.zeroValue211
 t55 := Tryz.underlying113
 a55 := Tryz.isAgg113
 z55 := Tryz.sizeOf113
 v55 := Tryz.zeroValue113
 t66 := Tryz.underlying333
 a66 := Tryz.isAgg333
 z66 := Tryz.sizeOf333
 v66 := Tryz.zeroValue333
 t70 := Tryz.underlying337
 a70 := Tryz.isAgg337
 z70 := Tryz.sizeOf337
 v70 := Tryz.zeroValue337
 t76 := Tryz.underlying342
 a76 := Tryz.isAgg342
 z76 := Tryz.sizeOf342
 v76 := Tryz.zeroValue342
 t77 := Tryz.underlying137
 a77 := Tryz.isAgg137
 z77 := Tryz.sizeOf137
 v77 := Tryz.zeroValue137 }
end Go.Proofs
namespace Go.Proofs.YtbimcogdbafjpaaGreat
open Go.RowKit Go.Maps Go.Sort Go.Shelf
abbrev Spb := {x : Sp // x.1 ≤ 1000000000000}
instance : Inhabited Spb := ⟨⟨(0, 0), by decide⟩⟩
def encSp (x : Spb) : List Value := [.int .i64 (x.1.1 : Int), .int .i64 (x.1.2 : Int)]
def cfSp (x y : Spb) : Int := (x.1.1 : Int) - (y.1.1 : Int)
theorem ltSp (x y : Spb) : ltOf cfSp x y = decide (x.1.1 < y.1.1) := by
 unfold ltOf cfSp
 by_cases h : x.1.1 < y.1.1
 ·rw [decide_eq_true h]; simp; omega
 ·rw [decide_eq_false h]; simp; omega
theorem swoSp : SWO (ltOf cfSp) where
 irrefl x := by rw [ltSp]; simp
 trans x y z h1 h2 := by rw [ltSp] at *; simp at *; omega
 ntrans x y z h1 h2 := by rw [ltSp] at *; simp at *; omega
theorem spCs_at : ∀ (l : List Sp) (i : Nat) (s n : Nat), l[i]? = some (s, n) → (spCs l)[i * 2]? = some (.int .i64 (s : Int)) ∧ (spCs l)[i * 2 + 1]? = some (.int .i64 (n : Int))
 | [], i, s, n, h => by simp at h
 | x :: l, 0, s, n, h => by
  simp at h
  subst h
  exact ⟨rfl, rfl⟩
 | x :: l, i + 1, s, n, h => by
  have ih := spCs_at l i s n (by simpa using h)
  have e : spCs (x :: l) = .int .i64 x.1 :: .int .i64 x.2 :: spCs l := rfl
  rw [e, show (i + 1) * 2 = i * 2 + 1 + 1 by omega]
  simpa using ih
theorem flat_get (xs : List Spb) (t : Nat) (h : t < xs.length * 2) : (spCs (xs.map (·.1)))[t]? = some (flatK encSp 2 xs.toArray)[t]! := by
 have hs : t < xs.toArray.size * 2 := by simpa using h
 rw [get_flatK encSp 2 xs.toArray t hs]
 have hd : t / 2 < xs.length := by omega
 have hx : xs.toArray[t / 2]! = xs[t / 2] := by simp [hd]
 have hl : (xs.map (·.1))[t / 2]? = some (xs[t / 2].1.1, xs[t / 2].1.2) := by simp [hd]
 obtain ⟨h1, h2⟩ := spCs_at _ _ _ _ hl
 rw [hx]
 generalize xs[t / 2] = y at *
 clear hl hx hd
 rcases Nat.mod_two_eq_zero_or_one t with h0 | h0
 ·rw [show t = t / 2 * 2 by omega, h1, show t / 2 * 2 % 2 = 0 by omega]
  rfl
 ·rw [show t = t / 2 * 2 + 1 by omega, h2, show (t / 2 * 2 + 1) % 2 = 1 by omega]
  rfl
theorem holds_sp {w : World} {g e : Nat} {xs : List Spb} (h : RowAt w g e (spCs (xs.map (·.1)))) : HoldsK encSp 2 w g 0 xs.toArray := by
 intro j hj
 have hj' : j < xs.length * 2 := by simpa using hj
 have := flat_get xs j hj'
 rw [Nat.zero_add]
 exact ⟨h.cell this, h.frozen _⟩
theorem cells_sp {w : World} {g : Nat} {xs : List Spb} (h : HoldsK encSp 2 w g 0 xs.toArray) : Cells w (some ⟨g, 0, none⟩) (spCs (xs.map (·.1))) := by
 refine .inr ⟨g, 0, rfl, fun i v hi => ?_⟩
 have hlt : i < xs.length * 2 := by
  have := (List.getElem?_eq_some_iff.1 hi).1
  rw [spCs_length] at this; simp at this; omega
 have h1 := h i (by simpa using hlt)
 have h2 := flat_get xs i hlt
 rw [hi] at h2
 rw [h1.1]
 simp only [id]
 exact h2.symm
theorem grownBy_sortK {w : World} {g n : Nat} {os : Array Obj} (d : Array Spb) : w.grownBy (sortWorldK encSp 2 w g 0 n d os) (some g) := by
 refine ⟨rfl, rfl, rfl, by simp [sortWorldK, putRowK], fun k hk hne => ?_⟩
 unfold sortWorldK putRowK
 rw [heap_grow_old _ _ (by simpa using hk)]
 have : g ≠ k := fun e => hne (by rw [e])
 simp [putRow, mapBlock, Sort.ahead, Array.getElem?_modify, this]
set_option maxHeartbeats 1000000 in
theorem cmp_any (x y : Spb) (W : World) : Calls Tryz.prog 232 #[.agg (encSp x).toArray, .agg (encSp y).toArray] W fun e w' => e = .returned (.int .i64 (cfSp x y)) ∧ ∃ q os', w' = grow (W.drewN q) os' := by
 obtain ⟨⟨a, b⟩, hx⟩ := x
 obtain ⟨⟨c, d⟩, hy⟩ := y
 unfold encSp cfSp
 dsimp only at hx hy ⊢
 go_enter Tryz.func232, Tryz.ntmps232
 go_wp2_with fail
 go_ret
 exact ⟨rfl, 0, _, by rw [alloc_eq_grow, alloc_eq_grow, grow_grow]; rfl⟩
theorem aggSp (w : World) : (isAgg 232).run Tryz.prog w = .ok true w := Tryz.isAgg232 w
theorem sizeSp (w : World) : (Go.sizeOf 232).run Tryz.prog w = .ok 2 w := Tryz.sizeOf232 w
theorem sort_any (g cap : Nat) (xs : List Spb) (n : Nat) (hn : xs.length = n) (w : World) {e : Nat} (hr : RowAt w g e (spCs (xs.map (·.1)))) (hsz : n ≤ 1000000000000) :
  Calls Tryz.prog 231 #[.slice (some ⟨g, 0, none⟩) n cap, .func (.func 232) #[] #[]] w fun e w' =>
   e = .returned (.tuple #[]) ∧ ∃ ys : List Spb, ys.Perm xs ∧ ys.Pairwise (fun a b => a.1.1 ≤ b.1.1) ∧ Cells w' (some ⟨g, 0, none⟩) (spCs (ys.map (·.1))) ∧ w.grownBy w' (some g) := by
 subst hn
 have eg : ∀ args w, (callFunc 232 args).run Tryz.prog w = .ok (.enter 232 args) w := enters_of Tryz.func232 (by kernel_rfl) rfl
 have hlt : g < w.heap.size := hr.lt
 have hH := holds_sp hr
 have hcon := AnyQ.slices_SortFunc Tryz.sortSp 2 aggSp sizeSp encSp (fun _ => rfl) (fun x v hv => by simp [encSp] at hv; rcases hv with rfl | rfl <;> rfl) cfSp swoSp 232 #[] g 0 cap xs.toArray w eg (fun m os dk hs x y => cmp_any x y _) hH hlt (by simp; omega)
 change Calls Tryz.prog 231 _ _ _ at hcon
 rw [List.size_toArray] at hcon
 refine hcon.mono ?_
 rintro e w' ⟨rfl, d', n, os, hp, hs, rfl⟩
 have hsz' : d'.size = xs.length := by simpa using hp.1
 have hex1 : (d'.extract 0 xs.length).toList = d'.toList := by rw [← hsz']; simp
 refine ⟨rfl, d'.toList, ?_, ?_, ?_, grownBy_sortK d'⟩
 ·have := hp.2.2
  rw [hex1] at this
  simpa using this
 ·rw [List.pairwise_iff_getElem]
  intro i j hi hj hij
  have h := hs i j (Nat.zero_le _) hij (by simpa [hsz'] using hj)
  rw [ltSp] at h
  have hi' : i < d'.size := by simpa using hi
  have hj' : j < d'.size := by simpa using hj
  simp [hi', hj'] at h
  simpa using h
 ·have h1 : HoldsK encSp 2 (sortWorldK encSp 2 w g 0 n d' os) g 0 d' := holdsK_sortWorldK_c encSp 2 w g 0 xs.toArray d' n os hH hlt (by simpa using hsz')
  exact cells_sp (xs := d'.toList) (by simpa using h1)
theorem sorted_runs {l : List Bool} {ys : List Spb} {done : List Sp} (hp : (ys.map (·.1)).Perm done) (hd : done.Perm (runsOf l)) (hs : ys.Pairwise (fun a b => a.1.1 ≤ b.1.1)) : ys.map (·.1) = runsOf l := by
 have hq := hp.trans hd
 have hris := (runsOf_is l).rising
 have hnd : ((runsOf l).map (·.1)).Nodup := by
  unfold List.Nodup
  rw [List.pairwise_map]
  exact hris.imp (fun h => by omega)
 have hnd2 : ((ys.map (·.1)).map (·.1)).Nodup := (hq.map (·.1)).nodup_iff.2 hnd
 refine rising_ext ?_ hris (fun x => hq.mem_iff)
 unfold Rising
 unfold List.Nodup at hnd2
 rw [List.pairwise_map] at hnd2
 have h2 : (ys.map (·.1)).Pairwise (fun a b => a.1 ≤ b.1) := by rw [List.pairwise_map]; exact hs
 exact (List.Pairwise.and h2 hnd2).imp (fun h => by omega)
theorem as_spb : ∀ (l : List Sp), (∀ x ∈ l, x.1 ≤ 1000000000000) → ∃ xs : List Spb, xs.map (·.1) = l
 | [], _ => ⟨[], rfl⟩
 | x :: l, h => by
  obtain ⟨xs, hxs⟩ := as_spb l (fun y hy => h y (by simp [hy]))
  exact ⟨⟨x, h x (by simp)⟩ :: xs, by simp [hxs]⟩
def SpList (w : World) (l : List Sp) : Ending → World → Prop := fun e w' => ∃ (a : Option Addr) (c : Nat), e = .returned (.slice a l.length c) ∧ Cells w' a (spCs l) ∧ Below w.heap.size w w'
theorem elBsp : Elem Tryz.prog 178 232 (.agg #[.int .i64 0, .int .i64 0]) 2 16 := Elem.mk' Tryz.underlying178 (by kernel_rfl) rfl (by decide)
theorem runs_len (f : Nat → Bool) : ∀ L, (runsTo f L).length ≤ L
 | 0 => by simp [runsTo]
 | b + 1 => by
  have ih := runs_len f b
  unfold runsTo
  split
  ·split
   ·split
    ·simp
    ·rename_i x hx
     obtain ⟨ys, hy⟩ := List.getLast?_eq_some_iff.1 hx
     rw [hy] at ih ⊢
     simp at ih ⊢; omega
   ·simp; omega
  ·omega
set_option maxHeartbeats 2000000 in
theorem ilist_any {w : World} {T : Tri} {n : Nat} {l : List Bool} (h : IxAt w T n l) (hl : l.length ≤ 100000000000) :
  Calls Tryz.prog 197 #[.pointer (some ⟨T.p, 0, none⟩)] w (SpList w (runsOf l)) := by
 have HLt := LH (show T.s < w.heap.size from h.mem T.s (by simp [Tri.list]))
 obtain ⟨M, E, hA, hMO, _⟩ := h
 have e0 : w.cell? ⟨T.p, 0, none⟩ = some (.map (some T.s)) := hA.row.cell rfl
 have HS := LH hA.byS
 have HMO := LH hMO
 have HRl := LH (runs_len (fb l) l.length)
 have HL := LH hl
 clear hA hMO hl
 obtain ⟨B, hB⟩ : ∃ B, B = w.heap.size + 1 := ⟨_, rfl⟩
 have HBB := LH hB
 clear hB
 generalize hPo : SpList w (runsOf l) = Post
 have HPo := LH hPo
 clear hPo
 go_enter Tryz.func197, Tryz.ntmps197
 go_wp2_with (at_range; refine wpList_irange rfl _ 260 rfl 3 Tryz.underlying3 Tryz.underlying260 T.s n M rfl HS.out ?_; intro w0 cnt0 hr0 hg0 hs0)
 have HR0 := LH hr0
 have HB0 := LH (grown_none hg0)
 have HS0 := LH hs0
 clear hr0 hg0 hs0
 go_frame
 go_loopw [3] (fun v wr => ∃ (L : Int → Bool) (cnt : Nat) (done rest : List Sp), wr.ownsRow B 232 2 v done.length (spCs done) ∧ B ≤ wr.heap.size ∧ IRange Tryz.prog 3 wr T.s w.heap.size n M L cnt ∧ Below w.heap.size w wr ∧ Part l M L done rest) (fun _ wr => wr.rangeLeft T.s w.heap.size)
 case atStart => exact ⟨_, _, [], runsOf l, ⟨rfl, .inl ⟨rfl, rfl⟩⟩, by rw [HS0.out, HBB.out]; exact Nat.le_refl _, HR0.out, HB0.out, Part.start HMO.out⟩
 case round =>
  obtain ⟨L, cnt, done, rest, ho, hbs, hr, hb, hp⟩ := hrel
  have HR := LH hr
  have HB := LH hb
  have HO := LH ho
  have HP := LH hp
  have HBs := LH hbs
  obtain ⟨a1, c1, rfl, hc1, hm1⟩ := owned_form ho
  clear hr hb hp ho hbs
  go_wp2_with (at_next; refine wpList_inext rfl _ rfl 3 Tryz.underlying3 T.s w.heap.size n M _ _ rfl HR.out ?_ ?_)
  ·intro h0
   have hperm := HP.out.finish h0
   have hlen : done.length = (runsOf l).length := hperm.length_eq
   have hbd : ∀ x ∈ done, x.1 ≤ 1000000000000 := fun x hx => by
    have h1 := ((runsOf_is l).mem x.1 x.2).1 (hperm.mem_iff.1 hx)
    have := runEnds h1
    have := HL.out
    omega
   obtain ⟨xs, hxs⟩ := as_spb done hbd
   have hxl : xs.length = done.length := by rw [← hxs]; simp
   have hdl : done.length ≤ 1000000000000 := by rw [hlen]; have := HRl.out; have := HL.out; unfold runsOf; omega
   have HPm := LH hperm
   have HXs := LH hxs
   have HLen := LH hlen
   have HXl := LH hxl
   clear h0 hperm hlen hbd hxs hxl
   by_cases hd0 : done.length = 0
   ·have hnil : done = [] := List.eq_nil_of_length_eq_zero hd0
    have hrn : runsOf l = [] := List.eq_nil_of_length_eq_zero (by rw [← HLen.out]; exact hd0)
    have HRn := LH hrn
    subst hnil
    clear hrn hd0
    go_wp2_with (go_at_call 231; refine (show Calls Tryz.prog 231 _ _ _ from AnyF.slices_SortFunc_none (P := Tryz.prog) (ρ := Tryz.sortSp_ren) { Tryz.sortSp with } a1 c1 _ _).mono ?_; rintro e w' ⟨rfl, rfl⟩)
    rw [← HPo.out, HRn.out]
    exact ⟨a1, c1, rfl, .inl rfl, HB.out⟩
   ·obtain ⟨g, c2, he, _, _, hg1, hg2⟩ := owned_some HO.out (by omega)
    cases he
    have HRow := LH (show RowAt wr g 232 (spCs (xs.map (·.1))) by rw [HXs.out]; exact owned_row HO.out)
    go_wp2_with (go_at_call 231; refine (sort_any g c1 xs done.length HXl.out _ HRow.out hdl).mono ?_; rintro e w' ⟨rfl, ys, hyp, hys, hyc, hyg⟩; have HYp := LH hyp; have HYs := LH hys; have HYc := LH hyc; have HYg := LH hyg; clear hyp hys hyc hyg)
    rw [← HPo.out]
    have he : ys.map (·.1) = runsOf l := sorted_runs (done := done) (by rw [← HXs.out]; exact HYp.out.map _) HPm.out HYs.out
    refine ⟨some ⟨g, 0, none⟩, c1, by rw [← HLen.out]; rfl, ?_, ?_⟩
    ·rw [← he]; exact HYc.out
    ·exact HB.out.trans (grown_one HYg.out (by have := HBB.out; omega) HB.out.size)
  ·intro x c w1 cnt1 hwx hwc hL hMx hr1 hlt hg1 hs1 hen
   obtain ⟨s, k, rfl, rfl, _, hp1⟩ := HP.out.step HMO.out hL hMx
   have hP1 := LH hp1
   have HB1 : Hid (Below w.heap.size w w1) := LH (HB.out.trans (grown_one hg1 (Nat.le_refl _) HB.out.size))
   have hob : ∀ g, (Value.slice a1 done.length c1).ownBlock = some g → B ≤ g ∧ g < wr.heap.size := fun g hg => HO.out.lt g hg
   have hO1 := HO.out.kept hg1 (by
    cases hb : (Value.slice a1 done.length c1).ownBlock with
    | none => exact .inl rfl
    | some g => exact .inr (fun e => by have := (hob g hb).1; have := HBB.out; cases e; omega))
   have HO1 := LH hO1
   have HR1 := LH hr1
   have hdl : done.length < 1000000000000 := by
    have h1 := HP.out.perm.length_eq
    have := HRl.out
    have := HL.out
    unfold runsOf at h1
    simp at h1
    omega
   have HBs1 : Hid (B ≤ w1.heap.size) := LH (by have := HBs.out; omega)
   have HLt1 := LH hlt
   have HOb := LH hob
   have hone : Hid (∀ u ∈ (#[Value.int .i64 (s : Int), Value.int .i64 (k : Int)] : Array Value).toList, u.oneCell' = true) := LH (by intro u hu; simp at hu; rcases hu with rfl | rfl <;> rfl)
   clear hL hMx hr1 hlt hg1 hs1 hwx hwc hp1 hO1 hob
   go_wp2_with (at_builtin; refine wpList_append_new (us := #[.int .i64 (s : Int), .int .i64 (k : Int)]) elBsp HO1.out rfl hone.out hdl (by decide) HBs1.out rfl rfl rfl (by simp [Act.eval]) ?_; intro g6 c6 w6 ho6 hg6 hc6 hm6 hb6 hl6; have HO6 := LH ho6; have HG6 := LH hg6; clear ho6 hg6)
   have hrs : some T.s ≠ (Value.slice a1 done.length c1).ownBlock := fun e => by have := (HOb.out T.s e.symm).1; have := HBB.out; have := HLt.out; omega
   have hrr : some w.heap.size ≠ (Value.slice a1 done.length c1).ownBlock := fun e => by have := (HOb.out w.heap.size e.symm).1; have := HBB.out; omega
   have HR6 := LH (HR1.out.kept HG6.out hrs hrr)
   have HB6 : Hid (Below w.heap.size w w6) := LH (below_grownBy HB1.out HO1.out HG6.out (Nat.le_refl _) (by have := HBB.out; omega))
   have hz6 := HG6.out.size
   clear hrs hrr
   go_roundw
   case rel => exact ⟨_, _, done ++ [(s, k)], _, by rw [List.length_append, spCs_append]; exact HO6.out, Nat.le_trans HBs1.out hz6, HR6.out, HB6.out, hP1.out⟩
   case measure => rw [HR6.out.left_eq, HR.out.left_eq]; exact HLt1.out
end Go.Proofs.YtbimcogdbafjpaaGreat
namespace Go.Proofs.YtbimcogdbafjpaaGreat
open Go.RowKit
set_option maxHeartbeats 1000000 in
theorem bruns_any {w : World} {X : MF} {n B : Nat} {m : Bm} (h : ManAt w X n B m) (hB : B ≤ 1000) :
  Calls Tryz.prog 146 #[.pointer (some ⟨X.m, 0, none⟩)] w (SpList w (runsOf m.free)) := by
 have c1 := h.c1
 have HI := LH (ilist_any h.ix (by rw [h.lenF]; omega))
 clear h
 go_enter Tryz.func146, Tryz.ntmps146
 go_wp2_with fail
 refine HI.out.mono ?_
 rintro e w1 ⟨a, c, rfl, hc, hb⟩
 have HC := LH hc
 have HB := LH hb
 clear hc hb
 go_wp2_with fail
 go_ret
 exact ⟨a, c, rfl, HC.out, HB.out⟩
end Go.Proofs.YtbimcogdbafjpaaGreat
namespace Go.Proofs.YtbimcogdbafjpaaGreat
open Go.RowKit Go.Maps
set_option maxHeartbeats 4000000 in
set_option maxRecDepth 20000 in
theorem plarge_any {w : World} {A : AF} {n B : Nat} {m : Al} (h : AlAt w A n B m) (hok : AlOk B m) (hB : B ≤ 200) (z : Int) :
  Calls Tryz.prog 73 #[valloc A, .int .i64 z] w (Gives (.int .i64 (lrgI (runsOf m.bm.free) z : Nat)) w) := by
 have HP : Hid (∀ x w', x = ((lrgI (runsOf m.bm.free) z : Nat) : Int) → Below w.heap.size w w' → Gives (.int .i64 (lrgI (runsOf m.bm.free) z : Nat)) w (.returned (.int .i64 x)) w') := LH (fun x w' h1 h2 => by subst h1; exact ⟨rfl, h2⟩)
 have HD : Hid (lrgI (runsOf m.bm.free) z = if 1 ≤ z then divs (runsOf m.bm.free) z.toNat else 0) := LH rfl
 generalize Gives (.int .i64 (lrgI (runsOf m.bm.free) z : Nat)) w = Post at *
 generalize lrgI (runsOf m.bm.free) z = pd at *
 have HRn := LH (bruns_any h.man (by omega))
 have HSm : Hid (sumOf (runsOf m.bm.free) ≤ 200) := LH (Nat.le_trans (sum_le hok.bm) hB)
 have hl9 : (runsOf m.bm.free).length ≤ 200 := by
  rw [← spans_runs hok.bm]
  exact Nat.le_trans (spanL_len (freeAt m.bm.list) m.bm.list.length) (by rw [hok.bm.lenL]; exact hB)
 have c0 := h.c0
 go_enter Tryz.func73, Tryz.ntmps73
 by_cases hz : 1 ≤ z
 case neg =>
  have HE : Hid ((0 : Int) = ((pd : Nat) : Int)) := LH (by rw [HD.out, if_neg hz]; rfl)
  have hz' : z < 1 := by omega
  clear hz
  go_wp2_with fail
  exact HP.out _ _ HE.out (Below.refl _ _)
 obtain ⟨zn, rfl⟩ := Int.eq_ofNat_of_zero_le (show 0 ≤ z by omega)
 have hz1 : 1 ≤ zn := by omega
 have hz0 : ((zn : Int) == 0) = false := by rw [beq_eq_false_iff_ne]; omega
 have HE : Hid (pd = divs (runsOf m.bm.free) zn) := LH (by rw [HD.out, if_pos hz]; rfl)
 generalize runsOf m.bm.free = R at *
 clear hz HD
 go_wp2_with fail
 refine HRn.out.mono ?_
 rintro e w1 ⟨a1, c1, rfl, hc1, hb1⟩
 have HC := LH hc1
 have HB1 := LH hb1
 obtain ⟨l, hl⟩ : ∃ l, l = R.length := ⟨_, rfl⟩
 rw [← hl] at hl9 ⊢
 have HL := LH hl
 have HLe : Hid (∀ j, divs (R.take j) zn ≤ 200) := LH (fun j => by
  refine Nat.le_trans (divs_le _ hz1) (Nat.le_trans ?_ HSm.out)
  conv => rhs; rw [← List.take_append_drop j R]
  unfold sumOf
  rw [List.map_append, List.sum_append]
  omega)
 have HEl : Hid (∀ s k, (s, k) ∈ R → k ≤ 200) := LH (fun s k hm => Nat.le_trans (sum_memF hm) HSm.out)
 clear hc1 hb1 hl c0 HRn
 go_wp2_with fail
 go_loopw [5, 16] (fun nv jv wr => ∃ j x : Nat, j ≤ l ∧ x ≤ 200 ∧ jv = .int .i64 (j : Int) ∧ nv = .int .i64 (x : Int) ∧ Hid (x = divs (R.take j) zn) ∧ Hid (Below w1.heap.size w1 wr)) (fun _ jv _ => l - (intOf jv).toNat)
 case atStart => exact ⟨0, 0, Nat.zero_le _, Nat.zero_le _, rfl, rfl, LH rfl, LH (Below.refl _ _)⟩
 case round =>
  obtain ⟨j, x, hj, hx, rfl, rfl, HX, HB⟩ := hrel
  by_cases hlt : j < l
  ·have hlt' : (j : Int) < (l : Int) := by omega
   obtain ⟨⟨s, k⟩, hg⟩ : ∃ o, R[j]? = some o := ⟨_, List.getElem?_eq_getElem (by rw [← HL.out]; exact hlt)⟩
   have hgd : R.getD j (0, 0) = (s, k) := by rw [List.getD_eq_getElem?_getD, hg]; rfl
   have hk := HEl.out s k (List.mem_of_getElem? hg)
   have HNx : Hid (divs (R.take (j + 1)) zn = divs (R.take j) zn + k / zn) := LH (by
    have h1 := (List.getElem?_eq_some_iff.1 hg).1
    rw [List.take_succ_eq_append_getElem h1, (List.getElem?_eq_some_iff.1 hg).2, divs_snoc])
   have hkz : k / zn ≤ 200 := Nat.le_trans (Nat.div_le_self _ _) hk
   have hkzI : Hid ((k : Int) / (zn : Int) = ((k / zn : Nat) : Int)) := LH (by simp)
   have hq1 : (k : Int) / (zn : Int) ≤ 200 := by rw [hkzI.out]; omega
   have hq0 : (0 : Int) ≤ (k : Int) / (zn : Int) := by rw [hkzI.out]; exact Int.natCast_nonneg _
   have hxq : (x : Int) + (k : Int) / (zn : Int) ≤ 200 := by rw [hkzI.out]; have h1 := HLe.out (j + 1); rw [HNx.out, ← HX.out] at h1; omega
   have hxk : x + k / zn ≤ 200 := by have h1 := HLe.out (j + 1); rw [HNx.out, ← HX.out] at h1; exact h1
   obtain ⟨b, off, rfl, e0, e1⟩ := sp_cells (HC.out.below HB.out (Nat.le_refl _)) (by rw [← HL.out]; exact hlt) hgd
   have HM := LH (Mem.one wr #[.int .i64 (s : Int), .int .i64 (k : Int)] 232)
   clear hg hgd
   go_upto_region 7 with fail
   generalize wr.alloc _ = wa at *
   have d1 := HM.out.cell 0 1 rfl rfl
   have HBa := LH (HB.out.trans (HM.out.below.mono HB.out.size))
   clear e0 e1 HB HM
   go_wp2_with fail
   refine ⟨⟨j + 1, x + k / zn, by omega, hxk, vint (by omega), vint (by rw [hkzI.out]; omega), LH (by rw [HNx.out, HX.out]), HBa⟩, ?_⟩
   simp [intOf]; omega
  ·obtain rfl : j = l := by omega
   have hlt' : decide ((j : Int) < (j : Int)) = false := by simp
   have HFin : Hid ((x : Int) = (pd : Int)) := LH (by rw [HX.out, HE.out, HL.out, List.take_length])
   have HBx := LH (HB1.out.trans (HB.out.mono HB1.out.size))
   clear HB
   go_wp2_with fail
   exact HP.out _ _ HFin.out HBx.out
def objI (m : Al) (B : Nat) (p d : Int) : Nat := if objSize p d = 0 ∨ 512 * ((B : Int) - 1) < (objSize p d : Nat) then 0 else prdN m (objSize p d)
theorem prdN_small {m : Al} {n : Nat} (h : small n) : prdN m n = prdI m ((ofN (n : Int) : Nat) : Int) := by
 unfold prdN
 rw [if_pos h, prdI_nat m (ofN_lt h)]
theorem prdN_large {m : Al} {n : Nat} (h : ¬ small n) (h1 : 1 ≤ n) : prdN m n = lrgI (runsOf m.bm.free) (objBlocks n : Nat) := by
 have : 1 ≤ objBlocks n := by unfold objBlocks; rw [if_neg h]; omega
 unfold prdN lrgI
 rw [if_neg h, if_pos (by omega)]; rfl
set_option maxHeartbeats 4000000 in
set_option maxRecDepth 20000 in
theorem pobject_any {w : World} {A : AF} {n B : Nat} {m : Al} (h : AlAt w A n B m) (hok : AlOk B m) (hB1 : 1 ≤ B) (hB : B ≤ 200) (p d : Int) :
  Calls Tryz.prog 63 #[valloc A, .agg #[.int .i64 p, .int .i64 d]] w (Gives (.int .i64 (objI m B p d : Nat)) w) := by
 have HMem := LH (Mem.one w #[.int .i64 p, .int .i64 d] 129)
 have HP : Hid (∀ x w', x = ((objI m B p d : Nat) : Int) → Below w.heap.size w w' → Gives (.int .i64 (objI m B p d : Nat)) w (.returned (.int .i64 x)) w') := LH (fun x w' h1 h2 => by subst h1; exact ⟨rfl, h2⟩)
 have HD : Hid (objI m B p d = if objSize p d = 0 ∨ 512 * ((B : Int) - 1) < (objSize p d : Nat) then 0 else prdN m (objSize p d)) := LH rfl
 generalize Gives (.int .i64 (objI m B p d : Nat)) w = Post at *
 generalize objI m B p d = pd at *
 have HA0 := LH (h.below HMem.out.below)
 have HW0 := LH HMem.out.below
 have HOk := LH hok
 clear h hok
 have HSmall := LH (fun w => osmall_any p d w)
 have HBlk := LH (fun w => oblocks_any p d w)
 obtain ⟨s, hs⟩ : ∃ s, s = objSize p d := ⟨_, rfl⟩
 have HSz := LH (fun w => osize_any p d w)
 rw [← hs] at HD HSz HSmall HBlk
 have hsl : s ≤ 16448 := by rw [hs]; exact objSize_le _ _
 clear hs
 go_enter Tryz.func63, Tryz.ntmps63
 go_upto_region 1 with fail
 obtain ⟨q, hq⟩ : ∃ q, q = w.heap.size := ⟨_, rfl⟩
 rw [← hq] at HMem ⊢
 generalize w.alloc _ = w0 at *
 clear hq
 have d0 := HMem.out.cell 0 0 rfl rfl
 have d1 := HMem.out.cell 0 1 rfl rfl
 have r0 := fun x => later_cell d0 x
 have r1 := fun x => later_cell d1 x
 have r2 := fun x => later_cell HA0.out.c0 x
 have HD1 : Hid (Below w0.heap.size w0 w0.drew) := LH (later_below (later_drew w0))
 have d0' := r0 ⟨w0.drew, HD1.out⟩
 have d1' := r1 ⟨w0.drew, HD1.out⟩
 dsimp only at d0' d1'
 by_cases hs0 : s = 0
 ·subst hs0
  have HE : Hid ((0 : Int) = (pd : Int)) := LH (by rw [HD.out, if_pos (.inl rfl)]; rfl)
  refine wp_region_seg (C := fun w' => ∃ x : Later (w0), w' = x.val) [.sq [0, 1, 2, 3] false, .fl [4, 6, 7, 8, 9], .sq [5] true, .sq [10, 11, 12, 13] false] (by kernel_rfl) (by kernel_rfl) (by intro c a d v w h; cases d <;> exact h) ?_
  simp only [segs, picks, List.getElem?_cons_succ, List.getElem?_cons_zero]
  have hC1 := later_drew (w0)
  refine wpSeg_sq (fun K hK => ?_)
  go_wp2_with fail
  refine (HSz.out _).mono ?_
  rintro e w1 ⟨rfl, hb1⟩
  have hC2 := later_step hC1 hb1
  have HB2 := LH (HW0.out.trans ((later_below hC2).mono HW0.out.size))
  clear hb1
  go_wp2_with fail
  refine hK _ _ (fun h => nomatch h) ?_
  clear hK K
  refine wpSeg_fl hC2 ?_
  repeat (first | go_big_quiet_step (fail) | quiet_step (fail))
  refine wpQuiet_nil ?_
  refine wpSeg_sq (fun K hK => ?_)
  go_wp2_with fail
  go_wp2_with fail
  refine hK _ _ (fun _ => hC2) ?_
  clear hK K
  refine wpSeg_last ?_
  go_wp2_with fail
  exact HP.out _ _ HE.out HB2.out
 have hs0' : ((s : Int) == 0) = false := by simpa using hs0
 refine wp_region_seg (C := fun w' => ∃ x : Later (w0), w' = x.val) [.sq [0, 1, 2, 3] false, .fl [4, 6, 7, 8, 9], .sq [5] true, .sq [10, 11, 12, 13] false] (by kernel_rfl) (by kernel_rfl) (by intro c a d v w h; cases d <;> exact h) ?_
 simp only [segs, picks, List.getElem?_cons_succ, List.getElem?_cons_zero]
 have hC1 := later_drew (w0)
 refine wpSeg_sq (fun K hK => ?_)
 go_wp2_with fail
 refine (HSz.out _).mono ?_
 rintro e w1 ⟨rfl, hb1⟩
 have hC2 := later_step hC1 hb1
 clear hb1 d0' d1'
 go_wp2_with fail
 refine hK _ _ (fun h => nomatch h) ?_
 clear hK K
 refine wpSeg_fl hC2 ?_
 repeat (first | go_big_quiet_step (fail) | quiet_step (fail))
 refine wpQuiet_nil ?_
 refine wpSeg_sq (fun K hK => ?_)
 go_wp2_with fail
 refine (HSz.out _).mono ?_
 rintro e w2 ⟨rfl, hb2⟩
 have hC3 := later_step hC2 hb2
 have HA2 := LH (HA0.out.below (later_below hC3))
 clear hb2
 go_wp2_with fail
 refine hK _ _ (fun _ => hC3) ?_
 clear hK K
 refine wpSeg_last ?_
 go_wp2_with fail
 refine (bgeom_any HA2.out.man).mono ?_
 rintro e w3 ⟨rfl, hb3⟩
 have hC4 := later_step hC3 hb3
 clear hb3 HA2
 go_wp2_with fail
 refine (gmost_any B hB1 (by omega) _).mono ?_
 rintro e w4 ⟨rfl, hb4⟩
 have hC5 := later_step hC4 hb4
 have HD4 : Hid (Below w0.heap.size w0 w4) := LH (later_below hC5)
 clear hb4 hC1 hC2 hC3 hC4 hC5 d0 d1 r0 r1 r2
 have HA4 := LH (HA0.out.below HD4.out)
 have HM4 := LH (HMem.out.later HD4.out)
 have HW4 := LH (HW0.out.trans (HD4.out.mono HW0.out.size))
 clear HMem HA0 HW0 HD1 HD4
 by_cases hbig : 512 * ((B : Int) - 1) < (s : Nat)
 ·have HE : Hid ((0 : Int) = (pd : Int)) := LH (by rw [HD.out, if_pos (.inr hbig)]; rfl)
  have hbig' : ((B : Int) - 1) * 512 < (s : Int) := by omega
  go_wp2_with fail
  exact HP.out _ _ HE.out HW4.out
 have hbig' : (s : Int) ≤ ((B : Int) - 1) * 512 := by omega
 have HE : Hid (pd = prdN m s) := LH (by rw [HD.out, if_neg (by omega)])
 clear HD hbig
 have d0 := HM4.out.cell 0 0 rfl rfl
 have d1 := HM4.out.cell 0 1 rfl rfl
 go_wp2_with fail
 refine (HSmall.out _).mono ?_
 rintro e w5 ⟨rfl, hb5⟩
 have HM5 := LH (HM4.out.later hb5)
 have HA5 := LH (HA4.out.below hb5)
 have HW5 := LH (HW4.out.trans (hb5.mono HW4.out.size))
 clear hb5 d0 d1
 by_cases hsm : small s
 ·rw [ofV_small _ hsm]
  have HE2 : Hid (pd = prdI m ((ofN (s : Int) : Nat) : Int)) := LH (by rw [HE.out, prdN_small hsm])
  clear hsm HE
  generalize ofN (s : Int) = k at *
  go_wp2_with fail
  refine (psmall_any HA5.out HOk.out hB1 hB (k : Int)).mono ?_
  rintro e w6 ⟨rfl, hb6⟩
  have HFin := LH (HP.out _ w6 (congrArg Nat.cast HE2.out.symm) (HW5.out.trans (hb6.mono HW5.out.size)))
  clear hb6
  generalize prdI m (k : Int) = x at *
  go_wp2_with fail
  exact HFin.out
 ·rw [ofV_large _ hsm]
  have HE2 : Hid (pd = lrgI (runsOf m.bm.free) (objBlocks s : Nat)) := LH (by rw [HE.out, prdN_large hsm (by omega)])
  clear hsm HE
  generalize objBlocks s = nb at *
  have d0 := HM5.out.cell 0 0 rfl rfl
  have d1 := HM5.out.cell 0 1 rfl rfl
  go_wp2_with fail
  refine (HBlk.out _).mono ?_
  rintro e w6 ⟨rfl, hb6⟩
  have HA6 := LH (HA5.out.below hb6)
  have HW6 := LH (HW5.out.trans (hb6.mono HW5.out.size))
  clear hb6
  go_wp2_with fail
  refine (plarge_any HA6.out HOk.out hB (nb : Int)).mono ?_
  rintro e w7 ⟨rfl, hb7⟩
  have HFin := LH (HP.out _ w7 (congrArg Nat.cast HE2.out.symm) (HW6.out.trans (hb7.mono HW6.out.size)))
  clear hb7
  generalize lrgI (runsOf m.bm.free) (nb : Int) = x at *
  go_wp2_with fail
  exact HFin.out
def refS (L : List Hd) (xs : List Nat) (k : Nat) : Nat := (freeTo (fun y => xs.contains y) L k (L.length - 1)).length + frTo L L.length * clsCells (k : Int)
theorem refS_le (L : List Hd) (xs : List Nat) {k : Nat} (hk : k < 32) (hl : L.length ≤ 200) : (freeTo (fun y => xs.contains y) L k (L.length - 1)).length ≤ 51200 ∧ clsCells (k : Int) ≤ 256 ∧ refS L xs k ≤ 102400 := by
 have h1 := freeTo_len (u := fun y => xs.contains y) (L := L) hk (L.length - 1)
 have h2 := clsCells_256 hk
 have h3 : frTo L L.length * clsCells (k : Int) ≤ 200 * 256 := Nat.mul_le_mul (Nat.le_trans (frTo_le L _) hl) h2
 refine ⟨by omega, h2, ?_⟩
 unfold refS
 omega
set_option maxHeartbeats 4000000 in
set_option maxRecDepth 20000 in
theorem rsmall29_any {w : World} (a : Option Addr) (n cap : Nat) (L : List Hd) (hn : L.length = n) (hc : Cells w a (hdCs L)) (hl : n ≤ 200) (k : Nat) (hk : k < 32) (b : Option Addr) (un uc : Nat) (xs : List Nat) (hun : xs.length = un) (hx : Cells w b (xs.map vi)) (hul : un ≤ 1000000) :
  Calls Tryz.prog 142 #[.slice a n cap, .slice b un uc, .int .i64 (k : Int)] w (Gives (.int .i64 (refS L xs k : Nat)) w) := by
 have HP : Hid (∀ x w', x = ((refS L xs k : Nat) : Int) → Below w.heap.size w w' → Gives (.int .i64 (refS L xs k : Nat)) w (.returned (.int .i64 x)) w') := LH (fun x w' h1 h2 => by subst h1; exact ⟨rfl, h2⟩)
 have HD : Hid (refS L xs k = (freeTo (fun y => xs.contains y) L k (n - 1)).length + frTo L n * clsCells (k : Int)) := LH (by rw [← hn]; rfl)
 obtain ⟨l1, l2, l3⟩ := refS_le L xs hk (by rw [hn]; exact hl)
 rw [hn] at l1
 generalize Gives (.int .i64 (refS L xs k : Nat)) w = Post at *
 generalize refS L xs k = pd at *
 have HN := LH hn
 have HC := LH hc
 have HFr := LH (rfree16_any a n cap L hn hc hl k hk b un uc xs hun hx hul)
 have HCc := LH (fun w' => rccells_any (k : Int) w')
 clear hn hc hun hx
 generalize freeTo (fun y => xs.contains y) L k (n - 1) = fr at *
 generalize clsCells (k : Int) = C at *
 go_enter Tryz.func142, Tryz.ntmps142
 go_wp2_with fail
 refine HFr.out.mono ?_
 rintro e w1 ⟨v, rfl, ho, _, hb1⟩
 obtain ⟨a1, c1, rfl, _⟩ := ho.cells
 have HB1 := LH hb1
 obtain ⟨F, hF⟩ : ∃ F, F = fr.length := ⟨_, rfl⟩
 rw [← hF] at HD l1 ⊢
 clear ho hb1 hF HFr
 go_wp2_with fail
 go_loopw [7, 8] (fun nv bv wr => ∃ x bn : Nat, 1 ≤ bn ∧ (bn ≤ n ∨ bn = 1) ∧ x ≤ 51200 + 256 * bn ∧ nv = .int .i64 (x : Int) ∧ bv = .int .i64 (bn : Int) ∧ Hid (x = F + frTo L bn * C) ∧ Hid (Below w.heap.size w wr)) (fun _ bv _ => n + 1 - (intOf bv).toNat)
 case atStart => exact ⟨F, 1, by omega, by omega, by omega, rfl, rfl, LH (by show F = F + (0 + 0) * C; omega), HB1⟩
 case round =>
  obtain ⟨x, bn, hb1, hbn, hx9, rfl, rfl, HX, HB⟩ := hrel
  by_cases hlt : bn < n
  ·have hlt' : (bn : Int) < (n : Int) := by omega
   obtain ⟨ba, off, rfl, kd, hfk, d0⟩ := hd_kind (HC.out.below HB.out (Nat.le_refl _)) (j := bn) (by rw [HN.out]; exact hlt)
   have HFa : Hid (frTo L (bn + 1) = frTo L bn + if 1 ≤ bn ∧ (L.getD bn default).k = 0 then 1 else 0) := LH rfl
   have hkd : ((L.getD bn default).k == 0) = (kd == 0) := hfk
   by_cases h0 : kd = 0
   ·subst h0
    have HFb : Hid (frTo L (bn + 1) = frTo L bn + 1) := LH (by rw [HFa.out, if_pos ⟨hb1, by simpa using hkd⟩])
    clear hkd hfk HFa
    go_wp2_with fail
    refine (HCc.out _).mono ?_
    rintro e w2 ⟨rfl, hb2⟩
    have HB2 := LH (HB.out.trans (hb2.mono HB.out.size))
    clear hb2
    go_wp2_with fail
    refine ⟨⟨x + C, bn + 1, by omega, by omega, by omega, vint (by omega), vint (by omega), LH (by rw [HFb.out, HX.out, Nat.add_mul]; omega), HB2⟩, ?_⟩
    simp [intOf]; omega
   ·have h0' : (kd == 0) = false := by simpa using h0
    have HFb : Hid (frTo L (bn + 1) = frTo L bn) := LH (by
     rw [HFa.out, if_neg, Nat.add_zero]
     rintro ⟨_, h⟩
     rw [h0', h] at hkd
     simp at hkd)
    clear hkd hfk HFa h0
    go_wp2_with fail
    refine ⟨⟨x, bn + 1, by omega, by omega, by omega, rfl, vint (by omega), LH (by rw [HFb.out]; exact HX.out), HB⟩, ?_⟩
    simp [intOf]; omega
  ·have hlt' : decide ((bn : Int) < (n : Int)) = false := by simp; omega
   have HFin : Hid ((x : Int) = (pd : Int)) := LH (by
    have e : frTo L bn = frTo L n := by
     rcases hbn with h | h
     ·rw [show bn = n by omega]
     ·subst h
      have : n = 0 ∨ n = 1 := by omega
      rcases this with rfl | rfl <;> rfl
    rw [HX.out, HD.out, e])
   go_wp2_with fail
   exact HP.out _ _ HFin.out HB.out
set_option maxHeartbeats 4000000 in
set_option maxRecDepth 20000 in
theorem rlarge29_any {w : World} (a : Option Addr) (n cap : Nat) (L : List Hd) (hn : L.length = n) (hc : Cells w a (hdCs L)) (hl : n ≤ 200) (hS : sumOf (spansOf L) ≤ 200) (z : Int) :
  Calls Tryz.prog 74 #[.slice a n cap, .int .i64 z] w (Gives (.int .i64 (lrgI (spansOf L) z : Nat)) w) := by
 have HP : Hid (∀ x w', x = ((lrgI (spansOf L) z : Nat) : Int) → Below w.heap.size w w' → Gives (.int .i64 (lrgI (spansOf L) z : Nat)) w (.returned (.int .i64 x)) w') := LH (fun x w' h1 h2 => by subst h1; exact ⟨rfl, h2⟩)
 have HD : Hid (lrgI (spansOf L) z = if 1 ≤ z then divs (spansOf L) z.toNat else 0) := LH rfl
 generalize Gives (.int .i64 (lrgI (spansOf L) z : Nat)) w = Post at *
 generalize lrgI (spansOf L) z = pd at *
 have HSp := LH (rspans_any a n cap L hn w hc (by omega))
 have HSm := LH hS
 have hl9 : (spansOf L).length ≤ 200 := Nat.le_trans (spanL_len (freeAt L) L.length) (by omega)
 unfold SpansPost at HSp
 generalize spansOf L = R at *
 clear hn hc hS
 go_enter Tryz.func74, Tryz.ntmps74
 go_wp2_with fail
 refine HSp.out.mono ?_
 rintro e w1 ⟨v, rfl, ho, hb1⟩
 obtain ⟨a1, c1, rfl, _, _⟩ := owned_form ho
 have HC := LH (Cells.owned3 ho)
 have HB1 := LH hb1
 obtain ⟨l, hl⟩ : ∃ l, l = R.length := ⟨_, rfl⟩
 rw [← hl] at hl9 ⊢
 have HL := LH hl
 clear ho hb1 hl HSp
 by_cases hz : 1 ≤ z
 case neg =>
  have HE : Hid ((0 : Int) = (pd : Int)) := LH (by rw [HD.out, if_neg hz]; rfl)
  have hz' : decide (0 < z) = false := by simp; omega
  clear hz
  go_wp2_with fail
  go_loopw [5, 7] (fun nv jv wr => nv = .int .i64 0 ∧ jv = .int .i64 0 ∧ Hid (Below w.heap.size w wr)) (fun _ _ _ => 0)
  case atStart => exact ⟨rfl, rfl, HB1⟩
  case round =>
   obtain ⟨rfl, rfl, HB⟩ := hrel
   by_cases hl0 : 0 < l
   ·have hl0' : (0 : Int) < (l : Int) := by omega
    go_wp2_with fail
    exact HP.out _ _ HE.out HB.out
   ·have hl0' : decide ((0 : Int) < (l : Int)) = false := by simp; omega
    go_wp2_with fail
    exact HP.out _ _ HE.out HB.out
 obtain ⟨zn, rfl⟩ := Int.eq_ofNat_of_zero_le (show 0 ≤ z by omega)
 have hz1 : 1 ≤ zn := by omega
 have hz2 : (0 : Int) < (zn : Int) := by omega
 have hz0 : ((zn : Int) == 0) = false := by rw [beq_eq_false_iff_ne]; omega
 have HE : Hid (pd = divs R zn) := LH (by rw [HD.out, if_pos hz]; rfl)
 have HLe : Hid (∀ j, divs (R.take j) zn ≤ 200) := LH (fun j => by
  refine Nat.le_trans (divs_le _ hz1) (Nat.le_trans ?_ HSm.out)
  conv => rhs; rw [← List.take_append_drop j R]
  unfold sumOf
  rw [List.map_append, List.sum_append]
  omega)
 have HEl : Hid (∀ s k, (s, k) ∈ R → k ≤ 200) := LH (fun s k hm => Nat.le_trans (sum_memF hm) HSm.out)
 clear hz HD
 go_wp2_with fail
 go_loopw [5, 7] (fun nv jv wr => ∃ j x : Nat, j ≤ l ∧ x ≤ 200 ∧ jv = .int .i64 (j : Int) ∧ nv = .int .i64 (x : Int) ∧ Hid (x = divs (R.take j) zn) ∧ Hid (Below w1.heap.size w1 wr)) (fun _ jv _ => l - (intOf jv).toNat)
 case atStart => exact ⟨0, 0, Nat.zero_le _, Nat.zero_le _, rfl, rfl, LH rfl, LH (Below.refl _ _)⟩
 case round =>
  obtain ⟨j, x, hj, hx, rfl, rfl, HX, HB⟩ := hrel
  by_cases hlt : j < l
  ·have hlt' : (j : Int) < (l : Int) := by omega
   obtain ⟨⟨s, k⟩, hg⟩ : ∃ o, R[j]? = some o := ⟨_, List.getElem?_eq_getElem (by rw [← HL.out]; exact hlt)⟩
   have hgd : R.getD j (0, 0) = (s, k) := by rw [List.getD_eq_getElem?_getD, hg]; rfl
   have hk := HEl.out s k (List.mem_of_getElem? hg)
   have HNx : Hid (divs (R.take (j + 1)) zn = divs (R.take j) zn + k / zn) := LH (by
    have h1 := (List.getElem?_eq_some_iff.1 hg).1
    rw [List.take_succ_eq_append_getElem h1, (List.getElem?_eq_some_iff.1 hg).2, divs_snoc])
   have hkz : k / zn ≤ 200 := Nat.le_trans (Nat.div_le_self _ _) hk
   have hkzI : Hid ((k : Int) / (zn : Int) = ((k / zn : Nat) : Int)) := LH (by simp)
   have hq1 : (k : Int) / (zn : Int) ≤ 200 := by rw [hkzI.out]; omega
   have hq0 : (0 : Int) ≤ (k : Int) / (zn : Int) := by rw [hkzI.out]; exact Int.natCast_nonneg _
   have hxq : (x : Int) + (k : Int) / (zn : Int) ≤ 200 := by rw [hkzI.out]; have h1 := HLe.out (j + 1); rw [HNx.out, ← HX.out] at h1; omega
   have hxk : x + k / zn ≤ 200 := by have h1 := HLe.out (j + 1); rw [HNx.out, ← HX.out] at h1; exact h1
   obtain ⟨b, off, rfl, e0, e1⟩ := sp_cells (HC.out.below HB.out (Nat.le_refl _)) (by rw [← HL.out]; exact hlt) hgd
   clear hg hgd
   go_wp2_with fail
   refine ⟨⟨j + 1, x + k / zn, by omega, hxk, vint (by omega), vint (by rw [hkzI.out]; omega), LH (by rw [HNx.out, HX.out]), HB⟩, ?_⟩
   simp [intOf]; omega
  ·obtain rfl : j = l := by omega
   have hlt' : decide ((j : Int) < (j : Int)) = false := by simp
   have HFin : Hid ((x : Int) = (pd : Int)) := LH (by rw [HX.out, HE.out, HL.out, List.take_length])
   have HBx := LH (HB1.out.trans (HB.out.mono HB1.out.size))
   clear HB
   go_wp2_with fail
   exact HP.out _ _ HFin.out HBx.out
def refO (L : List Hd) (xs : List Nat) (p d : Int) : Nat := if objSize p d = 0 ∨ 512 * ((L.length : Int) - 1) < (objSize p d : Nat) then 0 else if small (objSize p d) then refS L xs (ofN (objSize p d : Nat)) else lrgI (spansOf L) (objBlocks (objSize p d) : Nat)
set_option maxHeartbeats 4000000 in
set_option maxRecDepth 20000 in
theorem robject29_any {w : World} (a : Option Addr) (n cap : Nat) (L : List Hd) (hn : L.length = n) (hc : Cells w a (hdCs L)) (h1 : 1 ≤ n) (hl : n ≤ 200) (hS : sumOf (spansOf L) ≤ 200) (b : Option Addr) (un uc : Nat) (xs : List Nat) (hun : xs.length = un) (hx : Cells w b (xs.map vi)) (hul : un ≤ 1000000) (p d : Int) :
  Calls Tryz.prog 71 #[.slice a n cap, .slice b un uc, vob p d] w (Gives (.int .i64 (refO L xs p d : Nat)) w) := by
 have HMem := LH (Mem.one w #[.int .i64 p, .int .i64 d] 38)
 have HP : Hid (∀ x w', x = ((refO L xs p d : Nat) : Int) → Below w.heap.size w w' → Gives (.int .i64 (refO L xs p d : Nat)) w (.returned (.int .i64 x)) w') := LH (fun x w' h1 h2 => by subst h1; exact ⟨rfl, h2⟩)
 have HD : Hid (refO L xs p d = if objSize p d = 0 ∨ 512 * ((n : Int) - 1) < (objSize p d : Nat) then 0 else if small (objSize p d) then refS L xs (ofN (objSize p d : Nat)) else lrgI (spansOf L) (objBlocks (objSize p d) : Nat)) := LH (by rw [← hn]; rfl)
 generalize Gives (.int .i64 (refO L xs p d : Nat)) w = Post at *
 generalize refO L xs p d = pd at *
 have HS := LH (fun w' (h : Below w.heap.size w w') (k : Nat) (hk : k < 32) => rsmall29_any a n cap L hn (hc.below h (Nat.le_refl _)) hl k hk b un uc xs hun (hx.below h (Nat.le_refl _)) hul)
 have HG := LH (fun w' (h : Below w.heap.size w w') (z : Int) => rlarge29_any a n cap L hn (hc.below h (Nat.le_refl _)) hl hS z)
 have HCl := LH (fun w => rclass_any p d w)
 have HBl := LH (fun w => roblocks_any p d w)
 have HSz := LH (fun w => rosize_any p d w)
 have HSd := LH (fun (hs : small (objSize p d)) => rofN_small _ hs)
 have HSe := LH (fun (hs : ¬ small (objSize p d)) => rofN_large _ hs)
 obtain ⟨s, hs⟩ : ∃ s, s = objSize p d := ⟨_, rfl⟩
 rw [← hs] at HD HSz HCl HBl HSd HSe
 have hsl : s ≤ 16448 := by rw [hs]; exact objSize_le _ _
 clear hs hn hc hS hun hx
 go_enter Tryz.func71, Tryz.ntmps71
 go_upto_region 1 with fail
 obtain ⟨q, hq⟩ : ∃ q, q = w.heap.size := ⟨_, rfl⟩
 rw [← hq] at HMem ⊢
 generalize w.alloc _ = w0 at *
 clear hq
 have d0 := HMem.out.cell 0 0 rfl rfl
 have d1 := HMem.out.cell 0 1 rfl rfl
 go_wp2_with fail
 refine (HSz.out _).mono ?_
 rintro e w1 ⟨rfl, hb1⟩
 have HM1 := LH (HMem.out.later hb1)
 clear hb1 d0 d1 HMem
 by_cases hs0 : s = 0
 ·subst hs0
  have HE : Hid ((0 : Int) = (pd : Int)) := LH (by rw [HD.out, if_pos (.inl rfl)]; rfl)
  go_wp2_with fail
  exact HP.out _ _ HE.out HM1.out.below
 have hs0' : ((s : Int) == 0) = false := by simpa using hs0
 have d0 := HM1.out.cell 0 0 rfl rfl
 have d1 := HM1.out.cell 0 1 rfl rfl
 go_wp2_with fail
 refine (HSz.out _).mono ?_
 rintro e w2 ⟨rfl, hb2⟩
 have HM2 := LH (HM1.out.later hb2)
 clear hb2 d0 d1 HM1
 by_cases hbig : 512 * ((n : Int) - 1) < (s : Nat)
 ·have HE : Hid ((0 : Int) = (pd : Int)) := LH (by rw [HD.out, if_pos (.inr hbig)]; rfl)
  go_wp2_with fail
  exact HP.out _ _ HE.out HM2.out.below
 have hbig' : (s : Int) ≤ 512 * ((n : Int) - 1) := by omega
 have HD2 : Hid (pd = if small s then refS L xs (ofN (s : Int)) else lrgI (spansOf L) (objBlocks s : Nat)) := LH (by rw [HD.out, if_neg (by omega)])
 clear HD hbig
 have d0 := HM2.out.cell 0 0 rfl rfl
 have d1 := HM2.out.cell 0 1 rfl rfl
 go_wp2_with fail
 refine (HCl.out _).mono ?_
 rintro e w3 ⟨rfl, hb3⟩
 have HM3 := LH (HM2.out.later hb3)
 clear hb3 d0 d1 HM2
 by_cases hsm : small s
 ·rw [HSd.out hsm]
  have HE : Hid (pd = refS L xs (ofN (s : Int))) := LH (by rw [HD2.out, if_pos hsm])
  have hk := ofN_lt hsm
  clear hsm HD2 HSd HSe HCl HBl
  generalize ofN (s : Int) = k at *
  have hk0 : (0 : Int) ≤ (k : Int) := by omega
  go_wp2_with fail
  refine (HS.out _ HM3.out.below k hk).mono ?_
  rintro e w4 ⟨rfl, hb4⟩
  have HFin := LH (HP.out _ w4 (congrArg Nat.cast HE.out.symm) (HM3.out.later hb4).below)
  clear hb4
  generalize refS L xs k = x at *
  go_wp2_with fail
  exact HFin.out
 ·rw [HSe.out hsm]
  have HE : Hid (pd = lrgI (spansOf L) (objBlocks s : Nat)) := LH (by rw [HD2.out, if_neg hsm])
  clear hsm HD2 HSd HSe HCl
  generalize objBlocks s = nb at *
  have d0 := HM3.out.cell 0 0 rfl rfl
  have d1 := HM3.out.cell 0 1 rfl rfl
  go_wp2_with fail
  refine (HBl.out _).mono ?_
  rintro e w4 ⟨rfl, hb4⟩
  have HM4 := LH (HM3.out.later hb4)
  clear hb4 d0 d1 HM3
  go_wp2_with fail
  refine (HG.out _ HM4.out.below (nb : Int)).mono ?_
  rintro e w5 ⟨rfl, hb5⟩
  have HFin := LH (HP.out _ w5 (congrArg Nat.cast HE.out.symm) (HM4.out.later hb5).below)
  clear hb5
  generalize lrgI (spansOf L) (nb : Int) = x at *
  go_wp2_with fail
  exact HFin.out
end Go.Proofs.YtbimcogdbafjpaaGreat
