/- Parts of the proof, one behind the other: Bk, Mix, Mx, Ch, Mem, Mr, Zf, Ea, Za, Zb, Ze, Lc. -/
import Derived.Test.YtpopbfagliagnaaGreatCF2
import Derived.Deep.Cut
import Derived.Laws.OwnMore
import Derived.DeepKeys4
import Derived.Laws.BitsAllLaws
import Derived.Outline
import Derived.Shelf.Slices.Turned
import Derived.Test.YtpopbfagliagnaaGreatProg
set_option linter.unusedVariables false
namespace Go.Proofs.YtpopbfagliagnaaGreat
open Go.RowKit
structure Hd where
 k : Int
 c : Int
 l : Int
deriving DecidableEq
instance : Inhabited Hd := ⟨⟨0, 0, 0⟩⟩
def Hd.cs (h : Hd) : List Value := [.int .i64 h.k, .int .i64 h.c, .int .i64 h.l]
def hdCs (l : List Hd) : List Value := l.flatMap Hd.cs
theorem hdCs_length (l : List Hd) : (hdCs l).length = 3 * l.length := by
 induction l with
 | nil => rfl
 | cons h l ih => simp only [hdCs, List.flatMap_cons, List.length_append, List.length_cons] at *; rw [ih]; simp [Hd.cs]; omega
theorem hdCs_append (l m : List Hd) : hdCs (l ++ m) = hdCs l ++ hdCs m := by simp [hdCs]
theorem hdCs_at (l : List Hd) (i : Nat) (hi : i < l.length) : ∀ j v, (l.getD i default).cs[j]? = some v → (hdCs l)[i * 3 + j]? = some v := by
 intro j v hj
 have e : l = l.take i ++ (l[i] :: l.drop (i + 1)) := by simp
 have hl : (hdCs (l.take i)).length = i * 3 := by rw [hdCs_length, List.length_take, Nat.min_eq_left (by omega)]; omega
 have hg : l.getD i default = l[i] := by simp [hi]
 rw [hg] at hj
 have hj3 : j < (l[i]).cs.length := (List.getElem?_eq_some_iff.1 hj).1
 rw [e, hdCs_append, List.getElem?_append_right (by omega), hl, show i * 3 + j - i * 3 = j by omega]
 simp only [hdCs, List.flatMap_cons]
 rw [List.getElem?_append_left hj3]
 exact hj
theorem hdCs_one (l : List Hd) : ∀ u ∈ hdCs l, u.oneCell' = true := by
 intro u hu
 simp only [hdCs, List.mem_flatMap, Hd.cs, List.mem_cons, List.not_mem_nil, or_false] at hu
 obtain ⟨h, _, rfl | rfl | rfl⟩ := hu <;> rfl
def hdF (f : Nat → Nat) (b : Nat) : Hd := if b = 0 then ⟨0, 0, 0⟩ else ⟨(decN b (f b)).k, (decN b (f b)).c, (decN b (f b)).l⟩
def hds (f : Nat → Nat) (k : Nat) : List Hd := (List.range k).map (hdF f)
theorem hds_length (f : Nat → Nat) (k : Nat) : (hds f k).length = k := by simp [hds]
theorem hds_succ (f : Nat → Nat) (k : Nat) : hds f (k + 1) = hds f k ++ [hdF f k] := by simp [hds, List.range_succ]
def AllOk (f : Nat → Nat) (k : Nat) : Prop := ∀ b, 1 ≤ b → b < k → (decN b (f b)).code = 0
def ReadPost (t : Nat) (f : Nat → Nat) (B : Nat) (w : World) : Ending → World → Prop := fun en w' => Below w.heap.size w w' ∧
  ((AllOk f B ∧ ∃ g c, en = .returned (.tuple #[.slice (some ⟨g, 0, none⟩) B c, .int .i64 0, .int .i64 0]) ∧ w.heap.size ≤ g ∧ B ≤ c ∧ RowAt w' g t (hdCs (hds f B))) ∨
   (∃ b : Nat, 1 ≤ b ∧ b < B ∧ AllOk f b ∧ (decN b (f b)).code ≠ 0 ∧ en = .returned (.tuple #[.slice none 0 0, .int .i64 b, .int .i64 21])))
theorem AllOk.succ {f : Nat → Nat} {k : Nat} (h : AllOk f k) (hk : (decN k (f k)).code = 0) : AllOk f (k + 1) := by
 intro b h1 h2
 by_cases e : b = k
 ·subst e; exact hk
 ·exact h b h1 (by omega)
theorem elHd : Elem Tryz.prog 22 103 (.agg #[.int .i64 0, .int .i64 0, .int .i64 0]) 3 24 := Elem.mk' Tryz.underlying22 (by kernel_rfl) rfl (by decide)
theorem row_step (f : Nat → Nat) (B k : Nat) (hk : k < B) (h : Hd) (he : h = hdF f k) : splice (hdCs (hds f k) ++ List.replicate (3 * (B - k)) (.int .i64 0)) (k * 3) h.cs = hdCs (hds f (k + 1)) ++ List.replicate (3 * (B - (k + 1))) (.int .i64 0) := by
 subst he
 have hl : (hdCs (hds f k)).length = k * 3 := by rw [hdCs_length, hds_length]; omega
 rw [hds_succ, hdCs_append]
 unfold splice
 rw [List.take_left' hl, ← hl, List.drop_length_add_append]
 have : List.drop (hdF f k).cs.length (List.replicate (3 * (B - k)) (Value.int .i64 0)) = List.replicate (3 * (B - (k + 1))) (.int .i64 0) := by
  simp [Hd.cs]; omega
 rw [this]
 simp [hdCs]
theorem peek_lt {l : List Nat} (h : ∀ z ∈ l, z < 18446744073709551616) (i : Int) : peek l i < 18446744073709551616 := by
 unfold peek
 split
 ·by_cases hi : i.toNat < l.length
  ·simp only [List.getD_eq_getElem?_getD, List.getElem?_eq_getElem hi, Option.getD_some]
   exact h _ (List.getElem_mem hi)
  ·simp only [List.getD_eq_getElem?_getD, List.getElem?_eq_none (by omega : l.length ≤ i.toNat), Option.getD_none]
   decide
 ·decide
theorem cell_of_touch {L : List Nat} {w w' : World} (h : Touch L w w') {p : Addr} {v : Value} (hp : p.block ∉ L) (hc : w.cell? p = some v) : w'.cell? p = some v := by
 rw [World.cell?_of_block (w := w) (h.block p.block (World.block_lt_of_cell? _ _ hc) hp)]; exact hc
theorem below_touch {B : Nat} {L : List Nat} {w w1 w2 : World} (h : Below B w w1) (ht : Touch L w1 w2) (hL : ∀ k ∈ L, B ≤ k) (hB : B ≤ w.heap.size) : Below B w w2 :=
 h.trans (ht.below (Nat.le_trans hB h.size) hL)
def devWord (S : Dev) (b : Nat) : Nat := peek S.cache (256 + (b : Int))
set_option maxHeartbeats 2000000 in
set_option maxRecDepth 100000 in
theorem read_any {w : World} {F : Foot} {S : Dev} (h : DevAt w F S) (B : Nat) (hB1 : 1 ≤ B) (hB : B ≤ 1000) :
  Calls Tryz.prog 95 #[vdev F, vgeom B] w (ReadPost 103 (devWord S) B w) := by
 have HD := LH h
 have HP : Hid (ReadPost 103 (devWord S) B w = ReadPost 103 (devWord S) B w) := LH rfl
 generalize hP : ReadPost 103 (devWord S) B w = Post at HP ⊢
 have HPE := LH hP
 clear h hP HP
 go_enter Tryz.func95, Tryz.ntmps95
 have hbx : Below w.heap.size w (w.alloc (.cells #[.int .i64 (B : Int)] 44)) := below_alloc _ _
 have hcx : (w.alloc (.cells #[.int .i64 (B : Int)] 44)).cell? ⟨w.heap.size, 0, none⟩ = some (.int .i64 (B : Int)) := cell_alloc_new _ _ _ 0 _ rfl
 have hsx : (w.alloc (.cells #[.int .i64 (B : Int)] 44)).heap.size = w.heap.size + 1 := by simp
 have HSX := LH hsx
 clear hsx
 go_wp2_with (first
  | (at_make; refine wpList_make_rows elHd (w.heap.size + 1) B (z := .int .i64 0) (by intro i hi; simp at hi; rcases i with _ | _ | _ | i <;> first | rfl | omega) (by omega) (by omega) (by omega) (by decide) (by simp) rfl rfl rfl rfl ?_; intro w1 hown hgrow))
 try rw [HSX.out] at hown
 try rw [HSX.out]
 have hb1 : Below w.heap.size w w1 := hbx.trans (below_grown hgrow (by rw [HSX.out]; omega))
 have hc1 : w1.cell? ⟨w.heap.size, 0, none⟩ = some (.int .i64 (B : Int)) := by
  rw [(below_grown hgrow (Nat.le_refl _)).cell (p := ⟨w.heap.size, 0, none⟩) (by rw [HSX.out]; simp)]; exact hcx
 have hr1 : RowAt w1 (w.heap.size + 1) 103 (List.replicate (B * 3) (.int .i64 0)) := owned_row hown
 have HR1 := LH hr1
 have HB1 := LH hb1
 clear hbx hcx hown hgrow hr1 hb1 HSX
 obtain ⟨gx, hgx⟩ : ∃ gx, gx = w.heap.size := ⟨_, rfl⟩
 obtain ⟨g, hg⟩ : ∃ g, g = w.heap.size + 1 := ⟨_, rfl⟩
 have HG : Hid (gx = w.heap.size ∧ g = w.heap.size + 1) := LH ⟨hgx, hg⟩
 rw [← hg] at HR1 ⊢
 rw [← hgx] at hc1 ⊢
 have hgne : gx ≠ g := by omega
 clear hgx hg
 go_loopw [8] (fun i wr => ∃ k : Nat, 1 ≤ k ∧ k ≤ B ∧ i = .int .i64 k ∧ AllOk (devWord S) k ∧ RowAt wr g 103 (hdCs (hds (devWord S) k) ++ List.replicate (3 * (B - k)) (.int .i64 0)) ∧ wr.cell? ⟨gx, 0, none⟩ = some (.int .i64 (B : Int)) ∧ Below w.heap.size w wr) (fun i _ => B - (intOf i).toNat)
 case atStart => exact ⟨1, Nat.le_refl _, hB1, rfl, (fun b h1 h2 => by omega), by
   have e : hdCs (hds (devWord S) 1) ++ List.replicate (3 * (B - 1)) (Value.int .i64 0) = List.replicate (B * 3) (Value.int .i64 0) := by
    have : hdCs (hds (devWord S) 1) = List.replicate 3 (Value.int .i64 0) := rfl
    rw [this, List.replicate_append_replicate]
    congr 1
    omega
   rw [e]; exact HR1.out, hc1, HB1.out⟩
 case round =>
  clear hc1 HR1 HB1
  obtain ⟨k, hk1, hk2, rfl, hok, hr, hcx, hb⟩ := hrel
  have HOK := LH hok
  have HR := LH hr
  have HB := LH hb
  have HDr := LH (HD.out.below hb)
  clear hok hr hb
  by_cases hlt : k < B
  ·have hlt' : (k : Int) < (B : Int) := by omega
   go_wp2_with fail
   refine (gheader_any _ _ _ (by omega)).mono ?_
   rintro e w2 ⟨rfl, hb2⟩
   have HH : Hid (hdAt (B : Int) (k : Int) = 256 + (k : Int)) := LH (by unfold hdAt; rw [if_neg (by omega)])
   rw [HH.out]
   have HD2 := LH (HDr.out.below hb2)
   have HB2 := LH hb2
   clear hb2
   go_wp2_with fail
   refine (dget_any HD2.out _).mono ?_
   rintro e w3 ⟨rfl, rfl⟩
   have hx : devWord S k < 18446744073709551616 := peek_lt HD2.out.u64C _
   have HX : Hid (peek S.cache (256 + (k : Int)) = devWord S k) := LH rfl
   rw [HX.out]
   go_wp2_with fail
   refine (bdecode_any (k : Int) (devWord S k) (by omega) (by omega) hx _).mono ?_
   rintro e w4 ⟨rfl, hb4⟩
   have HF : Hid (⟨(decN k (devWord S k)).k, (decN k (devWord S k)).c, (decN k (devWord S k)).l⟩ = hdF (devWord S) k) := LH (by unfold hdF; rw [if_neg (by omega)])
   have HC : Hid ((decN k (devWord S k)).code = 0 ∨ (decN k (devWord S k)).code ≠ 0) := LH (by omega)
   have HOK2 : Hid ((decN k (devWord S k)).code = 0 → AllOk (devWord S) (k + 1)) := LH (fun h => HOK.out.succ h)
   have HBad : Hid ((decN k (devWord S k)).code ≠ 0 → ∀ w', Below w.heap.size w w' → Post (.returned (.tuple #[.slice none 0 0, .int .i64 k, .int .i64 21])) w') := LH (fun h w' hw' => by
    rw [← HPE.out]; exact ⟨hw', .inr ⟨k, hk1, hlt, HOK.out, h, rfl⟩⟩)
   unfold Dec.val
   generalize decN k (devWord S k) = dd at *
   obtain ⟨dk, dc, dl, dcode⟩ := dd
   dsimp only at *
   have hb24 : Below wr.heap.size wr w4 := HB2.out.trans (hb4.mono HB2.out.size)
   have HB4 := LH hb24
   clear hb4 hb24 HB2 HD2
   rcases HC.out with hz | hz
   ·subst hz
    have hok2 := HOK2.out rfl
    have HOK3 := LH hok2
    have hr4 : RowAt w4 g 103 _ := HR.out.keep (HB4.out.block g HR.out.lt)
    have hcx4 : w4.cell? ⟨gx, 0, none⟩ = some (.int .i64 (B : Int)) := below_cells HB4.out hcx (Nat.le_refl _)
    have hgl : g < w4.heap.size := hr4.lt
    have hgxl : gx < w4.heap.size := World.block_lt_of_cell? _ _ hcx4
    have HR4 := LH hr4
    have HCX4 := LH hcx4
    clear hok2 hr4 hcx hcx4
    have hb5 := below_alloc w4 (Obj.cells #[Value.int .i64 dk, Value.int .i64 dc, Value.int .i64 dl] 103)
    have HR5 : Hid (RowAt (w4.alloc (Obj.cells #[Value.int .i64 dk, Value.int .i64 dc, Value.int .i64 dl] 103)) g 103 (hdCs (hds (devWord S) k) ++ List.replicate (3 * (B - k)) (.int .i64 0))) := LH (HR4.out.keep (hb5.block g hgl))
    have HCX5 : Hid ((w4.alloc (Obj.cells #[Value.int .i64 dk, Value.int .i64 dc, Value.int .i64 dl] 103)).cell? ⟨gx, 0, none⟩ = some (.int .i64 (B : Int))) := LH (below_cells hb5 HCX4.out (Nat.le_refl _))
    have HB5 : Hid (Below w.heap.size w (w4.alloc (Obj.cells #[Value.int .i64 dk, Value.int .i64 dc, Value.int .i64 dl] 103))) := LH (HB.out.trans ((HB4.out.trans (hb5.mono HB4.out.size)).mono HB.out.size))
    have hlen : Hid (k * 3 + 3 ≤ (hdCs (hds (devWord S) k) ++ List.replicate (3 * (B - k)) (Value.int .i64 0)).length) := LH (by rw [List.length_append, hdCs_length, hds_length, List.length_replicate]; omega)
    have hone : Hid (∀ u ∈ (#[Value.int .i64 dk, Value.int .i64 dc, Value.int .i64 dl] : Array Value).toList, u.oneCell' = true) := LH (by intro u hu; simp at hu; rcases hu with rfl | rfl | rfl <;> rfl)
    clear hb5 HR4 HCX4 HB4
    go_wp2_with (refine wpList_store_part (off := k * 3) (cs := #[.int .i64 dk, .int .i64 dc, .int .i64 dl]) aggHd HR5.out rfl hlen.out hone.out rfl rfl rfl rfl ?_; intro w6 hr6 ht6; have HR6 := LH hr6; have HT6 := LH ht6; clear hr6 ht6)
    refine ⟨⟨k + 1, by omega, by omega, vint (by omega), HOK3.out, ?_, ?_, ?_⟩, by simp [intOf]; omega⟩
    ·have := HR6.out
     rw [show #[Value.int .i64 dk, Value.int .i64 dc, Value.int .i64 dl].toList = (⟨dk, dc, dl⟩ : Hd).cs from rfl, row_step _ _ _ hlt _ HF.out] at this
     exact this
    ·exact cell_of_touch HT6.out (by simp; exact hgne) HCX5.out
    ·exact below_touch HB5.out HT6.out (by have := HG.out; simp; omega) (Nat.le_refl _)
   ·have hz1 : (dcode != 0) = true := by simpa using hz
    have HZ := LH (HBad.out hz)
    have HBE : Hid (Below w.heap.size w w4) := LH (HB.out.trans (HB4.out.mono HB.out.size))
    clear hz HBad HC HOK2
    go_wp2_with fail
    go_ret3
    exact HZ.out _ (HBE.out.alloc (HBE.out.size) _)
  ·obtain rfl : k = B := by omega
   have hlt' : decide ((k : Int) < (k : Int)) = false := by simp
   go_wp2_with fail
   go_ret3
   rw [← HPE.out]
   refine ⟨HB.out, .inl ⟨HOK.out, g, k, rfl, by have := HG.out; omega, Nat.le_refl _, ?_⟩⟩
   have := HR.out
   simpa using this
section
variable {P : Program} {ops : Array Oper} {md : Region.Mode} {C : World → Prop} {Q : Exit → Act → World → Prop}
theorem wpAnyF_early {loose : Nat → Bool} {i f : Nat} {oi : Oper} {v : Value} (hi : ops[i]? = some oi) (hsel : ∀ (j : Nat) (o : Oper) cs b, ops[j]? = some o → o.op ≠ .select cs b)
  (hQ : ∀ c a d v w, Q (.panic c) (a.put d v) w → Q (.panic c) a w) :
  ∀ (fuel : Nat) (listed : Array Bool) (a : Act) (w : World),
   (∀ j oj, ops[j]? = some oj → j ≠ i → listed.getD j true = false → waitsFor md ops f j i = true ∨ loose j = true) →
   (∀ j oj, ops[j]? = some oj → j ≠ i → listed.getD j true = false → (∀ e ∈ oj.after, Region.binds md e = true → e.on ≠ i) → oi.apart ops oj = true) →
   i ∈ Region.ready md ops listed → Shut md ops listed → Stays P ops C oi v a → C w →
   wpAnyF P md ops Q C loose fuel (listed.setIfInBounds i true) (a.put oi.dst v) w → wpAnyF P md ops Q C loose (fuel + 1) listed a w := by
 intro fuel
 induction fuel with
 | zero =>
  intro listed a w _ _ hr _ hy hC H
  refine ⟨fun h => (by rw [h] at hr; cases hr), fun j hj => ?_⟩
  by_cases hji : j = i
  ·subst hji; exact hy.wpOp hi hC ⟨fun _ => hC, H⟩
  ·have := ready_mono hj hji
   rw [H.1] at this
   cases this
 | succ fuel ih =>
  intro listed a w hl hfree hr hsh hy hC H
  refine ⟨fun h => (by rw [h] at hr; cases hr), fun j hj => ?_⟩
  by_cases hji : j = i
  ·subst hji; exact hy.wpOp hi hC ⟨fun _ => hC, H⟩
  ·have h1 := H.2 j (ready_mono hj hji)
   obtain ⟨hjun, oj, hoj, hall⟩ := mem_ready.1 hj
   have hiun : listed.getD i false = false := by
    have h0 := (mem_ready.1 hr).1
    rcases Nat.lt_or_ge i listed.size with h' | h'
    ·simp [h'] at h0 ⊢; exact h0
    ·simp [Array.getElem?_eq_none h']
   have hnot : ∀ e ∈ oj.after, Region.binds md e = true → e.on ≠ i := fun e he hb heq => by
    have h1 := hall e he hb
    rw [heq, hiun] at h1
    cases h1
   have hlo : loose j = true := by
    rcases hl j oj hoj hji hjun with h | h
    ·have := waitsFor_listed hsh f j i oj hoj hall h
     rw [hiun] at this
     cases this
    ·exact h
   have h2 := wpOp_putF (C := C) hoj (hfree j oj hoj hji hjun hnot) (fun cs b => hsel i oi cs b hi) (fun cs b => hsel j oj cs b hoj) hQ hy h1
   have hun' : ∀ k, (listed.setIfInBounds j true).getD k true = false → listed.getD k true = false := fun k hun => by
    by_cases hjk : j = k
    ·subst hjk; exact hjun
    ·rw [getD_set_ne true hjk] at hun; exact hun
   refine wpOp_mono (fun a' w' h3 => ⟨h3.2.1, ih (listed.setIfInBounds j true) a' w' (fun k ok hk hki hun => hl k ok hk hki (hun' k hun)) (fun k ok hk hki hun hno => hfree k ok hk hki (hun' k hun) hno) (ready_mono hr (Ne.symm hji)) (hsh.set hj) h3.1 (h3.2.1 hlo) ?_⟩) h2
   rw [Array.setIfInBounds_comm _ _ hji]
   exact h3.2.2
def looseOf (md : Region.Mode) (ops : Array Oper) (j : Nat) : Bool :=
 (List.range ops.size).any fun i => i != j && (match ops[i]? with | some o => calm o.op | none => false) && !waitsFor md ops ops.size j i && !waitsFor md ops ops.size i j
end
theorem later_step {w v v' : World} (h : ∃ x : Later w, v = x.val) (hb : Below v.heap.size v v') : ∃ x : Later w, v' = x.val := by
 obtain ⟨x, rfl⟩ := h
 exact ⟨⟨v', x.below.trans (hb.mono x.below.size)⟩, rfl⟩
theorem later_below {w v : World} (h : ∃ x : Later w, v = x.val) : Below w.heap.size w v := by
 obtain ⟨x, rfl⟩ := h
 exact x.below
theorem later_drew (w : World) : ∃ x : Later w, w.drew = x.val := ⟨⟨w.drew, (Below.refl _ _).drew⟩, rfl⟩
structure Near (L : List Nat) (w : World) where
 val : World
 size : w.heap.size ≤ val.heap.size
 block : ∀ k, k < w.heap.size → k ∉ L → val.heap[k]? = w.heap[k]?
instance (L : List Nat) (w : World) : Nonempty (Near L w) := ⟨⟨w, Nat.le_refl _, fun _ _ _ => rfl⟩⟩
theorem near_cell {L : List Nat} {w : World} {p : Addr} {v : Value} (h : w.cell? p = some v) (hL : p.block ∉ L) (x : Near L w) : x.val.cell? p = some v := by
 have := x.block p.block (World.block_lt_of_cell? _ _ h) hL
 unfold World.cell? at *
 rw [this]; exact h
inductive Seg where
 | fl (ks : List Nat)
 | sq (ks : List Nat) (lo : Bool)
inductive SegO where
 | fl (os : List Oper)
 | sq (os : List Oper) (lo : Bool)
section
variable {P : Program} {ops : Array Oper} {md : Region.Mode} {C : World → Prop} {Q : Exit → Act → World → Prop}
def picks (l : List Oper) : List Nat → List Oper
 | [] => []
 | k :: ks => match l[k]? with
  | some o => o :: picks l ks
  | none => picks l ks
def segs (l : List Oper) : List Seg → List SegO
 | [] => []
 | .fl ks :: r => .fl (picks l ks) :: segs l r
 | .sq ks lo :: r => .sq (picks l ks) lo :: segs l r
def flFrom (md : Region.Mode) (ops : Array Oper) : List Nat → Array Bool → Bool × Array Bool
 | [], listed => (true, listed)
 | k :: ks, listed => match ops[k]? with
  | none => (false, listed)
  | some o => let r := flFrom md ops ks (listed.setIfInBounds k true)
   (calm o.op && (Region.ready md ops listed).contains k && Region.free md ops listed k && ((List.range ops.size).all fun j => j == k || listed.getD j true || waitsFor md ops ops.size j k || looseOf md ops j) && r.1, r.2)
def sqFrom (md : Region.Mode) (ops : Array Oper) (lo : Bool) : List Nat → Array Bool → Bool × Array Bool
 | [], listed => (true, listed)
 | k :: ks, listed => match ops[k]? with
  | none => (false, listed)
  | some _ => let r := sqFrom md ops lo ks (listed.setIfInBounds k true)
   (Region.ready md ops listed == [k] && (!looseOf md ops k || (lo && ks.isEmpty)) && r.1, r.2)
def segFrom (md : Region.Mode) (ops : Array Oper) : List Seg → Array Bool → Bool
 | [], listed => (Region.ready md ops listed).isEmpty
 | .fl ks :: r, listed => let x := flFrom md ops ks listed; x.1 && segFrom md ops r x.2
 | .sq ks lo :: r, listed => let x := sqFrom md ops lo ks listed; x.1 && segFrom md ops r x.2
def segLen : List Seg → Nat
 | [] => 0
 | .fl ks :: r => segLen r + ks.length
 | .sq ks _ :: r => segLen r + ks.length
def segB (md : Region.Mode) (ops : Array Oper) (is : List Seg) : Bool := Region.noSelect ops && segLen is == ops.size && segFrom md ops is (Array.replicate ops.size false)
def wpSeg (P : Program) (ops : Array Oper) (C : World → Prop) (Q : Exit → Act → World → Prop) : List SegO → Act → World → Prop
 | [], a, w => Q .normal a w
 | .fl os :: r, a, w => C w ∧ wpQuiet P ops C (fun a' => wpSeg P ops C Q r a' w) os a
 | .sq os lo :: r, a, w => wpList P ops (Exit.then (fun a' w' => (lo = true → C w') ∧ wpSeg P ops C Q r a' w') Q) os a w
theorem fl_ok (hs : Region.noSelect ops = true) (hQ : ∀ c a d v w, Q (.panic c) (a.put d v) w → Q (.panic c) a w) {m : Nat} {R : Act → Prop} {w : World} (hC : C w) : ∀ (ks : List Nat) (listed : Array Bool) (a : Act), Shut md ops listed → (flFrom md ops ks listed).1 = true →
  (∀ a', Shut md ops (flFrom md ops ks listed).2 → R a' → wpAnyF P md ops Q C (looseOf md ops) m (flFrom md ops ks listed).2 a' w) →
  wpQuiet P ops C R (picks ops.toList ks) a → wpAnyF P md ops Q C (looseOf md ops) (m + ks.length) listed a w := by
 intro ks
 induction ks with
 | nil =>
  intro listed a hsh _ hR h
  exact hR a hsh (by simpa [picks, wpQuiet] using h)
 | cons k ks ih =>
  intro listed a hsh hB hR h
  cases hk : ops[k]? with
  | none => simp [flFrom, hk] at hB
  | some o =>
   have e : picks ops.toList (k :: ks) = o :: picks ops.toList ks := by simp [picks, hk]
   rw [e] at h
   simp only [flFrom, hk, Bool.and_eq_true] at hB hR
   obtain ⟨⟨⟨⟨hc, hr⟩, hf⟩, hlo⟩, hB'⟩ := hB
   have hrk : k ∈ Region.ready md ops listed := by simpa using hr
   obtain ⟨v, hy, hK⟩ : ∃ v, Stays P ops C o v a ∧ wpQuiet P ops C R (picks ops.toList ks) (a.put o.dst v) := by
    unfold wpQuiet at h
    by_cases hw : Region.wanted o (yielded ops a.tmps) = true
    ·rw [if_pos hw] at h
     obtain ⟨v, h1, h2⟩ := h
     refine ⟨v, .inl ⟨hw, fun x hx => ?_⟩, h2⟩
     have h3 := h1 x hx
     unfold Oper.quietAt at h3
     cases hq : (execOp a.eval o).run P x with
     | ok nx w2 =>
      obtain ⟨u, rfl⟩ := calm_value hc hq
      rw [hq] at h3
      simp only [Oper.quietUpon] at h3
      rw [h3.1, h3.2]
     | halt x' w2 => rw [hq] at h3; simp only [Oper.quietUpon] at h3
    ·rw [if_neg hw] at h
     exact ⟨undef, .inr ⟨by simpa using hw, rfl⟩, h⟩
   refine wpAnyF_early (f := ops.size) hk (Region.noSelect_spec hs) hQ (m + ks.length) listed a w ?_ (Region.free_spec hk hf) hrk hsh hy hC (ih _ _ (hsh.set hrk) hB' hR hK)
   intro j oj hj hjk hun
   simp only [List.all_eq_true, List.mem_range, Bool.or_eq_true, beq_iff_eq] at hlo
   rcases hlo j (Array.getElem?_eq_some_iff.1 hj).1 with ((h | h) | h) | h
   ·exact absurd h hjk
   ·rw [hun] at h; cases h
   ·exact .inl h
   ·exact .inr h
theorem sq_ok {m : Nat} {lo : Bool} {R : Act → World → Prop} : ∀ (ks : List Nat) (listed : Array Bool) (a : Act) (w : World), Shut md ops listed → (sqFrom md ops lo ks listed).1 = true →
  (∀ a' w', Shut md ops (sqFrom md ops lo ks listed).2 → (lo = true → C w') → R a' w' → wpAnyF P md ops Q C (looseOf md ops) m (sqFrom md ops lo ks listed).2 a' w') →
  wpList P ops (Exit.then (fun a' w' => (lo = true → C w') ∧ R a' w') Q) (picks ops.toList ks) a w → wpAnyF P md ops Q C (looseOf md ops) (m + ks.length) listed a w := by
 intro ks
 induction ks with
 | nil =>
  intro listed a w hsh _ hR h
  have h : (lo = true → C w) ∧ R a w := by simpa [picks, wpList, Exit.then] using h
  exact hR a w hsh h.1 h.2
 | cons k ks ih =>
  intro listed a w hsh hB hR h
  cases hk : ops[k]? with
  | none => simp [sqFrom, hk] at hB
  | some o =>
   have e : picks ops.toList (k :: ks) = o :: picks ops.toList ks := by simp [picks, hk]
   rw [e] at h
   simp only [sqFrom, hk, Bool.and_eq_true, beq_iff_eq] at hB hR
   obtain ⟨⟨hr, hlo⟩, hB'⟩ := hB
   have hrk : k ∈ Region.ready md ops listed := by rw [hr]; simp
   refine ⟨fun h' => (by rw [hr] at h'; cases h'), fun i hi => ?_⟩
   rw [hr] at hi
   obtain rfl : i = k := by simpa using hi
   unfold wpOp
   simp only [hk]
   unfold wpList at h
   have hmono : ∀ a' w', wpList P ops (Exit.then (fun a' w' => (lo = true → C w') ∧ R a' w') Q) (picks ops.toList ks) a' w' →
     (looseOf md ops i = true → C w') ∧ wpAnyF P md ops Q C (looseOf md ops) (m + ks.length) (listed.setIfInBounds i true) a' w' := by
    intro a' w' h'
    refine ⟨fun hl => ?_, ih _ _ _ (hsh.set hrk) hB' hR h'⟩
    simp only [hl, Bool.not_true, Bool.false_or, Bool.and_eq_true, List.isEmpty_iff] at hlo
    obtain ⟨hlo1, rfl⟩ := hlo
    have h' : (lo = true → C w') ∧ R a' w' := by simpa [picks, wpList, Exit.then] using h'
    exact h'.1 hlo1
   by_cases hw : Region.wanted o (yielded ops a.tmps) = true
   ·rw [if_pos hw] at h ⊢
    rcases h with h | h
    ·refine .inl ?_
     have h := Oper.wp_mono hmono h
     unfold Oper.wp at *
     generalize (execOp a.eval o).run P w = r at *
     cases r with
     | ok n w' => cases n <;> simp only [Oper.upon] at h ⊢ <;> exact h
     | halt x w' => cases x <;> simp only [Oper.upon] at h ⊢ <;> exact h
    ·exact .inr h
   ·rw [if_neg hw] at h ⊢
    exact hmono _ _ h
theorem seg_ok (hs : Region.noSelect ops = true) (hQ : ∀ c a d v w, Q (.panic c) (a.put d v) w → Q (.panic c) a w) : ∀ (is : List Seg) (listed : Array Bool) (a : Act) (w : World), Shut md ops listed →
  segFrom md ops is listed = true → wpSeg P ops C Q (segs ops.toList is) a w → wpAnyF P md ops Q C (looseOf md ops) (segLen is) listed a w := by
 intro is
 induction is with
 | nil =>
  intro listed a w _ hB h
  exact ⟨by simpa [segFrom] using hB, by simpa [wpSeg, segs] using h⟩
 | cons s is ih =>
  intro listed a w hsh hB h
  cases s with
  | fl ks =>
   simp only [segFrom, Bool.and_eq_true] at hB
   simp only [segs, wpSeg] at h
   exact fl_ok hs hQ h.1 ks listed a hsh hB.1 (fun a' hsh' hR => ih _ a' w hsh' hB.2 hR) h.2
  | sq ks lo =>
   simp only [segFrom, Bool.and_eq_true] at hB
   simp only [segs, wpSeg] at h
   exact sq_ok ks listed a w hsh hB.1 (fun a' w' hsh' _ hR => ih _ a' w' hsh' hB.2 hR) h
theorem wp_region_seg {id : Nat} {a : Act} {w : World} {l : List Oper} (is : List Seg) (hm : P.follows .mixedOrders = true) (hB : segB .any l.toArray is = true)
  (hQ : ∀ c a d v w, Q (.panic c) (a.put d v) w → Q (.panic c) a w)
  (h : wpSeg P l.toArray C Q (segs l is) a w.drew) : (Code.region id l.toArray true).wp P Q a w := by
 simp only [segB, Bool.and_eq_true, beq_iff_eq] at hB
 refine wp_region_any hm (wpAny_of_F (C := C) (loose := looseOf .any l.toArray) _ _ _ _ ?_)
 have := seg_ok (md := .any) (C := C) hB.1.1 hQ is (Array.replicate l.toArray.size false) a w.drew (shut_none _) hB.2 h
 rw [hB.1.2] at this
 exact this
theorem wpSeg_fl {os : List Oper} {r : List SegO} {a : Act} {w : World} (hC : C w) (h : wpQuiet P ops C (fun a' => wpSeg P ops C Q r a' w) os a) : wpSeg P ops C Q (.fl os :: r) a w := ⟨hC, h⟩
theorem wpSeg_sq {os : List Oper} {lo : Bool} {r : List SegO} {a : Act} {w : World}
  (h : ∀ K : Act → World → Prop, (∀ a' w', (lo = true → C w') → wpSeg P ops C Q r a' w' → K a' w') → wpList P ops (Exit.then K Q) os a w) : wpSeg P ops C Q (.sq os lo :: r) a w :=
 h _ (fun _ _ h1 h2 => ⟨h1, h2⟩)
theorem exit_then_self (Q : Exit → Act → World → Prop) : Exit.then (Q .normal) Q = Q := by
 funext e a w
 cases e <;> rfl
theorem wpSeg_last {os : List Oper} {a : Act} {w : World} (h : wpList P ops Q os a w) : wpSeg P ops C Q [.sq os false] a w := by
 unfold wpSeg
 have e : (fun a' w' => (false = true → C w') ∧ wpSeg P ops C Q [] a' w') = Q .normal := by
  funext a' w'
  simp [wpSeg]
 rw [e, exit_then_self]
 exact h
end
abbrev vi (n : Nat) : Value := .int .i64 (n : Int)
structure Dev.wf (S : Dev) : Prop where
 lenL : S.lasting.length = S.cache.length
 lenF : S.flushed.length = S.cache.length
 lenP : S.pending.length = S.dirty.length
 lenD : S.cache.length = 8 * S.dirty.length
 small : S.cache.length ≤ 1000000
 u64L : ∀ z ∈ S.lasting, z < 18446744073709551616
 u64C : ∀ z ∈ S.cache, z < 18446744073709551616
 u64F : ∀ z ∈ S.flushed, z < 18446744073709551616
structure Ent where
 g : Nat
 e : Nat
 vs : List Value
 ex : Bool
def RowX (W : World) (x : Ent) : Prop := ∃ xs : Array Value, W.heap[x.g]? = some (.cells xs x.e (0, 0)) ∧ ∃ more, xs.toList = x.vs ++ more ∧ (x.ex = true → more = [])
theorem RowX.row {W : World} {x : Ent} (h : RowX W x) : RowAt W x.g x.e x.vs := by
 obtain ⟨xs, h1, more, h2, _⟩ := h
 exact ⟨xs, h1, more, h2⟩
theorem RowX.lt {W : World} {x : Ent} (h : RowX W x) : x.g < W.heap.size := h.row.lt
theorem RowX.keep {W W' : World} {x : Ent} (h : RowX W x) (hk : W'.heap[x.g]? = W.heap[x.g]?) : RowX W' x := by
 obtain ⟨xs, h1, r⟩ := h
 exact ⟨xs, hk.trans h1, r⟩
theorem RowX.exact {W : World} {g e : Nat} {vs : List Value} (h : RowX W ⟨g, e, vs, true⟩) : W.heap[g]? = some (.cells vs.toArray e (0, 0)) := by
 obtain ⟨xs, h1, more, h2, h3⟩ := h
 have := h3 rfl
 subst this
 simp at h2
 subst h2
 simpa using h1
structure Mem (w W : World) (L : List Ent) : Prop where
 below : Below w.heap.size w W
 rows : ∀ x ∈ L, RowX W x
 base : ∀ x ∈ L, w.heap.size ≤ x.g
 nd : (L.map Ent.g).Nodup
theorem Mem.start (w : World) : Mem w w [] := ⟨Below.refl _ _, by simp, by simp, by simp⟩
theorem Mem.lt {w W : World} {L : List Ent} (h : Mem w W L) : ∀ x ∈ L, x.g < W.heap.size := fun x hx => (h.rows x hx).lt
theorem Mem.later {w W W' : World} {L : List Ent} (h : Mem w W L) (hb : Below W.heap.size W W') : Mem w W' L :=
 ⟨h.below.trans (hb.mono h.below.size), fun x hx => (h.rows x hx).keep (hb.block _ (h.lt x hx)), h.base, h.nd⟩
theorem Mem.add {w W W' : World} {L : List Ent} (h : Mem w W L) (hb : Below W.heap.size W W') {x : Ent} (hx : RowX W' x) (hg : W.heap.size ≤ x.g) : Mem w W' (L ++ [x]) := by
 have h' := h.later hb
 refine ⟨h'.below, fun y hy => ?_, fun y hy => ?_, ?_⟩
 ·rcases List.mem_append.1 hy with hy | hy
  ·exact h'.rows y hy
  ·obtain rfl : y = x := by simpa using hy
   exact hx
 ·rcases List.mem_append.1 hy with hy | hy
  ·exact h.base y hy
  ·obtain rfl : y = x := by simpa using hy
   exact Nat.le_trans h.below.size hg
 ·rw [List.map_append, List.nodup_append]
  refine ⟨h.nd, by simp, ?_⟩
  intro a ha b hb' e
  simp at hb'
  subst hb'
  subst e
  obtain ⟨y, hy, rfl'⟩ := List.mem_map.1 ha
  have := h.lt y hy
  omega
theorem Mem.alloc {w W : World} {L : List Ent} (h : Mem w W L) (cs : Array Value) (t : Nat) : Mem w (W.alloc (.cells cs t)) (L ++ [⟨W.heap.size, t, cs.toList, true⟩]) :=
 h.add (below_alloc W _) ⟨cs, heap_alloc_new W _, [], by simp, fun _ => rfl⟩ (Nat.le_refl _)
theorem Mem.one (w : World) (cs : Array Value) (t : Nat) : Mem w (w.alloc (.cells cs t)) [⟨w.heap.size, t, cs.toList, true⟩] := (Mem.start w).alloc cs t
theorem Mem.two (w : World) (cs : Array Value) (t : Nat) (cs' : Array Value) (t' : Nat) : Mem w ((w.alloc (.cells cs t)).alloc (.cells cs' t')) [⟨w.heap.size, t, cs.toList, true⟩, ⟨w.heap.size + 1, t', cs'.toList, true⟩] := by
 have h := (Mem.one w cs t).alloc cs' t'
 simpa using h
theorem Mem.at {w W : World} {L : List Ent} (h : Mem w W L) (k : Nat) {g e : Nat} {vs : List Value} {ex : Bool} (hk : L[k]? = some ⟨g, e, vs, ex⟩) : RowAt W g e vs := (h.rows _ (List.mem_of_getElem? hk)).row
theorem Mem.exact {w W : World} {L : List Ent} (h : Mem w W L) (k : Nat) {g e : Nat} {vs : List Value} (hk : L[k]? = some ⟨g, e, vs, true⟩) : W.heap[g]? = some (.cells vs.toArray e (0, 0)) := (h.rows _ (List.mem_of_getElem? hk)).exact
theorem Mem.cell {w W : World} {L : List Ent} (h : Mem w W L) (k i : Nat) {g e : Nat} {vs : List Value} {ex : Bool} {v : Value} (hk : L[k]? = some ⟨g, e, vs, ex⟩) (hi : vs[i]? = some v) : W.cell? ⟨g, i, none⟩ = some v := (h.at k hk).cell hi
theorem Mem.glt {w W : World} {L : List Ent} (h : Mem w W L) (k : Nat) {g e : Nat} {vs : List Value} {ex : Bool} (hk : L[k]? = some ⟨g, e, vs, ex⟩) : g < W.heap.size := (h.at k hk).lt
theorem below_touched {B : Nat} {L : List Nat} {w w1 w2 : World} (h : Below B w w1) (ht : Touch L w1 w2) (hL : ∀ k ∈ L, B ≤ k) (hB : B ≤ w.heap.size) : Below B w w2 :=
 h.trans (ht.below (Nat.le_trans hB h.size) hL)
theorem Mem.upd {w W W' : World} {L : List Ent} (h : Mem w W L) (k : Nat) {x y : Ent} (hk : L[k]? = some x) (hg : y.g = x.g) (ht : Touch [x.g] W W') (hy : RowX W' y) : Mem w W' (L.set k y) := by
 have hx := List.mem_of_getElem? hk
 have hkl : k < L.length := (List.getElem?_eq_some_iff.1 hk).1
 have hmap : (L.set k y).map Ent.g = L.map Ent.g := by
  rw [List.map_set]
  apply List.ext_getElem?
  intro i
  rw [List.getElem?_set]
  split
  ·rename_i e
   subst e
   simp [hkl, hg]
   have := (List.getElem?_eq_some_iff.1 hk).2
   rw [this]
  ·rfl
 refine ⟨below_touched h.below ht (by simpa using h.base x hx) (Nat.le_refl _), fun z hz => ?_, fun z hz => ?_, by rw [hmap]; exact h.nd⟩
 ·obtain ⟨j, hj, rfl⟩ := List.mem_iff_getElem.1 hz
  rw [List.getElem_set] at hz ⊢
  split
  ·exact hy
  ·rename_i hne
   have hj' : j < L.length := by simpa using hj
   refine (h.rows _ (List.getElem_mem hj')).keep (ht.block _ (h.lt _ (List.getElem_mem hj')) ?_)
   simp
   intro e
   have e1 : (L.map Ent.g)[j]'(by simpa using hj') = (L.map Ent.g)[k]'(by simpa using hkl) := by
    simp [e, (List.getElem?_eq_some_iff.1 hk).2]
   exact hne (((List.getElem_inj h.nd).1 e1).symm)
 ·obtain ⟨j, hj, rfl⟩ := List.mem_iff_getElem.1 hz
  rw [List.getElem_set]
  split
  ·rw [hg]; exact h.base x hx
  ·exact h.base _ (List.getElem_mem _)
section
variable {P : Program} {w W : World} {ops : Array Oper} {rest : List Oper} {o : Oper} {a : Act} {Q : Exit → Act → World → Prop} {L : List Ent}
theorem wpList_load_mem {ty : TypeId} {zs : Array Value} (A : Agg P ty zs) (h : Mem w W L) (k : Nat) {p : Operand} {g e : Nat} {vs : List Value} {ex : Bool}
  (hgd : o.guard = none) (ho : o.op = .load ty p) (hp : a.eval p = .pointer (some ⟨g, 0, none⟩)) (hk : L[k]? = some ⟨g, e, vs, ex⟩) (hs : vs.length = zs.size)
  (hK : wpList P ops Q rest (a.put o.dst (.agg vs.toArray)) W) : wpList P ops Q (o :: rest) a W :=
 wpList_load_part A vs (fun i v hi => by rw [Nat.zero_add]; exact h.cell k i hk hi) hs hgd ho hp hK
theorem wpList_store_mem {ty : TypeId} {zs : Array Value} (A : Agg P ty zs) (h : Mem w W L) (k : Nat) {p x : Operand} {g e : Nat} {vs : List Value} {cs : Array Value}
  (hgd : o.guard = none) (ho : o.op = .store ty p x) (hp : a.eval p = .pointer (some ⟨g, 0, none⟩)) (hx : a.eval x = .agg cs) (hk : L[k]? = some ⟨g, e, vs, true⟩) (hs : cs.size = zs.size) (hv : vs.length = cs.size) (h1 : cs.toList.all (·.oneCell') = true)
  (hK : ∀ W', Mem w W' (L.set k ⟨g, e, cs.toList, true⟩) → Touch [g] W W' → wpList P ops Q rest (a.put o.dst undef) W') : wpList P ops Q (o :: rest) a W := by
 refine wpList_store_row A (h.exact k hk) hs (by simpa using hv) (by rw [← Array.all_toList]; exact h1) hgd ho hp hx ?_
 intro W' hg hgr hsz
 have ht : Touch [g] W W' := ⟨hgr.os, hgr.tape, hgr.output, hgr.size, fun j hj hn => hgr.block j hj (fun e => hn (by simp at e; simp [e]))⟩
 exact hK W' (h.upd k hk rfl ht ⟨cs, hg, [], by simp, fun _ => rfl⟩) ht
theorem run_append_owned_none' {base t ty e : Nat} {i : TypeInfo} {size c : Nat} (ht : P.underlying t = some (.slice e)) (hi : P.info? e = some i)
  {v : Value} {n : Nat} {xs : List Value} (hown : W.ownsRow base e size v n xs) : (Builtin.append_ #[t, t] ty #[v, .slice none 0 c]).run P W = .ok v W := by
 rcases hown.2 with ⟨rfl, rfl⟩ | ⟨g, cap, cur, rfl, _, _, hnc, _⟩
 ·simp [Builtin.append_, run_underlying ht, sizeOf, typeInfo, hi, Builtin.lenOf, Builtin.firstCells]
 ·simp [Builtin.append_, run_underlying ht, sizeOf, typeInfo, hi, Builtin.lenOf, Builtin.firstCells, hnc, storeCells]
theorem wpList_append_cells {s x : Operand} {t e : TypeId} {z : Value} {size bytes base n m c : Nat} {v : Value} {xs ys : List Value} {ad : Option Addr} (E : Elem P t e z size bytes)
  (hown : W.ownsRow base e size v n xs) (hc : Cells W ad ys) (hl : ys.length = m * size) (h1 : ∀ u ∈ ys, u.oneCell' = true)
  (hn : n + m < 1000000000000) (hby : bytes ≤ 64) (hbase : base ≤ W.heap.size)
  (hgd : o.guard = none) (ho : o.op = .call { callee := .builtin .append, args := #[s, x], argTypes := #[t, t] })
  (hs : a.eval s = v) (hx : a.eval x = .slice ad m c)
  (hK : ∀ v' w', w'.ownsRow base e size v' (n + m) (xs ++ ys) → W.grownBy w' v.ownBlock → (v' = .slice none 0 0 → v = .slice none 0 0 ∧ m = 0) → wpList P ops Q rest (a.put o.dst v') w') :
  wpList P ops Q (o :: rest) a W := by
 cases ad with
 | none =>
  have hy : ys = [] := by rcases hc with h | ⟨b, off, h, _⟩; exact h; cases h
  subst hy
  have hm : m = 0 := by
   have := E.pos
   rcases Nat.mul_eq_zero.1 hl.symm with h | h
   ·exact h
   ·omega
  subst hm
  obtain ⟨i, i1, _⟩ := E.info
  refine wpList_plain hgd fun K hK' => ?_
  have hrun := run_append_owned_none' (P := P) (W := W) (ty := o.type) (c := c) E.under i1 hown
  unfold Oper.wp
  simp [execOp, ho, resolve, invoke, builtin, hs, hx, hrun, Result.andThen]
  exact hK' _ _ (hK v W (by simpa using hown) ⟨rfl, rfl, rfl, Nat.le_refl _, fun _ _ _ => rfl⟩ (fun h => ⟨h, rfl⟩))
 | some d =>
  refine wpList_append_many E hown hl ?_ h1 hn hby hbase hgd ho hs hx (fun v' w' a b c => hK v' w' a b c.1)
  intro j u hj
  rcases hc with h | ⟨b, off, h, hc⟩
  ·rw [h] at hj; simp at hj
  ·cases h
   rw [add_none]
   exact hc j u hj
theorem owned_new {w w' : World} {e size n : Nat} {v : Value} {xs : List Value} (h : w'.ownsRow w.heap.size e size v n xs) (hv : v ≠ .slice none 0 0) :
  ∃ g c, v = .slice (some ⟨g, 0, none⟩) n c ∧ w.heap.size ≤ g ∧ n ≤ c ∧ c ≤ maxLen ∧ RowAt w' g e xs := by
 rcases h.2 with ⟨h0, _⟩ | ⟨g, cap, cur, rfl, hb, hg, h1, h2, h3, h4⟩
 ·exact absurd h0 hv
 ·exact ⟨g, cap, rfl, hb, h1, h2, cur, hg, cur.toList.drop (n * size), by rw [← h4, List.take_append_drop]⟩
end
structure MemR (B : Nat) (W : World) (L : List Ent) : Prop where
 rows : ∀ x ∈ L, RowX W x
 base : ∀ x ∈ L, B ≤ x.g
 nd : (L.map Ent.g).Nodup
 size : B ≤ W.heap.size
theorem Mem.r {w W : World} {L : List Ent} (h : Mem w W L) : MemR w.heap.size W L := ⟨h.rows, h.base, h.nd, h.below.size⟩
theorem MemR.lt {B : Nat} {W : World} {L : List Ent} (h : MemR B W L) : ∀ x ∈ L, x.g < W.heap.size := fun x hx => (h.rows x hx).lt
theorem MemR.later {B : Nat} {W W' : World} {L : List Ent} (h : MemR B W L) (hb : Below W.heap.size W W') : MemR B W' L :=
 ⟨fun x hx => (h.rows x hx).keep (hb.block _ (h.lt x hx)), h.base, h.nd, Nat.le_trans h.size hb.size⟩
theorem MemR.apart {B : Nat} {W W' : World} {L : List Ent} (h : MemR B W L) {X : List Nat} (ht : Touch X W W') (hX : ∀ x ∈ L, x.g ∉ X) : MemR B W' L :=
 ⟨fun x hx => (h.rows x hx).keep (ht.block _ (h.lt x hx) (hX x hx)), h.base, h.nd, Nat.le_trans h.size ht.size⟩
theorem MemR.add {B : Nat} {W W' : World} {L : List Ent} (h : MemR B W L) (hb : Below W.heap.size W W') {x : Ent} (hx : RowX W' x) (hg : W.heap.size ≤ x.g) : MemR B W' (L ++ [x]) := by
 have h' := h.later hb
 refine ⟨fun y hy => ?_, fun y hy => ?_, ?_, h'.size⟩
 ·rcases List.mem_append.1 hy with hy | hy
  ·exact h'.rows y hy
  ·obtain rfl : y = x := by simpa using hy
   exact hx
 ·rcases List.mem_append.1 hy with hy | hy
  ·exact h.base y hy
  ·obtain rfl : y = x := by simpa using hy
   exact Nat.le_trans h.size hg
 ·rw [List.map_append, List.nodup_append]
  refine ⟨h.nd, by simp, ?_⟩
  intro a ha b hb' e
  simp at hb'
  subst hb'
  subst e
  obtain ⟨y, hy, rfl'⟩ := List.mem_map.1 ha
  have := h.lt y hy
  omega
theorem near_of {X : List Nat} {w W : World} (h : Touch X w W) : ∃ x : Near X w, W = x.val := ⟨⟨W, h.size, h.block⟩, rfl⟩
theorem MemR.alloc {B : Nat} {W : World} {L : List Ent} (h : MemR B W L) (cs : Array Value) (t : Nat) : MemR B (W.alloc (.cells cs t)) (L ++ [⟨W.heap.size, t, cs.toList, true⟩]) :=
 h.add (below_alloc W _) ⟨cs, heap_alloc_new W _, [], by simp, fun _ => rfl⟩ (Nat.le_refl _)
theorem MemR.at {B : Nat} {W : World} {L : List Ent} (h : MemR B W L) (k : Nat) {g e : Nat} {vs : List Value} {ex : Bool} (hk : L[k]? = some ⟨g, e, vs, ex⟩) : RowAt W g e vs := (h.rows _ (List.mem_of_getElem? hk)).row
theorem MemR.exact {B : Nat} {W : World} {L : List Ent} (h : MemR B W L) (k : Nat) {g e : Nat} {vs : List Value} (hk : L[k]? = some ⟨g, e, vs, true⟩) : W.heap[g]? = some (.cells vs.toArray e (0, 0)) := (h.rows _ (List.mem_of_getElem? hk)).exact
theorem MemR.cell {B : Nat} {W : World} {L : List Ent} (h : MemR B W L) (k i : Nat) {g e : Nat} {vs : List Value} {ex : Bool} {v : Value} (hk : L[k]? = some ⟨g, e, vs, ex⟩) (hi : vs[i]? = some v) : W.cell? ⟨g, i, none⟩ = some v := (h.at k hk).cell hi
theorem MemR.glt {B : Nat} {W : World} {L : List Ent} (h : MemR B W L) (k : Nat) {g e : Nat} {vs : List Value} {ex : Bool} (hk : L[k]? = some ⟨g, e, vs, ex⟩) : g < W.heap.size := (h.at k hk).lt
theorem MemR.upd {B : Nat} {W W' : World} {L : List Ent} (h : MemR B W L) (k : Nat) {x y : Ent} (hk : L[k]? = some x) (hg : y.g = x.g) (ht : Touch [x.g] W W') (hy : RowX W' y) : MemR B W' (L.set k y) := by
 have hx := List.mem_of_getElem? hk
 have hkl : k < L.length := (List.getElem?_eq_some_iff.1 hk).1
 have hmap : (L.set k y).map Ent.g = L.map Ent.g := by
  rw [List.map_set]
  apply List.ext_getElem?
  intro i
  rw [List.getElem?_set]
  split
  ·rename_i e
   subst e
   simp [hkl, hg]
   have := (List.getElem?_eq_some_iff.1 hk).2
   rw [this]
  ·rfl
 refine ⟨fun z hz => ?_, fun z hz => ?_, by rw [hmap]; exact h.nd, Nat.le_trans h.size ht.size⟩
 ·obtain ⟨j, hj, rfl⟩ := List.mem_iff_getElem.1 hz
  rw [List.getElem_set] at hz ⊢
  split
  ·exact hy
  ·rename_i hne
   have hj' : j < L.length := by simpa using hj
   refine (h.rows _ (List.getElem_mem hj')).keep (ht.block _ (h.lt _ (List.getElem_mem hj')) ?_)
   simp
   intro e
   have e1 : (L.map Ent.g)[j]'(by simpa using hj') = (L.map Ent.g)[k]'(by simpa using hkl) := by
    simp [e, (List.getElem?_eq_some_iff.1 hk).2]
   exact hne (((List.getElem_inj h.nd).1 e1).symm)
 ·obtain ⟨j, hj, rfl⟩ := List.mem_iff_getElem.1 hz
  rw [List.getElem_set]
  split
  ·rw [hg]; exact h.base x hx
  ·exact h.base _ (List.getElem_mem _)
theorem Touch.own {X : List Nat} {w W W' : World} (h : Touch X w W) {Y : List Nat} (ht : Touch Y W W') (hY : ∀ k ∈ Y, w.heap.size ≤ k ∨ k ∈ X) : Touch X w W' :=
 ⟨ht.os.trans h.os, ht.tape.trans h.tape, ht.output.trans h.output, Nat.le_trans h.size ht.size, fun k hk hn => (ht.block k (Nat.lt_of_lt_of_le hk h.size) (fun hm => (hY k hm).elim (fun h => by omega) hn)).trans (h.block k hk hn)⟩
theorem Touch.later {X : List Nat} {w W W' : World} (h : Touch X w W) (hb : Below W.heap.size W W') : Touch X w W' := h.trans (Touch.ofBelow hb)
section
variable {P : Program} {B : Nat} {W : World} {ops : Array Oper} {rest : List Oper} {o : Oper} {a : Act} {Q : Exit → Act → World → Prop} {L : List Ent}
theorem wpList_load_r {ty : TypeId} {zs : Array Value} (A : Agg P ty zs) (h : MemR B W L) (k : Nat) {p : Operand} {g e : Nat} {vs : List Value} {ex : Bool}
  (hgd : o.guard = none) (ho : o.op = .load ty p) (hp : a.eval p = .pointer (some ⟨g, 0, none⟩)) (hk : L[k]? = some ⟨g, e, vs, ex⟩) (hs : vs.length = zs.size)
  (hK : wpList P ops Q rest (a.put o.dst (.agg vs.toArray)) W) : wpList P ops Q (o :: rest) a W :=
 wpList_load_part A vs (fun i v hi => by rw [Nat.zero_add]; exact h.cell k i hk hi) hs hgd ho hp hK
theorem wpList_store_r {ty : TypeId} {zs : Array Value} (A : Agg P ty zs) (h : MemR B W L) (k : Nat) {p x : Operand} {g e : Nat} {vs : List Value} {cs : Array Value}
  (hgd : o.guard = none) (ho : o.op = .store ty p x) (hp : a.eval p = .pointer (some ⟨g, 0, none⟩)) (hx : a.eval x = .agg cs) (hk : L[k]? = some ⟨g, e, vs, true⟩) (hs : cs.size = zs.size) (hv : vs.length = cs.size) (h1 : cs.toList.all (·.oneCell') = true)
  (hK : ∀ W', MemR B W' (L.set k ⟨g, e, cs.toList, true⟩) → Touch [g] W W' → wpList P ops Q rest (a.put o.dst undef) W') : wpList P ops Q (o :: rest) a W := by
 refine wpList_store_row A (h.exact k hk) hs (by simpa using hv) (by rw [← Array.all_toList]; exact h1) hgd ho hp hx ?_
 intro W' hg hgr hsz
 have ht : Touch [g] W W' := ⟨hgr.os, hgr.tape, hgr.output, hgr.size, fun j hj hn => hgr.block j hj (fun e => hn (by simp at e; simp [e]))⟩
 exact hK W' (h.upd k hk rfl ht ⟨cs, hg, [], by simp, fun _ => rfl⟩) ht
end
end Go.Proofs.YtpopbfagliagnaaGreat
namespace Go.Proofs.YtpopbfagliagnaaGreat
open Go.RowKit Go.Maps
def OwnI (w : World) (v : Value) (xs : List Nat) : Prop := w.ownsRow 0 3 1 v xs.length (xs.map vi) ∨ (∃ a, v = .slice (some a) 0 0 ∧ xs = [])
def rowOf : Value → Option Nat
 | .slice (some a) _ c => if c = 0 then none else some a.block
 | _ => none
theorem OwnI.nil (w : World) : OwnI w (.slice none 0 0) [] := .inl ⟨rfl, .inl ⟨rfl, rfl⟩⟩
theorem OwnI.cells {w : World} {v : Value} {xs : List Nat} (h : OwnI w v xs) : ∃ a c, v = .slice a xs.length c ∧ Cells w a (xs.map vi) ∧ xs.length ≤ c ∧ c ≤ maxLen := by
 rcases h with h | ⟨a, rfl, rfl⟩
 ·rcases h.2 with ⟨rfl, h0⟩ | ⟨g, cap, cur, rfl, hb, hg, h1, h2, h3, h4⟩
  ·have : xs = [] := List.length_eq_zero_iff.1 h0
   subst this
   exact ⟨none, 0, rfl, .inl rfl, Nat.le_refl _, by unfold maxLen; omega⟩
  ·refine ⟨_, _, rfl, .inr ⟨g, 0, rfl, fun i u hi => ?_⟩, h1, h2⟩
   have hc : RowAt w g 3 (xs.map vi) := ⟨cur, hg, cur.toList.drop (xs.length * 1), by rw [← h4, List.take_append_drop]⟩
   rw [Nat.zero_add]; exact hc.cell hi
 ·exact ⟨some a, 0, rfl, .inl rfl, Nat.le_refl _, by unfold maxLen; omega⟩
theorem OwnI.keep {w w' : World} {v : Value} {xs : List Nat} (h : OwnI w v xs) (hk : ∀ b, rowOf v = some b → w'.heap[b]? = w.heap[b]?) : OwnI w' v xs := by
 rcases h with h | h
 ·rcases h.2 with ⟨rfl, h0⟩ | ⟨g, cap, cur, rfl, hb, hg, h1, h2, h3, h4⟩
  ·exact .inl ⟨h.1, .inl ⟨rfl, h0⟩⟩
  ·by_cases hc : cap = 0
   ·subst hc
    have : xs = [] := List.length_eq_zero_iff.1 (by omega)
    subst this
    exact .inr ⟨_, rfl, rfl⟩
   ·exact .inl ⟨h.1, .inr ⟨g, cap, cur, rfl, hb, (hk g (by show (if cap = 0 then none else some g) = some g; rw [if_neg hc])).trans hg, h1, h2, h3, h4⟩⟩
 ·exact .inr h
theorem OwnI.lt {w : World} {v : Value} {xs : List Nat} (h : OwnI w v xs) : ∀ b, rowOf v = some b → b < w.heap.size := by
 intro b hb
 rcases h with h | ⟨a, rfl, rfl⟩
 ·rcases h.2 with ⟨rfl, h0⟩ | ⟨g, cap, cur, rfl, hb', hg, h1, h2, h3, h4⟩
  ·cases hb
  ·have hb2 : (if cap = 0 then none else some g) = some b := hb
   by_cases hc : cap = 0
   ·rw [if_pos hc] at hb2; cases hb2
   ·rw [if_neg hc] at hb2; cases hb2; exact (Array.getElem?_eq_some_iff.1 hg).1
 ·have hb2 : (if 0 = 0 then none else some a.block) = some b := hb
  rw [if_pos rfl] at hb2; cases hb2
def slotI (m k : Nat) : Nat := 32 + 32 * m + k
def FL.at (S : FL) (i : Nat) : List Nat := if i < 32 then S.g i else S.c ((i - 32) / 32) ((i - 32) % 32)
theorem FL.at_g (S : FL) {k : Nat} (h : k < 32) : S.at k = S.g k := by unfold FL.at; rw [if_pos h]
theorem FL.at_c (S : FL) (m : Nat) {k : Nat} (h : k < 32) : S.at (slotI m k) = S.c m k := by
 unfold FL.at slotI
 rw [if_neg (by omega), show (32 + 32 * m + k - 32) / 32 = m by omega, show (32 + 32 * m + k - 32) % 32 = k by omega]
theorem keyed_slot : Keyed Tryz.prog 336 := Keyed.of_law (deep_law_laid (by kernel_rfl) (m := 2) (by omega) (of_decide_eq_true (by kernel_rfl)) (by kernel_rfl) (by rw [Tryz.underlying336]))
abbrev slotV (m k : Int) : Value := .agg #[.int .i64 m, .int .i64 k]
theorem fsSlot : Tryz.prog.fieldsOf 336 = #[{ name := "Mutator", type := 3, offset := 0, embedded := false, tag := "", pkgPath := "", byteOffset := 0 }, { name := "Class", type := 3, offset := 1, embedded := false, tag := "", pkgPath := "", byteOffset := 8 }] := by kernel_rfl
theorem usSlot : Tryz.prog.underlying 336 = some (.struct (Tryz.prog.fieldsOf 336)) := by kernel_rfl
theorem ctSlot : Tryz.prog.cellsOf 336 = 2 := by kernel_rfl
theorem ciSlot : Tryz.prog.cellsOf 3 = 1 := by kernel_rfl
theorem ktSlot : Tryz.prog.keyType 336 = true := by kernel_rfl
theorem tsSlot : ∃ z, Tryz.prog.types.size = z + 1 := ⟨Tryz.prog.types.size - 1, by kernel_rfl⟩
theorem key_slot (m k : Int) (hm : (Lit.int .i64 m).wf = true) (hk : (Lit.int .i64 k).wf = true) : keyOf Tryz.prog 336 (slotV m k) = some (pairKey m k) := by
 have h3 : (slotV m k).formed Tryz.prog 336 = true := by simp [Value.formed, usSlot, ctSlot]
 obtain ⟨z, hz⟩ := tsSlot
 unfold keyOf pairKey
 rw [usSlot]
 simp only
 rw [ktSlot, h3, if_pos (by rfl), hz]
 unfold Program.keyLits
 simp only [usSlot, fsSlot, ctSlot, Value.cells]
 rw [if_pos ⟨rfl, by decide +kernel⟩]
 simp [Program.keyLits, Tryz.underlying3, ciSlot, hm, hk]
theorem key_inj {m k m' k' : Int} (hm : (Lit.int .i64 m).wf = true) (hk : (Lit.int .i64 k).wf = true) (hm' : (Lit.int .i64 m').wf = true) (hk' : (Lit.int .i64 k').wf = true) (h : pairKey m k = pairKey m' k') : m = m' ∧ k = k' := by
 have h1 := key_slot m k hm hk
 rw [h] at h1
 have := keyed_slot.inj h1 (key_slot m' k' hm' hk')
 simp only [slotV, Value.agg.injEq] at this
 have e := congrArg Array.toList this
 simp at e
 exact e
structure FreeIn (w : World) (f mb n : Nat) (V : Nat → Value) (S : FL) : Prop where
 head : w.heap[f]? = some (.cells ((List.range 32).map V ++ [Value.map (some mb)]).toArray 334 (0, 0))
 map : ∃ M, VMap Tryz.prog 336 w mb n M ∧ ∀ m k : Nat, m < 4 → k < 32 → (M (pairKey m k)).getD (.slice none 0 0) = V (slotI m k)
 rows : ∀ i, i < 160 → OwnI w (V i) (S.at i)
 apart : ∀ i j, i < 160 → j < 160 → i ≠ j → ∀ b, rowOf (V i) = some b → rowOf (V j) ≠ some b
 neF : ∀ i, i < 160 → rowOf (V i) ≠ some f ∧ rowOf (V i) ≠ some mb
 ne : f ≠ mb
def FreeAt (w : World) (f mb n : Nat) (R : List Nat) (S : FL) : Prop := ∃ V, FreeIn w f mb n V S ∧ f ∈ R ∧ mb ∈ R ∧ (∀ b ∈ R, b < w.heap.size) ∧ ∀ i, i < 160 → ∀ b, rowOf (V i) = some b → b ∈ R
theorem FreeAt.keep {w w' : World} {f mb n : Nat} {R : List Nat} {S : FL} (h : FreeAt w f mb n R S) (hk : ∀ k ∈ R, w'.heap[k]? = w.heap[k]?) : FreeAt w' f mb n R S := by
 obtain ⟨V, hi, h1, h2, h3, h4⟩ := h
 obtain ⟨M, hm, hv⟩ := hi.map
 refine ⟨V, ⟨(hk f h1).trans hi.head, ⟨M, hm.block (hk mb h2), hv⟩, fun i hi' => (hi.rows i hi').keep fun b hb => hk b (h4 i hi' b hb), hi.apart, hi.neF, hi.ne⟩, h1, h2, fun b hb => ?_, h4⟩
 have hb3 := h3 b hb
 have : w'.heap[b]? ≠ none := by rw [hk b hb, Array.getElem?_eq_getElem hb3]; simp
 apply Classical.byContradiction
 intro c
 exact this (Array.getElem?_eq_none (by omega))
theorem FreeAt.below {w w' : World} {f mb n : Nat} {R : List Nat} {S : FL} (h : FreeAt w f mb n R S) (hb : Below w.heap.size w w') : FreeAt w' f mb n R S := by
 obtain ⟨V, _, _, _, h3, _⟩ := id h
 exact h.keep (fun k hk => hb.block k (h3 k hk))
theorem FreeAt.mem {w : World} {f mb n : Nat} {R : List Nat} {S : FL} (h : FreeAt w f mb n R S) : ∀ b ∈ R, b < w.heap.size := by
 obtain ⟨V, _, _, _, h3, _⟩ := h; exact h3
theorem FreeAt.mono {w : World} {f mb n n' : Nat} {R : List Nat} {S : FL} (h : FreeAt w f mb n R S) (hn : n ≤ n') : FreeAt w f mb n' R S := by
 obtain ⟨V, hi, r⟩ := h
 obtain ⟨M, hm, hv⟩ := hi.map
 exact ⟨V, { hi with map := ⟨M, hm.mono hn, hv⟩ }, r⟩
def NewFree (w : World) : Ending → World → Prop := fun e w' => ∃ f mb, e = .returned (.pointer (some ⟨f, 0, none⟩)) ∧ FreeAt w' f mb 0 [f, mb] FL.empty ∧ Below w.heap.size w w' ∧ w.heap.size ≤ f ∧ w.heap.size ≤ mb
theorem FL.at_empty (i : Nat) : FL.empty.at i = [] := by unfold FL.at FL.empty; split <;> rfl
set_option maxHeartbeats 1000000 in
theorem fnew_any (w : World) : Calls Tryz.prog 211 #[] w (NewFree w) := by
 have HV := LH (VMap.made w Tryz.prog 336)
 have HB := LH (below_alloc w (.map #[] 0))
 have HP : Hid (∀ f mb w', FreeAt w' f mb 0 [f, mb] FL.empty → Below w.heap.size w w' → w.heap.size ≤ f → w.heap.size ≤ mb → NewFree w (.returned (.pointer (some ⟨f, 0, none⟩))) w') := LH (fun f mb w' a b c d => ⟨f, mb, rfl, a, b, c, d⟩)
 generalize NewFree w = Post at *
 have hmm := @run_makeMap Tryz.prog
 go_enter Tryz.func211, Tryz.ntmps211
 go_wp2_with fail
 have hs : (w.alloc (.map #[] 0)).heap.size = w.heap.size + 1 := by simp
 generalize w.alloc _ = w1 at *
 have hb2 := below_alloc w1 (Obj.cells ((List.range 32).map (fun _ => Value.slice none 0 0) ++ [Value.map (some w.heap.size)]).toArray 334)
 have hh := heap_alloc_new w1 (Obj.cells ((List.range 32).map (fun _ => Value.slice none 0 0) ++ [Value.map (some w.heap.size)]).toArray 334)
 rw [hs] at hh
 refine HP.out (w.heap.size + 1) w.heap.size _ ⟨fun _ => .slice none 0 0, ⟨hh, ⟨_, HV.out.block (hb2.block _ (by omega)), fun _ _ _ _ => rfl⟩, fun i _ => (by rw [FL.at_empty]; exact OwnI.nil _), fun i j _ _ _ b hb => (by cases hb), fun i _ => ⟨(by intro h; cases h), (by intro h; cases h)⟩, by omega⟩, by simp, by simp, ?_, fun i _ b hb => (by cases hb)⟩ ?_ (by omega) (Nat.le_refl _)
 ·intro b hb
  simp only [List.mem_cons, List.not_mem_nil, or_false] at hb
  rcases hb with rfl | rfl <;> simp <;> omega
 ·exact HB.out.trans (hb2.mono (by omega))
end Go.Proofs.YtpopbfagliagnaaGreat
namespace Go.Proofs.YtpopbfagliagnaaGreat
def FL.cnt (S : FL) (k a : Nat) : Nat := (S.g k).count a + (S.c 0 k).count a + (S.c 1 k).count a + (S.c 2 k).count a + (S.c 3 k).count a
def FL.all (S : FL) (k : Nat) : List Nat := S.g k ++ S.c 0 k ++ S.c 1 k ++ S.c 2 k ++ S.c 3 k
theorem FL.all_count (S : FL) (k a : Nat) : (S.all k).count a = S.cnt k a := by unfold FL.all FL.cnt; simp only [List.count_append]
theorem FL.has_iff (S : FL) (k a : Nat) : S.has k a = true ↔ 0 < S.cnt k a := by
 unfold FL.has FL.cnt
 simp only [Bool.or_eq_true, List.contains_iff_mem]
 have h : ∀ l : List Nat, a ∈ l ↔ 0 < l.count a := fun l => List.count_pos_iff.symm
 rw [h, h, h, h, h]
 omega
theorem FL.has_not (S : FL) (k a : Nat) : S.has k a = false ↔ S.cnt k a = 0 := by
 rw [← Bool.not_eq_true, FL.has_iff]; omega
def FL.drain (S : FL) (m : Nat) : FL := ⟨fun k => if k < 32 then S.g k ++ S.c m k else S.g k, fun i k => if i = m ∧ k < 32 then [] else S.c i k⟩
def FL.put (S : FL) (m k a : Nat) : FL :=
 if S.has k a then S else
 if 8 < (S.c m k ++ [a]).length then (S.setG k (S.g k ++ (S.c m k ++ [a]).take ((S.c m k ++ [a]).length / 2))).setC m k ((S.c m k ++ [a]).drop ((S.c m k ++ [a]).length / 2))
 else S.setC m k (S.c m k ++ [a])
def FL.remove (S : FL) (k lo hi : Nat) : FL := ⟨fun j => if j = k then (S.g k).filter (fun a => !(decide (lo ≤ a) && decide (a < hi))) else S.g j, fun i j => if j = k ∧ i < 4 then (S.c i k).filter (fun a => !(decide (lo ≤ a) && decide (a < hi))) else S.c i j⟩
theorem four {m : Nat} (h : m < 4) : m = 0 ∨ m = 1 ∨ m = 2 ∨ m = 3 := by omega
theorem take_drop_count (l : List Nat) (n a : Nat) : (l.take n).count a + (l.drop n).count a = l.count a := by
 rw [← List.count_append, List.take_append_drop]
theorem FL.setGC_cnt (S : FL) {m k : Nat} (hm : m < 4) (x y : List Nat) (j a : Nat) (h : x.count a + y.count a = (S.g k).count a + (S.c m k).count a) : ((S.setG k x).setC m k y).cnt j a = S.cnt j a := by
 unfold FL.cnt
 simp only [FL.setC_g, FL.setG_g, FL.setC_c, FL.setG_c]
 by_cases e : j = k
 ·subst e
  rcases four hm with rfl | rfl | rfl | rfl <;> simp <;> omega
 ·simp [e]
theorem FL.fill_cnt (S : FL) {m k : Nat} (hm : m < 4) (j a : Nat) : (S.fill m k).cnt j a = S.cnt j a := by
 unfold FL.fill
 split
 ·next h =>
  refine S.setGC_cnt hm _ _ j a ?_
  rw [take_drop_count, h]; simp
 ·rfl
theorem count_dropLast {l : List Nat} {x : Nat} (h : l.getLast? = some x) (a : Nat) : l.count a = l.dropLast.count a + if a = x then 1 else 0 := by
 obtain ⟨t, rfl⟩ : ∃ t, l = t ++ [x] := by
  cases hl : l.reverse with
  | nil => simp at hl; subst hl; cases h
  | cons y t =>
   have e : l = t.reverse ++ [y] := by have := congrArg List.reverse hl; simpa using this
   rw [e] at h
   simp at h
   subst h
   exact ⟨_, e⟩
 rw [List.dropLast_concat, List.count_append, List.count_singleton]
 congr 1
 by_cases e : a = x
 ·subst e; simp
 ·have : ¬ x = a := fun c => e c.symm
  simp [e, this]
theorem FL.taken_cnt {S : FL} {m k x : Nat} (hm : m < 4) (h : S.cell m k = some x) (j a : Nat) : S.cnt j a = (S.taken m k).cnt j a + if j = k ∧ a = x then 1 else 0 := by
 rw [← S.fill_cnt (k := k) hm j a]
 unfold FL.cell at h
 unfold FL.taken
 generalize S.fill m k = T at *
 have hc := count_dropLast h a
 unfold FL.cnt
 simp only [FL.setC_g, FL.setC_c]
 by_cases e : j = k
 ·subst e
  by_cases e2 : a = x
  ·subst e2
   simp only [if_true, and_self] at hc ⊢
   rcases four hm with rfl | rfl | rfl | rfl <;> simp <;> omega
  ·simp only [e2, if_false, and_false] at hc ⊢
   rcases four hm with rfl | rfl | rfl | rfl <;> simp <;> omega
 ·simp [e]
theorem FL.cell_none {S : FL} {m k : Nat} (h : S.cell m k = none) : S.g k = [] ∧ S.c m k = [] := by
 unfold FL.cell FL.fill at h
 split at h
 ·next hc =>
  rw [FL.setC_c] at h
  simp only [and_self, if_true, List.getLast?_eq_none_iff] at h
  refine ⟨?_, hc⟩
  have : ((S.g k).drop ((S.g k).length - min (S.g k).length 4)).length = 0 := by rw [h]; rfl
  rw [List.length_drop] at this
  exact List.length_eq_zero_iff.1 (by omega)
 ·next hc =>
  rw [List.getLast?_eq_none_iff] at h
  exact absurd h hc
theorem FL.ext' {S T : FL} (h1 : ∀ k, S.g k = T.g k) (h2 : ∀ i k, S.c i k = T.c i k) : S = T := by
 obtain ⟨g, c⟩ := S
 obtain ⟨g', c'⟩ := T
 have e1 : g = g' := funext h1
 have e2 : c = c' := funext fun i => funext (h2 i)
 rw [e1, e2]
theorem FL.fill_none {S : FL} {m k : Nat} (h : S.cell m k = none) : S.fill m k = S := by
 obtain ⟨h1, h2⟩ := FL.cell_none h
 unfold FL.fill
 rw [if_pos h2, h1]
 refine FL.ext' (fun j => ?_) (fun i j => ?_)
 ·rw [FL.setC_g, FL.setG_g]
  split
  ·next e => rw [e, h1]; rfl
  ·rfl
 ·rw [FL.setC_c]
  split
  ·next e => obtain ⟨rfl, rfl⟩ := e; rw [h2]; rfl
  ·rfl
theorem FL.drain_cnt (S : FL) {m k : Nat} (hm : m < 4) (hk : k < 32) (a : Nat) : (S.drain m).cnt k a = S.cnt k a := by
 unfold FL.cnt FL.drain
 simp only [hk, if_true, List.count_append]
 rcases four hm with rfl | rfl | rfl | rfl <;> simp <;> omega
theorem FL.pushed_cnt (S : FL) (k x j a : Nat) : (S.pushed k x).cnt j a = S.cnt j a + if j = k ∧ a = x ∧ S.cnt k x = 0 then 1 else 0 := by
 unfold FL.pushed
 cases hh : S.has k x with
 | true =>
  have := (S.has_iff k x).1 hh
  rw [if_pos rfl, if_neg (by omega)]; rfl
 | false =>
  have h0 := (S.has_not k x).1 hh
  rw [if_neg (by simp)]
  simp only [h0, and_true]
  unfold FL.cnt
  simp only [FL.setG_g, FL.setG_c]
  by_cases e : j = k
  ·subst e
   rw [if_pos rfl, List.count_append, List.count_singleton]
   by_cases e2 : a = x
   ·subst e2; simp; omega
   ·have : ¬ x = a := fun c => e2 c.symm
    simp [e2, this]
  ·simp [e]
theorem FL.put_cnt (S : FL) {m : Nat} (hm : m < 4) (k x j a : Nat) : (S.put m k x).cnt j a = S.cnt j a + if j = k ∧ a = x ∧ S.cnt k x = 0 then 1 else 0 := by
 unfold FL.put
 cases hh : S.has k x with
 | true =>
  have := (S.has_iff k x).1 hh
  rw [if_pos rfl, if_neg (by omega)]; rfl
 | false =>
  have h0 := (S.has_not k x).1 hh
  rw [if_neg (by simp)]
  have key : ∀ (u v : List Nat), u.count a + v.count a = (S.g k).count a + ((S.c m k) ++ [x]).count a → ((S.setG k u).setC m k v).cnt j a = S.cnt j a + if j = k ∧ a = x ∧ S.cnt k x = 0 then 1 else 0 := by
   intro u v h
   rw [List.count_append, List.count_singleton] at h
   simp only [h0, and_true]
   unfold FL.cnt
   simp only [FL.setC_g, FL.setG_g, FL.setC_c, FL.setG_c]
   by_cases e : j = k
   ·subst e
    by_cases e2 : a = x
    ·subst e2
     simp only [BEq.rfl, if_true] at h
     rcases four hm with rfl | rfl | rfl | rfl <;> simp <;> omega
    ·have : ¬ x = a := fun c => e2 c.symm
     simp only [beq_iff_eq, this, if_false] at h
     rcases four hm with rfl | rfl | rfl | rfl <;> simp [e2] <;> omega
   ·simp [e]
  split
  ·refine key _ _ ?_
   rw [List.count_append, Nat.add_assoc, take_drop_count]
  ·have hg : S.setC m k (S.c m k ++ [x]) = (S.setG k (S.g k)).setC m k (S.c m k ++ [x]) := by
    refine FL.ext' (fun j => ?_) (fun i j => ?_)
    ·rw [FL.setC_g, FL.setC_g, FL.setG_g]
     split
     ·next e => rw [e]
     ·rfl
    ·rw [FL.setC_c, FL.setC_c, FL.setG_c]
   rw [hg]
   exact key _ _ rfl
theorem count_filter_range (l : List Nat) (lo hi a : Nat) : (l.filter (fun a => !(decide (lo ≤ a) && decide (a < hi)))).count a = if lo ≤ a ∧ a < hi then 0 else l.count a := by
 by_cases h : lo ≤ a ∧ a < hi
 ·rw [if_pos h, List.count_eq_zero]
  intro hm
  have := (List.mem_filter.1 hm).2
  simp [h] at this
 ·rw [if_neg h]
  refine List.count_filter ?_
  simp
  omega
theorem FL.remove_cnt (S : FL) (k lo hi j a : Nat) : (S.remove k lo hi).cnt j a = if j = k ∧ lo ≤ a ∧ a < hi then 0 else S.cnt j a := by
 unfold FL.cnt FL.remove
 by_cases e : j = k
 ·subst e
  simp only [if_true, true_and, count_filter_range, Nat.reduceLT]
  by_cases h : lo ≤ a ∧ a < hi
  ·simp only [if_pos h]
  ·simp only [if_neg h]
 ·simp [e]
theorem FL.carve_cnt {used : Nat → Bool} {at_ : Nat → Nat} {k : Nat} (hinj : ∀ i j, at_ i = at_ j → i = j) : ∀ {n : Nat} {S : FL}, (∀ i, i < n → S.cnt k (at_ i) = 0) → ∀ j a, (S.carve used at_ k n).cnt j a = S.cnt j a + if j = k ∧ used a = false ∧ ∃ i, i < n ∧ a = at_ i then 1 else 0
 | 0, S, _, j, a => by
  unfold FL.carve
  rw [if_neg (by rintro ⟨_, _, i, hi, _⟩; omega)]; rfl
 | n + 1, S, h0, j, a => by
  unfold FL.carve
  have hz := h0 n (by omega)
  cases hu : used (at_ n) with
  | true =>
   rw [if_pos rfl, FL.carve_cnt hinj (fun i hi => h0 i (by omega)) j a]
   congr 1
   by_cases c : j = k ∧ used a = false ∧ ∃ i, i < n ∧ a = at_ i
   ·obtain ⟨c1, c2, i, c3, c4⟩ := c
    rw [if_pos ⟨c1, c2, i, c3, c4⟩, if_pos ⟨c1, c2, i, by omega, c4⟩]
   ·rw [if_neg c, if_neg]
    rintro ⟨c1, c2, i, c3, c4⟩
    by_cases e : i = n
    ·subst e; rw [c4, hu] at c2; cases c2
    ·exact c ⟨c1, c2, i, by omega, c4⟩
  | false =>
   rw [if_neg (by simp)]
   have hp := S.pushed_cnt k (at_ n)
   rw [FL.carve_cnt hinj (fun i hi => by
    rw [hp, h0 i (by omega), if_neg]
    rintro ⟨_, e, _⟩
    have := hinj _ _ e
    omega) j a, hp]
   by_cases c : j = k ∧ used a = false ∧ ∃ i, i < n + 1 ∧ a = at_ i
   ·rw [if_pos c]
    obtain ⟨c1, c2, i, c3, c4⟩ := c
    by_cases e : i = n
    ·subst e
     rw [if_pos ⟨c1, c4, hz⟩, if_neg]
     rintro ⟨_, _, i', h1, h2⟩
     have := hinj i i' (by rw [← c4, h2])
     omega
    ·rw [if_neg, if_pos ⟨c1, c2, i, by omega, c4⟩]
     rintro ⟨_, h2, _⟩
     have := hinj i n (by rw [← c4, h2])
     omega
   ·rw [if_neg c, if_neg, if_neg]
    ·rintro ⟨c1, c2, i, c3, c4⟩
     exact c ⟨c1, c2, i, by omega, c4⟩
    ·rintro ⟨c1, c2, _⟩
     exact c ⟨c1, by rw [c2]; exact hu, n, by omega, c2⟩
def bitW (ws : List Nat) (i : Nat) : Bool := (ws.getD (i / 64) 0).testBit (i % 64)
structure BitsOf (ws : List Nat) (l : List Bool) : Prop where
 len : ws.length = (l.length + 63) / 64
 lt : ∀ z ∈ ws, z < 18446744073709551616
 bit : ∀ i, bitW ws i = l.getD i false
theorem BitsOf.getD_lt {ws : List Nat} {l : List Bool} (h : BitsOf ws l) (i : Nat) : ws.getD i 0 < 18446744073709551616 := by
 rw [List.getD_eq_getElem?_getD]
 by_cases c : i < ws.length
 ·rw [List.getElem?_eq_getElem c]; exact h.lt _ (List.getElem_mem c)
 ·rw [List.getElem?_eq_none (by omega)]; simp
theorem bits_new (n : Nat) : BitsOf (List.replicate ((n + 63) / 64) 0) (List.replicate n false) := by
 refine ⟨by simp, fun z hz => by rw [List.eq_of_mem_replicate hz]; decide, fun i => ?_⟩
 have h1 : (List.replicate ((n + 63) / 64) 0).getD (i / 64) 0 = 0 := by
  rw [List.getD_eq_getElem?_getD, List.getElem?_replicate]; split <;> rfl
 have h2 : (List.replicate n false).getD i false = false := by
  rw [List.getD_eq_getElem?_getD, List.getElem?_replicate]; split <;> rfl
 unfold bitW
 rw [h1, h2, Nat.zero_testBit]
theorem BitsOf.word {ws : List Nat} {l : List Bool} (h : BitsOf ws l) {i : Nat} (hi : i < l.length) : i / 64 < ws.length := by
 rw [h.len]; omega
theorem getD_set_bool (l : List Bool) (a i : Nat) (v : Bool) (ha : a < l.length) : (l.set a v).getD i false = if i = a then v else l.getD i false := by
 rw [List.getD_eq_getElem?_getD, List.getElem?_set, List.getD_eq_getElem?_getD]
 by_cases e : a = i
 ·subst e; simp [ha]
 ·rw [if_neg e, if_neg (fun c => e c.symm)]
theorem BitsOf.set {ws : List Nat} {l : List Bool} (h : BitsOf ws l) {a : Nat} (ha : a < l.length) (v : Bool) {x : Nat} (hx : x < 18446744073709551616)
  (hb : ∀ j, j < 64 → x.testBit j = if j = a % 64 then v else (ws.getD (a / 64) 0).testBit j) : BitsOf (ws.set (a / 64) x) (l.set a v) := by
 refine ⟨by simp [h.len], fun z hz => ?_, fun i => ?_⟩
 ·rcases List.mem_or_eq_of_mem_set hz with hz | rfl
  ·exact h.lt z hz
  ·exact hx
 ·have hw := h.word ha
  have h0 := h.bit i
  unfold bitW at h0 ⊢
  rw [List.getD_eq_getElem?_getD, List.getElem?_set]
  by_cases e : a / 64 = i / 64
  ·rw [if_pos e, if_pos hw]
   simp only [Option.getD_some]
   rw [hb _ (Nat.mod_lt _ (by decide)), getD_set_bool l a i v ha]
   by_cases e2 : a = i
   ·subst e2; simp
   ·rw [if_neg (by omega), if_neg (fun c => e2 c.symm), e, h0]
  ·have e2 : a ≠ i := fun c => e (by rw [c])
   rw [if_neg e, ← List.getD_eq_getElem?_getD, h0, getD_set_bool l a i v ha, if_neg (fun c => e2 c.symm)]
theorem or_bit (x k : Nat) (_hk : k < 64) (j : Nat) (_hj : j < 64) : (x ||| 2 ^ k).testBit j = if j = k then true else x.testBit j := by
 rw [Nat.testBit_or, Nat.testBit_two_pow]
 by_cases e : j = k
 ·subst e; simp
 ·have : ¬ k = j := fun c => e c.symm
  simp [e, this]
theorem or_lt64 (x k : Nat) (hx : x < 18446744073709551616) (hk : k < 64) : x ||| 2 ^ k < 18446744073709551616 :=
 Nat.or_lt_two_pow (n := 64) hx (Nat.pow_lt_pow_right (by decide) hk)
theorem andNot_bit (x k : Nat) (hk : k < 64) (j : Nat) (hj : j < 64) : (x &&& (18446744073709551615 - 2 ^ k)).testBit j = if j = k then false else x.testBit j := by
 have p : 2 ^ k < 2 ^ 64 := Nat.pow_lt_pow_right (by decide) hk
 have e : 18446744073709551615 - 2 ^ k = 2 ^ 64 - (2 ^ k + 1) := by omega
 rw [Nat.testBit_and, e, Nat.testBit_two_pow_sub_succ p, Nat.testBit_two_pow]
 by_cases c : j = k
 ·subst c; simp
 ·have : ¬ k = j := fun d => c d.symm
  simp [c, this, hj]
theorem andNot_lt64 (x k : Nat) (hx : x < 18446744073709551616) : x &&& (18446744073709551615 - 2 ^ k) < 18446744073709551616 := Nat.lt_of_le_of_lt Nat.and_le_left hx
theorem BitsOf.add {ws : List Nat} {l : List Bool} (h : BitsOf ws l) {a : Nat} (ha : a < l.length) : BitsOf (ws.set (a / 64) (ws.getD (a / 64) 0 ||| 2 ^ (a % 64))) (l.set a true) :=
 h.set ha true (or_lt64 _ _ (h.getD_lt _) (Nat.mod_lt _ (by decide))) (or_bit _ _ (Nat.mod_lt _ (by decide)))
theorem BitsOf.drop {ws : List Nat} {l : List Bool} (h : BitsOf ws l) {a : Nat} (ha : a < l.length) : BitsOf (ws.set (a / 64) (ws.getD (a / 64) 0 &&& (18446744073709551615 - 2 ^ (a % 64)))) (l.set a false) :=
 h.set ha false (andNot_lt64 _ _ (h.getD_lt _)) (andNot_bit _ _ (Nat.mod_lt _ (by decide)))
theorem bit_shift (x k : Nat) : (x / 2 ^ k % 2 = 1) ↔ x.testBit k = true := by
 rw [Nat.testBit_eq_decide_div_mod_eq]; simp
def LowAt (x k : Nat) : Prop := k < 64 ∧ x.testBit k = true ∧ ∀ j, j < k → x.testBit j = false
theorem low_form {x k : Nat} (h : LowAt x k) : ∃ m, x = 2 ^ k * (2 * m + 1) := by
 obtain ⟨_, h1, h2⟩ := h
 have e : x % 2 ^ k = 0 := by
  apply Nat.eq_of_testBit_eq
  intro i
  rw [Nat.testBit_mod_two_pow, Nat.zero_testBit]
  by_cases c : i < k
  ·simp [h2 i c]
  ·simp [c]
 have e2 := (bit_shift x k).2 h1
 refine ⟨x / 2 ^ k / 2, ?_⟩
 have e3 : 2 * (x / 2 ^ k / 2) + 1 = x / 2 ^ k := by omega
 rw [e3]
 have := Nat.div_add_mod x (2 ^ k)
 omega
theorem low_and {x k : Nat} (h : LowAt x k) (hx : x < 18446744073709551616) : x &&& (18446744073709551616 - x) = 2 ^ k := by
 obtain ⟨m, hm⟩ := low_form h
 have hk := h.1
 have p : 0 < 2 ^ k := Nat.two_pow_pos k
 have hxp : 0 < x := by rw [hm]; exact Nat.mul_pos p (by omega)
 have hy : x - 1 = 2 ^ k * (2 * m) + (2 ^ k - 1) := by rw [hm, Nat.mul_add, Nat.mul_one]; omega
 have e : 18446744073709551616 - x = 2 ^ 64 - (x - 1 + 1) := by omega
 apply Nat.eq_of_testBit_eq
 intro i
 rw [Nat.testBit_and, e, Nat.testBit_two_pow_sub_succ (by omega), Nat.testBit_two_pow]
 rcases Nat.lt_trichotomy i k with c | rfl | c
 ·rw [h.2.2 i c]
  have : ¬ k = i := by omega
  simp [this]
 ·rw [h.2.1]
  have : (x - 1).testBit i = false := by
   rw [hy, Nat.testBit_two_pow_mul_add _ (by omega)]
   simp
  simp [this, hk]
 ·have c1 : ¬ k = i := by omega
  have a1 : x.testBit i = (2 * m + 1).testBit (i - k) := by
   have := Nat.testBit_two_pow_mul_add (i := k) (b := 0) (2 * m + 1) p i
   rw [Nat.add_zero] at this
   rw [hm, this, if_neg (by omega)]
  have a2 : (x - 1).testBit i = (2 * m).testBit (i - k) := by
   rw [hy, Nat.testBit_two_pow_mul_add _ (by omega), if_neg (by omega)]
  obtain ⟨d, hd⟩ : ∃ d, i - k = d + 1 := ⟨i - k - 1, by omega⟩
  rw [a1, a2, hd, Nat.testBit_succ, Nat.testBit_succ]
  have : (2 * m + 1) / 2 = 2 * m / 2 := by omega
  rw [this, decide_eq_false c1]
  cases (2 * m / 2).testBit d <;> simp
theorem low_exists {x : Nat} (h0 : x ≠ 0) (hx : x < 18446744073709551616) : ∃ k, LowAt x k := by
 have hex : ∃ k, x.testBit k = true := by
  apply Classical.byContradiction
  intro hc
  apply h0
  apply Nat.eq_of_testBit_eq
  intro i
  rw [Nat.zero_testBit]
  cases hb : x.testBit i with
  | false => rfl
  | true => exact absurd ⟨i, hb⟩ hc
 have hm : ∀ n, (∃ k, k < n ∧ x.testBit k = true) → ∃ k, x.testBit k = true ∧ ∀ j, j < k → x.testBit j = false := by
  intro n
  induction n with
  | zero => rintro ⟨k, hk, _⟩; omega
  | succ n ih =>
   rintro ⟨k, hk, hb⟩
   by_cases c : ∃ k, k < n ∧ x.testBit k = true
   ·exact ih c
   ·refine ⟨k, hb, fun j hj => ?_⟩
    cases hj2 : x.testBit j with
    | false => rfl
    | true => exact absurd ⟨j, by omega, hj2⟩ c
 obtain ⟨k, hk⟩ := hex
 obtain ⟨k, h1, h2⟩ := hm (k + 1) ⟨k, by omega, hk⟩
 refine ⟨k, ?_, h1, h2⟩
 apply Classical.byContradiction
 intro hc
 rw [Nat.testBit_lt_two_pow (Nat.lt_of_lt_of_le hx (Nat.pow_le_pow_right (n := 2) (by decide) (show 64 ≤ k by omega)))] at h1
 cases h1
theorem high_bit (x r i : Nat) : (x / 2 ^ r * 2 ^ r).testBit i = (decide (r ≤ i) && x.testBit i) := by
 rw [Nat.mul_comm, Nat.testBit_two_pow_mul]
 by_cases c : r ≤ i
 ·rw [Nat.testBit_div_two_pow, show i - r + r = i by omega]
 ·simp [c]
def nextB (l : List Bool) (a : Nat) : Option Nat := ((l.drop a).findIdx? id).map (· + a)
theorem nextB_some {l : List Bool} {a i : Nat} (h1 : a ≤ i) (h2 : l.getD i false = true) (h3 : ∀ j, a ≤ j → j < i → l.getD j false = false) : nextB l a = some i := by
 unfold nextB
 have hi : i < l.length := by
  apply Classical.byContradiction
  intro c
  rw [List.getD_eq_getElem?_getD, List.getElem?_eq_none (by omega)] at h2
  simp at h2
 have : (l.drop a).findIdx? id = some (i - a) := by
  rw [List.findIdx?_eq_some_iff_getElem]
  refine ⟨by simp; omega, ?_, fun j hj => ?_⟩
  ·rw [List.getD_eq_getElem?_getD, List.getElem?_eq_getElem hi] at h2
   simp only [List.getElem_drop]
   simpa [show a + (i - a) = i by omega] using h2
  ·have := h3 (a + j) (by omega) (by omega)
   rw [List.getD_eq_getElem?_getD, List.getElem?_eq_getElem (by omega)] at this
   simpa using this
 rw [this]
 simp; omega
theorem nextB_none {l : List Bool} {a : Nat} (h : ∀ j, a ≤ j → l.getD j false = false) : nextB l a = none := by
 unfold nextB
 have : (l.drop a).findIdx? id = none := by
  rw [List.findIdx?_eq_none_iff]
  intro x hx
  obtain ⟨j, hj, rfl⟩ := List.mem_iff_getElem.1 hx
  have := h (a + j) (by omega)
  simp at hj
  rw [List.getD_eq_getElem?_getD, List.getElem?_eq_getElem (by omega)] at this
  simpa using this
 rw [this]; rfl
theorem nextB_is {l : List Bool} {a i : Nat} (h : nextB l a = some i) : a ≤ i ∧ l.getD i false = true ∧ i < l.length ∧ ∀ j, a ≤ j → j < i → l.getD j false = false := by
 unfold nextB at h
 cases hf : (l.drop a).findIdx? id with
 | none => rw [hf] at h; cases h
 | some k =>
  rw [hf] at h
  obtain rfl : k + a = i := by simpa using h
  rw [List.findIdx?_eq_some_iff_getElem] at hf
  obtain ⟨hk, h1, h2⟩ := hf
  simp at hk
  refine ⟨by omega, ?_, by omega, fun j h3 h4 => ?_⟩
  ·rw [List.getD_eq_getElem?_getD, List.getElem?_eq_getElem (by omega)]
   simpa [Nat.add_comm] using h1
  ·have := h2 (j - a) (by omega)
   rw [List.getD_eq_getElem?_getD, List.getElem?_eq_getElem (by omega)]
   simpa [show a + (j - a) = j by omega] using this
theorem nextB_not {l : List Bool} {a : Nat} (h : nextB l a = none) : ∀ j, a ≤ j → l.getD j false = false := by
 intro j hj
 cases hb : l.getD j false with
 | false => rfl
 | true =>
  exfalso
  have hl : j < l.length := by
   apply Classical.byContradiction
   intro c
   rw [List.getD_eq_getElem?_getD, List.getElem?_eq_none (by omega)] at hb
   simp at hb
  unfold nextB at h
  rw [Option.map_eq_none_iff, List.findIdx?_eq_none_iff] at h
  have := h l[j] (by rw [List.mem_iff_getElem]; exact ⟨j - a, by simp; omega, by simp [show a + (j - a) = j by omega]⟩)
  rw [List.getD_eq_getElem?_getD, List.getElem?_eq_getElem hl] at hb
  simp at this hb
  rw [this] at hb; cases hb
def onesL (l : List Bool) : List Nat := (List.range l.length).filter (fun i => l.getD i false)
def onesF (l : List Bool) (a : Nat) : List Nat := (onesL l).filter (fun i => decide (a ≤ i))
theorem onesF_zero (l : List Bool) : onesF l 0 = onesL l := by unfold onesF; simp
theorem range_split (n a : Nat) (h : a ≤ n) : List.range n = List.range a ++ (List.range (n - a)).map (a + ·) := by
 have : n = a + (n - a) := by omega
 rw [this, List.range_add, show a + (n - a) - a = n - a by omega]
theorem onesF_eq (l : List Bool) (a : Nat) (h : a ≤ l.length) : onesF l a = ((List.range (l.length - a)).map (a + ·)).filter (fun i => l.getD i false) := by
 unfold onesF onesL
 rw [range_split l.length a h, List.filter_append, List.filter_append]
 have e1 : (List.filter (fun i => decide (a ≤ i)) (List.filter (fun i => l.getD i false) (List.range a))) = [] := by
  rw [List.filter_eq_nil_iff]
  intro x hx
  have := List.mem_range.1 (List.mem_filter.1 hx).1
  simp; omega
 rw [e1, List.nil_append, List.filter_eq_self]
 intro x hx
 obtain ⟨j, _, rfl⟩ := List.mem_map.1 (List.mem_filter.1 hx).1
 simp
theorem onesF_step {l : List Bool} {a i : Nat} (h : nextB l a = some i) : onesF l a = i :: onesF l (i + 1) := by
 obtain ⟨h1, h2, h3, h4⟩ := nextB_is h
 rw [onesF_eq l a (by omega), onesF_eq l (i + 1) (by omega)]
 have e : List.range (l.length - a) = List.range (i - a) ++ (List.range (l.length - a - (i - a))).map ((i - a) + ·) := range_split _ _ (by omega)
 obtain ⟨m, hm⟩ : ∃ m, l.length - a - (i - a) = m + 1 := ⟨l.length - i - 1, by omega⟩
 rw [e, hm, List.range_succ_eq_map, List.map_append, List.filter_append]
 have e1 : List.filter (fun i => l.getD i false) (List.map (a + ·) (List.range (i - a))) = [] := by
  rw [List.filter_eq_nil_iff]
  intro x hx
  obtain ⟨j, hj, rfl⟩ := List.mem_map.1 hx
  have := List.mem_range.1 hj
  rw [h4 (a + j) (by omega) (by omega)]
  simp
 rw [e1, List.nil_append]
 simp only [List.map_cons, List.map_map]
 rw [List.filter_cons, if_pos (by simpa [show a + (i - a) = i by omega] using h2)]
 rw [show a + (i - a + 0) = i by omega, show l.length - (i + 1) = m by omega]
 congr 2
 apply List.map_congr_left
 intro x _
 simp only [Function.comp_apply]
 omega
theorem onesF_none {l : List Bool} {a : Nat} (h : nextB l a = none) : onesF l a = [] := by
 unfold onesF onesL
 rw [List.filter_filter, List.filter_eq_nil_iff]
 intro x _
 simp only [Bool.and_eq_true, decide_eq_true_eq, not_and]
 intro h1
 rw [nextB_not h x h1]; simp
theorem mem_onesL {l : List Bool} {i : Nat} : i ∈ onesL l ↔ l.getD i false = true := by
 unfold onesL
 rw [List.mem_filter, List.mem_range]
 refine ⟨fun h => h.2, fun h => ⟨?_, h⟩⟩
 apply Classical.byContradiction
 intro c
 rw [List.getD_eq_getElem?_getD, List.getElem?_eq_none (by omega)] at h
 simp at h
theorem onesL_length (l : List Bool) : (onesL l).length = l.count true := by
 have : ∀ (l : List Bool) (k : Nat), ((List.range l.length).filter (fun i => l.getD i false)).length = l.count true := by
  intro l k
  induction l with
  | nil => rfl
  | cons b t ih =>
   rw [List.length_cons, List.range_succ_eq_map, List.filter_cons, List.filter_map, List.count_cons]
   have e : (fun i => (b :: t).getD i false) ∘ Nat.succ = fun i => t.getD i false := by funext i; simp
   rw [e]
   cases b <;> (simp at ih ⊢; exact ih)
 exact this l 0
theorem count_set_true {l : List Bool} {a : Nat} (ha : a < l.length) (h : l.getD a false = false) : (l.set a true).count true = l.count true + 1 := by
 have := List.count_set (a := true) (b := true) ha
 rw [List.getD_eq_getElem?_getD, List.getElem?_eq_getElem ha] at h
 simp at h
 rw [this, h]
 simp
theorem count_set_false {l : List Bool} {a : Nat} (ha : a < l.length) (h : l.getD a false = true) : (l.set a false).count true = l.count true - 1 := by
 have := List.count_set (a := false) (b := true) ha
 rw [List.getD_eq_getElem?_getD, List.getElem?_eq_getElem ha] at h
 simp at h
 rw [this, h]
 simp
theorem count_pos {l : List Bool} {a : Nat} (h : l.getD a false = true) : 1 ≤ l.count true := by
 have := mem_onesL.2 h
 rw [← onesL_length]
 exact List.length_pos_of_mem this
theorem count_le_len (l : List Bool) : l.count true ≤ l.length := List.count_le_length
end Go.Proofs.YtpopbfagliagnaaGreat
namespace Go.Proofs.YtpopbfagliagnaaGreat
open Go.RowKit
structure SetF where
 u : Nat
 b : Nat
 c : Nat
def SetF.list (X : SetF) : List Nat := [X.u, X.b]
def setV (X : SetF) (n : Nat) (l : List Bool) : Array Value := #[.slice (some ⟨X.b, 0, none⟩) n X.c, .int .i64 (l.length : Int), .int .i64 (l.count true : Int)]
structure SetIn (w : World) (X : SetF) (ws : List Nat) (l : List Bool) : Prop where
 bits : BitsOf ws l
 head : w.heap[X.u]? = some (.cells (setV X ws.length l) 358 (0, 0))
 row : RowAt w X.b 40 (ws.map vu64)
 ne : X.u ≠ X.b
 small : l.length ≤ 1000000
def SetAt (w : World) (X : SetF) (l : List Bool) : Prop := ∃ ws, SetIn w X ws l
abbrev vset (X : SetF) : Value := .pointer (some ⟨X.u, 0, none⟩)
theorem SetIn.keep {w w' : World} {X : SetF} {ws : List Nat} {l : List Bool} (h : SetIn w X ws l) (hk : ∀ k ∈ X.list, w'.heap[k]? = w.heap[k]?) : SetIn w' X ws l :=
 ⟨h.bits, (hk X.u (by simp [SetF.list])).trans h.head, h.row.keep (hk X.b (by simp [SetF.list])), h.ne, h.small⟩
theorem SetAt.keep {w w' : World} {X : SetF} {l : List Bool} (h : SetAt w X l) (hk : ∀ k ∈ X.list, w'.heap[k]? = w.heap[k]?) : SetAt w' X l := by
 obtain ⟨ws, h⟩ := h; exact ⟨ws, h.keep hk⟩
theorem SetAt.mem {w : World} {X : SetF} {l : List Bool} (h : SetAt w X l) : ∀ k ∈ X.list, k < w.heap.size := by
 obtain ⟨ws, h⟩ := h
 have h1 := (Array.getElem?_eq_some_iff.1 h.head).1
 have h2 := h.row.lt
 simp only [SetF.list, List.mem_cons, List.not_mem_nil, or_false, forall_eq_or_imp, forall_eq]
 exact ⟨h1, h2⟩
theorem SetAt.below {w w' : World} {X : SetF} {l : List Bool} (h : SetAt w X l) (hb : Below w.heap.size w w') : SetAt w' X l := h.keep (fun k hk => hb.block k (h.mem k hk))
theorem SetAt.small {w : World} {X : SetF} {l : List Bool} (h : SetAt w X l) : l.length ≤ 1000000 := by obtain ⟨_, h⟩ := h; exact h.small
theorem SetIn.c0 {w : World} {X : SetF} {ws : List Nat} {l : List Bool} (h : SetIn w X ws l) : w.cell? ⟨X.u, 0, none⟩ = some (.slice (some ⟨X.b, 0, none⟩) ws.length X.c) := cell_of_row _ _ 0 _ _ _ h.head
theorem SetIn.c1 {w : World} {X : SetF} {ws : List Nat} {l : List Bool} (h : SetIn w X ws l) : w.cell? ⟨X.u, 1, none⟩ = some (.int .i64 (l.length : Int)) := cell_of_row _ _ 1 _ _ _ h.head
set_option maxHeartbeats 1000000 in
theorem sin_any {w : World} {X : SetF} {l : List Bool} (h : SetAt w X l) (a : Int) :
  Calls Tryz.prog 238 #[vset X, .int .i64 a] w fun e w' => e = .returned (.bool (decide (0 ≤ a ∧ a < (l.length : Int)))) ∧ w = w' := by
 obtain ⟨ws, h⟩ := h
 have c1 := h.c1
 have hs := h.small
 clear h
 by_cases h0 : 0 ≤ a
 ·have h0' : decide (0 ≤ a) = true := by simpa using h0
  by_cases h1 : a < (l.length : Int)
  ·have HR : Hid (decide (0 ≤ a ∧ a < (l.length : Int)) = true) := LH (by simp [h0, h1])
   generalize decide (0 ≤ a ∧ a < (l.length : Int)) = r at *
   go_enter Tryz.func238, Tryz.ntmps238
   go_wp2_with fail
   go_ret
   exact ⟨by rw [HR.out]; rfl, rfl⟩
  ·have HR : Hid (decide (0 ≤ a ∧ a < (l.length : Int)) = false) := LH (by simp [h1])
   have h1' : (l.length : Int) ≤ a := by omega
   generalize decide (0 ≤ a ∧ a < (l.length : Int)) = r at *
   go_enter Tryz.func238, Tryz.ntmps238
   go_wp2_with fail
   go_ret
   exact ⟨by rw [HR.out]; rfl, rfl⟩
 ·have HR : Hid (decide (0 ≤ a ∧ a < (l.length : Int)) = false) := LH (by simp [h0])
  have h0' : decide (0 ≤ a) = false := by simpa using h0
  generalize decide (0 ≤ a ∧ a < (l.length : Int)) = r at *
  go_enter Tryz.func238, Tryz.ntmps238
  go_wp2_with fail
  go_ret
  exact ⟨by rw [HR.out]; rfl, rfl⟩
def hasI (l : List Bool) (a : Int) : Bool := decide (0 ≤ a) && l.getD a.toNat false
theorem hasI_nat (l : List Bool) (j : Nat) : hasI l (j : Int) = l.getD j false := by unfold hasI; simp
theorem hasI_out {l : List Bool} {a : Int} (h : decide (0 ≤ a ∧ a < (l.length : Int)) = false) : hasI l a = false := by
 unfold hasI
 by_cases h0 : 0 ≤ a
 ·have : ¬ a < (l.length : Int) := by simpa [h0] using h
  rw [List.getD_eq_getElem?_getD, List.getElem?_eq_none (by omega)]; simp
 ·simp [h0]
theorem bit_one (x r : Nat) (hx : x < 18446744073709551616) : bits BinOp.and IntKind.u64 ((x / 2 ^ r : Nat) : Int) 1 = ((x / 2 ^ r % 2 : Nat) : Int) := by
 have h1 : x / 2 ^ r < 18446744073709551616 := Nat.lt_of_le_of_lt (Nat.div_le_self _ _) hx
 have := u64_and_nat (x / 2 ^ r) 1 h1 (by decide)
 rw [show (1 : Int) = ((1 : Nat) : Int) from rfl, this, Nat.and_one_is_mod]
theorem bit_eq (x m : Nat) : (((x / 2 ^ m % 2 : Nat) : Int) == 1) = x.testBit m := by
 have h := bit_shift x m
 cases hb : x.testBit m with
 | false =>
  have : x / 2 ^ m % 2 = 0 := by
   have : ¬ x / 2 ^ m % 2 = 1 := fun c => by rw [h.1 c] at hb; cases hb
   omega
  rw [this]; rfl
 | true =>
  have := h.2 hb
  rw [this]; rfl
set_option maxHeartbeats 1000000 in
theorem shas_any {w : World} {X : SetF} {l : List Bool} (h : SetAt w X l) (a : Int) :
  Calls Tryz.prog 157 #[vset X, .int .i64 a] w fun e w' => e = .returned (.bool (hasI l a)) ∧ w = w' := by
 have HS := LH h
 obtain ⟨ws, h⟩ := h
 have c0 := h.c0
 by_cases hin : 0 ≤ a ∧ a < (l.length : Int)
 ·obtain ⟨j, rfl⟩ := Int.eq_ofNat_of_zero_le hin.1
  have hj : j < l.length := by omega
  have HT : Hid (decide (0 ≤ (j : Int) ∧ (j : Int) < (l.length : Int)) = true) := LH (by simp [hj])
  have hw := h.bits.word hj
  have HB := LH (h.bits.bit j)
  have hx := h.bits.getD_lt (j / 64)
  have d0 : w.cell? ⟨X.b, j / 64, none⟩ = some (vu64 (ws.getD (j / 64) 0)) := h.row.cell (by simp [hw])
  have HH := LH (hasI_nat l j)
  unfold bitW at HB
  have HO := LH (bit_one (ws.getD (j / 64) 0) (j % 64) hx)
  have HE := LH (bit_shift (ws.getD (j / 64) 0) (j % 64))
  have hsm := h.small
  generalize ws.getD (j / 64) 0 = x at *
  generalize hasI l (j : Int) = r at *
  generalize l.getD j false = r2 at *
  generalize hr : j % 64 = m at *
  generalize hq : j / 64 = q at *
  have hm : m < 64 := by omega
  have e1 : (j : Int) / 64 = (q : Int) := by omega
  have e2 : (j : Int) % 64 = (m : Int) := by omega
  clear h hin hr hq
  go_enter Tryz.func157, Tryz.ntmps157
  go_wp2_with fail
  refine (sin_any HS.out (j : Int)).mono ?_
  rintro e w1 ⟨rfl, rfl⟩
  rw [HT.out]
  go_wp2_with fail
  go_ret
  have e : ((x : Int) / 2 ^ m) = ((x / 2 ^ m : Nat) : Int) := by push_cast; rfl
  refine ⟨?_, rfl⟩
  rw [HH.out, ← HB.out, ← bit_eq, ← HO.out, ← e]
  rfl
 ·have HT : Hid (decide (0 ≤ a ∧ a < (l.length : Int)) = false) := LH (by simpa using hin)
  have HH := LH (hasI_out HT.out)
  generalize hasI l a = r at *
  clear h hin c0
  go_enter Tryz.func157, Tryz.ntmps157
  go_wp2_with fail
  refine (sin_any HS.out a).mono ?_
  rintro e w1 ⟨rfl, rfl⟩
  rw [HT.out]
  go_wp2_with fail
  go_ret
  exact ⟨by rw [HH.out]; rfl, rfl⟩
theorem or_val1 (x m : Nat) (hx : x < 18446744073709551616) (hm : m < 64) : bits BinOp.or IntKind.u64 (x : Int) (IntKind.u64.wrap ((2 : Int) ^ m)) = ((x ||| 2 ^ m : Nat) : Int) := by
 have p : 2 ^ m < 18446744073709551616 := Nat.pow_lt_pow_right (n := 64) (by decide) hm
 have e : IntKind.u64.wrap ((2 : Int) ^ m) = ((2 ^ m : Nat) : Int) := by
  rw [show (2 : Int) ^ m = ((2 ^ m : Nat) : Int) by push_cast; rfl]
  generalize 2 ^ m = y at p ⊢
  rw [IntKind.wrap_u64]; omega
 rw [e, u64_or_nat _ _ hx p]
theorem andNot_val1 (x m : Nat) (hx : x < 18446744073709551616) (hm : m < 64) : bits BinOp.andNot IntKind.u64 (x : Int) (IntKind.u64.wrap ((2 : Int) ^ m)) = ((x &&& (18446744073709551615 - 2 ^ m) : Nat) : Int) := by
 have p : 2 ^ m < 18446744073709551616 := Nat.pow_lt_pow_right (n := 64) (by decide) hm
 have e : IntKind.u64.wrap ((2 : Int) ^ m) = ((2 ^ m : Nat) : Int) := by
  rw [show (2 : Int) ^ m = ((2 ^ m : Nat) : Int) by push_cast; rfl]
  generalize 2 ^ m = y at p ⊢
  rw [IntKind.wrap_u64]; omega
 rw [e, u64_andNot_nat _ _ hx p]
structure SetMid (w w1 : World) (X : SetF) (ws : List Nat) (l : List Bool) : Prop where
 head : w1.heap[X.u]? = some (.cells (setV X ws.length l) 358 (0, 0))
 row : RowAt w1 X.b 40 (ws.map vu64)
 touch : Touch X.list w w1
theorem SetIn.mid {w : World} {X : SetF} {ws : List Nat} {l : List Bool} (h : SetIn w X ws l) (q y : Nat) (hq : q < ws.length) : SetMid w (w.setCell ⟨X.b, q, none⟩ (vu64 y)) X (ws.set q y) l := by
 refine ⟨?_, ?_, Touch.setCell _ (by simp [SetF.list]) _⟩
 ·rw [List.length_set]
  exact (Below.heap_setCell _ _ _ _ h.ne).trans h.head
 ·rw [List.map_set]; exact h.row.set q (by simpa using hq) _
theorem SetMid.done {w w1 : World} {X : SetF} {ws : List Nat} {l l' : List Bool} (h : SetMid w w1 X ws l) (hb : BitsOf ws l') (hl : l'.length = l.length) (hs : l.length ≤ 1000000) (hn : X.u ≠ X.b) {c : Int} (hc : c = (l'.count true : Int)) :
  SetAt (w1.setCell ⟨X.u, 2, none⟩ (.int .i64 c)) X l' ∧ Touch X.list w (w1.setCell ⟨X.u, 2, none⟩ (.int .i64 c)) := by
 subst hc
 refine ⟨⟨ws, hb, ?_, h.row.keep (Below.heap_setCell _ _ _ _ (fun e => hn e.symm)), hn, by omega⟩, h.touch.trans (Touch.setCell _ (by simp [SetF.list]) _)⟩
 rw [heap_setCell_same w1 X.u 2 _ _ _ h.head]
 unfold setV
 rw [hl]
 rfl
theorem SetMid.c2 {w w1 : World} {X : SetF} {ws : List Nat} {l : List Bool} (h : SetMid w w1 X ws l) : w1.cell? ⟨X.u, 2, none⟩ = some (.int .i64 (l.count true : Int)) ∧ w1.frozen? ⟨X.u, 2, none⟩ = false := ⟨cell_of_row _ _ 2 _ _ _ h.head, frozen_of_row _ _ _ _ _ h.head⟩
set_option maxHeartbeats 1000000 in
theorem sadd_new {w : World} {X : SetF} {l : List Bool} (h : SetAt w X l) (j : Nat) (hj : j < l.length) (hno : l.getD j false = false) :
  Calls Tryz.prog 212 #[vset X, .int .i64 (j : Int)] w fun e w' => e = .returned (.bool true) ∧ SetAt w' X (l.set j true) ∧ Touch X.list w w' := by
 have HS := LH h
 obtain ⟨ws, h⟩ := h
 have c0 := h.c0
 have HT : Hid (decide (0 ≤ (j : Int) ∧ (j : Int) < (l.length : Int)) = true) := LH (by simp [hj])
 have hw := h.bits.word hj
 have HBits := LH (h.bits.add hj)
 have hx := h.bits.getD_lt (j / 64)
 have d0 : w.cell? ⟨X.b, j / 64, none⟩ = some (vu64 (ws.getD (j / 64) 0)) := h.row.cell (by simp [hw])
 have HH : Hid (hasI l (j : Int) = false) := LH (by rw [hasI_nat, hno])
 have hsm := h.small
 have HI := LH h
 have HC := LH (count_set_true hj hno)
 have hcl := count_le_len l
 have f0 : w.frozen? ⟨X.b, j / 64, none⟩ = false := h.row.frozen _
 generalize ws.getD (j / 64) 0 = x at *
 generalize hr : j % 64 = m at *
 generalize hq : j / 64 = q at *
 have hm : m < 64 := by omega
 have e1 : (j : Int) / 64 = (q : Int) := by omega
 have e2 : (j : Int) % 64 = (m : Int) := by omega
 clear h hr hq hno
 go_enter Tryz.func212, Tryz.ntmps212
 go_wp2_with fail
 refine (sin_any HS.out (j : Int)).mono ?_
 rintro e w1 ⟨rfl, rfl⟩
 rw [HT.out]
 go_wp2_with fail
 refine (shas_any HS.out (j : Int)).mono ?_
 rintro e w1 ⟨rfl, rfl⟩
 rw [HH.out]
 go_upto_region 4 with fail
 rw [or_val1 x m hx hm]
 have HMid := LH (HI.out.mid q (x ||| 2 ^ m) hw)
 clear d0 f0 c0
 generalize w.setCell _ _ = w1 at *
 obtain ⟨c2, f2⟩ := HMid.out.c2
 go_wp2_with fail
 go_ret
 refine ⟨rfl, HMid.out.done HBits.out (by simp) hsm HI.out.ne ?_⟩
 rw [HC.out]; push_cast; rfl
set_option maxHeartbeats 1000000 in
theorem sadd_not {w : World} {X : SetF} {l : List Bool} (h : SetAt w X l) (a : Int) (hno : hasI l a = true ∨ decide (0 ≤ a ∧ a < (l.length : Int)) = false) :
  Calls Tryz.prog 212 #[vset X, .int .i64 a] w fun e w' => e = .returned (.bool false) ∧ w = w' := by
 have HS := LH h
 clear h
 cases hd : decide (0 ≤ a ∧ a < (l.length : Int)) with
 | false =>
  have HD := LH hd
  clear hd hno
  go_enter Tryz.func212, Tryz.ntmps212
  go_wp2_with fail
  refine (sin_any HS.out a).mono ?_
  rintro e w1 ⟨rfl, rfl⟩
  rw [HD.out]
  go_wp2_with fail
  go_ret
  exact ⟨rfl, rfl⟩
 | true =>
  have HD := LH hd
  have HH : Hid (hasI l a = true) := LH (hno.resolve_right (by rw [hd]; simp))
  clear hd hno
  go_enter Tryz.func212, Tryz.ntmps212
  go_wp2_with fail
  refine (sin_any HS.out a).mono ?_
  rintro e w1 ⟨rfl, rfl⟩
  rw [HD.out]
  go_wp2_with fail
  refine (shas_any HS.out a).mono ?_
  rintro e w1 ⟨rfl, rfl⟩
  rw [HH.out]
  go_wp2_with fail
  go_ret
  exact ⟨rfl, rfl⟩
def freshI (l : List Bool) (a : Int) : Bool := decide (0 ≤ a ∧ a < (l.length : Int)) && !hasI l a
def addI (l : List Bool) (a : Int) : List Bool := if freshI l a then l.set a.toNat true else l
theorem sadd_any {w : World} {X : SetF} {l : List Bool} (h : SetAt w X l) (a : Int) :
  Calls Tryz.prog 212 #[vset X, .int .i64 a] w fun e w' => e = .returned (.bool (freshI l a)) ∧ SetAt w' X (addI l a) ∧ Touch X.list w w' := by
 unfold addI
 cases hf : freshI l a with
 | true =>
  unfold freshI at hf
  simp only [Bool.and_eq_true, decide_eq_true_eq, Bool.not_eq_true'] at hf
  obtain ⟨⟨h1, h2⟩, h3⟩ := hf
  obtain ⟨j, rfl⟩ := Int.eq_ofNat_of_zero_le h1
  rw [hasI_nat] at h3
  rw [if_pos rfl]
  exact sadd_new h j (by omega) h3
 | false =>
  rw [if_neg (by simp)]
  refine (sadd_not h a ?_).mono ?_
  ·unfold freshI at hf
   cases hd : decide (0 ≤ a ∧ a < (l.length : Int)) with
   | false => exact .inr rfl
   | true => rw [hd] at hf; simp at hf; exact .inl hf
  ·rintro e w' ⟨rfl, rfl⟩
   exact ⟨rfl, h, Touch.refl _ _⟩
set_option maxHeartbeats 1000000 in
theorem sdrop_has {w : World} {X : SetF} {l : List Bool} (h : SetAt w X l) (j : Nat) (hj : j < l.length) (hyes : l.getD j false = true) :
  Calls Tryz.prog 170 #[vset X, .int .i64 (j : Int)] w fun e w' => e = .returned (.bool true) ∧ SetAt w' X (l.set j false) ∧ Touch X.list w w' := by
 have HS := LH h
 obtain ⟨ws, h⟩ := h
 have c0 := h.c0
 have hw := h.bits.word hj
 have HBits := LH (h.bits.drop hj)
 have hx := h.bits.getD_lt (j / 64)
 have d0 : w.cell? ⟨X.b, j / 64, none⟩ = some (vu64 (ws.getD (j / 64) 0)) := h.row.cell (by simp [hw])
 have HH : Hid (hasI l (j : Int) = true) := LH (by rw [hasI_nat, hyes])
 have hsm := h.small
 have HI := LH h
 have HC := LH (count_set_false hj hyes)
 have hcl := count_le_len l
 have hc1 := count_pos hyes
 have f0 : w.frozen? ⟨X.b, j / 64, none⟩ = false := h.row.frozen _
 generalize ws.getD (j / 64) 0 = x at *
 generalize hr : j % 64 = m at *
 generalize hq : j / 64 = q at *
 have hm : m < 64 := by omega
 have e1 : (j : Int) / 64 = (q : Int) := by omega
 have e2 : (j : Int) % 64 = (m : Int) := by omega
 clear h hr hq hyes
 go_enter Tryz.func170, Tryz.ntmps170
 go_wp2_with fail
 refine (shas_any HS.out (j : Int)).mono ?_
 rintro e w1 ⟨rfl, rfl⟩
 rw [HH.out]
 go_upto_region 4 with fail
 rw [andNot_val1 x m hx hm]
 have HMid := LH (HI.out.mid q (x &&& (18446744073709551615 - 2 ^ m)) hw)
 clear d0 f0 c0
 generalize w.setCell _ _ = w1 at *
 obtain ⟨c2, f2⟩ := HMid.out.c2
 go_wp2_with fail
 go_ret
 refine ⟨rfl, HMid.out.done HBits.out (by simp) hsm HI.out.ne ?_⟩
 rw [HC.out]; omega
def dropI (l : List Bool) (a : Int) : List Bool := if hasI l a then l.set a.toNat false else l
theorem sdrop_not {w : World} {X : SetF} {l : List Bool} (h : SetAt w X l) (a : Int) (hno : hasI l a = false) :
  Calls Tryz.prog 170 #[vset X, .int .i64 a] w fun e w' => e = .returned (.bool false) ∧ w = w' := by
 have HS := LH h
 have HH := LH hno
 clear h hno
 go_enter Tryz.func170, Tryz.ntmps170
 go_wp2_with fail
 refine (shas_any HS.out a).mono ?_
 rintro e w1 ⟨rfl, rfl⟩
 rw [HH.out]
 go_wp2_with fail
 go_ret
 exact ⟨rfl, rfl⟩
theorem hasI_is {l : List Bool} {a : Int} (h : hasI l a = true) : ∃ j : Nat, a = (j : Int) ∧ j < l.length ∧ l.getD j false = true := by
 unfold hasI at h
 simp only [Bool.and_eq_true, decide_eq_true_eq] at h
 obtain ⟨j, rfl⟩ := Int.eq_ofNat_of_zero_le h.1
 have h2 := h.2
 rw [Int.toNat_natCast] at h2
 refine ⟨j, rfl, ?_, h2⟩
 apply Classical.byContradiction
 intro c
 rw [List.getD_eq_getElem?_getD, List.getElem?_eq_none (by omega)] at h2
 simp at h2
theorem sdrop_any {w : World} {X : SetF} {l : List Bool} (h : SetAt w X l) (a : Int) :
  Calls Tryz.prog 170 #[vset X, .int .i64 a] w fun e w' => e = .returned (.bool (hasI l a)) ∧ SetAt w' X (dropI l a) ∧ Touch X.list w w' := by
 unfold dropI
 cases hf : hasI l a with
 | true =>
  obtain ⟨j, rfl, hj, h2⟩ := hasI_is hf
  rw [if_pos rfl]
  exact sdrop_has h j hj h2
 | false =>
  rw [if_neg (by simp)]
  refine (sdrop_not h a hf).mono ?_
  rintro e w' ⟨rfl, rfl⟩
  exact ⟨rfl, h, Touch.refl _ _⟩
def countI (x : Int) : Int :=
 let a := IntKind.u64.wrap (x - bits BinOp.and IntKind.u64 (x / 2) 6148914691236517205)
 let b := IntKind.u64.wrap (bits BinOp.and IntKind.u64 a 3689348814741910323 + bits BinOp.and IntKind.u64 (a / 4) 3689348814741910323)
 let c := bits BinOp.and IntKind.u64 (IntKind.u64.wrap (b + b / 16)) 1085102592571150095
 wrap64 (IntKind.u64.wrap (c * 72340172838076673) / 72057594037927936)
theorem count_fin : ∀ k : Fin 64, countI ((2 ^ k.val - 1 : Nat) : Int) = ((k.val : Nat) : Int) := by decide +kernel
set_option maxHeartbeats 1000000 in
theorem popcount_any (k : Nat) (hk : k < 64) (w : World) : Calls Tryz.prog 343 #[vu64 (2 ^ k - 1)] w fun e w' => e = .returned (.int .i64 (k : Int)) ∧ w = w' := by
 have HF := LH (count_fin ⟨k, hk⟩)
 dsimp only at HF
 have hx : 2 ^ k - 1 < 18446744073709551616 := by have := pow_lt64 hk; omega
 generalize 2 ^ k - 1 = x at *
 go_enter Tryz.func343, Tryz.ntmps343
 go_wp2_with fail
 go_ret
 refine ⟨?_, rfl⟩
 show Ending.returned (.int .i64 (countI (x : Int))) = _
 rw [HF.out]
theorem low_val {x k : Nat} (hk : LowAt x k) (hx : x < 18446744073709551616) : IntKind.u64.wrap (bits BinOp.and IntKind.u64 (x : Int) (IntKind.u64.wrap (-(x : Int))) - 1) = ((2 ^ k - 1 : Nat) : Int) := by
 have p := pow_lt64 hk.1
 have p1 : 0 < 2 ^ k := Nat.two_pow_pos k
 have hx0 : 0 < x := by
  obtain ⟨m, hm⟩ := low_form hk
  rw [hm]; exact Nat.mul_pos p1 (by omega)
 have e1 : IntKind.u64.wrap (-(x : Int)) = ((18446744073709551616 - x : Nat) : Int) := by rw [IntKind.wrap_u64]; omega
 rw [e1, u64_and_nat _ _ hx (by omega), low_and hk hx]
 generalize 2 ^ k = y at p p1 ⊢
 rw [IntKind.wrap_u64]; omega
set_option maxHeartbeats 1000000 in
theorem lowest_any (x k : Nat) (hk : LowAt x k) (hx : x < 18446744073709551616) (w : World) : Calls Tryz.prog 318 #[vu64 x] w fun e w' => e = .returned (.int .i64 (k : Int)) ∧ w = w' := by
 have HV := LH (low_val hk hx)
 have hk64 := hk.1
 go_enter Tryz.func318, Tryz.ntmps318
 go_wp2_with fail
 rw [HV.out]
 refine (popcount_any k hk64 _).mono ?_
 rintro e w1 ⟨rfl, rfl⟩
 go_wp2_with fail
 go_ret
 exact ⟨rfl, rfl⟩
theorem up64 (n : Nat) : upN (n : Int) 64 = (((n + 63) / 64 : Nat) : Int) := by
 unfold upN
 split <;> omega
def NewSet (n : Nat) (w : World) : Ending → World → Prop := fun e w' => ∃ X : SetF, e = .returned (vset X) ∧ SetAt w' X (List.replicate n false) ∧ Below w.heap.size w w' ∧ ∀ k ∈ X.list, w.heap.size ≤ k
set_option maxHeartbeats 1000000 in
theorem snew_any (n : Nat) (h1 : 1 ≤ n) (hn : n ≤ 1000000) (w : World) : Calls Tryz.prog 210 #[.int .i64 (n : Int)] w (NewSet n w) := by
 have HUp := LH (up64 n)
 have HBits := LH (bits_new n)
 have hm1 : 1 ≤ (n + 63) / 64 := by omega
 have hm2 : (n + 63) / 64 ≤ 1000000 := by omega
 generalize (n + 63) / 64 = m at *
 have HP : Hid (∀ (X : SetF) (w' : World), SetAt w' X (List.replicate n false) → Below w.heap.size w w' → (∀ k ∈ X.list, w.heap.size ≤ k) → NewSet n w (.returned (vset X)) w') := LH (fun X w' a b c => ⟨X, rfl, a, b, c⟩)
 generalize NewSet n w = Post at *
 have hmx : max (n : Int) 0 = (n : Int) := by omega
 go_enter Tryz.func210, Tryz.ntmps210
 go_wp2_with fail
 refine (up_any _ _ _ (by omega) (by omega)).mono ?_
 rintro e w1 ⟨rfl, rfl⟩
 rw [HUp.out]
 go_wp2_with (at_make; refine wpList_make_len el64 w.heap.size m rfl rfl rfl (by omega) (by decide) (Nat.le_refl _) rfl rfl rfl rfl ?_; intro w1 hown hgrow; have HR : Hid (RowAt w1 w.heap.size 40 ((List.replicate m 0).map vu64)) := LH (by rw [List.map_replicate]; exact owned_row hown); have HB := LH (below_grown hgrow (Nat.le_refl _)); clear hown hgrow)
 have hb := below_alloc w1 (Obj.cells #[Value.slice (some ⟨w.heap.size, 0, none⟩) m m, Value.int IntKind.i64 (n : Int), Value.int IntKind.i64 0] 358)
 have hs := HB.out.size
 have hl := HR.out.lt
 refine HP.out ⟨w1.heap.size, w.heap.size, m⟩ _ ⟨List.replicate m 0, HBits.out, ?_, HR.out.keep (hb.block _ hl), by dsimp only; omega, by simpa using hn⟩ (HB.out.trans (hb.mono hs)) ?_
 ·have e : setV ⟨w1.heap.size, w.heap.size, m⟩ (List.replicate m 0).length (List.replicate n false) = #[Value.slice (some ⟨w.heap.size, 0, none⟩) m m, Value.int IntKind.i64 (n : Int), Value.int IntKind.i64 0] := by simp [setV, List.count_replicate]
  rw [e]
  exact heap_alloc_new _ _
 ·intro k hk
  simp only [SetF.list, List.mem_cons, List.not_mem_nil, or_false] at hk
  rcases hk with rfl | rfl
  ·exact hs
  ·exact Nat.le_refl _
structure NextInv (ws : List Nat) (l : List Bool) (n q y : Nat) : Prop where
 lt : q < ws.length
 y64 : y < 18446744073709551616
 past : ∀ j, n ≤ j → j < 64 * q → l.getD j false = false
 bit : ∀ b, b < 64 → y.testBit b = (decide (n ≤ 64 * q + b) && l.getD (64 * q + b) false)
theorem BitsOf.at {ws : List Nat} {l : List Bool} (h : BitsOf ws l) (q b : Nat) (hb : b < 64) : (ws.getD q 0).testBit b = l.getD (64 * q + b) false := by
 have := h.bit (64 * q + b)
 unfold bitW at this
 rwa [show (64 * q + b) / 64 = q by omega, show (64 * q + b) % 64 = b by omega] at this
theorem NextInv.start {ws : List Nat} {l : List Bool} (h : BitsOf ws l) {n : Nat} (hn : n < l.length) : NextInv ws l n (n / 64) (ws.getD (n / 64) 0 / 2 ^ (n % 64) * 2 ^ (n % 64)) := by
 refine ⟨h.word hn, Nat.lt_of_le_of_lt (Nat.div_mul_le_self _ _) (h.getD_lt _), fun j h1 h2 => by omega, fun b hb => ?_⟩
 rw [high_bit, h.at _ _ hb]
 congr 1
 rw [Bool.eq_iff_iff]
 simp only [decide_eq_true_eq]
 omega
theorem NextInv.step {ws : List Nat} {l : List Bool} (h : BitsOf ws l) {n q : Nat} (hi : NextInv ws l n q 0) (hn : n < 64 * q + 64) (hq : q + 1 < ws.length) : NextInv ws l n (q + 1) (ws.getD (q + 1) 0) := by
 refine ⟨hq, h.getD_lt _, fun j h1 h2 => ?_, fun b hb => ?_⟩
 ·by_cases c : j < 64 * q
  ·exact hi.past j h1 c
  ·have := hi.bit (j - 64 * q) (by omega)
   rw [Nat.zero_testBit, show 64 * q + (j - 64 * q) = j by omega, decide_eq_true h1] at this
   simpa using this.symm
 ·rw [h.at _ _ hb, decide_eq_true (by omega)]; simp
theorem NextInv.found {ws : List Nat} {l : List Bool} {n q y k : Nat} (hi : NextInv ws l n q y) (hk : LowAt y k) : nextB l n = some (64 * q + k) := by
 have h1 := hi.bit k hk.1
 rw [hk.2.1] at h1
 have h2 := h1.symm
 simp only [Bool.and_eq_true, decide_eq_true_eq] at h2
 refine nextB_some h2.1 h2.2 fun j h3 h4 => ?_
 by_cases c : j < 64 * q
 ·exact hi.past j h3 c
 ·have := hi.bit (j - 64 * q) (by have := hk.1; omega)
  rw [hk.2.2 _ (by omega), show 64 * q + (j - 64 * q) = j by omega, decide_eq_true h3] at this
  simpa using this.symm
theorem NextInv.over {ws : List Nat} {l : List Bool} (h : BitsOf ws l) {n q : Nat} (hi : NextInv ws l n q 0) (hq : ws.length ≤ q + 1) : nextB l n = none := by
 refine nextB_none fun j hj => ?_
 by_cases c : j < 64 * q
 ·exact hi.past j hj c
 ·by_cases c2 : j < 64 * q + 64
  ·have := hi.bit (j - 64 * q) (by omega)
   rw [Nat.zero_testBit, show 64 * q + (j - 64 * q) = j by omega, decide_eq_true hj] at this
   simpa using this.symm
  ·have := h.len
   rw [List.getD_eq_getElem?_getD, List.getElem?_eq_none (by omega)]; rfl
def nextV : Option Nat → Value
 | some i => .tuple #[.int .i64 (i : Int), .bool true]
 | none => .tuple #[.int .i64 0, .bool false]
def Same1 (v : Value) (w : World) : Ending → World → Prop := fun e w' => e = .returned v ∧ w = w'
set_option maxHeartbeats 1000000 in
theorem snext_any {w : World} {X : SetF} {l : List Bool} (h : SetAt w X l) (a : Int) :
  Calls Tryz.prog 281 #[vset X, .int .i64 a] w (Same1 (nextV (nextB l a.toNat)) w) := by
 obtain ⟨ws, h⟩ := h
 have c0 := h.c0
 have c1 := h.c1
 have hsm := h.small
 have hlen := h.bits.len
 have hws : ws.length ≤ 1000000 := by omega
 have HBits := LH h.bits
 have HRow := LH h.row
 obtain ⟨n, hn⟩ : ∃ n, n = a.toNat := ⟨_, rfl⟩
 have hmx : (if a < 0 then 0 else a) = (n : Int) := by split <;> omega
 have hmx2 : max a 0 = (n : Int) := by omega
 rw [← hn]
 have HP1 : Hid (∀ i, nextB l n = some i → Same1 (nextV (nextB l n)) w (.returned (.tuple #[.int .i64 (i : Int), .bool true])) w) := LH (fun i hi => by rw [hi]; exact ⟨rfl, rfl⟩)
 have HP0 : Hid (nextB l n = none → Same1 (nextV (nextB l n)) w (.returned (.tuple #[.int .i64 0, .bool false])) w) := LH (fun hi => by rw [hi]; exact ⟨rfl, rfl⟩)
 have HL := LH hlen
 generalize Same1 (nextV (nextB l n)) w = Post at *
 clear h hn hlen
 by_cases hlt : n < l.length
 ·have HI := LH (NextInv.start HBits.out hlt)
  have hw := HI.out.lt
  have hlt' : decide (l.length ≤ n) = false := by simp; omega
  have d0 : w.cell? ⟨X.b, n / 64, none⟩ = some (vu64 (ws.getD (n / 64) 0)) := HRow.out.cell (by simp [hw])
  have hx := HBits.out.getD_lt (n / 64)
  have hn64 : n < 64 * (n / 64) + 64 := by omega
  generalize ws.getD (n / 64) 0 = x at *
  generalize hm' : n % 64 = m at *
  generalize hq' : n / 64 = q at *
  have hm : m < 64 := by omega
  have e1 : (n : Int) / 64 = (q : Int) := by omega
  have e2 : (n : Int) % 64 = (m : Int) := by omega
  have HV : Hid (IntKind.u64.wrap ((x : Int) / 2 ^ m * 2 ^ m) = ((x / 2 ^ m * 2 ^ m : Nat) : Int)) := LH (by
   have h64 := HI.out.y64
   rw [show (x : Int) / 2 ^ m * 2 ^ m = ((x / 2 ^ m * 2 ^ m : Nat) : Int) by push_cast; rfl]
   generalize x / 2 ^ m * 2 ^ m = y at h64 ⊢
   rw [IntKind.wrap_u64]; omega)
  generalize x / 2 ^ m * 2 ^ m = y at *
  clear hm' hq' hlt
  go_enter Tryz.func281, Tryz.ntmps281
  go_wp2_with fail
  rw [HV.out]
  go_loop [6, 7] (fun iv yv => ∃ q y : Nat, iv = .int .i64 (q : Int) ∧ yv = vu64 y ∧ n < 64 * q + 64 ∧ Hid (NextInv ws l n q y)) (fun iv _ => ws.length - (intOf iv).toNat)
  case atStart => exact ⟨q, y, rfl, rfl, hn64, HI⟩
  case round =>
   clear HI HV hw d0 hx hn64 e1 e2
   obtain ⟨q, y, rfl, rfl, hn64, HI⟩ := hrel
   have hql := HI.out.lt
   by_cases hy : y = 0
   ·subst hy
    by_cases hq : q + 1 < ws.length
    ·have HI2 := LH (HI.out.step HBits.out hn64 hq)
     have hq' : decide (ws.length ≤ q + 1) = false := by simp; omega
     have d0 : w.cell? ⟨X.b, q + 1, none⟩ = some (vu64 (ws.getD (q + 1) 0)) := HRow.out.cell (by simp [hq])
     generalize ws.getD (q + 1) 0 = z at *
     go_wp2_with fail
     go_round
     case rel => exact ⟨q + 1, z, vint (by omega), rfl, by omega, HI2⟩
     case measure => simp [intOf]; omega
    ·have hq' : ws.length ≤ q + 1 := by omega
     have HN := LH (HI.out.over HBits.out hq')
     go_wp2_with fail
     exact HP0.out HN.out
   ·have hy0 : ((y : Int) == 0) = false := by simpa using hy
    have hy64 := HI.out.y64
    obtain ⟨k, hk⟩ := low_exists hy hy64
    have hk64 := hk.1
    have HK := LH hk
    have HN := LH (HI.out.found hk)
    clear hk
    go_wp2_with fail
    refine (lowest_any y k HK.out hy64 _).mono ?_
    rintro e w1 ⟨rfl, rfl⟩
    go_wp2_with fail
    have := HP1.out _ HN.out
    rw [show ((64 * q + k : Nat) : Int) = (q : Int) * 64 + (k : Int) by push_cast; omega] at this
    exact this
 ·have hle : l.length ≤ n := by omega
  have HN : Hid (nextB l n = none) := LH (nextB_none fun j hj => by rw [List.getD_eq_getElem?_getD, List.getElem?_eq_none (by omega)]; rfl)
  go_enter Tryz.func281, Tryz.ntmps281
  go_wp2_with fail
  exact HP0.out HN.out
end Go.Proofs.YtpopbfagliagnaaGreat
namespace Go.Proofs
open Go.Shelf
def Tryz.lays107_ren : Go.Shelf.Ren := ⟨fun | 107 => 303 | 108 => 338 | n => n, fun | 28 => 47 | 3 => 3 | 4 => 4 | 0 => 0 | n => n, fun | n => n⟩
theorem Tryz.lays107 : Go.Proofs.Lays.n107 Tryz.prog Tryz.lays107_ren := {
 mixed := by kernel_rfl
 f107 := Tryz.func303.trans (congrArg some (by kernel_rfl))
 f108 := Tryz.func338.trans (congrArg some (by kernel_rfl))
 t0 := Tryz.underlying0
 a0 := Tryz.isAgg0
 z0 := Tryz.sizeOf0
 v0 := Tryz.zeroValue0
 t3 := Tryz.underlying3
 a3 := Tryz.isAgg3
 z3 := Tryz.sizeOf3
 v3 := Tryz.zeroValue3
 t4 := Tryz.underlying4
 a4 := Tryz.isAgg4
 z4 := Tryz.sizeOf4
 v4 := Tryz.zeroValue4
 t28 := Tryz.underlying47
 a28 := Tryz.isAgg47
 z28 := Tryz.sizeOf47
 v28 := Tryz.zeroValue47 }
end Go.Proofs
