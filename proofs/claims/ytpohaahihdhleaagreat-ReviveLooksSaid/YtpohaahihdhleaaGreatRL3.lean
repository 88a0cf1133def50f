/- Parts of the proof that ReviveLooks holds. -/
import Derived.Test.YtpohaahihdhleaaGreatRL2
import Derived.Deep.Cut
import Derived.Laws.OwnMore
import Derived.DeepKeys4
import Derived.Maps.RangeWalk
import Derived.Outline
import Derived.Shelf.Slices.Turned
import Derived.Test.YtpohaahihdhleaaGreatProg
set_option linter.unusedVariables false
set_option maxHeartbeats 16000000
set_option maxRecDepth 100000
open Go.RowKit
namespace Go.Proofs.YtpohaahihdhleaaGreat
section
theorem bits_sum (n : Nat) : n % 4 < 4 ∧ n / 4 % 64 < 64 ∧ n / 256 % 65536 < 65536 := by omega
theorem bdecode_any (b : Int) (x : Nat) (hb0 : 0 ≤ b) (hb1' : b ≤ 1000000) (hx : x < 18446744073709551616) (w : World) :
  Calls Tryz.prog 89 #[.int .i64 b, vu64 x] w fun e w' => e = .returned (decN b x).val ∧ Below w.heap.size w w' := by
 have hbA := below_alloc w (Obj.cells #[Value.int .i64 0, Value.int .i64 0, Value.int .i64 0] 107)
 have hg := heap_alloc_new w (Obj.cells #[Value.int .i64 0, Value.int .i64 0, Value.int .i64 0] 107)
 go_enter Tryz.func89, Tryz.ntmps89
 go_wp2_with fail
 generalize w.alloc (Obj.cells #[Value.int .i64 0, Value.int .i64 0, Value.int .i64 0] 107) = w0 at *
 refine (open_any x _ hx w0).mono ?_
 rintro e w1 ⟨rfl, hbo⟩
 have hgl : w.heap.size < w0.heap.size := (Array.getElem?_eq_some_iff.1 hg).1
 have hbb := hbA.trans (hbo.mono hbA.size)
 have hg1 : w1.heap[w.heap.size]? = _ := (hbo.block _ hgl).trans hg
 clear hbA hbo hg hgl
 cases ho : openN x (pl (256 + b)) with
 | none =>
  have HV := LH (decN_none ho)
  clear ho
  simp only [openV]
  go_wp2_with (refine wpList_store_row (cs := #[.int .i64 0, .int .i64 0, .int .i64 0]) aggHd hg1 rfl rfl (by simp [Value.oneCell']) rfl rfl rfl rfl ?_; intro w2 hg2 hgr2 hs2)
  refine bodyPost_ret (results_cell_row2 (p := 4) (u := 5) rfl _ _ _ _ _ _ _ rfl hg2 Tryz.underlying107 rfl (by kernel_rfl)) rfl ⟨by rw [HV.out]; rfl, ?_⟩
  exact hbb.grown hgr2 hbb.size (fun k e => by cases e; omega)
 | some n =>
  obtain ⟨hn, -⟩ := openN_some ho
  have HK := LH (decN_ok ho)
  have HL := LH (decN_bad ho)
  clear ho
  simp only [openV]
  have G0 : Hid (∀ w, Calls Tryz.prog 139 #[vu64 n, .int .i64 0, .int .i64 2] w fun e w' => e = .returned (vu64 (n % 4)) ∧ w = w') := LH (fun w => by have := get_any n 0 2 (by omega) (by decide) (by decide) (by decide) w; simpa [fieldN] using this)
  have G1 : Hid (∀ w, Calls Tryz.prog 139 #[vu64 n, .int .i64 2, .int .i64 6] w fun e w' => e = .returned (vu64 (n / 4 % 64)) ∧ w = w') := LH (fun w => get_any n 2 6 (by omega) (by decide) (by decide) (by decide) w)
  have G2 : Hid (∀ w, Calls Tryz.prog 139 #[vu64 n, .int .i64 8, .int .i64 16] w fun e w' => e = .returned (vu64 (n / 256 % 65536)) ∧ w = w') := LH (fun w => get_any n 8 16 (by omega) (by decide) (by decide) (by decide) w)
  obtain ⟨h4, h64, h6⟩ := bits_sum n
  generalize n % 4 = k at *
  generalize n / 4 % 64 = c at *
  generalize n / 256 % 65536 = l at *
  go_wp2_with fail
  refine (G0.out _).mono ?_
  rintro e w2 ⟨rfl, rfl⟩
  go_wp2_with fail
  refine (G1.out _).mono ?_
  rintro e w2 ⟨rfl, rfl⟩
  go_wp2_with fail
  refine (G2.out _).mono ?_
  rintro e w2 ⟨rfl, rfl⟩
  clear G0 G1 G2
  go_wp2_with fail
  have hb1 := below_alloc w1 (Obj.cells #[Value.int .i64 (k : Int), Value.int .i64 (c : Int), Value.int .i64 (l : Int)] 107)
  have hg2 := heap_alloc_new w1 (Obj.cells #[Value.int .i64 (k : Int), Value.int .i64 (c : Int), Value.int .i64 (l : Int)] 107)
  generalize w1.alloc (Obj.cells #[Value.int .i64 (k : Int), Value.int .i64 (c : Int), Value.int .i64 (l : Int)] 107) = w2 at *
  refine (bencode_any b k c l hb0 hb1' w2).mono ?_
  rintro e w3 ⟨rfl, hb3⟩
  have hgl : w.heap.size < w1.heap.size := (Array.getElem?_eq_some_iff.1 hg1).1
  have hgl2 : w1.heap.size < w2.heap.size := (Array.getElem?_eq_some_iff.1 hg2).1
  have hb3' := hbb.trans ((hb1.trans (hb3.mono hb1.size)).mono hbb.size)
  have hg3 : w3.heap[w.heap.size]? = _ := (hb3.block _ (by omega)).trans ((hb1.block _ hgl).trans hg1)
  have hg4 : w3.heap[w1.heap.size]? = _ := (hb3.block _ hgl2).trans hg2
  have he := encN_lt b k c l
  clear hb1 hb3 hg1 hg2 hbb
  generalize encN b k c l = y at *
  by_cases hyx : y = x
  ·have HV := LH (HK.out hyx)
   subst hyx
   have d0 : w3.cell? ⟨w1.heap.size, 0, none⟩ = some (.int .i64 k) := cell_of_row _ _ 0 _ _ _ hg4
   have d1 : w3.cell? ⟨w1.heap.size, 1, none⟩ = some (.int .i64 c) := cell_of_row _ _ 1 _ _ _ hg4
   have d2 : w3.cell? ⟨w1.heap.size, 2, none⟩ = some (.int .i64 l) := cell_of_row _ _ 2 _ _ _ hg4
   go_wp2_with (refine wpList_store_row (cs := #[.int .i64 k, .int .i64 c, .int .i64 l]) aggHd hg3 rfl rfl (by simp [Value.oneCell']) rfl rfl rfl rfl ?_; intro w4 hg5 hgr4 hs4)
   refine bodyPost_ret (results_cell_row2 (p := 4) (u := 5) rfl _ _ _ _ _ _ _ rfl hg5 Tryz.underlying107 rfl (by kernel_rfl)) rfl ⟨by rw [HV.out]; rfl, ?_⟩
   exact hb3'.grown hgr4 hb3'.size (fun k e => by cases e; omega)
  ·have HV := LH (HL.out hyx)
   have hne : ¬ ((y : Int) = (x : Int)) := by omega
   clear hyx
   go_wp2_with (refine wpList_store_row (cs := #[.int .i64 0, .int .i64 0, .int .i64 0]) aggHd hg3 rfl rfl (by simp [Value.oneCell']) rfl rfl rfl rfl ?_; intro w4 hg5 hgr4 hs4)
   refine bodyPost_ret (results_cell_row2 (p := 4) (u := 5) rfl _ _ _ _ _ _ _ rfl hg5 Tryz.underlying107 rfl (by kernel_rfl)) rfl ⟨by rw [HV.out]; rfl, ?_⟩
   exact hb3'.grown hgr4 hb3'.size (fun k e => by cases e; omega)
structure Hd where
 k : Int
 c : Int
 l : Int
deriving DecidableEq
instance : Inhabited Hd := ⟨⟨0, 0, 0⟩⟩
def Hd.cs (h : Hd) : List Value := [.int .i64 h.k, .int .i64 h.c, .int .i64 h.l]
def hdCs (l : List Hd) : List Value := l.flatMap Hd.cs
theorem hdCs_length (l : List Hd) : (hdCs l).length = 3 * l.length := by
 induction l with
 | nil => rfl
 | cons h l ih => simp only [hdCs, List.flatMap_cons, List.length_append, List.length_cons] at *; rw [ih]; simp [Hd.cs]; omega
theorem hdCs_append (l m : List Hd) : hdCs (l ++ m) = hdCs l ++ hdCs m := by simp [hdCs]
theorem hdCs_at (l : List Hd) (i : Nat) (hi : i < l.length) : ∀ j v, (l.getD i default).cs[j]? = some v → (hdCs l)[i * 3 + j]? = some v := by
 intro j v hj
 have e : l = l.take i ++ (l[i] :: l.drop (i + 1)) := by simp
 have hl : (hdCs (l.take i)).length = i * 3 := by rw [hdCs_length, List.length_take, Nat.min_eq_left (by omega)]; omega
 have hg : l.getD i default = l[i] := by simp [hi]
 rw [hg] at hj
 have hj3 : j < (l[i]).cs.length := (List.getElem?_eq_some_iff.1 hj).1
 rw [e, hdCs_append, List.getElem?_append_right (by omega), hl, show i * 3 + j - i * 3 = j by omega]
 simp only [hdCs, List.flatMap_cons]
 rw [List.getElem?_append_left hj3]
 exact hj
theorem hdCs_one (l : List Hd) : ∀ u ∈ hdCs l, u.oneCell' = true := by
 intro u hu
 simp only [hdCs, List.mem_flatMap, Hd.cs, List.mem_cons, List.not_mem_nil, or_false] at hu
 obtain ⟨h, _, rfl | rfl | rfl⟩ := hu <;> rfl
def hdF (f : Nat → Nat) (b : Nat) : Hd := if b = 0 then ⟨0, 0, 0⟩ else ⟨(decN b (f b)).k, (decN b (f b)).c, (decN b (f b)).l⟩
def hds (f : Nat → Nat) (k : Nat) : List Hd := (List.range k).map (hdF f)
theorem hds_length (f : Nat → Nat) (k : Nat) : (hds f k).length = k := by simp [hds]
theorem hds_succ (f : Nat → Nat) (k : Nat) : hds f (k + 1) = hds f k ++ [hdF f k] := by simp [hds, List.range_succ]
def AllOk (f : Nat → Nat) (k : Nat) : Prop := ∀ b, 1 ≤ b → b < k → (decN b (f b)).code = 0
def ReadPost (t : Nat) (f : Nat → Nat) (B : Nat) (w : World) : Ending → World → Prop := fun en w' => Below w.heap.size w w' ∧
  ((AllOk f B ∧ ∃ g c, en = .returned (.tuple #[.slice (some ⟨g, 0, none⟩) B c, .int .i64 0, .int .i64 0]) ∧ w.heap.size ≤ g ∧ B ≤ c ∧ RowAt w' g t (hdCs (hds f B))) ∨
   (∃ b : Nat, 1 ≤ b ∧ b < B ∧ AllOk f b ∧ (decN b (f b)).code ≠ 0 ∧ en = .returned (.tuple #[.slice none 0 0, .int .i64 b, .int .i64 21])))
theorem AllOk.succ {f : Nat → Nat} {k : Nat} (h : AllOk f k) (hk : (decN k (f k)).code = 0) : AllOk f (k + 1) := by
 intro b h1 h2
 by_cases e : b = k
 ·subst e; exact hk
 ·exact h b h1 (by omega)
theorem elHd : Elem Tryz.prog 22 107 (.agg #[.int .i64 0, .int .i64 0, .int .i64 0]) 3 24 := Elem.mk' Tryz.underlying22 (by kernel_rfl) rfl (by decide)
theorem row_step (f : Nat → Nat) (B k : Nat) (hk : k < B) (h : Hd) (he : h = hdF f k) : splice (hdCs (hds f k) ++ List.replicate (3 * (B - k)) (.int .i64 0)) (k * 3) h.cs = hdCs (hds f (k + 1)) ++ List.replicate (3 * (B - (k + 1))) (.int .i64 0) := by
 subst he
 have hl : (hdCs (hds f k)).length = k * 3 := by rw [hdCs_length, hds_length]; omega
 rw [hds_succ, hdCs_append]
 unfold splice
 rw [List.take_left' hl, ← hl, List.drop_length_add_append]
 have : List.drop (hdF f k).cs.length (List.replicate (3 * (B - k)) (Value.int .i64 0)) = List.replicate (3 * (B - (k + 1))) (.int .i64 0) := by
  simp [Hd.cs]; omega
 rw [this]
 simp [hdCs]
theorem peek_lt {l : List Nat} (h : ∀ z ∈ l, z < 18446744073709551616) (i : Int) : peek l i < 18446744073709551616 := by
 unfold peek
 split
 ·by_cases hi : i.toNat < l.length
  ·simp only [List.getD_eq_getElem?_getD, List.getElem?_eq_getElem hi, Option.getD_some]
   exact h _ (List.getElem_mem hi)
  ·simp only [List.getD_eq_getElem?_getD, List.getElem?_eq_none (by omega : l.length ≤ i.toNat), Option.getD_none]
   decide
 ·decide
theorem cell_of_touch {L : List Nat} {w w' : World} (h : Touch L w w') {p : Addr} {v : Value} (hp : p.block ∉ L) (hc : w.cell? p = some v) : w'.cell? p = some v := by
 rw [World.cell?_of_block (w := w) (h.block p.block (World.block_lt_of_cell? _ _ hc) hp)]; exact hc
theorem below_touch {B : Nat} {L : List Nat} {w w1 w2 : World} (h : Below B w w1) (ht : Touch L w1 w2) (hL : ∀ k ∈ L, B ≤ k) (hB : B ≤ w.heap.size) : Below B w w2 :=
 h.trans (ht.below (Nat.le_trans hB h.size) hL)
def devWord (S : Dev) (b : Nat) : Nat := peek S.cache (256 + (b : Int))
theorem read_any {w : World} {F : Foot} {S : Dev} (h : DevAt w F S) (B : Nat) (hB1 : 1 ≤ B) (hB : B ≤ 1000) :
  Calls Tryz.prog 45 #[vdev F, vgeom B] w (ReadPost 107 (devWord S) B w) := by
 have HD := LH h
 have HP : Hid (ReadPost 107 (devWord S) B w = ReadPost 107 (devWord S) B w) := LH rfl
 generalize hP : ReadPost 107 (devWord S) B w = Post at HP ⊢
 have HPE := LH hP
 clear h hP HP
 go_enter Tryz.func45, Tryz.ntmps45
 have hbx : Below w.heap.size w (w.alloc (.cells #[.int .i64 (B : Int)] 44)) := below_alloc _ _
 have hcx : (w.alloc (.cells #[.int .i64 (B : Int)] 44)).cell? ⟨w.heap.size, 0, none⟩ = some (.int .i64 (B : Int)) := cell_alloc_new _ _ _ 0 _ rfl
 have hsx : (w.alloc (.cells #[.int .i64 (B : Int)] 44)).heap.size = w.heap.size + 1 := by simp
 have HSX := LH hsx
 clear hsx
 go_wp2_with (first
  | (at_make; refine wpList_make_rows elHd (w.heap.size + 1) B (z := .int .i64 0) (by intro i hi; simp at hi; rcases i with _ | _ | _ | i <;> first | rfl | omega) (by omega) (by omega) (by omega) (by decide) (by simp) rfl rfl rfl rfl ?_; intro w1 hown hgrow))
 try rw [HSX.out] at hown
 try rw [HSX.out]
 have hb1 : Below w.heap.size w w1 := hbx.trans (below_grown hgrow (by rw [HSX.out]; omega))
 have hc1 : w1.cell? ⟨w.heap.size, 0, none⟩ = some (.int .i64 (B : Int)) := by
  rw [(below_grown hgrow (Nat.le_refl _)).cell (p := ⟨w.heap.size, 0, none⟩) (by rw [HSX.out]; simp)]; exact hcx
 have hr1 : RowAt w1 (w.heap.size + 1) 107 (List.replicate (B * 3) (.int .i64 0)) := owned_row hown
 have HR1 := LH hr1
 have HB1 := LH hb1
 clear hbx hcx hown hgrow hr1 hb1 HSX
 obtain ⟨gx, hgx⟩ : ∃ gx, gx = w.heap.size := ⟨_, rfl⟩
 obtain ⟨g, hg⟩ : ∃ g, g = w.heap.size + 1 := ⟨_, rfl⟩
 have HG : Hid (gx = w.heap.size ∧ g = w.heap.size + 1) := LH ⟨hgx, hg⟩
 rw [← hg] at HR1 ⊢
 rw [← hgx] at hc1 ⊢
 have hgne : gx ≠ g := by omega
 clear hgx hg
 go_loopw [8] (fun i wr => ∃ k : Nat, 1 ≤ k ∧ k ≤ B ∧ i = .int .i64 k ∧ AllOk (devWord S) k ∧ RowAt wr g 107 (hdCs (hds (devWord S) k) ++ List.replicate (3 * (B - k)) (.int .i64 0)) ∧ wr.cell? ⟨gx, 0, none⟩ = some (.int .i64 (B : Int)) ∧ Below w.heap.size w wr) (fun i _ => B - (intOf i).toNat)
 case atStart => exact ⟨1, Nat.le_refl _, hB1, rfl, (fun b h1 h2 => by omega), by
   have e : hdCs (hds (devWord S) 1) ++ List.replicate (3 * (B - 1)) (Value.int .i64 0) = List.replicate (B * 3) (Value.int .i64 0) := by
    have : hdCs (hds (devWord S) 1) = List.replicate 3 (Value.int .i64 0) := rfl
    rw [this, List.replicate_append_replicate]
    congr 1
    omega
   rw [e]; exact HR1.out, hc1, HB1.out⟩
 case round =>
  clear hc1 HR1 HB1
  obtain ⟨k, hk1, hk2, rfl, hok, hr, hcx, hb⟩ := hrel
  have HOK := LH hok
  have HR := LH hr
  have HB := LH hb
  have HDr := LH (HD.out.below hb)
  clear hok hr hb
  by_cases hlt : k < B
  ·have hlt' : (k : Int) < (B : Int) := by omega
   go_wp2_with fail
   refine (gheader_any _ _ _ (by omega)).mono ?_
   rintro e w2 ⟨rfl, hb2⟩
   have HH : Hid (hdAt (B : Int) (k : Int) = 256 + (k : Int)) := LH (by unfold hdAt; rw [if_neg (by omega)])
   rw [HH.out]
   have HD2 := LH (HDr.out.below hb2)
   have HB2 := LH hb2
   clear hb2
   go_wp2_with fail
   refine (dget_any HD2.out _).mono ?_
   rintro e w3 ⟨rfl, rfl⟩
   have hx : devWord S k < 18446744073709551616 := peek_lt HD2.out.u64C _
   have HX : Hid (peek S.cache (256 + (k : Int)) = devWord S k) := LH rfl
   rw [HX.out]
   go_wp2_with fail
   refine (bdecode_any (k : Int) (devWord S k) (by omega) (by omega) hx _).mono ?_
   rintro e w4 ⟨rfl, hb4⟩
   have HF : Hid (⟨(decN k (devWord S k)).k, (decN k (devWord S k)).c, (decN k (devWord S k)).l⟩ = hdF (devWord S) k) := LH (by unfold hdF; rw [if_neg (by omega)])
   have HC : Hid ((decN k (devWord S k)).code = 0 ∨ (decN k (devWord S k)).code ≠ 0) := LH (by omega)
   have HOK2 : Hid ((decN k (devWord S k)).code = 0 → AllOk (devWord S) (k + 1)) := LH (fun h => HOK.out.succ h)
   have HBad : Hid ((decN k (devWord S k)).code ≠ 0 → ∀ w', Below w.heap.size w w' → Post (.returned (.tuple #[.slice none 0 0, .int .i64 k, .int .i64 21])) w') := LH (fun h w' hw' => by
    rw [← HPE.out]; exact ⟨hw', .inr ⟨k, hk1, hlt, HOK.out, h, rfl⟩⟩)
   unfold Dec.val
   generalize decN k (devWord S k) = dd at *
   obtain ⟨dk, dc, dl, dcode⟩ := dd
   dsimp only at *
   have hb24 : Below wr.heap.size wr w4 := HB2.out.trans (hb4.mono HB2.out.size)
   have HB4 := LH hb24
   clear hb4 hb24 HB2 HD2
   rcases HC.out with hz | hz
   ·subst hz
    have hok2 := HOK2.out rfl
    have HOK3 := LH hok2
    have hr4 : RowAt w4 g 107 _ := HR.out.keep (HB4.out.block g HR.out.lt)
    have hcx4 : w4.cell? ⟨gx, 0, none⟩ = some (.int .i64 (B : Int)) := below_cells HB4.out hcx (Nat.le_refl _)
    have hgl : g < w4.heap.size := hr4.lt
    have hgxl : gx < w4.heap.size := World.block_lt_of_cell? _ _ hcx4
    have HR4 := LH hr4
    have HCX4 := LH hcx4
    clear hok2 hr4 hcx hcx4
    have hb5 := below_alloc w4 (Obj.cells #[Value.int .i64 dk, Value.int .i64 dc, Value.int .i64 dl] 107)
    have HR5 : Hid (RowAt (w4.alloc (Obj.cells #[Value.int .i64 dk, Value.int .i64 dc, Value.int .i64 dl] 107)) g 107 (hdCs (hds (devWord S) k) ++ List.replicate (3 * (B - k)) (.int .i64 0))) := LH (HR4.out.keep (hb5.block g hgl))
    have HCX5 : Hid ((w4.alloc (Obj.cells #[Value.int .i64 dk, Value.int .i64 dc, Value.int .i64 dl] 107)).cell? ⟨gx, 0, none⟩ = some (.int .i64 (B : Int))) := LH (below_cells hb5 HCX4.out (Nat.le_refl _))
    have HB5 : Hid (Below w.heap.size w (w4.alloc (Obj.cells #[Value.int .i64 dk, Value.int .i64 dc, Value.int .i64 dl] 107))) := LH (HB.out.trans ((HB4.out.trans (hb5.mono HB4.out.size)).mono HB.out.size))
    have hlen : Hid (k * 3 + 3 ≤ (hdCs (hds (devWord S) k) ++ List.replicate (3 * (B - k)) (Value.int .i64 0)).length) := LH (by rw [List.length_append, hdCs_length, hds_length, List.length_replicate]; omega)
    have hone : Hid (∀ u ∈ (#[Value.int .i64 dk, Value.int .i64 dc, Value.int .i64 dl] : Array Value).toList, u.oneCell' = true) := LH (by intro u hu; simp at hu; rcases hu with rfl | rfl | rfl <;> rfl)
    clear hb5 HR4 HCX4 HB4
    go_wp2_with (refine wpList_store_part (off := k * 3) (cs := #[.int .i64 dk, .int .i64 dc, .int .i64 dl]) aggHd HR5.out rfl hlen.out hone.out rfl rfl rfl rfl ?_; intro w6 hr6 ht6; have HR6 := LH hr6; have HT6 := LH ht6; clear hr6 ht6)
    refine ⟨⟨k + 1, by omega, by omega, vint (by omega), HOK3.out, ?_, ?_, ?_⟩, by simp [intOf]; omega⟩
    ·have := HR6.out
     rw [show #[Value.int .i64 dk, Value.int .i64 dc, Value.int .i64 dl].toList = (⟨dk, dc, dl⟩ : Hd).cs from rfl, row_step _ _ _ hlt _ HF.out] at this
     exact this
    ·exact cell_of_touch HT6.out (by simp; exact hgne) HCX5.out
    ·exact below_touch HB5.out HT6.out (by have := HG.out; simp; omega) (Nat.le_refl _)
   ·have hz1 : (dcode != 0) = true := by simpa using hz
    have HZ := LH (HBad.out hz)
    have HBE : Hid (Below w.heap.size w w4) := LH (HB.out.trans (HB4.out.mono HB.out.size))
    clear hz HBad HC HOK2
    go_wp2_with fail
    go_ret3
    exact HZ.out _ (HBE.out.alloc (HBE.out.size) _)
  ·obtain rfl : k = B := by omega
   have hlt' : decide ((k : Int) < (k : Int)) = false := by simp
   go_wp2_with fail
   go_ret3
   rw [← HPE.out]
   refine ⟨HB.out, .inl ⟨HOK.out, g, k, rfl, by have := HG.out; omega, Nat.le_refl _, ?_⟩⟩
   have := HR.out
   simpa using this
section
variable {P : Program} {ops : Array Oper} {md : Region.Mode} {C : World → Prop} {Q : Exit → Act → World → Prop}
theorem wpAnyF_early {loose : Nat → Bool} {i f : Nat} {oi : Oper} {v : Value} (hi : ops[i]? = some oi) (hsel : ∀ (j : Nat) (o : Oper) cs b, ops[j]? = some o → o.op ≠ .select cs b)
  (hQ : ∀ c a d v w, Q (.panic c) (a.put d v) w → Q (.panic c) a w) :
  ∀ (fuel : Nat) (listed : Array Bool) (a : Act) (w : World),
   (∀ j oj, ops[j]? = some oj → j ≠ i → listed.getD j true = false → waitsFor md ops f j i = true ∨ loose j = true) →
   (∀ j oj, ops[j]? = some oj → j ≠ i → listed.getD j true = false → (∀ e ∈ oj.after, Region.binds md e = true → e.on ≠ i) → oi.apart ops oj = true) →
   i ∈ Region.ready md ops listed → Shut md ops listed → Stays P ops C oi v a → C w →
   wpAnyF P md ops Q C loose fuel (listed.setIfInBounds i true) (a.put oi.dst v) w → wpAnyF P md ops Q C loose (fuel + 1) listed a w := by
 intro fuel
 induction fuel with
 | zero =>
  intro listed a w _ _ hr _ hy hC H
  refine ⟨fun h => (by rw [h] at hr; cases hr), fun j hj => ?_⟩
  by_cases hji : j = i
  ·subst hji; exact hy.wpOp hi hC ⟨fun _ => hC, H⟩
  ·have := ready_mono hj hji
   rw [H.1] at this
   cases this
 | succ fuel ih =>
  intro listed a w hl hfree hr hsh hy hC H
  refine ⟨fun h => (by rw [h] at hr; cases hr), fun j hj => ?_⟩
  by_cases hji : j = i
  ·subst hji; exact hy.wpOp hi hC ⟨fun _ => hC, H⟩
  ·have h1 := H.2 j (ready_mono hj hji)
   obtain ⟨hjun, oj, hoj, hall⟩ := mem_ready.1 hj
   have hiun : listed.getD i false = false := by
    have h0 := (mem_ready.1 hr).1
    rcases Nat.lt_or_ge i listed.size with h' | h'
    ·simp [h'] at h0 ⊢; exact h0
    ·simp [Array.getElem?_eq_none h']
   have hnot : ∀ e ∈ oj.after, Region.binds md e = true → e.on ≠ i := fun e he hb heq => by
    have h1 := hall e he hb
    rw [heq, hiun] at h1
    cases h1
   have hlo : loose j = true := by
    rcases hl j oj hoj hji hjun with h | h
    ·have := waitsFor_listed hsh f j i oj hoj hall h
     rw [hiun] at this
     cases this
    ·exact h
   have h2 := wpOp_putF (C := C) hoj (hfree j oj hoj hji hjun hnot) (fun cs b => hsel i oi cs b hi) (fun cs b => hsel j oj cs b hoj) hQ hy h1
   have hun' : ∀ k, (listed.setIfInBounds j true).getD k true = false → listed.getD k true = false := fun k hun => by
    by_cases hjk : j = k
    ·subst hjk; exact hjun
    ·rw [getD_set_ne true hjk] at hun; exact hun
   refine wpOp_mono (fun a' w' h3 => ⟨h3.2.1, ih (listed.setIfInBounds j true) a' w' (fun k ok hk hki hun => hl k ok hk hki (hun' k hun)) (fun k ok hk hki hun hno => hfree k ok hk hki (hun' k hun) hno) (ready_mono hr (Ne.symm hji)) (hsh.set hj) h3.1 (h3.2.1 hlo) ?_⟩) h2
   rw [Array.setIfInBounds_comm _ _ hji]
   exact h3.2.2
def looseOf (md : Region.Mode) (ops : Array Oper) (j : Nat) : Bool :=
 (List.range ops.size).any fun i => i != j && (match ops[i]? with | some o => calm o.op | none => false) && !waitsFor md ops ops.size j i && !waitsFor md ops ops.size i j
end
theorem later_step {w v v' : World} (h : ∃ x : Later w, v = x.val) (hb : Below v.heap.size v v') : ∃ x : Later w, v' = x.val := by
 obtain ⟨x, rfl⟩ := h
 exact ⟨⟨v', x.below.trans (hb.mono x.below.size)⟩, rfl⟩
theorem later_below {w v : World} (h : ∃ x : Later w, v = x.val) : Below w.heap.size w v := by
 obtain ⟨x, rfl⟩ := h
 exact x.below
theorem later_drew (w : World) : ∃ x : Later w, w.drew = x.val := ⟨⟨w.drew, (Below.refl _ _).drew⟩, rfl⟩
theorem later_drewN {w v : World} (h : ∃ x : Later w, v = x.val) (q : Nat) : ∃ x : Later w, v.drewN q = x.val := by
 obtain ⟨x, rfl⟩ := h
 exact ⟨⟨_, by have := x.below; exact ⟨this.os, this.tape, this.output, by simpa using this.size, by simpa using this.block⟩⟩, rfl⟩
structure Near (L : List Nat) (w : World) where
 val : World
 size : w.heap.size ≤ val.heap.size
 block : ∀ k, k < w.heap.size → k ∉ L → val.heap[k]? = w.heap[k]?
instance (L : List Nat) (w : World) : Nonempty (Near L w) := ⟨⟨w, Nat.le_refl _, fun _ _ _ => rfl⟩⟩
theorem near_cell {L : List Nat} {w : World} {p : Addr} {v : Value} (h : w.cell? p = some v) (hL : p.block ∉ L) (x : Near L w) : x.val.cell? p = some v := by
 have := x.block p.block (World.block_lt_of_cell? _ _ h) hL
 unfold World.cell? at *
 rw [this]; exact h
inductive Seg where
 | fl (ks : List Nat)
 | sq (ks : List Nat) (lo : Bool)
inductive SegO where
 | fl (os : List Oper)
 | sq (os : List Oper) (lo : Bool)
section
variable {P : Program} {ops : Array Oper} {md : Region.Mode} {C : World → Prop} {Q : Exit → Act → World → Prop}
def picks (l : List Oper) : List Nat → List Oper
 | [] => []
 | k :: ks => match l[k]? with
  | some o => o :: picks l ks
  | none => picks l ks
def segs (l : List Oper) : List Seg → List SegO
 | [] => []
 | .fl ks :: r => .fl (picks l ks) :: segs l r
 | .sq ks lo :: r => .sq (picks l ks) lo :: segs l r
def flFrom (md : Region.Mode) (ops : Array Oper) : List Nat → Array Bool → Bool × Array Bool
 | [], listed => (true, listed)
 | k :: ks, listed => match ops[k]? with
  | none => (false, listed)
  | some o => let r := flFrom md ops ks (listed.setIfInBounds k true)
   (calm o.op && (Region.ready md ops listed).contains k && Region.free md ops listed k && ((List.range ops.size).all fun j => j == k || listed.getD j true || waitsFor md ops ops.size j k || looseOf md ops j) && r.1, r.2)
def sqFrom (md : Region.Mode) (ops : Array Oper) (lo : Bool) : List Nat → Array Bool → Bool × Array Bool
 | [], listed => (true, listed)
 | k :: ks, listed => match ops[k]? with
  | none => (false, listed)
  | some _ => let r := sqFrom md ops lo ks (listed.setIfInBounds k true)
   (Region.ready md ops listed == [k] && (!looseOf md ops k || (lo && ks.isEmpty)) && r.1, r.2)
def segFrom (md : Region.Mode) (ops : Array Oper) : List Seg → Array Bool → Bool
 | [], listed => (Region.ready md ops listed).isEmpty
 | .fl ks :: r, listed => let x := flFrom md ops ks listed; x.1 && segFrom md ops r x.2
 | .sq ks lo :: r, listed => let x := sqFrom md ops lo ks listed; x.1 && segFrom md ops r x.2
def segLen : List Seg → Nat
 | [] => 0
 | .fl ks :: r => segLen r + ks.length
 | .sq ks _ :: r => segLen r + ks.length
def segB (md : Region.Mode) (ops : Array Oper) (is : List Seg) : Bool := Region.noSelect ops && segLen is == ops.size && segFrom md ops is (Array.replicate ops.size false)
def wpSeg (P : Program) (ops : Array Oper) (C : World → Prop) (Q : Exit → Act → World → Prop) : List SegO → Act → World → Prop
 | [], a, w => Q .normal a w
 | .fl os :: r, a, w => C w ∧ wpQuiet P ops C (fun a' => wpSeg P ops C Q r a' w) os a
 | .sq os lo :: r, a, w => wpList P ops (Exit.then (fun a' w' => (lo = true → C w') ∧ wpSeg P ops C Q r a' w') Q) os a w
theorem fl_ok (hs : Region.noSelect ops = true) (hQ : ∀ c a d v w, Q (.panic c) (a.put d v) w → Q (.panic c) a w) {m : Nat} {R : Act → Prop} {w : World} (hC : C w) : ∀ (ks : List Nat) (listed : Array Bool) (a : Act), Shut md ops listed → (flFrom md ops ks listed).1 = true →
  (∀ a', Shut md ops (flFrom md ops ks listed).2 → R a' → wpAnyF P md ops Q C (looseOf md ops) m (flFrom md ops ks listed).2 a' w) →
  wpQuiet P ops C R (picks ops.toList ks) a → wpAnyF P md ops Q C (looseOf md ops) (m + ks.length) listed a w := by
 intro ks
 induction ks with
 | nil =>
  intro listed a hsh _ hR h
  exact hR a hsh (by simpa [picks, wpQuiet] using h)
 | cons k ks ih =>
  intro listed a hsh hB hR h
  cases hk : ops[k]? with
  | none => simp [flFrom, hk] at hB
  | some o =>
   have e : picks ops.toList (k :: ks) = o :: picks ops.toList ks := by simp [picks, hk]
   rw [e] at h
   simp only [flFrom, hk, Bool.and_eq_true] at hB hR
   obtain ⟨⟨⟨⟨hc, hr⟩, hf⟩, hlo⟩, hB'⟩ := hB
   have hrk : k ∈ Region.ready md ops listed := by simpa using hr
   obtain ⟨v, hy, hK⟩ : ∃ v, Stays P ops C o v a ∧ wpQuiet P ops C R (picks ops.toList ks) (a.put o.dst v) := by
    unfold wpQuiet at h
    by_cases hw : Region.wanted o (yielded ops a.tmps) = true
    ·rw [if_pos hw] at h
     obtain ⟨v, h1, h2⟩ := h
     refine ⟨v, .inl ⟨hw, fun x hx => ?_⟩, h2⟩
     have h3 := h1 x hx
     unfold Oper.quietAt at h3
     cases hq : (execOp a.eval o).run P x with
     | ok nx w2 =>
      obtain ⟨u, rfl⟩ := calm_value hc hq
      rw [hq] at h3
      simp only [Oper.quietUpon] at h3
      rw [h3.1, h3.2]
     | halt x' w2 => rw [hq] at h3; simp only [Oper.quietUpon] at h3
    ·rw [if_neg hw] at h
     exact ⟨undef, .inr ⟨by simpa using hw, rfl⟩, h⟩
   refine wpAnyF_early (f := ops.size) hk (Region.noSelect_spec hs) hQ (m + ks.length) listed a w ?_ (Region.free_spec hk hf) hrk hsh hy hC (ih _ _ (hsh.set hrk) hB' hR hK)
   intro j oj hj hjk hun
   simp only [List.all_eq_true, List.mem_range, Bool.or_eq_true, beq_iff_eq] at hlo
   rcases hlo j (Array.getElem?_eq_some_iff.1 hj).1 with ((h | h) | h) | h
   ·exact absurd h hjk
   ·rw [hun] at h; cases h
   ·exact .inl h
   ·exact .inr h
theorem sq_ok {m : Nat} {lo : Bool} {R : Act → World → Prop} : ∀ (ks : List Nat) (listed : Array Bool) (a : Act) (w : World), Shut md ops listed → (sqFrom md ops lo ks listed).1 = true →
  (∀ a' w', Shut md ops (sqFrom md ops lo ks listed).2 → (lo = true → C w') → R a' w' → wpAnyF P md ops Q C (looseOf md ops) m (sqFrom md ops lo ks listed).2 a' w') →
  wpList P ops (Exit.then (fun a' w' => (lo = true → C w') ∧ R a' w') Q) (picks ops.toList ks) a w → wpAnyF P md ops Q C (looseOf md ops) (m + ks.length) listed a w := by
 intro ks
 induction ks with
 | nil =>
  intro listed a w hsh _ hR h
  have h : (lo = true → C w) ∧ R a w := by simpa [picks, wpList, Exit.then] using h
  exact hR a w hsh h.1 h.2
 | cons k ks ih =>
  intro listed a w hsh hB hR h
  cases hk : ops[k]? with
  | none => simp [sqFrom, hk] at hB
  | some o =>
   have e : picks ops.toList (k :: ks) = o :: picks ops.toList ks := by simp [picks, hk]
   rw [e] at h
   simp only [sqFrom, hk, Bool.and_eq_true, beq_iff_eq] at hB hR
   obtain ⟨⟨hr, hlo⟩, hB'⟩ := hB
   have hrk : k ∈ Region.ready md ops listed := by rw [hr]; simp
   refine ⟨fun h' => (by rw [hr] at h'; cases h'), fun i hi => ?_⟩
   rw [hr] at hi
   obtain rfl : i = k := by simpa using hi
   unfold wpOp
   simp only [hk]
   unfold wpList at h
   have hmono : ∀ a' w', wpList P ops (Exit.then (fun a' w' => (lo = true → C w') ∧ R a' w') Q) (picks ops.toList ks) a' w' →
     (looseOf md ops i = true → C w') ∧ wpAnyF P md ops Q C (looseOf md ops) (m + ks.length) (listed.setIfInBounds i true) a' w' := by
    intro a' w' h'
    refine ⟨fun hl => ?_, ih _ _ _ (hsh.set hrk) hB' hR h'⟩
    simp only [hl, Bool.not_true, Bool.false_or, Bool.and_eq_true, List.isEmpty_iff] at hlo
    obtain ⟨hlo1, rfl⟩ := hlo
    have h' : (lo = true → C w') ∧ R a' w' := by simpa [picks, wpList, Exit.then] using h'
    exact h'.1 hlo1
   by_cases hw : Region.wanted o (yielded ops a.tmps) = true
   ·rw [if_pos hw] at h ⊢
    rcases h with h | h
    ·refine .inl ?_
     have h := Oper.wp_mono hmono h
     unfold Oper.wp at *
     generalize (execOp a.eval o).run P w = r at *
     cases r with
     | ok n w' => cases n <;> simp only [Oper.upon] at h ⊢ <;> exact h
     | halt x w' => cases x <;> simp only [Oper.upon] at h ⊢ <;> exact h
    ·exact .inr h
   ·rw [if_neg hw] at h ⊢
    exact hmono _ _ h
theorem seg_ok (hs : Region.noSelect ops = true) (hQ : ∀ c a d v w, Q (.panic c) (a.put d v) w → Q (.panic c) a w) : ∀ (is : List Seg) (listed : Array Bool) (a : Act) (w : World), Shut md ops listed →
  segFrom md ops is listed = true → wpSeg P ops C Q (segs ops.toList is) a w → wpAnyF P md ops Q C (looseOf md ops) (segLen is) listed a w := by
 intro is
 induction is with
 | nil =>
  intro listed a w _ hB h
  exact ⟨by simpa [segFrom] using hB, by simpa [wpSeg, segs] using h⟩
 | cons s is ih =>
  intro listed a w hsh hB h
  cases s with
  | fl ks =>
   simp only [segFrom, Bool.and_eq_true] at hB
   simp only [segs, wpSeg] at h
   exact fl_ok hs hQ h.1 ks listed a hsh hB.1 (fun a' hsh' hR => ih _ a' w hsh' hB.2 hR) h.2
  | sq ks lo =>
   simp only [segFrom, Bool.and_eq_true] at hB
   simp only [segs, wpSeg] at h
   exact sq_ok ks listed a w hsh hB.1 (fun a' w' hsh' _ hR => ih _ a' w' hsh' hB.2 hR) h
theorem wp_region_seg {id : Nat} {a : Act} {w : World} {l : List Oper} (is : List Seg) (hm : P.follows .mixedOrders = true) (hB : segB .any l.toArray is = true)
  (hQ : ∀ c a d v w, Q (.panic c) (a.put d v) w → Q (.panic c) a w)
  (h : wpSeg P l.toArray C Q (segs l is) a w.drew) : (Code.region id l.toArray true).wp P Q a w := by
 simp only [segB, Bool.and_eq_true, beq_iff_eq] at hB
 refine wp_region_any hm (wpAny_of_F (C := C) (loose := looseOf .any l.toArray) _ _ _ _ ?_)
 have := seg_ok (md := .any) (C := C) hB.1.1 hQ is (Array.replicate l.toArray.size false) a w.drew (shut_none _) hB.2 h
 rw [hB.1.2] at this
 exact this
theorem wpSeg_fl {os : List Oper} {r : List SegO} {a : Act} {w : World} (hC : C w) (h : wpQuiet P ops C (fun a' => wpSeg P ops C Q r a' w) os a) : wpSeg P ops C Q (.fl os :: r) a w := ⟨hC, h⟩
theorem wpSeg_sq {os : List Oper} {lo : Bool} {r : List SegO} {a : Act} {w : World}
  (h : ∀ K : Act → World → Prop, (∀ a' w', (lo = true → C w') → wpSeg P ops C Q r a' w' → K a' w') → wpList P ops (Exit.then K Q) os a w) : wpSeg P ops C Q (.sq os lo :: r) a w :=
 h _ (fun _ _ h1 h2 => ⟨h1, h2⟩)
theorem exit_then_self (Q : Exit → Act → World → Prop) : Exit.then (Q .normal) Q = Q := by
 funext e a w
 cases e <;> rfl
theorem wpSeg_last {os : List Oper} {a : Act} {w : World} (h : wpList P ops Q os a w) : wpSeg P ops C Q [.sq os false] a w := by
 unfold wpSeg
 have e : (fun a' w' => (false = true → C w') ∧ wpSeg P ops C Q [] a' w') = Q .normal := by
  funext a' w'
  simp [wpSeg]
 rw [e, exit_then_self]
 exact h
end
theorem elInt : Elem Tryz.prog 47 3 (.int .i64 0) 1 8 := Elem.mk' Tryz.underlying47 (by kernel_rfl) rfl (by decide)
abbrev vi (n : Nat) : Value := .int .i64 (n : Int)
def dirtyL (ds : List Bool) : Nat → List Nat
 | 0 => []
 | k + 1 => dirtyL ds k ++ (if ds.getD k false then [k] else [])
theorem dirtyL_len (ds : List Bool) (k : Nat) : (dirtyL ds k).length ≤ k := by
 induction k with
 | zero => simp [dirtyL]
 | succ k ih => unfold dirtyL; split <;> simp <;> omega
theorem dirty_any {w : World} {F : Foot} {S : Dev} (h : DevAt w F S) :
  Calls Tryz.prog 56 #[vdev F] w fun e w' => ∃ v, e = .returned v ∧ w'.ownsRow w.heap.size 3 1 v (dirtyL S.dirty S.dirty.length).length ((dirtyL S.dirty S.dirty.length).map vi) ∧ Below w.heap.size w w' := by
 have c1 : w.cell? ⟨F.d, 3, none⟩ = some (.slice (some ⟨F.t, 0, none⟩) S.dirty.length F.ct) := cell_of_row _ _ 3 _ _ _ h.head
 have hsm := h.small
 have hl := h.lenD
 have hn : S.dirty.length ≤ 1000000 := by omega
 have HR := LH h.dirty
 clear hsm hl h
 obtain ⟨n, hnn⟩ : ∃ n, n = S.dirty.length := ⟨_, rfl⟩
 rw [← hnn] at hn c1 ⊢
 have HN := LH hnn
 clear hnn
 go_enter Tryz.func56, Tryz.ntmps56
 go_wp2_with fail
 go_loopw [3, 11] (fun v i wr => ∃ k : Nat, k ≤ n ∧ i = .int .i64 k ∧ wr.ownsRow w.heap.size 3 1 v (dirtyL S.dirty k).length ((dirtyL S.dirty k).map vi) ∧ Below w.heap.size w wr) (fun _ i _ => n - (intOf i).toNat)
 case atStart => exact ⟨0, Nat.zero_le _, rfl, ⟨rfl, .inl ⟨rfl, rfl⟩⟩, Below.refl _ _⟩
 case round =>
  obtain ⟨k, hk, rfl, ho, hb⟩ := hrel
  obtain ⟨a1, c1', rfl, hc1, hm1⟩ := owned_form ho
  have hdl := dirtyL_len S.dirty k
  have HO := LH ho
  have HB := LH hb
  clear ho hb
  by_cases hlt : k < n
  ·have hlt' : (k : Int) < (n : Int) := by omega
   have HS : Hid (dirtyL S.dirty (k + 1) = dirtyL S.dirty k ++ (if S.dirty.getD k false then [k] else [])) := LH rfl
   have d0 : wr.cell? ⟨F.t, k, none⟩ = some (.bool (S.dirty.getD k false)) := below_cells HB.out (HR.out.cell (by have := HN.out; simp [← this, hlt])) (Nat.le_refl _)
   cases hq : S.dirty.getD k false
   ·rw [hq] at d0 HS
    clear hq
    go_wp2_with fail
    refine ⟨⟨k + 1, by omega, vint (by omega), ?_, HB.out⟩, by simp [intOf]; omega⟩
    rw [HS.out]
    simpa using HO.out
   ·rw [hq] at d0 HS
    have hone : Hid (∀ u ∈ (#[Value.int .i64 (k : Int)] : Array Value).toList, u.oneCell' = true) := LH (by intro u hu; simp at hu; subst hu; rfl)
    have hbase : Hid (w.heap.size ≤ wr.heap.size) := LH HB.out.size
    have hk9 : Hid ((dirtyL S.dirty k).length < 1000000000000) := LH (by omega)
    clear hq hdl hc1 hm1
    generalize hz : (dirtyL S.dirty k).length = z at *
    have HZ := LH hz
    clear hz
    go_wp2_with (at_builtin; refine wpList_append_new (us := #[.int .i64 (k : Int)]) elInt HO.out rfl hone.out hk9.out (by decide) hbase.out rfl rfl rfl (by simp [Act.eval]) ?_; intro g6 c6 w6 ho6 hg6 hc6 hm6 hb6 hl6; have HO6 := LH ho6; have HG6 := LH hg6; clear ho6 hg6)
    refine ⟨⟨k + 1, by omega, vint (by omega), ?_, below_grownBy HB.out HO.out HG6.out (Nat.le_refl _) (Nat.le_refl _)⟩, by simp [intOf]; omega⟩
    rw [HS.out]
    simpa [HZ.out] using HO6.out
  ·obtain rfl : k = n := by omega
   have hlt' : decide ((k : Int) < (k : Int)) = false := by simp
   go_wp2_with fail
   go_ret
   exact ⟨_, rfl, HO.out, HB.out⟩
structure Dev.wf (S : Dev) : Prop where
 lenL : S.lasting.length = S.cache.length
 lenF : S.flushed.length = S.cache.length
 lenP : S.pending.length = S.dirty.length
 lenD : S.cache.length = 8 * S.dirty.length
 small : S.cache.length ≤ 1000000
 u64L : ∀ z ∈ S.lasting, z < 18446744073709551616
 u64C : ∀ z ∈ S.cache, z < 18446744073709551616
 u64F : ∀ z ∈ S.flushed, z < 18446744073709551616
theorem DevAt.wf {w : World} {F : Foot} {S : Dev} (h : DevAt w F S) : S.wf := ⟨h.lenL, h.lenF, h.lenP, h.lenD, h.small, h.u64L, h.u64C, h.u64F⟩
structure Ent where
 g : Nat
 e : Nat
 vs : List Value
 ex : Bool
def RowX (W : World) (x : Ent) : Prop := ∃ xs : Array Value, W.heap[x.g]? = some (.cells xs x.e (0, 0)) ∧ ∃ more, xs.toList = x.vs ++ more ∧ (x.ex = true → more = [])
theorem RowX.row {W : World} {x : Ent} (h : RowX W x) : RowAt W x.g x.e x.vs := by
 obtain ⟨xs, h1, more, h2, _⟩ := h
 exact ⟨xs, h1, more, h2⟩
theorem RowX.of {W : World} {g e : Nat} {vs : List Value} (h : RowAt W g e vs) : RowX W ⟨g, e, vs, false⟩ := by
 obtain ⟨xs, h1, more, h2⟩ := h
 exact ⟨xs, h1, more, h2, fun h => by cases h⟩
theorem RowX.lt {W : World} {x : Ent} (h : RowX W x) : x.g < W.heap.size := h.row.lt
theorem RowX.keep {W W' : World} {x : Ent} (h : RowX W x) (hk : W'.heap[x.g]? = W.heap[x.g]?) : RowX W' x := by
 obtain ⟨xs, h1, r⟩ := h
 exact ⟨xs, hk.trans h1, r⟩
theorem RowX.exact {W : World} {g e : Nat} {vs : List Value} (h : RowX W ⟨g, e, vs, true⟩) : W.heap[g]? = some (.cells vs.toArray e (0, 0)) := by
 obtain ⟨xs, h1, more, h2, h3⟩ := h
 have := h3 rfl
 subst this
 simp at h2
 subst h2
 simpa using h1
structure Mem (w W : World) (L : List Ent) : Prop where
 below : Below w.heap.size w W
 rows : ∀ x ∈ L, RowX W x
 base : ∀ x ∈ L, w.heap.size ≤ x.g
 nd : (L.map Ent.g).Nodup
theorem Mem.start (w : World) : Mem w w [] := ⟨Below.refl _ _, by simp, by simp, by simp⟩
theorem Mem.lt {w W : World} {L : List Ent} (h : Mem w W L) : ∀ x ∈ L, x.g < W.heap.size := fun x hx => (h.rows x hx).lt
theorem Mem.later {w W W' : World} {L : List Ent} (h : Mem w W L) (hb : Below W.heap.size W W') : Mem w W' L :=
 ⟨h.below.trans (hb.mono h.below.size), fun x hx => (h.rows x hx).keep (hb.block _ (h.lt x hx)), h.base, h.nd⟩
theorem Mem.add {w W W' : World} {L : List Ent} (h : Mem w W L) (hb : Below W.heap.size W W') {x : Ent} (hx : RowX W' x) (hg : W.heap.size ≤ x.g) : Mem w W' (L ++ [x]) := by
 have h' := h.later hb
 refine ⟨h'.below, fun y hy => ?_, fun y hy => ?_, ?_⟩
 ·rcases List.mem_append.1 hy with hy | hy
  ·exact h'.rows y hy
  ·obtain rfl : y = x := by simpa using hy
   exact hx
 ·rcases List.mem_append.1 hy with hy | hy
  ·exact h.base y hy
  ·obtain rfl : y = x := by simpa using hy
   exact Nat.le_trans h.below.size hg
 ·rw [List.map_append, List.nodup_append]
  refine ⟨h.nd, by simp, ?_⟩
  intro a ha b hb' e
  simp at hb'
  subst hb'
  subst e
  obtain ⟨y, hy, rfl'⟩ := List.mem_map.1 ha
  have := h.lt y hy
  omega
theorem Mem.alloc {w W : World} {L : List Ent} (h : Mem w W L) (cs : Array Value) (t : Nat) : Mem w (W.alloc (.cells cs t)) (L ++ [⟨W.heap.size, t, cs.toList, true⟩]) :=
 h.add (below_alloc W _) ⟨cs, heap_alloc_new W _, [], by simp, fun _ => rfl⟩ (Nat.le_refl _)
theorem Mem.one (w : World) (cs : Array Value) (t : Nat) : Mem w (w.alloc (.cells cs t)) [⟨w.heap.size, t, cs.toList, true⟩] := (Mem.start w).alloc cs t
theorem Mem.two (w : World) (cs : Array Value) (t : Nat) (cs' : Array Value) (t' : Nat) : Mem w ((w.alloc (.cells cs t)).alloc (.cells cs' t')) [⟨w.heap.size, t, cs.toList, true⟩, ⟨w.heap.size + 1, t', cs'.toList, true⟩] := by
 have h := (Mem.one w cs t).alloc cs' t'
 simpa using h
theorem Mem.row {w W W' : World} {L : List Ent} (h : Mem w W L) (hb : Below W.heap.size W W') {g e : Nat} {vs : List Value} (hx : RowAt W' g e vs) (hg : W.heap.size ≤ g) : Mem w W' (L ++ [⟨g, e, vs, false⟩]) :=
 h.add hb (RowX.of hx) hg
theorem Mem.at {w W : World} {L : List Ent} (h : Mem w W L) (k : Nat) {g e : Nat} {vs : List Value} {ex : Bool} (hk : L[k]? = some ⟨g, e, vs, ex⟩) : RowAt W g e vs := (h.rows _ (List.mem_of_getElem? hk)).row
theorem Mem.exact {w W : World} {L : List Ent} (h : Mem w W L) (k : Nat) {g e : Nat} {vs : List Value} (hk : L[k]? = some ⟨g, e, vs, true⟩) : W.heap[g]? = some (.cells vs.toArray e (0, 0)) := (h.rows _ (List.mem_of_getElem? hk)).exact
theorem Mem.cell {w W : World} {L : List Ent} (h : Mem w W L) (k i : Nat) {g e : Nat} {vs : List Value} {ex : Bool} {v : Value} (hk : L[k]? = some ⟨g, e, vs, ex⟩) (hi : vs[i]? = some v) : W.cell? ⟨g, i, none⟩ = some v := (h.at k hk).cell hi
theorem Mem.frozen {w W : World} {L : List Ent} (h : Mem w W L) (k i : Nat) {g e : Nat} {vs : List Value} {ex : Bool} (hk : L[k]? = some ⟨g, e, vs, ex⟩) : W.frozen? ⟨g, i, none⟩ = false := (h.at k hk).frozen i
theorem Mem.glt {w W : World} {L : List Ent} (h : Mem w W L) (k : Nat) {g e : Nat} {vs : List Value} {ex : Bool} (hk : L[k]? = some ⟨g, e, vs, ex⟩) : g < W.heap.size := (h.at k hk).lt
theorem Mem.gbase {w W : World} {L : List Ent} (h : Mem w W L) (k : Nat) {g e : Nat} {vs : List Value} {ex : Bool} (hk : L[k]? = some ⟨g, e, vs, ex⟩) : w.heap.size ≤ g := h.base _ (List.mem_of_getElem? hk)
theorem below_touched {B : Nat} {L : List Nat} {w w1 w2 : World} (h : Below B w w1) (ht : Touch L w1 w2) (hL : ∀ k ∈ L, B ≤ k) (hB : B ≤ w.heap.size) : Below B w w2 :=
 h.trans (ht.below (Nat.le_trans hB h.size) hL)
theorem Mem.upd {w W W' : World} {L : List Ent} (h : Mem w W L) (k : Nat) {x y : Ent} (hk : L[k]? = some x) (hg : y.g = x.g) (ht : Touch [x.g] W W') (hy : RowX W' y) : Mem w W' (L.set k y) := by
 have hx := List.mem_of_getElem? hk
 have hkl : k < L.length := (List.getElem?_eq_some_iff.1 hk).1
 have hmap : (L.set k y).map Ent.g = L.map Ent.g := by
  rw [List.map_set]
  apply List.ext_getElem?
  intro i
  rw [List.getElem?_set]
  split
  ·rename_i e
   subst e
   simp [hkl, hg]
   have := (List.getElem?_eq_some_iff.1 hk).2
   rw [this]
  ·rfl
 refine ⟨below_touched h.below ht (by simpa using h.base x hx) (Nat.le_refl _), fun z hz => ?_, fun z hz => ?_, by rw [hmap]; exact h.nd⟩
 ·obtain ⟨j, hj, rfl⟩ := List.mem_iff_getElem.1 hz
  rw [List.getElem_set] at hz ⊢
  split
  ·exact hy
  ·rename_i hne
   have hj' : j < L.length := by simpa using hj
   refine (h.rows _ (List.getElem_mem hj')).keep (ht.block _ (h.lt _ (List.getElem_mem hj')) ?_)
   simp
   intro e
   have e1 : (L.map Ent.g)[j]'(by simpa using hj') = (L.map Ent.g)[k]'(by simpa using hkl) := by
    simp [e, (List.getElem?_eq_some_iff.1 hk).2]
   exact hne (((List.getElem_inj h.nd).1 e1).symm)
 ·obtain ⟨j, hj, rfl⟩ := List.mem_iff_getElem.1 hz
  rw [List.getElem_set]
  split
  ·rw [hg]; exact h.base x hx
  ·exact h.base _ (List.getElem_mem _)
theorem Mem.set {w W : World} {L : List Ent} (h : Mem w W L) (k i : Nat) (v : Value) {g e : Nat} {vs : List Value} {ex : Bool} (hk : L[k]? = some ⟨g, e, vs, ex⟩) (hi : i < vs.length) : Mem w (W.setCell ⟨g, i, none⟩ v) (L.set k ⟨g, e, vs.set i v, ex⟩) := by
 refine h.upd k hk rfl (Touch.setCell _ (by simp) _) ?_
 obtain ⟨xs, h1, more, h2, h3⟩ := h.rows _ (List.mem_of_getElem? hk)
 dsimp only at h1 h2 h3
 refine ⟨_, heap_setCell_same W g i xs e v h1, more, ?_, h3⟩
 dsimp only
 rw [Array.toList_setIfInBounds, h2, List.set_append_left _ _ hi]
section
variable {P : Program} {w W : World} {ops : Array Oper} {rest : List Oper} {o : Oper} {a : Act} {Q : Exit → Act → World → Prop} {L : List Ent}
theorem wpList_load_mem {ty : TypeId} {zs : Array Value} (A : Agg P ty zs) (h : Mem w W L) (k : Nat) {p : Operand} {g e : Nat} {vs : List Value} {ex : Bool}
  (hgd : o.guard = none) (ho : o.op = .load ty p) (hp : a.eval p = .pointer (some ⟨g, 0, none⟩)) (hk : L[k]? = some ⟨g, e, vs, ex⟩) (hs : vs.length = zs.size)
  (hK : wpList P ops Q rest (a.put o.dst (.agg vs.toArray)) W) : wpList P ops Q (o :: rest) a W :=
 wpList_load_part A vs (fun i v hi => by rw [Nat.zero_add]; exact h.cell k i hk hi) hs hgd ho hp hK
theorem wpList_store_mem {ty : TypeId} {zs : Array Value} (A : Agg P ty zs) (h : Mem w W L) (k : Nat) {p x : Operand} {g e : Nat} {vs : List Value} {cs : Array Value}
  (hgd : o.guard = none) (ho : o.op = .store ty p x) (hp : a.eval p = .pointer (some ⟨g, 0, none⟩)) (hx : a.eval x = .agg cs) (hk : L[k]? = some ⟨g, e, vs, true⟩) (hs : cs.size = zs.size) (hv : vs.length = cs.size) (h1 : cs.toList.all (·.oneCell') = true)
  (hK : ∀ W', Mem w W' (L.set k ⟨g, e, cs.toList, true⟩) → Touch [g] W W' → wpList P ops Q rest (a.put o.dst undef) W') : wpList P ops Q (o :: rest) a W := by
 refine wpList_store_row A (h.exact k hk) hs (by simpa using hv) (by rw [← Array.all_toList]; exact h1) hgd ho hp hx ?_
 intro W' hg hgr hsz
 have ht : Touch [g] W W' := ⟨hgr.os, hgr.tape, hgr.output, hgr.size, fun j hj hn => hgr.block j hj (fun e => hn (by simp at e; simp [e]))⟩
 exact hK W' (h.upd k hk rfl ht ⟨cs, hg, [], by simp, fun _ => rfl⟩) ht
theorem run_append_owned_none' {base t ty e : Nat} {i : TypeInfo} {size c : Nat} (ht : P.underlying t = some (.slice e)) (hi : P.info? e = some i)
  {v : Value} {n : Nat} {xs : List Value} (hown : W.ownsRow base e size v n xs) : (Builtin.append_ #[t, t] ty #[v, .slice none 0 c]).run P W = .ok v W := by
 rcases hown.2 with ⟨rfl, rfl⟩ | ⟨g, cap, cur, rfl, _, _, hnc, _⟩
 ·simp [Builtin.append_, run_underlying ht, sizeOf, typeInfo, hi, Builtin.lenOf, Builtin.firstCells]
 ·simp [Builtin.append_, run_underlying ht, sizeOf, typeInfo, hi, Builtin.lenOf, Builtin.firstCells, hnc, storeCells]
theorem wpList_append_cells {s x : Operand} {t e : TypeId} {z : Value} {size bytes base n m c : Nat} {v : Value} {xs ys : List Value} {ad : Option Addr} (E : Elem P t e z size bytes)
  (hown : W.ownsRow base e size v n xs) (hc : Cells W ad ys) (hl : ys.length = m * size) (h1 : ∀ u ∈ ys, u.oneCell' = true)
  (hn : n + m < 1000000000000) (hby : bytes ≤ 64) (hbase : base ≤ W.heap.size)
  (hgd : o.guard = none) (ho : o.op = .call { callee := .builtin .append, args := #[s, x], argTypes := #[t, t] })
  (hs : a.eval s = v) (hx : a.eval x = .slice ad m c)
  (hK : ∀ v' w', w'.ownsRow base e size v' (n + m) (xs ++ ys) → W.grownBy w' v.ownBlock → (v' = .slice none 0 0 → v = .slice none 0 0 ∧ m = 0) → wpList P ops Q rest (a.put o.dst v') w') :
  wpList P ops Q (o :: rest) a W := by
 cases ad with
 | none =>
  have hy : ys = [] := by rcases hc with h | ⟨b, off, h, _⟩; exact h; cases h
  subst hy
  have hm : m = 0 := by
   have := E.pos
   rcases Nat.mul_eq_zero.1 hl.symm with h | h
   ·exact h
   ·omega
  subst hm
  obtain ⟨i, i1, _⟩ := E.info
  refine wpList_plain hgd fun K hK' => ?_
  have hrun := run_append_owned_none' (P := P) (W := W) (ty := o.type) (c := c) E.under i1 hown
  unfold Oper.wp
  simp [execOp, ho, resolve, invoke, builtin, hs, hx, hrun, Result.andThen]
  exact hK' _ _ (hK v W (by simpa using hown) ⟨rfl, rfl, rfl, Nat.le_refl _, fun _ _ _ => rfl⟩ (fun h => ⟨h, rfl⟩))
 | some d =>
  refine wpList_append_many E hown hl ?_ h1 hn hby hbase hgd ho hs hx (fun v' w' a b c => hK v' w' a b c.1)
  intro j u hj
  rcases hc with h | ⟨b, off, h, hc⟩
  ·rw [h] at hj; simp at hj
  ·cases h
   rw [add_none]
   exact hc j u hj
theorem owned_new {w w' : World} {e size n : Nat} {v : Value} {xs : List Value} (h : w'.ownsRow w.heap.size e size v n xs) (hv : v ≠ .slice none 0 0) :
  ∃ g c, v = .slice (some ⟨g, 0, none⟩) n c ∧ w.heap.size ≤ g ∧ n ≤ c ∧ c ≤ maxLen ∧ RowAt w' g e xs := by
 rcases h.2 with ⟨h0, _⟩ | ⟨g, cap, cur, rfl, hb, hg, h1, h2, h3, h4⟩
 ·exact absurd h0 hv
 ·exact ⟨g, cap, rfl, hb, h1, h2, cur, hg, cur.toList.drop (n * size), by rw [← h4, List.take_append_drop]⟩
end
structure MemR (B : Nat) (W : World) (L : List Ent) : Prop where
 rows : ∀ x ∈ L, RowX W x
 base : ∀ x ∈ L, B ≤ x.g
 nd : (L.map Ent.g).Nodup
 size : B ≤ W.heap.size
theorem Mem.r {w W : World} {L : List Ent} (h : Mem w W L) : MemR w.heap.size W L := ⟨h.rows, h.base, h.nd, h.below.size⟩
theorem MemR.lt {B : Nat} {W : World} {L : List Ent} (h : MemR B W L) : ∀ x ∈ L, x.g < W.heap.size := fun x hx => (h.rows x hx).lt
theorem MemR.later {B : Nat} {W W' : World} {L : List Ent} (h : MemR B W L) (hb : Below W.heap.size W W') : MemR B W' L :=
 ⟨fun x hx => (h.rows x hx).keep (hb.block _ (h.lt x hx)), h.base, h.nd, Nat.le_trans h.size hb.size⟩
theorem MemR.touch {B : Nat} {W W' : World} {L : List Ent} (h : MemR B W L) {X : List Nat} (ht : Touch X W W') (hX : ∀ k ∈ X, k < B) : MemR B W' L :=
 ⟨fun x hx => (h.rows x hx).keep (ht.block _ (h.lt x hx) (fun hm => by have := hX _ hm; have := h.base x hx; omega)), h.base, h.nd, Nat.le_trans h.size ht.size⟩
theorem near_of {X : List Nat} {w W : World} (h : Touch X w W) : ∃ x : Near X w, W = x.val := ⟨⟨W, h.size, h.block⟩, rfl⟩
theorem MemR.at {B : Nat} {W : World} {L : List Ent} (h : MemR B W L) (k : Nat) {g e : Nat} {vs : List Value} {ex : Bool} (hk : L[k]? = some ⟨g, e, vs, ex⟩) : RowAt W g e vs := (h.rows _ (List.mem_of_getElem? hk)).row
theorem MemR.exact {B : Nat} {W : World} {L : List Ent} (h : MemR B W L) (k : Nat) {g e : Nat} {vs : List Value} (hk : L[k]? = some ⟨g, e, vs, true⟩) : W.heap[g]? = some (.cells vs.toArray e (0, 0)) := (h.rows _ (List.mem_of_getElem? hk)).exact
theorem MemR.cell {B : Nat} {W : World} {L : List Ent} (h : MemR B W L) (k i : Nat) {g e : Nat} {vs : List Value} {ex : Bool} {v : Value} (hk : L[k]? = some ⟨g, e, vs, ex⟩) (hi : vs[i]? = some v) : W.cell? ⟨g, i, none⟩ = some v := (h.at k hk).cell hi
theorem MemR.frozen {B : Nat} {W : World} {L : List Ent} (h : MemR B W L) (k i : Nat) {g e : Nat} {vs : List Value} {ex : Bool} (hk : L[k]? = some ⟨g, e, vs, ex⟩) : W.frozen? ⟨g, i, none⟩ = false := (h.at k hk).frozen i
theorem MemR.glt {B : Nat} {W : World} {L : List Ent} (h : MemR B W L) (k : Nat) {g e : Nat} {vs : List Value} {ex : Bool} (hk : L[k]? = some ⟨g, e, vs, ex⟩) : g < W.heap.size := (h.at k hk).lt
theorem MemR.gbase {B : Nat} {W : World} {L : List Ent} (h : MemR B W L) (k : Nat) {g e : Nat} {vs : List Value} {ex : Bool} (hk : L[k]? = some ⟨g, e, vs, ex⟩) : B ≤ g := h.base _ (List.mem_of_getElem? hk)
theorem MemR.upd {B : Nat} {W W' : World} {L : List Ent} (h : MemR B W L) (k : Nat) {x y : Ent} (hk : L[k]? = some x) (hg : y.g = x.g) (ht : Touch [x.g] W W') (hy : RowX W' y) : MemR B W' (L.set k y) := by
 have hx := List.mem_of_getElem? hk
 have hkl : k < L.length := (List.getElem?_eq_some_iff.1 hk).1
 have hmap : (L.set k y).map Ent.g = L.map Ent.g := by
  rw [List.map_set]
  apply List.ext_getElem?
  intro i
  rw [List.getElem?_set]
  split
  ·rename_i e
   subst e
   simp [hkl, hg]
   have := (List.getElem?_eq_some_iff.1 hk).2
   rw [this]
  ·rfl
 refine ⟨fun z hz => ?_, fun z hz => ?_, by rw [hmap]; exact h.nd, Nat.le_trans h.size ht.size⟩
 ·obtain ⟨j, hj, rfl⟩ := List.mem_iff_getElem.1 hz
  rw [List.getElem_set] at hz ⊢
  split
  ·exact hy
  ·rename_i hne
   have hj' : j < L.length := by simpa using hj
   refine (h.rows _ (List.getElem_mem hj')).keep (ht.block _ (h.lt _ (List.getElem_mem hj')) ?_)
   simp
   intro e
   have e1 : (L.map Ent.g)[j]'(by simpa using hj') = (L.map Ent.g)[k]'(by simpa using hkl) := by
    simp [e, (List.getElem?_eq_some_iff.1 hk).2]
   exact hne (((List.getElem_inj h.nd).1 e1).symm)
 ·obtain ⟨j, hj, rfl⟩ := List.mem_iff_getElem.1 hz
  rw [List.getElem_set]
  split
  ·rw [hg]; exact h.base x hx
  ·exact h.base _ (List.getElem_mem _)
theorem MemR.set {B : Nat} {W : World} {L : List Ent} (h : MemR B W L) (k i : Nat) (v : Value) {g e : Nat} {vs : List Value} {ex : Bool} (hk : L[k]? = some ⟨g, e, vs, ex⟩) (hi : i < vs.length) : MemR B (W.setCell ⟨g, i, none⟩ v) (L.set k ⟨g, e, vs.set i v, ex⟩) := by
 refine h.upd k hk rfl (Touch.setCell _ (by simp) _) ?_
 obtain ⟨xs, h1, more, h2, h3⟩ := h.rows _ (List.mem_of_getElem? hk)
 dsimp only at h1 h2 h3
 refine ⟨_, heap_setCell_same W g i xs e v h1, more, ?_, h3⟩
 dsimp only
 rw [Array.toList_setIfInBounds, h2, List.set_append_left _ _ hi]
theorem Touch.own {X : List Nat} {w W W' : World} (h : Touch X w W) {Y : List Nat} (ht : Touch Y W W') (hY : ∀ k ∈ Y, w.heap.size ≤ k ∨ k ∈ X) : Touch X w W' :=
 ⟨ht.os.trans h.os, ht.tape.trans h.tape, ht.output.trans h.output, Nat.le_trans h.size ht.size, fun k hk hn => (ht.block k (Nat.lt_of_lt_of_le hk h.size) (fun hm => (hY k hm).elim (fun h => by omega) hn)).trans (h.block k hk hn)⟩
theorem Touch.later {X : List Nat} {w W W' : World} (h : Touch X w W) (hb : Below W.heap.size W W') : Touch X w W' := h.trans (Touch.ofBelow hb)
section
variable {P : Program} {B : Nat} {W : World} {ops : Array Oper} {rest : List Oper} {o : Oper} {a : Act} {Q : Exit → Act → World → Prop} {L : List Ent}
theorem wpList_load_r {ty : TypeId} {zs : Array Value} (A : Agg P ty zs) (h : MemR B W L) (k : Nat) {p : Operand} {g e : Nat} {vs : List Value} {ex : Bool}
  (hgd : o.guard = none) (ho : o.op = .load ty p) (hp : a.eval p = .pointer (some ⟨g, 0, none⟩)) (hk : L[k]? = some ⟨g, e, vs, ex⟩) (hs : vs.length = zs.size)
  (hK : wpList P ops Q rest (a.put o.dst (.agg vs.toArray)) W) : wpList P ops Q (o :: rest) a W :=
 wpList_load_part A vs (fun i v hi => by rw [Nat.zero_add]; exact h.cell k i hk hi) hs hgd ho hp hK
theorem wpList_store_r {ty : TypeId} {zs : Array Value} (A : Agg P ty zs) (h : MemR B W L) (k : Nat) {p x : Operand} {g e : Nat} {vs : List Value} {cs : Array Value}
  (hgd : o.guard = none) (ho : o.op = .store ty p x) (hp : a.eval p = .pointer (some ⟨g, 0, none⟩)) (hx : a.eval x = .agg cs) (hk : L[k]? = some ⟨g, e, vs, true⟩) (hs : cs.size = zs.size) (hv : vs.length = cs.size) (h1 : cs.toList.all (·.oneCell') = true)
  (hK : ∀ W', MemR B W' (L.set k ⟨g, e, cs.toList, true⟩) → Touch [g] W W' → wpList P ops Q rest (a.put o.dst undef) W') : wpList P ops Q (o :: rest) a W := by
 refine wpList_store_row A (h.exact k hk) hs (by simpa using hv) (by rw [← Array.all_toList]; exact h1) hgd ho hp hx ?_
 intro W' hg hgr hsz
 have ht : Touch [g] W W' := ⟨hgr.os, hgr.tape, hgr.output, hgr.size, fun j hj hn => hgr.block j hj (fun e => hn (by simp at e; simp [e]))⟩
 exact hK W' (h.upd k hk rfl ht ⟨cs, hg, [], by simp, fun _ => rfl⟩) ht
end
end
section
open Go.Maps
def OwnI (w : World) (v : Value) (xs : List Nat) : Prop := w.ownsRow 0 3 1 v xs.length (xs.map vi) ∨ (∃ a, v = .slice (some a) 0 0 ∧ xs = [])
def rowOf : Value → Option Nat
 | .slice (some a) _ c => if c = 0 then none else some a.block
 | _ => none
theorem OwnI.nil (w : World) : OwnI w (.slice none 0 0) [] := .inl ⟨rfl, .inl ⟨rfl, rfl⟩⟩
theorem OwnI.cells {w : World} {v : Value} {xs : List Nat} (h : OwnI w v xs) : ∃ a c, v = .slice a xs.length c ∧ Cells w a (xs.map vi) ∧ xs.length ≤ c ∧ c ≤ maxLen := by
 rcases h with h | ⟨a, rfl, rfl⟩
 ·rcases h.2 with ⟨rfl, h0⟩ | ⟨g, cap, cur, rfl, hb, hg, h1, h2, h3, h4⟩
  ·have : xs = [] := List.length_eq_zero_iff.1 h0
   subst this
   exact ⟨none, 0, rfl, .inl rfl, Nat.le_refl _, by unfold maxLen; omega⟩
  ·refine ⟨_, _, rfl, .inr ⟨g, 0, rfl, fun i u hi => ?_⟩, h1, h2⟩
   have hc : RowAt w g 3 (xs.map vi) := ⟨cur, hg, cur.toList.drop (xs.length * 1), by rw [← h4, List.take_append_drop]⟩
   rw [Nat.zero_add]; exact hc.cell hi
 ·exact ⟨some a, 0, rfl, .inl rfl, Nat.le_refl _, by unfold maxLen; omega⟩
theorem OwnI.keep {w w' : World} {v : Value} {xs : List Nat} (h : OwnI w v xs) (hk : ∀ b, rowOf v = some b → w'.heap[b]? = w.heap[b]?) : OwnI w' v xs := by
 rcases h with h | h
 ·rcases h.2 with ⟨rfl, h0⟩ | ⟨g, cap, cur, rfl, hb, hg, h1, h2, h3, h4⟩
  ·exact .inl ⟨h.1, .inl ⟨rfl, h0⟩⟩
  ·by_cases hc : cap = 0
   ·subst hc
    have : xs = [] := List.length_eq_zero_iff.1 (by omega)
    subst this
    exact .inr ⟨_, rfl, rfl⟩
   ·exact .inl ⟨h.1, .inr ⟨g, cap, cur, rfl, hb, (hk g (by show (if cap = 0 then none else some g) = some g; rw [if_neg hc])).trans hg, h1, h2, h3, h4⟩⟩
 ·exact .inr h
theorem OwnI.lt {w : World} {v : Value} {xs : List Nat} (h : OwnI w v xs) : ∀ b, rowOf v = some b → b < w.heap.size := by
 intro b hb
 rcases h with h | ⟨a, rfl, rfl⟩
 ·rcases h.2 with ⟨rfl, h0⟩ | ⟨g, cap, cur, rfl, hb', hg, h1, h2, h3, h4⟩
  ·cases hb
  ·have hb2 : (if cap = 0 then none else some g) = some b := hb
   by_cases hc : cap = 0
   ·rw [if_pos hc] at hb2; cases hb2
   ·rw [if_neg hc] at hb2; cases hb2; exact (Array.getElem?_eq_some_iff.1 hg).1
 ·have hb2 : (if 0 = 0 then none else some a.block) = some b := hb
  rw [if_pos rfl] at hb2; cases hb2
def slotI (m k : Nat) : Nat := 32 + 32 * m + k
def FL.at (S : FL) (i : Nat) : List Nat := if i < 32 then S.g i else S.c ((i - 32) / 32) ((i - 32) % 32)
theorem FL.at_g (S : FL) {k : Nat} (h : k < 32) : S.at k = S.g k := by unfold FL.at; rw [if_pos h]
theorem FL.at_c (S : FL) (m : Nat) {k : Nat} (h : k < 32) : S.at (slotI m k) = S.c m k := by
 unfold FL.at slotI
 rw [if_neg (by omega), show (32 + 32 * m + k - 32) / 32 = m by omega, show (32 + 32 * m + k - 32) % 32 = k by omega]
theorem keyed_slot : Keyed Tryz.prog 237 := Keyed.of_law (deep_law_laid (by kernel_rfl) (m := 2) (by omega) (of_decide_eq_true (by kernel_rfl)) (by kernel_rfl) (by rw [Tryz.underlying237]))
abbrev slotV (m k : Int) : Value := .agg #[.int .i64 m, .int .i64 k]
theorem fsSlot : Tryz.prog.fieldsOf 237 = #[{ name := "Mutator", type := 3, offset := 0, embedded := false, tag := "", pkgPath := "", byteOffset := 0 }, { name := "Class", type := 3, offset := 1, embedded := false, tag := "", pkgPath := "", byteOffset := 8 }] := by kernel_rfl
theorem usSlot : Tryz.prog.underlying 237 = some (.struct (Tryz.prog.fieldsOf 237)) := by kernel_rfl
theorem ctSlot : Tryz.prog.cellsOf 237 = 2 := by kernel_rfl
theorem ciSlot : Tryz.prog.cellsOf 3 = 1 := by kernel_rfl
theorem ktSlot : Tryz.prog.keyType 237 = true := by kernel_rfl
theorem tsSlot : ∃ z, Tryz.prog.types.size = z + 1 := ⟨Tryz.prog.types.size - 1, by kernel_rfl⟩
theorem key_slot (m k : Int) (hm : (Lit.int .i64 m).wf = true) (hk : (Lit.int .i64 k).wf = true) : keyOf Tryz.prog 237 (slotV m k) = some (pairKey m k) := by
 have h3 : (slotV m k).formed Tryz.prog 237 = true := by simp [Value.formed, ctSlot]
 obtain ⟨z, hz⟩ := tsSlot
 unfold keyOf pairKey
 rw [usSlot]
 simp only
 rw [ktSlot, h3, if_pos (by rfl), hz]
 unfold Program.keyLits
 simp only [usSlot, fsSlot, ctSlot, Value.cells]
 rw [if_pos ⟨rfl, by decide +kernel⟩]
 simp [Program.keyLits, Tryz.underlying3, ciSlot, hm, hk]
structure FreeIn (w : World) (f mb n : Nat) (V : Nat → Value) (S : FL) : Prop where
 head : w.heap[f]? = some (.cells ((List.range 32).map V ++ [Value.map (some mb)]).toArray 235 (0, 0))
 map : ∃ M, VMap Tryz.prog 237 w mb n M ∧ ∀ m k : Nat, m < 4 → k < 32 → (M (pairKey m k)).getD (.slice none 0 0) = V (slotI m k)
 rows : ∀ i, i < 160 → OwnI w (V i) (S.at i)
 apart : ∀ i j, i < 160 → j < 160 → i ≠ j → ∀ b, rowOf (V i) = some b → rowOf (V j) ≠ some b
 neF : ∀ i, i < 160 → rowOf (V i) ≠ some f ∧ rowOf (V i) ≠ some mb
 ne : f ≠ mb
def FreeAt (w : World) (f mb n : Nat) (R : List Nat) (S : FL) : Prop := ∃ V, FreeIn w f mb n V S ∧ f ∈ R ∧ mb ∈ R ∧ (∀ b ∈ R, b < w.heap.size) ∧ ∀ i, i < 160 → ∀ b, rowOf (V i) = some b → b ∈ R
theorem FreeAt.keep {w w' : World} {f mb n : Nat} {R : List Nat} {S : FL} (h : FreeAt w f mb n R S) (hk : ∀ k ∈ R, w'.heap[k]? = w.heap[k]?) : FreeAt w' f mb n R S := by
 obtain ⟨V, hi, h1, h2, h3, h4⟩ := h
 obtain ⟨M, hm, hv⟩ := hi.map
 refine ⟨V, ⟨(hk f h1).trans hi.head, ⟨M, hm.block (hk mb h2), hv⟩, fun i hi' => (hi.rows i hi').keep fun b hb => hk b (h4 i hi' b hb), hi.apart, hi.neF, hi.ne⟩, h1, h2, fun b hb => ?_, h4⟩
 have hb3 := h3 b hb
 have : w'.heap[b]? ≠ none := by rw [hk b hb, Array.getElem?_eq_getElem hb3]; simp
 apply Classical.byContradiction
 intro c
 exact this (Array.getElem?_eq_none (by omega))
theorem FreeAt.below {w w' : World} {f mb n : Nat} {R : List Nat} {S : FL} (h : FreeAt w f mb n R S) (hb : Below w.heap.size w w') : FreeAt w' f mb n R S := by
 obtain ⟨V, _, _, _, h3, _⟩ := id h
 exact h.keep (fun k hk => hb.block k (h3 k hk))
theorem FreeAt.mem {w : World} {f mb n : Nat} {R : List Nat} {S : FL} (h : FreeAt w f mb n R S) : ∀ b ∈ R, b < w.heap.size := by
 obtain ⟨V, _, _, _, h3, _⟩ := h; exact h3
theorem FreeAt.mono {w : World} {f mb n n' : Nat} {R : List Nat} {S : FL} (h : FreeAt w f mb n R S) (hn : n ≤ n') : FreeAt w f mb n' R S := by
 obtain ⟨V, hi, r⟩ := h
 obtain ⟨M, hm, hv⟩ := hi.map
 exact ⟨V, { hi with map := ⟨M, hm.mono hn, hv⟩ }, r⟩
def NewFree (w : World) : Ending → World → Prop := fun e w' => ∃ f mb, e = .returned (.pointer (some ⟨f, 0, none⟩)) ∧ FreeAt w' f mb 0 [f, mb] FL.empty ∧ Below w.heap.size w w' ∧ w.heap.size ≤ f ∧ w.heap.size ≤ mb
theorem FL.at_empty (i : Nat) : FL.empty.at i = [] := by unfold FL.at FL.empty; split <;> rfl
theorem fnew_any (w : World) : Calls Tryz.prog 117 #[] w (NewFree w) := by
 have HV := LH (VMap.made w Tryz.prog 237)
 have HB := LH (below_alloc w (.map #[] 0))
 have HP : Hid (∀ f mb w', FreeAt w' f mb 0 [f, mb] FL.empty → Below w.heap.size w w' → w.heap.size ≤ f → w.heap.size ≤ mb → NewFree w (.returned (.pointer (some ⟨f, 0, none⟩))) w') := LH (fun f mb w' a b c d => ⟨f, mb, rfl, a, b, c, d⟩)
 generalize NewFree w = Post at *
 have hmm := @run_makeMap Tryz.prog
 go_enter Tryz.func117, Tryz.ntmps117
 go_wp2_with fail
 have hs : (w.alloc (.map #[] 0)).heap.size = w.heap.size + 1 := by simp
 generalize w.alloc _ = w1 at *
 have hb2 := below_alloc w1 (Obj.cells ((List.range 32).map (fun _ => Value.slice none 0 0) ++ [Value.map (some w.heap.size)]).toArray 235)
 have hh := heap_alloc_new w1 (Obj.cells ((List.range 32).map (fun _ => Value.slice none 0 0) ++ [Value.map (some w.heap.size)]).toArray 235)
 rw [hs] at hh
 refine HP.out (w.heap.size + 1) w.heap.size _ ⟨fun _ => .slice none 0 0, ⟨hh, ⟨_, HV.out.block (hb2.block _ (by omega)), fun _ _ _ _ => rfl⟩, fun i _ => (by rw [FL.at_empty]; exact OwnI.nil _), fun i j _ _ _ b hb => (by cases hb), fun i _ => ⟨(by intro h; cases h), (by intro h; cases h)⟩, by omega⟩, by simp, by simp, ?_, fun i _ b hb => (by cases hb)⟩ ?_ (by omega) (Nat.le_refl _)
 ·intro b hb
  simp only [List.mem_cons, List.not_mem_nil, or_false] at hb
  rcases hb with rfl | rfl <;> simp <;> omega
 ·exact HB.out.trans (hb2.mono (by omega))
end
section
open Go.Maps Go.ChangeMaps
structure Trc (ok : Nat → Prop) (P : Nat → List Nat) (f seen opn rest : List Nat) (bad : Bool) : Prop where
 nd : seen.Nodup
 in_ : ∀ x ∈ seen, Rch ok P f x
 sub : ∀ x ∈ opn, x ∈ seen
 from_ : ∀ x ∈ rest, x ∈ f ∨ ∃ y ∈ seen, x ∈ P y
 base : ∀ x ∈ f, ok x → x ∈ seen ∨ x ∈ rest
 next : ∀ y ∈ seen, y ∈ opn ∨ ∀ x ∈ P y, ok x → x ∈ seen ∨ x ∈ rest
 clean : bad = false → (∀ x ∈ f, x ≠ 0 → ok x ∨ x ∈ rest) ∧ (∀ y ∈ seen, y ∈ opn ∨ ∀ x ∈ P y, x ≠ 0 → ok x ∨ x ∈ rest)
 dirty : bad = true → ∃ x, x ≠ 0 ∧ ¬ ok x ∧ (x ∈ f ∨ ∃ y ∈ seen, x ∈ P y)
def CloOk (ok : Nat → Prop) (P : Nat → List Nat) (f : List Nat) : Prop := ∀ x, x ≠ 0 → (x ∈ f ∨ ∃ y, Rch ok P f y ∧ x ∈ P y) → ok x
section
variable {ok : Nat → Prop} {P : Nat → List Nat} {f seen opn rest : List Nat} {bad : Bool}
theorem Trc.start (ok : Nat → Prop) (P : Nat → List Nat) (f : List Nat) : Trc ok P f [] [] f false :=
 ⟨List.nodup_nil, fun _ h => by simp at h, fun _ h => by simp at h, fun _ h => .inl h, fun _ h _ => .inr h, fun _ h => by simp at h, fun _ => ⟨fun _ h _ => .inr h, fun _ h => by simp at h⟩, fun h => by cases h⟩
theorem Trc.skip {a : Nat} (h : Trc ok P f seen opn (a :: rest) bad) (h0 : ¬ ok 0) (ha : a = 0 ∨ a ∈ seen) : Trc ok P f seen opn rest bad := by
 have go : ∀ x, ok x → x ∈ seen ∨ x ∈ a :: rest → x ∈ seen ∨ x ∈ rest := fun x hx hm => by
  rcases hm with hm | hm
  ·exact .inl hm
  ·rcases List.mem_cons.1 hm with rfl | hm
   ·rcases ha with rfl | ha
    ·exact absurd hx h0
    ·exact .inl ha
   ·exact .inr hm
 have go2 : ∀ x, x ≠ 0 → ok x ∨ x ∈ a :: rest → ok x ∨ x ∈ rest := fun x hx hm => by
  rcases hm with hm | hm
  ·exact .inl hm
  ·rcases List.mem_cons.1 hm with rfl | hm
   ·rcases ha with rfl | ha
    ·exact absurd rfl hx
    ·exact .inl (h.in_ _ ha).ok'
   ·exact .inr hm
 refine ⟨h.nd, h.in_, h.sub, fun x hx => h.from_ x (List.mem_cons_of_mem _ hx), fun x hm hx => go x hx (h.base x hm hx), fun y hy => ?_, fun hb => ⟨fun x hm hx => go2 x hx ((h.clean hb).1 x hm hx), fun y hy => ?_⟩, h.dirty⟩
 ·rcases h.next y hy with c | c
  ·exact .inl c
  ·exact .inr (fun x hm hx => go x hx (c x hm hx))
 ·rcases (h.clean hb).2 y hy with c | c
  ·exact .inl c
  ·exact .inr (fun x hm hx => go2 x hx (c x hm hx))
theorem Trc.fail {a : Nat} (h : Trc ok P f seen opn (a :: rest) bad) (ha : a ≠ 0) (hn : ¬ ok a) : Trc ok P f seen opn rest true := by
 have go : ∀ x, ok x → x ∈ seen ∨ x ∈ a :: rest → x ∈ seen ∨ x ∈ rest := fun x hx hm => by
  rcases hm with hm | hm
  ·exact .inl hm
  ·rcases List.mem_cons.1 hm with rfl | hm
   ·exact absurd hx hn
   ·exact .inr hm
 refine ⟨h.nd, h.in_, h.sub, fun x hx => h.from_ x (List.mem_cons_of_mem _ hx), fun x hm hx => go x hx (h.base x hm hx), fun y hy => ?_, fun hb => (by cases hb), fun _ => ⟨a, ha, hn, h.from_ a List.mem_cons_self⟩⟩
 rcases h.next y hy with c | c
 ·exact .inl c
 ·exact .inr (fun x hm hx => go x hx (c x hm hx))
theorem Trc.take {a : Nat} (h : Trc ok P f seen opn (a :: rest) bad) (ha : ok a) (hs : a ∉ seen) : Trc ok P f (seen ++ [a]) (opn ++ [a]) rest bad := by
 have hr : Rch ok P f a := by
  rcases h.from_ a List.mem_cons_self with c | ⟨y, hy, c⟩
  ·exact .base c ha
  ·exact .step (h.in_ y hy) c ha
 have go : ∀ x, x ∈ seen ∨ x ∈ a :: rest → x ∈ seen ++ [a] ∨ x ∈ rest := fun x hm => by
  rcases hm with hm | hm
  ·exact .inl (List.mem_append_left _ hm)
  ·rcases List.mem_cons.1 hm with rfl | hm
   ·exact .inl (by simp)
   ·exact .inr hm
 have go2 : ∀ x, ok x ∨ x ∈ a :: rest → ok x ∨ x ∈ rest := fun x hm => by
  rcases hm with hm | hm
  ·exact .inl hm
  ·rcases List.mem_cons.1 hm with rfl | hm
   ·exact .inl ha
   ·exact .inr hm
 have ft : ∀ x, (x ∈ f ∨ ∃ y ∈ seen, x ∈ P y) → x ∈ f ∨ ∃ y ∈ seen ++ [a], x ∈ P y := fun x hx => hx.elim .inl (fun ⟨y, h1, h2⟩ => .inr ⟨y, List.mem_append_left _ h1, h2⟩)
 refine ⟨?_, fun x hm => ?_, fun x hm => ?_, fun x hx => ft x (h.from_ x (List.mem_cons_of_mem _ hx)), fun x hm hx => go x (h.base x hm hx), fun y hy => ?_, fun hb => ⟨fun x hm hx => go2 x ((h.clean hb).1 x hm hx), fun y hy => ?_⟩, fun hb => ?_⟩
 ·rw [List.nodup_append]
  exact ⟨h.nd, by simp, fun x hx y hy => by simp at hy; subst hy; exact fun e => hs (e ▸ hx)⟩
 ·rcases List.mem_append.1 hm with hm | hm
  ·exact h.in_ x hm
  ·simp at hm; subst hm; exact hr
 ·rcases List.mem_append.1 hm with hm | hm
  ·exact List.mem_append_left _ (h.sub x hm)
  ·exact List.mem_append_right _ hm
 ·rcases List.mem_append.1 hy with hy | hy
  ·rcases h.next y hy with c | c
   ·exact .inl (List.mem_append_left _ c)
   ·exact .inr (fun x hm hx => go x (c x hm hx))
  ·exact .inl (List.mem_append_right _ hy)
 ·rcases List.mem_append.1 hy with hy | hy
  ·rcases (h.clean hb).2 y hy with c | c
   ·exact .inl (List.mem_append_left _ c)
   ·exact .inr (fun x hm hx => go2 x (c x hm hx))
  ·exact .inl (List.mem_append_right _ hy)
 ·obtain ⟨x, h1, h2, h3⟩ := h.dirty hb
  exact ⟨x, h1, h2, ft x h3⟩
theorem Trc.pop {a : Nat} (h : Trc ok P f seen (opn ++ [a]) [] bad) : Trc ok P f seen opn (P a) bad := by
 have ha : a ∈ seen := h.sub a (by simp)
 refine ⟨h.nd, h.in_, fun x hx => h.sub x (List.mem_append_left _ hx), fun x hx => .inr ⟨a, ha, hx⟩, fun x hm hx => ?_, fun y hy => ?_, fun hb => ⟨fun x hm hx => ?_, fun y hy => ?_⟩, h.dirty⟩
 ·rcases h.base x hm hx with c | c
  ·exact .inl c
  ·cases c
 ·rcases h.next y hy with c | c
  ·rcases List.mem_append.1 c with c | c
   ·exact .inl c
   ·simp at c; subst c; exact .inr (fun x hm _ => .inr hm)
  ·refine .inr (fun x hm hx => ?_)
   rcases c x hm hx with c | c
   ·exact .inl c
   ·cases c
 ·rcases (h.clean hb).1 x hm hx with c | c
  ·exact .inl c
  ·cases c
 ·rcases (h.clean hb).2 y hy with c | c
  ·rcases List.mem_append.1 c with c | c
   ·exact .inl c
   ·simp at c; subst c; exact .inr (fun x hm _ => .inr hm)
  ·refine .inr (fun x hm hx => ?_)
   rcases c x hm hx with c | c
   ·exact .inl c
   ·cases c
theorem Trc.done (h : Trc ok P f seen [] [] bad) (x : Nat) : x ∈ seen ↔ Rch ok P f x := by
 refine ⟨h.in_ x, fun hr => ?_⟩
 induction hr with
 | base hm hx => exact (h.base _ hm hx).elim id (fun h => by simp at h)
 | step _ hm hx ih =>
  rcases h.next _ ih with c | c
  ·cases c
  ·exact (c _ hm hx).elim id (fun h => by simp at h)
theorem Trc.verdict (h : Trc ok P f seen [] [] bad) : bad = false ↔ CloOk ok P f := by
 constructor
 ·intro hb x hx hm
  rcases hm with hm | ⟨y, hy, hm⟩
  ·rcases (h.clean hb).1 x hm hx with c | c
   ·exact c
   ·cases c
  ·rcases (h.clean hb).2 y ((h.done y).2 hy) with c | c
   ·cases c
   ·rcases c x hm hx with c | c
    ·exact c
    ·cases c
 ·intro hc
  cases hb : bad with
  | false => rfl
  | true =>
   obtain ⟨x, h1, h2, h3⟩ := h.dirty hb
   exact absurd (hc x h1 (h3.elim .inl (fun ⟨y, hy, hm⟩ => .inr ⟨y, h.in_ y hy, hm⟩))) h2
end
def seenM (seen : List Nat) : Lit → Option Value
 | .int .i64 x => if 0 ≤ x ∧ x.toNat ∈ seen then some (.bool true) else none
 | _ => none
theorem seenM_int (seen : List Nat) (a : Nat) : seenM seen (.int .i64 (a : Int)) = if a ∈ seen then some (.bool true) else none := by
 show (if 0 ≤ (a : Int) ∧ (a : Int).toNat ∈ seen then some (Value.bool true) else none) = _
 simp
theorem seenM_some {seen : List Nat} {l : Lit} {v : Value} (h : seenM seen l = some v) : v = .bool true ∧ ∃ a : Nat, a ∈ seen ∧ l = .int .i64 (a : Int) := by
 unfold seenM at h
 split at h
 ·rename_i x
  split at h
  ·rename_i hx
   injection h with h
   exact ⟨h.symm, x.toNat, hx.2, by rw [Int.toNat_of_nonneg hx.1]⟩
  ·cases h
 ·cases h
theorem seenM_put (seen : List Nat) (a : Nat) : putL (seenM seen) (.int .i64 (a : Int)) (some (.bool true)) = seenM (seen ++ [a]) := by
 funext y
 by_cases e : y = .int .i64 (a : Int)
 ·subst e
  rw [putL_same, seenM_int, if_pos (by simp)]
 ·rw [putL_other _ e]
  unfold seenM
  split
  ·rename_i x
   have hne : x ≠ (a : Int) := fun h => e (by rw [h])
   have : (0 ≤ x ∧ x.toNat ∈ seen ++ [a]) ↔ (0 ≤ x ∧ x.toNat ∈ seen) := by
    constructor
    ·rintro ⟨h1, h2⟩
     refine ⟨h1, ?_⟩
     rcases List.mem_append.1 h2 with h2 | h2
     ·exact h2
     ·simp at h2; omega
    ·rintro ⟨h1, h2⟩; exact ⟨h1, List.mem_append_left _ h2⟩
   simp only [this]
  ·rfl
section
variable {P : Program} {k t : TypeId} {w : World} {b n : Nat} {ops : Array Oper} {rest : List Oper} {o : Oper} {a : Act} {Q : Exit → Act → World → Prop}
def SRange (P : Program) (k : TypeId) (w : World) (b r n : Nat) (seen left : List Nat) (cnt : Nat) : Prop :=
 ∃ (D : DataW Value) (lf : Lit → Bool), w.ranges P k rawElem b r n D lf cnt ∧ TellsV D (seenM seen) ∧ ∀ x : Nat, lf (.int .i64 (x : Int)) = decide (x ∈ left)
theorem SRange.kept {w' : World} {row : Option Nat} {seen left : List Nat} {cnt r : Nat} (h : SRange P k w b r n seen left cnt) (hg : w.grownBy w' row) (h1 : some b ≠ row) (h2 : some r ≠ row) : SRange P k w' b r n seen left cnt := by
 obtain ⟨D, lf, h3, h4, h5⟩ := h; exact ⟨D, lf, h3.kept hg h1 h2, h4, h5⟩
theorem SRange.left_eq {seen left : List Nat} {cnt r : Nat} (h : SRange P k w b r n seen left cnt) : w.rangeLeft b r = cnt := by obtain ⟨D, lf, h3, _⟩ := h; exact h3.left_eq
theorem wpList_srange (hg : o.guard = none) (m : Operand) (t : TypeId) (hop : o.op = Op.range t m) (k e : TypeId) (hk : P.underlying k = some (.int .i64)) (ht : P.underlying t = some (.map k e)) (b n : Nat) (seen : List Nat)
  (hm : a.eval m = .map (some b)) (hown : VMap P k w b n (seenM seen))
  (hK : ∀ w' cnt, SRange P k w' b w.heap.size n seen seen cnt → w.grownBy w' none → w'.heap.size = w.heap.size + 1 → wpList P ops Q rest (a.put o.dst (.pointer (some ⟨w.heap.size, 0, none⟩))) w') :
  wpList P ops Q (o :: rest) a w := by
 obtain ⟨D, ho, hT⟩ := hown
 refine wpList_range_own w hg m t hop k e (int_keyed hk) ht rawElem b n D hm ho fun w' h1 h2 h3 => hK w' _ ⟨D, _, h1, hT, fun x => ?_⟩ h2 h3
 rw [hT.has _ (by trivial), seenM_int]
 by_cases c : x ∈ seen <;> simp [c]
theorem wpList_snext (hg : o.guard = none) (it : Operand) (hop : o.op = Op.next it false) (k : TypeId) (hk : P.underlying k = some (.int .i64))
  (b r n : Nat) (seen left : List Nat) (cnt : Nat) (hnd : left.Nodup) (hsub : ∀ x ∈ left, x ∈ seen) (hit : a.eval it = .pointer (some ⟨r, 0, none⟩)) (h : SRange P k w b r n seen left cnt)
  (hDone : left = [] → wpList P ops Q rest (a.put o.dst (.tuple #[.bool false])) w)
  (hMore : ∀ (x : Nat) (w' : World) (cnt' : Nat), x ∈ left → SRange P k w' b r n seen (left.erase x) cnt' → cnt' < cnt →
   w.grownBy w' (some r) → w'.heap.size = w.heap.size → (Instr.entry (.pointer (some ⟨r, 0, none⟩))).run P w' = .ok (.tuple #[.int .i64 (x : Int), .bool true]) w' → wpList P ops Q rest (a.put o.dst (.tuple #[.bool true, .int .i64 (x : Int), .bool true])) w') :
  wpList P ops Q (o :: rest) a w := by
 obtain ⟨D, lf, h1, hT, hL⟩ := h
 refine wpList_next_ranges w hg it hop k (int_keyed hk) rawElem (Value.int .i64) (fun v : Value => v) (fun key kl hkey => by obtain ⟨x, rfl, _⟩ := Maps.keyOf_int_inv hk hkey; exact ⟨x, rfl⟩) (fun v _ _ => ⟨v, rfl⟩) b r n D lf cnt hit h1 (fun _ h0 => hDone ?_) ?_
 ·cases hl : left with
  | nil => rfl
  | cons x l =>
   have := hL x
   rw [h0, hl] at this
   simp at this
 ·intro z v kl y w' cnt' hkey hlf hv hat hrg hlt hgr hsz hen
  obtain ⟨z', hz1, rfl, hwf⟩ := Maps.keyOf_int_inv hk hkey
  injection hz1 with _ hz1
  subst hz1
  have hhas : has D (.int .i64 z) = true := has_true_of_atKey hat
  rw [hT.has _ (by trivial)] at hhas
  obtain ⟨u, hu⟩ := Option.isSome_iff_exists.1 hhas
  obtain ⟨rfl, x, hxs, hx⟩ := seenM_some hu
  injection hx with _ hx
  subst hx
  have hvt : v = .bool true := by
   have e := hat (.held (.bool true))
   rw [hT.val _ _ (by trivial) hu] at e
   unfold rawElem at hv
   injection hv with hv
   rw [← hv] at e
   injection e with e
   exact e.symm
  subst hvt
  have hxl : x ∈ left := by
   have := hL x
   rw [hlf] at this
   simpa using this.symm
  refine hMore x w' cnt' hxl ⟨D, _, hrg, hT, fun q => ?_⟩ hlt hgr hsz hen
  show (lf (.int .i64 (q : Int)) && !Lit.sameKey (.int .i64 (q : Int)) (.int .i64 (x : Int))) = _
  rw [hL]
  by_cases e : q = x
  ·subst e
   rw [WideAt.sameKey_self (by trivial)]
   have : q ∉ left.erase q := fun hm => by rw [hnd.mem_erase_iff] at hm; exact hm.1 rfl
   simp [this]
  ·rw [Maps.sameKey_ne (by intro hh; injection hh with _ hh; exact e (by omega))]
   have : q ∈ left.erase x ↔ q ∈ left := by rw [hnd.mem_erase_iff]; exact ⟨fun h => h.2, fun h => ⟨e, h⟩⟩
   simp [this]
theorem has_size {H : Type} {D : DataW H} {x : Lit} (h : has D x = true) : 0 < Maps.size D := by
 cases D with
 | map es =>
  cases es with
  | nil => simp [has] at h
  | cons p l => simp [Maps.size]
 | _ => simp [has] at h
def BadAt (P : Program) (k : TypeId) (w : World) (b n : Nat) (bad : Bool) : Prop := ∃ D : DataW Value, w.ownsMap P k rawElem b n D ∧ IsMap D ∧ (bad = false → Maps.size D = 0) ∧ (bad = true → 0 < Maps.size D)
theorem BadAt.made (w : World) (P : Program) (k : TypeId) : BadAt P k (w.alloc (.map #[] 0)) w.heap.size 0 false := ⟨.map [], World.ownsMap_made w P k _, isMap_empty, fun _ => rfl, fun h => by cases h⟩
theorem BadAt.lt {bad : Bool} (h : BadAt P k w b n bad) : b < w.heap.size := by obtain ⟨D, ho, _⟩ := h; exact ho.lt
theorem BadAt.mono {bad : Bool} {n' : Nat} (h : BadAt P k w b n bad) (hn : n ≤ n') : BadAt P k w b n' bad := by obtain ⟨D, ho, h2⟩ := h; exact ⟨D, ho.mono hn, h2⟩
theorem BadAt.block {bad : Bool} (h : BadAt P k w b n bad) {w' : World} (he : w'.heap[b]? = w.heap[b]?) : BadAt P k w' b n bad := by
 obtain ⟨D, ⟨es, clock, hb, hr⟩, h2⟩ := h
 exact ⟨D, ⟨es, clock, he.trans hb, hr⟩, h2⟩
theorem wpList_bstore (hg : o.guard = none) (m x v : Operand) (t : TypeId) (hop : o.op = Op.mapUpdate t m x v)
  (k e : TypeId) (K : Keyed P k) (ht : P.underlying t = some (.map k e)) (b n : Nat) (bad : Bool)
  (hm : a.eval m = .map (some b)) (hown : BadAt P k w b n bad) (hn : n < maxLen) (key val : Value) (kl : Lit) (hx : a.eval x = key) (hv : a.eval v = val) (hkey : keyOf P k key = some kl)
  (hK : ∀ w', BadAt P k w' b (n + 1) true → w.grownBy w' (some b) → wpList P ops Q rest (a.put o.dst undef) w') :
  wpList P ops Q (o :: rest) a w := by
 obtain ⟨D, ho, hI, _⟩ := hown
 exact wpList_mapUpdate_own w hg m x v t hop k e K ht rawElem b n D hm ho hn _ _ _ hx hv hkey _ [] rfl fun w' h1 h2 => hK w' ⟨_, h1, hI.put _ _, fun h => (by cases h), fun _ => has_size (has_put_same hI (K.key hkey) _)⟩ h2
theorem wpList_blen (hg : o.guard = none) (m : Operand) (t : TypeId) (hop : o.op = Op.call { callee := Callee.builtin Builtin.len, args := #[m], argTypes := #[t] })
  (k e : TypeId) (ht : P.underlying t = some (.map k e)) (b n : Nat) (bad : Bool) (hm : a.eval m = .map (some b)) (hown : BadAt P k w b n bad)
  (hK : ∀ s : Nat, s ≤ n → (bad = false → s = 0) → (bad = true → 0 < s) → wpList P ops Q rest (a.put o.dst (.int .i64 (s : Int))) w) :
  wpList P ops Q (o :: rest) a w := by
 obtain ⟨D, ho, _, h1, h2⟩ := hown
 exact wpList_len_own w hg m t hop k e ht rawElem b n D hm ho (hK _ ho.size_le h1 h2)
end
theorem keyed_edge : Keyed Tryz.prog 252 := Keyed.of_law (deep_law_laid (by kernel_rfl) (m := 2) (by omega) (of_decide_eq_true (by kernel_rfl)) (by kernel_rfl) (by rw [Tryz.underlying252]))
theorem fsEdge : Tryz.prog.fieldsOf 252 = #[{ name := "From", type := 3, offset := 0, embedded := false, tag := "", pkgPath := "", byteOffset := 0 }, { name := "Ptr", type := 3, offset := 1, embedded := false, tag := "", pkgPath := "", byteOffset := 8 }] := by kernel_rfl
theorem usEdge : Tryz.prog.underlying 252 = some (.struct (Tryz.prog.fieldsOf 252)) := by kernel_rfl
theorem ctEdge : Tryz.prog.cellsOf 252 = 2 := by kernel_rfl
theorem ciEdge : Tryz.prog.cellsOf 3 = 1 := by kernel_rfl
theorem ktEdge : Tryz.prog.keyType 252 = true := by kernel_rfl
theorem tsEdge : ∃ z, Tryz.prog.types.size = z + 1 := ⟨Tryz.prog.types.size - 1, by kernel_rfl⟩
theorem key_edge (m k : Int) (hm : (Lit.int .i64 m).wf = true) (hk : (Lit.int .i64 k).wf = true) : keyOf Tryz.prog 252 (.agg #[.int .i64 m, .int .i64 k]) = some (pairKey m k) := by
 have h3 : (Value.agg #[.int .i64 m, .int .i64 k]).formed Tryz.prog 252 = true := by simp [Value.formed, ctEdge]
 obtain ⟨z, hz⟩ := tsEdge
 unfold keyOf pairKey
 rw [usEdge]
 simp only
 rw [ktEdge, h3, if_pos (by rfl), hz]
 unfold Program.keyLits
 simp only [usEdge, fsEdge, ctEdge, Value.cells]
 rw [if_pos ⟨rfl, by decide +kernel⟩]
 simp [Program.keyLits, Tryz.underlying3, ciEdge, hm, hk]
end
section
theorem sorted_same : ∀ {x y : List Nat}, x.Pairwise (· ≤ ·) → y.Pairwise (· ≤ ·) → (∀ a, x.count a = y.count a) → x = y := by
 intro x y hx hy h
 have hp : x.Perm y := List.perm_iff_count.2 h
 exact hp.eq_of_pairwise (fun a b _ _ h1 h2 => Nat.le_antisymm h1 h2) hx hy
end
section
structure SetF where
 u : Nat
 b : Nat
 c : Nat
def SetF.list (X : SetF) : List Nat := [X.u, X.b]
def setV (X : SetF) (n : Nat) (l : List Bool) : Array Value := #[.slice (some ⟨X.b, 0, none⟩) n X.c, .int .i64 (l.length : Int), .int .i64 (l.count true : Int)]
structure SetIn (w : World) (X : SetF) (ws : List Nat) (l : List Bool) : Prop where
 bits : BitsOf ws l
 head : w.heap[X.u]? = some (.cells (setV X ws.length l) 262 (0, 0))
 row : RowAt w X.b 40 (ws.map vu64)
 ne : X.u ≠ X.b
 small : l.length ≤ 1000000
def SetAt (w : World) (X : SetF) (l : List Bool) : Prop := ∃ ws, SetIn w X ws l
abbrev vset (X : SetF) : Value := .pointer (some ⟨X.u, 0, none⟩)
theorem SetIn.keep {w w' : World} {X : SetF} {ws : List Nat} {l : List Bool} (h : SetIn w X ws l) (hk : ∀ k ∈ X.list, w'.heap[k]? = w.heap[k]?) : SetIn w' X ws l :=
 ⟨h.bits, (hk X.u (by simp [SetF.list])).trans h.head, h.row.keep (hk X.b (by simp [SetF.list])), h.ne, h.small⟩
theorem SetAt.keep {w w' : World} {X : SetF} {l : List Bool} (h : SetAt w X l) (hk : ∀ k ∈ X.list, w'.heap[k]? = w.heap[k]?) : SetAt w' X l := by
 obtain ⟨ws, h⟩ := h; exact ⟨ws, h.keep hk⟩
theorem SetAt.mem {w : World} {X : SetF} {l : List Bool} (h : SetAt w X l) : ∀ k ∈ X.list, k < w.heap.size := by
 obtain ⟨ws, h⟩ := h
 have h1 := (Array.getElem?_eq_some_iff.1 h.head).1
 have h2 := h.row.lt
 simp only [SetF.list, List.mem_cons, List.not_mem_nil, or_false, forall_eq_or_imp, forall_eq]
 exact ⟨h1, h2⟩
theorem SetAt.below {w w' : World} {X : SetF} {l : List Bool} (h : SetAt w X l) (hb : Below w.heap.size w w') : SetAt w' X l := h.keep (fun k hk => hb.block k (h.mem k hk))
theorem SetIn.c0 {w : World} {X : SetF} {ws : List Nat} {l : List Bool} (h : SetIn w X ws l) : w.cell? ⟨X.u, 0, none⟩ = some (.slice (some ⟨X.b, 0, none⟩) ws.length X.c) := cell_of_row _ _ 0 _ _ _ h.head
theorem SetIn.c1 {w : World} {X : SetF} {ws : List Nat} {l : List Bool} (h : SetIn w X ws l) : w.cell? ⟨X.u, 1, none⟩ = some (.int .i64 (l.length : Int)) := cell_of_row _ _ 1 _ _ _ h.head
theorem sin_any {w : World} {X : SetF} {l : List Bool} (h : SetAt w X l) (a : Int) :
  Calls Tryz.prog 160 #[vset X, .int .i64 a] w fun e w' => e = .returned (.bool (decide (0 ≤ a ∧ a < (l.length : Int)))) ∧ w = w' := by
 obtain ⟨ws, h⟩ := h
 have c1 := h.c1
 have hs := h.small
 clear h
 by_cases h0 : 0 ≤ a
 ·have h0' : decide (0 ≤ a) = true := by simpa using h0
  by_cases h1 : a < (l.length : Int)
  ·have HR : Hid (decide (0 ≤ a ∧ a < (l.length : Int)) = true) := LH (by simp [h0, h1])
   generalize decide (0 ≤ a ∧ a < (l.length : Int)) = r at *
   go_enter Tryz.func160, Tryz.ntmps160
   go_wp2_with fail
   go_ret
   exact ⟨by rw [HR.out]; rfl, rfl⟩
  ·have HR : Hid (decide (0 ≤ a ∧ a < (l.length : Int)) = false) := LH (by simp [h1])
   have h1' : (l.length : Int) ≤ a := by omega
   generalize decide (0 ≤ a ∧ a < (l.length : Int)) = r at *
   go_enter Tryz.func160, Tryz.ntmps160
   go_wp2_with fail
   go_ret
   exact ⟨by rw [HR.out]; rfl, rfl⟩
 ·have HR : Hid (decide (0 ≤ a ∧ a < (l.length : Int)) = false) := LH (by simp [h0])
  have h0' : decide (0 ≤ a) = false := by simpa using h0
  generalize decide (0 ≤ a ∧ a < (l.length : Int)) = r at *
  go_enter Tryz.func160, Tryz.ntmps160
  go_wp2_with fail
  go_ret
  exact ⟨by rw [HR.out]; rfl, rfl⟩
def hasI (l : List Bool) (a : Int) : Bool := decide (0 ≤ a) && l.getD a.toNat false
theorem hasI_nat (l : List Bool) (j : Nat) : hasI l (j : Int) = l.getD j false := by unfold hasI; simp
theorem hasI_out {l : List Bool} {a : Int} (h : decide (0 ≤ a ∧ a < (l.length : Int)) = false) : hasI l a = false := by
 unfold hasI
 by_cases h0 : 0 ≤ a
 ·have : ¬ a < (l.length : Int) := by simpa [h0] using h
  rw [List.getD_eq_getElem?_getD, List.getElem?_eq_none (by omega)]; simp
 ·simp [h0]
theorem bit_one (x r : Nat) (hx : x < 18446744073709551616) : bits BinOp.and IntKind.u64 ((x / 2 ^ r : Nat) : Int) 1 = ((x / 2 ^ r % 2 : Nat) : Int) := by
 have h1 : x / 2 ^ r < 18446744073709551616 := Nat.lt_of_le_of_lt (Nat.div_le_self _ _) hx
 have := u64_and_nat (x / 2 ^ r) 1 h1 (by decide)
 rw [show (1 : Int) = ((1 : Nat) : Int) from rfl, this, Nat.and_one_is_mod]
theorem bit_eq (x m : Nat) : (((x / 2 ^ m % 2 : Nat) : Int) == 1) = x.testBit m := by
 have h := bit_shift x m
 cases hb : x.testBit m with
 | false =>
  have : x / 2 ^ m % 2 = 0 := by
   have : ¬ x / 2 ^ m % 2 = 1 := fun c => by rw [h.1 c] at hb; cases hb
   omega
  rw [this]; rfl
 | true =>
  have := h.2 hb
  rw [this]; rfl
theorem shas_any {w : World} {X : SetF} {l : List Bool} (h : SetAt w X l) (a : Int) :
  Calls Tryz.prog 161 #[vset X, .int .i64 a] w fun e w' => e = .returned (.bool (hasI l a)) ∧ w = w' := by
 have HS := LH h
 obtain ⟨ws, h⟩ := h
 have c0 := h.c0
 by_cases hin : 0 ≤ a ∧ a < (l.length : Int)
 ·obtain ⟨j, rfl⟩ := Int.eq_ofNat_of_zero_le hin.1
  have hj : j < l.length := by omega
  have HT : Hid (decide (0 ≤ (j : Int) ∧ (j : Int) < (l.length : Int)) = true) := LH (by simp [hj])
  have hw := h.bits.word hj
  have HB := LH (h.bits.bit j)
  have hx := h.bits.getD_lt (j / 64)
  have d0 : w.cell? ⟨X.b, j / 64, none⟩ = some (vu64 (ws.getD (j / 64) 0)) := h.row.cell (by simp [hw])
  have HH := LH (hasI_nat l j)
  unfold bitW at HB
  have HO := LH (bit_one (ws.getD (j / 64) 0) (j % 64) hx)
  have HE := LH (bit_shift (ws.getD (j / 64) 0) (j % 64))
  have hsm := h.small
  generalize ws.getD (j / 64) 0 = x at *
  generalize hasI l (j : Int) = r at *
  generalize l.getD j false = r2 at *
  generalize hr : j % 64 = m at *
  generalize hq : j / 64 = q at *
  have hm : m < 64 := by omega
  have e1 : (j : Int) / 64 = (q : Int) := by omega
  have e2 : (j : Int) % 64 = (m : Int) := by omega
  clear h hin hr hq
  go_enter Tryz.func161, Tryz.ntmps161
  go_wp2_with fail
  refine (sin_any HS.out (j : Int)).mono ?_
  rintro e w1 ⟨rfl, rfl⟩
  rw [HT.out]
  go_wp2_with fail
  go_ret
  have e : ((x : Int) / 2 ^ m) = ((x / 2 ^ m : Nat) : Int) := by push_cast; rfl
  refine ⟨?_, rfl⟩
  rw [HH.out, ← HB.out, ← bit_eq, ← HO.out, ← e]
  rfl
 ·have HT : Hid (decide (0 ≤ a ∧ a < (l.length : Int)) = false) := LH (by simpa using hin)
  have HH := LH (hasI_out HT.out)
  generalize hasI l a = r at *
  clear h hin c0
  go_enter Tryz.func161, Tryz.ntmps161
  go_wp2_with fail
  refine (sin_any HS.out a).mono ?_
  rintro e w1 ⟨rfl, rfl⟩
  rw [HT.out]
  go_wp2_with fail
  go_ret
  exact ⟨by rw [HH.out]; rfl, rfl⟩
theorem or_val1 (x m : Nat) (hx : x < 18446744073709551616) (hm : m < 64) : bits BinOp.or IntKind.u64 (x : Int) (IntKind.u64.wrap ((2 : Int) ^ m)) = ((x ||| 2 ^ m : Nat) : Int) := by
 have p : 2 ^ m < 18446744073709551616 := Nat.pow_lt_pow_right (n := 64) (by decide) hm
 have e : IntKind.u64.wrap ((2 : Int) ^ m) = ((2 ^ m : Nat) : Int) := by
  rw [show (2 : Int) ^ m = ((2 ^ m : Nat) : Int) by push_cast; rfl]
  generalize 2 ^ m = y at p ⊢
  rw [IntKind.wrap_u64]; omega
 rw [e, u64_or_nat _ _ hx p]
structure SetMid (w w1 : World) (X : SetF) (ws : List Nat) (l : List Bool) : Prop where
 head : w1.heap[X.u]? = some (.cells (setV X ws.length l) 262 (0, 0))
 row : RowAt w1 X.b 40 (ws.map vu64)
 touch : Touch X.list w w1
theorem SetIn.mid {w : World} {X : SetF} {ws : List Nat} {l : List Bool} (h : SetIn w X ws l) (q y : Nat) (hq : q < ws.length) : SetMid w (w.setCell ⟨X.b, q, none⟩ (vu64 y)) X (ws.set q y) l := by
 refine ⟨?_, ?_, Touch.setCell _ (by simp [SetF.list]) _⟩
 ·rw [List.length_set]
  exact (Below.heap_setCell _ _ _ _ h.ne).trans h.head
 ·rw [List.map_set]; exact h.row.set q (by simpa using hq) _
theorem SetMid.done {w w1 : World} {X : SetF} {ws : List Nat} {l l' : List Bool} (h : SetMid w w1 X ws l) (hb : BitsOf ws l') (hl : l'.length = l.length) (hs : l.length ≤ 1000000) (hn : X.u ≠ X.b) {c : Int} (hc : c = (l'.count true : Int)) :
  SetAt (w1.setCell ⟨X.u, 2, none⟩ (.int .i64 c)) X l' ∧ Touch X.list w (w1.setCell ⟨X.u, 2, none⟩ (.int .i64 c)) := by
 subst hc
 refine ⟨⟨ws, hb, ?_, h.row.keep (Below.heap_setCell _ _ _ _ (fun e => hn e.symm)), hn, by omega⟩, h.touch.trans (Touch.setCell _ (by simp [SetF.list]) _)⟩
 rw [heap_setCell_same w1 X.u 2 _ _ _ h.head]
 unfold setV
 rw [hl]
 rfl
theorem SetMid.c2 {w w1 : World} {X : SetF} {ws : List Nat} {l : List Bool} (h : SetMid w w1 X ws l) : w1.cell? ⟨X.u, 2, none⟩ = some (.int .i64 (l.count true : Int)) ∧ w1.frozen? ⟨X.u, 2, none⟩ = false := ⟨cell_of_row _ _ 2 _ _ _ h.head, frozen_of_row _ _ _ _ _ h.head⟩
theorem sadd_new {w : World} {X : SetF} {l : List Bool} (h : SetAt w X l) (j : Nat) (hj : j < l.length) (hno : l.getD j false = false) :
  Calls Tryz.prog 119 #[vset X, .int .i64 (j : Int)] w fun e w' => e = .returned (.bool true) ∧ SetAt w' X (l.set j true) ∧ Touch X.list w w' := by
 have HS := LH h
 obtain ⟨ws, h⟩ := h
 have c0 := h.c0
 have HT : Hid (decide (0 ≤ (j : Int) ∧ (j : Int) < (l.length : Int)) = true) := LH (by simp [hj])
 have hw := h.bits.word hj
 have HBits := LH (h.bits.add hj)
 have hx := h.bits.getD_lt (j / 64)
 have d0 : w.cell? ⟨X.b, j / 64, none⟩ = some (vu64 (ws.getD (j / 64) 0)) := h.row.cell (by simp [hw])
 have HH : Hid (hasI l (j : Int) = false) := LH (by rw [hasI_nat, hno])
 have hsm := h.small
 have HI := LH h
 have HC := LH (count_set_true hj hno)
 have hcl := count_le_len l
 have f0 : w.frozen? ⟨X.b, j / 64, none⟩ = false := h.row.frozen _
 generalize ws.getD (j / 64) 0 = x at *
 generalize hr : j % 64 = m at *
 generalize hq : j / 64 = q at *
 have hm : m < 64 := by omega
 have e1 : (j : Int) / 64 = (q : Int) := by omega
 have e2 : (j : Int) % 64 = (m : Int) := by omega
 clear h hr hq hno
 go_enter Tryz.func119, Tryz.ntmps119
 go_wp2_with fail
 refine (sin_any HS.out (j : Int)).mono ?_
 rintro e w1 ⟨rfl, rfl⟩
 rw [HT.out]
 go_wp2_with fail
 refine (shas_any HS.out (j : Int)).mono ?_
 rintro e w1 ⟨rfl, rfl⟩
 rw [HH.out]
 go_upto_region 4 with fail
 rw [or_val1 x m hx hm]
 have HMid := LH (HI.out.mid q (x ||| 2 ^ m) hw)
 clear d0 f0 c0
 generalize w.setCell _ _ = w1 at *
 obtain ⟨c2, f2⟩ := HMid.out.c2
 go_wp2_with fail
 go_ret
 refine ⟨rfl, HMid.out.done HBits.out (by simp) hsm HI.out.ne ?_⟩
 rw [HC.out]; push_cast; rfl
theorem sadd_not {w : World} {X : SetF} {l : List Bool} (h : SetAt w X l) (a : Int) (hno : hasI l a = true ∨ decide (0 ≤ a ∧ a < (l.length : Int)) = false) :
  Calls Tryz.prog 119 #[vset X, .int .i64 a] w fun e w' => e = .returned (.bool false) ∧ w = w' := by
 have HS := LH h
 clear h
 cases hd : decide (0 ≤ a ∧ a < (l.length : Int)) with
 | false =>
  have HD := LH hd
  clear hd hno
  go_enter Tryz.func119, Tryz.ntmps119
  go_wp2_with fail
  refine (sin_any HS.out a).mono ?_
  rintro e w1 ⟨rfl, rfl⟩
  rw [HD.out]
  go_wp2_with fail
  go_ret
  exact ⟨rfl, rfl⟩
 | true =>
  have HD := LH hd
  have HH : Hid (hasI l a = true) := LH (hno.resolve_right (by rw [hd]; simp))
  clear hd hno
  go_enter Tryz.func119, Tryz.ntmps119
  go_wp2_with fail
  refine (sin_any HS.out a).mono ?_
  rintro e w1 ⟨rfl, rfl⟩
  rw [HD.out]
  go_wp2_with fail
  refine (shas_any HS.out a).mono ?_
  rintro e w1 ⟨rfl, rfl⟩
  rw [HH.out]
  go_wp2_with fail
  go_ret
  exact ⟨rfl, rfl⟩
def freshI (l : List Bool) (a : Int) : Bool := decide (0 ≤ a ∧ a < (l.length : Int)) && !hasI l a
def addI (l : List Bool) (a : Int) : List Bool := if freshI l a then l.set a.toNat true else l
theorem sadd_any {w : World} {X : SetF} {l : List Bool} (h : SetAt w X l) (a : Int) :
  Calls Tryz.prog 119 #[vset X, .int .i64 a] w fun e w' => e = .returned (.bool (freshI l a)) ∧ SetAt w' X (addI l a) ∧ Touch X.list w w' := by
 unfold addI
 cases hf : freshI l a with
 | true =>
  unfold freshI at hf
  simp only [Bool.and_eq_true, decide_eq_true_eq, Bool.not_eq_true'] at hf
  obtain ⟨⟨h1, h2⟩, h3⟩ := hf
  obtain ⟨j, rfl⟩ := Int.eq_ofNat_of_zero_le h1
  rw [hasI_nat] at h3
  rw [if_pos rfl]
  exact sadd_new h j (by omega) h3
 | false =>
  rw [if_neg (by simp)]
  refine (sadd_not h a ?_).mono ?_
  ·unfold freshI at hf
   cases hd : decide (0 ≤ a ∧ a < (l.length : Int)) with
   | false => exact .inr rfl
   | true => rw [hd] at hf; simp at hf; exact .inl hf
  ·rintro e w' ⟨rfl, rfl⟩
   exact ⟨rfl, h, Touch.refl _ _⟩
theorem up64 (n : Nat) : upN (n : Int) 64 = (((n + 63) / 64 : Nat) : Int) := by
 unfold upN
 split <;> omega
def NewSet (n : Nat) (w : World) : Ending → World → Prop := fun e w' => ∃ X : SetF, e = .returned (vset X) ∧ SetAt w' X (List.replicate n false) ∧ Below w.heap.size w w' ∧ ∀ k ∈ X.list, w.heap.size ≤ k
theorem snew_any (n : Nat) (h1 : 1 ≤ n) (hn : n ≤ 1000000) (w : World) : Calls Tryz.prog 116 #[.int .i64 (n : Int)] w (NewSet n w) := by
 have HUp := LH (up64 n)
 have HBits := LH (bits_new n)
 have hm1 : 1 ≤ (n + 63) / 64 := by omega
 have hm2 : (n + 63) / 64 ≤ 1000000 := by omega
 generalize (n + 63) / 64 = m at *
 have HP : Hid (∀ (X : SetF) (w' : World), SetAt w' X (List.replicate n false) → Below w.heap.size w w' → (∀ k ∈ X.list, w.heap.size ≤ k) → NewSet n w (.returned (vset X)) w') := LH (fun X w' a b c => ⟨X, rfl, a, b, c⟩)
 generalize NewSet n w = Post at *
 have hmx : max (n : Int) 0 = (n : Int) := by omega
 go_enter Tryz.func116, Tryz.ntmps116
 go_wp2_with fail
 refine (up_any _ _ _ (by omega) (by omega)).mono ?_
 rintro e w1 ⟨rfl, rfl⟩
 rw [HUp.out]
 go_wp2_with (at_make; refine wpList_make_len el64 w.heap.size m rfl rfl rfl (by omega) (by decide) (Nat.le_refl _) rfl rfl rfl rfl ?_; intro w1 hown hgrow; have HR : Hid (RowAt w1 w.heap.size 40 ((List.replicate m 0).map vu64)) := LH (by rw [List.map_replicate]; exact owned_row hown); have HB := LH (below_grown hgrow (Nat.le_refl _)); clear hown hgrow)
 have hb := below_alloc w1 (Obj.cells #[Value.slice (some ⟨w.heap.size, 0, none⟩) m m, Value.int IntKind.i64 (n : Int), Value.int IntKind.i64 0] 262)
 have hs := HB.out.size
 have hl := HR.out.lt
 refine HP.out ⟨w1.heap.size, w.heap.size, m⟩ _ ⟨List.replicate m 0, HBits.out, ?_, HR.out.keep (hb.block _ hl), by dsimp only; omega, by simpa using hn⟩ (HB.out.trans (hb.mono hs)) ?_
 ·have e : setV ⟨w1.heap.size, w.heap.size, m⟩ (List.replicate m 0).length (List.replicate n false) = #[Value.slice (some ⟨w.heap.size, 0, none⟩) m m, Value.int IntKind.i64 (n : Int), Value.int IntKind.i64 0] := by simp [setV, List.count_replicate]
  rw [e]
  exact heap_alloc_new _ _
 ·intro k hk
  simp only [SetF.list, List.mem_cons, List.not_mem_nil, or_false] at hk
  rcases hk with rfl | rfl
  ·exact hs
  ·exact Nat.le_refl _
def Same1 (v : Value) (w : World) : Ending → World → Prop := fun e w' => e = .returned v ∧ w = w'
end
end Go.Proofs.YtpohaahihdhleaaGreat
namespace Go.Proofs
open Go.Shelf
def Tryz.lays107_ren : Go.Shelf.Ren := ⟨fun | 107 => 206 | 108 => 219 | n => n, fun | 28 => 47 | 3 => 3 | 4 => 4 | 0 => 0 | n => n, fun | n => n⟩
theorem Tryz.lays107 : Go.Proofs.Lays.n107 Tryz.prog Tryz.lays107_ren := {
 mixed := by kernel_rfl
 f107 := Tryz.func206.trans (congrArg some (by kernel_rfl))
 f108 := Tryz.func219.trans (congrArg some (by kernel_rfl))
 t0 := Tryz.underlying0
 a0 := Tryz.isAgg0
 z0 := Tryz.sizeOf0
 v0 := Tryz.zeroValue0
 t3 := Tryz.underlying3
 a3 := Tryz.isAgg3
 z3 := Tryz.sizeOf3
 v3 := Tryz.zeroValue3
 t4 := Tryz.underlying4
 a4 := Tryz.isAgg4
 z4 := Tryz.sizeOf4
 v4 := Tryz.zeroValue4
 t28 := Tryz.underlying47
 a28 := Tryz.isAgg47
 z28 := Tryz.sizeOf47
 v28 := Tryz.zeroValue47 }
end Go.Proofs
namespace Go.Proofs.YtpohaahihdhleaaGreat
section
open Go.Maps
theorem nat_contains (xs : List Nat) (a : Nat) : (xs.map fun x : Nat => (x : Int)).contains (a : Int) = xs.contains a := by
 rw [Bool.eq_iff_iff, List.contains_iff_mem, List.contains_iff_mem, List.mem_map]
 constructor
 ·rintro ⟨x, hx, e⟩
  have : x = a := by omega
  rw [← this]; exact hx
 ·intro h; exact ⟨a, h, rfl⟩
theorem contains_any {w : World} (a : Option Addr) (n c : Nat) (xs : List Nat) (hn : xs.length = n) (hc : Cells w a (xs.map vi)) (h9 : xs.length ≤ 1000000000000) (x : Nat) :
  Calls Tryz.prog 206 #[.slice a n c, .int .i64 (x : Int)] w (Same1 (.bool (xs.contains x)) w) := by
 subst hn
 cases xs with
 | nil =>
  refine (Any.slices_Contains_int_empty Tryz.lays107 a c (x : Int) w).mono ?_
  rintro e w' ⟨rfl, rfl⟩
  exact ⟨rfl, rfl⟩
 | cons y ys =>
  rcases hc with h | ⟨b, off, rfl, hc⟩
  ·cases h
  ·refine (Any.slices_Contains_int Tryz.lays107 b off (y :: ys).length c ((y :: ys).map fun x : Nat => (x : Int)) (x : Int) w (by simp) (by omega) (fun j hj => ?_)).mono ?_
   ·refine hc j _ ?_
    rw [List.length_map] at hj
    simp only [List.getElem?_map, List.getElem?_eq_getElem hj, Option.map_some, List.getD_eq_getElem?_getD, Option.getD_some]
   ·rintro e w' ⟨rfl, rfl⟩
    refine ⟨?_, rfl⟩
    rw [List.take_of_length_le (by simp), nat_contains]
theorem FreeIn.lt {w : World} {f mb n : Nat} {V : Nat → Value} {S : FL} (h : FreeIn w f mb n V S) {k : Nat} (hk : k < 32) : ((List.range 32).map V ++ [Value.map (some mb)]).toArray[k]? = some (V k) := by
 rw [List.getElem?_toArray, List.getElem?_append_left (by simpa using hk)]
 simp [hk]
theorem FreeIn.g {w : World} {f mb n : Nat} {V : Nat → Value} {S : FL} (h : FreeIn w f mb n V S) {k : Nat} (hk : k < 32) : w.cell? ⟨f, k, none⟩ = some (V k) :=
 (cell_of_row _ _ k _ _ _ h.head).trans (h.lt hk)
theorem FreeIn.m {w : World} {f mb n : Nat} {V : Nat → Value} {S : FL} (h : FreeIn w f mb n V S) : w.cell? ⟨f, 32, none⟩ = some (.map (some mb)) :=
 (cell_of_row _ _ 32 _ _ _ h.head).trans (by rw [List.getElem?_toArray, List.getElem?_append_right (by simp)]; simp)
abbrev vfree (f : Nat) : Value := .pointer (some ⟨f, 0, none⟩)
theorem zero_ints (w : World) : (zeroValue 47).run Tryz.prog w = .ok (.slice none 0 0) w := Tryz.zeroValue47 w
def FL.hasTo (S : FL) (k a : Nat) : Nat → Bool
 | 0 => (S.g k).contains a
 | i + 1 => S.hasTo k a i || (S.c i k).contains a
theorem FL.hasTo_all (S : FL) (k a : Nat) : S.hasTo k a 4 = S.has k a := rfl
theorem FL.hasTo_false {S : FL} {k a : Nat} : ∀ {i j : Nat}, S.hasTo k a i = true → i ≤ j → S.hasTo k a j = true
  | i, 0, h, hj => by obtain rfl : i = 0 := by omega
                      exact h
  | i, j + 1, h, hj => by
    by_cases e : i = j + 1
    · subst e; exact h
    · unfold FL.hasTo
      rw [FL.hasTo_false h (by omega)]; rfl
theorem wf_small (k : Nat) (h : k < 1000) : (Lit.int .i64 (k : Int)).wf = true := by
 exact WalkArith.wf_i64 (by omega)
theorem fhas_any {w : World} {f mb n : Nat} {R : List Nat} {S : FL} (h : FreeAt w f mb n R S) (hL : ∀ i, i < 160 → (S.at i).length ≤ 1000000) (k a : Nat) (hk : k < 32) :
  Calls Tryz.prog 186 #[vfree f, .int .i64 (k : Int), .int .i64 (a : Int)] w (Same1 (.bool (S.has k a)) w) := by
 obtain ⟨V, hi, _⟩ := h
 obtain ⟨M, hm, hv⟩ := hi.map
 have HI := LH hi
 have HM := LH hm
 have HV := LH hv
 have HL := LH hL
 have c32 := hi.m
 have ck := hi.g hk
 obtain ⟨ag, cg, eg, hcg, _, _⟩ := (hi.rows k (by omega)).cells
 rw [S.at_g hk] at eg hcg
 rw [eg] at ck
 have HCg := LH hcg
 have HLg : Hid ((S.g k).length ≤ 1000000) := LH (by have := hL k (by omega); rwa [S.at_g hk] at this)
 have HP : Hid (∀ b, b = S.has k a → Same1 (.bool (S.has k a)) w (.returned (.bool b)) w) := LH (by rintro b rfl; exact ⟨rfl, rfl⟩)
 generalize Same1 (.bool (S.has k a)) w = Post at *
 have hlen : (S.g k).length = (S.g k).length := rfl
 obtain ⟨lg, hlg⟩ : ∃ lg, lg = (S.g k).length := ⟨_, rfl⟩
 rw [← hlg] at ck
 have HLe := LH hlg
 clear hi hm hv hL eg hcg hlen hlg
 go_enter Tryz.func186, Tryz.ntmps186
 go_wp2_with fail
 refine (cright_any _ _).mono ?_
 rintro e w1 ⟨rfl, rfl⟩
 rw [decide_eq_true (show (0 : Int) ≤ (k : Int) ∧ (k : Int) < 32 by omega)]
 go_wp2_with fail
 refine (contains_any ag lg cg (S.g k) HLe.out.symm HCg.out (by have := HLg.out; omega) a).mono ?_
 rintro e w1 ⟨rfl, rfl⟩
 cases hg0 : (S.g k).contains a with
 | true =>
  have HB : Hid (true = S.has k a) := LH (by rw [← FL.hasTo_all]; exact (FL.hasTo_false (i := 0) hg0 (by omega)).symm)
  clear hg0
  go_wp2_with fail
  exact HP.out _ HB.out
 | false =>
  have H0 : Hid (S.hasTo k a 0 = false) := LH hg0
  clear hg0
  go_wp2_with fail
  go_loop [19] (fun iv => ∃ i : Nat, i ≤ 4 ∧ iv = .int .i64 (i : Int) ∧ Hid (S.hasTo k a i = false)) (fun iv => 4 - (intOf iv).toNat)
  case atStart => exact ⟨0, by omega, rfl, H0⟩
  case round =>
   clear H0
   obtain ⟨i, hi4, rfl, HT⟩ := hrel
   by_cases hlt : i < 4
   ·obtain ⟨ac, cc, ec, hcc, _, _⟩ := (HI.out.rows (slotI i k) (by unfold slotI; omega)).cells
    rw [S.at_c i hk] at ec hcc
    have hlc := HL.out (slotI i k) (by unfold slotI; omega)
    rw [S.at_c i hk] at hlc
    have HVi := HV.out i k hlt hk
    have HCc := LH hcc
    have HLc := LH hlc
    have HStep : Hid (S.hasTo k a (i + 1) = (S.hasTo k a i || (S.c i k).contains a)) := LH rfl
    rw [ec] at HVi
    have HVi := LH HVi
    obtain ⟨lc, hlcx⟩ : ∃ lc, lc = (S.c i k).length := ⟨_, rfl⟩
    rw [← hlcx] at HVi
    have HLx := LH hlcx
    clear ec hcc hlc hlcx
    have hkey := key_slot (i : Int) (k : Int) (wf_small i (by omega)) (wf_small k (by omega))
    go_wp2_with (refine wpList_vlook rfl _ _ 233 rfl 237 47 keyed_slot Tryz.underlying233 _ (zero_ints _) mb n M rfl HM.out _ _ rfl hkey ?_; rw [HVi.out])
    refine (contains_any ac lc cc (S.c i k) HLx.out.symm HCc.out (by have := HLc.out; omega) a).mono ?_
    rintro e w1 ⟨rfl, rfl⟩
    cases hc0 : (S.c i k).contains a with
    | true =>
     have HB : Hid (true = S.has k a) := LH (by rw [← FL.hasTo_all]; exact (FL.hasTo_false (i := i + 1) (by rw [HStep.out, hc0]; simp) (by omega)).symm)
     clear hc0
     go_wp2_with fail
     exact HP.out _ HB.out
    | false =>
     have HT2 : Hid (S.hasTo k a (i + 1) = false) := LH (by rw [HStep.out, hc0, HT.out]; rfl)
     clear hc0
     go_wp2_with fail
     go_round
     case rel => exact ⟨i + 1, by omega, vint (by omega), HT2⟩
     case measure => simp [intOf]; omega
   ·obtain rfl : i = 4 := by omega
    have HB : Hid (false = S.has k a) := LH (by rw [← FL.hasTo_all]; exact HT.out.symm)
    go_wp2_with fail
    exact HP.out _ HB.out
end
section
def sizesL : List Nat := [2, 3, 4, 5, 6, 7, 8, 10, 12, 14, 16, 18, 20, 24, 28, 32, 36, 40, 46, 51, 56, 64, 73, 85, 92, 102, 113, 128, 146, 170, 204, 256]
def clsWords (k : Int) : Nat := if 0 ≤ k ∧ k < 32 then sizesL.getD k.toNat 0 else 0
def zeros32 : Array Value := (List.replicate 32 (Value.int .i64 0)).toArray
theorem agg32 : Agg Tryz.prog 291 zeros32 := ⟨⟨_, Tryz.underlying291, rfl⟩, by kernel_rfl⟩
def sizesV : Array Value := (sizesL.map (fun n : Nat => Value.int .i64 (n : Int))).toArray
theorem sizesV_one : sizesV.all (·.oneCell') = true := by simp [sizesV, sizesL, Value.oneCell']
theorem sizes_any (w : World) : Calls Tryz.prog 205 #[] w fun e w' => e = .returned (.agg sizesV) ∧ Below w.heap.size w w' := by
 go_enter Tryz.func205, Tryz.ntmps205
 go_wp2_with (first
  | (refine wpList_alloc_agg agg32 rfl rfl ?_; intro w1 hg1 hgr1 hs1)
  | (refine wpList_store_row (cs := sizesV) agg32 hg1 rfl rfl sizesV_one rfl rfl rfl rfl ?_; intro w2 hg2 hgr2 hs2))
 refine bodyPost_ret (v := .agg sizesV) ?_ rfl ⟨rfl, ?_⟩
 ·exact results_cell_row rfl _ _ _ _ _ _ _ rfl hg2 Tryz.underlying291 rfl (by kernel_rfl)
 ·exact (below_grown hgr1 (Nat.le_refl _)).grown hgr2 (by omega) (fun k e => by cases e; omega)
theorem cwords_any (k : Int) (w : World) : Calls Tryz.prog 185 #[.int .i64 k] w fun e w' => e = .returned (.int .i64 (clsWords k : Nat)) ∧ Below w.heap.size w w' := by
 by_cases h : 0 ≤ k ∧ k < 32
 ·have HW : Hid (clsWords k = sizesL.getD k.toNat 0) := LH (by unfold clsWords; rw [if_pos h])
  have H := LH h
  obtain ⟨h1, h2⟩ := h
  go_enter Tryz.func185, Tryz.ntmps185
  go_wp2_with fail
  refine (cright_any _ _).mono ?_
  rintro e w1 ⟨rfl, rfl⟩
  rw [decide_eq_true H.out]
  go_wp2_with fail
  refine (sizes_any _).mono ?_
  rintro e w1 ⟨rfl, hb⟩
  have hv : sizesV[k.toNat]? = some (Value.int .i64 (sizesL.getD k.toNat 0 : Nat)) := by
   obtain ⟨j, rfl⟩ := Int.eq_ofNat_of_zero_le h1
   have hj : j < sizesL.length := by show j < 32; omega
   simp only [Int.toNat_natCast, sizesV, List.getElem?_toArray, List.getElem?_map, List.getElem?_eq_getElem hj, Option.map_some, List.getD_eq_getElem?_getD, Option.getD_some]
  have HV := LH hv
  clear hv
  go_wp2_with (refine wpList_index_arr k.toNat Tryz.underlying291 Tryz.underlying3 rfl (by kernel_rfl) (by omega) (by omega) HV.out rfl rfl rfl rfl ?_)
  go_ret
  exact ⟨ret_int (by rw [HW.out, List.getD_eq_getElem?_getD]), hb⟩
 ·have HW : Hid (clsWords k = 0) := LH (by unfold clsWords; rw [if_neg h])
  have H := LH h
  clear h
  go_enter Tryz.func185, Tryz.ntmps185
  go_wp2_with fail
  refine (cright_any _ _).mono ?_
  rintro e w1 ⟨rfl, rfl⟩
  rw [decide_eq_false H.out]
  go_wp2_with fail
  go_ret
  exact ⟨ret_int (by rw [HW.out]; rfl), Below.refl _ _⟩
def ofN (n : Int) : Nat := sizesL.findIdx (fun s : Nat => decide (n ≤ (s : Int)))
theorem ofN_eq (n : Int) (k : Nat) (hk : k < 32) (h1 : n ≤ (sizesL.getD k 0 : Nat)) (h2 : ∀ j, j < k → ((sizesL.getD j 0 : Nat) : Int) < n) : ofN n = k := by
 have hl : k < sizesL.length := hk
 unfold ofN
 rw [List.findIdx_eq hl]
 have g : ∀ j (hj : j < sizesL.length), sizesL.getD j 0 = sizesL[j] := fun j hj => by simp [hj]
 refine ⟨by rw [← g k hl]; simpa using h1, fun j hj => ?_⟩
 rw [← g j (by omega)]
 have := h2 j hj
 simp only [decide_eq_false_iff_not]
 omega
theorem sizes_mono : ∀ i j : Nat, i ≤ j → j < 32 → sizesL.getD i 0 ≤ sizesL.getD j 0 := by
 have h : ∀ j : Fin 32, ∀ i : Fin 32, i ≤ j → sizesL.getD i.val 0 ≤ sizesL.getD j.val 0 := by decide
 intro i j hij hj
 exact h ⟨j, hj⟩ ⟨i, by omega⟩ hij
theorem clsWords_nat (k : Nat) (h : k < 32) : clsWords (k : Int) = sizesL.getD k 0 := by
 unfold clsWords; rw [if_pos (by omega)]; rfl
theorem clsWords_le (k : Int) : clsWords k ≤ 256 := by
 unfold clsWords
 split
 ·have h := sizes_mono k.toNat 31 (by omega) (by omega)
  have e : sizesL.getD 31 0 = 256 := rfl
  rw [e] at h
  exact h
 ·omega
theorem clsWords_pos (k : Int) (h : 0 ≤ k ∧ k < 32) : 2 ≤ clsWords k := by
 unfold clsWords
 rw [if_pos h]
 have h := sizes_mono 0 k.toNat (by omega) (by omega)
 have e : sizesL.getD 0 0 = 2 := rfl
 rw [e] at h
 exact h
theorem cmost_any (w : World) : Calls Tryz.prog 218 #[] w fun e w' => e = .returned (.int .i64 256) ∧ Below w.heap.size w w' := by
 go_enter Tryz.func218, Tryz.ntmps218
 go_wp2_with fail
 refine (cwords_any _ _).mono ?_
 rintro e w1 ⟨rfl, hb⟩
 have e : ((clsWords 31 : Nat) : Int) = 256 := by decide
 rw [e]
 go_wp2_with fail
 go_ret
 exact ⟨rfl, hb⟩
def ofV (n : Int) : Value := if 1 ≤ n ∧ n ≤ 256 then .tuple #[.int .i64 (ofN n : Nat), .bool true] else .tuple #[.int .i64 0, .bool false]
theorem cof_any (n : Int) (w : World) : Calls Tryz.prog 203 #[.int .i64 n] w fun e w' => e = .returned (ofV n) ∧ Below w.heap.size w w' := by
 by_cases h1 : n < 1
 ·have HV : Hid (ofV n = .tuple #[.int .i64 0, .bool false]) := LH (by unfold ofV; rw [if_neg (by omega)])
  go_enter Tryz.func203, Tryz.ntmps203
  go_wp2_with fail
  go_ret2
  exact ⟨by rw [HV.out]; rfl, Below.refl _ _⟩
 by_cases h2 : 256 < n
 ·have HV : Hid (ofV n = .tuple #[.int .i64 0, .bool false]) := LH (by unfold ofV; rw [if_neg (by omega)])
  go_enter Tryz.func203, Tryz.ntmps203
  go_wp2_with fail
  refine (cmost_any _).mono ?_
  rintro e w1 ⟨rfl, hb⟩
  go_wp2_with fail
  go_ret2
  exact ⟨by rw [HV.out]; rfl, hb⟩
 have HV : Hid (ofV n = .tuple #[.int .i64 (ofN n : Nat), .bool true]) := LH (by unfold ofV; rw [if_pos (by omega)])
 go_enter Tryz.func203, Tryz.ntmps203
 go_wp2_with fail
 refine (cmost_any _).mono ?_
 rintro e w1 ⟨rfl, hb⟩
 go_wp2_with fail
 go_loopw [4, 5] (fun lo hi wr => ∃ i j : Nat, i ≤ j ∧ j ≤ 31 ∧ lo = .int .i64 i ∧ hi = .int .i64 j ∧ Hid (∀ t, t < i → ((sizesL.getD t 0 : Nat) : Int) < n) ∧ Hid (n ≤ (sizesL.getD j 0 : Nat)) ∧ Below w.heap.size w wr)
  (fun lo hi _ => (intOf hi).toNat - (intOf lo).toNat)
 case atStart => exact ⟨0, 31, by omega, by omega, rfl, rfl, LH (fun t ht => by omega), LH (by show n ≤ 256; omega), hb⟩
 case round =>
  obtain ⟨i, j, hij, hj, rfl, rfl, hlo, hhi, hb⟩ := hrel
  by_cases hlt : i < j
  ·have hm : (i + j) / 2 < 32 := by omega
   have HC := LH (clsWords_nat ((i + j) / 2) hm)
   go_wp2_with fail
   refine (cwords_any _ _).mono ?_
   rintro e w2 ⟨rfl, hb2⟩
   have hb3 := hb.trans (hb2.mono hb.size)
   rw [show ((i : Int) + (j : Int)) / 2 = (((i + j) / 2 : Nat) : Int) by omega] at *
   rw [HC.out]
   obtain ⟨x, hx⟩ : ∃ x, x = sizesL.getD ((i + j) / 2) 0 := ⟨_, rfl⟩
   rw [← hx]
   have HX := LH hx
   clear hx
   by_cases hc : n ≤ (x : Int)
   ·go_wp2_with fail
    refine ⟨⟨i, (i + j) / 2, by omega, by omega, rfl, rfl, hlo, LH (by rw [← HX.out]; exact hc), hb3⟩, by simp [intOf]; omega⟩
   ·go_wp2_with fail
    refine ⟨⟨(i + j) / 2 + 1, j, by omega, by omega, vint (by omega), rfl, LH (fun t ht => ?_), hhi, hb3⟩, by simp [intOf]; omega⟩
    have h1 := sizes_mono t ((i + j) / 2) (by omega) hm
    rw [← HX.out] at h1
    omega
  ·obtain rfl : i = j := by omega
   have HO := LH (ofN_eq n i (by omega) hhi.out hlo.out)
   go_wp2_with fail
   go_ret2
   exact ⟨by rw [HV.out, HO.out]; rfl, hb⟩
end
end Go.Proofs.YtpohaahihdhleaaGreat
