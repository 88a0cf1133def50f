/- Parts of the proof, one behind the other: HdC, Bk, HdD, Rk, Bo, Sa, Sc, Sp, Sq, Fm, Aw, Rl, Mix, Mx. -/
import Derived.Test.YtpohaahihdhleaaGreatRA2
import Derived.Deep.QuietTactic
import Derived.BigQuiet
import Derived.WalkKit
import Derived.Deep.Cut
set_option linter.unusedVariables false
namespace Go.Proofs.YtpohaahihdhleaaGreat
open Go.RowKit
theorem bits_sum (n : Nat) : n % 4 < 4 ∧ n / 4 % 64 < 64 ∧ n / 256 % 65536 < 65536 := by omega
set_option maxHeartbeats 1000000 in
theorem bdecode_any (b : Int) (x : Nat) (hb0 : 0 ≤ b) (hb1' : b ≤ 1000000) (hx : x < 18446744073709551616) (w : World) :
  Calls Tryz.prog 89 #[.int .i64 b, vu64 x] w fun e w' => e = .returned (decN b x).val ∧ Below w.heap.size w w' := by
 have hbA := below_alloc w (Obj.cells #[Value.int .i64 0, Value.int .i64 0, Value.int .i64 0] 107)
 have hg := heap_alloc_new w (Obj.cells #[Value.int .i64 0, Value.int .i64 0, Value.int .i64 0] 107)
 go_enter Tryz.func89, Tryz.ntmps89
 go_wp2_with fail
 generalize w.alloc (Obj.cells #[Value.int .i64 0, Value.int .i64 0, Value.int .i64 0] 107) = w0 at *
 refine (open_any x _ hx w0).mono ?_
 rintro e w1 ⟨rfl, hbo⟩
 have hgl : w.heap.size < w0.heap.size := (Array.getElem?_eq_some_iff.1 hg).1
 have hbb := hbA.trans (hbo.mono hbA.size)
 have hg1 : w1.heap[w.heap.size]? = _ := (hbo.block _ hgl).trans hg
 clear hbA hbo hg hgl
 cases ho : openN x (pl (256 + b)) with
 | none =>
  have HV := LH (decN_none ho)
  clear ho
  simp only [openV]
  go_wp2_with (refine wpList_store_row (cs := #[.int .i64 0, .int .i64 0, .int .i64 0]) aggHd hg1 rfl rfl (by simp [Value.oneCell']) rfl rfl rfl rfl ?_; intro w2 hg2 hgr2 hs2)
  refine bodyPost_ret (results_cell_row2 (p := 4) (u := 5) rfl _ _ _ _ _ _ _ rfl hg2 Tryz.underlying107 rfl (by kernel_rfl)) rfl ⟨by rw [HV.out]; rfl, ?_⟩
  exact hbb.grown hgr2 hbb.size (fun k e => by cases e; omega)
 | some n =>
  obtain ⟨hn, -⟩ := openN_some ho
  have HK := LH (decN_ok ho)
  have HL := LH (decN_bad ho)
  clear ho
  simp only [openV]
  have G0 : Hid (∀ w, Calls Tryz.prog 139 #[vu64 n, .int .i64 0, .int .i64 2] w fun e w' => e = .returned (vu64 (n % 4)) ∧ w = w') := LH (fun w => by have := get_any n 0 2 (by omega) (by decide) (by decide) (by decide) w; simpa [fieldN] using this)
  have G1 : Hid (∀ w, Calls Tryz.prog 139 #[vu64 n, .int .i64 2, .int .i64 6] w fun e w' => e = .returned (vu64 (n / 4 % 64)) ∧ w = w') := LH (fun w => get_any n 2 6 (by omega) (by decide) (by decide) (by decide) w)
  have G2 : Hid (∀ w, Calls Tryz.prog 139 #[vu64 n, .int .i64 8, .int .i64 16] w fun e w' => e = .returned (vu64 (n / 256 % 65536)) ∧ w = w') := LH (fun w => get_any n 8 16 (by omega) (by decide) (by decide) (by decide) w)
  obtain ⟨h4, h64, h6⟩ := bits_sum n
  generalize n % 4 = k at *
  generalize n / 4 % 64 = c at *
  generalize n / 256 % 65536 = l at *
  go_wp2_with fail
  refine (G0.out _).mono ?_
  rintro e w2 ⟨rfl, rfl⟩
  go_wp2_with fail
  refine (G1.out _).mono ?_
  rintro e w2 ⟨rfl, rfl⟩
  go_wp2_with fail
  refine (G2.out _).mono ?_
  rintro e w2 ⟨rfl, rfl⟩
  clear G0 G1 G2
  go_wp2_with fail
  have hb1 := below_alloc w1 (Obj.cells #[Value.int .i64 (k : Int), Value.int .i64 (c : Int), Value.int .i64 (l : Int)] 107)
  have hg2 := heap_alloc_new w1 (Obj.cells #[Value.int .i64 (k : Int), Value.int .i64 (c : Int), Value.int .i64 (l : Int)] 107)
  generalize w1.alloc (Obj.cells #[Value.int .i64 (k : Int), Value.int .i64 (c : Int), Value.int .i64 (l : Int)] 107) = w2 at *
  refine (bencode_any b k c l hb0 hb1' w2).mono ?_
  rintro e w3 ⟨rfl, hb3⟩
  have hgl : w.heap.size < w1.heap.size := (Array.getElem?_eq_some_iff.1 hg1).1
  have hgl2 : w1.heap.size < w2.heap.size := (Array.getElem?_eq_some_iff.1 hg2).1
  have hb3' := hbb.trans ((hb1.trans (hb3.mono hb1.size)).mono hbb.size)
  have hg3 : w3.heap[w.heap.size]? = _ := (hb3.block _ (by omega)).trans ((hb1.block _ hgl).trans hg1)
  have hg4 : w3.heap[w1.heap.size]? = _ := (hb3.block _ hgl2).trans hg2
  have he := encN_lt b k c l
  clear hb1 hb3 hg1 hg2 hbb
  generalize encN b k c l = y at *
  by_cases hyx : y = x
  ·have HV := LH (HK.out hyx)
   subst hyx
   have d0 : w3.cell? ⟨w1.heap.size, 0, none⟩ = some (.int .i64 k) := cell_of_row _ _ 0 _ _ _ hg4
   have d1 : w3.cell? ⟨w1.heap.size, 1, none⟩ = some (.int .i64 c) := cell_of_row _ _ 1 _ _ _ hg4
   have d2 : w3.cell? ⟨w1.heap.size, 2, none⟩ = some (.int .i64 l) := cell_of_row _ _ 2 _ _ _ hg4
   go_wp2_with (refine wpList_store_row (cs := #[.int .i64 k, .int .i64 c, .int .i64 l]) aggHd hg3 rfl rfl (by simp [Value.oneCell']) rfl rfl rfl rfl ?_; intro w4 hg5 hgr4 hs4)
   refine bodyPost_ret (results_cell_row2 (p := 4) (u := 5) rfl _ _ _ _ _ _ _ rfl hg5 Tryz.underlying107 rfl (by kernel_rfl)) rfl ⟨by rw [HV.out]; rfl, ?_⟩
   exact hb3'.grown hgr4 hb3'.size (fun k e => by cases e; omega)
  ·have HV := LH (HL.out hyx)
   have hne : ¬ ((y : Int) = (x : Int)) := by omega
   clear hyx
   go_wp2_with (refine wpList_store_row (cs := #[.int .i64 0, .int .i64 0, .int .i64 0]) aggHd hg3 rfl rfl (by simp [Value.oneCell']) rfl rfl rfl rfl ?_; intro w4 hg5 hgr4 hs4)
   refine bodyPost_ret (results_cell_row2 (p := 4) (u := 5) rfl _ _ _ _ _ _ _ rfl hg5 Tryz.underlying107 rfl (by kernel_rfl)) rfl ⟨by rw [HV.out]; rfl, ?_⟩
   exact hb3'.grown hgr4 hb3'.size (fun k e => by cases e; omega)
structure Hd where
 k : Int
 c : Int
 l : Int
deriving DecidableEq
instance : Inhabited Hd := ⟨⟨0, 0, 0⟩⟩
def Hd.cs (h : Hd) : List Value := [.int .i64 h.k, .int .i64 h.c, .int .i64 h.l]
def hdCs (l : List Hd) : List Value := l.flatMap Hd.cs
theorem hdCs_length (l : List Hd) : (hdCs l).length = 3 * l.length := by
 induction l with
 | nil => rfl
 | cons h l ih => simp only [hdCs, List.flatMap_cons, List.length_append, List.length_cons] at *; rw [ih]; simp [Hd.cs]; omega
theorem hdCs_append (l m : List Hd) : hdCs (l ++ m) = hdCs l ++ hdCs m := by simp [hdCs]
theorem hdCs_at (l : List Hd) (i : Nat) (hi : i < l.length) : ∀ j v, (l.getD i default).cs[j]? = some v → (hdCs l)[i * 3 + j]? = some v := by
 intro j v hj
 have e : l = l.take i ++ (l[i] :: l.drop (i + 1)) := by simp
 have hl : (hdCs (l.take i)).length = i * 3 := by rw [hdCs_length, List.length_take, Nat.min_eq_left (by omega)]; omega
 have hg : l.getD i default = l[i] := by simp [hi]
 rw [hg] at hj
 have hj3 : j < (l[i]).cs.length := (List.getElem?_eq_some_iff.1 hj).1
 rw [e, hdCs_append, List.getElem?_append_right (by omega), hl, show i * 3 + j - i * 3 = j by omega]
 simp only [hdCs, List.flatMap_cons]
 rw [List.getElem?_append_left hj3]
 exact hj
theorem hdCs_one (l : List Hd) : ∀ u ∈ hdCs l, u.oneCell' = true := by
 intro u hu
 simp only [hdCs, List.mem_flatMap, Hd.cs, List.mem_cons, List.not_mem_nil, or_false] at hu
 obtain ⟨h, _, rfl | rfl | rfl⟩ := hu <;> rfl
def hdF (f : Nat → Nat) (b : Nat) : Hd := if b = 0 then ⟨0, 0, 0⟩ else ⟨(decN b (f b)).k, (decN b (f b)).c, (decN b (f b)).l⟩
def hds (f : Nat → Nat) (k : Nat) : List Hd := (List.range k).map (hdF f)
theorem hds_length (f : Nat → Nat) (k : Nat) : (hds f k).length = k := by simp [hds]
theorem hds_succ (f : Nat → Nat) (k : Nat) : hds f (k + 1) = hds f k ++ [hdF f k] := by simp [hds, List.range_succ]
def AllOk (f : Nat → Nat) (k : Nat) : Prop := ∀ b, 1 ≤ b → b < k → (decN b (f b)).code = 0
def ReadPost (t : Nat) (f : Nat → Nat) (B : Nat) (w : World) : Ending → World → Prop := fun en w' => Below w.heap.size w w' ∧
  ((AllOk f B ∧ ∃ g c, en = .returned (.tuple #[.slice (some ⟨g, 0, none⟩) B c, .int .i64 0, .int .i64 0]) ∧ w.heap.size ≤ g ∧ B ≤ c ∧ RowAt w' g t (hdCs (hds f B))) ∨
   (∃ b : Nat, 1 ≤ b ∧ b < B ∧ AllOk f b ∧ (decN b (f b)).code ≠ 0 ∧ en = .returned (.tuple #[.slice none 0 0, .int .i64 b, .int .i64 21])))
theorem AllOk.succ {f : Nat → Nat} {k : Nat} (h : AllOk f k) (hk : (decN k (f k)).code = 0) : AllOk f (k + 1) := by
 intro b h1 h2
 by_cases e : b = k
 ·subst e; exact hk
 ·exact h b h1 (by omega)
theorem elHd : Elem Tryz.prog 22 107 (.agg #[.int .i64 0, .int .i64 0, .int .i64 0]) 3 24 := Elem.mk' Tryz.underlying22 (by kernel_rfl) rfl (by decide)
theorem row_step (f : Nat → Nat) (B k : Nat) (hk : k < B) (h : Hd) (he : h = hdF f k) : splice (hdCs (hds f k) ++ List.replicate (3 * (B - k)) (.int .i64 0)) (k * 3) h.cs = hdCs (hds f (k + 1)) ++ List.replicate (3 * (B - (k + 1))) (.int .i64 0) := by
 subst he
 have hl : (hdCs (hds f k)).length = k * 3 := by rw [hdCs_length, hds_length]; omega
 rw [hds_succ, hdCs_append]
 unfold splice
 rw [List.take_left' hl, ← hl, List.drop_length_add_append]
 have : List.drop (hdF f k).cs.length (List.replicate (3 * (B - k)) (Value.int .i64 0)) = List.replicate (3 * (B - (k + 1))) (.int .i64 0) := by
  simp [Hd.cs]; omega
 rw [this]
 simp [hdCs]
theorem peek_lt {l : List Nat} (h : ∀ z ∈ l, z < 18446744073709551616) (i : Int) : peek l i < 18446744073709551616 := by
 unfold peek
 split
 ·by_cases hi : i.toNat < l.length
  ·simp only [List.getD_eq_getElem?_getD, List.getElem?_eq_getElem hi, Option.getD_some]
   exact h _ (List.getElem_mem hi)
  ·simp only [List.getD_eq_getElem?_getD, List.getElem?_eq_none (by omega : l.length ≤ i.toNat), Option.getD_none]
   decide
 ·decide
theorem cell_of_touch {L : List Nat} {w w' : World} (h : Touch L w w') {p : Addr} {v : Value} (hp : p.block ∉ L) (hc : w.cell? p = some v) : w'.cell? p = some v := by
 rw [World.cell?_of_block (w := w) (h.block p.block (World.block_lt_of_cell? _ _ hc) hp)]; exact hc
theorem below_touch {B : Nat} {L : List Nat} {w w1 w2 : World} (h : Below B w w1) (ht : Touch L w1 w2) (hL : ∀ k ∈ L, B ≤ k) (hB : B ≤ w.heap.size) : Below B w w2 :=
 h.trans (ht.below (Nat.le_trans hB h.size) hL)
def devWord (S : Dev) (b : Nat) : Nat := peek S.cache (256 + (b : Int))
set_option maxHeartbeats 2000000 in
set_option maxRecDepth 100000 in
theorem read_any {w : World} {F : Foot} {S : Dev} (h : DevAt w F S) (B : Nat) (hB1 : 1 ≤ B) (hB : B ≤ 1000) :
  Calls Tryz.prog 45 #[vdev F, vgeom B] w (ReadPost 107 (devWord S) B w) := by
 have HD := LH h
 have HP : Hid (ReadPost 107 (devWord S) B w = ReadPost 107 (devWord S) B w) := LH rfl
 generalize hP : ReadPost 107 (devWord S) B w = Post at HP ⊢
 have HPE := LH hP
 clear h hP HP
 go_enter Tryz.func45, Tryz.ntmps45
 have hbx : Below w.heap.size w (w.alloc (.cells #[.int .i64 (B : Int)] 44)) := below_alloc _ _
 have hcx : (w.alloc (.cells #[.int .i64 (B : Int)] 44)).cell? ⟨w.heap.size, 0, none⟩ = some (.int .i64 (B : Int)) := cell_alloc_new _ _ _ 0 _ rfl
 have hsx : (w.alloc (.cells #[.int .i64 (B : Int)] 44)).heap.size = w.heap.size + 1 := by simp
 have HSX := LH hsx
 clear hsx
 go_wp2_with (first
  | (at_make; refine wpList_make_rows elHd (w.heap.size + 1) B (z := .int .i64 0) (by intro i hi; simp at hi; rcases i with _ | _ | _ | i <;> first | rfl | omega) (by omega) (by omega) (by omega) (by decide) (by simp) rfl rfl rfl rfl ?_; intro w1 hown hgrow))
 try rw [HSX.out] at hown
 try rw [HSX.out]
 have hb1 : Below w.heap.size w w1 := hbx.trans (below_grown hgrow (by rw [HSX.out]; omega))
 have hc1 : w1.cell? ⟨w.heap.size, 0, none⟩ = some (.int .i64 (B : Int)) := by
  rw [(below_grown hgrow (Nat.le_refl _)).cell (p := ⟨w.heap.size, 0, none⟩) (by rw [HSX.out]; simp)]; exact hcx
 have hr1 : RowAt w1 (w.heap.size + 1) 107 (List.replicate (B * 3) (.int .i64 0)) := owned_row hown
 have HR1 := LH hr1
 have HB1 := LH hb1
 clear hbx hcx hown hgrow hr1 hb1 HSX
 obtain ⟨gx, hgx⟩ : ∃ gx, gx = w.heap.size := ⟨_, rfl⟩
 obtain ⟨g, hg⟩ : ∃ g, g = w.heap.size + 1 := ⟨_, rfl⟩
 have HG : Hid (gx = w.heap.size ∧ g = w.heap.size + 1) := LH ⟨hgx, hg⟩
 rw [← hg] at HR1 ⊢
 rw [← hgx] at hc1 ⊢
 have hgne : gx ≠ g := by omega
 clear hgx hg
 go_loopw [8] (fun i wr => ∃ k : Nat, 1 ≤ k ∧ k ≤ B ∧ i = .int .i64 k ∧ AllOk (devWord S) k ∧ RowAt wr g 107 (hdCs (hds (devWord S) k) ++ List.replicate (3 * (B - k)) (.int .i64 0)) ∧ wr.cell? ⟨gx, 0, none⟩ = some (.int .i64 (B : Int)) ∧ Below w.heap.size w wr) (fun i _ => B - (intOf i).toNat)
 case atStart => exact ⟨1, Nat.le_refl _, hB1, rfl, (fun b h1 h2 => by omega), by
   have e : hdCs (hds (devWord S) 1) ++ List.replicate (3 * (B - 1)) (Value.int .i64 0) = List.replicate (B * 3) (Value.int .i64 0) := by
    have : hdCs (hds (devWord S) 1) = List.replicate 3 (Value.int .i64 0) := rfl
    rw [this, List.replicate_append_replicate]
    congr 1
    omega
   rw [e]; exact HR1.out, hc1, HB1.out⟩
 case round =>
  clear hc1 HR1 HB1
  obtain ⟨k, hk1, hk2, rfl, hok, hr, hcx, hb⟩ := hrel
  have HOK := LH hok
  have HR := LH hr
  have HB := LH hb
  have HDr := LH (HD.out.below hb)
  clear hok hr hb
  by_cases hlt : k < B
  ·have hlt' : (k : Int) < (B : Int) := by omega
   go_wp2_with fail
   refine (gheader_any _ _ _ (by omega)).mono ?_
   rintro e w2 ⟨rfl, hb2⟩
   have HH : Hid (hdAt (B : Int) (k : Int) = 256 + (k : Int)) := LH (by unfold hdAt; rw [if_neg (by omega)])
   rw [HH.out]
   have HD2 := LH (HDr.out.below hb2)
   have HB2 := LH hb2
   clear hb2
   go_wp2_with fail
   refine (dget_any HD2.out _).mono ?_
   rintro e w3 ⟨rfl, rfl⟩
   have hx : devWord S k < 18446744073709551616 := peek_lt HD2.out.u64C _
   have HX : Hid (peek S.cache (256 + (k : Int)) = devWord S k) := LH rfl
   rw [HX.out]
   go_wp2_with fail
   refine (bdecode_any (k : Int) (devWord S k) (by omega) (by omega) hx _).mono ?_
   rintro e w4 ⟨rfl, hb4⟩
   have HF : Hid (⟨(decN k (devWord S k)).k, (decN k (devWord S k)).c, (decN k (devWord S k)).l⟩ = hdF (devWord S) k) := LH (by unfold hdF; rw [if_neg (by omega)])
   have HC : Hid ((decN k (devWord S k)).code = 0 ∨ (decN k (devWord S k)).code ≠ 0) := LH (by omega)
   have HOK2 : Hid ((decN k (devWord S k)).code = 0 → AllOk (devWord S) (k + 1)) := LH (fun h => HOK.out.succ h)
   have HBad : Hid ((decN k (devWord S k)).code ≠ 0 → ∀ w', Below w.heap.size w w' → Post (.returned (.tuple #[.slice none 0 0, .int .i64 k, .int .i64 21])) w') := LH (fun h w' hw' => by
    rw [← HPE.out]; exact ⟨hw', .inr ⟨k, hk1, hlt, HOK.out, h, rfl⟩⟩)
   unfold Dec.val
   generalize decN k (devWord S k) = dd at *
   obtain ⟨dk, dc, dl, dcode⟩ := dd
   dsimp only at *
   have hb24 : Below wr.heap.size wr w4 := HB2.out.trans (hb4.mono HB2.out.size)
   have HB4 := LH hb24
   clear hb4 hb24 HB2 HD2
   rcases HC.out with hz | hz
   ·subst hz
    have hok2 := HOK2.out rfl
    have HOK3 := LH hok2
    have hr4 : RowAt w4 g 107 _ := HR.out.keep (HB4.out.block g HR.out.lt)
    have hcx4 : w4.cell? ⟨gx, 0, none⟩ = some (.int .i64 (B : Int)) := below_cells HB4.out hcx (Nat.le_refl _)
    have hgl : g < w4.heap.size := hr4.lt
    have hgxl : gx < w4.heap.size := World.block_lt_of_cell? _ _ hcx4
    have HR4 := LH hr4
    have HCX4 := LH hcx4
    clear hok2 hr4 hcx hcx4
    have hb5 := below_alloc w4 (Obj.cells #[Value.int .i64 dk, Value.int .i64 dc, Value.int .i64 dl] 107)
    have HR5 : Hid (RowAt (w4.alloc (Obj.cells #[Value.int .i64 dk, Value.int .i64 dc, Value.int .i64 dl] 107)) g 107 (hdCs (hds (devWord S) k) ++ List.replicate (3 * (B - k)) (.int .i64 0))) := LH (HR4.out.keep (hb5.block g hgl))
    have HCX5 : Hid ((w4.alloc (Obj.cells #[Value.int .i64 dk, Value.int .i64 dc, Value.int .i64 dl] 107)).cell? ⟨gx, 0, none⟩ = some (.int .i64 (B : Int))) := LH (below_cells hb5 HCX4.out (Nat.le_refl _))
    have HB5 : Hid (Below w.heap.size w (w4.alloc (Obj.cells #[Value.int .i64 dk, Value.int .i64 dc, Value.int .i64 dl] 107))) := LH (HB.out.trans ((HB4.out.trans (hb5.mono HB4.out.size)).mono HB.out.size))
    have hlen : Hid (k * 3 + 3 ≤ (hdCs (hds (devWord S) k) ++ List.replicate (3 * (B - k)) (Value.int .i64 0)).length) := LH (by rw [List.length_append, hdCs_length, hds_length, List.length_replicate]; omega)
    have hone : Hid (∀ u ∈ (#[Value.int .i64 dk, Value.int .i64 dc, Value.int .i64 dl] : Array Value).toList, u.oneCell' = true) := LH (by intro u hu; simp at hu; rcases hu with rfl | rfl | rfl <;> rfl)
    clear hb5 HR4 HCX4 HB4
    go_wp2_with (refine wpList_store_part (off := k * 3) (cs := #[.int .i64 dk, .int .i64 dc, .int .i64 dl]) aggHd HR5.out rfl hlen.out hone.out rfl rfl rfl rfl ?_; intro w6 hr6 ht6; have HR6 := LH hr6; have HT6 := LH ht6; clear hr6 ht6)
    refine ⟨⟨k + 1, by omega, by omega, vint (by omega), HOK3.out, ?_, ?_, ?_⟩, by simp [intOf]; omega⟩
    ·have := HR6.out
     rw [show #[Value.int .i64 dk, Value.int .i64 dc, Value.int .i64 dl].toList = (⟨dk, dc, dl⟩ : Hd).cs from rfl, row_step _ _ _ hlt _ HF.out] at this
     exact this
    ·exact cell_of_touch HT6.out (by simp; exact hgne) HCX5.out
    ·exact below_touch HB5.out HT6.out (by have := HG.out; simp; omega) (Nat.le_refl _)
   ·have hz1 : (dcode != 0) = true := by simpa using hz
    have HZ := LH (HBad.out hz)
    have HBE : Hid (Below w.heap.size w w4) := LH (HB.out.trans (HB4.out.mono HB.out.size))
    clear hz HBad HC HOK2
    go_wp2_with fail
    go_ret3
    exact HZ.out _ (HBE.out.alloc (HBE.out.size) _)
  ·obtain rfl : k = B := by omega
   have hlt' : decide ((k : Int) < (k : Int)) = false := by simp
   go_wp2_with fail
   go_ret3
   rw [← HPE.out]
   refine ⟨HB.out, .inl ⟨HOK.out, g, k, rfl, by have := HG.out; omega, Nat.le_refl _, ?_⟩⟩
   have := HR.out
   simpa using this
set_option maxHeartbeats 1000000 in
theorem rhright_any (k c l : Int) (w : World) : Calls Tryz.prog 83 #[vhd k c l] w fun e w' => e = .returned (.bool (hdRight k c l)) ∧ Below w.heap.size w w' := by
  have HB := LH (below_alloc w)
  go_enter Tryz.func83, Tryz.ntmps83
  go_wp2_with fail
  all_goals
    go_ret
    refine ⟨ret_bool ?_, HB.out _⟩
    clear HB
    simp only [beq_iff_eq, beq_eq_false_iff_ne] at *
    first
      | exact hdR_t (by unfold HdRight; omega)
      | exact hdR_f (by unfold HdRight; omega)
      | (by_cases hl : l ≤ 255
         · exact (decide_eq_true hl).trans (hdR_t (by unfold HdRight; omega))
         · exact (decide_eq_false hl).trans (hdR_f (by unfold HdRight; omega)))
      | (by_cases hl : l = 0
         · exact (beq_iff_eq.2 hl).trans (hdR_t (by unfold HdRight; omega))
         · exact (beq_eq_false_iff_ne.2 hl).trans (hdR_f (by unfold HdRight; omega)))
set_option maxHeartbeats 1000000 in
theorem rencode_any (b k c l : Int) (hb0 : 0 ≤ b) (hb1 : b ≤ 1000000) (w : World) : Calls Tryz.prog 36 #[.int .i64 b, vhd k c l] w fun e w' => e = .returned (vu64 (encN b k c l)) ∧ Below w.heap.size w w' := by
 have hb := below_alloc w (Obj.cells #[Value.int .i64 k, Value.int .i64 c, Value.int .i64 l] 105)
 have hg := heap_alloc_new w (Obj.cells #[Value.int .i64 k, Value.int .i64 c, Value.int .i64 l] 105)
 go_enter Tryz.func36, Tryz.ntmps36
 go_wp2_with fail
 generalize w.alloc (Obj.cells #[Value.int .i64 k, Value.int .i64 c, Value.int .i64 l] 105) = w0 at *
 refine (rhright_any k c l w0).mono ?_
 rintro e w1 ⟨rfl, hb1⟩
 have hgl : w.heap.size < w0.heap.size := (Array.getElem?_eq_some_iff.1 hg).1
 have hbb := hb.trans (hb1.mono hb.size)
 have hg1 : w1.heap[w.heap.size]? = _ := (hb1.block _ hgl).trans hg
 have c0 : w1.cell? ⟨w.heap.size, 0, none⟩ = some (.int .i64 k) := cell_of_row _ _ 0 _ _ _ hg1
 have c1 : w1.cell? ⟨w.heap.size, 1, none⟩ = some (.int .i64 c) := cell_of_row _ _ 1 _ _ _ hg1
 have c2 : w1.cell? ⟨w.heap.size, 2, none⟩ = some (.int .i64 l) := cell_of_row _ _ 2 _ _ _ hg1
 clear hb hb1 hg hgl hg1
 cases hr : hdRight k c l
 ·have HE : Hid (encN b k c l = 0) := LH (by unfold encN; rw [hr]; rfl)
  clear hr
  go_wp2_with fail
  go_ret
  exact ⟨ret_int (by rw [HE.out]; rfl), hbb⟩
 ·have HE : Hid (encN b k c l = sealN (hdN k c l) (pl (256 + b))) := LH (by unfold encN; rw [hr]; rfl)
  have hn := hdN_lt hr
  obtain ⟨⟨k0, k1⟩, ⟨c0', c1'⟩, l0, l1⟩ := hd_small hr
  have HN : Hid (k + 4 * c + 256 * l = (hdN k c l : Int)) := LH (by unfold hdN; omega)
  clear hr
  generalize hdN k c l = n at *
  go_wp2_with fail
  rw [HN.out]
  refine (rseal_any n _ hn _).mono ?_
  rintro e w2 ⟨rfl, hb2⟩
  rw [← HE.out]
  go_wp2_with fail
  go_ret
  exact ⟨rfl, hbb.trans (hb2.mono hbb.size)⟩
theorem peek_neg (l : List Nat) (i : Int) (h : i < 0) : peek l i = 0 := by unfold peek; rw [if_neg (by omega)]
theorem peek_out (l : List Nat) (j : Nat) (h : l.length ≤ j) : peek l (j : Int) = 0 := by
 unfold peek; rw [if_pos (by omega)]; simp [List.getElem?_eq_none h]
theorem peek_in (l : List Nat) (j : Nat) : peek l (j : Int) = l.getD j 0 := by unfold peek; rw [if_pos (by omega)]; rfl
set_option maxHeartbeats 400000 in
theorem rget_any (a : Option Addr) (n cap : Nat) (ls : List Nat) (w : World) (hc : Cells w a (ls.map vu64)) (hl : ls.length = 8 * n) (hn : n ≤ 1000000) (i : Int) :
  Calls Tryz.prog 48 #[.slice a n cap, .int .i64 i] w fun e w' => e = .returned (vu64 (peek ls i)) ∧ w = w' := by
 by_cases h0 : i < 0
 ·have HV := LH (peek_neg ls i h0)
  clear hl hc
  go_enter Tryz.func48, Tryz.ntmps48
  go_wp2_with fail
  go_ret
  exact ⟨ret_int (by rw [HV.out]; rfl), rfl⟩
 obtain ⟨j, rfl⟩ := Int.eq_ofNat_of_zero_le (show 0 ≤ i by omega)
 by_cases h1 : j < 8 * n
 ·obtain ⟨b, off, rfl, hb, hcs⟩ := hc.atMap 0 (show j < ls.length by omega)
  have hcell : w.cell? ⟨b, off + j / 8 * 8 + j % 8, none⟩ = some (vu64 (ls.getD j 0)) := by
   rw [show off + j / 8 * 8 + j % 8 = off + j by omega]; exact hcs j (by omega)
  have HV := LH (peek_in ls j)
  generalize ls.getD j 0 = x at *
  have hj8 : j / 8 < n := by omega
  have hj1 : (j : Int) < 8 * (n : Int) := by omega
  clear hl hc hcs h1
  go_enter Tryz.func48, Tryz.ntmps48
  go_wp2_with fail
  go_ret
  exact ⟨ret_int (by rw [HV.out]), rfl⟩
 ·have HV := LH (peek_out ls j (by omega))
  have h2 : 8 * (n : Int) ≤ (j : Int) := by omega
  clear hl hc
  go_enter Tryz.func48, Tryz.ntmps48
  go_wp2_with fail
  go_ret
  exact ⟨ret_int (by rw [HV.out]; rfl), rfl⟩
theorem elRh : Elem Tryz.prog 53 105 (.agg #[.int .i64 0, .int .i64 0, .int .i64 0]) 3 24 := Elem.mk' Tryz.underlying53 (by kernel_rfl) rfl (by decide)
structure TabAt (w : World) (p : Nat) (F : Foot) (B : Nat) (l : List Hd) : Prop where
 ex : ∃ g c, w.heap[p]? = some (.cells #[vdev F, .int .i64 (B : Int), .slice (some ⟨g, 0, none⟩) l.length c] 158 (0, 0)) ∧ l.length ≤ c ∧ RowAt w g 107 (hdCs l) ∧ p ≠ g
def Hd.val (h : Hd) : Value := .agg #[.int .i64 h.k, .int .i64 h.c, .int .i64 h.l]
def hdGet (l : List Hd) (b : Int) : Hd := if b < 1 ∨ (l.length : Int) ≤ b then ⟨0, 0, 0⟩ else l.getD b.toNat default
set_option maxHeartbeats 1000000 in
theorem tget_any {w : World} {p B : Nat} {F : Foot} {l : List Hd} (h : TabAt w p F B l) (b : Int) (hl : l.length ≤ 1000) :
  Calls Tryz.prog 121 #[.pointer (some ⟨p, 0, none⟩), .int .i64 b] w fun e w' => e = .returned (hdGet l b).val ∧ Below w.heap.size w w' := by
 obtain ⟨g, c, hp, hc, hr, hne⟩ := h.ex
 have c2 : w.cell? ⟨p, 2, none⟩ = some (.slice (some ⟨g, 0, none⟩) l.length c) := cell_of_row _ _ 2 _ _ _ hp
 have hpl : p < w.heap.size := (Array.getElem?_eq_some_iff.1 hp).1
 have hgl := hr.lt
 by_cases h1 : b < 1
 ·have HE : Hid (hdGet l b = ⟨0, 0, 0⟩) := LH (by unfold hdGet; rw [if_pos (.inl h1)])
  clear hp hr h
  go_enter Tryz.func121, Tryz.ntmps121
  go_wp2_with fail
  exact bodyPost_ret (v := .agg #[.int .i64 0, .int .i64 0, .int .i64 0]) (by simp [results, Tryz.results121, go_sem]) rfl ⟨by rw [HE.out]; rfl, below_alloc _ _⟩
 by_cases h2 : (l.length : Int) ≤ b
 ·have HE : Hid (hdGet l b = ⟨0, 0, 0⟩) := LH (by unfold hdGet; rw [if_pos (.inr h2)])
  clear hp hr h
  go_enter Tryz.func121, Tryz.ntmps121
  go_wp2_with fail
  exact bodyPost_ret (v := .agg #[.int .i64 0, .int .i64 0, .int .i64 0]) (by simp [results, Tryz.results121, go_sem]) rfl ⟨by rw [HE.out]; rfl, below_alloc _ _⟩
 obtain ⟨j, rfl⟩ := Int.eq_ofNat_of_zero_le (show 0 ≤ b by omega)
 have hj : j < l.length := by omega
 have HE : Hid (hdGet l (j : Int) = l.getD j default) := LH (by unfold hdGet; rw [if_neg (by omega)]; rfl)
 have HA := hdCs_at l j hj
 generalize l.getD j default = hd at *
 obtain ⟨hk, hcl, hln⟩ := hd
 have d0 : w.cell? ⟨g, j * 3, none⟩ = some (.int .i64 hk) := hr.cell (HA 0 _ rfl)
 have d1 : w.cell? ⟨g, j * 3 + 1, none⟩ = some (.int .i64 hcl) := hr.cell (HA 1 _ rfl)
 have d2 : w.cell? ⟨g, j * 3 + 2, none⟩ = some (.int .i64 hln) := hr.cell (HA 2 _ rfl)
 clear hp hr h HA
 go_enter Tryz.func121, Tryz.ntmps121
 go_wp2_with fail
 exact bodyPost_ret (v := .agg #[.int .i64 hk, .int .i64 hcl, .int .i64 hln]) (by simp [results, Tryz.results121, go_sem]) rfl ⟨by rw [HE.out]; rfl, below_alloc _ _⟩
set_option maxHeartbeats 400000 in
theorem ref_any (h : Hd) (w : World) : Calls Tryz.prog 37 #[h.val] w fun e w' => e = .returned h.val ∧ Below w.heap.size w w' := by
 obtain ⟨k, c, l⟩ := h
 unfold Hd.val
 dsimp only
 have hb : Below w.heap.size w ((w.alloc (.cells #[.int .i64 k, .int .i64 c, .int .i64 l] 107)).alloc (.cells #[.int .i64 k, .int .i64 c, .int .i64 l] 105)) := (below_alloc _ _).alloc (by simp) _
 have HB := LH hb
 clear hb
 go_enter Tryz.func37, Tryz.ntmps37
 go_wp2_with fail
 exact bodyPost_ret (v := .agg #[.int .i64 k, .int .i64 c, .int .i64 l]) (by simp [results, Tryz.results37, go_sem]) rfl ⟨rfl, HB.out⟩
theorem hdGetD (l : List Hd) (j : Nat) : ∃ k c n, l.getD j default = ⟨k, c, n⟩ := ⟨_, _, _, rfl⟩
set_option maxHeartbeats 1000000 in
set_option maxRecDepth 20000 in
theorem refs_any (a : Option Addr) (n cap : Nat) (l : List Hd) (hn : l.length = n) (w : World) (hc : Cells w a (hdCs l)) (hl : n ≤ 1000) :
  Calls Tryz.prog 17 #[.slice a n cap] w fun e w' => ∃ v, e = .returned v ∧ w'.ownsRow w.heap.size 105 3 v n (hdCs l) ∧ Below w.heap.size w w' := by
 have HN := LH hn
 have HC := LH hc
 clear hn hc
 go_enter Tryz.func17, Tryz.ntmps17
 go_wp2_with fail
 go_loopw [3, 4] (fun v i wr => ∃ k : Nat, k ≤ n ∧ i = .int .i64 k ∧ wr.ownsRow w.heap.size 105 3 v k (hdCs (l.take k)) ∧ Below w.heap.size w wr) (fun _ i _ => n - (intOf i).toNat)
 case atStart => exact ⟨0, Nat.zero_le _, rfl, ⟨rfl, .inl ⟨rfl, rfl⟩⟩, Below.refl _ _⟩
 case round =>
  obtain ⟨k, hk, rfl, ho, hb⟩ := hrel
  obtain ⟨a1, c1, rfl, hc1, hm1⟩ := owned_form ho
  have HO := LH ho
  have HB := LH hb
  clear ho hb
  by_cases hlt : k < n
  ·have hlt' : (k : Int) < (n : Int) := by omega
   have hkl : k < l.length := by rw [HN.out]; exact hlt
   have HA := hdCs_at l k hkl
   have HS : Hid (hdCs (l.take (k + 1)) = hdCs (l.take k) ++ (l.getD k default).cs) := LH (by
    rw [List.take_succ_eq_append_getElem hkl, hdCs_append]; simp [hdCs, hkl])
   generalize l.getD k default = hd at *
   obtain ⟨hk', hcl, hln⟩ := hd
   obtain ⟨b, off, rfl, hcs⟩ : ∃ b off, a = some ⟨b, off, none⟩ ∧ ∀ i v, (hdCs l)[i]? = some v → wr.cell? ⟨b, off + i, none⟩ = some v := by
    rcases HC.out.below HB.out (Nat.le_refl _) with h | ⟨b, off, rfl, h⟩
    ·have := congrArg List.length h
     rw [hdCs_length] at this
     simp only [List.length_nil] at this
     omega
    ·exact ⟨b, off, rfl, h⟩
   have d0 : wr.cell? ⟨b, off + k * 3, none⟩ = some (.int .i64 hk') := hcs _ _ (HA 0 _ rfl)
   have d1 : wr.cell? ⟨b, off + k * 3 + 1, none⟩ = some (.int .i64 hcl) := hcs _ _ (HA 1 _ rfl)
   have d2 : wr.cell? ⟨b, off + k * 3 + 2, none⟩ = some (.int .i64 hln) := hcs _ _ (HA 2 _ rfl)
   clear HA hcs
   go_wp2_with fail
   refine (ref_any ⟨hk', hcl, hln⟩ _).mono ?_
   rintro e w1 ⟨rfl, hb1⟩
   unfold Hd.val
   dsimp only
   have HB1 := LH (HB.out.trans (hb1.mono HB.out.size))
   have HO1 := LH (owned_below HO.out hb1 (Nat.le_refl _))
   have hone : Hid (∀ u ∈ (#[Value.int .i64 hk', Value.int .i64 hcl, Value.int .i64 hln] : Array Value).toList, u.oneCell' = true) := LH (by intro u hu; simp at hu; rcases hu with rfl | rfl | rfl <;> rfl)
   have hbase : Hid (w.heap.size ≤ w1.heap.size) := LH HB1.out.size
   have hk9 : k < 1000000000000 := by omega
   clear hb1 d0 d1 d2
   go_wp2_with (at_builtin; refine wpList_append_new (us := #[.int .i64 hk', .int .i64 hcl, .int .i64 hln]) elRh HO1.out rfl hone.out hk9 (by decide) hbase.out rfl rfl rfl (by simp [Act.eval]) ?_; intro g6 c6 w6 ho6 hg6 hc6 hm6 hb6 hl6; have HO6 := LH ho6; have HG6 := LH hg6; clear ho6 hg6)
   refine ⟨⟨k + 1, by omega, vint (by omega), ?_, below_grownBy HB1.out HO1.out HG6.out (Nat.le_refl _) (Nat.le_refl _)⟩, by simp [intOf]; omega⟩
   rw [HS.out]
   exact HO6.out
  ·obtain rfl : k = n := by omega
   have hlt' : decide ((k : Int) < (k : Int)) = false := by simp
   go_wp2_with fail
   go_ret
   refine ⟨_, rfl, ?_, HB.out⟩
   have := HO.out
   rwa [List.take_of_length_le (by rw [HN.out]; exact Nat.le_refl _)] at this
theorem fsRh : (Tryz.prog.fieldsOf 105) = #[{ name := "Kind", type := 3, offset := 0, embedded := false, tag := "", pkgPath := "", byteOffset := 0 },
        { name := "Class", type := 3, offset := 1, embedded := false, tag := "", pkgPath := "", byteOffset := 8 },
        { name := "Len", type := 3, offset := 2, embedded := false, tag := "", pkgPath := "", byteOffset := 16 }] := by kernel_rfl
theorem usRh : Tryz.prog.underlying 105 = some (.struct (Tryz.prog.fieldsOf 105)) := by kernel_rfl
theorem ssRh : Tryz.prog.stoodInHeld 105 = false := by kernel_rfl
theorem gsRh : Tryz.prog.eqGuardType Tryz.prog.depth 105 = false := by kernel_rfl
theorem equalRh (w : World) (a b c a' b' c' : Int) (r : Bool) (hr : r = ((a == a') && (b == b') && (c == c'))) : (Op.equalIn 10000 105 (.agg #[.int .i64 a, .int .i64 b, .int .i64 c]) (.agg #[.int .i64 a', .int .i64 b', .int .i64 c'])).run Tryz.prog w = .ok r w := by
 rw [hr, show (10000 : Nat) = 9999 + 1 from rfl, run_equalIn_agg w 9999 105 _ _ usRh ssRh, fsRh]
 by_cases h1 : a = a' <;> by_cases h2 : b = b' <;> by_cases h3 : c = c' <;> simp [Op.eqFields, go_sem, h1, h2, h3, Tryz.underlying3, part]
theorem fsBh : (Tryz.prog.fieldsOf 107) = #[{ name := "Kind", type := 3, offset := 0, embedded := false, tag := "", pkgPath := "", byteOffset := 0 },
        { name := "Class", type := 3, offset := 1, embedded := false, tag := "", pkgPath := "", byteOffset := 8 },
        { name := "Len", type := 3, offset := 2, embedded := false, tag := "", pkgPath := "", byteOffset := 16 }] := by kernel_rfl
theorem usBh : Tryz.prog.underlying 107 = some (.struct (Tryz.prog.fieldsOf 107)) := by kernel_rfl
theorem ssBh : Tryz.prog.stoodInHeld 107 = false := by kernel_rfl
theorem gsBh : Tryz.prog.eqGuardType Tryz.prog.depth 107 = false := by kernel_rfl
theorem equalBh (w : World) (a b c a' b' c' : Int) (r : Bool) (hr : r = ((a == a') && (b == b') && (c == c'))) : (Op.equalIn 10000 107 (.agg #[.int .i64 a, .int .i64 b, .int .i64 c]) (.agg #[.int .i64 a', .int .i64 b', .int .i64 c'])).run Tryz.prog w = .ok r w := by
 rw [hr, show (10000 : Nat) = 9999 + 1 from rfl, run_equalIn_agg w 9999 107 _ _ usBh ssBh, fsBh]
 by_cases h1 : a = a' <;> by_cases h2 : b = b' <;> by_cases h3 : c = c' <;> simp [Op.eqFields, go_sem, h1, h2, h3, Tryz.underlying3, part]
theorem hd_beq (k c n k' c' n' : Int) : decide ((⟨k, c, n⟩ : Hd) = ⟨k', c', n'⟩) = ((k == k') && (c == c') && (n == n')) := by
 rw [Bool.eq_iff_iff]; simp [Hd.mk.injEq, and_assoc]
theorem hd_cells {w : World} {a : Option Addr} {l : List Hd} (h : Cells w a (hdCs l)) {j : Nat} (hj : j < l.length) {k c n : Int} (he : l.getD j default = ⟨k, c, n⟩) :
  ∃ b off, a = some ⟨b, off, none⟩ ∧ w.cell? ⟨b, off + j * 3, none⟩ = some (.int .i64 k) ∧ w.cell? ⟨b, off + j * 3 + 1, none⟩ = some (.int .i64 c) ∧ w.cell? ⟨b, off + j * 3 + 2, none⟩ = some (.int .i64 n) := by
 have HA := hdCs_at l j hj
 rw [he] at HA
 rcases h with h | ⟨b, off, rfl, h⟩
 ·have := congrArg List.length h
  rw [hdCs_length] at this
  simp only [List.length_nil] at this
  omega
 ·exact ⟨b, off, rfl, h _ _ (HA 0 _ rfl), h _ _ (HA 1 _ rfl), h _ _ (HA 2 _ rfl)⟩
theorem take_eq_succ {l m : List Hd} {k : Nat} (h1 : k < l.length) (h2 : k < m.length) (h : l.take k = m.take k) (he : l.getD k default = m.getD k default) : l.take (k + 1) = m.take (k + 1) := by
 rw [List.take_succ_eq_append_getElem h1, List.take_succ_eq_append_getElem h2, h]
 simp [h1, h2] at he
 rw [he]
def sameHd (l m : List Hd) : Bool := decide (l = m)
set_option maxHeartbeats 1000000 in
set_option maxRecDepth 20000 in
theorem rsame_any (a b : Option Addr) (n m cap cap2 : Nat) (l r : List Hd) (hn : l.length = n) (hm : r.length = m) (w : World) (hc : Cells w a (hdCs l)) (hc2 : Cells w b (hdCs r)) (hl : n ≤ 1000) (hl2 : m ≤ 1000) :
  Calls Tryz.prog 16 #[.slice a n cap, .slice b m cap2] w fun e w' => e = .returned (.bool (sameHd l r)) ∧ ∃ q, w' = w.drewN q := by
 have HN := LH hn
 have HM := LH hm
 have HC := LH hc
 have HC2 := LH hc2
 by_cases hnm : n = m
 ·subst hnm
  have hne : (n != n) = false := by simp
  have hne2 : ((n : Int) != (n : Int)) = false := by simp
  clear hn hm hc hc2
  go_enter Tryz.func16, Tryz.ntmps16
  go_wp2_with fail
  go_loopw [5] (fun i wr => ∃ k : Nat, k ≤ n ∧ i = .int .i64 k ∧ l.take k = r.take k ∧ ∃ q, wr = w.drewN q) (fun i _ => n - (intOf i).toNat)
  case atStart => exact ⟨0, Nat.zero_le _, rfl, by simp, 0, rfl⟩
  case round =>
   obtain ⟨k, hk, rfl, heq, q, rfl⟩ := hrel
   have HE := LH heq
   clear heq
   by_cases hlt : k < n
   ·have hlt' : (k : Int) < (n : Int) := by omega
    have hkl : k < l.length := by rw [HN.out]; exact hlt
    have hkr : k < r.length := by rw [HM.out]; exact hlt
    obtain ⟨k1, c1, l1, e1⟩ := hdGetD l k
    obtain ⟨k2, c2, l2, e2⟩ := hdGetD r k
    obtain ⟨b1, o1, rfl, d0, d1, d2⟩ := hd_cells HC.out hkl e1
    obtain ⟨b2, o2, rfl, d3, d4, d5⟩ := hd_cells HC2.out hkr e2
    have E1 := LH e1
    have E2 := LH e2
    clear e1 e2 hkl hkr
    by_cases hq : (⟨k1, c1, l1⟩ : Hd) = ⟨k2, c2, l2⟩
    ·have heq : ∀ w', (Op.equalIn 10000 105 (.agg #[.int .i64 k1, .int .i64 c1, .int .i64 l1]) (.agg #[.int .i64 k2, .int .i64 c2, .int .i64 l2])).run Tryz.prog w' = .ok true w' := fun w' => equalRh w' _ _ _ _ _ _ _ (by rw [← hd_beq]; simp [hq])
     have hgd := gsRh
     have HQ := LH hq
     clear hq
     go_wp2_with fail
     go_quiet (fail)
     go_wp2_with fail
     refine ⟨⟨k + 1, by omega, vint (by omega), ?_, _, rfl⟩, by simp [intOf]; omega⟩
     exact take_eq_succ (by rw [HN.out]; exact hlt) (by rw [HM.out]; exact hlt) HE.out (by rw [E1.out, E2.out, HQ.out])
    ·have heq : ∀ w', (Op.equalIn 10000 105 (.agg #[.int .i64 k1, .int .i64 c1, .int .i64 l1]) (.agg #[.int .i64 k2, .int .i64 c2, .int .i64 l2])).run Tryz.prog w' = .ok false w' := fun w' => equalRh w' _ _ _ _ _ _ _ (by rw [← hd_beq]; simp [hq])
     have hgd := gsRh
     have HQ := LH hq
     clear hq
     go_wp2_with fail
     go_quiet (fail)
     go_wp2_with fail
     go_ret
     refine ⟨ret_bool (decide_eq_false (fun h => HQ.out ?_)).symm, _, World.drewN_drewN _ _ _⟩
     rw [← E1.out, ← E2.out, h]
   ·obtain rfl : k = n := by omega
    have hlt' : decide ((k : Int) < (k : Int)) = false := by simp
    go_wp2_with fail
    go_ret
    refine ⟨ret_bool (decide_eq_true ?_).symm, _, rfl⟩
    have := HE.out
    rwa [List.take_of_length_le (by rw [HN.out]; exact Nat.le_refl _), List.take_of_length_le (by rw [HM.out]; exact Nat.le_refl _)] at this
 ·have hne : (n != m) = true := by simpa using hnm
  have hne2 : ((n : Int) != (m : Int)) = true := by simp; omega
  have HH := LH hnm
  clear hnm hn hm hc hc2
  go_enter Tryz.func16, Tryz.ntmps16
  go_wp2_with fail
  go_ret
  exact ⟨ret_bool (decide_eq_false (fun h => HH.out (by rw [← HN.out, ← HM.out, h]))).symm, 0, rfl⟩
abbrev Sp := Nat × Nat
def spCs (l : List Sp) : List Value := l.flatMap fun s => [.int .i64 s.1, .int .i64 s.2]
theorem spCs_length (l : List Sp) : (spCs l).length = 2 * l.length := by
 induction l with
 | nil => rfl
 | cons h l ih => simp only [spCs, List.flatMap_cons, List.length_append, List.length_cons] at *; rw [ih]; simp; omega
theorem spCs_append (l m : List Sp) : spCs (l ++ m) = spCs l ++ spCs m := by simp [spCs]
theorem spCs_last (l : List Sp) (s n : Nat) : (spCs (l ++ [(s, n)]))[l.length * 2]? = some (.int .i64 (s : Int)) ∧ (spCs (l ++ [(s, n)]))[l.length * 2 + 1]? = some (.int .i64 (n : Int)) := by
 have hl := spCs_length l
 rw [spCs_append]
 constructor
 ·rw [List.getElem?_append_right (by omega), show l.length * 2 - (spCs l).length = 0 by omega]; rfl
 ·rw [List.getElem?_append_right (by omega), show l.length * 2 + 1 - (spCs l).length = 1 by omega]; rfl
theorem spCs_bump (l : List Sp) (s n m : Nat) : (spCs (l ++ [(s, n)])).set (l.length * 2 + 1) (.int .i64 (m : Int)) = spCs (l ++ [(s, m)]) := by
 have hl := spCs_length l
 rw [spCs_append, spCs_append, List.set_append_right _ _ (by omega), show l.length * 2 + 1 - (spCs l).length = 1 by omega]
 rfl
def bump (l : List Sp) : List Sp := match l.getLast? with
 | none => l
 | some s => l.dropLast ++ [(s.1, s.2 + 1)]
theorem bump_last (l : List Sp) (s n : Nat) : bump (l ++ [(s, n)]) = l ++ [(s, n + 1)] := by simp [bump]
def spanL (ks : Nat → Bool) : Nat → List Sp
 | 0 => []
 | b + 1 => if b = 0 ∨ ks b = false then spanL ks b else if 1 < b ∧ ks (b - 1) = true then bump (spanL ks b) else spanL ks b ++ [(b, 1)]
theorem spanL_last (ks : Nat → Bool) (b : Nat) (hb : 1 ≤ b) : if 1 < b ∧ ks (b - 1) = true then ∃ l s n, spanL ks b = l ++ [(s, n)] ∧ s + n = b ∧ l.length < b else (spanL ks b = [] ∨ ∃ l s n, spanL ks b = l ++ [(s, n)] ∧ s + n < b ∧ l.length < b) := by
 induction b with
 | zero => omega
 | succ b ih =>
  by_cases h0 : b = 0
  ·subst h0; rw [if_neg (by omega)]; left; rfl
  have ih := ih (by omega)
  rw [Nat.add_sub_cancel]
  by_cases hk : ks b = true
  ·rw [if_pos ⟨by omega, hk⟩]
   by_cases hp : 1 < b ∧ ks (b - 1) = true
   ·rw [if_pos hp] at ih
    obtain ⟨l, s, n, h1, h2, h3⟩ := ih
    refine ⟨l, s, n + 1, ?_, by omega, by omega⟩
    rw [spanL, if_neg (by simp [h0, hk]), if_pos hp, h1, bump_last]
   ·rw [if_neg hp] at ih
    refine ⟨spanL ks b, b, 1, ?_, rfl, ?_⟩
    ·rw [spanL, if_neg (by simp [h0, hk]), if_neg hp]
    ·rcases ih with h | ⟨l, s, n, h1, h2, h3⟩
     ·rw [h]; simp
     ·rw [h1]; simp; omega
  ·have hk' : ks b = false := by simpa using hk
   rw [if_neg (by simp [hk'])]
   have he : spanL ks (b + 1) = spanL ks b := by rw [spanL, if_pos (.inr hk')]
   rw [he]
   split at ih
   ·obtain ⟨l, s, n, h1, h2, h3⟩ := ih
    exact .inr ⟨l, s, n, h1, by omega, by omega⟩
   ·rcases ih with h | ⟨l, s, n, h1, h2, h3⟩
    ·exact .inl h
    ·exact .inr ⟨l, s, n, h1, by omega, by omega⟩
theorem spanL_len (ks : Nat → Bool) (b : Nat) : (spanL ks b).length ≤ b := by
 induction b with
 | zero => simp [spanL]
 | succ b ih =>
  unfold spanL
  split
  ·omega
  ·split
   ·unfold bump
    split
    ·omega
    ·simp; omega
   ·simp; omega
def freeAt (l : List Hd) (b : Nat) : Bool := (l.getD b default).k == 0
def spansOf (l : List Hd) : List Sp := spanL (freeAt l) l.length
theorem elBs : Elem Tryz.prog 206 259 (.agg #[.int .i64 0, .int .i64 0]) 2 16 := Elem.mk' Tryz.underlying206 (by kernel_rfl) rfl (by decide)
def SpansPost (t : Nat) (l : List Sp) (w : World) : Ending → World → Prop := fun e w' => ∃ v, e = .returned v ∧ w'.ownsRow w.heap.size t 2 v l.length (spCs l) ∧ Below w.heap.size w w'
theorem span_round (ks : Nat → Bool) (b : Nat) (hb : 1 ≤ b) :
  (ks b = false ∧ spanL ks (b + 1) = spanL ks b) ∨
  (ks b = true ∧ 1 < b ∧ ks (b - 1) = true ∧ ∃ l s n, spanL ks b = l ++ [(s, n)] ∧ s + n = b ∧ spanL ks (b + 1) = l ++ [(s, n + 1)]) ∨
  (ks b = true ∧ ¬ (1 < b ∧ ks (b - 1) = true) ∧ spanL ks b = [] ∧ spanL ks (b + 1) = [(b, 1)]) ∨
  (ks b = true ∧ ¬ (1 < b ∧ ks (b - 1) = true) ∧ ∃ l s n, spanL ks b = l ++ [(s, n)] ∧ s + n < b ∧ spanL ks (b + 1) = l ++ [(s, n)] ++ [(b, 1)]) := by
 have h := spanL_last ks b hb
 by_cases hk : ks b = true
 ·by_cases hp : 1 < b ∧ ks (b - 1) = true
  ·rw [if_pos hp] at h
   obtain ⟨l, s, n, h1, h2, h3⟩ := h
   exact .inr (.inl ⟨hk, hp.1, hp.2, l, s, n, h1, h2, by rw [spanL, if_neg (by simp [hk]; omega), if_pos hp, h1, bump_last]⟩)
  ·rw [if_neg hp] at h
   have e : spanL ks (b + 1) = spanL ks b ++ [(b, 1)] := by rw [spanL, if_neg (by simp [hk]; omega), if_neg hp]
   rcases h with h | ⟨l, s, n, h1, h2, h3⟩
   ·exact .inr (.inr (.inl ⟨hk, hp, h, by rw [e, h]; rfl⟩))
   ·exact .inr (.inr (.inr ⟨hk, hp, l, s, n, h1, h2, by rw [e, h1]⟩))
 ·have hk' : ks b = false := by simpa using hk
  exact .inl ⟨hk', by rw [spanL, if_pos (.inr hk')]⟩
theorem hd_kind {w : World} {a : Option Addr} {l : List Hd} (h : Cells w a (hdCs l)) {j : Nat} (hj : j < l.length) :
  ∃ b off, a = some ⟨b, off, none⟩ ∧ ∃ k, freeAt l j = (k == 0) ∧ w.cell? ⟨b, off + j * 3, none⟩ = some (.int .i64 k) := by
 obtain ⟨k, c, n, he⟩ := hdGetD l j
 obtain ⟨b, off, rfl, h0, _, _⟩ := hd_cells h hj he
 exact ⟨b, off, rfl, k, by unfold freeAt; rw [he], h0⟩
set_option maxHeartbeats 2000000 in
set_option maxRecDepth 20000 in
theorem bspans_any (a : Option Addr) (n cap : Nat) (l : List Hd) (hn : l.length = n) (w : World) (hc : Cells w a (hdCs l)) (hl : n ≤ 1000) :
  Calls Tryz.prog 158 #[.slice a n cap] w (SpansPost 259 (spansOf l) w) := by
 have HN := LH hn
 have HC := LH hc
 generalize hP : SpansPost 259 (spansOf l) w = Post
 have HP := LH hP
 clear hn hc hP
 go_enter Tryz.func158, Tryz.ntmps158
 go_wp2_with fail
 go_loopw [3, 4] (fun v i wr => ∃ b : Nat, 1 ≤ b ∧ (b ≤ n ∨ b = 1) ∧ i = .int .i64 b ∧ wr.ownsRow w.heap.size 259 2 v (spanL (freeAt l) b).length (spCs (spanL (freeAt l) b)) ∧ Below w.heap.size w wr) (fun _ i _ => n - (intOf i).toNat)
 case atStart => exact ⟨1, Nat.le_refl _, .inr rfl, rfl, ⟨rfl, .inl ⟨rfl, rfl⟩⟩, Below.refl _ _⟩
 case round =>
  obtain ⟨b, hb1, hbn, rfl, ho, hb⟩ := hrel
  by_cases hlt : b < n
  ·have hlt' : (b : Int) < (n : Int) := by omega
   have HB := LH hb
   obtain ⟨bl, off, rfl, kd, hfk, d0⟩ := hd_kind (HC.out.below hb (Nat.le_refl _)) (j := b) (by rw [HN.out]; exact hlt)
   have hr := span_round (freeAt l) b hb1
   rw [hfk] at hr
   have HLb := LH (spanL_len (freeAt l) b)
   clear hfk hbn hb
   rcases hr with ⟨hk, hs⟩ | ⟨hk, h1b, hk2, pl, s, m, hs1, hs2, hs3⟩ | ⟨hk, hp, hs1, hs3⟩ | ⟨hk, hp, pl, s, m, hs1, hs2, hs3⟩
   ·have hk1 : (kd != 0) = true := by simpa using hk
    obtain ⟨a1, c1, rfl, hc1, hm1⟩ := owned_form ho
    have HO : Hid (wr.ownsRow w.heap.size 259 2 (.slice a1 (spanL (freeAt l) b).length c1) (spanL (freeAt l) (b + 1)).length (spCs (spanL (freeAt l) (b + 1)))) := LH (by rw [hs]; exact ho)
    clear ho hs hk HLb
    go_wp2_with fail
    exact ⟨⟨b + 1, by omega, by omega, vint (by omega), HO.out, HB.out⟩, by simp [intOf]; omega⟩
   ·have hk1 : (kd != 0) = false := by simpa using hk
    rw [hs1] at ho
    obtain ⟨L, hL⟩ : ∃ L, L = pl.length := ⟨_, rfl⟩
    rw [show (pl ++ [(s, m)]).length = L + 1 by simp [hL]] at ho
    obtain ⟨g, c1, rfl, hc1, hm1, hg1, hg2⟩ := owned_some ho (by omega)
    have hr := owned_row ho
    have hla := spCs_last pl s m
    rw [← hL] at hla
    have e0 : wr.cell? ⟨g, L * 2, none⟩ = some (.int .i64 (s : Int)) := hr.cell hla.1
    have e1 : wr.cell? ⟨g, L * 2 + 1, none⟩ = some (.int .i64 (m : Int)) := hr.cell hla.2
    have f1 : wr.frozen? ⟨g, L * 2 + 1, none⟩ = false := hr.frozen _
    have hsm : ((s : Int) + (m : Int) == (b : Int)) = true := by simp; omega
    have HL := LH hL
    have HS3 := LH hs3
    have HO1 := LH ho
    have hsb : (s : Int) ≤ 1000 := by omega
    have hmb : (m : Int) ≤ 1000 := by omega
    have hLb : L < 1000 := by have := HLb.out; rw [hs1] at this; simp [← hL] at this; omega
    clear ho hs1 hs2 hs3 hL hla hr hk hk2 HLb
    have hw1 : IntKind.i64.wrap (L : Int) = L := IntWalk.i64_in _ (by omega)
    have hw2 : IntKind.i64.wrap ((s : Int) + (m : Int)) = s + m := IntWalk.i64_in _ (by omega)
    go_wp2_with fail
    go_quiet (fail)
    clear hw1 hw2
    have HO2 : Hid ((wr.drewN nq).ownsRow w.heap.size 259 2 (.slice (some ⟨g, 0, none⟩) (L + 1) c1) (L + 1) (spCs (pl ++ [(s, m)]))) := LH HO1.out
    go_wp2_with fail
    refine ⟨⟨b + 1, by omega, by omega, vint (by omega), ?_, ?_⟩, by simp [intOf]; omega⟩
    ·rw [HS3.out, ← show ((m + 1 : Nat) : Int) = (m : Int) + 1 from rfl, ← spCs_bump pl s m (m + 1), show (pl ++ [(s, m + 1)] : List Sp).length = L + 1 by simp [HL.out], ← HL.out]
     exact (HO2.out.stored (L * 2 + 1) _).1
    ·exact below_grownBy (below_drewN HB.out _) HO2.out (HO2.out.stored (L * 2 + 1) _).2 (Nat.le_refl _) (Nat.le_refl _)
   ·have hk1 : (kd != 0) = false := by simpa using hk
    rw [hs1] at ho
    obtain ⟨a1, c1, rfl, hc1, hm1⟩ := owned_form ho
    have HO := LH ho
    have HS3 := LH hs3
    have hone : Hid (∀ u ∈ (#[Value.int .i64 (b : Int), Value.int .i64 1] : Array Value).toList, u.oneCell' = true) := LH (by intro u hu; simp at hu; rcases hu with rfl | rfl <;> rfl)
    clear ho hs1 hs3 hk hp HLb
    go_wp2_with fail
    go_quiet (fail)
    have HO1 : Hid ((wr.drewN nq).ownsRow w.heap.size 259 2 (.slice a1 0 c1) 0 []) := LH HO.out
    have hbase : Hid (w.heap.size ≤ (wr.drewN nq).heap.size) := LH HB.out.size
    go_wp2_with (at_builtin; refine wpList_append_new (us := #[.int .i64 (b : Int), .int .i64 1]) elBs HO1.out rfl hone.out (by omega) (by decide) hbase.out rfl rfl rfl (by simp [Act.eval]) ?_; intro g6 c6 w6 ho6 hg6 hc6 hm6 hb6 hl6; have HO6 := LH ho6; have HG6 := LH hg6; clear ho6 hg6)
    refine ⟨⟨b + 1, by omega, by omega, vint (by omega), ?_, below_grownBy (below_drewN HB.out _) HO1.out HG6.out (Nat.le_refl _) (Nat.le_refl _)⟩, by simp [intOf]; omega⟩
    rw [HS3.out]
    exact HO6.out
   ·have hk1 : (kd != 0) = false := by simpa using hk
    rw [hs1] at ho
    obtain ⟨L, hL⟩ : ∃ L, L = pl.length := ⟨_, rfl⟩
    rw [show (pl ++ [(s, m)]).length = L + 1 by simp [hL]] at ho
    obtain ⟨g, c1, rfl, hc1, hm1, hg1, hg2⟩ := owned_some ho (by omega)
    have hr := owned_row ho
    have hla := spCs_last pl s m
    rw [← hL] at hla
    have e0 : wr.cell? ⟨g, L * 2, none⟩ = some (.int .i64 (s : Int)) := hr.cell hla.1
    have e1 : wr.cell? ⟨g, L * 2 + 1, none⟩ = some (.int .i64 (m : Int)) := hr.cell hla.2
    have hsm : ((s : Int) + (m : Int) == (b : Int)) = false := by simp; omega
    have HL := LH hL
    have HS3 := LH hs3
    have HO := LH ho
    have hsb : (s : Int) ≤ 1000 := by omega
    have hmb : (m : Int) ≤ 1000 := by omega
    have hone : Hid (∀ u ∈ (#[Value.int .i64 (b : Int), Value.int .i64 1] : Array Value).toList, u.oneCell' = true) := LH (by intro u hu; simp at hu; rcases hu with rfl | rfl <;> rfl)
    have hLb : L < 1000 := by have := HLb.out; rw [hs1] at this; simp [← hL] at this; omega
    have hL9 : L + 1 < 1000000000000 := by omega
    clear ho hs1 hs2 hs3 hL hla hr hk hp HLb
    have hw1 : IntKind.i64.wrap (L : Int) = L := IntWalk.i64_in _ (by omega)
    have hw2 : IntKind.i64.wrap ((s : Int) + (m : Int)) = s + m := IntWalk.i64_in _ (by omega)
    go_wp2_with fail
    go_quiet (fail)
    clear hw1 hw2
    have HO1 : Hid ((wr.drewN nq).ownsRow w.heap.size 259 2 (.slice (some ⟨g, 0, none⟩) (L + 1) c1) (L + 1) (spCs (pl ++ [(s, m)]))) := LH HO.out
    have hbase : Hid (w.heap.size ≤ (wr.drewN nq).heap.size) := LH HB.out.size
    go_wp2_with (at_builtin; refine wpList_append_new (us := #[.int .i64 (b : Int), .int .i64 1]) elBs HO1.out rfl hone.out hL9 (by decide) hbase.out rfl rfl rfl (by simp [Act.eval]) ?_; intro g6 c6 w6 ho6 hg6 hc6 hm6 hb6 hl6; have HO6 := LH ho6; have HG6 := LH hg6; clear ho6 hg6)
    refine ⟨⟨b + 1, by omega, by omega, vint (by omega), ?_, below_grownBy (below_drewN HB.out _) HO1.out HG6.out (Nat.le_refl _) (Nat.le_refl _)⟩, by simp [intOf]; omega⟩
    rw [HS3.out, spCs_append, show (pl ++ [(s, m)] ++ [(b, 1)] : List Sp).length = L + 1 + 1 by simp [HL.out]]
    exact HO6.out
  ·have hlt' : decide (b < n) = false := by simp; omega
   have hlt2 : n ≤ b := by omega
   obtain ⟨a1, c1, rfl, hc1, hm1⟩ := owned_form ho
   have HE : Hid (spansOf l = spanL (freeAt l) b) := LH (by
    unfold spansOf; rw [HN.out]
    rcases hbn with h | h
    ·rw [show n = b by omega]
    ·by_cases h0 : n = 0
     ·rw [h0, h]; rfl
     ·rw [show n = b by omega])
   have HO := LH ho
   have HB := LH hb
   clear ho hb
   go_wp2_with fail
   rw [← HP.out]
   refine ⟨_, rfl, ?_, HB.out⟩
   rw [HE.out]
   exact HO.out
theorem dec_enc (b k c l : Int) (h : hdRight k c l = true) : decN b (encN b k c l) = ⟨k, c, l, 0⟩ := by
 have hr : HdRight k c l := by simpa [hdRight] using h
 obtain ⟨n, hn⟩ : ∃ n, n = hdN k c l := ⟨_, rfl⟩
 have hn2 : (n : Int) = k + 4 * c + 256 * l := by rw [hn]; unfold hdN; unfold HdRight at hr; omega
 have hlt : n < 4294967296 := by unfold HdRight at hr; omega
 have he : encN b k c l = sealN n (pl (256 + b)) := by unfold encN; rw [if_pos h, hn]
 have hm : sealN n (pl (256 + b)) % 4294967296 = n := by
  unfold sealN
  rw [Nat.mul_comm, Nat.mul_add_mod, Nat.mod_eq_of_lt hlt]
 have ho : openN (encN b k c l) (pl (256 + b)) = some n := by
  unfold openN; rw [he, hm, if_pos rfl]
 have e1 : ((n % 4 : Nat) : Int) = k := by unfold HdRight at hr; omega
 have e2 : ((n / 4 % 64 : Nat) : Int) = c := by unfold HdRight at hr; omega
 have e3 : ((n / 256 % 65536 : Nat) : Int) = l := by unfold HdRight at hr; omega
 rw [decN_some ho]
 unfold decS
 rw [e1, e2, e3, if_pos rfl, if_pos h]
def Dev.live (S : Dev) : Prop := S.dead = false ∧ S.armed = false
theorem Dev.live.stop {S : Dev} (h : S.live) : S.stop = false := by unfold Dev.stop; rw [h.1, h.2]; rfl
theorem Dev.live.step {S : Dev} (h : S.live) : S.step.live := by unfold Dev.step; rw [h.stop]; exact h
theorem Dev.live.store {S : Dev} (h : S.live) (i : Int) (x : Nat) : (S.store i x).live := by
 unfold Dev.store
 split
 ·exact h
 ·rw [h.stop]; exact h.step
theorem Dev.live.store_ok {S : Dev} (h : S.live) (i : Nat) (x : Nat) (hi : i < S.cache.length) : S.storeE i = 0 ∧ (S.store i x).cache = S.cache.set i x := by
 constructor
 ·unfold Dev.storeE; rw [if_neg (by omega), h.stop]; rfl
 ·unfold Dev.store; rw [if_neg (by omega), h.stop]
  simp only [Bool.false_eq_true, if_false, Dev.put, (Dev.step_rest S).2.1, Int.toNat_natCast]
theorem Dev.store_okN {S : Dev} {N : Nat} (h : S.ok N) (i : Int) (x : Nat) : (S.store i x).ok (N + 1) := by
 unfold Dev.store
 split
 ·exact h.mono (by omega)
 ·split
  ·exact Dev.step_ok h
  ·exact (Dev.step_ok h : S.step.ok (N + 1))
theorem Dev.live.flush {S : Dev} (h : S.live) (j : Int) : (S.flush j).live := by
 unfold Dev.flush
 split
 ·exact h
 ·rw [h.stop]
  simp only [Bool.false_eq_true, if_false]
  unfold Dev.hold
  split
  ·exact h.step
  ·exact h.step
theorem Dev.live.flushE {S : Dev} (h : S.live) (j : Nat) (hj : j < S.dirty.length) : S.flushE j = 0 := by unfold Dev.flushE; rw [if_neg (by omega), h.stop]; rfl
theorem Dev.live.flushRun {S : Dev} (h : S.live) (a : Nat) : ∀ m, a + m ≤ S.dirty.length → (S.flushRun a m).err = 0 ∧ (S.flushRun a m).dev.live ∧ (S.flushRun a m).dev.cache = S.cache ∧ (S.flushRun a m).dev.dirty = S.dirty := by
 intro m
 induction m with
 | zero => intro _; exact ⟨rfl, h, rfl, rfl⟩
 | succ m ih =>
  intro hm
  obtain ⟨i1, i2, i3, i4⟩ := ih (by omega)
  unfold Dev.flushRun
  rw [if_neg (by rw [i1]; simp)]
  refine ⟨i2.flushE _ (by rw [i4]; omega), i2.flush _, ?_, ?_⟩
  ·exact (Dev.flush_len _ _).1.trans i3
  ·exact (Dev.flush_len _ _).2.trans i4
theorem Dev.live.persist {S : Dev} (h : S.live) (p n : Nat) (hn : 0 < n) (hd : S.cache.length = 8 * S.dirty.length) (hp : p + n ≤ S.cache.length) : (S.persist p n).err = 0 ∧ (S.persist p n).dev.cache = S.cache := by
 unfold Dev.persist
 rw [if_neg (by omega), if_pos (by omega)]
 unfold Dev.persistN
 obtain ⟨i1, i2, i3, i4⟩ := h.flushRun ((p : Int) / 8).toNat (((p : Int) + (n : Int) - 1) / 8 - (p : Int) / 8 + 1).toNat (by omega)
 rw [if_neg (by rw [i1]; simp)]
 constructor
 ·show Dev.fenceE _ = 0
  unfold Dev.fenceE; rw [i2.stop]; rfl
 ·show (Dev.fence _).cache = _
  unfold Dev.fence; rw [i2.stop]
  simp only [Bool.false_eq_true, if_false]
  rw [(fenceTo_len _ _).2.1, (Dev.step_rest _).2.1, i3]
set_option maxHeartbeats 400000 in
theorem tspans_any {w : World} {p B : Nat} {F : Foot} {l : List Hd} (h : TabAt w p F B l) (hl : l.length ≤ 1000) :
  Calls Tryz.prog 114 #[.pointer (some ⟨p, 0, none⟩)] w (SpansPost 259 (spansOf l) w) := by
 obtain ⟨g, c, hp, hc, hr, hne⟩ := h.ex
 have c2 : w.cell? ⟨p, 2, none⟩ = some (.slice (some ⟨g, 0, none⟩) l.length c) := cell_of_row _ _ 2 _ _ _ hp
 generalize hP : SpansPost 259 (spansOf l) w = Post
 have HP := LH hP
 have HR := LH hr
 clear hP hp hr h
 go_enter Tryz.func114, Tryz.ntmps114
 go_wp2_with fail
 refine (bspans_any (some ⟨g, 0, none⟩) l.length c l rfl w HR.out.cells hl).mono ?_
 rintro e w1 ⟨v, rfl, h1, h2⟩
 have HZ : Hid (Post (.returned v) w1) := LH (by rw [← HP.out]; exact ⟨v, rfl, h1, h2⟩)
 clear h1 h2
 go_wp2_with fail
 exact HZ.out
theorem fresh_live (ws : List Nat) (m : Nat) : (freshDev ws m).live := ⟨rfl, rfl⟩
theorem fresh_ok (ws : List Nat) (m N : Nat) : (freshDev ws m).ok N := by unfold Dev.ok freshDev; simp
theorem cells_of_owned {w : World} {base e size n : Nat} {v : Value} {vs : List Value} (h : w.ownsRow base e size v n vs) : ∃ a c, v = .slice a n c ∧ Cells w a vs := by
 rcases h.2 with ⟨h0, h1⟩ | ⟨g, cap, cur, rfl, hb, hg, h1, h2, h3, h4⟩
 ·subst h0 h1
  have := h.1
  simp at this
  subst this
  exact ⟨none, 0, rfl, Cells.nil _ _⟩
 ·exact ⟨_, _, rfl, (owned_row h).cells⟩
theorem elLine : Elem Tryz.prog 35 118 (.agg #[vu64 0, vu64 0, vu64 0, vu64 0, vu64 0, vu64 0, vu64 0, vu64 0]) 8 64 := Elem.mk' Tryz.underlying35 (by kernel_rfl) rfl (by decide)
structure RDev where
 now : List Nat
 last : List Nat
 wait : List Nat
 dirty : List Bool
 pending : List Bool
 steps : Int
 fuse : Int
 dead : Bool
structure RAt (w : World) (v : Value) (m : Nat) (R : RDev) : Prop where
 ex : ∃ an cn al cl aw cw ad cd ap cp, v = .agg #[.slice an m cn, .slice al m cl, .slice aw m cw, .slice ad m cd, .slice ap m cp, .int .i64 R.steps, .int .i64 R.fuse, .bool R.dead] ∧
  Cells w an (R.now.map vu64) ∧ Cells w al (R.last.map vu64) ∧ Cells w aw (R.wait.map vu64) ∧ Cells w ad (R.dirty.map Value.bool) ∧ Cells w ap (R.pending.map Value.bool)
 lenN : R.now.length = 8 * m
 lenL : R.last.length = 8 * m
 lenW : R.wait.length = 8 * m
 lenD : R.dirty.length = m
 lenP : R.pending.length = m
 u64N : ∀ z ∈ R.now, z < 18446744073709551616
 u64L : ∀ z ∈ R.last, z < 18446744073709551616
 u64W : ∀ z ∈ R.wait, z < 18446744073709551616
theorem RAt.below {w w' : World} {v : Value} {m B : Nat} {R : RDev} (h : RAt w v m R) (hb : Below B w w') (hB : w.heap.size ≤ B) : RAt w' v m R := by
 obtain ⟨an, cn, al, cl, aw, cw, ad, cd, ap, cp, rfl, h1, h2, h3, h4, h5⟩ := h.ex
 exact { h with ex := ⟨an, cn, al, cl, aw, cw, ad, cd, ap, cp, rfl, h1.below hb hB, h2.below hb hB, h3.below hb hB, h4.below hb hB, h5.below hb hB⟩ }
def freshR (ws : List Nat) (m : Nat) : RDev := ⟨ws, ws, List.replicate (8 * m) 0, List.replicate m false, List.replicate m false, 0, -1, false⟩
theorem pad_append (ws : List Nat) (k : Nat) (h : k % 8 = 0) (hk : k < ws.length) : (padTo (ws.take k) (8 * (k / 8))).map vu64 ++ [vu64 0, vu64 0, vu64 0, vu64 0, vu64 0, vu64 0, vu64 0, vu64 0] = (padTo (ws.take k) (8 * (k / 8 + 1))).map vu64 := by
 unfold padTo
 have : (ws.take k).length = k := by simp; omega
 rw [this, show 8 * (k / 8) - k = 0 by omega, show 8 * (k / 8 + 1) - k = 8 by omega]
 simp
theorem pad_set (ws : List Nat) (k m : Nat) (hk : k < ws.length) (hm : k < 8 * m) : ((padTo (ws.take k) (8 * m)).map vu64).set k (vu64 (ws.getD k 0)) = (padTo (ws.take (k + 1)) (8 * m)).map vu64 := by
 rw [← map_set_u64]
 congr 1
 unfold padTo
 have h1 : (ws.take k).length = k := by simp; omega
 have h2 : (ws.take (k + 1)).length = k + 1 := by simp; omega
 rw [h1, h2, List.set_append_right _ _ (by omega), h1, Nat.sub_self, List.take_succ_eq_append_getElem hk, show 8 * m - k = (8 * m - (k + 1)) + 1 by omega, List.replicate_succ, List.set_cons_zero, List.append_assoc]
 simp [hk]
theorem pad_length (ws : List Nat) (k m : Nat) (hk : k ≤ ws.length) (hm : k ≤ 8 * m) : (padTo (ws.take k) (8 * m)).length = 8 * m := by
 unfold padTo; simp; omega
def zeroD : Array Value := #[.slice none 0 0, .slice none 0 0, .slice none 0 0, .slice none 0 0, .slice none 0 0, .int .i64 0, .int .i64 0, .bool false]
theorem aggRd : Agg Tryz.prog 38 zeroD := ⟨⟨_, Tryz.underlying38, rfl⟩, by kernel_rfl⟩
structure LdSt (w W : World) (f : Array Value) : Prop where
 at1 : W.heap[w.heap.size + 1]? = some (.cells f 38 (0, 0))
 at0 : W.heap[w.heap.size]? = some (.cells zeroD 38 (0, 0))
 below : Below w.heap.size w W
 size : w.heap.size + 2 ≤ W.heap.size
theorem LdSt.set {w W : World} {f : Array Value} (h : LdSt w W f) (j : Nat) (v : Value) : LdSt w (W.setCell ⟨w.heap.size + 1, j, none⟩ v) (f.setIfInBounds j v) :=
 ⟨heap_setCell_same _ _ _ _ _ _ h.at1, (Below.heap_setCell _ _ _ _ (by simp)).trans h.at0, h.below.setCell (by simp) _, by simp [World.setCell]; exact h.size⟩
theorem LdSt.grown {w W W' : World} {f : Array Value} (h : LdSt w W f) (hg : W.grownBy W' none) : LdSt w W' f := by
 have hb := below_grown hg (Nat.le_refl _)
 have := h.size
 exact ⟨(hb.block _ (by omega)).trans h.at1, (hb.block _ (by omega)).trans h.at0, h.below.trans (hb.mono h.below.size), Nat.le_trans h.size hb.size⟩
theorem LdSt.cell {w W : World} {f : Array Value} (h : LdSt w W f) (j : Nat) {v : Value} (hv : f[j]? = some v) : W.cell? ⟨w.heap.size + 1, j, none⟩ = some v := by
 rw [cell_of_row _ _ j _ _ _ h.at1]; exact hv
theorem LdSt.frozen {w W : World} {f : Array Value} (h : LdSt w W f) (j : Nat) : W.frozen? ⟨w.heap.size + 1, j, none⟩ = false := frozen_of_row _ _ _ _ _ h.at1
theorem owned_grown {w w' : World} {base e size n : Nat} {v : Value} {xs : List Value} (h : w.ownsRow base e size v n xs) (hg : w.grownBy w' none) : w'.ownsRow base e size v n xs := owned_below h (below_grown hg (Nat.le_refl _)) (Nat.le_refl _)
theorem owned_addr {w : World} {base e size n n' c : Nat} {a : Option Addr} {xs : List Value} (h : w.ownsRow base e size (.slice a n' c) n xs) (x : Addr) (hx : a = some x) : base ≤ x.block := by
 rcases h.2 with ⟨h0, _⟩ | ⟨g, cap, cur, hv, hb, _⟩
 ·simp at h0; rw [h0.1] at hx; cases hx
 ·simp at hv; rw [hv.1] at hx; cases hx; exact hb
set_option maxHeartbeats 2000000 in
set_option maxRecDepth 100000 in
theorem rload_at (a : Option Addr) (n cap : Nat) (ws : List Nat) (hn : ws.length = n) (w : World) (hc : Cells w a (ws.map vu64)) (hl : n ≤ 100000) (hu : ∀ z ∈ ws, z < 18446744073709551616) :
  Calls Tryz.prog 11 #[.slice a n cap] w fun e w' => ∃ v, e = .returned v ∧ RAt w' v ((n + 7) / 8) (freshR (padTo ws (8 * ((n + 7) / 8))) ((n + 7) / 8)) ∧ (∀ cs, v = .agg cs → ∀ (i : Nat) (x : Addr) (n c : Nat), cs[i]? = some (.slice (some x) n c) → w.heap.size ≤ x.block) ∧ Below w.heap.size w w' := by
 have HN := LH hn
 have HC := LH hc
 have HU := LH hu
 obtain ⟨w0, hw0⟩ : ∃ w0, w0 = (w.alloc (.cells #[.slice none 0 0, .slice none 0 0, .slice none 0 0, .slice none 0 0, .slice none 0 0, .int .i64 0, .int .i64 0, .bool false] 38)).alloc (.cells #[.slice none 0 0, .slice none 0 0, .slice none 0 0, .slice none 0 0, .slice none 0 0, .int .i64 0, .int .i64 0, .bool false] 38) := ⟨_, rfl⟩
 have hb0 : Below w.heap.size w w0 := by rw [hw0]; exact (below_alloc _ _).alloc (by simp) _
 have hg1 : w0.heap[w.heap.size + 1]? = some (.cells #[.slice none 0 0, .slice none 0 0, .slice none 0 0, .slice none 0 0, .slice none 0 0, .int .i64 0, .int .i64 0, .bool false] 38) := by
  rw [hw0]
  have := heap_alloc_new (w.alloc (.cells #[.slice none 0 0, .slice none 0 0, .slice none 0 0, .slice none 0 0, .slice none 0 0, .int .i64 0, .int .i64 0, .bool false] 38)) (.cells #[.slice none 0 0, .slice none 0 0, .slice none 0 0, .slice none 0 0, .slice none 0 0, .int .i64 0, .int .i64 0, .bool false] 38)
  simpa using this
 have hg0 : w0.heap[w.heap.size]? = some (.cells #[.slice none 0 0, .slice none 0 0, .slice none 0 0, .slice none 0 0, .slice none 0 0, .int .i64 0, .int .i64 0, .bool false] 38) := by
  rw [hw0, Below.heap_alloc _ _ _ (by simp)]
  exact heap_alloc_new _ _
 have HW0 := LH hw0
 have HB0 := LH hb0
 have HG0 := LH hg0
 have HG1 := LH hg1
 have hsz0 : Hid (w0.heap.size = w.heap.size + 2) := LH (by rw [hw0]; simp)
 clear hn hc hu hw0 hb0 hg0 hg1
 go_enter Tryz.func11, Tryz.ntmps11
 go_wp2_with fail
 rw [← HW0.out]
 go_loopw [4] (fun i wr => ∃ k : Nat, k ≤ n ∧ i = .int .i64 k ∧ ∃ v, wr.heap[w.heap.size + 1]? = some (.cells #[v, .slice none 0 0, .slice none 0 0, .slice none 0 0, .slice none 0 0, .int .i64 0, .int .i64 0, .bool false] 38) ∧ wr.heap[w.heap.size]? = some (.cells #[.slice none 0 0, .slice none 0 0, .slice none 0 0, .slice none 0 0, .slice none 0 0, .int .i64 0, .int .i64 0, .bool false] 38) ∧ wr.ownsRow (w.heap.size + 2) 118 8 v ((k + 7) / 8) ((padTo (ws.take k) (8 * ((k + 7) / 8))).map vu64) ∧ Below w.heap.size w wr ∧ w.heap.size + 2 ≤ wr.heap.size) (fun i _ => n - (intOf i).toNat)
 case atStart => exact ⟨0, Nat.zero_le _, rfl, _, HG1.out, HG0.out, ⟨rfl, .inl ⟨rfl, rfl⟩⟩, HB0.out, by rw [hsz0.out]; exact Nat.le_refl _⟩
 case round =>
  obtain ⟨k, hk, rfl, v, hv1, hv0, ho, hb, hsz⟩ := hrel
  by_cases hlt : k < n
  ·have hlt' : (k : Int) < (n : Int) := by omega
   obtain ⟨b, off, rfl, hcs⟩ : ∃ b off, a = some ⟨b, off, none⟩ ∧ wr.cell? ⟨b, off + k, none⟩ = some (vu64 (ws.getD k 0)) := by
    obtain ⟨b, off, rfl, hb', hcs⟩ := (HC.out.below hb (Nat.le_refl _)).atMap 0 (show k < ws.length by rw [HN.out]; exact hlt)
    exact ⟨b, off, rfl, hcs k (by rw [HN.out]; exact hlt)⟩
   have HX : Hid (k < ws.length) := LH (by rw [HN.out]; exact hlt)
   obtain ⟨a1, c1, rfl, hc1, hm1⟩ := owned_form ho
   have e0 : wr.cell? ⟨w.heap.size + 1, 0, none⟩ = some (.slice a1 ((k + 7) / 8) c1) := cell_of_row _ _ 0 _ _ _ hv1
   have f0 : wr.frozen? ⟨w.heap.size + 1, 0, none⟩ = false := frozen_of_row _ _ _ _ _ hv1
   by_cases hz : k % 8 = 0
   ·have hz1 : ((k : Int) % 8 == 0) = true := by simp; omega
    have hz2 : (k % 8 == 0) = true := by simpa using hz
    have HZ := LH hz
    have hm : (k + 7) / 8 = k / 8 := by omega
    rw [hm] at ho e0
    have HO := LH ho
    have HV1 := LH hv1
    have HV0 := LH hv0
    have HB := LH hb
    have hk9 : k / 8 < 1000000000000 := by omega
    have hone : Hid (∀ u ∈ (#[vu64 0, vu64 0, vu64 0, vu64 0, vu64 0, vu64 0, vu64 0, vu64 0] : Array Value).toList, u.oneCell' = true) := LH (by decide)
    have hbase := LH hsz
    clear ho hv1 hv0 hb hz hm hsz
    go_wp2_with (at_builtin; refine wpList_append_new (us := #[vu64 0, vu64 0, vu64 0, vu64 0, vu64 0, vu64 0, vu64 0, vu64 0]) elLine HO.out rfl hone.out hk9 (by decide) hbase.out rfl rfl rfl (by simp [Act.eval]) ?_; intro g6 c6 w6 ho6 hg6 hc6 hm6 hb6 hl6; have HO6 := LH ho6; have HG6 := LH hg6; have HH6 := LH (And.intro (grown_heap hg6 HO.out (by omega) HV1.out) (grown_heap hg6 HO.out (by omega) HV0.out)); have e6 := cell_of_row _ _ 0 _ _ _ HH6.out.1; have f6 : w6.frozen? ⟨w.heap.size + 1, 0, none⟩ = false := frozen_of_row _ _ _ _ _ HH6.out.1; clear ho6 hg6)
    rw [pad_append _ _ HZ.out HX.out] at HO6
    obtain ⟨hv17, hv07⟩ := HH6.out
    have hv1 := heap_setCell_same w6 (w.heap.size + 1) 0 _ _ (.slice (some ⟨g6, 0, none⟩) (k / 8 + 1) c6) hv17
    have hv0 : (w6.setCell ⟨w.heap.size + 1, 0, none⟩ (.slice (some ⟨g6, 0, none⟩) (k / 8 + 1) c6)).heap[w.heap.size]? = _ := (Below.heap_setCell _ _ _ _ (by simp)).trans hv07
    have hb7 : Below w.heap.size w (w6.setCell ⟨w.heap.size + 1, 0, none⟩ (.slice (some ⟨g6, 0, none⟩) (k / 8 + 1) c6)) := (below_grownBy HB.out HO.out HG6.out (Nat.le_refl _) (by omega)).setCell (by simp) _
    have ho7 := ownsRow_setCell_below HO6.out (a := ⟨w.heap.size + 1, 0, none⟩) (by simp) (.slice (some ⟨g6, 0, none⟩) (k / 8 + 1) c6)
    have hsz7 : w.heap.size + 2 ≤ (w6.setCell ⟨w.heap.size + 1, 0, none⟩ (.slice (some ⟨g6, 0, none⟩) (k / 8 + 1) c6)).heap.size := by simp [World.setCell]; omega
    generalize w6.setCell ⟨w.heap.size + 1, 0, none⟩ (.slice (some ⟨g6, 0, none⟩) (k / 8 + 1) c6) = w7 at *
    have E0 : w7.cell? ⟨w.heap.size + 1, 0, none⟩ = some (.slice (some ⟨g6, 0, none⟩) (k / 8 + 1) c6) := cell_of_row _ _ 0 _ _ _ hv1
    have CW : w7.cell? ⟨b, off + k, none⟩ = some (vu64 (ws.getD k 0)) := by
     obtain ⟨b', off', he, hb', hcs'⟩ := (HC.out.below hb7 (Nat.le_refl _)).atMap 0 HX.out
     simp at he
     obtain ⟨rfl, rfl⟩ := he
     exact hcs' k HX.out
    obtain ⟨xk, hxk⟩ : ∃ xk, xk = ws.getD k 0 := ⟨_, rfl⟩
    rw [← hxk] at CW
    have HXK := LH hxk
    have HO7 := LH ho7
    have HV1 := LH hv1
    have HV0 := LH hv0
    have HB7 := LH hb7
    clear ho7 hv1 hv0 hb7 HO6 HG6 hv17 hv07 HH6 e6 f6 HO HB hcs e0 f0 hxk
    have hM : k / 8 < k / 8 + 1 := by omega
    have f1 := fun x => later_cell E0 x
    have f2 := fun x => later_cell CW x
    have hq3 : 0 ≤ (k : Int) / 8 := by omega
    have hq4 : ((k : Int) / 8).toNat = k / 8 := by omega
    have hq5 : (k : Int) / 8 < (k : Int) / 8 + 1 := by omega
    have hq6 : 0 ≤ (k : Int) % 8 := by omega
    have hq7 : ((k : Int) % 8).toNat = k % 8 := by omega
    have hq8 : (k : Int) % 8 < 8 := by omega
    have hq9 : k % 8 < 8 := by omega
    have hq2 : (k : Int).tmod 8 = (k : Int) % 8 := Int.tmod_eq_emod_of_nonneg (by omega)
    have hq1 : IntKind.i64.wrap ((k : Int) / 8) = (k : Int) / 8 := IntWalk.i64_in _ (by omega)
    refine wp_region_later_tail 12 ?hn ?hm ?hB ?_
    case hn => exact Nat.le_of_ble_eq_true rfl
    case hm => kernel_rfl
    case hB => kernel_rfl
    simp only [List.take_succ_cons, List.take_zero, List.drop_succ_cons, List.drop_zero]
    repeat (quiet_step (fail))
    refine wpQuiet_nil ?_
    rintro w8 ⟨x, hx8⟩
    have hb8 : Below w7.heap.size w7 w8 := by rw [hx8]; exact x.below
    have ho8 := owned_below HO7.out hb8 (Nat.le_refl _)
    have hr8 := owned_row ho8
    have hl8 : k < ((padTo (ws.take k) (8 * (k / 8 + 1))).map vu64).length := by rw [List.length_map, pad_length _ _ _ (Nat.le_of_lt HX.out) (by omega)]; omega
    have e8 : w8.cell? ⟨g6, k / 8 * 8 + k % 8, none⟩ = some (((padTo (ws.take k) (8 * (k / 8 + 1))).map vu64)[k]'hl8) := by
     rw [show k / 8 * 8 + k % 8 = k by omega]; exact hr8.cell (List.getElem?_eq_getElem hl8)
    generalize (((padTo (ws.take k) (8 * (k / 8 + 1))).map vu64)[k]'hl8) = old at e8
    have f8 : w8.frozen? ⟨g6, k / 8 * 8 + k % 8, none⟩ = false := hr8.frozen _
    have hst := ho8.stored k (vu64 xk)
    rw [HXK.out, pad_set _ _ _ HX.out (by omega), ← HXK.out] at hst
    have HST := LH hst
    have HO8 := LH ho8
    have hgl : w.heap.size + 1 < w7.heap.size := by omega
    have hgg : w.heap.size + 2 ≤ g6 := by assumption
    have HV18 : Hid (w8.heap[w.heap.size + 1]? = _) := LH ((hb8.block _ hgl).trans HV1.out)
    have HV08 : Hid (w8.heap[w.heap.size]? = _) := LH ((hb8.block _ (by omega)).trans HV0.out)
    have HB8 : Hid (Below w.heap.size w w8) := LH (HB7.out.trans (hb8.mono HB7.out.size))
    have hs8 : w.heap.size + 2 ≤ w8.heap.size := by have := hb8.size; omega
    clear hx8 hb8 ho8 hr8 hl8 hst f1 f2 hq1 hq2 hq3 hq4 hq5 hq6 hq7 hq8 hq9 E0 CW x
    go_wp2_with fail
    refine ⟨⟨k + 1, by omega, vint (by omega), .slice (some ⟨g6, 0, none⟩) (k / 8 + 1) c6, ?_, ?_, ?_, ?_, ?_⟩, by simp [intOf]; omega⟩
    ·exact (Below.heap_setCell _ _ _ _ (by simp; omega)).trans HV18.out
    ·exact (Below.heap_setCell _ _ _ _ (by simp; omega)).trans HV08.out
    ·rw [show (k + 1 + 7) / 8 = k / 8 + 1 by omega, show k / 8 * 8 + k % 8 = k by omega]; exact HST.out.1
    ·exact HB8.out.setCell (by simp; omega) _
    ·simp [World.setCell]; exact hs8
   ·have hz1 : ((k : Int) % 8 == 0) = false := by simp; omega
    have hz2 : (k % 8 == 0) = false := by simpa using hz
    have hm : (k + 7) / 8 = k / 8 + 1 := by omega
    rw [hm] at ho e0
    obtain ⟨g6, c6, hge, hc6, hm6, hb6, hl6⟩ := owned_some ho (by omega)
    simp at hge
    obtain ⟨rfl, rfl⟩ := hge
    rw [hm] at hv1
    obtain ⟨xk, hxk⟩ : ∃ xk, xk = ws.getD k 0 := ⟨_, rfl⟩
    rw [← hxk] at hcs
    have HXK := LH hxk
    have E0 := e0
    have CW := hcs
    have HO7 := LH ho
    have HV1 := LH hv1
    have HV0 := LH hv0
    have HB7 := LH hb
    clear ho hv1 hv0 hb hz hm e0 hcs f0 hxk
    go_wp2_with fail
    have hM : k / 8 < k / 8 + 1 := by omega
    have f1 := fun x => later_cell E0 x
    have f2 := fun x => later_cell CW x
    have hq3 : 0 ≤ (k : Int) / 8 := by omega
    have hq4 : ((k : Int) / 8).toNat = k / 8 := by omega
    have hq5 : (k : Int) / 8 < (k : Int) / 8 + 1 := by omega
    have hq6 : 0 ≤ (k : Int) % 8 := by omega
    have hq7 : ((k : Int) % 8).toNat = k % 8 := by omega
    have hq8 : (k : Int) % 8 < 8 := by omega
    have hq9 : k % 8 < 8 := by omega
    have hq2 : (k : Int).tmod 8 = (k : Int) % 8 := Int.tmod_eq_emod_of_nonneg (by omega)
    have hq1 : IntKind.i64.wrap ((k : Int) / 8) = (k : Int) / 8 := IntWalk.i64_in _ (by omega)
    refine wp_region_later_tail 12 ?hn ?hm ?hB ?_
    case hn => exact Nat.le_of_ble_eq_true rfl
    case hm => kernel_rfl
    case hB => kernel_rfl
    simp only [List.take_succ_cons, List.take_zero, List.drop_succ_cons, List.drop_zero]
    repeat (quiet_step (fail))
    refine wpQuiet_nil ?_
    rintro w8 ⟨x, hx8⟩
    have hb8 : Below wr.heap.size wr w8 := by rw [hx8]; exact x.below
    have ho8 := owned_below HO7.out hb8 (Nat.le_refl _)
    have hr8 := owned_row ho8
    have hl8 : k < ((padTo (ws.take k) (8 * (k / 8 + 1))).map vu64).length := by rw [List.length_map, pad_length _ _ _ (Nat.le_of_lt HX.out) (by omega)]; omega
    have e8 : w8.cell? ⟨g6, k / 8 * 8 + k % 8, none⟩ = some (((padTo (ws.take k) (8 * (k / 8 + 1))).map vu64)[k]'hl8) := by
     rw [show k / 8 * 8 + k % 8 = k by omega]; exact hr8.cell (List.getElem?_eq_getElem hl8)
    generalize (((padTo (ws.take k) (8 * (k / 8 + 1))).map vu64)[k]'hl8) = old at e8
    have f8 : w8.frozen? ⟨g6, k / 8 * 8 + k % 8, none⟩ = false := hr8.frozen _
    have hst := ho8.stored k (vu64 xk)
    rw [HXK.out, pad_set _ _ _ HX.out (by omega), ← HXK.out] at hst
    have HST := LH hst
    have HO8 := LH ho8
    have hgl : w.heap.size + 1 < wr.heap.size := by omega
    have hgg : w.heap.size + 2 ≤ g6 := by assumption
    have HV18 : Hid (w8.heap[w.heap.size + 1]? = _) := LH ((hb8.block _ hgl).trans HV1.out)
    have HV08 : Hid (w8.heap[w.heap.size]? = _) := LH ((hb8.block _ (by omega)).trans HV0.out)
    have HB8 : Hid (Below w.heap.size w w8) := LH (HB7.out.trans (hb8.mono HB7.out.size))
    have hs8 : w.heap.size + 2 ≤ w8.heap.size := by have := hb8.size; omega
    clear hx8 hb8 ho8 hr8 hl8 hst f1 f2 hq1 hq2 hq3 hq4 hq5 hq6 hq7 hq8 hq9 E0 CW x
    go_wp2_with fail
    refine ⟨⟨k + 1, by omega, vint (by omega), .slice (some ⟨g6, 0, none⟩) (k / 8 + 1) c1, ?_, ?_, ?_, ?_, ?_⟩, by simp [intOf]; omega⟩
    ·exact (Below.heap_setCell _ _ _ _ (by simp; omega)).trans HV18.out
    ·exact (Below.heap_setCell _ _ _ _ (by simp; omega)).trans HV08.out
    ·rw [show (k + 1 + 7) / 8 = k / 8 + 1 by omega, show k / 8 * 8 + k % 8 = k by omega]; exact HST.out.1
    ·exact HB8.out.setCell (by simp; omega) _
    ·simp [World.setCell]; exact hs8
  ·obtain rfl : k = n := by omega
   have hlt' : decide ((k : Int) < (k : Int)) = false := by simp
   have hlt2 : decide (k < k) = false := by simp
   rw [List.take_of_length_le (by rw [HN.out]; exact Nat.le_refl _)] at ho
   have hlen : (padTo ws (8 * ((k + 7) / 8))).length = 8 * ((k + 7) / 8) := by
    have := pad_length ws k ((k + 7) / 8) (by rw [HN.out]; exact Nat.le_refl _) (by omega)
    rwa [List.take_of_length_le (by rw [HN.out]; exact Nat.le_refl _)] at this
   have hu2 : ∀ z ∈ padTo ws (8 * ((k + 7) / 8)), z < 18446744073709551616 := fun z hz => by
    simp only [padTo, List.mem_append, List.mem_replicate] at hz
    rcases hz with hz | ⟨_, rfl⟩
    ·exact HU.out z hz
    ·decide
   have hMb : (k + 7) / 8 ≤ 20000 := by omega
   obtain ⟨M, hMe⟩ : ∃ M, M = (k + 7) / 8 := ⟨_, rfl⟩
   rw [← hMe] at ho hlen hu2 hMb
   obtain ⟨L, hLe⟩ : ∃ L, L = padTo ws (8 * M) := ⟨_, rfl⟩
   rw [← hLe] at ho hlen hu2
   have HRe : Hid (freshR (padTo ws (8 * ((k + 7) / 8))) ((k + 7) / 8) = freshR L M ∧ (k + 7) / 8 = M) := LH (by rw [← hMe, hLe]; exact ⟨rfl, rfl⟩)
   clear hMe hLe
   have HL := LH hlen
   have HU2 := LH hu2
   obtain ⟨a1, c1, rfl, hc1, hm1⟩ := owned_form ho
   have e0 : wr.cell? ⟨w.heap.size + 1, 0, none⟩ = some (.slice a1 M c1) := cell_of_row _ _ 0 _ _ _ hv1
   have e1 : wr.cell? ⟨w.heap.size + 1, 1, none⟩ = some (.slice none 0 0) := cell_of_row _ _ 1 _ _ _ hv1
   have HO := LH ho
   have HV1 := LH hv1
   have HV0 := LH hv0
   have HB := LH hb
   have hone : Hid (∀ u ∈ L.map vu64, u.oneCell' = true) := LH (one_cells _)
   have hM9 : 0 + M < 1000000000000 := by omega
   have hbase := LH hsz
   have hnil : Hid (wr.ownsRow (w.heap.size + 2) 118 8 (.slice none 0 0) 0 []) := LH ⟨rfl, .inl ⟨rfl, rfl⟩⟩
   clear ho hv1 hv0 hb hlen hu2 hsz
   go_upto_region 9 with (at_builtin; refine wpList_append_rows elLine hnil.out HO.out hone.out hM9 (by decide) hbase.out rfl rfl rfl rfl ?_; intro v2 w2 ho2 hg2; rw [Nat.zero_add, List.nil_append] at ho2; obtain ⟨a2, c2, rfl, hc2, hm2⟩ := owned_form ho2; have HO2 := LH ho2; have HG2 := LH hg2; have HH2 := LH (And.intro (grown_heap hg2 hnil.out (by omega) HV1.out) (grown_heap hg2 hnil.out (by omega) HV0.out)); have e2 := cell_of_row _ _ 1 _ _ _ HH2.out.1; have f2 : w2.frozen? ⟨w.heap.size + 1, 1, none⟩ = false := frozen_of_row _ _ _ _ _ HH2.out.1; clear ho2 hg2)
   have st2 : LdSt w w2 _ := ⟨HH2.out.1, HH2.out.2, below_grownBy HB.out hnil.out HG2.out (Nat.le_refl _) (by omega), Nat.le_trans hbase.out HG2.out.size⟩
   have st := st2.set 1 (.slice a2 M c2)
   have hN := ownsRow_setCell_below (owned_grown HO.out HG2.out) (a := ⟨w.heap.size + 1, 1, none⟩) (by simp) (.slice a2 M c2)
   have hL := ownsRow_setCell_below HO2.out (a := ⟨w.heap.size + 1, 1, none⟩) (by simp) (.slice a2 M c2)
   generalize w2.setCell ⟨w.heap.size + 1, 1, none⟩ (.slice a2 M c2) = W2 at *
   have ST := LH st
   have HNo := LH hN
   have HLa := LH hL
   have e0' : W2.cell? ⟨w.heap.size + 1, 0, none⟩ = some (.slice a1 M c1) := st.cell 0 rfl
   have hb2 := LH st.size
   have hM8 : M < 1000000000000 := by omega
   have hz8 : Hid (∀ i, i < (#[vu64 0, vu64 0, vu64 0, vu64 0, vu64 0, vu64 0, vu64 0, vu64 0] : Array Value).size → (#[vu64 0, vu64 0, vu64 0, vu64 0, vu64 0, vu64 0, vu64 0, vu64 0] : Array Value)[i]? = some (vu64 0)) := LH (by intro i hi; simp at hi; rcases i with _ | _ | _ | _ | _ | _ | _ | _ | i <;> first | rfl | omega)
   clear st2 st hN hL e0 e1 e2 f2 HH2 HG2 HO2 HO HV1 HV0 HB hnil hbase
   go_upto_region 10 with (at_make; refine wpList_make_rows elLine (w.heap.size + 2) M (z := vu64 0) hz8.out rfl rfl hM8 (by decide) hb2.out rfl rfl rfl rfl ?_; intro w3 ho3 hg3; have S3 := LH (ST.out.grown hg3); have HO3 := LH ho3; have HG3 := LH hg3; have e3 : w3.cell? ⟨w.heap.size + 1, 2, none⟩ = some _ := S3.out.cell 2 rfl; have f3 := S3.out.frozen 2; clear ho3 hg3)
   have st := S3.out.set 2 (.slice (some ⟨W2.heap.size, 0, none⟩) M M)
   have hN := ownsRow_setCell_below (owned_grown HNo.out HG3.out) (a := ⟨w.heap.size + 1, 2, none⟩) (by simp) (.slice (some ⟨W2.heap.size, 0, none⟩) M M)
   have hL := ownsRow_setCell_below (owned_grown HLa.out HG3.out) (a := ⟨w.heap.size + 1, 2, none⟩) (by simp) (.slice (some ⟨W2.heap.size, 0, none⟩) M M)
   have hW := ownsRow_setCell_below HO3.out (a := ⟨w.heap.size + 1, 2, none⟩) (by simp) (.slice (some ⟨W2.heap.size, 0, none⟩) M M)
   generalize w3.setCell ⟨w.heap.size + 1, 2, none⟩ (.slice (some ⟨W2.heap.size, 0, none⟩) M M) = W3 at *
   clear ST HNo HLa e3 f3 e0' S3 HO3 HG3 hb2
   generalize W2.heap.size = g3 at *
   have ST := LH st
   have HNo := LH hN
   have HLa := LH hL
   have HWa := LH hW
   have e0' : W3.cell? ⟨w.heap.size + 1, 0, none⟩ = some (.slice a1 M c1) := st.cell 0 rfl
   have hb3 := LH st.size
   clear st hN hL hW
   go_upto_region 11 with (at_make; refine wpList_make_len elBool (w.heap.size + 2) M rfl rfl rfl hM8 (by decide) hb3.out rfl rfl rfl rfl ?_; intro w4 ho4 hg4; have S4 := LH (ST.out.grown hg4); have HO4 := LH ho4; have HG4 := LH hg4; have e4 : w4.cell? ⟨w.heap.size + 1, 3, none⟩ = some _ := S4.out.cell 3 rfl; have f4 := S4.out.frozen 3; clear ho4 hg4)
   have st := S4.out.set 3 (.slice (some ⟨W3.heap.size, 0, none⟩) M M)
   have lHNo := ownsRow_setCell_below (owned_grown HNo.out HG4.out) (a := ⟨w.heap.size + 1, 3, none⟩) (by simp) (.slice (some ⟨W3.heap.size, 0, none⟩) M M)
   have lHLa := ownsRow_setCell_below (owned_grown HLa.out HG4.out) (a := ⟨w.heap.size + 1, 3, none⟩) (by simp) (.slice (some ⟨W3.heap.size, 0, none⟩) M M)
   have lHWa := ownsRow_setCell_below (owned_grown HWa.out HG4.out) (a := ⟨w.heap.size + 1, 3, none⟩) (by simp) (.slice (some ⟨W3.heap.size, 0, none⟩) M M)
   have lnew := ownsRow_setCell_below HO4.out (a := ⟨w.heap.size + 1, 3, none⟩) (by simp) (.slice (some ⟨W3.heap.size, 0, none⟩) M M)
   generalize w4.setCell ⟨w.heap.size + 1, 3, none⟩ (.slice (some ⟨W3.heap.size, 0, none⟩) M M) = W4 at *
   clear ST HNo HLa HWa e4 f4 e0' S4 HO4 HG4 hb3
   generalize W3.heap.size = g4 at *
   have ST := LH st
   have HNo := LH lHNo
   have HLa := LH lHLa
   have HWa := LH lHWa
   have HDi := LH lnew
   have e0' : W4.cell? ⟨w.heap.size + 1, 0, none⟩ = some (.slice a1 M c1) := st.cell 0 rfl
   have hb4 := LH st.size
   clear st lHNo lHLa lHWa lnew
   go_upto_region 12 with (at_make; refine wpList_make_len elBool (w.heap.size + 2) M rfl rfl rfl hM8 (by decide) hb4.out rfl rfl rfl rfl ?_; intro w5 ho5 hg5; have S5 := LH (ST.out.grown hg5); have HO5 := LH ho5; have HG5 := LH hg5; have e5 : w5.cell? ⟨w.heap.size + 1, 4, none⟩ = some _ := S5.out.cell 4 rfl; have f5 := S5.out.frozen 4; clear ho5 hg5)
   have st := S5.out.set 4 (.slice (some ⟨W4.heap.size, 0, none⟩) M M)
   have lHNo := ownsRow_setCell_below (owned_grown HNo.out HG5.out) (a := ⟨w.heap.size + 1, 4, none⟩) (by simp) (.slice (some ⟨W4.heap.size, 0, none⟩) M M)
   have lHLa := ownsRow_setCell_below (owned_grown HLa.out HG5.out) (a := ⟨w.heap.size + 1, 4, none⟩) (by simp) (.slice (some ⟨W4.heap.size, 0, none⟩) M M)
   have lHWa := ownsRow_setCell_below (owned_grown HWa.out HG5.out) (a := ⟨w.heap.size + 1, 4, none⟩) (by simp) (.slice (some ⟨W4.heap.size, 0, none⟩) M M)
   have lHDi := ownsRow_setCell_below (owned_grown HDi.out HG5.out) (a := ⟨w.heap.size + 1, 4, none⟩) (by simp) (.slice (some ⟨W4.heap.size, 0, none⟩) M M)
   have lnew := ownsRow_setCell_below HO5.out (a := ⟨w.heap.size + 1, 4, none⟩) (by simp) (.slice (some ⟨W4.heap.size, 0, none⟩) M M)
   generalize w5.setCell ⟨w.heap.size + 1, 4, none⟩ (.slice (some ⟨W4.heap.size, 0, none⟩) M M) = W5 at *
   clear ST HNo HLa HWa HDi e5 f5 e0' S5 HO5 HG5 hb4
   generalize W4.heap.size = g5 at *
   have ST := LH st
   have HNo := LH lHNo
   have HLa := LH lHLa
   have HWa := LH lHWa
   have HDi := LH lHDi
   have HPe := LH lnew
   have e0' : W5.cell? ⟨w.heap.size + 1, 0, none⟩ = some (.slice a1 M c1) := st.cell 0 rfl
   have hb5 := LH st.size
   clear st lHNo lHLa lHWa lHDi lnew
   have e6 : W5.cell? ⟨w.heap.size + 1, 6, none⟩ = some _ := ST.out.cell 6 rfl
   have f6 := ST.out.frozen 6
   go_upto_region 13 with fail
   have st := ST.out.set 6 (.int .i64 (-1))
   have lHNo := ownsRow_setCell_below HNo.out (a := ⟨w.heap.size + 1, 6, none⟩) (by simp) (.int .i64 (-1))
   have lHLa := ownsRow_setCell_below HLa.out (a := ⟨w.heap.size + 1, 6, none⟩) (by simp) (.int .i64 (-1))
   have lHWa := ownsRow_setCell_below HWa.out (a := ⟨w.heap.size + 1, 6, none⟩) (by simp) (.int .i64 (-1))
   have lHDi := ownsRow_setCell_below HDi.out (a := ⟨w.heap.size + 1, 6, none⟩) (by simp) (.int .i64 (-1))
   have lHPe := ownsRow_setCell_below HPe.out (a := ⟨w.heap.size + 1, 6, none⟩) (by simp) (.int .i64 (-1))
   generalize W5.setCell ⟨w.heap.size + 1, 6, none⟩ (.int .i64 (-1)) = W6 at *
   clear ST HNo HLa HWa HDi HPe e6 f6 e0' hb5
   have HNo := LH lHNo
   have HLa := LH lHLa
   have HWa := LH lHWa
   have HDi := LH lHDi
   have HPe := LH lHPe
   have hcs : Hid (∀ i v, [Value.slice a1 M c1, .slice a2 M c2, .slice (some ⟨g3, 0, none⟩) M M, .slice (some ⟨g4, 0, none⟩) M M, .slice (some ⟨g5, 0, none⟩) M M, .int .i64 0, .int .i64 (-1), .bool false][i]? = some v → W6.cell? ⟨w.heap.size + 1, 0 + i, none⟩ = some v) := LH (fun i v hi => by
    rw [Nat.zero_add]; exact st.cell i (by simpa using hi))
   have HA0 := LH st.at0
   have hone8 : Hid ((#[.slice a1 M c1, .slice a2 M c2, .slice (some ⟨g3, 0, none⟩) M M, .slice (some ⟨g4, 0, none⟩) M M, .slice (some ⟨g5, 0, none⟩) M M, .int .i64 0, .int .i64 (-1), .bool false] : Array Value).all (·.oneCell') = true) := LH (by simp [Value.oneCell'])
   have HBl := LH st.below
   have HSz := LH st.size
   clear st lHNo lHLa lHWa lHDi lHPe
   go_wp2_with (first
    | (refine wpList_load_part aggRd [Value.slice a1 M c1, .slice a2 M c2, .slice (some ⟨g3, 0, none⟩) M M, .slice (some ⟨g4, 0, none⟩) M M, .slice (some ⟨g5, 0, none⟩) M M, .int .i64 0, .int .i64 (-1), .bool false] hcs.out rfl rfl rfl rfl ?_)
    | (refine wpList_store_row aggRd (cs := #[.slice a1 M c1, .slice a2 M c2, .slice (some ⟨g3, 0, none⟩) M M, .slice (some ⟨g4, 0, none⟩) M M, .slice (some ⟨g5, 0, none⟩) M M, .int .i64 0, .int .i64 (-1), .bool false]) HA0.out rfl rfl hone8.out rfl rfl rfl rfl ?_; intro w9 h9 g9 s9; have H9 := LH h9; have G9 := LH g9; have S9 := LH s9; clear h9 g9 s9))
   have hk : ∀ {e size : Nat} {v : Value} {xs : List Value}, W6.ownsRow (w.heap.size + 2) e size v M xs → ∃ a c, v = .slice a M c ∧ Cells w9 a xs := fun {e size v xs} h => by
    obtain ⟨a, c, rfl, hcl⟩ := cells_of_owned h
    refine ⟨a, c, rfl, ?_⟩
    rcases h.2 with ⟨h0, h1⟩ | ⟨g, cap, cur, hv, hb, hg, _⟩
    ·have := h.1
     rw [h1] at this
     simp at this
     exact .inl this
    ·simp at hv
     obtain ⟨rfl, rfl⟩ := hv
     rcases hcl with h | ⟨b', off', he, h⟩
     ·exact .inl h
     ·simp at he
      obtain ⟨rfl, rfl⟩ := he
      refine .inr ⟨g, 0, rfl, fun i v hi => ?_⟩
      rw [World.cell?_of_block (w := W6) (G9.out.block g (Array.getElem?_eq_some_iff.1 hg).1 (by simp; omega))]
      exact h i v hi
   obtain ⟨_, _, q1, k1⟩ := hk HNo.out
   obtain ⟨_, _, q2, k2⟩ := hk HLa.out
   obtain ⟨_, _, q3, k3⟩ := hk HWa.out
   obtain ⟨_, _, q4, k4⟩ := hk HDi.out
   obtain ⟨_, _, q5, k5⟩ := hk HPe.out
   cases q1; cases q2; cases q3; cases q4; cases q5
   refine bodyPost_ret (v := .agg #[.slice a1 M c1, .slice a2 M c2, .slice (some ⟨g3, 0, none⟩) M M, .slice (some ⟨g4, 0, none⟩) M M, .slice (some ⟨g5, 0, none⟩) M M, .int .i64 0, .int .i64 (-1), .bool false]) (results_cell_row rfl _ _ _ _ _ _ _ rfl H9.out Tryz.underlying38 rfl (by kernel_rfl)) rfl ⟨_, rfl, ?_, ?_, ?_⟩
   rw [HRe.out.1, HRe.out.2]
   refine ⟨⟨_, _, _, _, _, _, _, _, _, _, rfl, k1, k2, ?_, ?_, ?_⟩, HL.out, HL.out, ?_, ?_, ?_, HU2.out, HU2.out, ?_⟩
   ·rw [show (freshR L M).wait = List.replicate (8 * M) 0 from rfl, List.map_replicate, Nat.mul_comm]; exact k3
   ·rw [show (freshR L M).dirty = List.replicate M false from rfl, List.map_replicate]; exact k4
   ·rw [show (freshR L M).pending = List.replicate M false from rfl, List.map_replicate]; exact k5
   ·simp [freshR]
   ·simp [freshR]
   ·simp [freshR]
   ·intro z hz; simp [freshR] at hz; omega
   ·intro cs hcs i x n' c' hi
    have l1 := owned_addr HNo.out x
    have l2 := owned_addr HLa.out x
    have l3 := owned_addr HWa.out x
    have l4 := owned_addr HDi.out x
    have l5 := owned_addr HPe.out x
    simp only [Value.agg.injEq] at hcs
    subst hcs
    rcases i with _ | _ | _ | _ | _ | _ | _ | _ | i
    ·simp at hi; have := l1 hi.1; omega
    ·simp at hi; have := l2 hi.1; omega
    ·simp at hi; have := l3 (by rw [hi.1]); omega
    ·simp at hi; have := l4 (by rw [hi.1]); omega
    ·simp at hi; have := l5 (by rw [hi.1]); omega
    all_goals simp at hi
   ·refine HBl.out.trans (⟨G9.out.os, G9.out.tape, G9.out.output, G9.out.size, fun k' hk' => G9.out.block k' (by have := HBl.out.size; omega) (by simp; omega)⟩)
section
variable {P : Program} {ops : Array Oper} {md : Region.Mode} {C : World → Prop} {Q : Exit → Act → World → Prop}
theorem wpAnyF_early {loose : Nat → Bool} {i f : Nat} {oi : Oper} {v : Value} (hi : ops[i]? = some oi) (hsel : ∀ (j : Nat) (o : Oper) cs b, ops[j]? = some o → o.op ≠ .select cs b)
  (hQ : ∀ c a d v w, Q (.panic c) (a.put d v) w → Q (.panic c) a w) :
  ∀ (fuel : Nat) (listed : Array Bool) (a : Act) (w : World),
   (∀ j oj, ops[j]? = some oj → j ≠ i → listed.getD j true = false → waitsFor md ops f j i = true ∨ loose j = true) →
   (∀ j oj, ops[j]? = some oj → j ≠ i → listed.getD j true = false → (∀ e ∈ oj.after, Region.binds md e = true → e.on ≠ i) → oi.apart ops oj = true) →
   i ∈ Region.ready md ops listed → Shut md ops listed → Stays P ops C oi v a → C w →
   wpAnyF P md ops Q C loose fuel (listed.setIfInBounds i true) (a.put oi.dst v) w → wpAnyF P md ops Q C loose (fuel + 1) listed a w := by
 intro fuel
 induction fuel with
 | zero =>
  intro listed a w _ _ hr _ hy hC H
  refine ⟨fun h => (by rw [h] at hr; cases hr), fun j hj => ?_⟩
  by_cases hji : j = i
  ·subst hji; exact hy.wpOp hi hC ⟨fun _ => hC, H⟩
  ·have := ready_mono hj hji
   rw [H.1] at this
   cases this
 | succ fuel ih =>
  intro listed a w hl hfree hr hsh hy hC H
  refine ⟨fun h => (by rw [h] at hr; cases hr), fun j hj => ?_⟩
  by_cases hji : j = i
  ·subst hji; exact hy.wpOp hi hC ⟨fun _ => hC, H⟩
  ·have h1 := H.2 j (ready_mono hj hji)
   obtain ⟨hjun, oj, hoj, hall⟩ := mem_ready.1 hj
   have hiun : listed.getD i false = false := by
    have h0 := (mem_ready.1 hr).1
    rcases Nat.lt_or_ge i listed.size with h' | h'
    ·simp [h'] at h0 ⊢; exact h0
    ·simp [Array.getElem?_eq_none h']
   have hnot : ∀ e ∈ oj.after, Region.binds md e = true → e.on ≠ i := fun e he hb heq => by
    have h1 := hall e he hb
    rw [heq, hiun] at h1
    cases h1
   have hlo : loose j = true := by
    rcases hl j oj hoj hji hjun with h | h
    ·have := waitsFor_listed hsh f j i oj hoj hall h
     rw [hiun] at this
     cases this
    ·exact h
   have h2 := wpOp_putF (C := C) hoj (hfree j oj hoj hji hjun hnot) (fun cs b => hsel i oi cs b hi) (fun cs b => hsel j oj cs b hoj) hQ hy h1
   have hun' : ∀ k, (listed.setIfInBounds j true).getD k true = false → listed.getD k true = false := fun k hun => by
    by_cases hjk : j = k
    ·subst hjk; exact hjun
    ·rw [getD_set_ne true hjk] at hun; exact hun
   refine wpOp_mono (fun a' w' h3 => ⟨h3.2.1, ih (listed.setIfInBounds j true) a' w' (fun k ok hk hki hun => hl k ok hk hki (hun' k hun)) (fun k ok hk hki hun hno => hfree k ok hk hki (hun' k hun) hno) (ready_mono hr (Ne.symm hji)) (hsh.set hj) h3.1 (h3.2.1 hlo) ?_⟩) h2
   rw [Array.setIfInBounds_comm _ _ hji]
   exact h3.2.2
def looseOf (md : Region.Mode) (ops : Array Oper) (j : Nat) : Bool :=
 (List.range ops.size).any fun i => i != j && (match ops[i]? with | some o => calm o.op | none => false) && !waitsFor md ops ops.size j i && !waitsFor md ops ops.size i j
end
theorem later_step {w v v' : World} (h : ∃ x : Later w, v = x.val) (hb : Below v.heap.size v v') : ∃ x : Later w, v' = x.val := by
 obtain ⟨x, rfl⟩ := h
 exact ⟨⟨v', x.below.trans (hb.mono x.below.size)⟩, rfl⟩
theorem later_below {w v : World} (h : ∃ x : Later w, v = x.val) : Below w.heap.size w v := by
 obtain ⟨x, rfl⟩ := h
 exact x.below
theorem later_drew (w : World) : ∃ x : Later w, w.drew = x.val := ⟨⟨w.drew, (Below.refl _ _).drew⟩, rfl⟩
structure Near (L : List Nat) (w : World) where
 val : World
 size : w.heap.size ≤ val.heap.size
 block : ∀ k, k < w.heap.size → k ∉ L → val.heap[k]? = w.heap[k]?
instance (L : List Nat) (w : World) : Nonempty (Near L w) := ⟨⟨w, Nat.le_refl _, fun _ _ _ => rfl⟩⟩
theorem near_cell {L : List Nat} {w : World} {p : Addr} {v : Value} (h : w.cell? p = some v) (hL : p.block ∉ L) (x : Near L w) : x.val.cell? p = some v := by
 have := x.block p.block (World.block_lt_of_cell? _ _ h) hL
 unfold World.cell? at *
 rw [this]; exact h
inductive Seg where
 | fl (ks : List Nat)
 | sq (ks : List Nat) (lo : Bool)
inductive SegO where
 | fl (os : List Oper)
 | sq (os : List Oper) (lo : Bool)
section
variable {P : Program} {ops : Array Oper} {md : Region.Mode} {C : World → Prop} {Q : Exit → Act → World → Prop}
def picks (l : List Oper) : List Nat → List Oper
 | [] => []
 | k :: ks => match l[k]? with
  | some o => o :: picks l ks
  | none => picks l ks
def segs (l : List Oper) : List Seg → List SegO
 | [] => []
 | .fl ks :: r => .fl (picks l ks) :: segs l r
 | .sq ks lo :: r => .sq (picks l ks) lo :: segs l r
def flFrom (md : Region.Mode) (ops : Array Oper) : List Nat → Array Bool → Bool × Array Bool
 | [], listed => (true, listed)
 | k :: ks, listed => match ops[k]? with
  | none => (false, listed)
  | some o => let r := flFrom md ops ks (listed.setIfInBounds k true)
   (calm o.op && (Region.ready md ops listed).contains k && Region.free md ops listed k && ((List.range ops.size).all fun j => j == k || listed.getD j true || waitsFor md ops ops.size j k || looseOf md ops j) && r.1, r.2)
def sqFrom (md : Region.Mode) (ops : Array Oper) (lo : Bool) : List Nat → Array Bool → Bool × Array Bool
 | [], listed => (true, listed)
 | k :: ks, listed => match ops[k]? with
  | none => (false, listed)
  | some _ => let r := sqFrom md ops lo ks (listed.setIfInBounds k true)
   (Region.ready md ops listed == [k] && (!looseOf md ops k || (lo && ks.isEmpty)) && r.1, r.2)
def segFrom (md : Region.Mode) (ops : Array Oper) : List Seg → Array Bool → Bool
 | [], listed => (Region.ready md ops listed).isEmpty
 | .fl ks :: r, listed => let x := flFrom md ops ks listed; x.1 && segFrom md ops r x.2
 | .sq ks lo :: r, listed => let x := sqFrom md ops lo ks listed; x.1 && segFrom md ops r x.2
def segLen : List Seg → Nat
 | [] => 0
 | .fl ks :: r => segLen r + ks.length
 | .sq ks _ :: r => segLen r + ks.length
def segB (md : Region.Mode) (ops : Array Oper) (is : List Seg) : Bool := Region.noSelect ops && segLen is == ops.size && segFrom md ops is (Array.replicate ops.size false)
def wpSeg (P : Program) (ops : Array Oper) (C : World → Prop) (Q : Exit → Act → World → Prop) : List SegO → Act → World → Prop
 | [], a, w => Q .normal a w
 | .fl os :: r, a, w => C w ∧ wpQuiet P ops C (fun a' => wpSeg P ops C Q r a' w) os a
 | .sq os lo :: r, a, w => wpList P ops (Exit.then (fun a' w' => (lo = true → C w') ∧ wpSeg P ops C Q r a' w') Q) os a w
theorem fl_ok (hs : Region.noSelect ops = true) (hQ : ∀ c a d v w, Q (.panic c) (a.put d v) w → Q (.panic c) a w) {m : Nat} {R : Act → Prop} {w : World} (hC : C w) : ∀ (ks : List Nat) (listed : Array Bool) (a : Act), Shut md ops listed → (flFrom md ops ks listed).1 = true →
  (∀ a', Shut md ops (flFrom md ops ks listed).2 → R a' → wpAnyF P md ops Q C (looseOf md ops) m (flFrom md ops ks listed).2 a' w) →
  wpQuiet P ops C R (picks ops.toList ks) a → wpAnyF P md ops Q C (looseOf md ops) (m + ks.length) listed a w := by
 intro ks
 induction ks with
 | nil =>
  intro listed a hsh _ hR h
  exact hR a hsh (by simpa [picks, wpQuiet] using h)
 | cons k ks ih =>
  intro listed a hsh hB hR h
  cases hk : ops[k]? with
  | none => simp [flFrom, hk] at hB
  | some o =>
   have e : picks ops.toList (k :: ks) = o :: picks ops.toList ks := by simp [picks, hk]
   rw [e] at h
   simp only [flFrom, hk, Bool.and_eq_true] at hB hR
   obtain ⟨⟨⟨⟨hc, hr⟩, hf⟩, hlo⟩, hB'⟩ := hB
   have hrk : k ∈ Region.ready md ops listed := by simpa using hr
   obtain ⟨v, hy, hK⟩ : ∃ v, Stays P ops C o v a ∧ wpQuiet P ops C R (picks ops.toList ks) (a.put o.dst v) := by
    unfold wpQuiet at h
    by_cases hw : Region.wanted o (yielded ops a.tmps) = true
    ·rw [if_pos hw] at h
     obtain ⟨v, h1, h2⟩ := h
     refine ⟨v, .inl ⟨hw, fun x hx => ?_⟩, h2⟩
     have h3 := h1 x hx
     unfold Oper.quietAt at h3
     cases hq : (execOp a.eval o).run P x with
     | ok nx w2 =>
      obtain ⟨u, rfl⟩ := calm_value hc hq
      rw [hq] at h3
      simp only [Oper.quietUpon] at h3
      rw [h3.1, h3.2]
     | halt x' w2 => rw [hq] at h3; simp only [Oper.quietUpon] at h3
    ·rw [if_neg hw] at h
     exact ⟨undef, .inr ⟨by simpa using hw, rfl⟩, h⟩
   refine wpAnyF_early (f := ops.size) hk (Region.noSelect_spec hs) hQ (m + ks.length) listed a w ?_ (Region.free_spec hk hf) hrk hsh hy hC (ih _ _ (hsh.set hrk) hB' hR hK)
   intro j oj hj hjk hun
   simp only [List.all_eq_true, List.mem_range, Bool.or_eq_true, beq_iff_eq] at hlo
   rcases hlo j (Array.getElem?_eq_some_iff.1 hj).1 with ((h | h) | h) | h
   ·exact absurd h hjk
   ·rw [hun] at h; cases h
   ·exact .inl h
   ·exact .inr h
theorem sq_ok {m : Nat} {lo : Bool} {R : Act → World → Prop} : ∀ (ks : List Nat) (listed : Array Bool) (a : Act) (w : World), Shut md ops listed → (sqFrom md ops lo ks listed).1 = true →
  (∀ a' w', Shut md ops (sqFrom md ops lo ks listed).2 → (lo = true → C w') → R a' w' → wpAnyF P md ops Q C (looseOf md ops) m (sqFrom md ops lo ks listed).2 a' w') →
  wpList P ops (Exit.then (fun a' w' => (lo = true → C w') ∧ R a' w') Q) (picks ops.toList ks) a w → wpAnyF P md ops Q C (looseOf md ops) (m + ks.length) listed a w := by
 intro ks
 induction ks with
 | nil =>
  intro listed a w hsh _ hR h
  have h : (lo = true → C w) ∧ R a w := by simpa [picks, wpList, Exit.then] using h
  exact hR a w hsh h.1 h.2
 | cons k ks ih =>
  intro listed a w hsh hB hR h
  cases hk : ops[k]? with
  | none => simp [sqFrom, hk] at hB
  | some o =>
   have e : picks ops.toList (k :: ks) = o :: picks ops.toList ks := by simp [picks, hk]
   rw [e] at h
   simp only [sqFrom, hk, Bool.and_eq_true, beq_iff_eq] at hB hR
   obtain ⟨⟨hr, hlo⟩, hB'⟩ := hB
   have hrk : k ∈ Region.ready md ops listed := by rw [hr]; simp
   refine ⟨fun h' => (by rw [hr] at h'; cases h'), fun i hi => ?_⟩
   rw [hr] at hi
   obtain rfl : i = k := by simpa using hi
   unfold wpOp
   simp only [hk]
   unfold wpList at h
   have hmono : ∀ a' w', wpList P ops (Exit.then (fun a' w' => (lo = true → C w') ∧ R a' w') Q) (picks ops.toList ks) a' w' →
     (looseOf md ops i = true → C w') ∧ wpAnyF P md ops Q C (looseOf md ops) (m + ks.length) (listed.setIfInBounds i true) a' w' := by
    intro a' w' h'
    refine ⟨fun hl => ?_, ih _ _ _ (hsh.set hrk) hB' hR h'⟩
    simp only [hl, Bool.not_true, Bool.false_or, Bool.and_eq_true, List.isEmpty_iff] at hlo
    obtain ⟨hlo1, rfl⟩ := hlo
    have h' : (lo = true → C w') ∧ R a' w' := by simpa [picks, wpList, Exit.then] using h'
    exact h'.1 hlo1
   by_cases hw : Region.wanted o (yielded ops a.tmps) = true
   ·rw [if_pos hw] at h ⊢
    rcases h with h | h
    ·refine .inl ?_
     have h := Oper.wp_mono hmono h
     unfold Oper.wp at *
     generalize (execOp a.eval o).run P w = r at *
     cases r with
     | ok n w' => cases n <;> simp only [Oper.upon] at h ⊢ <;> exact h
     | halt x w' => cases x <;> simp only [Oper.upon] at h ⊢ <;> exact h
    ·exact .inr h
   ·rw [if_neg hw] at h ⊢
    exact hmono _ _ h
theorem seg_ok (hs : Region.noSelect ops = true) (hQ : ∀ c a d v w, Q (.panic c) (a.put d v) w → Q (.panic c) a w) : ∀ (is : List Seg) (listed : Array Bool) (a : Act) (w : World), Shut md ops listed →
  segFrom md ops is listed = true → wpSeg P ops C Q (segs ops.toList is) a w → wpAnyF P md ops Q C (looseOf md ops) (segLen is) listed a w := by
 intro is
 induction is with
 | nil =>
  intro listed a w _ hB h
  exact ⟨by simpa [segFrom] using hB, by simpa [wpSeg, segs] using h⟩
 | cons s is ih =>
  intro listed a w hsh hB h
  cases s with
  | fl ks =>
   simp only [segFrom, Bool.and_eq_true] at hB
   simp only [segs, wpSeg] at h
   exact fl_ok hs hQ h.1 ks listed a hsh hB.1 (fun a' hsh' hR => ih _ a' w hsh' hB.2 hR) h.2
  | sq ks lo =>
   simp only [segFrom, Bool.and_eq_true] at hB
   simp only [segs, wpSeg] at h
   exact sq_ok ks listed a w hsh hB.1 (fun a' w' hsh' _ hR => ih _ a' w' hsh' hB.2 hR) h
theorem wp_region_seg {id : Nat} {a : Act} {w : World} {l : List Oper} (is : List Seg) (hm : P.follows .mixedOrders = true) (hB : segB .any l.toArray is = true)
  (hQ : ∀ c a d v w, Q (.panic c) (a.put d v) w → Q (.panic c) a w)
  (h : wpSeg P l.toArray C Q (segs l is) a w.drew) : (Code.region id l.toArray true).wp P Q a w := by
 simp only [segB, Bool.and_eq_true, beq_iff_eq] at hB
 refine wp_region_any hm (wpAny_of_F (C := C) (loose := looseOf .any l.toArray) _ _ _ _ ?_)
 have := seg_ok (md := .any) (C := C) hB.1.1 hQ is (Array.replicate l.toArray.size false) a w.drew (shut_none _) hB.2 h
 rw [hB.1.2] at this
 exact this
theorem wpSeg_fl {os : List Oper} {r : List SegO} {a : Act} {w : World} (hC : C w) (h : wpQuiet P ops C (fun a' => wpSeg P ops C Q r a' w) os a) : wpSeg P ops C Q (.fl os :: r) a w := ⟨hC, h⟩
theorem wpSeg_sq {os : List Oper} {lo : Bool} {r : List SegO} {a : Act} {w : World}
  (h : ∀ K : Act → World → Prop, (∀ a' w', (lo = true → C w') → wpSeg P ops C Q r a' w' → K a' w') → wpList P ops (Exit.then K Q) os a w) : wpSeg P ops C Q (.sq os lo :: r) a w :=
 h _ (fun _ _ h1 h2 => ⟨h1, h2⟩)
theorem exit_then_self (Q : Exit → Act → World → Prop) : Exit.then (Q .normal) Q = Q := by
 funext e a w
 cases e <;> rfl
theorem wpSeg_last {os : List Oper} {a : Act} {w : World} (h : wpList P ops Q os a w) : wpSeg P ops C Q [.sq os false] a w := by
 unfold wpSeg
 have e : (fun a' w' => (false = true → C w') ∧ wpSeg P ops C Q [] a' w') = Q .normal := by
  funext a' w'
  simp [wpSeg]
 rw [e, exit_then_self]
 exact h
end
end Go.Proofs.YtpohaahihdhleaaGreat
