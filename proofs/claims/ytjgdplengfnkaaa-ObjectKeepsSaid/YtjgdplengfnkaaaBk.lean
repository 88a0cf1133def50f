/- blocks: Read, Open. -/
import Derived.Test.YtjgdplengfnkaaaAg
import Derived.Test.YtjgdplengfnkaaaHdC
namespace Go.Proofs.Ytjgdplengfnkaaa
open Go.RowKit
set_option linter.unusedVariables false

/-- A block's header. -/
structure Hd where
  k : Int
  c : Int
  l : Int
deriving DecidableEq
instance : Inhabited Hd := ⟨⟨0, 0, 0⟩⟩
def Hd.cs (h : Hd) : List Value := [.int .i64 h.k, .int .i64 h.c, .int .i64 h.l]
def hdCs (l : List Hd) : List Value := l.flatMap Hd.cs
theorem hdCs_length (l : List Hd) : (hdCs l).length = 3 * l.length := by
  induction l with
  | nil => rfl
  | cons h l ih => simp only [hdCs, List.flatMap_cons, List.length_append, List.length_cons] at *; rw [ih]; simp [Hd.cs]; omega
theorem hdCs_append (l m : List Hd) : hdCs (l ++ m) = hdCs l ++ hdCs m := by simp [hdCs]
theorem hdCs_at (l : List Hd) (i : Nat) (hi : i < l.length) : ∀ j v, (l.getD i default).cs[j]? = some v → (hdCs l)[i * 3 + j]? = some v := by
  intro j v hj
  have e : l = l.take i ++ (l[i] :: l.drop (i + 1)) := by simp
  have hl : (hdCs (l.take i)).length = i * 3 := by rw [hdCs_length, List.length_take, Nat.min_eq_left (by omega)]; omega
  have hg : l.getD i default = l[i] := by simp [hi]
  rw [hg] at hj
  have hj3 : j < (l[i]).cs.length := (List.getElem?_eq_some_iff.1 hj).1
  rw [e, hdCs_append, List.getElem?_append_right (by omega), hl, show i * 3 + j - i * 3 = j by omega]
  simp only [hdCs, List.flatMap_cons]
  rw [List.getElem?_append_left hj3]
  exact hj
theorem hdCs_one (l : List Hd) : ∀ u ∈ hdCs l, u.oneCell' = true := by
  intro u hu
  simp only [hdCs, List.mem_flatMap, Hd.cs, List.mem_cons, List.not_mem_nil, or_false] at hu
  obtain ⟨h, _, rfl | rfl | rfl⟩ := hu <;> rfl

/-- The header that a word is; of block 0 none. -/
def hdF (f : Nat → Nat) (b : Nat) : Hd := if b = 0 then ⟨0, 0, 0⟩ else ⟨(decN b (f b)).k, (decN b (f b)).c, (decN b (f b)).l⟩
def hds (f : Nat → Nat) (k : Nat) : List Hd := (List.range k).map (hdF f)
theorem hds_length (f : Nat → Nat) (k : Nat) : (hds f k).length = k := by simp [hds]
theorem hds_succ (f : Nat → Nat) (k : Nat) : hds f (k + 1) = hds f k ++ [hdF f k] := by simp [hds, List.range_succ]
def AllOk (f : Nat → Nat) (k : Nat) : Prop := ∀ b, 1 ≤ b → b < k → (decN b (f b)).code = 0

/-- What reading all headers answers. -/
def ReadPost (t : Nat) (f : Nat → Nat) (B : Nat) (w : World) : Ending → World → Prop := fun en w' => Below w.heap.size w w' ∧
  ((AllOk f B ∧ ∃ g c, en = .returned (.tuple #[.slice (some ⟨g, 0, none⟩) B c, .int .i64 0, .int .i64 0]) ∧ w.heap.size ≤ g ∧ B ≤ c ∧ RowAt w' g t (hdCs (hds f B))) ∨
   (∃ b : Nat, 1 ≤ b ∧ b < B ∧ AllOk f b ∧ (decN b (f b)).code ≠ 0 ∧ en = .returned (.tuple #[.slice none 0 0, .int .i64 b, .int .i64 21])))

theorem AllOk.succ {f : Nat → Nat} {k : Nat} (h : AllOk f k) (hk : (decN k (f k)).code = 0) : AllOk f (k + 1) := by
  intro b h1 h2
  by_cases e : b = k
  · subst e; exact hk
  · exact h b h1 (by omega)

theorem elHd : Elem Try.prog 33 48 (.agg #[.int .i64 0, .int .i64 0, .int .i64 0]) 3 24 := Elem.mk' Try.underlying33 (by kernel_rfl) rfl (by decide)

theorem row_step (f : Nat → Nat) (B k : Nat) (hk : k < B) (h : Hd) (he : h = hdF f k) : splice (hdCs (hds f k) ++ List.replicate (3 * (B - k)) (.int .i64 0)) (k * 3) h.cs = hdCs (hds f (k + 1)) ++ List.replicate (3 * (B - (k + 1))) (.int .i64 0) := by
  subst he
  have hl : (hdCs (hds f k)).length = k * 3 := by rw [hdCs_length, hds_length]; omega
  rw [hds_succ, hdCs_append]
  unfold splice
  rw [List.take_left' hl, ← hl, List.drop_length_add_append]
  have : List.drop (hdF f k).cs.length (List.replicate (3 * (B - k)) (Value.int .i64 0)) = List.replicate (3 * (B - (k + 1))) (.int .i64 0) := by
    simp [Hd.cs]; omega
  rw [this]
  simp [hdCs]

theorem peek_lt {l : List Nat} (h : ∀ z ∈ l, z < 18446744073709551616) (i : Int) : peek l i < 18446744073709551616 := by
  unfold peek
  split
  · by_cases hi : i.toNat < l.length
    · simp only [List.getD_eq_getElem?_getD, List.getElem?_eq_getElem hi, Option.getD_some]
      exact h _ (List.getElem_mem hi)
    · simp only [List.getD_eq_getElem?_getD, List.getElem?_eq_none (by omega : l.length ≤ i.toNat), Option.getD_none]
      decide
  · decide

theorem cell_of_touch {L : List Nat} {w w' : World} (h : Touch L w w') {p : Addr} {v : Value} (hp : p.block ∉ L) (hc : w.cell? p = some v) : w'.cell? p = some v := by
  rw [World.cell?_of_block (w := w) (h.block p.block (World.block_lt_of_cell? _ _ hc) hp)]; exact hc
theorem below_touch {B : Nat} {L : List Nat} {w w1 w2 : World} (h : Below B w w1) (ht : Touch L w1 w2) (hL : ∀ k ∈ L, B ≤ k) (hB : B ≤ w.heap.size) : Below B w w2 :=
  h.trans (ht.below (Nat.le_trans hB h.size) hL)

def devWord (S : Dev) (b : Nat) : Nat := peek S.cache (256 + (b : Int))

set_option maxHeartbeats 2000000 in
set_option maxRecDepth 100000 in
theorem read_any {w : World} {F : Foot} {S : Dev} (h : DevAt w F S) (B : Nat) (hB1 : 1 ≤ B) (hB : B ≤ 1000) :
    Calls Try.prog 11 #[vdev F, vgeom B] w (ReadPost 48 (devWord S) B w) := by
  have HD := Lib.hid h
  have HP : Hid (ReadPost 48 (devWord S) B w = ReadPost 48 (devWord S) B w) := Lib.hid rfl
  generalize hP : ReadPost 48 (devWord S) B w = Post at HP ⊢
  have HPE := Lib.hid hP
  clear h hP HP
  go_enter Try.func11, Try.ntmps11
  have hbx : Below w.heap.size w (w.alloc (.cells #[.int .i64 (B : Int)] 25)) := below_alloc _ _
  have hcx : (w.alloc (.cells #[.int .i64 (B : Int)] 25)).cell? ⟨w.heap.size, 0, none⟩ = some (.int .i64 (B : Int)) := cell_alloc_new _ _ _ 0 _ rfl
  have hsx : (w.alloc (.cells #[.int .i64 (B : Int)] 25)).heap.size = w.heap.size + 1 := by simp
  have HSX := Lib.hid hsx
  clear hsx
  go_wp2_with (first
    | (at_make; refine wpList_make_rows elHd (w.heap.size + 1) B (z := .int .i64 0) (by intro i hi; simp at hi; rcases i with _ | _ | _ | i <;> first | rfl | omega) (by omega) (by omega) (by omega) (by decide) (by simp) rfl rfl rfl rfl ?_; intro w1 hown hgrow))
  try rw [HSX.out] at hown
  try rw [HSX.out]
  have hb1 : Below w.heap.size w w1 := hbx.trans (below_grown hgrow (by rw [HSX.out]; omega))
  have hc1 : w1.cell? ⟨w.heap.size, 0, none⟩ = some (.int .i64 (B : Int)) := by
    rw [(below_grown hgrow (Nat.le_refl _)).cell (p := ⟨w.heap.size, 0, none⟩) (by rw [HSX.out]; simp)]; exact hcx
  have hr1 : RowAt w1 (w.heap.size + 1) 48 (List.replicate (B * 3) (.int .i64 0)) := owned_row hown
  have HR1 := Lib.hid hr1
  have HB1 := Lib.hid hb1
  clear hbx hcx hown hgrow hr1 hb1 HSX
  obtain ⟨gx, hgx⟩ : ∃ gx, gx = w.heap.size := ⟨_, rfl⟩
  obtain ⟨g, hg⟩ : ∃ g, g = w.heap.size + 1 := ⟨_, rfl⟩
  have HG : Hid (gx = w.heap.size ∧ g = w.heap.size + 1) := Lib.hid ⟨hgx, hg⟩
  rw [← hg] at HR1 ⊢
  rw [← hgx] at hc1 ⊢
  have hgne : gx ≠ g := by omega
  clear hgx hg
  go_loopw [8] (fun i wr => ∃ k : Nat, 1 ≤ k ∧ k ≤ B ∧ i = .int .i64 k ∧ AllOk (devWord S) k ∧ RowAt wr g 48 (hdCs (hds (devWord S) k) ++ List.replicate (3 * (B - k)) (.int .i64 0)) ∧ wr.cell? ⟨gx, 0, none⟩ = some (.int .i64 (B : Int)) ∧ Below w.heap.size w wr) (fun i _ => B - (intOf i).toNat)
  case atStart => exact ⟨1, Nat.le_refl _, hB1, rfl, (fun b h1 h2 => by omega), by
      have e : hdCs (hds (devWord S) 1) ++ List.replicate (3 * (B - 1)) (Value.int .i64 0) = List.replicate (B * 3) (Value.int .i64 0) := by
        have : hdCs (hds (devWord S) 1) = List.replicate 3 (Value.int .i64 0) := rfl
        rw [this, List.replicate_append_replicate]
        congr 1
        omega
      rw [e]; exact HR1.out, hc1, HB1.out⟩
  case round =>
    clear hc1 HR1 HB1
    obtain ⟨k, hk1, hk2, rfl, hok, hr, hcx, hb⟩ := hrel
    have HOK := Lib.hid hok
    have HR := Lib.hid hr
    have HB := Lib.hid hb
    have HDr := Lib.hid (HD.out.below hb)
    clear hok hr hb
    by_cases hlt : k < B
    · have hlt' : (k : Int) < (B : Int) := by omega
      go_wp2_with fail
      refine (gheader_any _ _ _ (by omega)).mono ?_
      rintro e w2 ⟨rfl, hb2⟩
      have HH : Hid (hdAt (B : Int) (k : Int) = 256 + (k : Int)) := Lib.hid (by unfold hdAt; rw [if_neg (by omega)])
      rw [HH.out]
      have HD2 := Lib.hid (HDr.out.below hb2)
      have HB2 := Lib.hid hb2
      clear hb2
      go_wp2_with fail
      refine (dget_any HD2.out _).mono ?_
      rintro e w3 ⟨rfl, rfl⟩
      have hx : devWord S k < 18446744073709551616 := peek_lt HD2.out.u64C _
      have HX : Hid (peek S.cache (256 + (k : Int)) = devWord S k) := Lib.hid rfl
      rw [HX.out]
      go_wp2_with fail
      refine (bdecode_any (k : Int) (devWord S k) (by omega) (by omega) hx _).mono ?_
      rintro e w4 ⟨rfl, hb4⟩
      have HF : Hid (⟨(decN k (devWord S k)).k, (decN k (devWord S k)).c, (decN k (devWord S k)).l⟩ = hdF (devWord S) k) := Lib.hid (by unfold hdF; rw [if_neg (by omega)])
      have HC : Hid ((decN k (devWord S k)).code = 0 ∨ (decN k (devWord S k)).code ≠ 0) := Lib.hid (by omega)
      have HOK2 : Hid ((decN k (devWord S k)).code = 0 → AllOk (devWord S) (k + 1)) := Lib.hid (fun h => HOK.out.succ h)
      have HBad : Hid ((decN k (devWord S k)).code ≠ 0 → ∀ w', Below w.heap.size w w' → Post (.returned (.tuple #[.slice none 0 0, .int .i64 k, .int .i64 21])) w') := Lib.hid (fun h w' hw' => by
        rw [← HPE.out]; exact ⟨hw', .inr ⟨k, hk1, hlt, HOK.out, h, rfl⟩⟩)
      unfold Dec.val
      generalize decN k (devWord S k) = dd at *
      obtain ⟨dk, dc, dl, dcode⟩ := dd
      dsimp only at *
      have hb24 : Below wr.heap.size wr w4 := HB2.out.trans (hb4.mono HB2.out.size)
      have HB4 := Lib.hid hb24
      clear hb4 hb24 HB2 HD2
      rcases HC.out with hz | hz
      · subst hz
        have hok2 := HOK2.out rfl
        have HOK3 := Lib.hid hok2
        have hr4 : RowAt w4 g 48 _ := HR.out.keep (HB4.out.block g HR.out.lt)
        have hcx4 : w4.cell? ⟨gx, 0, none⟩ = some (.int .i64 (B : Int)) := below_cells HB4.out hcx (Nat.le_refl _)
        have hgl : g < w4.heap.size := hr4.lt
        have hgxl : gx < w4.heap.size := World.block_lt_of_cell? _ _ hcx4
        have HR4 := Lib.hid hr4
        have HCX4 := Lib.hid hcx4
        clear hok2 hr4 hcx hcx4
        have hb5 := below_alloc w4 (Obj.cells #[Value.int .i64 dk, Value.int .i64 dc, Value.int .i64 dl] 48)
        have HR5 : Hid (RowAt (w4.alloc (Obj.cells #[Value.int .i64 dk, Value.int .i64 dc, Value.int .i64 dl] 48)) g 48 (hdCs (hds (devWord S) k) ++ List.replicate (3 * (B - k)) (.int .i64 0))) := Lib.hid (HR4.out.keep (hb5.block g hgl))
        have HCX5 : Hid ((w4.alloc (Obj.cells #[Value.int .i64 dk, Value.int .i64 dc, Value.int .i64 dl] 48)).cell? ⟨gx, 0, none⟩ = some (.int .i64 (B : Int))) := Lib.hid (below_cells hb5 HCX4.out (Nat.le_refl _))
        have HB5 : Hid (Below w.heap.size w (w4.alloc (Obj.cells #[Value.int .i64 dk, Value.int .i64 dc, Value.int .i64 dl] 48))) := Lib.hid (HB.out.trans ((HB4.out.trans (hb5.mono HB4.out.size)).mono HB.out.size))
        have hlen : Hid (k * 3 + 3 ≤ (hdCs (hds (devWord S) k) ++ List.replicate (3 * (B - k)) (Value.int .i64 0)).length) := Lib.hid (by rw [List.length_append, hdCs_length, hds_length, List.length_replicate]; omega)
        have hone : Hid (∀ u ∈ (#[Value.int .i64 dk, Value.int .i64 dc, Value.int .i64 dl] : Array Value).toList, u.oneCell' = true) := Lib.hid (by intro u hu; simp at hu; rcases hu with rfl | rfl | rfl <;> rfl)
        clear hb5 HR4 HCX4 HB4
        go_wp2_with (refine wpList_store_part (off := k * 3) (cs := #[.int .i64 dk, .int .i64 dc, .int .i64 dl]) aggHd HR5.out rfl hlen.out hone.out rfl rfl rfl rfl ?_; intro w6 hr6 ht6; have HR6 := Lib.hid hr6; have HT6 := Lib.hid ht6; clear hr6 ht6)
        refine ⟨⟨k + 1, by omega, by omega, vint (by omega), HOK3.out, ?_, ?_, ?_⟩, by simp [intOf]; omega⟩
        · have := HR6.out
          rw [show #[Value.int .i64 dk, Value.int .i64 dc, Value.int .i64 dl].toList = (⟨dk, dc, dl⟩ : Hd).cs from rfl, row_step _ _ _ hlt _ HF.out] at this
          exact this
        · exact cell_of_touch HT6.out (by simp; exact hgne) HCX5.out
        · exact below_touch HB5.out HT6.out (by have := HG.out; simp; omega) (Nat.le_refl _)
      · have hz1 : (dcode != 0) = true := by simpa using hz
        have HZ := Lib.hid (HBad.out hz)
        have HBE : Hid (Below w.heap.size w w4) := Lib.hid (HB.out.trans (HB4.out.mono HB.out.size))
        clear hz HBad HC HOK2
        go_wp2_with fail
        go_ret3
        exact HZ.out _ (HBE.out.alloc (HBE.out.size) _)
    · obtain rfl : k = B := by omega
      have hlt' : decide ((k : Int) < (k : Int)) = false := by simp
      go_wp2_with fail
      go_ret3
      rw [← HPE.out]
      refine ⟨HB.out, .inl ⟨HOK.out, g, k, rfl, by have := HG.out; omega, Nat.le_refl _, ?_⟩⟩
      have := HR.out
      simpa using this

end Go.Proofs.Ytjgdplengfnkaaa
