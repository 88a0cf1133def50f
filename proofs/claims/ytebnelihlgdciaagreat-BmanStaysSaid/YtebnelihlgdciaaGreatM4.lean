/- Parts of the proof, one behind the other: Rk, Bo, Sa, Sc, Sp, Sq, Fm, Aw, Rl, Ch. -/
import Derived.Test.YtebnelihlgdciaaGreatM3
import Derived.Deep.QuietTactic
import Derived.BigQuiet
import Derived.WalkKit
import Derived.Deep.Cut

/- The reference's device, read: Get; all headers. -/
namespace Go.Proofs.YtebnelihlgdciaaGreat
open Go.RowKit
set_option linter.unusedVariables false

theorem peek_neg (l : List Nat) (i : Int) (h : i < 0) : peek l i = 0 := by unfold peek; rw [if_neg (by omega)]
theorem peek_out (l : List Nat) (j : Nat) (h : l.length ≤ j) : peek l (j : Int) = 0 := by
  unfold peek; rw [if_pos (by omega)]; simp [List.getElem?_eq_none h]
theorem peek_in (l : List Nat) (j : Nat) : peek l (j : Int) = l.getD j 0 := by unfold peek; rw [if_pos (by omega)]; rfl

set_option maxHeartbeats 400000 in
theorem rget_any (a : Option Addr) (n cap : Nat) (ls : List Nat) (w : World) (hc : Cells w a (ls.map vu64)) (hl : ls.length = 8 * n) (hn : n ≤ 1000000) (i : Int) :
    Calls Tryz.prog 70 #[.slice a n cap, .int .i64 i] w fun e w' => e = .returned (vu64 (peek ls i)) ∧ w = w' := by
  by_cases h0 : i < 0
  · have HV := Lib.hid (peek_neg ls i h0)
    clear hl hc
    go_enter Tryz.func70, Tryz.ntmps70
    go_wp2_with fail
    go_ret
    exact ⟨ret_int (by rw [HV.out]; rfl), rfl⟩
  obtain ⟨j, rfl⟩ := Int.eq_ofNat_of_zero_le (show 0 ≤ i by omega)
  by_cases h1 : j < 8 * n
  · obtain ⟨b, off, rfl, hb, hcs⟩ := hc.atMap 0 (show j < ls.length by omega)
    have hcell : w.cell? ⟨b, off + j / 8 * 8 + j % 8, none⟩ = some (vu64 (ls.getD j 0)) := by
      rw [show off + j / 8 * 8 + j % 8 = off + j by omega]; exact hcs j (by omega)
    have HV := Lib.hid (peek_in ls j)
    generalize ls.getD j 0 = x at *
    have hj8 : j / 8 < n := by omega
    have hj1 : (j : Int) < 8 * (n : Int) := by omega
    clear hl hc hcs h1
    go_enter Tryz.func70, Tryz.ntmps70
    go_wp2_with fail
    go_ret
    exact ⟨ret_int (by rw [HV.out]), rfl⟩
  · have HV := Lib.hid (peek_out ls j (by omega))
    have h2 : 8 * (n : Int) ≤ (j : Int) := by omega
    clear hl hc
    go_enter Tryz.func70, Tryz.ntmps70
    go_wp2_with fail
    go_ret
    exact ⟨ret_int (by rw [HV.out]; rfl), rfl⟩

theorem elRh : Elem Tryz.prog 33 113 (.agg #[.int .i64 0, .int .i64 0, .int .i64 0]) 3 24 := Elem.mk' Tryz.underlying33 (by kernel_rfl) rfl (by decide)

theorem grown_cell {w w' : World} {v : Value} {base e size n : Nat} {xs : List Value} (hg : w.grownBy w' v.ownBlock) (ho : w.ownsRow base e size v n xs) {p : Addr} {x : Value} (hb : p.block < base) (h : w.cell? p = some x) : w'.cell? p = some x := by
  have hlt := World.block_lt_of_cell? _ _ h
  rw [World.cell?_of_block (w := w) (hg.block p.block hlt (fun c => by have := (ho.lt p.block c.symm).1; omega))]; exact h

set_option maxHeartbeats 2000000 in
set_option maxRecDepth 100000 in
theorem rread_any (a : Option Addr) (n cap : Nat) (ls : List Nat) (v1 v2 v3 v4 v5 v6 v7 : Value) (w : World) (hc : Cells w a (ls.map vu64)) (hl : ls.length = 8 * n) (hn : n ≤ 100000) (hu : ∀ z ∈ ls, z < 18446744073709551616) (B : Nat) (hB1 : 1 ≤ B) (hB : B ≤ 1000) :
    Calls Tryz.prog 37 #[.agg #[.slice a n cap, v1, v2, v3, v4, v5, v6, v7], .int .i64 (B : Int)] w (ReadPost 113 (fun b : Nat => peek ls (256 + (b : Int))) B w) := by
  obtain ⟨f, hf⟩ : ∃ f : Nat → Nat, f = fun b : Nat => peek ls (256 + (b : Int)) := ⟨_, rfl⟩
  rw [← hf]
  have HF0 := Lib.hid hf
  generalize hP : ReadPost 113 f B w = Post
  have HPE := Lib.hid hP
  have HC := Lib.hid hc
  have HL := Lib.hid hl
  have HU := Lib.hid hu
  clear hf hP hc hl hu
  obtain ⟨w0, hw0⟩ : ∃ w0, w0 = (w.alloc (.cells #[.slice a n cap, v1, v2, v3, v4, v5, v6, v7] 32)).alloc (.cells #[.int .i64 0, .int .i64 0, .int .i64 0] 113) := ⟨_, rfl⟩
  have hb0 : Below w.heap.size w w0 := by rw [hw0]; exact (below_alloc _ _).alloc (by simp) _
  have hc0 : w0.cell? ⟨w.heap.size, 0, none⟩ = some (.slice a n cap) := by
    rw [hw0]
    exact below_cells (below_alloc _ _) (cell_alloc_new _ _ _ 0 _ rfl) (Nat.le_refl _)
  have ho0 : w0.ownsRow (w.heap.size + 1) 113 3 (.slice (some ⟨w.heap.size + 1, 0, none⟩) 1 1) 1 (hdCs (hds f 1)) := by
    refine ⟨rfl, .inr ⟨w.heap.size + 1, 1, #[.int .i64 0, .int .i64 0, .int .i64 0], rfl, Nat.le_refl _, ?_, Nat.le_refl _, by unfold maxLen; omega, rfl, rfl⟩⟩
    rw [hw0]
    have := heap_alloc_new (w.alloc (.cells #[.slice a n cap, v1, v2, v3, v4, v5, v6, v7] 32)) (.cells #[.int .i64 0, .int .i64 0, .int .i64 0] 113)
    simpa using this
  have HW0 := Lib.hid hw0
  have HB0 := Lib.hid hb0
  have HC0 := Lib.hid hc0
  have HO0 := Lib.hid ho0
  clear hw0 hb0 hc0 ho0
  go_enter Tryz.func37, Tryz.ntmps37
  go_wp2_with fail
  rw [← HW0.out]
  go_loopw [7, 8] (fun v i wr => ∃ k : Nat, 1 ≤ k ∧ k ≤ B ∧ i = .int .i64 k ∧ AllOk f k ∧ (∃ g c, v = .slice (some ⟨g, 0, none⟩) k c ∧ k ≤ c ∧ w.heap.size ≤ g) ∧ wr.ownsRow (w.heap.size + 1) 113 3 v k (hdCs (hds f k)) ∧ wr.cell? ⟨w.heap.size, 0, none⟩ = some (.slice a n cap) ∧ Below w.heap.size w wr) (fun _ i _ => B - (intOf i).toNat)
  case atStart => exact ⟨1, Nat.le_refl _, hB1, rfl, (fun b h1 h2 => by omega), ⟨_, _, rfl, Nat.le_refl _, by omega⟩, HO0.out, HC0.out, HB0.out⟩
  case round =>
    obtain ⟨k, hk1, hk2, rfl, hok, ⟨g, c, rfl, hkc, hgw⟩, ho, hcx, hb⟩ := hrel
    have HOK := Lib.hid hok
    have HO := Lib.hid ho
    have HB := Lib.hid hb
    have HCr := Lib.hid (HC.out.below hb (Nat.le_refl _))
    clear hok ho hb
    by_cases hlt : k < B
    · have hlt' : (k : Int) < (B : Int) := by omega
      go_wp2_with fail
      refine (rget_any a n cap ls _ HCr.out HL.out (by omega) _).mono ?_
      rintro e w3 ⟨rfl, rfl⟩
      have HX : Hid (peek ls (256 + (k : Int)) = f k) := Lib.hid (by rw [HF0.out])
      have hx : f k < 18446744073709551616 := by rw [← HX.out]; exact peek_lt HU.out _
      rw [HX.out]
      go_wp2_with fail
      refine (rdecode_any (k : Int) (f k) (by omega) (by omega) hx _).mono ?_
      rintro e w4 ⟨rfl, hb4⟩
      have HF : Hid (⟨(decN k (f k)).k, (decN k (f k)).c, (decN k (f k)).l⟩ = hdF f k) := Lib.hid (by unfold hdF; rw [if_neg (by omega)])
      have HCc : Hid ((decN k (f k)).code = 0 ∨ (decN k (f k)).code ≠ 0) := Lib.hid (by omega)
      have HOK2 : Hid ((decN k (f k)).code = 0 → AllOk f (k + 1)) := Lib.hid (fun h => HOK.out.succ h)
      have HBad : Hid ((decN k (f k)).code ≠ 0 → ∀ w', Below w.heap.size w w' → Post (.returned (.tuple #[.slice none 0 0, .int .i64 k, .int .i64 21])) w') := Lib.hid (fun h w' hw' => by
        rw [← HPE.out]; exact ⟨hw', .inr ⟨k, hk1, hlt, HOK.out, h, rfl⟩⟩)
      unfold Dec.val
      generalize decN k (f k) = dd at *
      obtain ⟨dk, dc, dl, dcode⟩ := dd
      dsimp only at *
      have HB4 := Lib.hid hb4
      clear hb4
      rcases HCc.out with hz | hz
      · subst hz
        have HOK3 := Lib.hid (HOK2.out rfl)
        have HBE : Hid (Below w.heap.size w w4) := Lib.hid (HB.out.trans (HB4.out.mono HB.out.size))
        have hb5 := below_alloc w4 (Obj.cells #[Value.int .i64 dk, Value.int .i64 dc, Value.int .i64 dl] 113)
        have HO5 : Hid ((w4.alloc (Obj.cells #[Value.int .i64 dk, Value.int .i64 dc, Value.int .i64 dl] 113)).ownsRow (w.heap.size + 1) 113 3 (.slice (some ⟨g, 0, none⟩) k c) k (hdCs (hds f k))) := Lib.hid ((owned_below HO.out HB4.out (Nat.le_refl _)).alloc _)
        have HCX5 : Hid ((w4.alloc (Obj.cells #[Value.int .i64 dk, Value.int .i64 dc, Value.int .i64 dl] 113)).cell? ⟨w.heap.size, 0, none⟩ = some (.slice a n cap)) := Lib.hid (below_cells hb5 (below_cells HB4.out hcx (Nat.le_refl _)) (Nat.le_refl _))
        have HB5 : Hid (Below w.heap.size w (w4.alloc (Obj.cells #[Value.int .i64 dk, Value.int .i64 dc, Value.int .i64 dl] 113))) := Lib.hid (HBE.out.alloc HBE.out.size _)
        have hone : Hid (∀ u ∈ (#[Value.int .i64 dk, Value.int .i64 dc, Value.int .i64 dl] : Array Value).toList, u.oneCell' = true) := Lib.hid (by intro u hu; simp at hu; rcases hu with rfl | rfl | rfl <;> rfl)
        have hbase : Hid (w.heap.size + 1 ≤ (w4.alloc (Obj.cells #[Value.int .i64 dk, Value.int .i64 dc, Value.int .i64 dl] 113)).heap.size) := Lib.hid (by have := HBE.out.size; simp; omega)
        have hk9 : k < 1000000000000 := by omega
        clear hb5 hcx
        go_wp2_with (at_builtin; refine wpList_append_new (us := #[.int .i64 dk, .int .i64 dc, .int .i64 dl]) elRh HO5.out rfl hone.out hk9 (by decide) hbase.out rfl rfl rfl (by simp [Act.eval]) ?_; intro g6 c6 w6 ho6 hg6 hc6 hm6 hb6 hl6; have HO6 := Lib.hid ho6; have HG6 := Lib.hid hg6; clear ho6 hg6)
        refine ⟨⟨k + 1, by omega, by omega, vint (by omega), HOK3.out, ⟨g6, c6, rfl, hc6, by omega⟩, ?_, ?_, ?_⟩, by simp [intOf]; omega⟩
        · rw [hds_succ, hdCs_append, ← HF.out]
          exact HO6.out
        · exact grown_cell HG6.out HO5.out (by simp) HCX5.out
        · exact below_grownBy HB5.out HO5.out HG6.out (Nat.le_refl _) (by omega)
      · have hz1 : (dcode != 0) = true := by simpa using hz
        have HZ := Lib.hid (HBad.out hz)
        have HBE : Hid (Below w.heap.size w w4) := Lib.hid (HB.out.trans (HB4.out.mono HB.out.size))
        clear hz HBad HCc HOK2
        go_wp2_with fail
        go_ret3
        exact HZ.out _ (HBE.out.alloc (HBE.out.size) _)
    · obtain rfl : k = B := by omega
      have hlt' : decide ((k : Int) < (k : Int)) = false := by simp
      go_wp2_with fail
      go_ret3
      rw [← HPE.out]
      exact ⟨HB.out, .inl ⟨HOK.out, g, c, rfl, hgw, hkc, owned_row HO.out⟩⟩

end Go.Proofs.YtebnelihlgdciaaGreat

/- blocks: Open, Get, Count; law07: Ref, Refs. -/
namespace Go.Proofs.YtebnelihlgdciaaGreat
open Go.RowKit
set_option linter.unusedVariables false

/-- A table of headers in memory. -/
structure TabAt (w : World) (p : Nat) (F : Foot) (B : Nat) (l : List Hd) : Prop where
  ex : ∃ g c, w.heap[p]? = some (.cells #[vdev F, .int .i64 (B : Int), .slice (some ⟨g, 0, none⟩) l.length c] 68 (0, 0)) ∧ l.length ≤ c ∧ RowAt w g 58 (hdCs l) ∧ p ≠ g

theorem TabAt.below {w w' : World} {p B : Nat} {F : Foot} {l : List Hd} (h : TabAt w p F B l) (hb : Below w.heap.size w w') : TabAt w' p F B l := by
  obtain ⟨g, c, hp, hc, hr, hne⟩ := h.ex
  exact ⟨g, c, (hb.block p (Array.getElem?_eq_some_iff.1 hp).1).trans hp, hc, hr.keep (hb.block g hr.lt), hne⟩
theorem TabAt.lt {w : World} {p B : Nat} {F : Foot} {l : List Hd} (h : TabAt w p F B l) : p < w.heap.size := by
  obtain ⟨g, c, hp, _⟩ := h.ex
  exact (Array.getElem?_eq_some_iff.1 hp).1

/-- What opening answers. -/
def OpenPost (f : Nat → Nat) (F : Foot) (B : Nat) (w : World) : Ending → World → Prop := fun en w' => Below w.heap.size w w' ∧
  ((AllOk f B ∧ ∃ p, en = .returned (.tuple #[.pointer (some ⟨p, 0, none⟩), .int .i64 0]) ∧ w.heap.size ≤ p ∧ TabAt w' p F B (hds f B)) ∨
   (∃ b : Nat, 1 ≤ b ∧ b < B ∧ AllOk f b ∧ (decN b (f b)).code ≠ 0 ∧ en = .returned (.tuple #[.pointer none, .int .i64 21])))

set_option maxHeartbeats 1000000 in
set_option maxRecDepth 100000 in
theorem open_tab {w : World} {F : Foot} {S : Dev} (h : DevAt w F S) (B : Nat) (hB1 : 1 ≤ B) (hB : B ≤ 1000) :
    Calls Tryz.prog 65 #[vdev F, vgeom B] w (OpenPost (devWord S) F B w) := by
  have hbx := below_alloc w (.cells #[.int .i64 (B : Int)] 43)
  have HD := Lib.hid (h.below hbx)
  have HB := Lib.hid hbx
  have hcx : (w.alloc (.cells #[.int .i64 (B : Int)] 43)).cell? ⟨w.heap.size, 0, none⟩ = some (.int .i64 (B : Int)) := cell_alloc_new _ _ _ 0 _ rfl
  generalize hP : OpenPost (devWord S) F B w = Post
  have HPE := Lib.hid hP
  clear h hP hbx
  go_enter Tryz.func65, Tryz.ntmps65
  go_wp2_with fail
  refine (read_any HD.out B hB1 hB).mono ?_
  rintro e w1 ⟨hb1, ⟨hok, g, c, rfl, hg, hgc, hr⟩ | ⟨b, hb0, hbB, hok, hbad, rfl⟩⟩
  · have hcx1 : w1.cell? ⟨w.heap.size, 0, none⟩ = some (.int .i64 (B : Int)) := below_cells hb1 hcx (Nat.le_refl _)
    have HB1 := Lib.hid (HB.out.trans (hb1.mono HB.out.size))
    have HOK := Lib.hid hok
    have HR := Lib.hid hr
    have hgl := hr.lt
    clear hcx hok hr hb1 HD
    go_wp2_with fail
    rw [← HPE.out]
    refine ⟨HB1.out.alloc HB1.out.size _, .inl ⟨HOK.out, w1.heap.size, rfl, HB1.out.size, ⟨g, c, ?_, by rw [hds_length]; exact hgc, HR.out.keep (Below.heap_alloc _ _ _ hgl), by omega⟩⟩⟩
    rw [heap_alloc_new, hds_length]
  · have HB1 := Lib.hid (HB.out.trans (hb1.mono HB.out.size))
    have HOK := Lib.hid hok
    have HBad := Lib.hid hbad
    clear hok hbad hb1 HD
    go_wp2_with fail
    rw [← HPE.out]
    exact ⟨HB1.out, .inr ⟨b, hb0, hbB, HOK.out, HBad.out, rfl⟩⟩

def Hd.val (h : Hd) : Value := .agg #[.int .i64 h.k, .int .i64 h.c, .int .i64 h.l]
/-- A header, where there is one. -/
def hdGet (l : List Hd) (b : Int) : Hd := if b < 1 ∨ (l.length : Int) ≤ b then ⟨0, 0, 0⟩ else l.getD b.toNat default

set_option maxHeartbeats 1000000 in
theorem tget_any {w : World} {p B : Nat} {F : Foot} {l : List Hd} (h : TabAt w p F B l) (b : Int) (hl : l.length ≤ 1000) :
    Calls Tryz.prog 56 #[.pointer (some ⟨p, 0, none⟩), .int .i64 b] w fun e w' => e = .returned (hdGet l b).val ∧ Below w.heap.size w w' := by
  obtain ⟨g, c, hp, hc, hr, hne⟩ := h.ex
  have c2 : w.cell? ⟨p, 2, none⟩ = some (.slice (some ⟨g, 0, none⟩) l.length c) := cell_of_row _ _ 2 _ _ _ hp
  have hpl : p < w.heap.size := (Array.getElem?_eq_some_iff.1 hp).1
  have hgl := hr.lt
  by_cases h1 : b < 1
  · have HE : Hid (hdGet l b = ⟨0, 0, 0⟩) := Lib.hid (by unfold hdGet; rw [if_pos (.inl h1)])
    clear hp hr h
    go_enter Tryz.func56, Tryz.ntmps56
    go_wp2_with fail
    exact bodyPost_ret (v := .agg #[.int .i64 0, .int .i64 0, .int .i64 0]) (by simp [results, Tryz.results56, go_sem]) rfl ⟨by rw [HE.out]; rfl, below_alloc _ _⟩
  by_cases h2 : (l.length : Int) ≤ b
  · have HE : Hid (hdGet l b = ⟨0, 0, 0⟩) := Lib.hid (by unfold hdGet; rw [if_pos (.inr h2)])
    clear hp hr h
    go_enter Tryz.func56, Tryz.ntmps56
    go_wp2_with fail
    exact bodyPost_ret (v := .agg #[.int .i64 0, .int .i64 0, .int .i64 0]) (by simp [results, Tryz.results56, go_sem]) rfl ⟨by rw [HE.out]; rfl, below_alloc _ _⟩
  obtain ⟨j, rfl⟩ := Int.eq_ofNat_of_zero_le (show 0 ≤ b by omega)
  have hj : j < l.length := by omega
  have HE : Hid (hdGet l (j : Int) = l.getD j default) := Lib.hid (by unfold hdGet; rw [if_neg (by omega)]; rfl)
  have HA := hdCs_at l j hj
  generalize l.getD j default = hd at *
  obtain ⟨hk, hcl, hln⟩ := hd
  have d0 : w.cell? ⟨g, j * 3, none⟩ = some (.int .i64 hk) := hr.cell (HA 0 _ rfl)
  have d1 : w.cell? ⟨g, j * 3 + 1, none⟩ = some (.int .i64 hcl) := hr.cell (HA 1 _ rfl)
  have d2 : w.cell? ⟨g, j * 3 + 2, none⟩ = some (.int .i64 hln) := hr.cell (HA 2 _ rfl)
  clear hp hr h HA
  go_enter Tryz.func56, Tryz.ntmps56
  go_wp2_with fail
  exact bodyPost_ret (v := .agg #[.int .i64 hk, .int .i64 hcl, .int .i64 hln]) (by simp [results, Tryz.results56, go_sem]) rfl ⟨by rw [HE.out]; rfl, below_alloc _ _⟩

def cntKind (l : List Hd) (kind : Int) : Nat → Nat
  | 0 => 0
  | b + 1 => cntKind l kind b + (if 1 ≤ b ∧ (l.getD b default).k = kind then 1 else 0)
theorem cntKind_le (l : List Hd) (kind : Int) (b : Nat) : cntKind l kind b ≤ b := by
  induction b with
  | zero => exact Nat.le_refl _
  | succ b ih => unfold cntKind; split <;> omega


end Go.Proofs.YtebnelihlgdciaaGreat

/- law07: Ref, Refs; ref10: Same. -/
namespace Go.Proofs.YtebnelihlgdciaaGreat
open Go.RowKit
set_option linter.unusedVariables false

set_option maxHeartbeats 400000 in
theorem ref_any (h : Hd) (w : World) : Calls Tryz.prog 74 #[h.val] w fun e w' => e = .returned h.val ∧ Below w.heap.size w w' := by
  obtain ⟨k, c, l⟩ := h
  unfold Hd.val
  dsimp only
  have hb : Below w.heap.size w ((w.alloc (.cells #[.int .i64 k, .int .i64 c, .int .i64 l] 58)).alloc (.cells #[.int .i64 k, .int .i64 c, .int .i64 l] 113)) := (below_alloc _ _).alloc (by simp) _
  have HB := Lib.hid hb
  clear hb
  go_enter Tryz.func74, Tryz.ntmps74
  go_wp2_with fail
  exact bodyPost_ret (v := .agg #[.int .i64 k, .int .i64 c, .int .i64 l]) (by simp [results, Tryz.results74, go_sem]) rfl ⟨rfl, HB.out⟩

theorem hdGetD (l : List Hd) (j : Nat) : ∃ k c n, l.getD j default = ⟨k, c, n⟩ := ⟨_, _, _, rfl⟩

set_option maxHeartbeats 1000000 in
set_option maxRecDepth 20000 in
theorem refs_any (a : Option Addr) (n cap : Nat) (l : List Hd) (hn : l.length = n) (w : World) (hc : Cells w a (hdCs l)) (hl : n ≤ 1000) :
    Calls Tryz.prog 46 #[.slice a n cap] w fun e w' => ∃ v, e = .returned v ∧ w'.ownsRow w.heap.size 113 3 v n (hdCs l) ∧ Below w.heap.size w w' := by
  have HN := Lib.hid hn
  have HC := Lib.hid hc
  clear hn hc
  go_enter Tryz.func46, Tryz.ntmps46
  go_wp2_with fail
  go_loopw [3, 4] (fun v i wr => ∃ k : Nat, k ≤ n ∧ i = .int .i64 k ∧ wr.ownsRow w.heap.size 113 3 v k (hdCs (l.take k)) ∧ Below w.heap.size w wr) (fun _ i _ => n - (intOf i).toNat)
  case atStart => exact ⟨0, Nat.zero_le _, rfl, ⟨rfl, .inl ⟨rfl, rfl⟩⟩, Below.refl _ _⟩
  case round =>
    obtain ⟨k, hk, rfl, ho, hb⟩ := hrel
    obtain ⟨a1, c1, rfl, hc1, hm1⟩ := owned_form ho
    have HO := Lib.hid ho
    have HB := Lib.hid hb
    clear ho hb
    by_cases hlt : k < n
    · have hlt' : (k : Int) < (n : Int) := by omega
      have hkl : k < l.length := by rw [HN.out]; exact hlt
      have HA := hdCs_at l k hkl
      have HS : Hid (hdCs (l.take (k + 1)) = hdCs (l.take k) ++ (l.getD k default).cs) := Lib.hid (by
        rw [List.take_succ_eq_append_getElem hkl, hdCs_append]; simp [hdCs, hkl])
      generalize l.getD k default = hd at *
      obtain ⟨hk', hcl, hln⟩ := hd
      obtain ⟨b, off, rfl, hcs⟩ : ∃ b off, a = some ⟨b, off, none⟩ ∧ ∀ i v, (hdCs l)[i]? = some v → wr.cell? ⟨b, off + i, none⟩ = some v := by
        rcases HC.out.below HB.out (Nat.le_refl _) with h | ⟨b, off, rfl, h⟩
        · have := congrArg List.length h
          rw [hdCs_length] at this
          simp only [List.length_nil] at this
          omega
        · exact ⟨b, off, rfl, h⟩
      have d0 : wr.cell? ⟨b, off + k * 3, none⟩ = some (.int .i64 hk') := hcs _ _ (HA 0 _ rfl)
      have d1 : wr.cell? ⟨b, off + k * 3 + 1, none⟩ = some (.int .i64 hcl) := hcs _ _ (HA 1 _ rfl)
      have d2 : wr.cell? ⟨b, off + k * 3 + 2, none⟩ = some (.int .i64 hln) := hcs _ _ (HA 2 _ rfl)
      clear HA hcs
      go_wp2_with fail
      refine (ref_any ⟨hk', hcl, hln⟩ _).mono ?_
      rintro e w1 ⟨rfl, hb1⟩
      unfold Hd.val
      dsimp only
      have HB1 := Lib.hid (HB.out.trans (hb1.mono HB.out.size))
      have HO1 := Lib.hid (owned_below HO.out hb1 (Nat.le_refl _))
      have hone : Hid (∀ u ∈ (#[Value.int .i64 hk', Value.int .i64 hcl, Value.int .i64 hln] : Array Value).toList, u.oneCell' = true) := Lib.hid (by intro u hu; simp at hu; rcases hu with rfl | rfl | rfl <;> rfl)
      have hbase : Hid (w.heap.size ≤ w1.heap.size) := Lib.hid HB1.out.size
      have hk9 : k < 1000000000000 := by omega
      clear hb1 d0 d1 d2
      go_wp2_with (at_builtin; refine wpList_append_new (us := #[.int .i64 hk', .int .i64 hcl, .int .i64 hln]) elRh HO1.out rfl hone.out hk9 (by decide) hbase.out rfl rfl rfl (by simp [Act.eval]) ?_; intro g6 c6 w6 ho6 hg6 hc6 hm6 hb6 hl6; have HO6 := Lib.hid ho6; have HG6 := Lib.hid hg6; clear ho6 hg6)
      refine ⟨⟨k + 1, by omega, vint (by omega), ?_, below_grownBy HB1.out HO1.out HG6.out (Nat.le_refl _) (Nat.le_refl _)⟩, by simp [intOf]; omega⟩
      rw [HS.out]
      exact HO6.out
    · obtain rfl : k = n := by omega
      have hlt' : decide ((k : Int) < (k : Int)) = false := by simp
      go_wp2_with fail
      go_ret
      refine ⟨_, rfl, ?_, HB.out⟩
      have := HO.out
      rwa [List.take_of_length_le (by rw [HN.out]; exact Nat.le_refl _)] at this

theorem fsRh : (Tryz.prog.fieldsOf 113) = #[{ name := "Kind", type := 3, offset := 0, embedded := false, tag := "", pkgPath := "", byteOffset := 0 },
        { name := "Class", type := 3, offset := 1, embedded := false, tag := "", pkgPath := "", byteOffset := 8 },
        { name := "Len", type := 3, offset := 2, embedded := false, tag := "", pkgPath := "", byteOffset := 16 }] := by kernel_rfl
theorem usRh : Tryz.prog.underlying 113 = some (.struct (Tryz.prog.fieldsOf 113)) := by kernel_rfl
theorem ssRh : Tryz.prog.stoodInHeld 113 = false := by kernel_rfl
theorem gsRh : Tryz.prog.eqGuardType Tryz.prog.depth 113 = false := by kernel_rfl
theorem equalRh (w : World) (a b c a' b' c' : Int) (r : Bool) (hr : r = ((a == a') && (b == b') && (c == c'))) : (Op.equalIn 10000 113 (.agg #[.int .i64 a, .int .i64 b, .int .i64 c]) (.agg #[.int .i64 a', .int .i64 b', .int .i64 c'])).run Tryz.prog w = .ok r w := by
  rw [hr, show (10000 : Nat) = 9999 + 1 from rfl, run_equalIn_agg w 9999 113 _ _ usRh ssRh, fsRh]
  by_cases h1 : a = a' <;> by_cases h2 : b = b' <;> by_cases h3 : c = c' <;> simp [Op.eqFields, go_sem, h1, h2, h3, Tryz.underlying3, part]

theorem fsBh : (Tryz.prog.fieldsOf 58) = #[{ name := "Kind", type := 3, offset := 0, embedded := false, tag := "", pkgPath := "", byteOffset := 0 },
        { name := "Class", type := 3, offset := 1, embedded := false, tag := "", pkgPath := "", byteOffset := 8 },
        { name := "Len", type := 3, offset := 2, embedded := false, tag := "", pkgPath := "", byteOffset := 16 }] := by kernel_rfl
theorem usBh : Tryz.prog.underlying 58 = some (.struct (Tryz.prog.fieldsOf 58)) := by kernel_rfl
theorem ssBh : Tryz.prog.stoodInHeld 58 = false := by kernel_rfl
theorem gsBh : Tryz.prog.eqGuardType Tryz.prog.depth 58 = false := by kernel_rfl
theorem equalBh (w : World) (a b c a' b' c' : Int) (r : Bool) (hr : r = ((a == a') && (b == b') && (c == c'))) : (Op.equalIn 10000 58 (.agg #[.int .i64 a, .int .i64 b, .int .i64 c]) (.agg #[.int .i64 a', .int .i64 b', .int .i64 c'])).run Tryz.prog w = .ok r w := by
  rw [hr, show (10000 : Nat) = 9999 + 1 from rfl, run_equalIn_agg w 9999 58 _ _ usBh ssBh, fsBh]
  by_cases h1 : a = a' <;> by_cases h2 : b = b' <;> by_cases h3 : c = c' <;> simp [Op.eqFields, go_sem, h1, h2, h3, Tryz.underlying3, part]
theorem hd_beq (k c n k' c' n' : Int) : decide ((⟨k, c, n⟩ : Hd) = ⟨k', c', n'⟩) = ((k == k') && (c == c') && (n == n')) := by
  rw [Bool.eq_iff_iff]; simp [Hd.mk.injEq, and_assoc]

theorem hd_cells {w : World} {a : Option Addr} {l : List Hd} (h : Cells w a (hdCs l)) {j : Nat} (hj : j < l.length) {k c n : Int} (he : l.getD j default = ⟨k, c, n⟩) :
    ∃ b off, a = some ⟨b, off, none⟩ ∧ w.cell? ⟨b, off + j * 3, none⟩ = some (.int .i64 k) ∧ w.cell? ⟨b, off + j * 3 + 1, none⟩ = some (.int .i64 c) ∧ w.cell? ⟨b, off + j * 3 + 2, none⟩ = some (.int .i64 n) := by
  have HA := hdCs_at l j hj
  rw [he] at HA
  rcases h with h | ⟨b, off, rfl, h⟩
  · have := congrArg List.length h
    rw [hdCs_length] at this
    simp only [List.length_nil] at this
    omega
  · exact ⟨b, off, rfl, h _ _ (HA 0 _ rfl), h _ _ (HA 1 _ rfl), h _ _ (HA 2 _ rfl)⟩

theorem take_eq_succ {l m : List Hd} {k : Nat} (h1 : k < l.length) (h2 : k < m.length) (h : l.take k = m.take k) (he : l.getD k default = m.getD k default) : l.take (k + 1) = m.take (k + 1) := by
  rw [List.take_succ_eq_append_getElem h1, List.take_succ_eq_append_getElem h2, h]
  simp [h1, h2] at he
  rw [he]

def sameHd (l m : List Hd) : Bool := decide (l = m)

set_option maxHeartbeats 1000000 in
set_option maxRecDepth 20000 in
theorem rsame_any (a b : Option Addr) (n m cap cap2 : Nat) (l r : List Hd) (hn : l.length = n) (hm : r.length = m) (w : World) (hc : Cells w a (hdCs l)) (hc2 : Cells w b (hdCs r)) (hl : n ≤ 1000) (hl2 : m ≤ 1000) :
    Calls Tryz.prog 45 #[.slice a n cap, .slice b m cap2] w fun e w' => e = .returned (.bool (sameHd l r)) ∧ ∃ q, w' = w.drewN q := by
  have HN := Lib.hid hn
  have HM := Lib.hid hm
  have HC := Lib.hid hc
  have HC2 := Lib.hid hc2
  by_cases hnm : n = m
  · subst hnm
    have hne : (n != n) = false := by simp
    have hne2 : ((n : Int) != (n : Int)) = false := by simp
    clear hn hm hc hc2
    go_enter Tryz.func45, Tryz.ntmps45
    go_wp2_with fail
    go_loopw [5] (fun i wr => ∃ k : Nat, k ≤ n ∧ i = .int .i64 k ∧ l.take k = r.take k ∧ ∃ q, wr = w.drewN q) (fun i _ => n - (intOf i).toNat)
    case atStart => exact ⟨0, Nat.zero_le _, rfl, by simp, 0, rfl⟩
    case round =>
      obtain ⟨k, hk, rfl, heq, q, rfl⟩ := hrel
      have HE := Lib.hid heq
      clear heq
      by_cases hlt : k < n
      · have hlt' : (k : Int) < (n : Int) := by omega
        have hkl : k < l.length := by rw [HN.out]; exact hlt
        have hkr : k < r.length := by rw [HM.out]; exact hlt
        obtain ⟨k1, c1, l1, e1⟩ := hdGetD l k
        obtain ⟨k2, c2, l2, e2⟩ := hdGetD r k
        obtain ⟨b1, o1, rfl, d0, d1, d2⟩ := hd_cells HC.out hkl e1
        obtain ⟨b2, o2, rfl, d3, d4, d5⟩ := hd_cells HC2.out hkr e2
        have E1 := Lib.hid e1
        have E2 := Lib.hid e2
        clear e1 e2 hkl hkr
        by_cases hq : (⟨k1, c1, l1⟩ : Hd) = ⟨k2, c2, l2⟩
        · have heq : ∀ w', (Op.equalIn 10000 113 (.agg #[.int .i64 k1, .int .i64 c1, .int .i64 l1]) (.agg #[.int .i64 k2, .int .i64 c2, .int .i64 l2])).run Tryz.prog w' = .ok true w' := fun w' => equalRh w' _ _ _ _ _ _ _ (by rw [← hd_beq]; simp [hq])
          have hgd := gsRh
          have HQ := Lib.hid hq
          clear hq
          go_wp2_with fail
          go_quiet (fail)
          go_wp2_with fail
          refine ⟨⟨k + 1, by omega, vint (by omega), ?_, _, rfl⟩, by simp [intOf]; omega⟩
          exact take_eq_succ (by rw [HN.out]; exact hlt) (by rw [HM.out]; exact hlt) HE.out (by rw [E1.out, E2.out, HQ.out])
        · have heq : ∀ w', (Op.equalIn 10000 113 (.agg #[.int .i64 k1, .int .i64 c1, .int .i64 l1]) (.agg #[.int .i64 k2, .int .i64 c2, .int .i64 l2])).run Tryz.prog w' = .ok false w' := fun w' => equalRh w' _ _ _ _ _ _ _ (by rw [← hd_beq]; simp [hq])
          have hgd := gsRh
          have HQ := Lib.hid hq
          clear hq
          go_wp2_with fail
          go_quiet (fail)
          go_wp2_with fail
          go_ret
          refine ⟨ret_bool (decide_eq_false (fun h => HQ.out ?_)).symm, _, World.drewN_drewN _ _ _⟩
          rw [← E1.out, ← E2.out, h]
      · obtain rfl : k = n := by omega
        have hlt' : decide ((k : Int) < (k : Int)) = false := by simp
        go_wp2_with fail
        go_ret
        refine ⟨ret_bool (decide_eq_true ?_).symm, _, rfl⟩
        have := HE.out
        rwa [List.take_of_length_le (by rw [HN.out]; exact Nat.le_refl _), List.take_of_length_le (by rw [HM.out]; exact Nat.le_refl _)] at this
  · have hne : (n != m) = true := by simpa using hnm
    have hne2 : ((n : Int) != (m : Int)) = true := by simp; omega
    have HH := Lib.hid hnm
    clear hnm hn hm hc hc2
    go_enter Tryz.func45, Tryz.ntmps45
    go_wp2_with fail
    go_ret
    exact ⟨ret_bool (decide_eq_false (fun h => HH.out (by rw [← HN.out, ← HM.out, h]))).symm, 0, rfl⟩

end Go.Proofs.YtebnelihlgdciaaGreat

/- Spans: their cells; law10.Spans at alike spans. -/
namespace Go.Proofs.YtebnelihlgdciaaGreat
open Go.RowKit
set_option linter.unusedVariables false

/-- A span: its first block, how many. -/
abbrev Sp := Nat × Nat
def spCs (l : List Sp) : List Value := l.flatMap fun s => [.int .i64 s.1, .int .i64 s.2]
theorem spCs_length (l : List Sp) : (spCs l).length = 2 * l.length := by
  induction l with
  | nil => rfl
  | cons h l ih => simp only [spCs, List.flatMap_cons, List.length_append, List.length_cons] at *; rw [ih]; simp; omega
theorem spCs_append (l m : List Sp) : spCs (l ++ m) = spCs l ++ spCs m := by simp [spCs]
theorem spCs_last (l : List Sp) (s n : Nat) : (spCs (l ++ [(s, n)]))[l.length * 2]? = some (.int .i64 (s : Int)) ∧ (spCs (l ++ [(s, n)]))[l.length * 2 + 1]? = some (.int .i64 (n : Int)) := by
  have hl := spCs_length l
  rw [spCs_append]
  constructor
  · rw [List.getElem?_append_right (by omega), show l.length * 2 - (spCs l).length = 0 by omega]; rfl
  · rw [List.getElem?_append_right (by omega), show l.length * 2 + 1 - (spCs l).length = 1 by omega]; rfl
theorem spCs_bump (l : List Sp) (s n m : Nat) : (spCs (l ++ [(s, n)])).set (l.length * 2 + 1) (.int .i64 (m : Int)) = spCs (l ++ [(s, m)]) := by
  have hl := spCs_length l
  rw [spCs_append, spCs_append, List.set_append_right _ _ (by omega), show l.length * 2 + 1 - (spCs l).length = 1 by omega]
  rfl

def bump (l : List Sp) : List Sp := match l.getLast? with
  | none => l
  | some s => l.dropLast ++ [(s.1, s.2 + 1)]
theorem bump_last (l : List Sp) (s n : Nat) : bump (l ++ [(s, n)]) = l ++ [(s, n + 1)] := by simp [bump]
theorem sp_cells {w : World} {a : Option Addr} {l : List Sp} (h : Cells w a (spCs l)) {j : Nat} (hj : j < l.length) {s n : Nat} (he : l.getD j (0, 0) = (s, n)) :
    ∃ b off, a = some ⟨b, off, none⟩ ∧ w.cell? ⟨b, off + j * 2, none⟩ = some (.int .i64 (s : Int)) ∧ w.cell? ⟨b, off + j * 2 + 1, none⟩ = some (.int .i64 (n : Int)) := by
  have e : l = (l.take j ++ [(s, n)]) ++ l.drop (j + 1) := by
    have : l[j] = (s, n) := by rw [← he]; simp [hj]
    rw [← this, ← List.take_succ_eq_append_getElem hj, List.take_append_drop]
  have hl := spCs_last (l.take j) s n
  have hjl : (l.take j).length = j := by simp; omega
  rw [hjl] at hl
  have hlen := spCs_length (l.take j ++ [(s, n)])
  simp [hjl] at hlen
  rcases h with h | ⟨b, off, rfl, h⟩
  · have := congrArg List.length h
    rw [spCs_length] at this
    simp only [List.length_nil] at this
    omega
  · refine ⟨b, off, rfl, h (j * 2) _ ?_, h (j * 2 + 1) _ ?_⟩
    · rw [e, spCs_append, List.getElem?_append_left (by simp [spCs_length]; omega)]; exact hl.1
    · rw [e, spCs_append, List.getElem?_append_left (by simp [spCs_length]; omega)]; exact hl.2

set_option maxHeartbeats 1000000 in
set_option maxRecDepth 20000 in
theorem lspans_same (a b : Option Addr) (n cap cap2 : Nat) (l : List Sp) (hn : l.length = n) (w : World) (hc : Cells w a (spCs l)) (hc2 : Cells w b (spCs l)) (hl : n ≤ 1000) :
    Calls Tryz.prog 47 #[.slice a n cap, .slice b n cap2] w fun e w' => e = .returned (.bool true) ∧ ∃ q, w' = w.drewN q := by
  have HN := Lib.hid hn
  have HC := Lib.hid hc
  have HC2 := Lib.hid hc2
  have hne : (n != n) = false := by simp
  have hne2 : ((n : Int) != (n : Int)) = false := by simp
  clear hn hc hc2
  go_enter Tryz.func47, Tryz.ntmps47
  go_wp2_with fail
  go_loopw [5] (fun i wr => ∃ k : Nat, k ≤ n ∧ i = .int .i64 k ∧ ∃ q, wr = w.drewN q) (fun i _ => n - (intOf i).toNat)
  case atStart => exact ⟨0, Nat.zero_le _, rfl, 0, rfl⟩
  case round =>
    obtain ⟨k, hk, rfl, q, rfl⟩ := hrel
    by_cases hlt : k < n
    · have hlt' : (k : Int) < (n : Int) := by omega
      have hkl : k < l.length := by rw [HN.out]; exact hlt
      obtain ⟨s, m, e1⟩ : ∃ s m, l.getD k (0, 0) = (s, m) := ⟨_, _, rfl⟩
      obtain ⟨b1, o1, rfl, d0, d1⟩ := sp_cells HC.out hkl e1
      obtain ⟨b2, o2, rfl, d3, d4⟩ := sp_cells HC2.out hkl e1
      have hs : (s != s) = false := by simp
      have hs2 : ((s : Int) != (s : Int)) = false := by simp
      have hm : (m != m) = false := by simp
      have hm2 : ((m : Int) != (m : Int)) = false := by simp
      clear e1 hkl
      go_wp2_with fail
      go_quiet (fail)
      go_wp2_with fail
      exact ⟨⟨k + 1, by omega, vint (by omega), _, rfl⟩, by simp [intOf]; omega⟩
    · obtain rfl : k = n := by omega
      have hlt' : decide ((k : Int) < (k : Int)) = false := by simp
      go_wp2_with fail
      go_ret
      exact ⟨rfl, _, rfl⟩

end Go.Proofs.YtebnelihlgdciaaGreat

/- Spans of free blocks: the plain law. -/
namespace Go.Proofs.YtebnelihlgdciaaGreat
open Go.RowKit
set_option linter.unusedVariables false

/-- Spans of free blocks below b. -/
def spanL (ks : Nat → Bool) : Nat → List Sp
  | 0 => []
  | b + 1 => if b = 0 ∨ ks b = false then spanL ks b else if 1 < b ∧ ks (b - 1) = true then bump (spanL ks b) else spanL ks b ++ [(b, 1)]
/-- The last span ends at b, or ahead of it. -/
theorem spanL_last (ks : Nat → Bool) (b : Nat) (hb : 1 ≤ b) : if 1 < b ∧ ks (b - 1) = true then ∃ l s n, spanL ks b = l ++ [(s, n)] ∧ s + n = b ∧ l.length < b else (spanL ks b = [] ∨ ∃ l s n, spanL ks b = l ++ [(s, n)] ∧ s + n < b ∧ l.length < b) := by
  induction b with
  | zero => omega
  | succ b ih =>
    by_cases h0 : b = 0
    · subst h0; rw [if_neg (by omega)]; left; rfl
    have ih := ih (by omega)
    rw [Nat.add_sub_cancel]
    by_cases hk : ks b = true
    · rw [if_pos ⟨by omega, hk⟩]
      by_cases hp : 1 < b ∧ ks (b - 1) = true
      · rw [if_pos hp] at ih
        obtain ⟨l, s, n, h1, h2, h3⟩ := ih
        refine ⟨l, s, n + 1, ?_, by omega, by omega⟩
        rw [spanL, if_neg (by simp [h0, hk]), if_pos hp, h1, bump_last]
      · rw [if_neg hp] at ih
        refine ⟨spanL ks b, b, 1, ?_, rfl, ?_⟩
        · rw [spanL, if_neg (by simp [h0, hk]), if_neg hp]
        · rcases ih with h | ⟨l, s, n, h1, h2, h3⟩
          · rw [h]; simp
          · rw [h1]; simp; omega
    · have hk' : ks b = false := by simpa using hk
      rw [if_neg (by simp [hk'])]
      have he : spanL ks (b + 1) = spanL ks b := by rw [spanL, if_pos (.inr hk')]
      rw [he]
      split at ih
      · obtain ⟨l, s, n, h1, h2, h3⟩ := ih
        exact .inr ⟨l, s, n, h1, by omega, by omega⟩
      · rcases ih with h | ⟨l, s, n, h1, h2, h3⟩
        · exact .inl h
        · exact .inr ⟨l, s, n, h1, by omega, by omega⟩
theorem spanL_len (ks : Nat → Bool) (b : Nat) : (spanL ks b).length ≤ b := by
  induction b with
  | zero => simp [spanL]
  | succ b ih =>
    unfold spanL
    split
    · omega
    · split
      · unfold bump
        split
        · omega
        · simp; omega
      · simp; omega

def freeAt (l : List Hd) (b : Nat) : Bool := (l.getD b default).k == 0
def spansOf (l : List Hd) : List Sp := spanL (freeAt l) l.length

end Go.Proofs.YtebnelihlgdciaaGreat

/- Spans of free blocks: the walks. -/
namespace Go.Proofs.YtebnelihlgdciaaGreat
open Go.RowKit
set_option linter.unusedVariables false

theorem elBs : Elem Tryz.prog 46 56 (.agg #[.int .i64 0, .int .i64 0]) 2 16 := Elem.mk' Tryz.underlying46 (by kernel_rfl) rfl (by decide)

def SpansPost (t : Nat) (l : List Sp) (w : World) : Ending → World → Prop := fun e w' => ∃ v, e = .returned v ∧ w'.ownsRow w.heap.size t 2 v l.length (spCs l) ∧ Below w.heap.size w w'

/-- What a round meets. -/
theorem span_round (ks : Nat → Bool) (b : Nat) (hb : 1 ≤ b) :
    (ks b = false ∧ spanL ks (b + 1) = spanL ks b) ∨
    (ks b = true ∧ 1 < b ∧ ks (b - 1) = true ∧ ∃ l s n, spanL ks b = l ++ [(s, n)] ∧ s + n = b ∧ spanL ks (b + 1) = l ++ [(s, n + 1)]) ∨
    (ks b = true ∧ ¬ (1 < b ∧ ks (b - 1) = true) ∧ spanL ks b = [] ∧ spanL ks (b + 1) = [(b, 1)]) ∨
    (ks b = true ∧ ¬ (1 < b ∧ ks (b - 1) = true) ∧ ∃ l s n, spanL ks b = l ++ [(s, n)] ∧ s + n < b ∧ spanL ks (b + 1) = l ++ [(s, n)] ++ [(b, 1)]) := by
  have h := spanL_last ks b hb
  by_cases hk : ks b = true
  · by_cases hp : 1 < b ∧ ks (b - 1) = true
    · rw [if_pos hp] at h
      obtain ⟨l, s, n, h1, h2, h3⟩ := h
      exact .inr (.inl ⟨hk, hp.1, hp.2, l, s, n, h1, h2, by rw [spanL, if_neg (by simp [hk]; omega), if_pos hp, h1, bump_last]⟩)
    · rw [if_neg hp] at h
      have e : spanL ks (b + 1) = spanL ks b ++ [(b, 1)] := by rw [spanL, if_neg (by simp [hk]; omega), if_neg hp]
      rcases h with h | ⟨l, s, n, h1, h2, h3⟩
      · exact .inr (.inr (.inl ⟨hk, hp, h, by rw [e, h]; rfl⟩))
      · exact .inr (.inr (.inr ⟨hk, hp, l, s, n, h1, h2, by rw [e, h1]⟩))
  · have hk' : ks b = false := by simpa using hk
    exact .inl ⟨hk', by rw [spanL, if_pos (.inr hk')]⟩

theorem hd_kind {w : World} {a : Option Addr} {l : List Hd} (h : Cells w a (hdCs l)) {j : Nat} (hj : j < l.length) :
    ∃ b off, a = some ⟨b, off, none⟩ ∧ ∃ k, freeAt l j = (k == 0) ∧ w.cell? ⟨b, off + j * 3, none⟩ = some (.int .i64 k) := by
  obtain ⟨k, c, n, he⟩ := hdGetD l j
  obtain ⟨b, off, rfl, h0, _, _⟩ := hd_cells h hj he
  exact ⟨b, off, rfl, k, by unfold freeAt; rw [he], h0⟩

set_option maxHeartbeats 2000000 in
set_option maxRecDepth 20000 in
theorem bspans_any (a : Option Addr) (n cap : Nat) (l : List Hd) (hn : l.length = n) (w : World) (hc : Cells w a (hdCs l)) (hl : n ≤ 1000) :
    Calls Tryz.prog 97 #[.slice a n cap] w (SpansPost 56 (spansOf l) w) := by
  have HN := Lib.hid hn
  have HC := Lib.hid hc
  generalize hP : SpansPost 56 (spansOf l) w = Post
  have HP := Lib.hid hP
  clear hn hc hP
  go_enter Tryz.func97, Tryz.ntmps97
  go_wp2_with fail
  go_loopw [3, 4] (fun v i wr => ∃ b : Nat, 1 ≤ b ∧ (b ≤ n ∨ b = 1) ∧ i = .int .i64 b ∧ wr.ownsRow w.heap.size 56 2 v (spanL (freeAt l) b).length (spCs (spanL (freeAt l) b)) ∧ Below w.heap.size w wr) (fun _ i _ => n - (intOf i).toNat)
  case atStart => exact ⟨1, Nat.le_refl _, .inr rfl, rfl, ⟨rfl, .inl ⟨rfl, rfl⟩⟩, Below.refl _ _⟩
  case round =>
    obtain ⟨b, hb1, hbn, rfl, ho, hb⟩ := hrel
    by_cases hlt : b < n
    · have hlt' : (b : Int) < (n : Int) := by omega
      have HB := Lib.hid hb
      obtain ⟨bl, off, rfl, kd, hfk, d0⟩ := hd_kind (HC.out.below hb (Nat.le_refl _)) (j := b) (by rw [HN.out]; exact hlt)
      have hr := span_round (freeAt l) b hb1
      rw [hfk] at hr
      have HLb := Lib.hid (spanL_len (freeAt l) b)
      clear hfk hbn hb
      rcases hr with ⟨hk, hs⟩ | ⟨hk, h1b, hk2, pl, s, m, hs1, hs2, hs3⟩ | ⟨hk, hp, hs1, hs3⟩ | ⟨hk, hp, pl, s, m, hs1, hs2, hs3⟩
      · have hk1 : (kd != 0) = true := by simpa using hk
        obtain ⟨a1, c1, rfl, hc1, hm1⟩ := owned_form ho
        have HO : Hid (wr.ownsRow w.heap.size 56 2 (.slice a1 (spanL (freeAt l) b).length c1) (spanL (freeAt l) (b + 1)).length (spCs (spanL (freeAt l) (b + 1)))) := Lib.hid (by rw [hs]; exact ho)
        clear ho hs hk HLb
        go_wp2_with fail
        exact ⟨⟨b + 1, by omega, by omega, vint (by omega), HO.out, HB.out⟩, by simp [intOf]; omega⟩
      · have hk1 : (kd != 0) = false := by simpa using hk
        rw [hs1] at ho
        obtain ⟨L, hL⟩ : ∃ L, L = pl.length := ⟨_, rfl⟩
        rw [show (pl ++ [(s, m)]).length = L + 1 by simp [hL]] at ho
        obtain ⟨g, c1, rfl, hc1, hm1, hg1, hg2⟩ := owned_some ho (by omega)
        have hr := owned_row ho
        have hla := spCs_last pl s m
        rw [← hL] at hla
        have e0 : wr.cell? ⟨g, L * 2, none⟩ = some (.int .i64 (s : Int)) := hr.cell hla.1
        have e1 : wr.cell? ⟨g, L * 2 + 1, none⟩ = some (.int .i64 (m : Int)) := hr.cell hla.2
        have f1 : wr.frozen? ⟨g, L * 2 + 1, none⟩ = false := hr.frozen _
        have hsm : ((s : Int) + (m : Int) == (b : Int)) = true := by simp; omega
        have HL := Lib.hid hL
        have HS3 := Lib.hid hs3
        have HO1 := Lib.hid ho
        have hsb : (s : Int) ≤ 1000 := by omega
        have hmb : (m : Int) ≤ 1000 := by omega
        have hLb : L < 1000 := by have := HLb.out; rw [hs1] at this; simp [← hL] at this; omega
        clear ho hs1 hs2 hs3 hL hla hr hk hk2 HLb
        have hw1 : IntKind.i64.wrap (L : Int) = L := IntWalk.i64_in _ (by omega)
        have hw2 : IntKind.i64.wrap ((s : Int) + (m : Int)) = s + m := IntWalk.i64_in _ (by omega)
        go_wp2_with fail
        go_quiet (fail)
        clear hw1 hw2
        have HO2 : Hid ((wr.drewN nq).ownsRow w.heap.size 56 2 (.slice (some ⟨g, 0, none⟩) (L + 1) c1) (L + 1) (spCs (pl ++ [(s, m)]))) := Lib.hid HO1.out
        go_wp2_with fail
        refine ⟨⟨b + 1, by omega, by omega, vint (by omega), ?_, ?_⟩, by simp [intOf]; omega⟩
        · rw [HS3.out, ← show ((m + 1 : Nat) : Int) = (m : Int) + 1 from rfl, ← spCs_bump pl s m (m + 1), show (pl ++ [(s, m + 1)] : List Sp).length = L + 1 by simp [HL.out], ← HL.out]
          exact (HO2.out.stored (L * 2 + 1) _).1
        · exact below_grownBy (below_drewN HB.out _) HO2.out (HO2.out.stored (L * 2 + 1) _).2 (Nat.le_refl _) (Nat.le_refl _)
      · have hk1 : (kd != 0) = false := by simpa using hk
        rw [hs1] at ho
        obtain ⟨a1, c1, rfl, hc1, hm1⟩ := owned_form ho
        have HO := Lib.hid ho
        have HS3 := Lib.hid hs3
        have hone : Hid (∀ u ∈ (#[Value.int .i64 (b : Int), Value.int .i64 1] : Array Value).toList, u.oneCell' = true) := Lib.hid (by intro u hu; simp at hu; rcases hu with rfl | rfl <;> rfl)
        clear ho hs1 hs3 hk hp HLb
        go_wp2_with fail
        go_quiet (fail)
        have HO1 : Hid ((wr.drewN nq).ownsRow w.heap.size 56 2 (.slice a1 0 c1) 0 []) := Lib.hid HO.out
        have hbase : Hid (w.heap.size ≤ (wr.drewN nq).heap.size) := Lib.hid HB.out.size
        go_wp2_with (at_builtin; refine wpList_append_new (us := #[.int .i64 (b : Int), .int .i64 1]) elBs HO1.out rfl hone.out (by omega) (by decide) hbase.out rfl rfl rfl (by simp [Act.eval]) ?_; intro g6 c6 w6 ho6 hg6 hc6 hm6 hb6 hl6; have HO6 := Lib.hid ho6; have HG6 := Lib.hid hg6; clear ho6 hg6)
        refine ⟨⟨b + 1, by omega, by omega, vint (by omega), ?_, below_grownBy (below_drewN HB.out _) HO1.out HG6.out (Nat.le_refl _) (Nat.le_refl _)⟩, by simp [intOf]; omega⟩
        rw [HS3.out]
        exact HO6.out
      · have hk1 : (kd != 0) = false := by simpa using hk
        rw [hs1] at ho
        obtain ⟨L, hL⟩ : ∃ L, L = pl.length := ⟨_, rfl⟩
        rw [show (pl ++ [(s, m)]).length = L + 1 by simp [hL]] at ho
        obtain ⟨g, c1, rfl, hc1, hm1, hg1, hg2⟩ := owned_some ho (by omega)
        have hr := owned_row ho
        have hla := spCs_last pl s m
        rw [← hL] at hla
        have e0 : wr.cell? ⟨g, L * 2, none⟩ = some (.int .i64 (s : Int)) := hr.cell hla.1
        have e1 : wr.cell? ⟨g, L * 2 + 1, none⟩ = some (.int .i64 (m : Int)) := hr.cell hla.2
        have hsm : ((s : Int) + (m : Int) == (b : Int)) = false := by simp; omega
        have HL := Lib.hid hL
        have HS3 := Lib.hid hs3
        have HO := Lib.hid ho
        have hsb : (s : Int) ≤ 1000 := by omega
        have hmb : (m : Int) ≤ 1000 := by omega
        have hone : Hid (∀ u ∈ (#[Value.int .i64 (b : Int), Value.int .i64 1] : Array Value).toList, u.oneCell' = true) := Lib.hid (by intro u hu; simp at hu; rcases hu with rfl | rfl <;> rfl)
        have hLb : L < 1000 := by have := HLb.out; rw [hs1] at this; simp [← hL] at this; omega
        have hL9 : L + 1 < 1000000000000 := by omega
        clear ho hs1 hs2 hs3 hL hla hr hk hp HLb
        have hw1 : IntKind.i64.wrap (L : Int) = L := IntWalk.i64_in _ (by omega)
        have hw2 : IntKind.i64.wrap ((s : Int) + (m : Int)) = s + m := IntWalk.i64_in _ (by omega)
        go_wp2_with fail
        go_quiet (fail)
        clear hw1 hw2
        have HO1 : Hid ((wr.drewN nq).ownsRow w.heap.size 56 2 (.slice (some ⟨g, 0, none⟩) (L + 1) c1) (L + 1) (spCs (pl ++ [(s, m)]))) := Lib.hid HO.out
        have hbase : Hid (w.heap.size ≤ (wr.drewN nq).heap.size) := Lib.hid HB.out.size
        go_wp2_with (at_builtin; refine wpList_append_new (us := #[.int .i64 (b : Int), .int .i64 1]) elBs HO1.out rfl hone.out hL9 (by decide) hbase.out rfl rfl rfl (by simp [Act.eval]) ?_; intro g6 c6 w6 ho6 hg6 hc6 hm6 hb6 hl6; have HO6 := Lib.hid ho6; have HG6 := Lib.hid hg6; clear ho6 hg6)
        refine ⟨⟨b + 1, by omega, by omega, vint (by omega), ?_, below_grownBy (below_drewN HB.out _) HO1.out HG6.out (Nat.le_refl _) (Nat.le_refl _)⟩, by simp [intOf]; omega⟩
        rw [HS3.out, spCs_append, show (pl ++ [(s, m)] ++ [(b, 1)] : List Sp).length = L + 1 + 1 by simp [HL.out]]
        exact HO6.out
    · have hlt' : decide (b < n) = false := by simp; omega
      have hlt2 : n ≤ b := by omega
      obtain ⟨a1, c1, rfl, hc1, hm1⟩ := owned_form ho
      have HE : Hid (spansOf l = spanL (freeAt l) b) := Lib.hid (by
        unfold spansOf; rw [HN.out]
        rcases hbn with h | h
        · rw [show n = b by omega]
        · by_cases h0 : n = 0
          · rw [h0, h]; rfl
          · rw [show n = b by omega])
      have HO := Lib.hid ho
      have HB := Lib.hid hb
      clear ho hb
      go_wp2_with fail
      rw [← HP.out]
      refine ⟨_, rfl, ?_, HB.out⟩
      rw [HE.out]
      exact HO.out

theorem span_round2 (ks : Nat → Bool) (b : Nat) (hb : 1 ≤ b) :
    (ks b = false ∧ spanL ks (b + 1) = spanL ks b) ∨
    (ks b = true ∧ 1 < b ∧ ks (b - 1) = true ∧ ∃ l s n, spanL ks b = l ++ [(s, n)] ∧ s + n = b ∧ spanL ks (b + 1) = l ++ [(s, n + 1)]) ∨
    (ks b = true ∧ ¬ (1 < b ∧ ks (b - 1) = true) ∧ spanL ks (b + 1) = spanL ks b ++ [(b, 1)]) := by
  rcases span_round ks b hb with h | h | ⟨h1, h2, h3, h4⟩ | ⟨h1, h2, l, s, n, h3, _, h4⟩
  · exact .inl h
  · exact .inr (.inl h)
  · exact .inr (.inr ⟨h1, h2, by rw [h3, h4]; rfl⟩)
  · exact .inr (.inr ⟨h1, h2, by rw [h3, h4]⟩)


end Go.Proofs.YtebnelihlgdciaaGreat

/- blocks.Format, on a device that never stops. -/
namespace Go.Proofs.YtebnelihlgdciaaGreat
open Go.RowKit
set_option linter.unusedVariables false

/-- What was encoded is decoded. -/
theorem dec_enc (b k c l : Int) (h : hdRight k c l = true) : decN b (encN b k c l) = ⟨k, c, l, 0⟩ := by
  have hr : HdRight k c l := by simpa [hdRight] using h
  obtain ⟨n, hn⟩ : ∃ n, n = hdN k c l := ⟨_, rfl⟩
  have hn2 : (n : Int) = k + 4 * c + 256 * l := by rw [hn]; unfold hdN; unfold HdRight at hr; omega
  have hlt : n < 4294967296 := by unfold HdRight at hr; omega
  have he : encN b k c l = sealN n (pl (256 + b)) := by unfold encN; rw [if_pos h, hn]
  have hm : sealN n (pl (256 + b)) % 4294967296 = n := by
    unfold sealN
    rw [Nat.mul_comm, Nat.mul_add_mod, Nat.mod_eq_of_lt hlt]
  have ho : openN (encN b k c l) (pl (256 + b)) = some n := by
    unfold openN; rw [he, hm, if_pos rfl]
  have e1 : ((n % 4 : Nat) : Int) = k := by unfold HdRight at hr; omega
  have e2 : ((n / 4 % 64 : Nat) : Int) = c := by unfold HdRight at hr; omega
  have e3 : ((n / 256 % 65536 : Nat) : Int) = l := by unfold HdRight at hr; omega
  rw [decN_some ho]
  unfold decS
  rw [e1, e2, e3, if_pos rfl, if_pos h]

def Dev.live (S : Dev) : Prop := S.dead = false ∧ S.armed = false
theorem Dev.live.stop {S : Dev} (h : S.live) : S.stop = false := by unfold Dev.stop; rw [h.1, h.2]; rfl
theorem Dev.live.step {S : Dev} (h : S.live) : S.step.live := by unfold Dev.step; rw [h.stop]; exact h
theorem Dev.live.store {S : Dev} (h : S.live) (i : Int) (x : Nat) : (S.store i x).live := by
  unfold Dev.store
  split
  · exact h
  · rw [h.stop]; exact h.step
theorem Dev.live.store_ok {S : Dev} (h : S.live) (i : Nat) (x : Nat) (hi : i < S.cache.length) : S.storeE i = 0 ∧ (S.store i x).cache = S.cache.set i x := by
  constructor
  · unfold Dev.storeE; rw [if_neg (by omega), h.stop]; rfl
  · unfold Dev.store; rw [if_neg (by omega), h.stop]
    simp only [Bool.false_eq_true, if_false, Dev.put, (Dev.step_rest S).2.1, Int.toNat_natCast]
theorem Dev.store_okN {S : Dev} {N : Nat} (h : S.ok N) (i : Int) (x : Nat) : (S.store i x).ok (N + 1) := by
  unfold Dev.store
  split
  · exact h.mono (by omega)
  · split
    · exact Dev.step_ok h
    · exact (Dev.step_ok h : S.step.ok (N + 1))

/-- Blocks 1 .. k - 1 are free. -/
def Dev.fmtTo (S : Dev) : Nat → Dev
  | 0 => S
  | k + 1 => if k = 0 then S else (S.fmtTo k).store ((256 + k : Nat) : Int) (encN k 0 0 0)
theorem fmtTo_props {S : Dev} (h : S.live) {N : Nat} (ho : S.ok N) (k : Nat) (hk : 256 + k ≤ S.cache.length) : (S.fmtTo k).live ∧ (S.fmtTo k).ok (N + k) ∧ (S.fmtTo k).cache.length = S.cache.length ∧ (S.fmtTo k).dirty.length = S.dirty.length ∧ (∀ b, 1 ≤ b → b < k → (S.fmtTo k).cache.getD (256 + b) 0 = encN b 0 0 0) := by
  induction k with
  | zero => exact ⟨h, ho, rfl, rfl, fun b h1 h2 => by omega⟩
  | succ k ih =>
    obtain ⟨i1, i2, i3, i5, i4⟩ := ih (by omega)
    unfold Dev.fmtTo
    split
    · exact ⟨h, ho.mono (by omega), rfl, rfl, fun b h1 h2 => by omega⟩
    · have hs := i1.store_ok (256 + k) (encN k 0 0 0) (by omega)
      refine ⟨i1.store _ _, Dev.store_okN i2 _ _, by rw [hs.2, List.length_set, i3], ?_, fun b h1 h2 => ?_⟩
      · rw [← i5]
        unfold Dev.store
        split
        · rfl
        · split
          · rw [(Dev.step_rest _).2.2.2.1]
          · simp [Dev.put, (Dev.step_rest _).2.2.2.1]
      · rw [hs.2]
        by_cases e : b = k
        · subst e; rw [List.getD_eq_getElem?_getD, List.getElem?_set_self (by omega)]; rfl
        · rw [List.getD_eq_getElem?_getD, List.getElem?_set_ne (by omega), ← List.getD_eq_getElem?_getD]
          exact i4 b h1 (by omega)

/-- A live device does all that it is told within its words. -/
theorem Dev.live.flush {S : Dev} (h : S.live) (j : Int) : (S.flush j).live := by
  unfold Dev.flush
  split
  · exact h
  · rw [h.stop]
    simp only [Bool.false_eq_true, if_false]
    unfold Dev.hold
    split
    · exact h.step
    · exact h.step
theorem Dev.live.flushE {S : Dev} (h : S.live) (j : Nat) (hj : j < S.dirty.length) : S.flushE j = 0 := by unfold Dev.flushE; rw [if_neg (by omega), h.stop]; rfl
theorem Dev.live.flushRun {S : Dev} (h : S.live) (a : Nat) : ∀ m, a + m ≤ S.dirty.length → (S.flushRun a m).err = 0 ∧ (S.flushRun a m).dev.live ∧ (S.flushRun a m).dev.cache = S.cache ∧ (S.flushRun a m).dev.dirty = S.dirty := by
  intro m
  induction m with
  | zero => intro _; exact ⟨rfl, h, rfl, rfl⟩
  | succ m ih =>
    intro hm
    obtain ⟨i1, i2, i3, i4⟩ := ih (by omega)
    unfold Dev.flushRun
    rw [if_neg (by rw [i1]; simp)]
    refine ⟨i2.flushE _ (by rw [i4]; omega), i2.flush _, ?_, ?_⟩
    · exact (Dev.flush_len _ _).1.trans i3
    · exact (Dev.flush_len _ _).2.trans i4
theorem Dev.live.persist {S : Dev} (h : S.live) (p n : Nat) (hn : 0 < n) (hd : S.cache.length = 8 * S.dirty.length) (hp : p + n ≤ S.cache.length) : (S.persist p n).err = 0 ∧ (S.persist p n).dev.cache = S.cache := by
  unfold Dev.persist
  rw [if_neg (by omega), if_pos (by omega)]
  unfold Dev.persistN
  obtain ⟨i1, i2, i3, i4⟩ := h.flushRun ((p : Int) / 8).toNat (((p : Int) + (n : Int) - 1) / 8 - (p : Int) / 8 + 1).toNat (by omega)
  rw [if_neg (by rw [i1]; simp)]
  constructor
  · show Dev.fenceE _ = 0
    unfold Dev.fenceE; rw [i2.stop]; rfl
  · show (Dev.fence _).cache = _
    unfold Dev.fence; rw [i2.stop]
    simp only [Bool.false_eq_true, if_false]
    rw [(fenceTo_len _ _).2.1, (Dev.step_rest _).2.1, i3]

def Dev.fmt (S : Dev) (B : Nat) : Dev := ((S.fmtTo B).persist 257 ((B : Int) - 1)).dev

set_option maxHeartbeats 2000000 in
set_option maxRecDepth 100000 in
theorem format_any {w : World} {F : Foot} {S : Dev} (h : DevAt w F S) (hv : S.live) (ho : S.ok 100) (B : Nat) (hB2 : 2 ≤ B) (hB : B ≤ 1000) (hlen : 256 + B ≤ S.cache.length) :
    Calls Tryz.prog 32 #[vdev F, vgeom B] w fun e w' => e = .returned (.int .i64 0) ∧ DevAt w' F (S.fmt B) ∧ Touch F.list w w' := by
  have hbx := below_alloc w (.cells #[.int .i64 (B : Int)] 43)
  have hcx : (w.alloc (.cells #[.int .i64 (B : Int)] 43)).cell? ⟨w.heap.size, 0, none⟩ = some (.int .i64 (B : Int)) := cell_alloc_new _ _ _ 0 _ rfl
  have HD := Lib.hid (h.below hbx)
  have HT : Hid (Touch F.list w (w.alloc (.cells #[.int .i64 (B : Int)] 43))) := Lib.hid (Touch.ofBelow hbx)
  have HF : Hid (∀ k ∈ F.list, k < w.heap.size) := Lib.hid h.mem
  have HP := Lib.hid (fun k hk => fmtTo_props hv ho k (Nat.le_trans (show 256 + k ≤ 256 + B by exact Nat.add_le_add_left hk _) hlen))
  have HL := Lib.hid h.lenD
  clear h hbx hv ho
  go_enter Tryz.func32, Tryz.ntmps32
  go_wp2_with fail
  go_loopw [5] (fun i wr => ∃ b : Nat, 1 ≤ b ∧ b ≤ B ∧ i = .int .i64 b ∧ DevAt wr F (S.fmtTo b) ∧ Touch F.list w wr ∧ wr.cell? ⟨w.heap.size, 0, none⟩ = some (.int .i64 (B : Int))) (fun i _ => B - (intOf i).toNat)
  case atStart => exact ⟨1, Nat.le_refl _, by omega, rfl, HD.out, HT.out, hcx⟩
  case round =>
    obtain ⟨b, hb1, hb2, rfl, hd, ht, hc⟩ := hrel
    have HDr := Lib.hid hd
    have HTr := Lib.hid ht
    clear hd ht hcx
    by_cases hlt : b < B
    · have hlt' : (b : Int) < (B : Int) := by omega
      go_wp2_with fail
      refine (gheader_any _ _ _ (by omega)).mono ?_
      rintro e w1 ⟨rfl, hb1'⟩
      have HH : Hid (hdAt (B : Int) (b : Int) = 256 + (b : Int)) := Lib.hid (by unfold hdAt; rw [if_neg (by omega)])
      rw [HH.out]
      have hc1 := below_cells hb1' hc (Nat.le_refl _)
      have HD1 := Lib.hid (HDr.out.below hb1')
      have HT1 : Hid (Touch F.list w w1) := Lib.hid (HTr.out.trans (Touch.ofBelow hb1'))
      clear hb1' hc HDr HTr
      go_wp2_with fail
      refine (bencode_any (b : Int) 0 0 0 (by omega) (by omega) _).mono ?_
      rintro e w2 ⟨rfl, hb2'⟩
      have hc2 := below_cells hb2' hc1 (Nat.le_refl _)
      have HD2 := Lib.hid (HD1.out.below hb2')
      have HT2 : Hid (Touch F.list w w2) := Lib.hid (HT1.out.trans (Touch.ofBelow hb2'))
      clear hb2' hc1 HD1 HT1
      go_wp2_with fail
      refine (store_any HD2.out (N := 100 + b) (by omega) (HP.out b hb2).2.1 _ _ (encN_lt _ _ _ _)).mono ?_
      rintro e w3 ⟨rfl, hd3, ht3⟩
      have HE : Hid ((S.fmtTo b).storeE (256 + (b : Int)) = 0) := Lib.hid ((HP.out b hb2).1.store_ok (256 + b) 0 (by rw [(HP.out b hb2).2.2.1]; omega)).1
      rw [HE.out]
      have hc3 : w3.cell? ⟨w.heap.size, 0, none⟩ = some (.int .i64 (B : Int)) := cell_of_touch ht3 (fun hm => by have := HF.out _ hm; simp at this) hc2
      have HD3 : Hid (DevAt w3 F (S.fmtTo (b + 1))) := Lib.hid (by unfold Dev.fmtTo; rw [if_neg (by omega)]; exact hd3)
      have HT3 : Hid (Touch F.list w w3) := Lib.hid (HT2.out.trans ht3)
      clear hd3 ht3 hc2 HD2 HT2
      go_wp2_with fail
      exact ⟨⟨b + 1, by omega, by omega, vint (by omega), HD3.out, HT3.out, hc3⟩, by simp [intOf]; omega⟩
    · obtain rfl : b = B := by omega
      have hlt' : decide ((b : Int) < (b : Int)) = false := by simp
      have hw1 : IntKind.i64.wrap ((b : Int) - 1) = (b : Int) - 1 := IntWalk.i64_in _ (by omega)
      go_wp2_with fail
      have hcl : ∀ x : Later wr, x.val.cell? ⟨w.heap.size, 0, none⟩ = some (.int .i64 (b : Int)) := fun x => later_cell hc x
      refine wp_region_later_tail 6 ?hn ?hm ?hB ?_
      case hn => exact Nat.le_of_ble_eq_true rfl
      case hm => kernel_rfl
      case hB => kernel_rfl
      simp only [List.take_succ_cons, List.take_zero, List.drop_succ_cons, List.drop_zero]
      repeat (quiet_step ((rename_i x; exact calls_later (gheader_any _ _ _ (by omega)))))
      refine wpQuiet_nil ?_
      rintro w5 ⟨x, hx5⟩
      have hd5 := HDr.out.below x.below
      have ht5 : Touch F.list w x.val := HTr.out.trans (Touch.ofBelow x.below)
      rw [← hx5] at hd5 ht5
      have HD5 := Lib.hid hd5
      have HT5 := Lib.hid ht5
      have HH : Hid (hdAt (b : Int) 1 = 257) := Lib.hid (by unfold hdAt; rw [if_neg (by omega)]; rfl)
      rw [HH.out]
      clear hx5 x HDr HTr hd5 ht5 hw1
      have HQ : Hid (((S.fmtTo b).persist 257 ((b : Int) - 1)).err = 0) := Lib.hid (by
        have := ((HP.out b (Nat.le_refl _)).1.persist 257 (b - 1) (by omega) (by rw [(HP.out b (Nat.le_refl _)).2.2.1, (HP.out b (Nat.le_refl _)).2.2.2.1]; exact HL.out) (by rw [(HP.out b (Nat.le_refl _)).2.2.1]; omega)).1
        rw [show ((b - 1 : Nat) : Int) = (b : Int) - 1 by omega] at this
        exact this)
      go_wp2_with fail
      refine (persist_any HD5.out (N := 100 + b) (by omega) (HP.out b (Nat.le_refl _)).2.1 _ _ (by omega) (by omega)).mono ?_
      rintro e w6 ⟨rfl, hd6, ht6⟩
      rw [HQ.out]
      have HD6 := Lib.hid hd6
      have HT6 : Hid (Touch F.list w w6) := Lib.hid (HT5.out.trans ht6)
      clear hd6 ht6
      go_wp2_with fail
      go_ret
      exact ⟨rfl, HD6.out, HT6.out⟩

end Go.Proofs.YtebnelihlgdciaaGreat

/- law10.awake. -/
namespace Go.Proofs.YtebnelihlgdciaaGreat
open Go.RowKit
set_option linter.unusedVariables false

set_option maxHeartbeats 400000 in
theorem tspans_any {w : World} {p B : Nat} {F : Foot} {l : List Hd} (h : TabAt w p F B l) (hl : l.length ≤ 1000) :
    Calls Tryz.prog 68 #[.pointer (some ⟨p, 0, none⟩)] w (SpansPost 56 (spansOf l) w) := by
  obtain ⟨g, c, hp, hc, hr, hne⟩ := h.ex
  have c2 : w.cell? ⟨p, 2, none⟩ = some (.slice (some ⟨g, 0, none⟩) l.length c) := cell_of_row _ _ 2 _ _ _ hp
  generalize hP : SpansPost 56 (spansOf l) w = Post
  have HP := Lib.hid hP
  have HR := Lib.hid hr
  clear hP hp hr h
  go_enter Tryz.func68, Tryz.ntmps68
  go_wp2_with fail
  refine (bspans_any (some ⟨g, 0, none⟩) l.length c l rfl w HR.out.cells hl).mono ?_
  rintro e w1 ⟨v, rfl, h1, h2⟩
  have HZ : Hid (Post (.returned v) w1) := Lib.hid (by rw [← HP.out]; exact ⟨v, rfl, h1, h2⟩)
  clear h1 h2
  go_wp2_with fail
  exact HZ.out

/-- A device that was made and formatted: all blocks are free. -/
theorem fresh_live (ws : List Nat) (m : Nat) : (freshDev ws m).live := ⟨rfl, rfl⟩
theorem fresh_ok (ws : List Nat) (m N : Nat) : (freshDev ws m).ok N := by unfold Dev.ok freshDev; simp
theorem fmt_words {S : Dev} (hv : S.live) (ho : S.ok 100) (B : Nat) (hB2 : 2 ≤ B) (hd : S.cache.length = 8 * S.dirty.length) (hlen : 256 + B ≤ S.cache.length) (b : Nat) (h1 : 1 ≤ b) (h2 : b < B) : devWord (S.fmt B) b = encN b 0 0 0 := by
  obtain ⟨p1, p2, p3, p5, p4⟩ := fmtTo_props hv ho B hlen
  have := (p1.persist 257 (B - 1) (by omega) (by rw [p3, p5]; exact hd) (by rw [p3]; omega)).2
  rw [show ((B - 1 : Nat) : Int) = (B : Int) - 1 by omega] at this
  unfold devWord Dev.fmt
  rw [show ((257 : Nat) : Int) = 257 from rfl] at this
  rw [this, show (256 : Int) + (b : Int) = ((256 + b : Nat) : Int) by omega, peek_in, p4 b h1 h2]
theorem fmt_ok {S : Dev} (hv : S.live) (ho : S.ok 100) (B : Nat) (hB2 : 2 ≤ B) (hd : S.cache.length = 8 * S.dirty.length) (hlen : 256 + B ≤ S.cache.length) : AllOk (devWord (S.fmt B)) B := by
  intro b h1 h2
  rw [fmt_words hv ho B hB2 hd hlen b h1 h2, dec_enc _ _ _ _ right_zero]
theorem fmt_hds {S : Dev} (hv : S.live) (ho : S.ok 100) (B : Nat) (hB2 : 2 ≤ B) (hd : S.cache.length = 8 * S.dirty.length) (hlen : 256 + B ≤ S.cache.length) : hds (devWord (S.fmt B)) B = List.replicate B ⟨0, 0, 0⟩ := by
  apply List.ext_getElem (by simp [hds])
  intro i h1 h2
  simp [hds] at h1
  simp only [hds, List.getElem_map, List.getElem_range, List.getElem_replicate]
  unfold hdF
  split
  · rfl
  · rw [fmt_words hv ho B hB2 hd hlen i (by omega) h1, dec_enc _ _ _ _ right_zero]

theorem cells_of_owned {w : World} {base e size n : Nat} {v : Value} {vs : List Value} (h : w.ownsRow base e size v n vs) : ∃ a c, v = .slice a n c ∧ Cells w a vs := by
  rcases h.2 with ⟨h0, h1⟩ | ⟨g, cap, cur, rfl, hb, hg, h1, h2, h3, h4⟩
  · subst h0 h1
    have := h.1
    simp at this
    subst this
    exact ⟨none, 0, rfl, Cells.nil _ _⟩
  · exact ⟨_, _, rfl, (owned_row h).cells⟩


end Go.Proofs.YtebnelihlgdciaaGreat

/- The reference's device: Load. -/
namespace Go.Proofs.YtebnelihlgdciaaGreat
open Go.RowKit
set_option linter.unusedVariables false

theorem elLine : Elem Tryz.prog 29 133 (.agg #[vu64 0, vu64 0, vu64 0, vu64 0, vu64 0, vu64 0, vu64 0, vu64 0]) 8 64 := Elem.mk' Tryz.underlying29 (by kernel_rfl) rfl (by decide)

/-- The state of the document's device. -/
structure RDev where
  now : List Nat
  last : List Nat
  wait : List Nat
  dirty : List Bool
  pending : List Bool
  steps : Int
  fuse : Int
  dead : Bool

structure RAt (w : World) (v : Value) (m : Nat) (R : RDev) : Prop where
  ex : ∃ an cn al cl aw cw ad cd ap cp, v = .agg #[.slice an m cn, .slice al m cl, .slice aw m cw, .slice ad m cd, .slice ap m cp, .int .i64 R.steps, .int .i64 R.fuse, .bool R.dead] ∧
    Cells w an (R.now.map vu64) ∧ Cells w al (R.last.map vu64) ∧ Cells w aw (R.wait.map vu64) ∧ Cells w ad (R.dirty.map Value.bool) ∧ Cells w ap (R.pending.map Value.bool)
  lenN : R.now.length = 8 * m
  lenL : R.last.length = 8 * m
  lenW : R.wait.length = 8 * m
  lenD : R.dirty.length = m
  lenP : R.pending.length = m
  u64N : ∀ z ∈ R.now, z < 18446744073709551616
  u64L : ∀ z ∈ R.last, z < 18446744073709551616
  u64W : ∀ z ∈ R.wait, z < 18446744073709551616

theorem RAt.below {w w' : World} {v : Value} {m B : Nat} {R : RDev} (h : RAt w v m R) (hb : Below B w w') (hB : w.heap.size ≤ B) : RAt w' v m R := by
  obtain ⟨an, cn, al, cl, aw, cw, ad, cd, ap, cp, rfl, h1, h2, h3, h4, h5⟩ := h.ex
  exact { h with ex := ⟨an, cn, al, cl, aw, cw, ad, cd, ap, cp, rfl, h1.below hb hB, h2.below hb hB, h3.below hb hB, h4.below hb hB, h5.below hb hB⟩ }

def freshR (ws : List Nat) (m : Nat) : RDev := ⟨ws, ws, List.replicate (8 * m) 0, List.replicate m false, List.replicate m false, 0, -1, false⟩

theorem pad_append (ws : List Nat) (k : Nat) (h : k % 8 = 0) (hk : k < ws.length) : (padTo (ws.take k) (8 * (k / 8))).map vu64 ++ [vu64 0, vu64 0, vu64 0, vu64 0, vu64 0, vu64 0, vu64 0, vu64 0] = (padTo (ws.take k) (8 * (k / 8 + 1))).map vu64 := by
  unfold padTo
  have : (ws.take k).length = k := by simp; omega
  rw [this, show 8 * (k / 8) - k = 0 by omega, show 8 * (k / 8 + 1) - k = 8 by omega]
  simp
theorem pad_set (ws : List Nat) (k m : Nat) (hk : k < ws.length) (hm : k < 8 * m) : ((padTo (ws.take k) (8 * m)).map vu64).set k (vu64 (ws.getD k 0)) = (padTo (ws.take (k + 1)) (8 * m)).map vu64 := by
  rw [← map_set_u64]
  congr 1
  unfold padTo
  have h1 : (ws.take k).length = k := by simp; omega
  have h2 : (ws.take (k + 1)).length = k + 1 := by simp; omega
  rw [h1, h2, List.set_append_right _ _ (by omega), h1, Nat.sub_self, List.take_succ_eq_append_getElem hk, show 8 * m - k = (8 * m - (k + 1)) + 1 by omega, List.replicate_succ, List.set_cons_zero, List.append_assoc]
  simp [hk]
theorem pad_length (ws : List Nat) (k m : Nat) (hk : k ≤ ws.length) (hm : k ≤ 8 * m) : (padTo (ws.take k) (8 * m)).length = 8 * m := by
  unfold padTo; simp; omega

def zeroD : Array Value := #[.slice none 0 0, .slice none 0 0, .slice none 0 0, .slice none 0 0, .slice none 0 0, .int .i64 0, .int .i64 0, .bool false]
theorem aggRd : Agg Tryz.prog 32 zeroD := ⟨⟨_, Tryz.underlying32, rfl⟩, by kernel_rfl⟩
/-- While a device is laid: its fields, and the result's place. -/
structure LdSt (w W : World) (f : Array Value) : Prop where
  at1 : W.heap[w.heap.size + 1]? = some (.cells f 32 (0, 0))
  at0 : W.heap[w.heap.size]? = some (.cells zeroD 32 (0, 0))
  below : Below w.heap.size w W
  size : w.heap.size + 2 ≤ W.heap.size
theorem LdSt.set {w W : World} {f : Array Value} (h : LdSt w W f) (j : Nat) (v : Value) : LdSt w (W.setCell ⟨w.heap.size + 1, j, none⟩ v) (f.setIfInBounds j v) :=
  ⟨heap_setCell_same _ _ _ _ _ _ h.at1, (Below.heap_setCell _ _ _ _ (by simp)).trans h.at0, h.below.setCell (by simp) _, by simp [World.setCell]; exact h.size⟩
theorem LdSt.grown {w W W' : World} {f : Array Value} (h : LdSt w W f) (hg : W.grownBy W' none) : LdSt w W' f := by
  have hb := below_grown hg (Nat.le_refl _)
  have := h.size
  exact ⟨(hb.block _ (by omega)).trans h.at1, (hb.block _ (by omega)).trans h.at0, h.below.trans (hb.mono h.below.size), Nat.le_trans h.size hb.size⟩
theorem LdSt.cell {w W : World} {f : Array Value} (h : LdSt w W f) (j : Nat) {v : Value} (hv : f[j]? = some v) : W.cell? ⟨w.heap.size + 1, j, none⟩ = some v := by
  rw [cell_of_row _ _ j _ _ _ h.at1]; exact hv
theorem LdSt.frozen {w W : World} {f : Array Value} (h : LdSt w W f) (j : Nat) : W.frozen? ⟨w.heap.size + 1, j, none⟩ = false := frozen_of_row _ _ _ _ _ h.at1
theorem owned_grown {w w' : World} {base e size n : Nat} {v : Value} {xs : List Value} (h : w.ownsRow base e size v n xs) (hg : w.grownBy w' none) : w'.ownsRow base e size v n xs := owned_below h (below_grown hg (Nat.le_refl _)) (Nat.le_refl _)

theorem owned_addr {w : World} {base e size n n' c : Nat} {a : Option Addr} {xs : List Value} (h : w.ownsRow base e size (.slice a n' c) n xs) (x : Addr) (hx : a = some x) : base ≤ x.block := by
  rcases h.2 with ⟨h0, _⟩ | ⟨g, cap, cur, hv, hb, _⟩
  · simp at h0; rw [h0.1] at hx; cases hx
  · simp at hv; rw [hv.1] at hx; cases hx; exact hb

set_option maxHeartbeats 2000000 in
set_option maxRecDepth 100000 in
theorem rload_at (a : Option Addr) (n cap : Nat) (ws : List Nat) (hn : ws.length = n) (w : World) (hc : Cells w a (ws.map vu64)) (hl : n ≤ 100000) (hu : ∀ z ∈ ws, z < 18446744073709551616) :
    Calls Tryz.prog 34 #[.slice a n cap] w fun e w' => ∃ v, e = .returned v ∧ RAt w' v ((n + 7) / 8) (freshR (padTo ws (8 * ((n + 7) / 8))) ((n + 7) / 8)) ∧ (∀ cs, v = .agg cs → ∀ (i : Nat) (x : Addr) (n c : Nat), cs[i]? = some (.slice (some x) n c) → w.heap.size ≤ x.block) ∧ Below w.heap.size w w' := by
  have HN := Lib.hid hn
  have HC := Lib.hid hc
  have HU := Lib.hid hu
  obtain ⟨w0, hw0⟩ : ∃ w0, w0 = (w.alloc (.cells #[.slice none 0 0, .slice none 0 0, .slice none 0 0, .slice none 0 0, .slice none 0 0, .int .i64 0, .int .i64 0, .bool false] 32)).alloc (.cells #[.slice none 0 0, .slice none 0 0, .slice none 0 0, .slice none 0 0, .slice none 0 0, .int .i64 0, .int .i64 0, .bool false] 32) := ⟨_, rfl⟩
  have hb0 : Below w.heap.size w w0 := by rw [hw0]; exact (below_alloc _ _).alloc (by simp) _
  have hg1 : w0.heap[w.heap.size + 1]? = some (.cells #[.slice none 0 0, .slice none 0 0, .slice none 0 0, .slice none 0 0, .slice none 0 0, .int .i64 0, .int .i64 0, .bool false] 32) := by
    rw [hw0]
    have := heap_alloc_new (w.alloc (.cells #[.slice none 0 0, .slice none 0 0, .slice none 0 0, .slice none 0 0, .slice none 0 0, .int .i64 0, .int .i64 0, .bool false] 32)) (.cells #[.slice none 0 0, .slice none 0 0, .slice none 0 0, .slice none 0 0, .slice none 0 0, .int .i64 0, .int .i64 0, .bool false] 32)
    simpa using this
  have hg0 : w0.heap[w.heap.size]? = some (.cells #[.slice none 0 0, .slice none 0 0, .slice none 0 0, .slice none 0 0, .slice none 0 0, .int .i64 0, .int .i64 0, .bool false] 32) := by
    rw [hw0, Below.heap_alloc _ _ _ (by simp)]
    exact heap_alloc_new _ _
  have HW0 := Lib.hid hw0
  have HB0 := Lib.hid hb0
  have HG0 := Lib.hid hg0
  have HG1 := Lib.hid hg1
  have hsz0 : Hid (w0.heap.size = w.heap.size + 2) := Lib.hid (by rw [hw0]; simp)
  clear hn hc hu hw0 hb0 hg0 hg1
  go_enter Tryz.func34, Tryz.ntmps34
  go_wp2_with fail
  rw [← HW0.out]
  go_loopw [4] (fun i wr => ∃ k : Nat, k ≤ n ∧ i = .int .i64 k ∧ ∃ v, wr.heap[w.heap.size + 1]? = some (.cells #[v, .slice none 0 0, .slice none 0 0, .slice none 0 0, .slice none 0 0, .int .i64 0, .int .i64 0, .bool false] 32) ∧ wr.heap[w.heap.size]? = some (.cells #[.slice none 0 0, .slice none 0 0, .slice none 0 0, .slice none 0 0, .slice none 0 0, .int .i64 0, .int .i64 0, .bool false] 32) ∧ wr.ownsRow (w.heap.size + 2) 133 8 v ((k + 7) / 8) ((padTo (ws.take k) (8 * ((k + 7) / 8))).map vu64) ∧ Below w.heap.size w wr ∧ w.heap.size + 2 ≤ wr.heap.size) (fun i _ => n - (intOf i).toNat)
  case atStart => exact ⟨0, Nat.zero_le _, rfl, _, HG1.out, HG0.out, ⟨rfl, .inl ⟨rfl, rfl⟩⟩, HB0.out, by rw [hsz0.out]; exact Nat.le_refl _⟩
  case round =>
    obtain ⟨k, hk, rfl, v, hv1, hv0, ho, hb, hsz⟩ := hrel
    by_cases hlt : k < n
    · have hlt' : (k : Int) < (n : Int) := by omega
      obtain ⟨b, off, rfl, hcs⟩ : ∃ b off, a = some ⟨b, off, none⟩ ∧ wr.cell? ⟨b, off + k, none⟩ = some (vu64 (ws.getD k 0)) := by
        obtain ⟨b, off, rfl, hb', hcs⟩ := (HC.out.below hb (Nat.le_refl _)).atMap 0 (show k < ws.length by rw [HN.out]; exact hlt)
        exact ⟨b, off, rfl, hcs k (by rw [HN.out]; exact hlt)⟩
      have HX : Hid (k < ws.length) := Lib.hid (by rw [HN.out]; exact hlt)
      obtain ⟨a1, c1, rfl, hc1, hm1⟩ := owned_form ho
      have e0 : wr.cell? ⟨w.heap.size + 1, 0, none⟩ = some (.slice a1 ((k + 7) / 8) c1) := cell_of_row _ _ 0 _ _ _ hv1
      have f0 : wr.frozen? ⟨w.heap.size + 1, 0, none⟩ = false := frozen_of_row _ _ _ _ _ hv1
      by_cases hz : k % 8 = 0
      · have hz1 : ((k : Int) % 8 == 0) = true := by simp; omega
        have hz2 : (k % 8 == 0) = true := by simpa using hz
        have HZ := Lib.hid hz
        have hm : (k + 7) / 8 = k / 8 := by omega
        rw [hm] at ho e0
        have HO := Lib.hid ho
        have HV1 := Lib.hid hv1
        have HV0 := Lib.hid hv0
        have HB := Lib.hid hb
        have hk9 : k / 8 < 1000000000000 := by omega
        have hone : Hid (∀ u ∈ (#[vu64 0, vu64 0, vu64 0, vu64 0, vu64 0, vu64 0, vu64 0, vu64 0] : Array Value).toList, u.oneCell' = true) := Lib.hid (by decide)
        have hbase := Lib.hid hsz
        clear ho hv1 hv0 hb hz hm hsz
        go_wp2_with (at_builtin; refine wpList_append_new (us := #[vu64 0, vu64 0, vu64 0, vu64 0, vu64 0, vu64 0, vu64 0, vu64 0]) elLine HO.out rfl hone.out hk9 (by decide) hbase.out rfl rfl rfl (by simp [Act.eval]) ?_; intro g6 c6 w6 ho6 hg6 hc6 hm6 hb6 hl6; have HO6 := Lib.hid ho6; have HG6 := Lib.hid hg6; have HH6 := Lib.hid (And.intro (grown_heap hg6 HO.out (by omega) HV1.out) (grown_heap hg6 HO.out (by omega) HV0.out)); have e6 := cell_of_row _ _ 0 _ _ _ HH6.out.1; have f6 : w6.frozen? ⟨w.heap.size + 1, 0, none⟩ = false := frozen_of_row _ _ _ _ _ HH6.out.1; clear ho6 hg6)
        rw [pad_append _ _ HZ.out HX.out] at HO6
        obtain ⟨hv17, hv07⟩ := HH6.out
        have hv1 := heap_setCell_same w6 (w.heap.size + 1) 0 _ _ (.slice (some ⟨g6, 0, none⟩) (k / 8 + 1) c6) hv17
        have hv0 : (w6.setCell ⟨w.heap.size + 1, 0, none⟩ (.slice (some ⟨g6, 0, none⟩) (k / 8 + 1) c6)).heap[w.heap.size]? = _ := (Below.heap_setCell _ _ _ _ (by simp)).trans hv07
        have hb7 : Below w.heap.size w (w6.setCell ⟨w.heap.size + 1, 0, none⟩ (.slice (some ⟨g6, 0, none⟩) (k / 8 + 1) c6)) := (below_grownBy HB.out HO.out HG6.out (Nat.le_refl _) (by omega)).setCell (by simp) _
        have ho7 := ownsRow_setCell_below HO6.out (a := ⟨w.heap.size + 1, 0, none⟩) (by simp) (.slice (some ⟨g6, 0, none⟩) (k / 8 + 1) c6)
        have hsz7 : w.heap.size + 2 ≤ (w6.setCell ⟨w.heap.size + 1, 0, none⟩ (.slice (some ⟨g6, 0, none⟩) (k / 8 + 1) c6)).heap.size := by simp [World.setCell]; omega
        generalize w6.setCell ⟨w.heap.size + 1, 0, none⟩ (.slice (some ⟨g6, 0, none⟩) (k / 8 + 1) c6) = w7 at *
        have E0 : w7.cell? ⟨w.heap.size + 1, 0, none⟩ = some (.slice (some ⟨g6, 0, none⟩) (k / 8 + 1) c6) := cell_of_row _ _ 0 _ _ _ hv1
        have CW : w7.cell? ⟨b, off + k, none⟩ = some (vu64 (ws.getD k 0)) := by
          obtain ⟨b', off', he, hb', hcs'⟩ := (HC.out.below hb7 (Nat.le_refl _)).atMap 0 HX.out
          simp at he
          obtain ⟨rfl, rfl⟩ := he
          exact hcs' k HX.out
        obtain ⟨xk, hxk⟩ : ∃ xk, xk = ws.getD k 0 := ⟨_, rfl⟩
        rw [← hxk] at CW
        have HXK := Lib.hid hxk
        have HO7 := Lib.hid ho7
        have HV1 := Lib.hid hv1
        have HV0 := Lib.hid hv0
        have HB7 := Lib.hid hb7
        clear ho7 hv1 hv0 hb7 HO6 HG6 hv17 hv07 HH6 e6 f6 HO HB hcs e0 f0 hxk
        have hM : k / 8 < k / 8 + 1 := by omega
        have f1 := fun x => later_cell E0 x
        have f2 := fun x => later_cell CW x
        have hq3 : 0 ≤ (k : Int) / 8 := by omega
        have hq4 : ((k : Int) / 8).toNat = k / 8 := by omega
        have hq5 : (k : Int) / 8 < (k : Int) / 8 + 1 := by omega
        have hq6 : 0 ≤ (k : Int) % 8 := by omega
        have hq7 : ((k : Int) % 8).toNat = k % 8 := by omega
        have hq8 : (k : Int) % 8 < 8 := by omega
        have hq9 : k % 8 < 8 := by omega
        have hq2 : (k : Int).tmod 8 = (k : Int) % 8 := Int.tmod_eq_emod_of_nonneg (by omega)
        have hq1 : IntKind.i64.wrap ((k : Int) / 8) = (k : Int) / 8 := IntWalk.i64_in _ (by omega)
        refine wp_region_later_tail 12 ?hn ?hm ?hB ?_
        case hn => exact Nat.le_of_ble_eq_true rfl
        case hm => kernel_rfl
        case hB => kernel_rfl
        simp only [List.take_succ_cons, List.take_zero, List.drop_succ_cons, List.drop_zero]
        repeat (quiet_step (fail))
        refine wpQuiet_nil ?_
        rintro w8 ⟨x, hx8⟩
        have hb8 : Below w7.heap.size w7 w8 := by rw [hx8]; exact x.below
        have ho8 := owned_below HO7.out hb8 (Nat.le_refl _)
        have hr8 := owned_row ho8
        have hl8 : k < ((padTo (ws.take k) (8 * (k / 8 + 1))).map vu64).length := by rw [List.length_map, pad_length _ _ _ (Nat.le_of_lt HX.out) (by omega)]; omega
        have e8 : w8.cell? ⟨g6, k / 8 * 8 + k % 8, none⟩ = some (((padTo (ws.take k) (8 * (k / 8 + 1))).map vu64)[k]'hl8) := by
          rw [show k / 8 * 8 + k % 8 = k by omega]; exact hr8.cell (List.getElem?_eq_getElem hl8)
        generalize (((padTo (ws.take k) (8 * (k / 8 + 1))).map vu64)[k]'hl8) = old at e8
        have f8 : w8.frozen? ⟨g6, k / 8 * 8 + k % 8, none⟩ = false := hr8.frozen _
        have hst := ho8.stored k (vu64 xk)
        rw [HXK.out, pad_set _ _ _ HX.out (by omega), ← HXK.out] at hst
        have HST := Lib.hid hst
        have HO8 := Lib.hid ho8
        have hgl : w.heap.size + 1 < w7.heap.size := by omega
        have hgg : w.heap.size + 2 ≤ g6 := by assumption
        have HV18 : Hid (w8.heap[w.heap.size + 1]? = _) := Lib.hid ((hb8.block _ hgl).trans HV1.out)
        have HV08 : Hid (w8.heap[w.heap.size]? = _) := Lib.hid ((hb8.block _ (by omega)).trans HV0.out)
        have HB8 : Hid (Below w.heap.size w w8) := Lib.hid (HB7.out.trans (hb8.mono HB7.out.size))
        have hs8 : w.heap.size + 2 ≤ w8.heap.size := by have := hb8.size; omega
        clear hx8 hb8 ho8 hr8 hl8 hst f1 f2 hq1 hq2 hq3 hq4 hq5 hq6 hq7 hq8 hq9 E0 CW x
        go_wp2_with fail
        refine ⟨⟨k + 1, by omega, vint (by omega), .slice (some ⟨g6, 0, none⟩) (k / 8 + 1) c6, ?_, ?_, ?_, ?_, ?_⟩, by simp [intOf]; omega⟩
        · exact (Below.heap_setCell _ _ _ _ (by simp; omega)).trans HV18.out
        · exact (Below.heap_setCell _ _ _ _ (by simp; omega)).trans HV08.out
        · rw [show (k + 1 + 7) / 8 = k / 8 + 1 by omega, show k / 8 * 8 + k % 8 = k by omega]; exact HST.out.1
        · exact HB8.out.setCell (by simp; omega) _
        · simp [World.setCell]; exact hs8
      · have hz1 : ((k : Int) % 8 == 0) = false := by simp; omega
        have hz2 : (k % 8 == 0) = false := by simpa using hz
        have hm : (k + 7) / 8 = k / 8 + 1 := by omega
        rw [hm] at ho e0
        obtain ⟨g6, c6, hge, hc6, hm6, hb6, hl6⟩ := owned_some ho (by omega)
        simp at hge
        obtain ⟨rfl, rfl⟩ := hge
        rw [hm] at hv1
        obtain ⟨xk, hxk⟩ : ∃ xk, xk = ws.getD k 0 := ⟨_, rfl⟩
        rw [← hxk] at hcs
        have HXK := Lib.hid hxk
        have E0 := e0
        have CW := hcs
        have HO7 := Lib.hid ho
        have HV1 := Lib.hid hv1
        have HV0 := Lib.hid hv0
        have HB7 := Lib.hid hb
        clear ho hv1 hv0 hb hz hm e0 hcs f0 hxk
        go_wp2_with fail
        have hM : k / 8 < k / 8 + 1 := by omega
        have f1 := fun x => later_cell E0 x
        have f2 := fun x => later_cell CW x
        have hq3 : 0 ≤ (k : Int) / 8 := by omega
        have hq4 : ((k : Int) / 8).toNat = k / 8 := by omega
        have hq5 : (k : Int) / 8 < (k : Int) / 8 + 1 := by omega
        have hq6 : 0 ≤ (k : Int) % 8 := by omega
        have hq7 : ((k : Int) % 8).toNat = k % 8 := by omega
        have hq8 : (k : Int) % 8 < 8 := by omega
        have hq9 : k % 8 < 8 := by omega
        have hq2 : (k : Int).tmod 8 = (k : Int) % 8 := Int.tmod_eq_emod_of_nonneg (by omega)
        have hq1 : IntKind.i64.wrap ((k : Int) / 8) = (k : Int) / 8 := IntWalk.i64_in _ (by omega)
        refine wp_region_later_tail 12 ?hn ?hm ?hB ?_
        case hn => exact Nat.le_of_ble_eq_true rfl
        case hm => kernel_rfl
        case hB => kernel_rfl
        simp only [List.take_succ_cons, List.take_zero, List.drop_succ_cons, List.drop_zero]
        repeat (quiet_step (fail))
        refine wpQuiet_nil ?_
        rintro w8 ⟨x, hx8⟩
        have hb8 : Below wr.heap.size wr w8 := by rw [hx8]; exact x.below
        have ho8 := owned_below HO7.out hb8 (Nat.le_refl _)
        have hr8 := owned_row ho8
        have hl8 : k < ((padTo (ws.take k) (8 * (k / 8 + 1))).map vu64).length := by rw [List.length_map, pad_length _ _ _ (Nat.le_of_lt HX.out) (by omega)]; omega
        have e8 : w8.cell? ⟨g6, k / 8 * 8 + k % 8, none⟩ = some (((padTo (ws.take k) (8 * (k / 8 + 1))).map vu64)[k]'hl8) := by
          rw [show k / 8 * 8 + k % 8 = k by omega]; exact hr8.cell (List.getElem?_eq_getElem hl8)
        generalize (((padTo (ws.take k) (8 * (k / 8 + 1))).map vu64)[k]'hl8) = old at e8
        have f8 : w8.frozen? ⟨g6, k / 8 * 8 + k % 8, none⟩ = false := hr8.frozen _
        have hst := ho8.stored k (vu64 xk)
        rw [HXK.out, pad_set _ _ _ HX.out (by omega), ← HXK.out] at hst
        have HST := Lib.hid hst
        have HO8 := Lib.hid ho8
        have hgl : w.heap.size + 1 < wr.heap.size := by omega
        have hgg : w.heap.size + 2 ≤ g6 := by assumption
        have HV18 : Hid (w8.heap[w.heap.size + 1]? = _) := Lib.hid ((hb8.block _ hgl).trans HV1.out)
        have HV08 : Hid (w8.heap[w.heap.size]? = _) := Lib.hid ((hb8.block _ (by omega)).trans HV0.out)
        have HB8 : Hid (Below w.heap.size w w8) := Lib.hid (HB7.out.trans (hb8.mono HB7.out.size))
        have hs8 : w.heap.size + 2 ≤ w8.heap.size := by have := hb8.size; omega
        clear hx8 hb8 ho8 hr8 hl8 hst f1 f2 hq1 hq2 hq3 hq4 hq5 hq6 hq7 hq8 hq9 E0 CW x
        go_wp2_with fail
        refine ⟨⟨k + 1, by omega, vint (by omega), .slice (some ⟨g6, 0, none⟩) (k / 8 + 1) c1, ?_, ?_, ?_, ?_, ?_⟩, by simp [intOf]; omega⟩
        · exact (Below.heap_setCell _ _ _ _ (by simp; omega)).trans HV18.out
        · exact (Below.heap_setCell _ _ _ _ (by simp; omega)).trans HV08.out
        · rw [show (k + 1 + 7) / 8 = k / 8 + 1 by omega, show k / 8 * 8 + k % 8 = k by omega]; exact HST.out.1
        · exact HB8.out.setCell (by simp; omega) _
        · simp [World.setCell]; exact hs8
    · obtain rfl : k = n := by omega
      have hlt' : decide ((k : Int) < (k : Int)) = false := by simp
      have hlt2 : decide (k < k) = false := by simp
      rw [List.take_of_length_le (by rw [HN.out]; exact Nat.le_refl _)] at ho
      have hlen : (padTo ws (8 * ((k + 7) / 8))).length = 8 * ((k + 7) / 8) := by
        have := pad_length ws k ((k + 7) / 8) (by rw [HN.out]; exact Nat.le_refl _) (by omega)
        rwa [List.take_of_length_le (by rw [HN.out]; exact Nat.le_refl _)] at this
      have hu2 : ∀ z ∈ padTo ws (8 * ((k + 7) / 8)), z < 18446744073709551616 := fun z hz => by
        simp only [padTo, List.mem_append, List.mem_replicate] at hz
        rcases hz with hz | ⟨_, rfl⟩
        · exact HU.out z hz
        · decide
      have hMb : (k + 7) / 8 ≤ 20000 := by omega
      obtain ⟨M, hMe⟩ : ∃ M, M = (k + 7) / 8 := ⟨_, rfl⟩
      rw [← hMe] at ho hlen hu2 hMb
      obtain ⟨L, hLe⟩ : ∃ L, L = padTo ws (8 * M) := ⟨_, rfl⟩
      rw [← hLe] at ho hlen hu2
      have HRe : Hid (freshR (padTo ws (8 * ((k + 7) / 8))) ((k + 7) / 8) = freshR L M ∧ (k + 7) / 8 = M) := Lib.hid (by rw [← hMe, hLe]; exact ⟨rfl, rfl⟩)
      clear hMe hLe
      have HL := Lib.hid hlen
      have HU2 := Lib.hid hu2
      obtain ⟨a1, c1, rfl, hc1, hm1⟩ := owned_form ho
      have e0 : wr.cell? ⟨w.heap.size + 1, 0, none⟩ = some (.slice a1 M c1) := cell_of_row _ _ 0 _ _ _ hv1
      have e1 : wr.cell? ⟨w.heap.size + 1, 1, none⟩ = some (.slice none 0 0) := cell_of_row _ _ 1 _ _ _ hv1
      have HO := Lib.hid ho
      have HV1 := Lib.hid hv1
      have HV0 := Lib.hid hv0
      have HB := Lib.hid hb
      have hone : Hid (∀ u ∈ L.map vu64, u.oneCell' = true) := Lib.hid (one_cells _)
      have hM9 : 0 + M < 1000000000000 := by omega
      have hbase := Lib.hid hsz
      have hnil : Hid (wr.ownsRow (w.heap.size + 2) 133 8 (.slice none 0 0) 0 []) := Lib.hid ⟨rfl, .inl ⟨rfl, rfl⟩⟩
      clear ho hv1 hv0 hb hlen hu2 hsz
      go_upto_region 9 with (at_builtin; refine wpList_append_rows elLine hnil.out HO.out hone.out hM9 (by decide) hbase.out rfl rfl rfl rfl ?_; intro v2 w2 ho2 hg2; rw [Nat.zero_add, List.nil_append] at ho2; obtain ⟨a2, c2, rfl, hc2, hm2⟩ := owned_form ho2; have HO2 := Lib.hid ho2; have HG2 := Lib.hid hg2; have HH2 := Lib.hid (And.intro (grown_heap hg2 hnil.out (by omega) HV1.out) (grown_heap hg2 hnil.out (by omega) HV0.out)); have e2 := cell_of_row _ _ 1 _ _ _ HH2.out.1; have f2 : w2.frozen? ⟨w.heap.size + 1, 1, none⟩ = false := frozen_of_row _ _ _ _ _ HH2.out.1; clear ho2 hg2)
      have st2 : LdSt w w2 _ := ⟨HH2.out.1, HH2.out.2, below_grownBy HB.out hnil.out HG2.out (Nat.le_refl _) (by omega), Nat.le_trans hbase.out HG2.out.size⟩
      have st := st2.set 1 (.slice a2 M c2)
      have hN := ownsRow_setCell_below (owned_grown HO.out HG2.out) (a := ⟨w.heap.size + 1, 1, none⟩) (by simp) (.slice a2 M c2)
      have hL := ownsRow_setCell_below HO2.out (a := ⟨w.heap.size + 1, 1, none⟩) (by simp) (.slice a2 M c2)
      generalize w2.setCell ⟨w.heap.size + 1, 1, none⟩ (.slice a2 M c2) = W2 at *
      have ST := Lib.hid st
      have HNo := Lib.hid hN
      have HLa := Lib.hid hL
      have e0' : W2.cell? ⟨w.heap.size + 1, 0, none⟩ = some (.slice a1 M c1) := st.cell 0 rfl
      have hb2 := Lib.hid st.size
      have hM8 : M < 1000000000000 := by omega
      have hz8 : Hid (∀ i, i < (#[vu64 0, vu64 0, vu64 0, vu64 0, vu64 0, vu64 0, vu64 0, vu64 0] : Array Value).size → (#[vu64 0, vu64 0, vu64 0, vu64 0, vu64 0, vu64 0, vu64 0, vu64 0] : Array Value)[i]? = some (vu64 0)) := Lib.hid (by intro i hi; simp at hi; rcases i with _ | _ | _ | _ | _ | _ | _ | _ | i <;> first | rfl | omega)
      clear st2 st hN hL e0 e1 e2 f2 HH2 HG2 HO2 HO HV1 HV0 HB hnil hbase
      go_upto_region 10 with (at_make; refine wpList_make_rows elLine (w.heap.size + 2) M (z := vu64 0) hz8.out rfl rfl hM8 (by decide) hb2.out rfl rfl rfl rfl ?_; intro w3 ho3 hg3; have S3 := Lib.hid (ST.out.grown hg3); have HO3 := Lib.hid ho3; have HG3 := Lib.hid hg3; have e3 : w3.cell? ⟨w.heap.size + 1, 2, none⟩ = some _ := S3.out.cell 2 rfl; have f3 := S3.out.frozen 2; clear ho3 hg3)
      have st := S3.out.set 2 (.slice (some ⟨W2.heap.size, 0, none⟩) M M)
      have hN := ownsRow_setCell_below (owned_grown HNo.out HG3.out) (a := ⟨w.heap.size + 1, 2, none⟩) (by simp) (.slice (some ⟨W2.heap.size, 0, none⟩) M M)
      have hL := ownsRow_setCell_below (owned_grown HLa.out HG3.out) (a := ⟨w.heap.size + 1, 2, none⟩) (by simp) (.slice (some ⟨W2.heap.size, 0, none⟩) M M)
      have hW := ownsRow_setCell_below HO3.out (a := ⟨w.heap.size + 1, 2, none⟩) (by simp) (.slice (some ⟨W2.heap.size, 0, none⟩) M M)
      generalize w3.setCell ⟨w.heap.size + 1, 2, none⟩ (.slice (some ⟨W2.heap.size, 0, none⟩) M M) = W3 at *
      clear ST HNo HLa e3 f3 e0' S3 HO3 HG3 hb2
      generalize W2.heap.size = g3 at *
      have ST := Lib.hid st
      have HNo := Lib.hid hN
      have HLa := Lib.hid hL
      have HWa := Lib.hid hW
      have e0' : W3.cell? ⟨w.heap.size + 1, 0, none⟩ = some (.slice a1 M c1) := st.cell 0 rfl
      have hb3 := Lib.hid st.size
      clear st hN hL hW
      go_upto_region 11 with (at_make; refine wpList_make_len elBool (w.heap.size + 2) M rfl rfl rfl hM8 (by decide) hb3.out rfl rfl rfl rfl ?_; intro w4 ho4 hg4; have S4 := Lib.hid (ST.out.grown hg4); have HO4 := Lib.hid ho4; have HG4 := Lib.hid hg4; have e4 : w4.cell? ⟨w.heap.size + 1, 3, none⟩ = some _ := S4.out.cell 3 rfl; have f4 := S4.out.frozen 3; clear ho4 hg4)
      have st := S4.out.set 3 (.slice (some ⟨W3.heap.size, 0, none⟩) M M)
      have lHNo := ownsRow_setCell_below (owned_grown HNo.out HG4.out) (a := ⟨w.heap.size + 1, 3, none⟩) (by simp) (.slice (some ⟨W3.heap.size, 0, none⟩) M M)
      have lHLa := ownsRow_setCell_below (owned_grown HLa.out HG4.out) (a := ⟨w.heap.size + 1, 3, none⟩) (by simp) (.slice (some ⟨W3.heap.size, 0, none⟩) M M)
      have lHWa := ownsRow_setCell_below (owned_grown HWa.out HG4.out) (a := ⟨w.heap.size + 1, 3, none⟩) (by simp) (.slice (some ⟨W3.heap.size, 0, none⟩) M M)
      have lnew := ownsRow_setCell_below HO4.out (a := ⟨w.heap.size + 1, 3, none⟩) (by simp) (.slice (some ⟨W3.heap.size, 0, none⟩) M M)
      generalize w4.setCell ⟨w.heap.size + 1, 3, none⟩ (.slice (some ⟨W3.heap.size, 0, none⟩) M M) = W4 at *
      clear ST HNo HLa HWa e4 f4 e0' S4 HO4 HG4 hb3
      generalize W3.heap.size = g4 at *
      have ST := Lib.hid st
      have HNo := Lib.hid lHNo
      have HLa := Lib.hid lHLa
      have HWa := Lib.hid lHWa
      have HDi := Lib.hid lnew
      have e0' : W4.cell? ⟨w.heap.size + 1, 0, none⟩ = some (.slice a1 M c1) := st.cell 0 rfl
      have hb4 := Lib.hid st.size
      clear st lHNo lHLa lHWa lnew
      go_upto_region 12 with (at_make; refine wpList_make_len elBool (w.heap.size + 2) M rfl rfl rfl hM8 (by decide) hb4.out rfl rfl rfl rfl ?_; intro w5 ho5 hg5; have S5 := Lib.hid (ST.out.grown hg5); have HO5 := Lib.hid ho5; have HG5 := Lib.hid hg5; have e5 : w5.cell? ⟨w.heap.size + 1, 4, none⟩ = some _ := S5.out.cell 4 rfl; have f5 := S5.out.frozen 4; clear ho5 hg5)
      have st := S5.out.set 4 (.slice (some ⟨W4.heap.size, 0, none⟩) M M)
      have lHNo := ownsRow_setCell_below (owned_grown HNo.out HG5.out) (a := ⟨w.heap.size + 1, 4, none⟩) (by simp) (.slice (some ⟨W4.heap.size, 0, none⟩) M M)
      have lHLa := ownsRow_setCell_below (owned_grown HLa.out HG5.out) (a := ⟨w.heap.size + 1, 4, none⟩) (by simp) (.slice (some ⟨W4.heap.size, 0, none⟩) M M)
      have lHWa := ownsRow_setCell_below (owned_grown HWa.out HG5.out) (a := ⟨w.heap.size + 1, 4, none⟩) (by simp) (.slice (some ⟨W4.heap.size, 0, none⟩) M M)
      have lHDi := ownsRow_setCell_below (owned_grown HDi.out HG5.out) (a := ⟨w.heap.size + 1, 4, none⟩) (by simp) (.slice (some ⟨W4.heap.size, 0, none⟩) M M)
      have lnew := ownsRow_setCell_below HO5.out (a := ⟨w.heap.size + 1, 4, none⟩) (by simp) (.slice (some ⟨W4.heap.size, 0, none⟩) M M)
      generalize w5.setCell ⟨w.heap.size + 1, 4, none⟩ (.slice (some ⟨W4.heap.size, 0, none⟩) M M) = W5 at *
      clear ST HNo HLa HWa HDi e5 f5 e0' S5 HO5 HG5 hb4
      generalize W4.heap.size = g5 at *
      have ST := Lib.hid st
      have HNo := Lib.hid lHNo
      have HLa := Lib.hid lHLa
      have HWa := Lib.hid lHWa
      have HDi := Lib.hid lHDi
      have HPe := Lib.hid lnew
      have e0' : W5.cell? ⟨w.heap.size + 1, 0, none⟩ = some (.slice a1 M c1) := st.cell 0 rfl
      have hb5 := Lib.hid st.size
      clear st lHNo lHLa lHWa lHDi lnew
      have e6 : W5.cell? ⟨w.heap.size + 1, 6, none⟩ = some _ := ST.out.cell 6 rfl
      have f6 := ST.out.frozen 6
      go_upto_region 13 with fail
      have st := ST.out.set 6 (.int .i64 (-1))
      have lHNo := ownsRow_setCell_below HNo.out (a := ⟨w.heap.size + 1, 6, none⟩) (by simp) (.int .i64 (-1))
      have lHLa := ownsRow_setCell_below HLa.out (a := ⟨w.heap.size + 1, 6, none⟩) (by simp) (.int .i64 (-1))
      have lHWa := ownsRow_setCell_below HWa.out (a := ⟨w.heap.size + 1, 6, none⟩) (by simp) (.int .i64 (-1))
      have lHDi := ownsRow_setCell_below HDi.out (a := ⟨w.heap.size + 1, 6, none⟩) (by simp) (.int .i64 (-1))
      have lHPe := ownsRow_setCell_below HPe.out (a := ⟨w.heap.size + 1, 6, none⟩) (by simp) (.int .i64 (-1))
      generalize W5.setCell ⟨w.heap.size + 1, 6, none⟩ (.int .i64 (-1)) = W6 at *
      clear ST HNo HLa HWa HDi HPe e6 f6 e0' hb5
      have HNo := Lib.hid lHNo
      have HLa := Lib.hid lHLa
      have HWa := Lib.hid lHWa
      have HDi := Lib.hid lHDi
      have HPe := Lib.hid lHPe
      have hcs : Hid (∀ i v, [Value.slice a1 M c1, .slice a2 M c2, .slice (some ⟨g3, 0, none⟩) M M, .slice (some ⟨g4, 0, none⟩) M M, .slice (some ⟨g5, 0, none⟩) M M, .int .i64 0, .int .i64 (-1), .bool false][i]? = some v → W6.cell? ⟨w.heap.size + 1, 0 + i, none⟩ = some v) := Lib.hid (fun i v hi => by
        rw [Nat.zero_add]; exact st.cell i (by simpa using hi))
      have HA0 := Lib.hid st.at0
      have hone8 : Hid ((#[.slice a1 M c1, .slice a2 M c2, .slice (some ⟨g3, 0, none⟩) M M, .slice (some ⟨g4, 0, none⟩) M M, .slice (some ⟨g5, 0, none⟩) M M, .int .i64 0, .int .i64 (-1), .bool false] : Array Value).all (·.oneCell') = true) := Lib.hid (by simp [Value.oneCell'])
      have HBl := Lib.hid st.below
      have HSz := Lib.hid st.size
      clear st lHNo lHLa lHWa lHDi lHPe
      go_wp2_with (first
        | (refine wpList_load_part aggRd [Value.slice a1 M c1, .slice a2 M c2, .slice (some ⟨g3, 0, none⟩) M M, .slice (some ⟨g4, 0, none⟩) M M, .slice (some ⟨g5, 0, none⟩) M M, .int .i64 0, .int .i64 (-1), .bool false] hcs.out rfl rfl rfl rfl ?_)
        | (refine wpList_store_row aggRd (cs := #[.slice a1 M c1, .slice a2 M c2, .slice (some ⟨g3, 0, none⟩) M M, .slice (some ⟨g4, 0, none⟩) M M, .slice (some ⟨g5, 0, none⟩) M M, .int .i64 0, .int .i64 (-1), .bool false]) HA0.out rfl rfl hone8.out rfl rfl rfl rfl ?_; intro w9 h9 g9 s9; have H9 := Lib.hid h9; have G9 := Lib.hid g9; have S9 := Lib.hid s9; clear h9 g9 s9))
      have hk : ∀ {e size : Nat} {v : Value} {xs : List Value}, W6.ownsRow (w.heap.size + 2) e size v M xs → ∃ a c, v = .slice a M c ∧ Cells w9 a xs := fun {e size v xs} h => by
        obtain ⟨a, c, rfl, hcl⟩ := cells_of_owned h
        refine ⟨a, c, rfl, ?_⟩
        rcases h.2 with ⟨h0, h1⟩ | ⟨g, cap, cur, hv, hb, hg, _⟩
        · have := h.1
          rw [h1] at this
          simp at this
          exact .inl this
        · simp at hv
          obtain ⟨rfl, rfl⟩ := hv
          rcases hcl with h | ⟨b', off', he, h⟩
          · exact .inl h
          · simp at he
            obtain ⟨rfl, rfl⟩ := he
            refine .inr ⟨g, 0, rfl, fun i v hi => ?_⟩
            rw [World.cell?_of_block (w := W6) (G9.out.block g (Array.getElem?_eq_some_iff.1 hg).1 (by simp; omega))]
            exact h i v hi
      obtain ⟨_, _, q1, k1⟩ := hk HNo.out
      obtain ⟨_, _, q2, k2⟩ := hk HLa.out
      obtain ⟨_, _, q3, k3⟩ := hk HWa.out
      obtain ⟨_, _, q4, k4⟩ := hk HDi.out
      obtain ⟨_, _, q5, k5⟩ := hk HPe.out
      cases q1; cases q2; cases q3; cases q4; cases q5
      refine bodyPost_ret (v := .agg #[.slice a1 M c1, .slice a2 M c2, .slice (some ⟨g3, 0, none⟩) M M, .slice (some ⟨g4, 0, none⟩) M M, .slice (some ⟨g5, 0, none⟩) M M, .int .i64 0, .int .i64 (-1), .bool false]) (results_cell_row rfl _ _ _ _ _ _ _ rfl H9.out Tryz.underlying32 rfl (by kernel_rfl)) rfl ⟨_, rfl, ?_, ?_, ?_⟩
      rw [HRe.out.1, HRe.out.2]
      refine ⟨⟨_, _, _, _, _, _, _, _, _, _, rfl, k1, k2, ?_, ?_, ?_⟩, HL.out, HL.out, ?_, ?_, ?_, HU2.out, HU2.out, ?_⟩
      · rw [show (freshR L M).wait = List.replicate (8 * M) 0 from rfl, List.map_replicate, Nat.mul_comm]; exact k3
      · rw [show (freshR L M).dirty = List.replicate M false from rfl, List.map_replicate]; exact k4
      · rw [show (freshR L M).pending = List.replicate M false from rfl, List.map_replicate]; exact k5
      · simp [freshR]
      · simp [freshR]
      · simp [freshR]
      · intro z hz; simp [freshR] at hz; omega
      · intro cs hcs i x n' c' hi
        have l1 := owned_addr HNo.out x
        have l2 := owned_addr HLa.out x
        have l3 := owned_addr HWa.out x
        have l4 := owned_addr HDi.out x
        have l5 := owned_addr HPe.out x
        simp only [Value.agg.injEq] at hcs
        subst hcs
        rcases i with _ | _ | _ | _ | _ | _ | _ | _ | i
        · simp at hi; have := l1 hi.1; omega
        · simp at hi; have := l2 hi.1; omega
        · simp at hi; have := l3 (by rw [hi.1]); omega
        · simp at hi; have := l4 (by rw [hi.1]); omega
        · simp at hi; have := l5 (by rw [hi.1]); omega
        all_goals simp at hi
      · refine HBl.out.trans (⟨G9.out.os, G9.out.tape, G9.out.output, G9.out.size, fun k' hk' => G9.out.block k' (by have := HBl.out.size; omega) (by simp; omega)⟩)

theorem rload_any (a : Option Addr) (n cap : Nat) (ws : List Nat) (hn : ws.length = n) (w : World) (hc : Cells w a (ws.map vu64)) (hl : n ≤ 100000) (hu : ∀ z ∈ ws, z < 18446744073709551616) :
    Calls Tryz.prog 34 #[.slice a n cap] w fun e w' => ∃ v, e = .returned v ∧ RAt w' v ((n + 7) / 8) (freshR (padTo ws (8 * ((n + 7) / 8))) ((n + 7) / 8)) ∧ Below w.heap.size w w' :=
  (rload_at a n cap ws hn w hc hl hu).mono fun _ _ ⟨v, h1, h2, _, h3⟩ => ⟨v, h1, h2, h3⟩

end Go.Proofs.YtebnelihlgdciaaGreat

/- nvm: Dirty, Crash. -/
namespace Go.Proofs.YtebnelihlgdciaaGreat
open Go.RowKit
set_option linter.unusedVariables false

theorem elInt : Elem Tryz.prog 81 3 (.int .i64 0) 1 8 := Elem.mk' Tryz.underlying81 (by kernel_rfl) rfl (by decide)
abbrev vi (n : Nat) : Value := .int .i64 (n : Int)

theorem owned_at {w : World} {base e n : Nat} {v : Value} {vs : List Value} (h : w.ownsRow base e 1 v n vs) : ∃ a c, v = .slice a n c ∧ vs.length = n ∧ ∀ i x, vs[i]? = some x → ∃ g, a = some ⟨g, 0, none⟩ ∧ base ≤ g ∧ w.cell? ⟨g, i, none⟩ = some x := by
  have hl : vs.length = n := by have := h.1; simpa using this
  rcases h.2 with ⟨h0, h1⟩ | ⟨g, cap, cur, rfl, hb, hg, h1, h2, h3, h4⟩
  · subst h0 h1
    simp at hl
    subst hl
    exact ⟨none, 0, rfl, rfl, by simp⟩
  · exact ⟨_, _, rfl, hl, fun i x hi => ⟨g, rfl, hb, (owned_row h).cell hi⟩⟩

/-- The dirty lines among the first k. -/
def dirtyL (ds : List Bool) : Nat → List Nat
  | 0 => []
  | k + 1 => dirtyL ds k ++ (if ds.getD k false then [k] else [])
theorem dirtyL_len (ds : List Bool) (k : Nat) : (dirtyL ds k).length ≤ k := by
  induction k with
  | zero => simp [dirtyL]
  | succ k ih => unfold dirtyL; split <;> simp <;> omega
theorem dirtyL_mem (ds : List Bool) (k l : Nat) : l ∈ dirtyL ds k ↔ l < k ∧ ds.getD l false = true := by
  induction k with
  | zero => simp [dirtyL]
  | succ k ih =>
    unfold dirtyL
    rw [List.mem_append, ih]
    constructor
    · rintro (⟨h1, h2⟩ | h)
      · exact ⟨by omega, h2⟩
      · split at h
        · rename_i hd
          simp at h; subst h; exact ⟨by omega, hd⟩
        · simp at h
    · rintro ⟨h1, h2⟩
      by_cases e : l = k
      · subst e; right; rw [if_pos h2]; simp
      · left; exact ⟨by omega, h2⟩

set_option maxHeartbeats 1000000 in
theorem dirty_any {w : World} {F : Foot} {S : Dev} (h : DevAt w F S) :
    Calls Tryz.prog 27 #[vdev F] w fun e w' => ∃ v, e = .returned v ∧ w'.ownsRow w.heap.size 3 1 v (dirtyL S.dirty S.dirty.length).length ((dirtyL S.dirty S.dirty.length).map vi) ∧ Below w.heap.size w w' := by
  have c1 : w.cell? ⟨F.d, 3, none⟩ = some (.slice (some ⟨F.t, 0, none⟩) S.dirty.length F.ct) := cell_of_row _ _ 3 _ _ _ h.head
  have hsm := h.small
  have hl := h.lenD
  have hn : S.dirty.length ≤ 1000000 := by omega
  have HR := Lib.hid h.dirty
  clear hsm hl h
  obtain ⟨n, hnn⟩ : ∃ n, n = S.dirty.length := ⟨_, rfl⟩
  rw [← hnn] at hn c1 ⊢
  have HN := Lib.hid hnn
  clear hnn
  go_enter Tryz.func27, Tryz.ntmps27
  go_wp2_with fail
  go_loopw [3, 11] (fun v i wr => ∃ k : Nat, k ≤ n ∧ i = .int .i64 k ∧ wr.ownsRow w.heap.size 3 1 v (dirtyL S.dirty k).length ((dirtyL S.dirty k).map vi) ∧ Below w.heap.size w wr) (fun _ i _ => n - (intOf i).toNat)
  case atStart => exact ⟨0, Nat.zero_le _, rfl, ⟨rfl, .inl ⟨rfl, rfl⟩⟩, Below.refl _ _⟩
  case round =>
    obtain ⟨k, hk, rfl, ho, hb⟩ := hrel
    obtain ⟨a1, c1', rfl, hc1, hm1⟩ := owned_form ho
    have hdl := dirtyL_len S.dirty k
    have HO := Lib.hid ho
    have HB := Lib.hid hb
    clear ho hb
    by_cases hlt : k < n
    · have hlt' : (k : Int) < (n : Int) := by omega
      have HS : Hid (dirtyL S.dirty (k + 1) = dirtyL S.dirty k ++ (if S.dirty.getD k false then [k] else [])) := Lib.hid rfl
      have d0 : wr.cell? ⟨F.t, k, none⟩ = some (.bool (S.dirty.getD k false)) := below_cells HB.out (HR.out.cell (by have := HN.out; simp [← this, hlt])) (Nat.le_refl _)
      cases hq : S.dirty.getD k false
      · rw [hq] at d0 HS
        clear hq
        go_wp2_with fail
        refine ⟨⟨k + 1, by omega, vint (by omega), ?_, HB.out⟩, by simp [intOf]; omega⟩
        rw [HS.out]
        simpa using HO.out
      · rw [hq] at d0 HS
        have hone : Hid (∀ u ∈ (#[Value.int .i64 (k : Int)] : Array Value).toList, u.oneCell' = true) := Lib.hid (by intro u hu; simp at hu; subst hu; rfl)
        have hbase : Hid (w.heap.size ≤ wr.heap.size) := Lib.hid HB.out.size
        have hk9 : Hid ((dirtyL S.dirty k).length < 1000000000000) := Lib.hid (by omega)
        clear hq hdl hc1 hm1
        generalize hz : (dirtyL S.dirty k).length = z at *
        have HZ := Lib.hid hz
        clear hz
        go_wp2_with (at_builtin; refine wpList_append_new (us := #[.int .i64 (k : Int)]) elInt HO.out rfl hone.out hk9.out (by decide) hbase.out rfl rfl rfl (by simp [Act.eval]) ?_; intro g6 c6 w6 ho6 hg6 hc6 hm6 hb6 hl6; have HO6 := Lib.hid ho6; have HG6 := Lib.hid hg6; clear ho6 hg6)
        refine ⟨⟨k + 1, by omega, vint (by omega), ?_, below_grownBy HB.out HO.out HG6.out (Nat.le_refl _) (Nat.le_refl _)⟩, by simp [intOf]; omega⟩
        rw [HS.out]
        simpa [HZ.out] using HO6.out
    · obtain rfl : k = n := by omega
      have hlt' : decide ((k : Int) < (k : Int)) = false := by simp
      go_wp2_with fail
      go_ret
      exact ⟨_, rfl, HO.out, HB.out⟩

/-- What becomes of one line. -/
def crashOne (S : Dev) (out : List Nat) (l c : Nat) : List Nat :=
  if c % 3 = 1 then (if S.pending.getD l false then splice out (8 * l) (seg S.flushed l) else out)
  else if c % 3 = 2 then splice out (8 * l) (seg S.cache l) else out
def crashTo (S : Dev) (ls cs : List Nat) : Nat → List Nat
  | 0 => S.lasting
  | i + 1 => crashOne S (crashTo S ls cs i) (ls.getD i 0) (cs.getD i 0)
def Dev.crashW (S : Dev) (cs : List Nat) : List Nat := crashTo S (dirtyL S.dirty S.dirty.length) cs (min (dirtyL S.dirty S.dirty.length).length cs.length)
def Dev.crash (S : Dev) (cs : List Nat) : Dev := freshDev (S.crashW cs) S.dirty.length

structure Dev.wf (S : Dev) : Prop where
  lenL : S.lasting.length = S.cache.length
  lenF : S.flushed.length = S.cache.length
  lenP : S.pending.length = S.dirty.length
  lenD : S.cache.length = 8 * S.dirty.length
  small : S.cache.length ≤ 1000000
  u64L : ∀ z ∈ S.lasting, z < 18446744073709551616
  u64C : ∀ z ∈ S.cache, z < 18446744073709551616
  u64F : ∀ z ∈ S.flushed, z < 18446744073709551616
theorem DevAt.wf {w : World} {F : Foot} {S : Dev} (h : DevAt w F S) : S.wf := ⟨h.lenL, h.lenF, h.lenP, h.lenD, h.small, h.u64L, h.u64C, h.u64F⟩

theorem crashTo_wf {S : Dev} (h : S.wf) (ls cs : List Nat) (hls : ∀ l ∈ ls, l < S.dirty.length) : ∀ i, i ≤ ls.length → (crashTo S ls cs i).length = S.cache.length ∧ ∀ z ∈ crashTo S ls cs i, z < 18446744073709551616
  | 0, _ => ⟨h.lenL, h.u64L⟩
  | i + 1, hi => by
    obtain ⟨h1, h2⟩ := crashTo_wf h ls cs hls i (by omega)
    have hl : ls.getD i 0 < S.dirty.length := hls _ (by simp [show i < ls.length by omega])
    have hD := h.lenD
    unfold crashTo crashOne
    generalize ls.getD i 0 = l at *
    split
    · split
      · have hs := seg_length S.flushed l (by rw [h.lenF]; omega)
        exact ⟨by rw [length_splice _ _ _ (by rw [hs]; omega)]; exact h1, splice_lt _ h2 (seg_lt _ h.u64F)⟩
      · exact ⟨h1, h2⟩
    · split
      · have hs := seg_length S.cache l (by omega)
        exact ⟨by rw [length_splice _ _ _ (by rw [hs]; omega)]; exact h1, splice_lt _ h2 (seg_lt _ h.u64C)⟩
      · exact ⟨h1, h2⟩

set_option maxHeartbeats 2000000 in
set_option maxRecDepth 100000 in
theorem crash_any {w : World} {F : Foot} {S : Dev} (h : DevAt w F S) (a : Option Addr) (m cap : Nat) (cs : List Nat) (hm : cs.length = m) (hc : Cells w a (cs.map vu8)) (hu : ∀ z ∈ cs, z < 256) (hmx : m ≤ 1000000000) :
    Calls Tryz.prog 11 #[vdev F, .slice a m cap] w fun e w' => ∃ G : Foot, e = .returned (vdev G) ∧ (∀ k ∈ G.list, w.heap.size ≤ k) ∧ DevAt w' G (S.crash cs) ∧ Below w.heap.size w w' := by
  have c0 : w.cell? ⟨F.d, 0, none⟩ = some (.slice (some ⟨F.l, 0, none⟩) S.cache.length F.cl) := cell_of_row _ _ 0 _ _ _ h.head
  have HWF := Lib.hid h.wf
  have HD := Lib.hid h
  have HMEM := Lib.hid h.mem
  have HM := Lib.hid hm
  have HC := Lib.hid hc
  have HU := Lib.hid hu
  clear hm hc hu
  have hls : ∀ l ∈ dirtyL S.dirty S.dirty.length, l < S.dirty.length := fun l hl => ((dirtyL_mem _ _ _).1 hl).1
  have hlsl := dirtyL_len S.dirty S.dirty.length
  have HCR : Hid (S.crash cs = freshDev (crashTo S (dirtyL S.dirty S.dirty.length) cs (min (dirtyL S.dirty S.dirty.length).length cs.length)) S.dirty.length) := Lib.hid rfl
  have hsml : S.cache.length ≤ 1000000 := h.small
  have HLD : Hid (S.cache.length = 8 * S.dirty.length) := Lib.hid h.lenD
  clear h
  have HLS := Lib.hid hls
  clear hls
  go_enter Tryz.func11, Tryz.ntmps11
  go_wp2_with fail
  refine (clone_any F.l 0 F.cl S.lasting HWF.out.lenL w (fun i v hi => by rw [Nat.zero_add]; exact HD.out.lasting.cell hi) (by rw [HWF.out.lenL]; exact hsml)).mono ?_
  rintro e w1 ⟨v1, rfl, ho1, hb1, hn1⟩
  obtain ⟨g, cg, rfl, hg1, hg2, hg3, hg4, hg5, hr1⟩ := NewRow.of ho1 hn1 (Nat.le_refl _)
  have hd1 := HD.out.below hb1
  have HB1 := Lib.hid hb1
  have HR1 := Lib.hid hr1
  have HD1 := Lib.hid hd1
  clear hb1 hr1 hd1
  clear ho1 hn1 HD c0
  go_wp2_with fail
  refine (dirty_any HD1.out).mono ?_
  rintro e w2 ⟨v2, rfl, ho2, hb2⟩
  generalize dirtyL S.dirty S.dirty.length = ls at *
  obtain ⟨a2, c2, rfl, hl2, hat2⟩ := owned_at ho2
  have HAT : Hid (∀ i, i < ls.length → ∃ b, a2 = some ⟨b, 0, none⟩ ∧ b ≠ g ∧ w2.cell? ⟨b, i, none⟩ = some (vi (ls.getD i 0))) := Lib.hid (fun i hi => by
    obtain ⟨b, h1, h2, h3⟩ := hat2 i (vi (ls.getD i 0)) (by simp [hi])
    exact ⟨b, h1, by omega, h3⟩)
  have HR2 := Lib.hid (HR1.out.keep (hb2.block g hg4))
  have HD2 := Lib.hid (HD1.out.below hb2)
  have HB2 := Lib.hid (HB1.out.trans (hb2.mono HB1.out.size))
  have HGF : Hid (∀ k ∈ F.list, k ≠ g) := Lib.hid (fun k hk e => by have := HMEM.out k hk; omega)
  clear hat2 ho2 hb2 HR1 HD1 HB1 hl2
  go_wp2_with fail
  go_loopw [16] (fun i wr => ∃ k : Nat, k ≤ ls.length ∧ k ≤ m ∧ i = .int .i64 k ∧ RowAt wr g 77 ((crashTo S ls cs k).map vu64) ∧ Touch [g] w2 wr) (fun i _ => ls.length - (intOf i).toNat)
  case atStart => exact ⟨0, Nat.zero_le _, Nat.zero_le _, rfl, HR2.out, Touch.refl _ _⟩
  case round =>
    obtain ⟨k, hk, hkm, rfl, hrr, htr⟩ := hrel
    have hol := (crashTo_wf HWF.out ls cs HLS.out k hk)
    have hdr := HD2.out.keep (fun b hb => htr.block b (HD2.out.mem b hb) (by simpa using HGF.out b hb))
    have HDr := Lib.hid hdr
    have HRr := Lib.hid hrr
    have HTr := Lib.hid htr
    have HOL := Lib.hid hol.1
    have HOU := Lib.hid hol.2
    clear hrr htr hol hdr
    have fin : Hid (k = min ls.length m → Calls Tryz.prog 29 #[.slice (some ⟨g, 0, none⟩) S.cache.length cg] wr fun e w' => ∃ G : Foot, e = .returned (vdev G) ∧ (∀ k ∈ G.list, w.heap.size ≤ k) ∧ DevAt w' G (S.crash cs) ∧ Below w.heap.size w w') := Lib.hid (fun hkk => by
      refine (load_any (crashTo S ls cs k) HOL.out HLD.out HRr.out hg1 hsml HOU.out).mono ?_
      rintro e w5 ⟨G, rfl, hG, hd5, hb5⟩
      have hbr : Below w.heap.size w wr := below_touch HB2.out HTr.out (fun q hq => by simp at hq; omega) (Nat.le_refl _)
      refine ⟨G, rfl, fun q hq => ?_, ?_, hbr.trans (hb5.mono hbr.size)⟩
      · rcases hG q hq with rfl | hq
        · exact hg3
        · exact Nat.le_trans hbr.size hq
      · rw [HCR.out, HM.out, ← hkk]
        exact hd5)
    by_cases hlt : k < ls.length
    · have hlt' : (k : Int) < (ls.length : Int) := by omega
      obtain ⟨b2, rfl, hbg, hcl⟩ := HAT.out k hlt
      have d0 : wr.cell? ⟨b2, k, none⟩ = some (vi (ls.getD k 0)) := cell_of_touch HTr.out (by simpa using hbg) hcl
      have hl1 : ls.getD k 0 < S.dirty.length := HLS.out _ (by simp [hlt])
      have HST0 : Hid (crashTo S ls cs (k + 1) = crashOne S (crashTo S ls cs k) (ls.getD k 0) (cs.getD k 0)) := Lib.hid rfl
      generalize ls.getD k 0 = l at *
      clear hcl
      by_cases hkm2 : k < m
      · have hkm' : ¬ (m : Int) ≤ (k : Int) := by omega
        obtain ⟨b3, o3, rfl, d1⟩ : ∃ b o, a = some ⟨b, o, none⟩ ∧ wr.cell? ⟨b, o + k, none⟩ = some (vu8 (cs.getD k 0)) := by
          have hwr : Cells wr a (cs.map vu8) := by
            have h1 := HC.out.below HB2.out (Nat.le_refl _)
            rcases HC.out with h0 | ⟨b, o, rfl, h0⟩
            · exact .inl h0
            · refine .inr ⟨b, o, rfl, fun i v hi => ?_⟩
              have hlt0 := World.block_lt_of_cell? _ _ (h0 i v hi)
              exact cell_of_touch HTr.out (by simp at hlt0 ⊢; omega) (below_cells HB2.out (h0 i v hi) (Nat.le_refl _))
          obtain ⟨b, o, h1, h2⟩ := hwr.atMap 0 (i := k) (by rw [HM.out]; exact hkm2)
          exact ⟨b, o, h1, h2.2 k (by rw [HM.out]; exact hkm2)⟩
        have hcu : cs.getD k 0 < 256 := HU.out _ (by simp [HM.out, hkm2])
        have e1 : wr.cell? ⟨F.d, 1, none⟩ = some (.slice (some ⟨F.c, 0, none⟩) S.cache.length F.cc) := cell_of_row _ _ 1 _ _ _ HDr.out.head
        have e2 : wr.cell? ⟨F.d, 2, none⟩ = some (.slice (some ⟨F.f, 0, none⟩) S.cache.length F.cf) := cell_of_row _ _ 2 _ _ _ HDr.out.head
        have e4 : wr.cell? ⟨F.d, 4, none⟩ = some (.slice (some ⟨F.p, 0, none⟩) S.dirty.length F.cp) := cell_of_row _ _ 4 _ _ _ HDr.out.head
        have p4 : wr.cell? ⟨F.p, l, none⟩ = some (.bool (S.pending.getD l false)) := HDr.out.pending.cell (by have := HWF.out.lenP; simp [show l < S.pending.length by omega])
        have h8 : 8 * l + 8 ≤ S.cache.length := by have := HLD.out; omega
        generalize cs.getD k 0 = c at *
        have HCC : Hid (c % 3 = 1 ∨ c % 3 = 2 ∨ c % 3 = 0) := Lib.hid (by omega)
        go_upto_region 7 with fail
        rcases HCC.out with hc | hc | hc
        · have hq : (((c : Int) % 3 == 1) = true) := by simp; omega
          cases hpd : S.pending.getD l false
          · rw [hpd] at p4
            have HST : Hid (crashTo S ls cs (k + 1) = crashTo S ls cs k) := Lib.hid (by rw [HST0.out, crashOne, if_pos hc, hpd]; rfl)
            clear hc hpd
            go_wp2_with fail
            refine ⟨⟨k + 1, by omega, by omega, vint (by omega), ?_, HTr.out⟩, by simp [intOf]; omega⟩
            rw [HST.out]
            exact HRr.out
          · rw [hpd] at p4
            have HST : Hid (crashTo S ls cs (k + 1) = splice (crashTo S ls cs k) (8 * l) (seg S.flushed l)) := Lib.hid (by rw [HST0.out, crashOne, if_pos hc, hpd]; rfl)
            clear hc hpd
            go_wp2_with fail
            have q1 := fun x => later_cell (w := wr) e2 x
            have hcap : S.cache.length ≤ F.cf := HDr.out.capF
            refine wp_region_seg (C := fun w' => ∃ x : Later (wr), w' = x.val) [.fl [0, 1, 2, 4, 5, 6, 7, 8, 9], .sq [3] true, .sq [10, 11] false] (by kernel_rfl) (by kernel_rfl) (by intro c a d v w h; cases d <;> exact h) ?_
            simp only [segs, picks, List.getElem?_cons_succ, List.getElem?_cons_zero]
            have hC1 := later_drew (wr)
            refine wpSeg_fl hC1 ?_
            repeat (first | go_big_quiet_step (fail) | quiet_step (fail))
            refine wpQuiet_nil ?_
            refine wpSeg_sq (fun K hK => ?_)
            go_wp2_with fail
            refine (part_any _ g S.cache.length cg l h8 hg1 hsml _).mono ?_
            rintro e w3 ⟨rfl, rfl⟩
            go_wp2_with fail
            refine hK _ _ (fun _ => hC1) ?_
            clear hK K
            refine wpSeg_last ?_
            go_wp2_with fail
            refine (part_any _ F.f S.cache.length F.cf l h8 hcap hsml _).mono ?_
            rintro e w3 ⟨rfl, rfl⟩
            have HRd : Hid (RowAt wr.drew g 77 ((crashTo S ls cs k).map vu64)) := Lib.hid (HRr.out.keep rfl)
            have HDd := Lib.hid (HDr.out.below (later_below hC1))
            have hsl : Hid ((seg S.flushed l).length = 8) := Lib.hid (seg_length S.flushed l (by have := HWF.out.lenF; omega))
            have HSg := Lib.hid (seg_cell HDd.out.flushed l)
            have hfit : Hid (8 * l + ((seg S.flushed l).map vu64).length ≤ ((crashTo S ls cs k).map vu64).length) := Lib.hid (by simp [hsl.out, HOL.out]; omega)
            have hmin : Hid (((seg S.flushed l).map vu64).length = Nat.min 8 8) := Lib.hid (by simp [hsl.out])
            go_wp2_with (refine wpList_copy_row (off := 8 * l) (dLen := 8) (sLen := 8) rfl rfl Tryz.underlying64 (by kernel_rfl) rfl rfl HRd.out ((seg S.flushed l).map vu64) hmin.out HSg.out hfit.out (one_cells _) ?_; intro w4 hr4 ht4; have HR4 := Lib.hid hr4; have HT4 := Lib.hid ht4; clear hr4 ht4)
            refine ⟨⟨k + 1, by omega, by omega, vint (by omega), ?_, HTr.out.trans ((Touch.ofBelow (later_below hC1)).trans HT4.out)⟩, by simp [intOf]; omega⟩
            rw [HST.out, ← splice_map]
            exact HR4.out
        · have hq : (((c : Int) % 3 == 1) = false) := by simp; omega
          have hq2 : (((c : Int) % 3 == 2) = true) := by simp; omega
          have HST : Hid (crashTo S ls cs (k + 1) = splice (crashTo S ls cs k) (8 * l) (seg S.cache l)) := Lib.hid (by rw [HST0.out, crashOne, if_neg (by omega), if_pos hc])
          clear hc
          go_wp2_with fail
          have q1 := fun x => later_cell (w := wr) e1 x
          have hcap : S.cache.length ≤ F.cc := HDr.out.capC
          refine wp_region_seg (C := fun w' => ∃ x : Later (wr), w' = x.val) [.fl [0, 1, 2, 4, 5, 6, 7, 8, 9], .sq [3] true, .sq [10, 11] false] (by kernel_rfl) (by kernel_rfl) (by intro c a d v w h; cases d <;> exact h) ?_
          simp only [segs, picks, List.getElem?_cons_succ, List.getElem?_cons_zero]
          have hC1 := later_drew (wr)
          refine wpSeg_fl hC1 ?_
          repeat (first | go_big_quiet_step (fail) | quiet_step (fail))
          refine wpQuiet_nil ?_
          refine wpSeg_sq (fun K hK => ?_)
          go_wp2_with fail
          refine (part_any _ g S.cache.length cg l h8 hg1 hsml _).mono ?_
          rintro e w3 ⟨rfl, rfl⟩
          go_wp2_with fail
          refine hK _ _ (fun _ => hC1) ?_
          clear hK K
          refine wpSeg_last ?_
          go_wp2_with fail
          refine (part_any _ F.c S.cache.length F.cc l h8 hcap hsml _).mono ?_
          rintro e w3 ⟨rfl, rfl⟩
          have HRd : Hid (RowAt wr.drew g 77 ((crashTo S ls cs k).map vu64)) := Lib.hid (HRr.out.keep rfl)
          have HDd := Lib.hid (HDr.out.below (later_below hC1))
          have hsl : Hid ((seg S.cache l).length = 8) := Lib.hid (seg_length S.cache l (by have := HWF.out.lenF; omega))
          have HSg := Lib.hid (seg_cell HDd.out.cache l)
          have hfit : Hid (8 * l + ((seg S.cache l).map vu64).length ≤ ((crashTo S ls cs k).map vu64).length) := Lib.hid (by simp [hsl.out, HOL.out]; omega)
          have hmin : Hid (((seg S.cache l).map vu64).length = Nat.min 8 8) := Lib.hid (by simp [hsl.out])
          go_wp2_with (refine wpList_copy_row (off := 8 * l) (dLen := 8) (sLen := 8) rfl rfl Tryz.underlying64 (by kernel_rfl) rfl rfl HRd.out ((seg S.cache l).map vu64) hmin.out HSg.out hfit.out (one_cells _) ?_; intro w4 hr4 ht4; have HR4 := Lib.hid hr4; have HT4 := Lib.hid ht4; clear hr4 ht4)
          refine ⟨⟨k + 1, by omega, by omega, vint (by omega), ?_, HTr.out.trans ((Touch.ofBelow (later_below hC1)).trans HT4.out)⟩, by simp [intOf]; omega⟩
          rw [HST.out, ← splice_map]
          exact HR4.out
        · have hq : (((c : Int) % 3 == 1) = false) := by simp; omega
          have hq2 : (((c : Int) % 3 == 2) = false) := by simp; omega
          have HST : Hid (crashTo S ls cs (k + 1) = crashTo S ls cs k) := Lib.hid (by rw [HST0.out, crashOne, if_neg (by omega), if_neg (by omega)])
          clear hc
          go_wp2_with fail
          refine ⟨⟨k + 1, by omega, by omega, vint (by omega), ?_, HTr.out⟩, by simp [intOf]; omega⟩
          rw [HST.out]
          exact HRr.out
      · obtain rfl : k = m := by omega
        have hkm' : (k : Int) ≤ (k : Int) := Int.le_refl _
        have HF := Lib.hid (fin.out (by omega))
        clear fin
        go_wp2_with fail
        refine HF.out.mono ?_
        rintro e w5 hz
        obtain ⟨G, rfl, hz2⟩ := hz
        have HZ2 := Lib.hid hz2
        clear hz2
        go_wp2_with fail
        go_ret
        exact ⟨G, rfl, HZ2.out⟩
    · obtain rfl : k = ls.length := by omega
      have hlt' : decide ((ls.length : Int) < (ls.length : Int)) = false := by simp
      have HF := Lib.hid (fin.out (by omega))
      clear fin
      go_wp2_with fail
      refine HF.out.mono ?_
      rintro e w5 hz
      obtain ⟨G, rfl, hz2⟩ := hz
      have HZ2 := Lib.hid hz2
      clear hz2
      go_wp2_with fail
      go_ret
      exact ⟨G, rfl, HZ2.out⟩

end Go.Proofs.YtebnelihlgdciaaGreat
