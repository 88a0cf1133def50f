/- The reference's device, read: Get; all headers. -/
import Derived.Test.YtjgdplengfnkaaaBk
import Derived.Test.YtjgdplengfnkaaaHdD
namespace Go.Proofs.Ytjgdplengfnkaaa
open Go.RowKit
set_option linter.unusedVariables false

theorem peek_neg (l : List Nat) (i : Int) (h : i < 0) : peek l i = 0 := by unfold peek; rw [if_neg (by omega)]
theorem peek_out (l : List Nat) (j : Nat) (h : l.length ≤ j) : peek l (j : Int) = 0 := by
  unfold peek; rw [if_pos (by omega)]; simp [List.getElem?_eq_none h]
theorem peek_in (l : List Nat) (j : Nat) : peek l (j : Int) = l.getD j 0 := by unfold peek; rw [if_pos (by omega)]; rfl

set_option maxHeartbeats 400000 in
theorem rget_any (a : Option Addr) (n cap : Nat) (ls : List Nat) (w : World) (hc : Cells w a (ls.map vu64)) (hl : ls.length = 8 * n) (hn : n ≤ 100000) (i : Int) :
    Calls Try.prog 44 #[.slice a n cap, .int .i64 i] w fun e w' => e = .returned (vu64 (peek ls i)) ∧ w = w' := by
  by_cases h0 : i < 0
  · have HV := Lib.hid (peek_neg ls i h0)
    clear hl hc
    go_enter Try.func44, Try.ntmps44
    go_wp2_with fail
    go_ret
    exact ⟨ret_int (by rw [HV.out]; rfl), rfl⟩
  obtain ⟨j, rfl⟩ := Int.eq_ofNat_of_zero_le (show 0 ≤ i by omega)
  by_cases h1 : j < 8 * n
  · obtain ⟨b, off, rfl, hb, hcs⟩ := hc.atMap 0 (show j < ls.length by omega)
    have hcell : w.cell? ⟨b, off + j / 8 * 8 + j % 8, none⟩ = some (vu64 (ls.getD j 0)) := by
      rw [show off + j / 8 * 8 + j % 8 = off + j by omega]; exact hcs j (by omega)
    have HV := Lib.hid (peek_in ls j)
    generalize ls.getD j 0 = x at *
    have hj8 : j / 8 < n := by omega
    have hj1 : (j : Int) < 8 * (n : Int) := by omega
    clear hl hc hcs h1
    go_enter Try.func44, Try.ntmps44
    go_wp2_with fail
    go_ret
    exact ⟨ret_int (by rw [HV.out]), rfl⟩
  · have HV := Lib.hid (peek_out ls j (by omega))
    have h2 : 8 * (n : Int) ≤ (j : Int) := by omega
    clear hl hc
    go_enter Try.func44, Try.ntmps44
    go_wp2_with fail
    go_ret
    exact ⟨ret_int (by rw [HV.out]; rfl), rfl⟩

theorem elRh : Elem Try.prog 37 46 (.agg #[.int .i64 0, .int .i64 0, .int .i64 0]) 3 24 := Elem.mk' Try.underlying37 (by kernel_rfl) rfl (by decide)

theorem grown_cell {w w' : World} {v : Value} {base e size n : Nat} {xs : List Value} (hg : w.grownBy w' v.ownBlock) (ho : w.ownsRow base e size v n xs) {p : Addr} {x : Value} (hb : p.block < base) (h : w.cell? p = some x) : w'.cell? p = some x := by
  have hlt := World.block_lt_of_cell? _ _ h
  rw [World.cell?_of_block (w := w) (hg.block p.block hlt (fun c => by have := (ho.lt p.block c.symm).1; omega))]; exact h

set_option maxHeartbeats 2000000 in
set_option maxRecDepth 100000 in
theorem rread_any (a : Option Addr) (n cap : Nat) (ls : List Nat) (v1 v2 v3 v4 v5 v6 v7 : Value) (w : World) (hc : Cells w a (ls.map vu64)) (hl : ls.length = 8 * n) (hn : n ≤ 100000) (hu : ∀ z ∈ ls, z < 18446744073709551616) (B : Nat) (hB1 : 1 ≤ B) (hB : B ≤ 1000) :
    Calls Try.prog 12 #[.agg #[.slice a n cap, v1, v2, v3, v4, v5, v6, v7], .int .i64 (B : Int)] w (ReadPost 46 (fun b : Nat => peek ls (256 + (b : Int))) B w) := by
  obtain ⟨f, hf⟩ : ∃ f : Nat → Nat, f = fun b : Nat => peek ls (256 + (b : Int)) := ⟨_, rfl⟩
  rw [← hf]
  have HF0 := Lib.hid hf
  generalize hP : ReadPost 46 f B w = Post
  have HPE := Lib.hid hP
  have HC := Lib.hid hc
  have HL := Lib.hid hl
  have HU := Lib.hid hu
  clear hf hP hc hl hu
  obtain ⟨w0, hw0⟩ : ∃ w0, w0 = (w.alloc (.cells #[.slice a n cap, v1, v2, v3, v4, v5, v6, v7] 31)).alloc (.cells #[.int .i64 0, .int .i64 0, .int .i64 0] 46) := ⟨_, rfl⟩
  have hb0 : Below w.heap.size w w0 := by rw [hw0]; exact (below_alloc _ _).alloc (by simp) _
  have hc0 : w0.cell? ⟨w.heap.size, 0, none⟩ = some (.slice a n cap) := by
    rw [hw0]
    exact below_cells (below_alloc _ _) (cell_alloc_new _ _ _ 0 _ rfl) (Nat.le_refl _)
  have ho0 : w0.ownsRow (w.heap.size + 1) 46 3 (.slice (some ⟨w.heap.size + 1, 0, none⟩) 1 1) 1 (hdCs (hds f 1)) := by
    refine ⟨rfl, .inr ⟨w.heap.size + 1, 1, #[.int .i64 0, .int .i64 0, .int .i64 0], rfl, Nat.le_refl _, ?_, Nat.le_refl _, by unfold maxLen; omega, rfl, rfl⟩⟩
    rw [hw0]
    have := heap_alloc_new (w.alloc (.cells #[.slice a n cap, v1, v2, v3, v4, v5, v6, v7] 31)) (.cells #[.int .i64 0, .int .i64 0, .int .i64 0] 46)
    simpa using this
  have HW0 := Lib.hid hw0
  have HB0 := Lib.hid hb0
  have HC0 := Lib.hid hc0
  have HO0 := Lib.hid ho0
  clear hw0 hb0 hc0 ho0
  go_enter Try.func12, Try.ntmps12
  go_wp2_with fail
  rw [← HW0.out]
  go_loopw [7, 8] (fun v i wr => ∃ k : Nat, 1 ≤ k ∧ k ≤ B ∧ i = .int .i64 k ∧ AllOk f k ∧ (∃ g c, v = .slice (some ⟨g, 0, none⟩) k c ∧ k ≤ c ∧ w.heap.size ≤ g) ∧ wr.ownsRow (w.heap.size + 1) 46 3 v k (hdCs (hds f k)) ∧ wr.cell? ⟨w.heap.size, 0, none⟩ = some (.slice a n cap) ∧ Below w.heap.size w wr) (fun _ i _ => B - (intOf i).toNat)
  case atStart => exact ⟨1, Nat.le_refl _, hB1, rfl, (fun b h1 h2 => by omega), ⟨_, _, rfl, Nat.le_refl _, by omega⟩, HO0.out, HC0.out, HB0.out⟩
  case round =>
    obtain ⟨k, hk1, hk2, rfl, hok, ⟨g, c, rfl, hkc, hgw⟩, ho, hcx, hb⟩ := hrel
    have HOK := Lib.hid hok
    have HO := Lib.hid ho
    have HB := Lib.hid hb
    have HCr := Lib.hid (HC.out.below hb (Nat.le_refl _))
    clear hok ho hb
    by_cases hlt : k < B
    · have hlt' : (k : Int) < (B : Int) := by omega
      go_wp2_with fail
      refine (rget_any a n cap ls _ HCr.out HL.out hn _).mono ?_
      rintro e w3 ⟨rfl, rfl⟩
      have HX : Hid (peek ls (256 + (k : Int)) = f k) := Lib.hid (by rw [HF0.out])
      have hx : f k < 18446744073709551616 := by rw [← HX.out]; exact peek_lt HU.out _
      rw [HX.out]
      go_wp2_with fail
      refine (rdecode_any (k : Int) (f k) (by omega) (by omega) hx _).mono ?_
      rintro e w4 ⟨rfl, hb4⟩
      have HF : Hid (⟨(decN k (f k)).k, (decN k (f k)).c, (decN k (f k)).l⟩ = hdF f k) := Lib.hid (by unfold hdF; rw [if_neg (by omega)])
      have HCc : Hid ((decN k (f k)).code = 0 ∨ (decN k (f k)).code ≠ 0) := Lib.hid (by omega)
      have HOK2 : Hid ((decN k (f k)).code = 0 → AllOk f (k + 1)) := Lib.hid (fun h => HOK.out.succ h)
      have HBad : Hid ((decN k (f k)).code ≠ 0 → ∀ w', Below w.heap.size w w' → Post (.returned (.tuple #[.slice none 0 0, .int .i64 k, .int .i64 21])) w') := Lib.hid (fun h w' hw' => by
        rw [← HPE.out]; exact ⟨hw', .inr ⟨k, hk1, hlt, HOK.out, h, rfl⟩⟩)
      unfold Dec.val
      generalize decN k (f k) = dd at *
      obtain ⟨dk, dc, dl, dcode⟩ := dd
      dsimp only at *
      have HB4 := Lib.hid hb4
      clear hb4
      rcases HCc.out with hz | hz
      · subst hz
        have HOK3 := Lib.hid (HOK2.out rfl)
        have HBE : Hid (Below w.heap.size w w4) := Lib.hid (HB.out.trans (HB4.out.mono HB.out.size))
        have hb5 := below_alloc w4 (Obj.cells #[Value.int .i64 dk, Value.int .i64 dc, Value.int .i64 dl] 46)
        have HO5 : Hid ((w4.alloc (Obj.cells #[Value.int .i64 dk, Value.int .i64 dc, Value.int .i64 dl] 46)).ownsRow (w.heap.size + 1) 46 3 (.slice (some ⟨g, 0, none⟩) k c) k (hdCs (hds f k))) := Lib.hid ((owned_below HO.out HB4.out (Nat.le_refl _)).alloc _)
        have HCX5 : Hid ((w4.alloc (Obj.cells #[Value.int .i64 dk, Value.int .i64 dc, Value.int .i64 dl] 46)).cell? ⟨w.heap.size, 0, none⟩ = some (.slice a n cap)) := Lib.hid (below_cells hb5 (below_cells HB4.out hcx (Nat.le_refl _)) (Nat.le_refl _))
        have HB5 : Hid (Below w.heap.size w (w4.alloc (Obj.cells #[Value.int .i64 dk, Value.int .i64 dc, Value.int .i64 dl] 46))) := Lib.hid (HBE.out.alloc HBE.out.size _)
        have hone : Hid (∀ u ∈ (#[Value.int .i64 dk, Value.int .i64 dc, Value.int .i64 dl] : Array Value).toList, u.oneCell' = true) := Lib.hid (by intro u hu; simp at hu; rcases hu with rfl | rfl | rfl <;> rfl)
        have hbase : Hid (w.heap.size + 1 ≤ (w4.alloc (Obj.cells #[Value.int .i64 dk, Value.int .i64 dc, Value.int .i64 dl] 46)).heap.size) := Lib.hid (by have := HBE.out.size; simp; omega)
        have hk9 : k < 1000000000000 := by omega
        clear hb5 hcx
        go_wp2_with (at_builtin; refine wpList_append_new (us := #[.int .i64 dk, .int .i64 dc, .int .i64 dl]) elRh HO5.out rfl hone.out hk9 (by decide) hbase.out rfl rfl rfl (by simp [Act.eval]) ?_; intro g6 c6 w6 ho6 hg6 hc6 hm6 hb6 hl6; have HO6 := Lib.hid ho6; have HG6 := Lib.hid hg6; clear ho6 hg6)
        refine ⟨⟨k + 1, by omega, by omega, vint (by omega), HOK3.out, ⟨g6, c6, rfl, hc6, by omega⟩, ?_, ?_, ?_⟩, by simp [intOf]; omega⟩
        · rw [hds_succ, hdCs_append, ← HF.out]
          exact HO6.out
        · exact grown_cell HG6.out HO5.out (by simp) HCX5.out
        · exact below_grownBy HB5.out HO5.out HG6.out (Nat.le_refl _) (by omega)
      · have hz1 : (dcode != 0) = true := by simpa using hz
        have HZ := Lib.hid (HBad.out hz)
        have HBE : Hid (Below w.heap.size w w4) := Lib.hid (HB.out.trans (HB4.out.mono HB.out.size))
        clear hz HBad HCc HOK2
        go_wp2_with fail
        go_ret3
        exact HZ.out _ (HBE.out.alloc (HBE.out.size) _)
    · obtain rfl : k = B := by omega
      have hlt' : decide ((k : Int) < (k : Int)) = false := by simp
      go_wp2_with fail
      go_ret3
      rw [← HPE.out]
      exact ⟨HB.out, .inl ⟨HOK.out, g, c, rfl, hgw, hkc, owned_row HO.out⟩⟩

end Go.Proofs.Ytjgdplengfnkaaa
