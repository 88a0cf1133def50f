/- slices.Equal, slices.Clone of words. -/
import Derived.Test.YtjgdplengfnkaaaD
import Derived.Test.YtjgdplengfnkaaaDx
import Derived.Lib.BufferMore
namespace Go.Proofs.Ytjgdplengfnkaaa
open Go.RowKit
set_option linter.unusedVariables false

set_option maxHeartbeats 400000 in
theorem sliceEq_any (a b : Option Addr) {n m : Nat} (ca cb : Nat) (xs ys : List Nat) (hn : xs.length = n) (hm : ys.length = m) (w : World) (h : Cells w a (xs.map vu64)) (h' : Cells w b (ys.map vu64)) (hl : xs.length ≤ 1000000000) (hl' : ys.length ≤ 1000000000) :
    Calls Try.prog 107 #[.slice a n ca, .slice b m cb] w fun e w' => e = .returned (.bool (decide (xs = ys))) ∧ Below w.heap.size w w' := by
  subst hn
  subst hm
  by_cases hlen : xs.length = ys.length
  · have HL := Lib.hid hlen
    have hne : ((xs.length : Int) != (ys.length : Int)) = false := by simp [hlen]
    rw [← hlen] at hl' ⊢
    rw [← hlen] at hne
    clear hlen
    go_enter Try.func107, Try.ntmps107
    go_wp2
    go_loopw [13] (fun i wr => ∃ k : Nat, k ≤ xs.length ∧ i = .int .i64 k ∧ Hid (∀ j, j < k → xs.getD j 0 = ys.getD j 0) ∧ Below w.heap.size w wr) (fun i _ => xs.length - (intOf i).toNat)
    case atStart => exact ⟨0, by omega, rfl, Lib.hid (by intro j hj; omega), Below.refl _ _⟩
    case round =>
      obtain ⟨k, hk, rfl, hs, hb⟩ := hrel
      by_cases hlt : k < xs.length
      · obtain ⟨b1, off1, rfl, hbs1, hc1⟩ := h.atMap 0 hlt
        obtain ⟨b2, off2, rfl, hbs2, hc2⟩ := h'.atMap 0 (by rw [← HL.out]; exact hlt)
        have hcell1 : wr.cell? ⟨b1, off1 + k, none⟩ = some (.int .u64 (xs.getD k 0 : Nat)) := by rw [hb.cell (p := ⟨b1, off1 + k, none⟩) hbs1]; exact hc1 k hlt
        have hcell2 : wr.cell? ⟨b2, off2 + k, none⟩ = some (.int .u64 (ys.getD k 0 : Nat)) := by rw [hb.cell (p := ⟨b2, off2 + k, none⟩) hbs2]; exact hc2 k (by rw [← HL.out]; exact hlt)
        have hlt' : (k : Int) < (xs.length : Int) := by omega
        have hk0 : (0 : Int) ≤ (k : Int) := by omega
        clear hc1 hc2
        obtain ⟨x, hx⟩ : ∃ x, x = xs.getD k 0 := ⟨_, rfl⟩
        obtain ⟨y, hy⟩ : ∃ y, y = ys.getD k 0 := ⟨_, rfl⟩
        rw [← hx] at hcell1
        rw [← hy] at hcell2
        have HX := Lib.hid hx
        have HY := Lib.hid hy
        clear hx hy
        by_cases hxy : x = y
        · have hxy1 : ((x : Int) != (y : Int)) = false := by simp [hxy]
          have HXY := Lib.hid hxy
          clear hxy
          go_wp2
          go_quiet (fail)
          go_wp2
          refine ⟨⟨k + 1, by omega, vint (by omega), Lib.hid ?_, below_drewN hb _⟩, by simp [intOf]; omega⟩
          intro j hj
          by_cases e : j = k
          · subst e; rw [← HX.out, ← HY.out]; exact HXY.out
          · exact hs.out j (by omega)
        · have hxy1 : ((x : Int) != (y : Int)) = true := by simp; omega
          have HXY := Lib.hid hxy
          clear hxy
          go_wp2
          go_quiet (fail)
          go_wp2
          go_ret
          exact ⟨ret_bool (by symm; rw [decide_eq_false_iff_not]; intro e; rw [e] at HX; exact HXY.out (HX.out.trans HY.out.symm)), below_drewN hb _⟩
      · go_wp2
        go_ret
        exact ⟨ret_bool (by symm; rw [decide_eq_true_iff]; exact getD_ext HL.out (fun j hj => hs.out j (by omega))), hb⟩
  · have hne : ((xs.length : Int) != (ys.length : Int)) = true := by simp; omega
    have HL := Lib.hid hlen
    clear hlen
    go_enter Try.func107, Try.ntmps107
    go_wp2
    go_ret
    exact ⟨ret_bool (by symm; rw [decide_eq_false_iff_not]; intro e; exact HL.out (by rw [e])), Below.refl _ _⟩

set_option maxHeartbeats 400000 in
set_option maxRecDepth 20000 in
theorem clone_any (b off : Nat) {n : Nat} (cap : Nat) (ws : List Nat) (hn : ws.length = n) (w : World) (h : ∀ i v, (ws.map vu64)[i]? = some v → w.cell? ⟨b, off + i, none⟩ = some v) (hl : ws.length ≤ 1000000) :
    Calls Try.prog 63 #[.slice (some ⟨b, off, none⟩) n cap] w fun e w' => ∃ v, e = .returned v ∧ w'.ownsRow w.heap.size 76 1 v n (ws.map vu64) ∧ Below w.heap.size w w' ∧ v ≠ .slice none 0 0 := by
  subst hn
  have H := Lib.hid h
  clear h
  go_enter Try.func63, Try.ntmps63
  have HO : Hid ((w.alloc (.cells #[] 76)).ownsRow w.heap.size 76 1 (.slice (some ⟨w.heap.size, 0, none⟩) 0 0) 0 []) :=
    Lib.hid ⟨rfl, .inr ⟨w.heap.size, 0, #[], rfl, Nat.le_refl _, heap_alloc_new w _, Nat.le_refl _, Nat.zero_le _, rfl, rfl⟩⟩
  have HB := Lib.hid (below_alloc w (.cells #[] 76))
  have HC : Hid (∀ j u, (ws.map vu64)[j]? = some u → (w.alloc (.cells #[] 76)).cell? ((⟨b, off, none⟩ : Addr).add j) = some u) := by
    apply Lib.hid
    intro j u hj
    have e : (⟨b, off, none⟩ : Addr).add j = ⟨b, off + j, none⟩ := by unfold Addr.add; split <;> simp_all
    have := H.out j u hj
    rw [e, HB.out.cell (World.block_lt_of_cell? _ _ this)]; exact this
  have hnil := fun w' => Lib.run_eql_slice_some_nil (P := Try.prog) w' (t := 22) ⟨b, off, none⟩ ws.length cap Try.underlying22
  go_wp2_with (at_builtin; refine wpList_append_many el64 HO.out (by simp) HC.out (one_cells ws) (by omega) (by decide) HB.out.size rfl rfl rfl rfl ?_; intro v' w2 ho2 hg2 hnn)
  go_ret
  refine ⟨_, rfl, by simpa using ho2, below_grownBy HB.out HO.out hg2 (Nat.le_refl _) (Nat.le_refl _), ?_⟩
  intro e
  have := hnn.1 e
  simp at this

end Go.Proofs.Ytjgdplengfnkaaa
