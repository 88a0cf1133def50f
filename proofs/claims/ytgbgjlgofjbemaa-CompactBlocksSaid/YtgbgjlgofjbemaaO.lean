/- Graph.Right. -/
import Derived.Test.YtgbgjlgofjbemaaN
namespace Go.Proofs.Ytgbgjlgofjbemaa
open Go.RowKit

set_option maxHeartbeats 1000000 in
theorem gright_any (ra an : Option Addr) (nr nn rc nc : Nat) (roots : List Int) (xs : List NodeV) (hnr : roots.length = nr) (hnn : xs.length = nn) (w : World)
    (hr : Cells w ra (roots.map (Value.int .i64))) (hx : NodesAt w an xs) (h1 : nr ≤ maxLen) (h2 : nn ≤ maxLen) :
    Calls Try.prog 24 #[.agg #[.slice ra nr rc, .slice an nn nc]] w fun e w' => e = .returned (.bool (rightB roots xs)) ∧ Below w.heap.size w w' := by
  subst hnr
  subst hnn
  unfold maxLen at h1 h2
  have HB := Lib.hid (below_alloc w)
  go_enter Try.func24, Try.ntmps24
  go_wp2_with fail
  have hb0 := below_alloc w (Obj.cells #[Value.slice ra roots.length rc, Value.slice an xs.length nc] 35)
  have hc0 := cell_alloc_new w #[Value.slice ra roots.length rc, Value.slice an xs.length nc] 35 0 (.slice ra roots.length rc) rfl
  have hc1 := cell_alloc_new w #[Value.slice ra roots.length rc, Value.slice an xs.length nc] 35 1 (.slice an xs.length nc) rfl
  have hg0 : w.heap.size < (w.alloc (Obj.cells #[Value.slice ra roots.length rc, Value.slice an xs.length nc] 35)).heap.size := by simp
  generalize w.alloc (Obj.cells #[Value.slice ra roots.length rc, Value.slice an xs.length nc] 35) = w0 at *
  have hr0 := hr.below hb0 (Nat.le_refl _)
  have hx0 := hx.below hb0 (Nat.le_refl _)
  clear HB hr hx
  go_loop [14] (fun i => ∃ k : Nat, k ≤ roots.length ∧ i = .int .i64 k ∧ Hid ((roots.take k).all (inN xs.length) = true)) (fun i => roots.length - (intOf i).toNat)
  case atStart => exact ⟨0, by omega, rfl, Lib.hid (by simp)⟩
  case round =>
    obtain ⟨k, hk, rfl, hal⟩ := hrel
    by_cases hlt : k < roots.length
    · obtain ⟨b, off, rfl, hbs, hcs⟩ := hr0.atMap 0 hlt
      have hcell : w0.cell? ⟨b, off + k, none⟩ = some (.int .i64 (roots.getD k 0)) := hcs k hlt
      have HT := Lib.hid (all_take_succ (inN xs.length) roots 0 k hlt hal.out)
      have HF := Lib.hid (all_false (inN xs.length) roots 0 k hlt)
      clear hcs
      generalize roots.getD k 0 = r at *
      go_wp2_with fail
      refine (in_any _ _ _ _ _ _ hc1 (by omega)).mono ?_
      rintro e w' ⟨rfl, rfl⟩
      cases hin : inN xs.length r
      · have HR : Hid (rightB roots xs = false) := Lib.hid (by unfold rightB; rw [HF.out hin]; rfl)
        clear hin
        go_wp2_with fail
        go_ret
        exact ⟨ret_bool HR.out.symm, hb0⟩
      · have HI := Lib.hid hin
        clear hin
        go_wp2_with fail
        exact ⟨⟨k + 1, by omega, vint (by omega), Lib.hid (HT.out HI.out)⟩, by simp [intOf]; omega⟩
    · have HA : Hid (roots.all (inN xs.length) = true) := by
        have := hal.out
        rw [List.take_of_length_le (by omega)] at this
        exact Lib.hid this
      have HR : Hid (rightB roots xs = xs.all (nodeB xs.length)) := Lib.hid (by unfold rightB; rw [HA.out]; rfl)
      clear HA hal
      go_wp2_with fail
      go_loopw [26] (fun i wr => ∃ k : Nat, k ≤ xs.length ∧ i = .int .i64 k ∧ Hid ((xs.take k).all (nodeB xs.length) = true) ∧ Below w0.heap.size w0 wr) (fun i _ => xs.length - (intOf i).toNat)
      case atStart => exact ⟨0, by omega, rfl, Lib.hid (by simp), Below.refl _ _⟩
      case round =>
        obtain ⟨j, hj, rfl, hal, hbr⟩ := hrel
        by_cases hlt : j < xs.length
        · obtain ⟨b, off, rfl, hbs, hcs⟩ := hx0.at hlt
          have hok := (hx0.2 _ (getD_mem hlt)).below hbr (Nat.le_refl _)
          have HT := Lib.hid (all_take_succ (nodeB xs.length) xs default j hlt hal.out)
          have HF := Lib.hid (all_false (nodeB xs.length) xs default j hlt)
          obtain ⟨hca, hcb⟩ := hcs j hlt
          rw [← hbr.cell (p := ⟨b, off + j * 2, none⟩) hbs] at hca
          rw [← hbr.cell (p := ⟨b, off + j * 2 + 1, none⟩) hbs] at hcb
          have hc1r : wr.cell? ⟨w.heap.size, 1, none⟩ = some (.slice (some ⟨b, off, none⟩) xs.length nc) := by rw [hbr.cell (p := ⟨w.heap.size, 1, none⟩) hg0]; exact hc1
          clear hcs
          rcases hxv : xs.getD j default with ⟨pa, pc, ptrs, da, dc, datas⟩
          rw [hxv] at hca hcb hok HT HF
          dsimp only at hca hcb
          obtain ⟨hp, hd, hpl, hdl⟩ := hok
          dsimp only at hp hd hpl hdl
          unfold maxLen at hpl hdl
          have hbw : Below w.heap.size w wr := hb0.trans (hbr.mono (Nat.le_of_lt hg0))
          clear hal
          by_cases g1 : 63 < ptrs.length
          · have HR2 : Hid (rightB roots xs = false) := Lib.hid (by rw [HR.out]; exact HF.out (by simp [nodeB]; omega))
            go_wp2_with fail
            go_ret
            exact ⟨ret_bool HR2.out.symm, hbw.alloc (Nat.le_trans (Nat.le_of_lt hg0) hbr.size) _⟩
          by_cases g2 : 16384 < datas.length
          · have HR2 : Hid (rightB roots xs = false) := Lib.hid (by rw [HR.out]; exact HF.out (by simp [nodeB]; omega))
            go_wp2_with fail
            go_ret
            exact ⟨ret_bool HR2.out.symm, hbw.alloc (Nat.le_trans (Nat.le_of_lt hg0) hbr.size) _⟩
          go_wp2_with fail
          have hb1 := below_alloc wr (Obj.cells #[Value.slice pa ptrs.length pc, Value.slice da datas.length dc] 50)
          generalize wr.alloc (Obj.cells #[Value.slice pa ptrs.length pc, Value.slice da datas.length dc] 50) = w1 at *
          have hp1 := hp.below hb1 (Nat.le_refl _)
          have hc11 : w1.cell? ⟨w.heap.size, 1, none⟩ = some (.slice (some ⟨b, off, none⟩) xs.length nc) := by rw [hb1.cell (p := ⟨w.heap.size, 1, none⟩) (Nat.lt_of_lt_of_le hg0 hbr.size)]; exact hc1r
          have hb1' : Below w0.heap.size w0 w1 := hbr.trans (hb1.mono hbr.size)
          have hbw1 : Below w.heap.size w w1 := hb0.trans (hb1'.mono (Nat.le_of_lt hg0))
          clear hca hcb hp hd hb1
          go_loop [43] (fun i => ∃ t : Nat, t ≤ ptrs.length ∧ i = .int .i64 t ∧ Hid ((ptrs.take t).all (inN xs.length) = true)) (fun i => ptrs.length - (intOf i).toNat)
          case atStart => exact ⟨0, by omega, rfl, Lib.hid (by simp)⟩
          case round =>
            obtain ⟨t, ht, rfl, hal⟩ := hrel
            by_cases hlt2 : t < ptrs.length
            · obtain ⟨b2, off2, rfl, hbs2, hcs2⟩ := hp1.atMap 0 hlt2
              have hcell : w1.cell? ⟨b2, off2 + t, none⟩ = some (.int .i64 (ptrs.getD t 0)) := hcs2 t hlt2
              have HT2 := Lib.hid (all_take_succ (inN xs.length) ptrs 0 t hlt2 hal.out)
              have HF2 := Lib.hid (all_false (inN xs.length) ptrs 0 t hlt2)
              clear hcs2
              generalize ptrs.getD t 0 = r at *
              go_wp2_with fail
              refine (in_any _ _ _ _ _ _ hc11 (by omega)).mono ?_
              rintro e w' ⟨rfl, rfl⟩
              cases hin : inN xs.length r
              · have HR2 : Hid (rightB roots xs = false) := Lib.hid (by rw [HR.out]; exact HF.out (by simp only [nodeB]; rw [HF2.out hin]; simp))
                clear hin
                go_wp2_with fail
                go_ret
                exact ⟨ret_bool HR2.out.symm, hbw1⟩
              · have HI := Lib.hid hin
                clear hin
                go_wp2_with fail
                exact ⟨⟨t + 1, by omega, vint (by omega), Lib.hid (HT2.out HI.out)⟩, by simp [intOf]; omega⟩
            · have HA : Hid (nodeB xs.length ⟨pa, pc, ptrs, da, dc, datas⟩ = true) := by
                have := hal.out
                rw [List.take_of_length_le (by omega)] at this
                apply Lib.hid
                simp only [nodeB]
                rw [this]
                simp
                omega
              clear hal
              go_wp2_with fail
              exact ⟨⟨j + 1, by omega, vint (by omega), Lib.hid (HT.out HA.out), hb1'⟩, by simp [intOf]; omega⟩
        · have HR2 : Hid (rightB roots xs = true) := by
            have := hal.out
            rw [List.take_of_length_le (by omega)] at this
            exact Lib.hid (HR.out.trans this)
          clear hal
          go_wp2_with fail
          go_ret
          exact ⟨ret_bool HR2.out.symm, hb0.trans (hbr.mono (Nat.le_of_lt hg0))⟩

end Go.Proofs.Ytgbgjlgofjbemaa
