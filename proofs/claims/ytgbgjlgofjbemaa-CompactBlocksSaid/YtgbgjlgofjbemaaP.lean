/- The references' Right and Blocks over graphs. -/
import Derived.Test.YtgbgjlgofjbemaaO
import Derived.Deep.RegionHeld3
import Derived.Deep.QuietTactic
import Derived.BigQuiet
namespace Go.Proofs.Ytgbgjlgofjbemaa
open Go.RowKit

theorem inN_lo {n : Nat} {r : Int} (h : r < -1) : inN n r = false := by simp [inN]; omega
theorem inN_hi {n : Nat} {r : Int} (h : (n : Int) ≤ r) : inN n r = false := by simp [inN]; omega
theorem inN_in {n : Nat} {r : Int} (h1 : ¬ r < -1) (h2 : ¬ (n : Int) ≤ r) : inN n r = true := by simp [inN]; omega

set_option maxHeartbeats 1000000 in
set_option maxRecDepth 100000 in
theorem rright_any (ra an : Option Addr) (nr nn rc nc : Nat) (roots : List Int) (xs : List NodeV) (hnr : roots.length = nr) (hnn : xs.length = nn) (w : World)
    (hr : Cells w ra (roots.map (Value.int .i64))) (hx : NodesAt w an xs) (h1 : nr ≤ maxLen) (h2 : nn ≤ maxLen) :
    Calls Try.prog 28 #[.agg #[.slice ra nr rc, .slice an nn nc]] w fun e w' => e = .returned (.bool (rightB roots xs)) ∧ Below w.heap.size w w' := by
  subst hnr
  subst hnn
  unfold maxLen at h1 h2
  go_enter Try.func28, Try.ntmps28
  go_wp2_with fail
  have hb0 := below_alloc w (Obj.cells #[Value.slice ra roots.length rc, Value.slice an xs.length nc] 41)
  have hc0 := cell_alloc_new w #[Value.slice ra roots.length rc, Value.slice an xs.length nc] 41 0 (.slice ra roots.length rc) rfl
  have hc1 := cell_alloc_new w #[Value.slice ra roots.length rc, Value.slice an xs.length nc] 41 1 (.slice an xs.length nc) rfl
  have hg0 : w.heap.size < (w.alloc (Obj.cells #[Value.slice ra roots.length rc, Value.slice an xs.length nc] 41)).heap.size := by simp
  generalize w.alloc (Obj.cells #[Value.slice ra roots.length rc, Value.slice an xs.length nc] 41) = w0 at *
  have hr0 := hr.below hb0 (Nat.le_refl _)
  have hx0 := hx.below hb0 (Nat.le_refl _)
  clear hr hx
  go_loopw [3] (fun i wr => ∃ k : Nat, k ≤ roots.length ∧ i = .int .i64 k ∧ Hid ((roots.take k).all (inN xs.length) = true) ∧ Below w0.heap.size w0 wr) (fun i _ => roots.length - (intOf i).toNat)
  case atStart => exact ⟨0, by omega, rfl, Lib.hid (by simp), Below.refl _ _⟩
  case round =>
    obtain ⟨k, hk, rfl, hal, hbr⟩ := hrel
    have hc0r : wr.cell? ⟨w.heap.size, 0, none⟩ = some (.slice ra roots.length rc) := by rw [hbr.cell (p := ⟨w.heap.size, 0, none⟩) hg0]; exact hc0
    have hc1r : wr.cell? ⟨w.heap.size, 1, none⟩ = some (.slice an xs.length nc) := by rw [hbr.cell (p := ⟨w.heap.size, 1, none⟩) hg0]; exact hc1
    have hbw : Below w.heap.size w wr := hb0.trans (hbr.mono (Nat.le_of_lt hg0))
    by_cases hlt : k < roots.length
    · obtain ⟨b, off, rfl, hbs, hcs⟩ := hr0.atMap 0 hlt
      have hcell : wr.cell? ⟨b, off + k, none⟩ = some (.int .i64 (roots.getD k 0)) := by rw [hbr.cell (p := ⟨b, off + k, none⟩) hbs]; exact hcs k hlt
      have HT := Lib.hid (all_take_succ (inN xs.length) roots 0 k hlt hal.out)
      have HF := Lib.hid (all_false (inN xs.length) roots 0 k hlt)
      have k0 : (0 : Int) ≤ (k : Int) := by omega
      have k1 : (k : Int) < (roots.length : Int) := by omega
      clear hcs
      generalize roots.getD k 0 = r at *
      by_cases g1 : r < -1
      · have g1' : decide (r < -1) = true := by simp [g1]
        have HR : Hid (rightB roots xs = false) := Lib.hid (by unfold rightB; rw [HF.out (inN_lo g1)]; rfl)
        go_wp2_with fail
        go_quiet (fail)
        go_wp2_with fail
        go_ret
        exact ⟨ret_bool HR.out.symm, below_drewN hbw _⟩
      by_cases g2 : (xs.length : Int) ≤ r
      · have g1' : decide (r < -1) = false := by simp; omega
        have g2' : decide ((xs.length : Int) ≤ r) = true := by simp [g2]
        have HR : Hid (rightB roots xs = false) := Lib.hid (by unfold rightB; rw [HF.out (inN_hi g2)]; rfl)
        go_wp2_with fail
        go_quiet (fail)
        go_wp2_with fail
        go_ret
        exact ⟨ret_bool HR.out.symm, below_drewN hbw _⟩
      · have g1' : decide (r < -1) = false := by simp; omega
        have g2' : decide ((xs.length : Int) ≤ r) = false := by simp; omega
        have HI := Lib.hid (HT.out (inN_in g1 g2))
        go_wp2_with fail
        go_quiet (fail)
        go_wp2_with fail
        exact ⟨⟨k + 1, by omega, vint (by omega), HI, below_drewN hbr _⟩, by simp [intOf]; omega⟩
    · have HA : Hid (roots.all (inN xs.length) = true) := by
        have := hal.out
        rw [List.take_of_length_le (by omega)] at this
        exact Lib.hid this
      have HR : Hid (rightB roots xs = xs.all (nodeB xs.length)) := Lib.hid (by unfold rightB; rw [HA.out]; rfl)
      clear HA hal
      go_wp2_with fail
      obtain ⟨wo, rfl⟩ : ∃ wo : World, wo = wr := ⟨_, rfl⟩
      go_loopw [4] (fun i wr => ∃ k : Nat, k ≤ xs.length ∧ i = .int .i64 k ∧ Hid ((xs.take k).all (nodeB xs.length) = true) ∧ Below w0.heap.size w0 wr) (fun i _ => xs.length - (intOf i).toNat)
      case atStart => exact ⟨0, by omega, rfl, Lib.hid (by simp), hbr⟩
      case round =>
        clear hbw hbr hc1r hc0r
        obtain ⟨j, hj, rfl, hal, hbr⟩ := hrel
        have hc1r : wr.cell? ⟨w.heap.size, 1, none⟩ = some (.slice an xs.length nc) := by rw [hbr.cell (p := ⟨w.heap.size, 1, none⟩) hg0]; exact hc1
        have hbw : Below w.heap.size w wr := hb0.trans (hbr.mono (Nat.le_of_lt hg0))
        by_cases hlt : j < xs.length
        · obtain ⟨b, off, rfl, hbs, hcs⟩ := hx0.at hlt
          have hok := (hx0.2 _ (getD_mem hlt)).below hbr (Nat.le_refl _)
          have HT := Lib.hid (all_take_succ (nodeB xs.length) xs default j hlt hal.out)
          have HF := Lib.hid (all_false (nodeB xs.length) xs default j hlt)
          obtain ⟨hca, hcb⟩ := hcs j hlt
          rw [← hbr.cell (p := ⟨b, off + j * 2, none⟩) hbs] at hca
          rw [← hbr.cell (p := ⟨b, off + j * 2 + 1, none⟩) hbs] at hcb
          clear hcs
          rcases hxv : xs.getD j default with ⟨pa, pc, ptrs, da, dc, datas⟩
          rw [hxv] at hca hcb hok HT HF
          dsimp only at hca hcb
          obtain ⟨hp, hd, hpl, hdl⟩ := hok
          dsimp only at hp hd hpl hdl
          unfold maxLen at hpl hdl
          clear hal hxv
          by_cases g1 : 63 < ptrs.length
          · have HR2 : Hid (rightB roots xs = false) := Lib.hid (by rw [HR.out]; exact HF.out (by simp [nodeB]; omega))
            go_wp2_with fail
            go_ret
            exact ⟨ret_bool HR2.out.symm, hbw.alloc (Nat.le_trans (Nat.le_of_lt hg0) hbr.size) _⟩
          by_cases g2 : 16384 < datas.length
          · have HR2 : Hid (rightB roots xs = false) := Lib.hid (by rw [HR.out]; exact HF.out (by simp [nodeB]; omega))
            go_wp2_with fail
            go_ret
            exact ⟨ret_bool HR2.out.symm, hbw.alloc (Nat.le_trans (Nat.le_of_lt hg0) hbr.size) _⟩
          go_wp2_with fail
          have hb1 := below_alloc wr (Obj.cells #[Value.slice pa ptrs.length pc, Value.slice da datas.length dc] 60)
          have hn0 := cell_alloc_new wr #[Value.slice pa ptrs.length pc, Value.slice da datas.length dc] 60 0 (.slice pa ptrs.length pc) rfl
          have hn1 : wr.heap.size < (wr.alloc (Obj.cells #[Value.slice pa ptrs.length pc, Value.slice da datas.length dc] 60)).heap.size := by simp
          generalize wr.alloc (Obj.cells #[Value.slice pa ptrs.length pc, Value.slice da datas.length dc] 60) = w1 at *
          have hp1 := hp.below hb1 (Nat.le_refl _)
          have hc11 : w1.cell? ⟨w.heap.size, 1, none⟩ = some (.slice (some ⟨b, off, none⟩) xs.length nc) := by rw [hb1.cell (p := ⟨w.heap.size, 1, none⟩) (Nat.lt_of_lt_of_le hg0 hbr.size)]; exact hc1r
          have hb1' : Below w0.heap.size w0 w1 := hbr.trans (hb1.mono hbr.size)
          have hbw1 : Below w.heap.size w w1 := hb0.trans (hb1'.mono (Nat.le_of_lt hg0))
          have hgs : w.heap.size < w1.heap.size := Nat.lt_of_lt_of_le hg0 hb1'.size
          have hsz : wr.heap.size = wr.heap.size := rfl
          generalize wr.heap.size = gn at *
          obtain ⟨wq, rfl⟩ : ∃ wq : World, wq = wr := ⟨_, rfl⟩
          clear hca hcb hp hd hb1 hsz hc1r hbw
          go_loopw [6] (fun i wr => ∃ t : Nat, t ≤ ptrs.length ∧ i = .int .i64 t ∧ Hid ((ptrs.take t).all (inN xs.length) = true) ∧ Below w1.heap.size w1 wr) (fun i _ => ptrs.length - (intOf i).toNat)
          case atStart => exact ⟨0, by omega, rfl, Lib.hid (by simp), Below.refl _ _⟩
          case round =>
            obtain ⟨t, ht, rfl, hal, hbt⟩ := hrel
            have e1 : wr.cell? ⟨w.heap.size, 1, none⟩ = some (.slice (some ⟨b, off, none⟩) xs.length nc) := by rw [hbt.cell (p := ⟨w.heap.size, 1, none⟩) hgs]; exact hc11
            have e2 : wr.cell? ⟨gn, 0, none⟩ = some (.slice pa ptrs.length pc) := by rw [hbt.cell (p := ⟨gn, 0, none⟩) hn1]; exact hn0
            have hbw2 : Below w.heap.size w wr := hbw1.trans (hbt.mono (Nat.le_of_lt hgs))
            by_cases hlt2 : t < ptrs.length
            · obtain ⟨b2, off2, rfl, hbs2, hcs2⟩ := hp1.atMap 0 hlt2
              have hcell : wr.cell? ⟨b2, off2 + t, none⟩ = some (.int .i64 (ptrs.getD t 0)) := by rw [hbt.cell (p := ⟨b2, off2 + t, none⟩) hbs2]; exact hcs2 t hlt2
              have HT2 := Lib.hid (all_take_succ (inN xs.length) ptrs 0 t hlt2 hal.out)
              have HF2 := Lib.hid (all_false (inN xs.length) ptrs 0 t hlt2)
              have k0 : (0 : Int) ≤ (t : Int) := by omega
              have k1 : (t : Int) < (ptrs.length : Int) := by omega
              clear hcs2
              generalize ptrs.getD t 0 = r at *
              by_cases g3 : r < -1
              · have g3' : decide (r < -1) = true := by simp [g3]
                have HR2 : Hid (rightB roots xs = false) := Lib.hid (by rw [HR.out]; exact HF.out (by simp only [nodeB]; rw [HF2.out (inN_lo g3)]; simp))
                go_wp2_with fail
                go_quiet (fail)
                go_wp2_with fail
                go_ret
                exact ⟨ret_bool HR2.out.symm, below_drewN hbw2 _⟩
              by_cases g4 : (xs.length : Int) ≤ r
              · have g3' : decide (r < -1) = false := by simp; omega
                have g4' : decide ((xs.length : Int) ≤ r) = true := by simp [g4]
                have HR2 : Hid (rightB roots xs = false) := Lib.hid (by rw [HR.out]; exact HF.out (by simp only [nodeB]; rw [HF2.out (inN_hi g4)]; simp))
                go_wp2_with fail
                go_quiet (fail)
                go_wp2_with fail
                go_ret
                exact ⟨ret_bool HR2.out.symm, below_drewN hbw2 _⟩
              · have g3' : decide (r < -1) = false := by simp; omega
                have g4' : decide ((xs.length : Int) ≤ r) = false := by simp; omega
                have HI := Lib.hid (HT2.out (inN_in g3 g4))
                go_wp2_with fail
                go_quiet (fail)
                go_wp2_with fail
                exact ⟨⟨t + 1, by omega, vint (by omega), HI, below_drewN hbt _⟩, by simp [intOf]; omega⟩
            · have HA : Hid (nodeB xs.length ⟨pa, pc, ptrs, da, dc, datas⟩ = true) := by
                have := hal.out
                rw [List.take_of_length_le (by omega)] at this
                apply Lib.hid
                simp only [nodeB]
                rw [this]
                simp
                omega
              clear hal
              go_wp2_with fail
              exact ⟨⟨j + 1, by omega, vint (by omega), Lib.hid (HT.out HA.out), hb1'.trans (hbt.mono hb1'.size)⟩, by simp [intOf]; omega⟩
        · have HR2 : Hid (rightB roots xs = true) := by
            have := hal.out
            rw [List.take_of_length_le (by omega)] at this
            exact Lib.hid (HR.out.trans this)
          clear hal
          go_wp2_with fail
          go_ret
          exact ⟨ret_bool HR2.out.symm, hbw⟩

end Go.Proofs.Ytgbgjlgofjbemaa
