/- The reference's Blocks of a graph. -/
import Derived.Test.YtgbgjlgofjbemaaT
import Derived.Test.YtgbgjlgofjbemaaP
import Derived.Test.YtgbgjlgofjbemaaReg
namespace Go.Proofs.Ytgbgjlgofjbemaa
open Go.RowKit

theorem ceil_lt (t m c : Nat) (hc : 0 < c) : t * c < m ↔ t < ceilK m c := by
  unfold ceilK
  have h : t < (m + c - 1) / c ↔ (t + 1) * c ≤ m + c - 1 := by rw [← Nat.le_div_iff_mul_le hc]; exact Iff.rfl
  rw [h, Nat.succ_mul]
  omega

set_option maxHeartbeats 2000000 in
set_option maxRecDepth 100000 in
theorem rblocks_any (ra an : Option Addr) (nr nn rc nc : Nat) (roots : List Int) (xs : List NodeV) (hnr : roots.length = nr) (hnn : xs.length = nn) (w : World)
    (hr : Cells w ra (roots.map (Value.int .i64))) (hx : NodesAt w an xs) (h1 : nr ≤ maxLen) (h2 : nn ≤ 1000) :
    Calls Try.prog 16 #[.agg #[.slice ra nr rc, .slice an nn nc]] w fun e w' => e = .returned (.int .i64 (blocksR roots xs : Nat)) ∧ Below w.heap.size w w' := by
  go_enter Try.func16, Try.ntmps16
  go_wp2_with fail
  have hb0 := below_alloc w (Obj.cells #[Value.slice ra nr rc, Value.slice an nn nc] 41)
  have hg0 := heap_alloc_new w (Obj.cells #[Value.slice ra nr rc, Value.slice an nn nc] 41)
  generalize w.alloc (Obj.cells #[Value.slice ra nr rc, Value.slice an nn nc] 41) = w0 at *
  refine (rright_any ra an nr nn rc nc roots xs hnr hnn w0 (hr.below hb0 (Nat.le_refl _)) (hx.below hb0 (Nat.le_refl _)) h1 (by unfold maxLen; omega)).mono ?_
  rintro e w1 ⟨rfl, hb1⟩
  have hgl : w.heap.size < w0.heap.size := (Array.getElem?_eq_some_iff.1 hg0).1
  have hb1' : Below w.heap.size w w1 := hb0.trans (hb1.mono (Nat.le_of_lt hgl))
  have hg1 : w1.heap[w.heap.size]? = some (Obj.cells #[Value.slice ra nr rc, Value.slice an nn nc] 41 (0, 0)) := by rw [hb1.block _ hgl]; exact hg0
  clear hb0 hg0 hb1 hgl hr
  cases hrt : rightB roots xs
  · have HR : Hid (blocksR roots xs = 0) := Lib.hid (by unfold blocksR; rw [hrt]; rfl)
    clear hrt
    go_wp2_with fail
    go_ret
    exact ⟨ret_int (by rw [HR.out]; rfl), hb1'⟩
  have HR : Hid (blocksR roots xs = blkN xs) := Lib.hid (by unfold blocksR; rw [hrt]; rfl)
  clear hrt
  subst hnn
  have c1 : w1.cell? ⟨w.heap.size, 1, none⟩ = some (.slice an xs.length nc) := cell_of_row _ _ 1 _ _ _ hg1
  have hgs : w.heap.size < w1.heap.size := (Array.getElem?_eq_some_iff.1 hg1).1
  have hx1 := hx.below hb1' (Nat.le_refl _)
  clear hg1 hx hnr h1
  go_wp2_with fail
  go_loopw [3, 4] (fun n i wr => ∃ k : Nat, k ≤ 32 ∧ i = .int .i64 k ∧ n = .int .i64 (1 + sumCls xs k : Nat) ∧ Below w1.heap.size w1 wr) (fun _ i _ => 32 - (intOf i).toNat)
  case atStart => exact ⟨0, by omega, rfl, rfl, Below.refl _ _⟩
  case round =>
    obtain ⟨k, hk, rfl, rfl, hbr⟩ := hrel
    have hsc := sumCls_le xs k hk
    have hsc2 : sumCls xs k ≤ 32000 := Nat.le_trans hsc (Nat.mul_le_mul hk h2)
    have HST := Lib.hid (sumCls_step xs k)
    obtain ⟨sc, hsc0⟩ : ∃ sc, 1 + sumCls xs k = sc := ⟨_, rfl⟩
    rw [hsc0]
    have hsc3 : sc ≤ 32001 := by omega
    have HSC := Lib.hid hsc0
    clear hsc hsc0 hsc2
    by_cases hlt : k < 32
    · have hd32 : decide ((k : Int) < 32) = true := by simp; omega
      have hcp := clsCells_pos k hlt
      have hcc := clsCells_le (k : Int)
      go_wp2_with fail
      obtain ⟨wo, rfl⟩ : ∃ wo : World, wo = wr := ⟨_, rfl⟩
      go_loopw [5, 6] (fun m i wr => ∃ j : Nat, j ≤ xs.length ∧ i = .int .i64 j ∧ m = .int .i64 (cntK (xs.take j) k : Nat) ∧ Below w1.heap.size w1 wr) (fun _ i _ => xs.length - (intOf i).toNat)
      case atStart => exact ⟨0, by omega, rfl, rfl, hbr⟩
      case round =>
        clear hbr
        obtain ⟨j, hj, rfl, rfl, hbr⟩ := hrel
        have hc1 : wr.cell? ⟨w.heap.size, 1, none⟩ = some (.slice an xs.length nc) := by rw [hbr.cell (p := ⟨w.heap.size, 1, none⟩) hgs]; exact c1
        by_cases hltj : j < xs.length
        · obtain ⟨b, off, rfl, hbs, hcs⟩ := (hx1.below hbr (Nat.le_refl _)).at hltj
          have hok := hx1.2 _ (getD_mem hltj)
          obtain ⟨hca, hcb⟩ := hcs j hltj
          have HCS := Lib.hid (cntK_step xs j k hltj)
          have hcl := cntK_le (xs.take j) k
          rw [List.length_take] at hcl
          have k0 : (0 : Int) ≤ (j : Int) := by omega
          have k1 : (j : Int) < (xs.length : Int) := by omega
          rcases hxv : xs.getD j default with ⟨pa, pc, ptrs, da, dc, datas⟩
          rw [hxv] at hca hcb hok HCS
          obtain ⟨_, _, hpl, hdl⟩ := hok
          dsimp only at hca hcb hpl hdl
          unfold maxLen at hpl hdl
          have hxs : xsize ⟨pa, pc, ptrs, da, dc, datas⟩ = objSize (ptrs.length : Nat) (datas.length : Nat) := rfl
          rw [hxs] at HCS
          clear hcs hxv hxs
          have f1 := fun x => later_cell hc1 x
          have f2 := fun x => later_cell hca x
          have f3 := fun x => later_cell hcb x
          go_wp2_with fail
          refine wp_region_later (by kernel_rfl) (by kernel_rfl) ?_
          repeat (quiet_step ((rename_i x; exact calls_later (rclass_any _ _ _))))
          refine wpQuiet_nil ?_
          rintro w5 ⟨x, hx5⟩
          have hb5 : Below wr.heap.size wr w5 := by rw [hx5]; exact x.below
          have hb5' := hbr.trans (hb5.mono hbr.size)
          clear hx5 hb5 f1 f2 f3 hca hcb
          generalize cntK (xs.take j) k = cc at *
          have hcc2 : cc ≤ 1000 := by omega
          by_cases heq : rofN (objSize (ptrs.length : Nat) (datas.length : Nat) : Nat) = (k : Int)
          · have hbq : (rofN (objSize (ptrs.length : Nat) (datas.length : Nat) : Nat) == (k : Int)) = true := by rw [beq_iff_eq]; exact heq
            have HQ := Lib.hid (HCS.out.trans (by rw [if_pos heq]))
            clear heq
            generalize rofN (objSize (ptrs.length : Nat) (datas.length : Nat) : Nat) = rf at *
            go_wp2_with fail
            refine ⟨⟨j + 1, by omega, vint (by omega), vint ?_, hb5'⟩, by simp [intOf]; omega⟩
            have := HQ.out
            omega
          · have hbq : (rofN (objSize (ptrs.length : Nat) (datas.length : Nat) : Nat) == (k : Int)) = false := by rw [beq_eq_false_iff_ne]; exact heq
            have HQ := Lib.hid (HCS.out.trans (by rw [if_neg heq]))
            clear heq
            generalize rofN (objSize (ptrs.length : Nat) (datas.length : Nat) : Nat) = rf at *
            go_wp2_with fail
            refine ⟨⟨j + 1, by omega, vint (by omega), vint ?_, hb5'⟩, by simp [intOf]; omega⟩
            have := HQ.out
            omega
        · have hdj : decide ((j : Int) < (xs.length : Int)) = false := by simp; omega
          obtain rfl : j = xs.length := by omega
          rw [List.take_length]
          have hcl := cntK_le xs k
          have HCE := Lib.hid (fun t => ceil_lt t (cntK xs k) (clsCells (k : Int)) (by omega))
          have hce := ceilK_le (cntK xs k) (clsCells (k : Int)) (by omega)
          have CC := Lib.hid (fun w => rccells_any (k : Int) w)
          generalize ceilK (cntK xs k) (clsCells (k : Int)) = ce at *
          generalize cntK xs k = m at *
          generalize clsCells (k : Int) = cl at *
          go_wp2_with fail
          obtain ⟨wq, rfl⟩ : ∃ wq : World, wq = wr := ⟨_, rfl⟩
          go_loopw [3, 5] (fun n y wr => ∃ t : Nat, t ≤ ce ∧ n = .int .i64 (sc + t : Nat) ∧ y = .int .i64 ((m : Int) - t * cl) ∧ Below w1.heap.size w1 wr) (fun _ y _ => (intOf y).toNat)
          case atStart => exact ⟨0, by omega, rfl, vint (by simp), hbr⟩
          case round =>
            clear hbr hc1
            obtain ⟨t, ht, rfl, rfl, hbr⟩ := hrel
            have HT := Lib.hid (HCE.out t)
            have htc : t * cl ≤ 1000 * 512 := Nat.mul_le_mul (by omega) hcc
            have e0 : (t : Int) * (cl : Int) = ((t * cl : Nat) : Int) := by simp
            have e1 : ((t : Int) + 1) * (cl : Int) = (t : Int) * (cl : Int) + (cl : Int) := by rw [Int.add_mul]; simp
            have HE1 := Lib.hid e1
            rw [e0]
            rw [e0] at HE1
            clear e0 e1
            generalize t * cl = p at *
            by_cases hp : p < m
            · have htl : t < ce := HT.out.1 hp
              go_wp2_with fail
              refine (CC.out _).mono ?_
              rintro e w6 ⟨rfl, hb6⟩
              have hb6' := hbr.trans (hb6.mono hbr.size)
              go_wp2_with fail
              refine ⟨⟨t + 1, by omega, vint (by omega), vint ?_, hb6'⟩, by simp [intOf]; omega⟩
              have := HE1.out
              rw [Int.natCast_add, Int.natCast_one, this]
              omega
            · have HTE : Hid (t = ce) := by
                apply Lib.hid
                have := HT.out
                omega
              go_wp2_with fail
              refine ⟨⟨k + 1, by omega, vint (by omega), vint ?_, hbr⟩, by simp [intOf]; omega⟩
              rw [HST.out, ← HTE.out, ← HSC.out]
              omega
    · have hd32 : decide ((k : Int) < 32) = false := by simp; omega
      have HK : Hid (k = 32) := Lib.hid (by omega)
      go_wp2_with fail
      obtain ⟨wo, rfl⟩ : ∃ wo : World, wo = wr := ⟨_, rfl⟩
      go_loopw [3, 7] (fun n i wr => ∃ j : Nat, j ≤ xs.length ∧ i = .int .i64 j ∧ n = .int .i64 (sc + sumBlk (xs.take j) : Nat) ∧ Below w1.heap.size w1 wr) (fun _ i _ => xs.length - (intOf i).toNat)
      case atStart => exact ⟨0, by omega, rfl, vint (by simp [sumBlk]), hbr⟩
      case round =>
        clear hbr
        obtain ⟨j, hj, rfl, rfl, hbr⟩ := hrel
        have hc1 : wr.cell? ⟨w.heap.size, 1, none⟩ = some (.slice an xs.length nc) := by rw [hbr.cell (p := ⟨w.heap.size, 1, none⟩) hgs]; exact c1
        have hsb : sumBlk (xs.take j) ≤ 33000 := by have h := sumBlk_le (xs.take j); rw [List.length_take] at h; omega
        by_cases hltj : j < xs.length
        · obtain ⟨b, off, rfl, hbs, hcs⟩ := (hx1.below hbr (Nat.le_refl _)).at hltj
          have hok := hx1.2 _ (getD_mem hltj)
          obtain ⟨hca, hcb⟩ := hcs j hltj
          have HB := Lib.hid (sumBlk_step xs j hltj)
          have k0 : (0 : Int) ≤ (j : Int) := by omega
          have k1 : (j : Int) < (xs.length : Int) := by omega
          rcases hxv : xs.getD j default with ⟨pa, pc, ptrs, da, dc, datas⟩
          rw [hxv] at hca hcb hok HB
          obtain ⟨_, _, hpl, hdl⟩ := hok
          dsimp only at hca hcb hpl hdl
          unfold maxLen at hpl hdl
          have hxs : xsize ⟨pa, pc, ptrs, da, dc, datas⟩ = objSize (ptrs.length : Nat) (datas.length : Nat) := rfl
          rw [hxs] at HB
          have hob := objBlocks_le _ (objSize_le (ptrs.length : Nat) (datas.length : Nat))
          have CC := Lib.hid (fun w => roblocks_any (ptrs.length : Nat) (datas.length : Nat) w)
          generalize objBlocks (objSize (ptrs.length : Nat) (datas.length : Nat)) = ob at *
          generalize sumBlk (xs.take j) = sb at *
          clear hcs hxv hxs
          have f1 := fun x => later_cell hc1 x
          have f2 := fun x => later_cell hca x
          have f3 := fun x => later_cell hcb x
          go_wp2_with fail
          refine wp_region_later (by kernel_rfl) (by kernel_rfl) ?_
          repeat (quiet_step ((rename_i x; exact calls_later (CC.out _))))
          refine wpQuiet_nil ?_
          rintro w5 ⟨x, hx5⟩
          have hb5 : Below wr.heap.size wr w5 := by rw [hx5]; exact x.below
          have hb5' := hbr.trans (hb5.mono hbr.size)
          clear hx5 hb5 f1 f2 f3 hca hcb
          go_wp2_with fail
          refine ⟨⟨j + 1, by omega, vint (by omega), vint ?_, hb5'⟩, by simp [intOf]; omega⟩
          have e9 : IntKind.i64.wrap ((sc : Int) + sb + ob) = sc + sb + ob := IntWalk.i64_in _ (by omega)
          rw [e9, HB.out]
          omega
        · obtain rfl : j = xs.length := by omega
          have HF : Hid (blocksR roots xs = sc + sumBlk xs) := Lib.hid (by rw [HR.out, blkN, ← HSC.out, HK.out])
          rw [List.take_length] at hsb ⊢
          go_wp2_with fail
          go_ret
          exact ⟨ret_int (by rw [HF.out]), hb1'.trans (hbr.mono (Nat.le_of_lt hgs))⟩

end Go.Proofs.Ytgbgjlgofjbemaa
