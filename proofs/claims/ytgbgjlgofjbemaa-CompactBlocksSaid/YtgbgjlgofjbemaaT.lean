/- compact.Blocks. -/
import Derived.Test.YtgbgjlgofjbemaaS
import Derived.Test.YtgbgjlgofjbemaaO
namespace Go.Proofs.Ytgbgjlgofjbemaa
open Go.RowKit

def blocksR (roots : List Int) (xs : List NodeV) : Nat := if rightB roots xs = true then blkN xs else 0

set_option maxHeartbeats 1000000 in
set_option maxRecDepth 100000 in
theorem cblocks_any (ra an : Option Addr) (nr nn rc nc : Nat) (roots : List Int) (xs : List NodeV) (hnr : roots.length = nr) (hnn : xs.length = nn) (w : World)
    (hr : Cells w ra (roots.map (Value.int .i64))) (hx : NodesAt w an xs) (h1 : nr ≤ maxLen) (h2 : nn ≤ 1000) :
    Calls Try.prog 15 #[.agg #[.slice ra nr rc, .slice an nn nc]] w fun e w' => e = .returned (.int .i64 (blocksR roots xs : Nat)) ∧ Below w.heap.size w w' := by
  go_enter Try.func15, Try.ntmps15
  go_wp2_with fail
  have hb0 := below_alloc w (Obj.cells #[Value.slice ra nr rc, Value.slice an nn nc] 35)
  have hg0 := heap_alloc_new w (Obj.cells #[Value.slice ra nr rc, Value.slice an nn nc] 35)
  generalize w.alloc (Obj.cells #[Value.slice ra nr rc, Value.slice an nn nc] 35) = w0 at *
  refine (gright_any ra an nr nn rc nc roots xs hnr hnn w0 (hr.below hb0 (Nat.le_refl _)) (hx.below hb0 (Nat.le_refl _)) h1 (by unfold maxLen; omega)).mono ?_
  rintro e w1 ⟨rfl, hb1⟩
  have hgl : w.heap.size < w0.heap.size := (Array.getElem?_eq_some_iff.1 hg0).1
  have hb1' : Below w.heap.size w w1 := hb0.trans (hb1.mono (Nat.le_of_lt hgl))
  have hg1 : w1.heap[w.heap.size]? = some (Obj.cells #[Value.slice ra nr rc, Value.slice an nn nc] 35 (0, 0)) := by rw [hb1.block _ hgl]; exact hg0
  clear hb0 hg0 hb1 hgl hr
  cases hrt : rightB roots xs
  · have HR : Hid (blocksR roots xs = 0) := Lib.hid (by unfold blocksR; rw [hrt]; rfl)
    clear hrt
    go_wp2_with fail
    go_ret
    exact ⟨ret_int (by rw [HR.out]; rfl), hb1'⟩
  · have HR : Hid (blocksR roots xs = blkN xs) := Lib.hid (by unfold blocksR; rw [hrt]; rfl)
    clear hrt
    subst hnn
    have c1 : w1.cell? ⟨w.heap.size, 1, none⟩ = some (.slice an xs.length nc) := cell_of_row _ _ 1 _ _ _ hg1
    have HG : Hid (∀ w2, w1.grownBy w2 none → w2.cell? ⟨w.heap.size, 1, none⟩ = some (.slice an xs.length nc)) := Lib.hid (fun w2 hg => by rw [World.cell?_of_block (hg.block _ (World.block_lt_of_cell? _ _ c1) (by simp))]; exact c1)
    go_wp2_with (refine wpList_alloc_agg agg32 rfl rfl ?_; intro w2 hm2 hgr2 hs2; have c2 := HG.out w2 hgr2)
    have hbw2 : Below w.heap.size w w2 := hb1'.grown hgr2 hb1'.size (by simp)
    have hM : w.heap.size ≤ w1.heap.size := hb1'.size
    generalize w1.heap.size = M at *
    clear hb1' hg1 c1 HG hgr2 hs2 c2 hnr h1
    go_loopw [3, 18] (fun n i wr => ∃ k : Nat, k ≤ xs.length ∧ i = .int .i64 k ∧ n = .int .i64 (1 + sumBlk (xs.take k) : Nat) ∧ wr.heap[M]? = some (.cells (cntV (xs.take k)) 51 (0, 0)) ∧ Below w.heap.size w wr)
      (fun _ i _ => xs.length - (intOf i).toNat)
    case atStart => exact ⟨0, by omega, rfl, rfl, hm2, hbw2⟩
    case round =>
      clear hm2 hbw2
      obtain ⟨k, hk, rfl, rfl, hm, hbw⟩ := hrel
      have hsb : sumBlk (xs.take k) ≤ 33000 := by have h := sumBlk_le (xs.take k); rw [List.length_take] at h; omega
      by_cases hlt : k < xs.length
      · obtain ⟨b, off, rfl, hbs, hcs⟩ := (hx.below hbw (Nat.le_refl _)).at hlt
        have hok := (hx.2 _ (getD_mem hlt))
        obtain ⟨hca, hcb⟩ := hcs k hlt
        clear hcs
        have HB := Lib.hid (sumBlk_step xs k hlt)
        have HCS := Lib.hid (fun c hc h => cntV_small xs k c hlt hc h)
        have HCL := Lib.hid (cntV_large xs k hlt)
        have HCK := Lib.hid (fun c => cntK_le (xs.take k) c)
        rcases hxv : xs.getD k default with ⟨pa, pc, ptrs, da, dc, datas⟩
        rw [hxv] at hca hcb hok HB HCS HCL
        obtain ⟨_, _, hpl, hdl⟩ := hok
        dsimp only at hca hcb hpl hdl
        unfold maxLen at hpl hdl
        clear hxv
        generalize hn0 : 1 + sumBlk (xs.take k) = n0 at *
        have HN0 := Lib.hid hn0
        have hn1 : n0 ≤ 33001 := by omega
        clear hn0 hsb
        go_wp2_with fail
        have hsz : (wr.alloc (Obj.cells #[Value.slice pa ptrs.length pc, Value.slice da datas.length dc] 50)).heap.size = wr.heap.size + 1 := by simp
        have hb1 : Below wr.heap.size wr ((wr.alloc (Obj.cells #[Value.slice pa ptrs.length pc, Value.slice da datas.length dc] 50)).alloc (Obj.cells #[Value.int .i64 (ptrs.length : Nat), Value.int .i64 (datas.length : Nat)] 53)) := ((Below.refl _ _).alloc (Nat.le_refl _) _).alloc (by simp) _
        have ho0 := heap_alloc_new (wr.alloc (Obj.cells #[Value.slice pa ptrs.length pc, Value.slice da datas.length dc] 50)) (Obj.cells #[Value.int .i64 (ptrs.length : Nat), Value.int .i64 (datas.length : Nat)] 53)
        rw [hsz] at ho0
        generalize ((wr.alloc (Obj.cells #[Value.slice pa ptrs.length pc, Value.slice da datas.length dc] 50)).alloc (Obj.cells #[Value.int .i64 (ptrs.length : Nat), Value.int .i64 (datas.length : Nat)] 53)) = w3 at *
        refine (osmall_any _ _ _).mono ?_
        rintro e w4 ⟨rfl, hb4⟩
        have hMr : M < wr.heap.size := (Array.getElem?_eq_some_iff.1 hm).1
        have ho3 : wr.heap.size + 1 < w3.heap.size := (Array.getElem?_eq_some_iff.1 ho0).1
        have hm4 : w4.heap[M]? = some (.cells (cntV (xs.take k)) 51 (0, 0)) := by rw [hb4.block M (by omega), hb1.block M hMr]; exact hm
        have ho4 : w4.heap[wr.heap.size + 1]? = some (Obj.cells #[Value.int .i64 (ptrs.length : Nat), Value.int .i64 (datas.length : Nat)] 53 (0, 0)) := by rw [hb4.block _ ho3]; exact ho0
        have hb4' : Below w.heap.size w w4 := (hbw.trans (hb1.mono hbw.size)).trans (hb4.mono (Nat.le_trans hbw.size hb1.size))
        have hxs : xsize ⟨pa, pc, ptrs, da, dc, datas⟩ = objSize (ptrs.length : Nat) (datas.length : Nat) := rfl
        have hole := objSize_le (ptrs.length : Nat) (datas.length : Nat)
        rw [hxs] at HB HCS HCL
        generalize hos : objSize (ptrs.length : Nat) (datas.length : Nat) = sz at *
        have HOS := Lib.hid hos
        clear hxs hos hca hcb hb1 ho0 hm hbw hb4 hsz
        by_cases hsm : small sz
        · have hc32 := ofN_lt sz hsm
          have HS := Lib.hid (HCS.out (ofN (sz : Int)) hc32 (rofN_small sz hsm))
          have HZ : Hid (objBlocks sz = 0) := Lib.hid (by unfold objBlocks; rw [if_pos hsm])
          rw [ofV_small sz hsm]
          have hcl := HCK.out (ofN (sz : Int))
          rw [List.length_take] at hcl
          have q1 : w4.cell? ⟨M, ofN (sz : Int), none⟩ = some (.int .i64 (cntK (xs.take k) (ofN (sz : Int)) : Nat)) := (cell_of_row _ _ _ _ _ _ hm4).trans (cntV_at _ _ hc32)
          have q2 : w4.frozen? ⟨M, ofN (sz : Int), none⟩ = false := frozen_of_row _ _ _ _ _ hm4
          clear hsm
          generalize cntK (xs.take k) (ofN (sz : Int)) = cc at *
          generalize ofN (sz : Int) = ci at *
          have hcc : cc ≤ 1000 := by omega
          clear hcl
          go_wp2_with fail
          refine ⟨⟨k + 1, by omega, vint (by omega), vint ?_, ?_, hb4'.setCell hM _⟩, by simp [intOf]; omega⟩
          · have e1 := HB.out
            have e2 := HZ.out
            have e3 := HN0.out
            omega
          · rw [heap_setCell_same w4 M ci _ _ _ hm4, HS.out]
        · have HS := Lib.hid (HCL.out (rofN_large sz hsm))
          rw [ofV_large sz hsm]
          have q1 : w4.cell? ⟨wr.heap.size + 1, 0, none⟩ = some (.int .i64 (ptrs.length : Nat)) := cell_of_row _ _ 0 _ _ _ ho4
          have q2 : w4.cell? ⟨wr.heap.size + 1, 1, none⟩ = some (.int .i64 (datas.length : Nat)) := cell_of_row _ _ 1 _ _ _ ho4
          have hble := objBlocks_le sz hole
          clear hsm
          go_wp2_with fail
          refine (oblocks_any _ _ _).mono ?_
          rintro e w5 ⟨rfl, hb5⟩
          rw [HOS.out]
          have hm5 : w5.heap[M]? = some (.cells (cntV (xs.take k)) 51 (0, 0)) := by rw [hb5.block M (Array.getElem?_eq_some_iff.1 hm4).1]; exact hm4
          have hb5' := hb4'.trans (hb5.mono hb4'.size)
          generalize objBlocks sz = ob at *
          clear hb5
          go_wp2_with fail
          refine ⟨⟨k + 1, by omega, vint (by omega), vint ?_, by rw [HS.out]; exact hm5, hb5'⟩, by simp [intOf]; omega⟩
          have e1 := HB.out
          have e3 := HN0.out
          omega
      · obtain rfl : k = xs.length := by omega
        rw [List.take_length] at hm hsb ⊢
        have HLR : Hid (∀ j, j < 32 → (cntV xs)[j]? = some (Value.int .i64 (cntK xs j : Nat))) := Lib.hid (fun j hj => cntV_at xs j hj)
        go_wp2_with (refine wpList_load_row rfl 51 _ rfl M rfl 51 (cntV xs) (0, 0) _ hm Try.underlying51 rfl (by rw [cntV_size]; kernel_rfl) ?_)
        obtain ⟨sb, hsb0⟩ : ∃ sb, sumBlk xs = sb := ⟨_, rfl⟩
        rw [hsb0] at hsb ⊢
        have HSB := Lib.hid hsb0
        clear hsb0
        obtain ⟨wo, rfl⟩ : ∃ wo : World, wo = wr := ⟨_, rfl⟩
        go_loopw [3, 46] (fun n i wr => ∃ j : Nat, j ≤ 32 ∧ i = .int .i64 j ∧ n = .int .i64 (1 + sb + sumCls xs j : Nat) ∧ Below w.heap.size w wr) (fun _ i _ => 32 - (intOf i).toNat)
        case atStart => exact ⟨0, by omega, rfl, vint (by simp [sumCls]), hbw⟩
        case round =>
          clear hbw hm
          obtain ⟨j, hj, rfl, rfl, hbw⟩ := hrel
          have hsc := sumCls_le xs j hj
          have hsc2 : sumCls xs j ≤ 32000 := Nat.le_trans hsc (Nat.mul_le_mul hj h2)
          have HST := Lib.hid (sumCls_step xs j)
          obtain ⟨sc, hsc0⟩ : ∃ sc, sumCls xs j = sc := ⟨_, rfl⟩
          rw [hsc0] at hsc2 HST ⊢
          have HSC := Lib.hid hsc0
          clear hsc hsc0
          by_cases hlt : j < 32
          · have HV := Lib.hid (HLR.out j hlt)
            have hcl := cntK_le xs j
            have hcp := clsCells_pos j hlt
            have hcc := clsCells_le (j : Int)
            have HZ := Lib.hid (ceilK_zero (clsCells (j : Int)) (by omega))
            have HP := Lib.hid (ceilK_pos (cntK xs j) (clsCells (j : Int)) (by omega))
            generalize cntK xs j = m at *
            by_cases hm0 : 0 < m
            · go_wp2_with (refine wpList_index_arr j Try.underlying51 Try.underlying3 rfl (by kernel_rfl) rfl hlt HV.out rfl rfl rfl rfl ?_)
              refine (ccells_any _ _).mono ?_
              rintro e w5 ⟨rfl, hb5⟩
              have hb5' := hbw.trans (hb5.mono hbw.size)
              have HP2 := Lib.hid (HP.out hm0)
              generalize clsCells (j : Int) = cl at *
              have hq0 : ((cl : Int) == 0) = false := by rw [beq_eq_false_iff_ne]; omega
              have hd : (m - 1) / cl ≤ m - 1 := Nat.div_le_self _ _
              have hd2 : ((m : Int) - 1) / (cl : Int) = (((m - 1) / cl : Nat) : Int) := by rw [show (m : Int) - 1 = ((m - 1 : Nat) : Int) by omega]; rfl
              generalize (m - 1) / cl = q at *
              have hd3 : 0 ≤ ((m : Int) - 1) / (cl : Int) := by rw [hd2]; exact Int.natCast_nonneg _
              have hd4 : ((m : Int) - 1) / (cl : Int) ≤ 1000 := by rw [hd2]; clear hd2 hd3; omega
              have HD := Lib.hid hd2
              clear hd2 hb5
              go_wp2_with fail
              refine ⟨⟨j + 1, by omega, vint (by omega), vint ?_, hb5'⟩, by simp [intOf]; omega⟩
              rw [HD.out, HST.out, HP2.out]
              omega
            · obtain rfl : m = 0 := by omega
              go_wp2_with (refine wpList_index_arr j Try.underlying51 Try.underlying3 rfl (by kernel_rfl) rfl hlt HV.out rfl rfl rfl rfl ?_)
              refine ⟨⟨j + 1, by omega, vint (by omega), vint ?_, hbw⟩, by simp [intOf]; omega⟩
              have e1 := HST.out
              have e2 := HZ.out
              omega
          · obtain rfl : j = 32 := by omega
            have HF : Hid (blocksR roots xs = 1 + sb + sc) := Lib.hid (by rw [HR.out, blkN, HSB.out, HSC.out]; omega)
            go_wp2_with fail
            go_ret
            exact ⟨ret_int (by rw [HF.out]), hbw⟩

end Go.Proofs.Ytgbgjlgofjbemaa
