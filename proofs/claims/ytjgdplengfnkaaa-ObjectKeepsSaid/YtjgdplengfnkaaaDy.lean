/- nvm.Device: Fence. -/
import Derived.Test.YtjgdplengfnkaaaSl
namespace Go.Proofs.Ytjgdplengfnkaaa
open Go.RowKit
set_option linter.unusedVariables false

/-- A line that is pending lasts as it was flushed. -/
def Dev.settle (S : Dev) (j : Nat) : Dev :=
  if S.pending.getD j false then { S with lasting := splice S.lasting (8 * j) (seg S.flushed j), pending := S.pending.set j false, dirty := S.dirty.set j (!decide (seg S.flushed j = seg S.cache j)) } else S
def Dev.fenceTo (S : Dev) : Nat → Dev
  | 0 => S
  | k + 1 => (S.fenceTo k).settle k
def Dev.fence (S : Dev) : Dev := if S.stop then S.step else S.step.fenceTo S.dirty.length
def Dev.fenceE (S : Dev) : Int := if S.stop then 3 else 0

theorem settle_len (S : Dev) (j : Nat) : (S.settle j).dirty.length = S.dirty.length ∧ (S.settle j).cache = S.cache ∧ (S.settle j).flushed = S.flushed := by
  unfold Dev.settle
  split
  · exact ⟨by simp, rfl, rfl⟩
  · exact ⟨rfl, rfl, rfl⟩
theorem fenceTo_len (S : Dev) (k : Nat) : (S.fenceTo k).dirty.length = S.dirty.length ∧ (S.fenceTo k).cache = S.cache ∧ (S.fenceTo k).flushed = S.flushed := by
  induction k with
  | zero => exact ⟨rfl, rfl, rfl⟩
  | succ k ih =>
    have h := settle_len (S.fenceTo k) k
    exact ⟨h.1.trans ih.1, h.2.1.trans ih.2.1, h.2.2.trans ih.2.2⟩

theorem seg_splice (l s : List Nat) (j : Nat) (hs : s.length = 8) (h : 8 * j + 8 ≤ l.length) : seg (splice l (8 * j) s) j = s := by
  unfold seg splice
  rw [List.drop_append_of_le_length (by simp; omega)]
  simp [List.drop_take, hs]

set_option maxHeartbeats 2000000 in
set_option maxRecDepth 100000 in
theorem fence_any {w : World} {F : Foot} {S : Dev} (h : DevAt w F S) {N : Nat} (hN : N < 1000000000000) (ho : S.ok N) :
    Calls Try.prog 94 #[vdev F] w fun e w' => e = .returned (.int .i64 S.fenceE) ∧ DevAt w' F S.fence ∧ Touch F.list w w' := by
  have HR := Lib.hid S.step_rest
  have HD := Lib.hid h
  clear h
  go_enter Try.func94, Try.ntmps94
  go_wp2_with fail
  refine (step_any HD.out hN ho).mono ?_
  rintro e w1 ⟨rfl, hd1, ht1⟩
  have ht1' : Touch F.list w w1 := ⟨ht1.os, ht1.tape, ht1.output, ht1.size, fun k hk hn => ht1.block k hk (fun hm => hn (by simp at hm; rw [hm]; simp [Foot.list]))⟩
  clear HD ht1
  cases hst : S.stop
  · have HE : Hid (S.fenceE = 0 ∧ S.fence = S.step.fenceTo S.step.dirty.length) := Lib.hid (by unfold Dev.fenceE Dev.fence; rw [hst, HR.out.2.2.2.1]; exact ⟨rfl, rfl⟩)
    clear HR hst
    generalize S.step = S1 at *
    have hsm := hd1.small
    have hl := hd1.lenD
    have hm : S1.dirty.length ≤ 1000000 := by omega
    have h8 : ∀ k, k < S1.dirty.length → 8 * k + 8 ≤ S1.cache.length := fun k hk => by omega
    have H8 := Lib.hid h8
    clear hl h8
    have c4 : w1.cell? ⟨F.d, 4, none⟩ = some (.slice (some ⟨F.p, 0, none⟩) S1.dirty.length F.cp) := cell_of_row _ _ 4 _ _ _ hd1.head
    have HD1 := Lib.hid hd1
    clear hd1
    go_wp2_with fail
    go_loopw [13] (fun i wr => ∃ k : Nat, k ≤ S1.dirty.length ∧ i = .int .i64 k ∧ DevAt wr F (S1.fenceTo k) ∧ Touch F.list w wr) (fun i _ => S1.dirty.length - (intOf i).toNat)
    case atStart => exact ⟨0, Nat.zero_le _, rfl, HD1.out, ht1'⟩
    case round =>
      clear c4 HD1 ht1'
      obtain ⟨k, hk, rfl, hd, ht⟩ := hrel
      by_cases hlt : k < S1.dirty.length
      · have hl8 := H8.out k hlt
        have HL := Lib.hid (fenceTo_len S1 k)
        have HN : Hid (S1.fenceTo (k + 1) = (S1.fenceTo k).settle k) := Lib.hid rfl
        have e1 : (S1.fenceTo k).dirty.length = S1.dirty.length := HL.out.1
        have e2 : (S1.fenceTo k).cache.length = S1.cache.length := by rw [HL.out.2.1]
        rw [← e2] at hl8 hsm
        have hlt2 : k < (S1.fenceTo k).dirty.length := by rw [e1]; exact hlt
        have HE1 := Lib.hid e1
        clear HL e1 e2
        generalize S1.fenceTo k = Sk at *
        have hp := hd.lenP
        have q0 : wr.cell? ⟨F.p, k, none⟩ = some (.bool (Sk.pending.getD k false)) := hd.pending.cell (by simp [show k < Sk.pending.length by omega])
        cases hpk : Sk.pending.getD k false
        · rw [hpk] at q0
          have HS : Hid (Sk.settle k = Sk) := Lib.hid (by unfold Dev.settle; rw [hpk]; rfl)
          have HD := Lib.hid hd
          clear hd hp hpk hlt2
          go_wp2_with fail
          exact ⟨⟨k + 1, by omega, vint (by omega), by rw [HN.out, HS.out]; exact HD.out, ht⟩, by simp [intOf]; omega⟩
        · rw [hpk] at q0
          have HS : Hid (Sk.settle k = { Sk with lasting := splice Sk.lasting (8 * k) (seg Sk.flushed k), pending := Sk.pending.set k false, dirty := Sk.dirty.set k (!decide (seg Sk.flushed k = seg Sk.cache k)) }) := Lib.hid (by unfold Dev.settle; rw [hpk]; rfl)
          have g0 : wr.cell? ⟨F.d, 0, none⟩ = some (.slice (some ⟨F.l, 0, none⟩) Sk.cache.length F.cl) := cell_of_row _ _ 0 _ _ _ hd.head
          have g2 : wr.cell? ⟨F.d, 2, none⟩ = some (.slice (some ⟨F.f, 0, none⟩) Sk.cache.length F.cf) := cell_of_row _ _ 2 _ _ _ hd.head
          have f0 := fun x => later_cell g0 x
          have f2 := fun x => later_cell g2 x
          have hcl := hd.capL
          have hcf := hd.capF
          have hcc := hd.capC
          have HD := Lib.hid hd
          clear hd hp hpk
          go_wp2_with fail
          refine wp_region_later_tail 14 ?hn ?hm ?hB ?_
          case hn => exact Nat.le_of_ble_eq_true rfl
          case hm => kernel_rfl
          case hB => kernel_rfl
          simp only [List.take_succ_cons, List.take_zero, List.drop_succ_cons, List.drop_zero]
          repeat (quiet_step ((rename_i x; exact calls_later (part_later x _ _ _ _ _ hl8 (by assumption) hsm))))
          refine wpQuiet_nil ?_
          rintro w5 ⟨x, hx5⟩
          have hd5 := HD.out.below x.below
          have ht5 := ht.trans (Touch.ofBelow x.below)
          rw [← hx5] at hd5 ht5
          clear hx5 x HD ht f0 f2 g0 g2 q0
          have hsl := seg_length Sk.flushed k (by rw [hd5.lenF]; exact hl8)
          have HC := Lib.hid (seg_cell hd5.flushed k)
          have HF := Lib.hid hd5.lasting
          have hll : 8 * k + 8 ≤ Sk.lasting.length := by rw [hd5.lenL]; exact hl8
          refine wpList_copy_row rfl rfl Try.underlying22 (by kernel_rfl) rfl rfl HF.out ((seg Sk.flushed k).map vu64) (by simp [hsl]) HC.out (by simp [hsl]; omega) (one_cells _) ?_
          intro w6 hr6 ht6
          rw [splice_map] at hr6
          have hd6 := hd5.setLasting hr6 ht6 (by rw [length_splice _ _ _ (by rw [hsl]; omega)]) (splice_lt _ hd5.u64L (seg_lt k hd5.u64F))
          have ht7 : Touch F.list w w6 := ht5.trans ⟨ht6.os, ht6.tape, ht6.output, ht6.size, fun k hk hn => ht6.block k hk (fun hm => hn (by simp at hm; rw [hm]; simp [Foot.list]))⟩
          have HSS := Lib.hid (seg_splice Sk.lasting (seg Sk.flushed k) k hsl hll)
          clear hd5 hr6 ht6 HF HC ht5
          have g4 : w6.cell? ⟨F.d, 4, none⟩ = some (.slice (some ⟨F.p, 0, none⟩) Sk.dirty.length F.cp) := cell_of_row _ _ 4 _ _ _ hd6.head
          have hp6 := hd6.lenP
          dsimp only at hp6
          obtain ⟨u, hu⟩ : ∃ u, (Sk.pending.map Value.bool)[k]? = some u := ⟨_, List.getElem?_eq_getElem (by simp; omega)⟩
          have d4 : w6.cell? ⟨F.p, k, none⟩ = some u := hd6.pending.cell hu
          have d5 := hd6.pending.frozen k
          have hd7 := hd6.setPending k (by dsimp only; omega) false
          have ht8 : Touch F.list w (w6.setCell ⟨F.p, k, none⟩ (.bool false)) := ht7.trans (Touch.setCell _ (by simp [Foot.list]) _)
          clear hu hp6 hd6 ht7
          go_wp2_with fail
          generalize w6.setCell ⟨F.p, k, none⟩ (.bool false) = w7 at *
          clear g4 d4 d5
          have g0 : w7.cell? ⟨F.d, 0, none⟩ = some (.slice (some ⟨F.l, 0, none⟩) Sk.cache.length F.cl) := cell_of_row _ _ 0 _ _ _ hd7.head
          have g1 : w7.cell? ⟨F.d, 1, none⟩ = some (.slice (some ⟨F.c, 0, none⟩) Sk.cache.length F.cc) := cell_of_row _ _ 1 _ _ _ hd7.head
          have g3 : w7.cell? ⟨F.d, 3, none⟩ = some (.slice (some ⟨F.t, 0, none⟩) Sk.dirty.length F.ct) := cell_of_row _ _ 3 _ _ _ hd7.head
          have f0 := fun x => later_cell g0 x
          have f1 := fun x => later_cell g1 x
          have f3 := fun x => later_cell g3 x
          have hsc := seg_length Sk.cache k hl8
          obtain ⟨bq, hbq⟩ : ∃ bq, bq = decide (seg Sk.flushed k = seg Sk.cache k) := ⟨_, rfl⟩
          have EQ : Hid (∀ x : Later w7, Calls Try.prog 107 #[.slice (some ⟨F.l, 8 * k, none⟩) 8 (F.cl - 8 * k), .slice (some ⟨F.c, 8 * k, none⟩) 8 (F.cc - 8 * k)] x.val fun e w' => e = .returned (.bool bq) ∧ Below x.val.heap.size x.val w') := by
            apply Lib.hid
            intro x
            have hdx := hd7.below x.below
            have cl : Cells x.val (some ⟨F.l, 8 * k, none⟩) ((seg Sk.flushed k).map vu64) := .inr ⟨_, _, rfl, fun i v hi => by rw [← HSS.out] at hi; exact seg_cell hdx.lasting k i v hi⟩
            have cc : Cells x.val (some ⟨F.c, 8 * k, none⟩) ((seg Sk.cache k).map vu64) := .inr ⟨_, _, rfl, fun i v hi => seg_cell hdx.cache k i v hi⟩
            rw [hbq]
            exact sliceEq_any _ _ _ _ _ _ hsl hsc _ cl cc (by omega) (by omega)
          have HBQ := Lib.hid hbq
          have HD7 := Lib.hid hd7
          clear hd7 hbq HSS hsl hsc
          refine wp_region_later_tail 22 ?hn ?hm ?hB ?_
          case hn => exact Nat.le_of_ble_eq_true rfl
          case hm => kernel_rfl
          case hB => kernel_rfl
          simp only [List.take_succ_cons, List.take_zero, List.drop_succ_cons, List.drop_zero]
          repeat (quiet_step ((rename_i x; first | (go_at_call 107; exact calls_later (EQ.out x)) | exact calls_later (part_later x _ _ _ _ _ hl8 (by assumption) hsm))))
          refine wpQuiet_nil ?_
          rintro w8 ⟨x, hx8⟩
          have hd8 := HD7.out.below x.below
          have ht9 := ht8.trans (Touch.ofBelow x.below)
          rw [← hx8] at hd8 ht9
          clear hx8 x HD7 ht8 f0 f1 f3 g0 g1 g3 EQ
          obtain ⟨u8, hu8⟩ : ∃ u8, (Sk.dirty.map Value.bool)[k]? = some u8 := ⟨_, List.getElem?_eq_getElem (by simp; omega)⟩
          have d4 : w8.cell? ⟨F.t, k, none⟩ = some u8 := hd8.dirty.cell hu8
          have d5 := hd8.dirty.frozen k
          have HZ : Hid (DevAt (w8.setCell ⟨F.t, k, none⟩ (.bool (!bq))) F (S1.fenceTo (k + 1))) := Lib.hid (by rw [HN.out, HS.out, ← HBQ.out]; exact hd8.setDirty k hlt2 _)
          have HT : Hid (Touch F.list w (w8.setCell ⟨F.t, k, none⟩ (.bool (!bq)))) := Lib.hid (ht9.trans (Touch.setCell _ (by simp [Foot.list]) _))
          clear hd8 ht9 hu8 HS HBQ
          go_wp2_with fail
          exact ⟨⟨k + 1, by omega, vint (by omega), HZ.out, HT.out⟩, by simp [intOf]; omega⟩
      · obtain rfl : k = S1.dirty.length := by omega
        have HZ : Hid (DevAt wr F S.fence) := Lib.hid (by rw [HE.out.2]; exact hd)
        clear hd
        go_wp2_with fail
        go_ret
        exact ⟨ret_int HE.out.1.symm, HZ.out, ht⟩
  · have HE : Hid (S.fenceE = 3 ∧ S.fence = S.step) := Lib.hid (by unfold Dev.fenceE Dev.fence; rw [hst]; exact ⟨rfl, rfl⟩)
    clear HR hst
    go_wp2_with fail
    go_ret
    exact ⟨ret_int HE.out.1.symm, by rw [HE.out.2]; assumption, ht1'⟩

end Go.Proofs.Ytjgdplengfnkaaa
