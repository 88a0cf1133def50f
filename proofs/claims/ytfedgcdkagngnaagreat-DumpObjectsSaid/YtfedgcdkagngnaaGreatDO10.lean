/- Parts of the proof, one behind the other: Ev, Rx, Ry, Uf, Ew, Wa, Ex, Wb, Ey, Zd, Jx, Zi, Zj, Sb, Js, Zh, Zk. -/
import Derived.Test.YtfedgcdkagngnaaGreatDO9
import Derived.Deep.CutBlock
import Derived.RangeFuncNested
import Derived.RangeFuncBound
import Derived.RangeFuncCalls
import Derived.RangeFuncLeaves
import Derived.RangeFuncBox
import Derived.Shelf.Abstract
import Derived.WalkKit
import Derived.OwnWalkIn
import Derived.TacticsInMore
import Derived.LoopNIn
import Derived.LoopIn
import Derived.Maps.AppendAt
import Derived.Deep.Cut
import Derived.Shelf.Strings.Builder1
import Derived.Test.YtfedgcdkagngnaaGreatProg

/- law20: Lead. -/
namespace Go.Proofs.YtfedgcdkagngnaaGreat
open Go.RowKit
set_option linter.unusedVariables false

/-- A pointer of an object leads to another one. -/
def Al.lead (m : Al) (xs : List Nat) (i p t : Int) : Al := if pickN xs i = 0 then m else ⟨⟨(m.bm.dev.setPtr (pickN xs i : Nat) p (pickN xs t : Nat)).dev, m.bm.list, m.bm.free⟩, m.used, m.fl⟩

theorem setPtr_clen (S : Dev) (a i x : Int) : (S.setPtr a i x).dev.cache.length = S.cache.length := by
  unfold Dev.setPtr
  split
  · rfl
  · split
    · rfl
    · exact store_clen _ _ _

set_option maxHeartbeats 4000000 in
set_option maxRecDepth 20000 in
theorem wlead_any {w : World} {A : AF} {n B : Nat} {m : Al} {v : Value} {xs : List Nat} (h : WAt w A n B m v xs) {N : Nat} (hN : N ≤ 900000000) (ho : m.bm.dev.ok N) (hl : xs.length ≤ 1000000) (hx : ∀ x ∈ xs, x ≤ 1000000) (i p t : Int) :
    Calls Tryz.prog 59 #[vworld A v, .int .i64 i, .int .i64 p, .int .i64 t] w fun e w' => e = .returned (.tuple #[]) ∧ WGo w w' A n B (m.lead xs i p t) v xs := by
  have HMem := Lib.hid (Mem.one w #[valloc A, vdev A.X.F, v] 28)
  have HW0 := Lib.hid (h.below HMem.out.below)
  have HB0 := Lib.hid HMem.out.below
  have HOk := Lib.hid ho
  have hle : ∀ j, (pickN xs j) ≤ 1000000 := fun j => by
    by_cases c : pickN xs j = 0
    · omega
    · exact hx _ (pickN_mem c)
  have HP1 := Lib.hid (fun w' (ho : OwnI w' v xs) => wpick_any (valloc A) (vdev A.X.F) v xs ho hl i)
  have HP2 := Lib.hid (fun w' (ho : OwnI w' v xs) => wpick_any (valloc A) (vdev A.X.F) v xs ho hl t)
  have HL : Hid (m.lead xs i p t = if pickN xs i = 0 then m else ⟨⟨(m.bm.dev.setPtr (pickN xs i : Nat) p (pickN xs t : Nat)).dev, m.bm.list, m.bm.free⟩, m.used, m.fl⟩) := Lib.hid rfl
  have h1 := hle i
  have h2 := hle t
  have HHi := Lib.hid h
  generalize m.lead xs i p t = m' at *
  generalize pickN xs i = pi at *
  generalize pickN xs t = pt at *
  have HP : Hid (∀ w', WGo w w' A n B m' v xs → (fun e w' => e = Ending.returned (.tuple #[]) ∧ WGo w w' A n B m' v xs) (.returned (.tuple #[])) w') := Lib.hid (fun w' h => ⟨rfl, h⟩)
  generalize (fun e w' => e = Ending.returned (.tuple #[]) ∧ WGo w w' A n B m' v xs) = Post at *
  clear h ho hle hx
  go_enter Tryz.func59, Tryz.ntmps59
  go_upto_region 1 with fail
  obtain ⟨q, hq⟩ : ∃ q, q = w.heap.size := ⟨_, rfl⟩
  rw [← hq] at HMem ⊢
  generalize w.alloc _ = w0 at *
  clear hq
  go_wp2_with (refine wpList_load_mem aggW HMem.out 0 rfl rfl rfl rfl rfl ?_)
  refine (HP1.out _ HW0.out.own).mono ?_
  rintro e w1 ⟨rfl, hb1⟩
  have HM1 := Lib.hid (HMem.out.later hb1)
  have HW1 := Lib.hid (HW0.out.below hb1)
  clear hb1
  by_cases hp : pi = 0
  · subst hp
    have HE : Hid (m' = m) := Lib.hid (by rw [HL.out, if_pos rfl])
    go_wp2_with fail
    go_end0
    refine HP.out _ ?_
    rw [HE.out]
    exact WGo.ahead HM1.out.below (WGo.refl HW1.out)
  have hp0 : (0 : Int) < (pi : Int) := by omega
  have HE : Hid (m' = ⟨⟨(m.bm.dev.setPtr (pi : Nat) p (pt : Nat)).dev, m.bm.list, m.bm.free⟩, m.used, m.fl⟩) := Lib.hid (by rw [HL.out, if_neg hp])
  clear HL
  go_upto_region 3 with fail
  have c0 := HM1.out.cell 0 0 rfl rfl
  have c1 := HM1.out.cell 0 1 rfl rfl
  have c2 := HM1.out.cell 0 2 rfl rfl
  have r0 := fun x => later_cell c0 x
  have r1 := fun x => later_cell c1 x
  have r2 := fun x => later_cell c2 x
  refine wp_region_seg (C := fun w' => ∃ x : Later (w1), w' = x.val) [.fl [0, 1, 2, 3, 4, 5], .sq [6] true, .sq [7] false] (by kernel_rfl) (by kernel_rfl) (by intro c a d v w h; cases d <;> exact h) ?_
  simp only [segs, picks, List.getElem?_cons_succ, List.getElem?_cons_zero]
  have hC1 := later_drew (w1)
  refine wpSeg_fl hC1 ?_
  repeat (first | go_big_quiet_step (fail) | quiet_step (fail))
  refine wpQuiet_nil ?_
  have HW2 := Lib.hid (HW1.out.below (later_below hC1))
  have HM2 := Lib.hid (HM1.out.later (later_below hC1))
  clear c0 c1 c2 r0 r1 r2
  generalize w1.drew = w2 at *
  refine wpSeg_sq (fun K hK => ?_)
  go_wp2_with fail
  refine (HP2.out _ HW2.out.own).mono ?_
  rintro e w3 ⟨rfl, hb3⟩
  have HW3 := Lib.hid (HW2.out.below hb3)
  have HM3 := Lib.hid (HM2.out.later hb3)
  have hC2 := later_step hC1 hb3
  clear hb3
  go_wp2_with fail
  refine hK _ _ (fun _ => hC2) ?_
  clear hK K
  refine wpSeg_last ?_
  go_wp2_with fail
  refine (osetPtr_any HW3.out.al.man.dev (N := N) (by omega) HOk.out _ _ _ (by omega)).mono ?_
  rintro e w4 ⟨rfl, hd4, ht4⟩
  obtain ⟨hm4, ht4'⟩ := HW3.out.al.man.setDev hd4 ht4
  have HG4 : Hid (WGo w3 w4 A n B m' v xs) := Lib.hid (by
    rw [HE.out]
    exact HW3.out.al' (HW3.out.al.setMan (Nat.le_refl _) hm4 ht4' (setPtr_clen _ _ _ _)))
  clear hd4 ht4 hm4 ht4'
  go_wp2_with fail
  go_end0
  exact HP.out _ (WGo.ahead HM3.out.below HG4.out)

end Go.Proofs.YtfedgcdkagngnaaGreat

/- The reference's objects: Size, Encode, Decode; law08.Ref. -/
namespace Go.Proofs.YtfedgcdkagngnaaGreat
open Go.RowKit
set_option linter.unusedVariables false

theorem aggRo : Agg Tryz.prog 55 #[.int .i64 0, .int .i64 0] := ⟨⟨_, Tryz.underlying55, rfl⟩, by kernel_rfl⟩
set_option maxHeartbeats 1000000 in
theorem rsize8_any (p d : Int) (w : World) : Calls Tryz.prog 141 #[vob p d] w fun e w' => e = .returned (.int .i64 (objSize p d : Nat)) ∧ Below w.heap.size w w' := by
  have HM := Lib.hid (Mem.one w #[.int .i64 p, .int .i64 d] 55)
  have HS : Hid (objSize p d = if p < 0 ∨ 63 < p ∨ d < 0 ∨ 16384 < d then 0 else (1 + p + d).toNat) := Lib.hid rfl
  generalize objSize p d = n at *
  go_enter Tryz.func141, Tryz.ntmps141
  go_upto_region 1 with fail
  generalize w.alloc _ = w0 at *
  have c0 := HM.out.cell 0 0 rfl rfl
  have c1 := HM.out.cell 0 1 rfl rfl
  by_cases h1 : p < 0
  · have HV : Hid (n = 0) := Lib.hid (by rw [HS.out, if_pos (.inl h1)])
    go_wp2_with fail
    go_ret
    exact ⟨by rw [HV.out]; rfl, HM.out.below⟩
  by_cases h2 : 63 < p
  · have HV : Hid (n = 0) := Lib.hid (by rw [HS.out, if_pos (.inr (.inl h2))])
    go_wp2_with fail
    go_ret
    exact ⟨by rw [HV.out]; rfl, HM.out.below⟩
  by_cases h3 : d < 0
  · have HV : Hid (n = 0) := Lib.hid (by rw [HS.out, if_pos (.inr (.inr (.inl h3)))])
    go_wp2_with fail
    go_ret
    exact ⟨by rw [HV.out]; rfl, HM.out.below⟩
  by_cases h4 : 16384 < d
  · have HV : Hid (n = 0) := Lib.hid (by rw [HS.out, if_pos (.inr (.inr (.inr h4)))])
    go_wp2_with fail
    go_ret
    exact ⟨by rw [HV.out]; rfl, HM.out.below⟩
  have HV : Hid ((n : Int) = 1 + p + d) := Lib.hid (by rw [HS.out, if_neg (by omega)]; omega)
  go_wp2_with fail
  go_ret
  exact ⟨ret_int HV.out.symm, HM.out.below⟩
set_option maxHeartbeats 1000000 in
theorem rencode8_any (p d a : Int) (w : World) : Calls Tryz.prog 206 #[vob p d, .int .i64 a] w fun e w' => e = .returned (vu64 (oencN a p d)) ∧ Below w.heap.size w w' := by
  have HM := Lib.hid (Mem.one w #[.int .i64 p, .int .i64 d] 55)
  have HE : Hid (oencN a p d = if objSize p d = 0 then 0 else sealN (obN p d) (pl a)) := Lib.hid rfl
  generalize oencN a p d = y at *
  go_enter Tryz.func206, Tryz.ntmps206
  go_upto_region 1 with fail
  generalize w.alloc _ = w0 at *
  go_wp2_with (refine wpList_load_mem aggRo HM.out 0 rfl rfl rfl rfl rfl ?_)
  refine (rsize8_any p d _).mono ?_
  rintro e w1 ⟨rfl, hb1⟩
  have HM1 := Lib.hid (HM.out.later hb1)
  clear hb1 HM
  by_cases hr : objSize p d = 0
  · have HV : Hid (y = 0) := Lib.hid (by rw [HE.out, if_pos hr])
    rw [hr]
    clear hr
    go_wp2_with fail
    go_ret
    exact ⟨ret_int (by rw [HV.out]; rfl), HM1.out.below⟩
  · have HV : Hid (y = sealN (obN p d) (pl a)) := Lib.hid (by rw [HE.out, if_neg hr])
    have hn := obN_lt hr
    obtain ⟨⟨p0, p1⟩, d0, d1⟩ := obj_small hr
    have HN : Hid (165 + 256 * p + 16384 * d = (obN p d : Int)) := Lib.hid (by unfold obN; omega)
    have hz : (((objSize p d : Nat) : Int) == 0) = false := by simp; omega
    have c0 := HM1.out.cell 0 0 rfl rfl
    have c1 := HM1.out.cell 0 1 rfl rfl
    generalize objSize p d = sz at *
    generalize obN p d = n at *
    clear hr
    have hw : IntKind.u32.wrap (165 + 256 * p + 16384 * d) = 165 + 256 * p + 16384 * d := IntWalk.u32_in _ (by omega)
    go_wp2_with fail
    rw [HN.out]
    refine (rseal_any n _ hn _).mono ?_
    rintro e w2 ⟨rfl, hb2⟩
    rw [← HV.out]
    go_wp2_with fail
    go_ret
    exact ⟨rfl, (HM1.out.later hb2).below⟩
set_option maxHeartbeats 1000000 in
theorem rdecode8_any (a : Int) (x : Nat) (hx : x < 18446744073709551616) (w : World) :
    Calls Tryz.prog 154 #[.int .i64 a, vu64 x] w fun e w' => e = .returned (odecN a x).val ∧ Below w.heap.size w w' := by
  have HM := Lib.hid (Mem.one w #[.int .i64 0, .int .i64 0] 55)
  have HOS : Hid ((odecN a x).code = 0 → objSize (odecN a x).p (odecN a x).d ≠ 0) := Lib.hid (fun h => (odec_size h).1)
  go_enter Tryz.func154, Tryz.ntmps154
  go_upto_region 1 with fail
  generalize w.alloc _ = w0 at *
  go_wp2_with fail
  refine (ropen_any x _ hx _).mono ?_
  rintro e w1 ⟨rfl, hbo⟩
  have HM1 := Lib.hid (HM.out.later hbo)
  clear hbo HM
  cases ho : openN x (pl a) with
  | none =>
    have HV := Lib.hid (odecN_none ho)
    clear ho
    simp only [openV]
    go_wp2_with (refine wpList_store_mem aggRo HM1.out 0 rfl rfl rfl rfl rfl rfl rfl rfl ?_; intro w9 h9 _; have H9 := Lib.hid h9; clear h9)
    refine bodyPost_ret (results_cell_row2 (p := 4) (u := 5) rfl _ _ _ _ _ _ _ rfl (H9.out.exact 0 rfl) Tryz.underlying55 rfl (by kernel_rfl)) rfl ⟨by rw [HV.out]; rfl, H9.out.below⟩
  | some n =>
    obtain ⟨hn, -⟩ := openN_some ho
    have HK := Lib.hid (odecN_ok ho)
    have HL := Lib.hid (odecN_bad ho)
    have HD := Lib.hid (odecN_some ho)
    have HDS : Hid (odecS a x n = if oencN a (n / 256 % 64 : Nat) (n / 16384 % 32768 : Nat) = x then ⟨(n / 256 % 64 : Nat), (n / 16384 % 32768 : Nat), 0⟩ else ⟨0, 0, 26⟩) := Lib.hid rfl
    clear ho
    simp only [openV]
    have h64 : n / 256 % 64 < 64 := by omega
    have h6 : n / 16384 % 32768 < 32768 := by omega
    have hmod1 : (n : Int) / 256 % 64 = ((n / 256 % 64 : Nat) : Int) := by omega
    have hmod2 : (n : Int) / 16384 % 32768 = ((n / 16384 % 32768 : Nat) : Int) := by omega
    have HM1' := Lib.hid (HM1.out.alloc #[.int .i64 ((n : Int) / 256 % 64), .int .i64 ((n : Int) / 16384 % 32768)] 55)
    have HMOD1 := Lib.hid hmod1
    have HMOD2 := Lib.hid hmod2
    clear hmod1 hmod2
    go_upto_region 5 with fail
    rw [HMOD1.out, HMOD2.out] at HM1' ⊢
    clear HMOD1 HMOD2
    generalize n / 256 % 64 = k at *
    generalize n / 16384 % 32768 = l at *
    generalize w1.alloc _ = w2 at *
    generalize w1.heap.size = g at *
    clear HM1
    go_wp2_with (refine wpList_load_mem aggRo HM1'.out 1 rfl rfl rfl rfl rfl ?_)
    refine (rsize8_any k l _).mono ?_
    rintro e w3 ⟨rfl, hb3⟩
    have HM3 := Lib.hid (HM1'.out.later hb3)
    clear hb3 HM1'
    by_cases hyx : oencN a k l = x
    · have HV := Lib.hid (HK.out hyx)
      have hsz : objSize (k : Int) (l : Int) ≠ 0 := by
        have h1 := HOS.out
        rw [HD.out, HDS.out, if_pos hyx] at h1
        exact h1 rfl
      have hz : (((objSize (k : Int) (l : Int) : Nat) : Int) == 0) = false := by simp; omega
      generalize objSize (k : Int) (l : Int) = sz at *
      clear hsz
      have HYX := Lib.hid hyx
      clear hyx
      have c0 := HM3.out.cell 1 0 rfl rfl
      have c1 := HM3.out.cell 1 1 rfl rfl
      go_wp2_with fail
      clear c0 c1
      refine (rencode8_any k l a _).mono ?_
      rintro e w4 ⟨rfl, hb4⟩
      rw [HYX.out]
      have HM4 := Lib.hid (HM3.out.later hb4)
      clear hb4 HM3
      go_wp2_with (first | (refine wpList_load_mem aggRo HM4.out 1 rfl rfl rfl rfl rfl ?_) | (refine wpList_store_mem aggRo HM4.out 0 rfl rfl rfl rfl rfl rfl rfl rfl ?_; intro w9 h9 _; have H9 := Lib.hid h9; clear h9))
      refine bodyPost_ret (results_cell_row2 (p := 4) (u := 5) rfl _ _ _ _ _ _ _ rfl (H9.out.exact 0 rfl) Tryz.underlying55 rfl (by kernel_rfl)) rfl ⟨by rw [HV.out]; rfl, H9.out.below⟩
    · have HV := Lib.hid (HL.out hyx)
      by_cases hsz : objSize (k : Int) (l : Int) = 0
      · rw [hsz]
        clear hsz
        go_wp2_with (first | (refine wpList_load_mem aggRo HM3.out 1 rfl rfl rfl rfl rfl ?_) | (refine wpList_store_mem aggRo HM3.out 0 rfl rfl rfl rfl rfl rfl rfl rfl ?_; intro w9 h9 _; have H9 := Lib.hid h9; clear h9))
        refine bodyPost_ret (results_cell_row2 (p := 4) (u := 5) rfl _ _ _ _ _ _ _ rfl (H9.out.exact 0 rfl) Tryz.underlying55 rfl (by kernel_rfl)) rfl ⟨by rw [HV.out]; rfl, H9.out.below⟩
      have hz : (((objSize (k : Int) (l : Int) : Nat) : Int) == 0) = false := by simp; omega
      generalize objSize (k : Int) (l : Int) = sz at *
      clear hsz
      have HYX := Lib.hid hyx
      clear hyx
      have c0 := HM3.out.cell 1 0 rfl rfl
      have c1 := HM3.out.cell 1 1 rfl rfl
      go_wp2_with fail
      clear c0 c1
      refine (rencode8_any k l a _).mono ?_
      rintro e w4 ⟨rfl, hb4⟩
      have HM4 := Lib.hid (HM3.out.later hb4)
      clear hb4 HM3
      have hne : ¬ ((oencN a (k : Int) (l : Int) : Int) = (x : Int)) := by have := HYX.out; omega
      have hne2 : ((oencN a (k : Int) (l : Int) : Int) != (x : Int)) = true := by simp; have := HYX.out; omega
      generalize oencN a (k : Int) (l : Int) = y at *
      go_wp2_with (first | (refine wpList_load_mem aggRo HM4.out 1 rfl rfl rfl rfl rfl ?_) | (refine wpList_store_mem aggRo HM4.out 0 rfl rfl rfl rfl rfl rfl rfl rfl ?_; intro w9 h9 _; have H9 := Lib.hid h9; clear h9))
      refine bodyPost_ret (results_cell_row2 (p := 4) (u := 5) rfl _ _ _ _ _ _ _ rfl (H9.out.exact 0 rfl) Tryz.underlying55 rfl (by kernel_rfl)) rfl ⟨by rw [HV.out]; rfl, H9.out.below⟩
end Go.Proofs.YtfedgcdkagngnaaGreat

/- The reference's objects on a device: Head, Place, Init. -/
namespace Go.Proofs.YtfedgcdkagngnaaGreat
open Go.RowKit
set_option linter.unusedVariables false

/-- What Head answers. -/
def headV (o : Odec) : Value := .tuple #[vob o.p o.d, .bool (decide (o.code = 0))]

set_option maxHeartbeats 4000000 in
set_option maxRecDepth 100000 in
theorem rhead15_any {w : World} {v : Value} {S : Dev} {m : Nat} (hm : S.dirty.length = m) (h : RAt w v m S.ref) {N : Nat} (hf : S.fit N) (a : Int) :
    Calls Tryz.prog 86 #[v, .int .i64 a] w fun e w' => e = .returned (headV (headN S a)) ∧ Below w.heap.size w w' := by
  subst hm
  obtain ⟨an, cn, al, cl, aw, cw, ad, cd, ap, cp, m, sv, fz, dd, rfl, ho, hdl, hm8, hsv, hfz⟩ := ropen h hf
  have HV : Hid (headN S a = if a < 0 ∨ (S.cache.length : Int) ≤ a then ⟨0, 0, 22⟩ else
    if (odecN a (peek S.cache a)).code ≠ 0 ∨ (S.cache.length : Int) - a < (objSize (odecN a (peek S.cache a)).p (odecN a (peek S.cache a)).d : Nat) then ⟨0, 0, 22⟩ else ⟨(odecN a (peek S.cache a)).p, (odecN a (peek S.cache a)).d, 0⟩) := Lib.hid rfl
  generalize headN S a = R at *
  have HPk := Lib.hid (peek_lt hf.wf.u64C a)
  have HO := Lib.hid ho
  have HCL := Lib.hid ho.cl
  clear h hf ho hdl
  have HM := Lib.hid (Mem.two w #[.slice an m cn, .slice al m cl, .slice aw m cw, .slice ad m cd, .slice ap m cp, .int .i64 sv, .int .i64 fz, .bool dd] 34 #[.int .i64 0, .int .i64 0] 55)
  go_enter Tryz.func86, Tryz.ntmps86
  go_upto_region 1 with fail
  generalize (w.alloc _).alloc _ = w0 at *
  have c0 := HM.out.cell 0 0 rfl rfl
  by_cases h1 : a < 0
  · have HR : Hid (R = ⟨0, 0, 22⟩) := Lib.hid (by rw [HV.out, if_pos (.inl h1)])
    go_wp2_with (refine wpList_store_mem aggRo HM.out 1 rfl rfl rfl rfl rfl rfl rfl rfl ?_; intro w9 h9 _; have H9 := Lib.hid h9; clear h9)
    exact bodyPost_ret (results_cell_row2 (p := 4) (u := 5) rfl _ _ _ _ _ _ _ rfl (H9.out.exact 1 rfl) Tryz.underlying55 rfl (by kernel_rfl)) rfl ⟨by rw [HR.out]; rfl, H9.out.below⟩
  by_cases h2 : 8 * (m : Int) ≤ a
  · have HR : Hid (R = ⟨0, 0, 22⟩) := Lib.hid (by rw [HV.out, if_pos (.inr (by rw [HCL.out]; omega))])
    go_wp2_with (refine wpList_store_mem aggRo HM.out 1 rfl rfl rfl rfl rfl rfl rfl rfl ?_; intro w9 h9 _; have H9 := Lib.hid h9; clear h9)
    exact bodyPost_ret (results_cell_row2 (p := 4) (u := 5) rfl _ _ _ _ _ _ _ rfl (H9.out.exact 1 rfl) Tryz.underlying55 rfl (by kernel_rfl)) rfl ⟨by rw [HR.out]; rfl, H9.out.below⟩
  have HV2 : Hid (R = if (odecN a (peek S.cache a)).code ≠ 0 ∨ 8 * (m : Int) - a < (objSize (odecN a (peek S.cache a)).p (odecN a (peek S.cache a)).d : Nat) then ⟨0, 0, 22⟩ else ⟨(odecN a (peek S.cache a)).p, (odecN a (peek S.cache a)).d, 0⟩) := Lib.hid (by
    rw [HV.out, if_neg (by rw [HCL.out]; omega), show (S.cache.length : Int) = 8 * (m : Int) by rw [HCL.out]; omega])
  clear HV
  go_wp2_with fail
  refine (rget_any an m cn S.cache _ (HO.out.k1.below HM.out.below (Nat.le_refl _)) HCL.out (by omega) a).mono ?_
  rintro e w1 ⟨rfl, rfl⟩
  generalize peek S.cache a = x at *
  go_wp2_with fail
  refine (rdecode8_any a x HPk.out _).mono ?_
  rintro e w1 ⟨rfl, hb1⟩
  have HM1 := Lib.hid (HM.out.later hb1)
  generalize odecN a x = o at *
  obtain ⟨p, d, c⟩ := o
  unfold Odec.val
  dsimp only at HV2 ⊢
  have HM2 := Lib.hid (HM1.out.alloc #[.int .i64 p, .int .i64 d] 55)
  clear hb1 HM c0 HM1
  go_upto_region 4 with fail
  generalize w1.alloc _ = w2 at *
  generalize w1.heap.size = g at *
  by_cases hc : c = 0
  · subst hc
    have c0 := HM2.out.cell 0 0 rfl rfl
    have d0 := HM2.out.cell 2 0 rfl rfl
    have d1 := HM2.out.cell 2 1 rfl rfl
    have r0 := fun x => later_cell c0 x
    have r1 := fun x => later_cell d0 x
    have r2 := fun x => later_cell d1 x
    have hw : IntKind.i64.wrap (8 * (m : Int) - a) = 8 * (m : Int) - a := IntWalk.i64_in _ (by omega)
    refine wp_region_seg (C := fun w' => ∃ x : Later (w2), w' = x.val) [.sq [0, 1, 2] false, .fl [3, 5, 6, 7, 8, 9, 10], .sq [4] true, .sq [11, 12] false] (by kernel_rfl) (by kernel_rfl) (by intro c a d v w h; cases d <;> exact h) ?_
    simp only [segs, picks, List.getElem?_cons_succ, List.getElem?_cons_zero]
    have hC1 := later_drew (w2)
    refine wpSeg_sq (fun K hK => ?_)
    go_wp2_with fail
    refine hK _ _ (fun h => nomatch h) ?_
    clear hK K
    refine wpSeg_fl hC1 ?_
    repeat (first | go_big_quiet_step (fail) | quiet_step (fail))
    refine wpQuiet_nil ?_
    refine wpSeg_sq (fun K hK => ?_)
    go_wp2_with fail
    have HM3 := Lib.hid (HM2.out.later (later_below hC1))
    refine (rsize8_any p d _).mono ?_
    rintro e w3 ⟨rfl, hb3⟩
    have hC2 := later_step hC1 hb3
    have HM4 := Lib.hid (HM3.out.later hb3)
    clear hb3 HM3
    go_wp2_with fail
    refine hK _ _ (fun _ => hC2) ?_
    clear hK K
    clear HM2 c0 d0 d1 r0 r1 r2 hC1 hC2
    generalize objSize p d = sz at *
    by_cases h3 : 8 * (m : Int) - a < (sz : Int)
    · have HR : Hid (R = ⟨0, 0, 22⟩) := Lib.hid (by rw [HV2.out, if_pos (.inr h3)])
      refine wpSeg_last ?_
      go_wp2_with (refine wpList_store_mem aggRo HM4.out 1 rfl rfl rfl rfl rfl rfl rfl rfl ?_; intro w9 h9 _; have H9 := Lib.hid h9; clear h9)
      exact bodyPost_ret (results_cell_row2 (p := 4) (u := 5) rfl _ _ _ _ _ _ _ rfl (H9.out.exact 1 rfl) Tryz.underlying55 rfl (by kernel_rfl)) rfl ⟨by rw [HR.out]; rfl, H9.out.below⟩
    · have HR : Hid (R = ⟨p, d, 0⟩) := Lib.hid (by rw [HV2.out, if_neg (by simp; omega)])
      refine wpSeg_last ?_
      go_wp2_with (first | (refine wpList_load_mem aggRo HM4.out 2 rfl rfl rfl rfl rfl ?_) | (refine wpList_store_mem aggRo HM4.out 1 rfl rfl rfl rfl rfl rfl rfl rfl ?_; intro w9 h9 _; have H9 := Lib.hid h9; clear h9))
      exact bodyPost_ret (results_cell_row2 (p := 4) (u := 5) rfl _ _ _ _ _ _ _ rfl (H9.out.exact 1 rfl) Tryz.underlying55 rfl (by kernel_rfl)) rfl ⟨by rw [HR.out]; rfl, H9.out.below⟩
  · have HR : Hid (R = ⟨0, 0, 22⟩) := Lib.hid (by rw [HV2.out, if_pos (.inl hc)])
    have hc1 : (c != 0) = true := by simpa using hc
    clear hc
    refine wp_region_seg (C := fun w' => ∃ x : Later (w2), w' = x.val) [.sq [0, 1, 2] false, .fl [3, 5, 6, 7, 8, 9, 10], .sq [4] true, .sq [11, 12] false] (by kernel_rfl) (by kernel_rfl) (by intro c a d v w h; cases d <;> exact h) ?_
    simp only [segs, picks, List.getElem?_cons_succ, List.getElem?_cons_zero]
    have hC1 := later_drew (w2)
    refine wpSeg_sq (fun K hK => ?_)
    go_wp2_with fail
    refine hK _ _ (fun h => nomatch h) ?_
    clear hK K
    refine wpSeg_fl hC1 ?_
    repeat (first | go_big_quiet_step (fail) | quiet_step (fail))
    refine wpQuiet_nil ?_
    refine wpSeg_sq (fun K hK => ?_)
    go_wp2_with fail
    go_wp2_with fail
    refine hK _ _ (fun _ => hC1) ?_
    clear hK K
    have HM4 := Lib.hid (HM2.out.later (later_below hC1))
    clear HM2 hC1
    refine wpSeg_last ?_
    go_wp2_with (refine wpList_store_mem aggRo HM4.out 1 rfl rfl rfl rfl rfl rfl rfl rfl ?_; intro w9 h9 _; have H9 := Lib.hid h9; clear h9)
    exact bodyPost_ret (results_cell_row2 (p := 4) (u := 5) rfl _ _ _ _ _ _ _ rfl (H9.out.exact 1 rfl) Tryz.underlying55 rfl (by kernel_rfl)) rfl ⟨by rw [HR.out]; rfl, H9.out.below⟩
end Go.Proofs.YtfedgcdkagngnaaGreat

/- object: Ptr, Data, Ptrs; the reference's. -/
namespace Go.Proofs.YtfedgcdkagngnaaGreat
open Go.RowKit
set_option linter.unusedVariables false

/-- A pointer, held within its bound. -/
def capP (x : Nat) : Nat := if 1099511627776 < x then 1099511627776 else x
theorem capP_le (x : Nat) : capP x ≤ 1099511627776 := by unfold capP; split <;> omega

set_option maxHeartbeats 1000000 in
theorem optrG_any {w : World} {F : Foot} {S : Dev} (h : DevAt w F S) (a i : Int) :
    Calls Tryz.prog 58 #[vdev F, .int .i64 a, .int .i64 i] w fun e w' => e = .returned (.tuple #[.int .i64 ((if (placeN S a i false).code = 0 then capP (peek S.cache (placeN S a i false).at_) else 0 : Nat) : Int), .int .i64 (placeN S a i false).code]) ∧ Below w.heap.size w w' := by
  have HD := Lib.hid h
  clear h
  obtain ⟨pn, hpn⟩ : ∃ pn, pn = placeN S a i false := ⟨_, rfl⟩
  rw [← hpn]
  have HPN := Lib.hid hpn
  clear hpn
  generalize hR : (if pn.code = 0 then capP (peek S.cache pn.at_) else 0 : Nat) = R
  have HR := Lib.hid hR
  clear hR
  go_enter Tryz.func58, Tryz.ntmps58
  go_wp2_with fail
  refine (ofield_any HD.out a i false).mono ?_
  rw [← HPN.out]
  rintro e w1 ⟨rfl, hb1⟩
  clear HPN
  obtain ⟨q, c⟩ := pn
  dsimp only at HR ⊢
  have HB := Lib.hid hb1
  have HD1 := Lib.hid (HD.out.below hb1)
  clear hb1 HD
  by_cases hc : c = 0
  · subst hc
    go_wp2_with fail
    refine (dget_any HD1.out q).mono ?_
    rintro e w2 ⟨rfl, rfl⟩
    rw [if_pos trivial] at HR
    generalize peek S.cache q = x at *
    by_cases hx : 1099511627776 < x
    · have HV : Hid (R = 1099511627776) := Lib.hid (by rw [← HR.out]; unfold capP; rw [if_pos hx])
      have hmin : min (x : Int) 1099511627776 = 1099511627776 := Int.min_eq_right (by omega)
      go_wp2_with fail
      go_ret2
      exact ⟨by rw [HV.out]; rfl, HB.out⟩
    · have HV : Hid (R = x) := Lib.hid (by rw [← HR.out]; unfold capP; rw [if_neg hx])
      have hmin : min (x : Int) 1099511627776 = (x : Int) := Int.min_eq_left (by omega)
      go_wp2_with fail
      go_ret2
      exact ⟨by rw [HV.out]; rfl, HB.out⟩
  · have hc1 : (c != 0) = true := by simpa using hc
    have HV : Hid (R = 0) := Lib.hid (by rw [← HR.out, if_neg hc])
    clear hc
    go_wp2_with fail
    go_ret2
    exact ⟨by rw [HV.out]; rfl, HB.out⟩

set_option maxHeartbeats 1000000 in
theorem odataG_any {w : World} {F : Foot} {S : Dev} (h : DevAt w F S) (a i : Int) :
    Calls Tryz.prog 84 #[vdev F, .int .i64 a, .int .i64 i] w fun e w' => e = .returned (.tuple #[vu64 (if (placeN S a i true).code = 0 then peek S.cache (placeN S a i true).at_ else 0 : Nat), .int .i64 (placeN S a i true).code]) ∧ Below w.heap.size w w' := by
  have HD := Lib.hid h
  clear h
  obtain ⟨pn, hpn⟩ : ∃ pn, pn = placeN S a i true := ⟨_, rfl⟩
  rw [← hpn]
  have HPN := Lib.hid hpn
  clear hpn
  generalize hR : (if pn.code = 0 then peek S.cache pn.at_ else 0 : Nat) = R
  have HR := Lib.hid hR
  clear hR
  go_enter Tryz.func84, Tryz.ntmps84
  go_wp2_with fail
  refine (ofield_any HD.out a i true).mono ?_
  rw [← HPN.out]
  rintro e w1 ⟨rfl, hb1⟩
  clear HPN
  obtain ⟨q, c⟩ := pn
  dsimp only at HR ⊢
  have HB := Lib.hid hb1
  have HD1 := Lib.hid (HD.out.below hb1)
  clear hb1 HD
  by_cases hc : c = 0
  · subst hc
    go_wp2_with fail
    refine (dget_any HD1.out q).mono ?_
    rintro e w2 ⟨rfl, rfl⟩
    rw [if_pos trivial] at HR
    go_wp2_with fail
    go_ret2
    exact ⟨by rw [HR.out]; rfl, HB.out⟩
  · have hc1 : (c != 0) = true := by simpa using hc
    have HV : Hid (R = 0) := Lib.hid (by rw [← HR.out, if_neg hc])
    clear hc
    go_wp2_with fail
    go_ret2
    exact ⟨by rw [HV.out]; rfl, HB.out⟩

set_option maxHeartbeats 400000 in
theorem rptr_any (x : Nat) (w : World) : Calls Tryz.prog 111 #[vu64 x] w fun e w' => e = .returned (.int .i64 (capP x : Nat)) ∧ w = w' := by
  by_cases hx : 1099511627776 < x
  · have HV : Hid (capP x = 1099511627776) := Lib.hid (by unfold capP; rw [if_pos hx])
    have hx' : (1099511627776 : Int) < (x : Int) := by omega
    go_enter Tryz.func111, Tryz.ntmps111
    go_wp2_with fail
    go_ret
    exact ⟨by rw [HV.out]; rfl, rfl⟩
  · have HV : Hid (capP x = x) := Lib.hid (by unfold capP; rw [if_neg hx])
    have hx' : ¬ (1099511627776 : Int) < (x : Int) := by omega
    go_enter Tryz.func111, Tryz.ntmps111
    go_wp2_with fail
    go_ret
    exact ⟨by rw [HV.out]; rfl, rfl⟩

/-- Where an object's pointers lead. -/
def ptrL (S : Dev) (a : Int) (k : Nat) : List Nat := (List.range k).map fun i : Nat => capP (peek S.cache (a + 1 + (i : Int)))
theorem ptrL_succ (S : Dev) (a : Int) (k : Nat) : ptrL S a (k + 1) = ptrL S a k ++ [capP (peek S.cache (a + 1 + (k : Int)))] := by simp [ptrL, List.range_succ]
/-- What the reference's list of fields is. -/
def RList (e n : Nat) (vs : List Value) (w : World) : Ending → World → Prop := fun r w' => ∃ v, r = .returned v ∧ w'.ownsRow w.heap.size e 1 v n vs ∧ Below w.heap.size w w'

set_option maxHeartbeats 2000000 in
set_option maxRecDepth 20000 in
theorem rptrs15_any {w : World} {v : Value} {S : Dev} {m : Nat} (hm : S.dirty.length = m) (h : RAt w v m S.ref) {N : Nat} (hf : S.fit N) (a : Int) :
    Calls Tryz.prog 40 #[v, .int .i64 a] w (RList 3 (if (headN S a).code = 0 then (headN S a).p.toNat else 0) ((ptrL S a (if (headN S a).code = 0 then (headN S a).p.toNat else 0)).map vi) w) := by
  subst hm
  obtain ⟨an, cn, al, cl, aw, cw, ad, cd, ap, cp, m, sv, fz, dd, rfl, ho, hdl, hm8, hsv, hfz⟩ := ropen h hf
  have HRA := Lib.hid h
  have HF := Lib.hid hf
  have HSm := Lib.hid (head_small hf.wf.small (a := a))
  rw [hdl] at HRA
  have HK1 := Lib.hid ho.k1
  have HCL := Lib.hid ho.cl
  obtain ⟨n, hn⟩ : ∃ n, n = if (headN S a).code = 0 then (headN S a).p.toNat else 0 := ⟨_, rfl⟩
  rw [← hn]
  generalize hpo : RList 3 n ((ptrL S a n).map vi) w = Post
  have HDL := Lib.hid hdl
  have HN := Lib.hid hn
  have HPO := Lib.hid hpo
  clear hdl hn hpo
  clear h hf ho
  have HM := Lib.hid (Mem.one w #[.slice an m cn, .slice al m cl, .slice aw m cw, .slice ad m cd, .slice ap m cp, .int .i64 sv, .int .i64 fz, .bool dd] 34)
  go_enter Tryz.func40, Tryz.ntmps40
  go_upto_region 1 with fail
  generalize w.alloc _ = w0 at *
  go_wp2_with (refine wpList_load_mem aggRd HM.out 0 rfl rfl rfl rfl rfl ?_)
  refine (rhead15_any HDL.out (HRA.out.below HM.out.below (Nat.le_refl _)) HF.out a).mono ?_
  rintro e w1 ⟨rfl, hb1⟩
  generalize headN S a = x at *
  obtain ⟨p, d, c⟩ := x
  unfold headV
  dsimp only at HSm HN ⊢
  have HM2 := Lib.hid ((HM.out.later hb1).alloc #[.int .i64 p, .int .i64 d] 55)
  clear hb1 HM
  by_cases hc : c = 0
  · subst hc
    obtain ⟨ha, ⟨hp0, hp1⟩, _⟩ := HSm.out rfl
    have hnp : p = (n : Int) := by have := HN.out; rw [if_pos rfl] at this; omega
    subst hnp
    rw [decide_eq_true (show (0 : Int) = 0 from rfl)]
    go_upto_region 2 with fail
    generalize w1.alloc _ = w2 at *
    generalize w1.heap.size = g at *
    go_wp2_with fail
    go_loopw [7, 8] (fun v i wr => ∃ k : Nat, k ≤ n ∧ i = .int .i64 k ∧ wr.ownsRow w2.heap.size 3 1 v k ((ptrL S a k).map vi) ∧ Below w2.heap.size w2 wr) (fun _ i _ => n - (intOf i).toNat)
    case atStart => exact ⟨0, Nat.zero_le _, rfl, ⟨rfl, .inl ⟨rfl, rfl⟩⟩, Below.refl _ _⟩
    case round =>
      obtain ⟨k, hk, rfl, ho, hb⟩ := hrel
      obtain ⟨a1, c1, rfl, hc1, hm1⟩ := owned_form ho
      have c0 := (HM2.out.later hb).cell 0 0 rfl rfl
      have o0 := (HM2.out.later hb).cell 1 0 rfl rfl
      have HO := Lib.hid ho
      have HB := Lib.hid hb
      clear ho hb
      by_cases hlt : k < n
      · have hlt' : (k : Int) < (n : Int) := by omega
        have HS := Lib.hid (ptrL_succ S a k)
        go_wp2_with fail
        refine (rget_any an m cn S.cache _ (HK1.out.below (HM2.out.later HB.out).below (Nat.le_refl _)) HCL.out (by omega) _).mono ?_
        rintro e w3 ⟨rfl, rfl⟩
        generalize peek S.cache (a + 1 + (k : Int)) = y at *
        go_wp2_with fail
        refine (rptr_any y _).mono ?_
        rintro e w3 ⟨rfl, rfl⟩
        generalize capP y = y2 at *
        have hone : Hid (∀ u ∈ (#[vi y2] : Array Value).toList, u.oneCell' = true) := Lib.hid (by intro u hu; simp at hu; subst hu; rfl)
        have hbase : Hid (w2.heap.size ≤ wr.heap.size) := Lib.hid HB.out.size
        have hk9 : k < 1000000000000 := by omega
        clear c0 o0
        go_wp2_with (at_builtin; refine wpList_append_new (us := #[vi y2]) elInt HO.out rfl hone.out hk9 (by decide) hbase.out rfl rfl rfl (by simp [Act.eval]) ?_; intro g6 c6 w6 ho6 hg6 hc6 hm6 hb6 hl6; have HO6 := Lib.hid ho6; have HG6 := Lib.hid hg6; clear ho6 hg6)
        refine ⟨⟨k + 1, by omega, vint (by omega), ?_, below_grownBy HB.out HO.out HG6.out (Nat.le_refl _) (Nat.le_refl _)⟩, by simp [intOf]; omega⟩
        rw [HS.out]
        simpa using HO6.out
      · obtain rfl : k = n := by omega
        have hlt' : decide ((k : Int) < (k : Int)) = false := by simp
        go_wp2_with fail
        rw [← HPO.out]
        exact ⟨_, rfl, owned_base HO.out HM2.out.below.size, (HM2.out.later HB.out).below⟩
  · have hn0 : n = 0 := by rw [HN.out, if_neg hc]
    subst hn0
    rw [decide_eq_false hc]
    clear hc
    go_upto_region 2 with fail
    generalize w1.alloc _ = w2 at *
    generalize w1.heap.size = g at *
    go_wp2_with fail
    go_loopw [7, 8] (fun v i wr => v = .slice none 0 0 ∧ i = .int .i64 0 ∧ wr = w2) (fun _ i _ => 0)
    case atStart => exact ⟨rfl, rfl, rfl⟩
    case round =>
      obtain ⟨rfl, rfl, rfl⟩ := hrel
      go_wp2_with fail
      rw [← HPO.out]
      exact ⟨_, rfl, ⟨rfl, .inl ⟨rfl, rfl⟩⟩, HM2.out.below⟩

set_option maxHeartbeats 2000000 in
set_option maxRecDepth 20000 in
theorem rwords15_any {w : World} {v : Value} {S : Dev} {m : Nat} (hm : S.dirty.length = m) (h : RAt w v m S.ref) {N : Nat} (hf : S.fit N) (a : Int) :
    Calls Tryz.prog 158 #[v, .int .i64 a] w (RList 136 (if (headN S a).code = 0 then objSize (headN S a).p (headN S a).d else 0) ((wordsAt S.cache a (if (headN S a).code = 0 then objSize (headN S a).p (headN S a).d else 0)).map vu64) w) := by
  subst hm
  obtain ⟨an, cn, al, cl, aw, cw, ad, cd, ap, cp, m, sv, fz, dd, rfl, ho, hdl, hm8, hsv, hfz⟩ := ropen h hf
  have HRA := Lib.hid h
  have HF := Lib.hid hf
  have HSm := Lib.hid (head_small hf.wf.small (a := a))
  rw [hdl] at HRA
  have HK1 := Lib.hid ho.k1
  have HCL := Lib.hid ho.cl
  obtain ⟨n, hn⟩ : ∃ n, n = if (headN S a).code = 0 then objSize (headN S a).p (headN S a).d else 0 := ⟨_, rfl⟩
  rw [← hn]
  generalize hpo : RList 136 n ((wordsAt S.cache a n).map vu64) w = Post
  have HDL := Lib.hid hdl
  have HN := Lib.hid hn
  have HPO := Lib.hid hpo
  clear hdl hn hpo
  clear h hf ho
  have HM := Lib.hid (Mem.one w #[.slice an m cn, .slice al m cl, .slice aw m cw, .slice ad m cd, .slice ap m cp, .int .i64 sv, .int .i64 fz, .bool dd] 34)
  go_enter Tryz.func158, Tryz.ntmps158
  go_upto_region 1 with fail
  generalize w.alloc _ = w0 at *
  go_wp2_with (refine wpList_load_mem aggRd HM.out 0 rfl rfl rfl rfl rfl ?_)
  refine (rhead15_any HDL.out (HRA.out.below HM.out.below (Nat.le_refl _)) HF.out a).mono ?_
  rintro e w1 ⟨rfl, hb1⟩
  generalize headN S a = x at *
  obtain ⟨p, d, c⟩ := x
  unfold headV
  dsimp only at HSm HN ⊢
  have HM2 := Lib.hid ((HM.out.later hb1).alloc #[.int .i64 p, .int .i64 d] 55)
  clear hb1 HM
  by_cases hc : c = 0
  · subst hc
    obtain ⟨ha, hp, hd⟩ := HSm.out rfl
    have hnp : objSize p d = n := by have := HN.out; rw [if_pos rfl] at this; exact this.symm
    have hszl := objSize_le p d
    rw [hnp] at hszl
    have HNP := Lib.hid hnp
    clear hnp
    rw [decide_eq_true (show (0 : Int) = 0 from rfl)]
    go_upto_region 2 with fail
    generalize w1.alloc _ = w2 at *
    generalize w1.heap.size = g at *
    go_wp2_with fail
    go_loopw [7, 8] (fun v i wr => ∃ k : Nat, k ≤ n ∧ i = .int .i64 k ∧ wr.ownsRow w2.heap.size 136 1 v k ((wordsAt S.cache a k).map vu64) ∧ Below w2.heap.size w2 wr) (fun _ i _ => n - (intOf i).toNat)
    case atStart => exact ⟨0, Nat.zero_le _, rfl, ⟨rfl, .inl ⟨rfl, rfl⟩⟩, Below.refl _ _⟩
    case round =>
      obtain ⟨k, hk, rfl, ho, hb⟩ := hrel
      obtain ⟨a1, c1, rfl, hc1, hm1⟩ := owned_form ho
      have c0 := (HM2.out.later hb).cell 0 0 rfl rfl
      have o0 := (HM2.out.later hb).cell 1 0 rfl rfl
      have o1 := (HM2.out.later hb).cell 1 1 rfl rfl
      have HO := Lib.hid ho
      have HB := Lib.hid hb
      clear ho hb
      by_cases hlt : k < n
      · have hlt' : (k : Int) < (n : Int) := by omega
        have HS := Lib.hid (wordsAt_succ S.cache a k)
        go_wp2_with fail
        refine (rsize8_any p d _).mono ?_
        rintro e w3 ⟨rfl, hb3⟩
        rw [HNP.out]
        have HO3 := Lib.hid (owned_below HO.out hb3 (Nat.le_refl _))
        have HB3 := Lib.hid (HB.out.trans (hb3.mono HB.out.size))
        have c0 := (HM2.out.later HB3.out).cell 0 0 rfl rfl
        clear hb3 HO HB
        go_wp2_with fail
        refine (rget_any an m cn S.cache _ (HK1.out.below (HM2.out.later HB3.out).below (Nat.le_refl _)) HCL.out (by omega) _).mono ?_
        rintro e w4 ⟨rfl, rfl⟩
        generalize peek S.cache (a + (k : Int)) = y at *
        have hone : Hid (∀ u ∈ (#[vu64 y] : Array Value).toList, u.oneCell' = true) := Lib.hid (by intro u hu; simp at hu; subst hu; rfl)
        have hbase : Hid (w2.heap.size ≤ w3.heap.size) := Lib.hid HB3.out.size
        have hk9 : k < 1000000000000 := by omega
        go_wp2_with (at_builtin; refine wpList_append_new (us := #[vu64 y]) el64 HO3.out rfl hone.out hk9 (by decide) hbase.out rfl rfl rfl (by simp [Act.eval]) ?_; intro g6 c6 w6 ho6 hg6 hc6 hm6 hb6 hl6; have HO6 := Lib.hid ho6; have HG6 := Lib.hid hg6; clear ho6 hg6)
        refine ⟨⟨k + 1, by omega, vint (by omega), ?_, below_grownBy HB3.out HO3.out HG6.out (Nat.le_refl _) (Nat.le_refl _)⟩, by simp [intOf]; omega⟩
        rw [HS.out]
        simpa using HO6.out
      · obtain rfl : k = n := by omega
        have hlt' : decide ((k : Int) < (k : Int)) = false := by simp
        go_wp2_with fail
        refine (rsize8_any p d _).mono ?_
        rintro e w3 ⟨rfl, hb3⟩
        rw [HNP.out]
        have HO3 := Lib.hid (owned_below HO.out hb3 (Nat.le_refl _))
        have HB3 := Lib.hid (HB.out.trans (hb3.mono HB.out.size))
        clear hb3
        go_wp2_with fail
        rw [← HPO.out]
        exact ⟨_, rfl, owned_base HO3.out HM2.out.below.size, (HM2.out.later HB3.out).below⟩
  · have hn0 : n = 0 := by rw [HN.out, if_neg hc]
    subst hn0
    rw [decide_eq_false hc]
    clear hc
    go_upto_region 2 with fail
    generalize w1.alloc _ = w2 at *
    generalize w1.heap.size = g at *
    go_wp2_with fail
    go_loopw [7, 8] (fun v i wr => v = .slice none 0 0 ∧ i = .int .i64 0 ∧ wr = w2) (fun _ i _ => 0)
    case atStart => exact ⟨rfl, rfl, rfl⟩
    case round =>
      obtain ⟨rfl, rfl, rfl⟩ := hrel
      go_wp2_with fail
      rw [← HPO.out]
      exact ⟨_, rfl, ⟨rfl, .inl ⟨rfl, rfl⟩⟩, HM2.out.below⟩

end Go.Proofs.YtfedgcdkagngnaaGreat

/- law20: Now: the device as the document's. -/
namespace Go.Proofs.YtfedgcdkagngnaaGreat
open Go.RowKit
set_option linter.unusedVariables false

/-- The device that the words as they are make. -/
def nowD (S : Dev) : Dev := freshDev S.cache S.dirty.length
theorem nowD_fit {S : Dev} (h : S.wf) (N : Nat) : (nowD S).fit N :=
  ⟨⟨rfl, by simp [nowD, freshDev], by simp [nowD, freshDev], by simp [nowD, freshDev, h.lenD], h.small, h.u64C, h.u64C, fun z hz => by simp [nowD, freshDev] at hz; omega⟩, fresh_ok _ _ _, fun h => by cases h⟩
theorem nowD_ref {S : Dev} (h : S.wf) : freshR S.cache S.dirty.length = (nowD S).ref := by
  unfold freshR Dev.ref nowD freshDev
  rw [h.lenD]; rfl

/-- What Now tells. -/
def NowPost (S : Dev) (w : World) : Ending → World → Prop := fun e w' => ∃ v, e = .returned v ∧ RAt w' v S.dirty.length (nowD S).ref ∧ (∀ b, RIn v b → w.heap.size ≤ b) ∧ Below w.heap.size w w'

set_option maxHeartbeats 4000000 in
set_option maxRecDepth 20000 in
theorem wnow_any {w : World} {F : Foot} {S : Dev} (h : DevAt w F S) (x v : Value) (hL : S.cache.length ≤ 8192) :
    Calls Tryz.prog 16 #[.agg #[x, vdev F, v]] w (NowPost S w) := by
  have HMem := Lib.hid (Mem.two w #[x, vdev F, v] 28 zeroD 34)
  have HD0 := Lib.hid (h.below HMem.out.below)
  have HWf := Lib.hid h.wf
  have HP : Hid (∀ v w', RAt w' v S.dirty.length (nowD S).ref → (∀ b, RIn v b → w.heap.size ≤ b) → Below w.heap.size w w' → NowPost S w (.returned v) w') := Lib.hid (fun v w' h1 h2 h3 => ⟨v, rfl, h1, h2, h3⟩)
  generalize NowPost S w = Post at *
  obtain ⟨l, hl⟩ : ∃ l, l = S.cache.length := ⟨_, rfl⟩
  rw [← hl] at hL
  have HL := Lib.hid hl
  clear h hl
  go_enter Tryz.func16, Tryz.ntmps16
  go_upto_region 1 with fail
  rw [show (#[.slice none 0 0, .slice none 0 0, .slice none 0 0, .slice none 0 0, .slice none 0 0, .int .i64 0, .int .i64 0, .bool false] : Array Value) = zeroD from rfl]
  obtain ⟨q, hq⟩ : ∃ q, q = w.heap.size := ⟨_, rfl⟩
  rw [← hq] at HMem ⊢
  have HQ := Lib.hid hq
  generalize (w.alloc _).alloc _ = w0 at *
  clear hq
  go_wp2_with fail
  go_loopw [3, 4] (fun v i wr => ∃ k : Nat, k ≤ l ∧ i = .int .i64 (k : Int) ∧ Hid (wr.ownsRow w0.heap.size 136 1 v k ((S.cache.take k).map vu64)) ∧ Hid (Below w0.heap.size w0 wr)) (fun _ i _ => l - (intOf i).toNat)
  case atStart => exact ⟨0, Nat.zero_le _, rfl, Lib.hid ⟨rfl, .inl ⟨rfl, rfl⟩⟩, Lib.hid (Below.refl _ _)⟩
  case round =>
    obtain ⟨k, hk, rfl, HO, HB⟩ := hrel
    obtain ⟨a1, c1, rfl, hc1, hm1⟩ := owned_form HO.out
    have HM1 := Lib.hid (HMem.out.later HB.out)
    have HD1 := Lib.hid (HD0.out.below HB.out)
    have e1 := HM1.out.cell 0 1 rfl rfl
    by_cases hlt : k < l
    · have hlt' : (k : Int) < (l : Int) := by omega
      have hlt2 : (k : Int) < 8192 := by omega
      have HLn := Lib.hid (dlen_any HD1.out)
      rw [← HL.out] at HLn
      have HGet := Lib.hid (dget_any HD1.out (k : Int))
      rw [peek_in] at HGet
      have HS : Hid ((S.cache.take (k + 1)).map vu64 = (S.cache.take k).map vu64 ++ [vu64 (S.cache.getD k 0)]) := Lib.hid (by
        have : k < S.cache.length := by rw [← HL.out]; exact hlt
        rw [List.take_succ_eq_append_getElem this, List.map_append, List.getD_eq_getElem?_getD, List.getElem?_eq_getElem this]; rfl)
      generalize S.cache.getD k 0 = y at *
      have hone : Hid (∀ u ∈ (#[vu64 y] : Array Value).toList, u.oneCell' = true) := Lib.hid (by intro u hu; simp at hu; subst hu; rfl)
      have hbase : Hid (w0.heap.size ≤ wr.heap.size) := Lib.hid HB.out.size
      have hk9 : k < 1000000000000 := by omega
      go_wp2_with fail
      refine HLn.out.mono ?_
      rintro e w3 ⟨rfl, rfl⟩
      go_wp2_with fail
      refine HGet.out.mono ?_
      rintro e w4 ⟨rfl, rfl⟩
      go_wp2_with (at_builtin; refine wpList_append_new (us := #[vu64 y]) el64 HO.out rfl hone.out hk9 (by decide) hbase.out rfl rfl rfl (by simp [Act.eval]) ?_; intro g6 c6 w6 ho6 hg6 hc6 hm6 hb6 hl6; have HO6 := Lib.hid ho6; have HG6 := Lib.hid hg6; clear ho6 hg6)
      go_roundw
      case rel =>
        refine ⟨k + 1, by omega, vint (by omega), Lib.hid ?_, Lib.hid (below_grownBy HB.out HO.out HG6.out (Nat.le_refl _) (Nat.le_refl _))⟩
        rw [HS.out]
        simpa using HO6.out
      case measure => simp [intOf]; omega
    · obtain rfl : k = l := by omega
      have hlt' : ¬ (k : Int) < (k : Int) := by omega
      have HLn := Lib.hid (dlen_any HD1.out)
      rw [← HL.out] at HLn
      go_wp2_with fail
      refine HLn.out.mono ?_
      rintro e w3 ⟨rfl, rfl⟩
      have HC := Lib.hid (Cells.owned HO.out)
      have hll : S.cache.take k = S.cache := by rw [HL.out, List.take_length]
      rw [hll] at HC
      go_wp2_with fail
      refine (rload_at a1 k c1 S.cache HL.out.symm wr HC.out (by omega) HWf.out.u64C).mono ?_
      rintro e w6 ⟨v6, rfl, hra6, hloc6, hb6⟩
      have h8 := HWf.out.lenD
      have hlo := HL.out
      rw [show (k + 7) / 8 = S.dirty.length by omega, show padTo S.cache (8 * S.dirty.length) = S.cache by unfold padTo; rw [show 8 * S.dirty.length - S.cache.length = 0 by omega]; simp, nowD_ref HWf.out] at hra6
      obtain ⟨an, cn, al, cl, aw, cw, ad, cd, ap, cp, rfl, hex⟩ := hra6.ex
      have HRA := Lib.hid hra6
      have HM6 := Lib.hid (HM1.out.later hb6)
      have HLoc : Hid (∀ b, RIn (.agg #[.slice an S.dirty.length cn, .slice al S.dirty.length cl, .slice aw S.dirty.length cw, .slice ad S.dirty.length cd, .slice ap S.dirty.length cp, .int .i64 (nowD S).ref.steps, .int .i64 (nowD S).ref.fuse, .bool (nowD S).ref.dead]) b → wr.heap.size ≤ b) := Lib.hid (by
        rintro b ⟨cs, hcs, i, x, n, c, hi, rfl⟩
        exact hloc6 cs hcs i x n c hi)
      have HWr := Lib.hid (show q + 2 ≤ wr.heap.size by have := HM1.out.glt 0 rfl; have := HM1.out.glt 1 rfl; omega)
      clear hra6 hloc6 hb6 hex hll h8 hlo
      generalize (nowD S).ref.steps = st at *
      generalize (nowD S).ref.fuse = fz at *
      generalize (nowD S).ref.dead = dd at *
      go_wp2_with (refine wpList_store_mem aggRd HM6.out 1 rfl rfl rfl rfl rfl rfl rfl rfl ?_; intro w8 h8 ht8; have H8 := Lib.hid h8; have HT8 := Lib.hid ht8; clear h8 ht8)
      refine bodyPost_ret (results_cell_row rfl _ _ _ _ _ _ _ rfl (H8.out.exact 1 rfl) Tryz.underlying34 rfl (by kernel_rfl)) rfl ?_
      refine HP.out _ _ (HRA.out.touch HT8.out (.inr (fun b hb hm => ?_))) (fun b hb => ?_) H8.out.below
      · have := HLoc.out b hb
        have := HWr.out
        simp at hm; omega
      · have := HLoc.out b hb
        have := HWr.out
        have := HQ.out
        omega

end Go.Proofs.YtfedgcdkagngnaaGreat

/- Plain: marking in three colours; what one comes to. -/
namespace Go.Proofs.YtfedgcdkagngnaaGreat
set_option linter.unusedVariables false

section
variable {ok : Nat → Prop} {P : Nat → List Nat} {f seen rest : List Nat}
end

/-- A marker. The stack: its last one first. -/
structure Mk where
  ms : List Bool
  sc : List Bool
  st : List Nat
  most : Nat
  miss : Nat
  again : Bool
  cur : Nat
theorem getD_true_lt {l : List Bool} {a : Nat} (h : l.getD a false = true) : a < l.length := by
  apply Classical.byContradiction
  intro c
  rw [List.getD_eq_getElem?_getD, List.getElem?_eq_none (by omega)] at h
  cases h
section
variable {U : List Bool} {P : Nat → List Nat} {M : Mk}
end

end Go.Proofs.YtfedgcdkagngnaaGreat

/- law20: a heap of objects that calls leave: plain; in memory. -/
namespace Go.Proofs.YtfedgcdkagngnaaGreat
open Go.RowKit
set_option linter.unusedVariables false

/-- Objects that were made are in use, each once. -/
structure WOk (B : Nat) (m : Al) (xs : List Nat) : Prop where
  ok : AlOk B m
  us : ∀ x ∈ xs, m.used.getD x false = true
  nd : xs.Nodup
section
variable {B : Nat} {m m' : Al} {xs : List Nat}
theorem WOk.begun (hB2 : 2 ≤ B) (hB : B ≤ 100) : WOk B (al0 B) [] := ⟨al0_ok hB2 hB, by simp, List.nodup_nil⟩
theorem WOk.lt (h : WOk B m xs) {x : Nat} (hx : x ∈ xs) : 512 ≤ x ∧ x < 512 * B := by
  have h1 := h.us x hx
  have h2 := getD_true_lt h1
  rw [h.ok.lenU] at h2
  exact ⟨(h.ok.used_kind h1).1, h2⟩
theorem nodup_count {l : List Nat} (h : l.Nodup) (a : Nat) : l.count a ≤ 1 := List.nodup_iff_count.1 h a
theorem WOk.len (h : WOk B m xs) : xs.length ≤ 512 * B := nodup_len _ _ (fun x hx => (h.lt hx).2) (nodup_count h.nd)
theorem WOk.made (h : WOk B m xs) {a : Nat} {p d : Int} (hm : Made B m m' a p d) : WOk B m' (xs ++ [a]) := by
  have ha : m'.used.getD a false = true := by
    have h1 := placed_room hm.placed
    have h2 := h1.pos.2.2
    have h3 := h1.pos.1
    rw [hm.ok.bm.lenL] at h2
    rw [hm.used, getD_set_bool _ _ _ _ (by rw [h.ok.lenU]; omega), if_pos rfl]
  refine ⟨hm.ok, fun x hx => ?_, ?_⟩
  · rcases List.mem_append.1 hx with hx | hx
    · exact (hm.others h.ok (h.us x hx)).1
    · simp at hx; subst hx; exact ha
  · rw [List.nodup_append]
    refine ⟨h.nd, by simp, fun x hx y hy => ?_⟩
    simp at hy; subst hy
    intro e; subst e
    have := h.us x hx
    rw [hm.new] at this; cases this
theorem WOk.more (h : WOk B m xs) {a : Nat} {p d : Int} (hm : Made B m m' a p d) : WOk B m' xs := by
  have := h.made hm
  exact ⟨this.ok, fun x hx => this.us x (List.mem_append_left _ hx), h.nd⟩

theorem setPtr_okN {S : Dev} {N : Nat} (h : S.ok N) (a i x : Int) : (S.setPtr a i x).dev.ok (N + 1) := by
  unfold Dev.setPtr
  split
  · exact h.mono (by omega)
  · split
    · exact h.mono (by omega)
    · exact Dev.store_okN h _ _
theorem lead_okN {N : Nat} (h : m.bm.dev.ok N) (i p t : Int) : (m.lead xs i p t).bm.dev.ok (N + 1) := by
  unfold Al.lead
  split
  · exact h.mono (by omega)
  · exact setPtr_okN h _ _ _

/-- What a pointer's change does. -/
theorem lead_is (h : WOk B m xs) (hB : B ≤ 200) (i p t : Int) : m.lead xs i p t = m ∨
    ∃ (x : Nat) (o : Odec) (k : Nat), x = pickN xs i ∧ x ≠ 0 ∧ placedN m.bm.dev m.bm.list (x : Int) = some o ∧ p = (k : Int) ∧ p < o.p ∧ m.lead xs i p t = ⟨⟨m.bm.dev.store ((x + 1 + k : Nat) : Int) (pickN xs t), m.bm.list, m.bm.free⟩, m.used, m.fl⟩ := by
  by_cases c : pickN xs i = 0
  · left; unfold Al.lead; rw [if_pos c]
  · have hu := h.us _ (pickN_mem c)
    obtain ⟨o, ho⟩ := Option.isSome_iff_exists.1 (h.ok.placed _ hu)
    obtain ⟨h1, h2, _⟩ := placed_head ho
    have hc : (headN m.bm.dev ((pickN xs i : Nat) : Int)).code = 0 := by rw [h1]; exact h2
    have hpl : placeN m.bm.dev ((pickN xs i : Nat) : Int) p false = if 0 ≤ p ∧ p < o.p then ⟨((pickN xs i : Nat) : Int) + (1 + p), 0⟩ else ⟨0, 7⟩ := by
      unfold placeN
      rw [if_neg (show ¬ (headN m.bm.dev ((pickN xs i : Nat) : Int)).code ≠ 0 by omega), h1]; rfl
    unfold Al.lead
    rw [if_neg c]
    by_cases hp : 0 ≤ p ∧ p < o.p
    · right
      obtain ⟨k, rfl⟩ := Int.eq_ofNat_of_zero_le hp.1
      refine ⟨_, o, k, rfl, c, ho, rfl, hp.2, ?_⟩
      have e1 : m.bm.dev.setPtr ((pickN xs i : Nat) : Int) (k : Int) ((pickN xs t : Nat) : Int) = ⟨m.bm.dev.store (((pickN xs i : Nat) : Int) + (1 + (k : Int))) ((pickN xs t : Nat) : Int).toNat, m.bm.dev.storeE (((pickN xs i : Nat) : Int) + (1 + (k : Int)))⟩ := by
        unfold Dev.setPtr
        rw [hpl, if_pos hp]
        exact (if_neg (fun h => h rfl)).trans (if_neg (by omega))
      rw [e1]
      dsimp only
      rw [show ((pickN xs i : Nat) : Int) + (1 + (k : Int)) = ((pickN xs i + 1 + k : Nat) : Int) by push_cast; omega, Int.toNat_natCast]
    · left
      have e1 : m.bm.dev.setPtr ((pickN xs i : Nat) : Int) p ((pickN xs t : Nat) : Int) = ⟨m.bm.dev, 7⟩ := by
        unfold Dev.setPtr
        rw [hpl, if_neg hp]
        exact if_pos (fun h => by cases h)
      rw [e1]
theorem placed_size {S : Dev} {L : List Hd} {a : Int} {o : Odec} (h : placedN S L a = some o) : objSize o.p o.d ≠ 0 ∧ 0 ≤ o.p ∧ o.p < 64 ∧ 0 ≤ o.d ∧ o.d ≤ 16384 := by
  obtain ⟨h1, h2, _⟩ := placed_head h
  have := headN_code S a
  rw [h1] at this
  rcases this with this | this
  · have h3 := obj_small this.2.2.2.1
    exact ⟨this.2.2.2.1, h3.1.1, h3.1.2, h3.2⟩
  · rw [this] at h2; cases h2
theorem objSize_is {p d : Int} (h : objSize p d ≠ 0) : (objSize p d : Int) = 1 + p + d := by
  unfold objSize at h ⊢
  split
  · next c => rw [if_pos c] at h; exact absurd rfl h
  · omega
theorem WOk.lead (h : WOk B m xs) (hB : B ≤ 200) (i p t : Int) : WOk B (m.lead xs i p t) xs := by
  rcases lead_is h hB i p t with e | ⟨x, o, k, hx, x0, ho, rfl, hk, e⟩
  · rw [e]; exact h
  · have hu := h.us _ (hx ▸ pickN_mem (by rw [← hx]; exact x0))
    obtain ⟨s1, s2, s3, s4, s5⟩ := placed_size ho
    have hs := objSize_is s1
    have hv : pickN xs t < 18446744073709551616 := by
      by_cases c : pickN xs t = 0
      · omega
      · have := (h.lt (pickN_mem c)).2; omega
    obtain ⟨_, a2, _, _⟩ := h.ok.store hB hu ho (j := x + 1 + k) (v := pickN xs t) (by omega) (by omega) hv
    rw [e]
    exact ⟨a2, h.us, h.nd⟩
end

/-- Blocks that a call leaves as they are. -/
def Off (Q : List Nat) (w w' : World) : Prop := ∃ L, Touch L w w' ∧ ∀ k ∈ Q, k ∉ L
theorem MemR.off {B : Nat} {W W' : World} {L : List Ent} {Q : List Nat} (h : MemR B W L) (ho : Off Q W W') (hQ : ∀ x ∈ L.map Ent.g, x ∈ Q) : MemR B W' L := by
  obtain ⟨X, h1, h2⟩ := ho
  exact h.apart h1 (fun x hx => h2 _ (hQ _ (List.mem_map_of_mem hx)))

/-- A heap of law20 that a call has made, in memory; Q: other blocks of the call's own. -/
structure Hp (w wr : World) (Q : List Nat) (A : AF) (n B N : Nat) (m : Al) (v : Value) (xs : List Nat) : Prop where
  at_ : WAt wr A n B m v xs
  ok : WOk B m xs
  steps : m.bm.dev.ok N
  new : ∀ k ∈ A.list, w.heap.size ≤ k ∧ k ∉ Q
  newv : ∀ b, rowOf v = some b → w.heap.size ≤ b ∧ b ∉ Q
  qlt : ∀ k ∈ Q, k < wr.heap.size
  below : Below w.heap.size w wr
section
variable {w wr w' : World} {Q : List Nat} {A : AF} {n n' B N N' : Nat} {m m' : Al} {v v' : Value} {xs xs' : List Nat}
theorem Hp.later (h : Hp w wr Q A n B N m v xs) (hb : Below wr.heap.size wr w') : Hp w w' Q A n B N m v xs :=
  ⟨h.at_.below hb, h.ok, h.steps, h.new, h.newv, fun k hk => Nat.lt_of_lt_of_le (h.qlt k hk) hb.size, h.below.trans (hb.mono h.below.size)⟩
theorem Hp.mono (h : Hp w wr Q A n B N m v xs) (hn : n ≤ n') (hN : N ≤ N') : Hp w wr Q A n' B N' m v xs :=
  ⟨h.at_.mono hn, h.ok, h.steps.mono hN, h.new, h.newv, h.qlt, h.below⟩
/-- Steps in the caller's own blocks. -/
theorem Hp.own (h : Hp w wr Q A n B N m v xs) (ht : Touch Q wr w') (hQ : ∀ k ∈ Q, w.heap.size ≤ k) : Hp w w' Q A n B N m v xs :=
  ⟨⟨h.at_.al.keep (fun k hk => ht.block k (h.at_.al.mem k hk) (h.new k hk).2), h.at_.own.keep (fun b hb => ht.block b (h.at_.own.lt b hb) (h.newv b hb).2), h.at_.apart⟩,
    h.ok, h.steps, h.new, h.newv, fun k hk => Nat.lt_of_lt_of_le (h.qlt k hk) ht.size, below_touched h.below ht hQ (Nat.le_refl _)⟩
theorem Hp.go (h : Hp w wr Q A n B N m v xs) (hg : WGo wr w' A n' B m' v' xs') (hok : WOk B m' xs') (hs : m'.bm.dev.ok N') (hv : ∀ b, rowOf v' = some b → rowOf v = some b ∨ wr.heap.size ≤ b) :
    ∃ R, Hp w w' Q (A.re R) n' B N' m' v' xs' ∧ Off Q wr w' := by
  obtain ⟨R, h1, h2, h3⟩ := hg
  have hlt := h.below.size
  refine ⟨R, ⟨h1, hok, hs, fun k hk => ?_, fun b hb => ?_, fun k hk => Nat.lt_of_lt_of_le (h.qlt k hk) h2.size, below_touched h.below h2 (fun k hk => (h.new k (AF.hot_list hk)).1) (Nat.le_refl _)⟩, ⟨A.hot, h2, fun k hk hm => (h.new k (AF.hot_list hm)).2 hk⟩⟩
  · rcases AF.re_list hk with c | c
    · exact h.new k c
    · rcases h3 k c with c | c
      · exact h.new k (by simp [AF.list, c])
      · exact ⟨Nat.le_trans hlt c, fun hq => by have := h.qlt k hq; omega⟩
  · rcases hv b hb with c | c
    · exact h.newv b c
    · exact ⟨Nat.le_trans hlt c, fun hq => by have := h.qlt b hq; omega⟩
theorem Hp.more (h : Hp w wr Q A n B N m v xs) {Q' : List Nat} (hQ : ∀ k ∈ Q', k ∈ Q ∨ (wr.heap.size ≤ k ∧ k < w'.heap.size)) (hb : Below wr.heap.size wr w') : Hp w w' Q' A n B N m v xs := by
  have h' := h.later hb
  refine { h' with new := fun k hk => ⟨(h.new k hk).1, fun hq => ?_⟩, newv := fun b hb' => ⟨(h.newv b hb').1, fun hq => ?_⟩, qlt := fun k hk => ?_ }
  · rcases hQ k hq with c | c
    · exact (h.new k hk).2 c
    · have := h.at_.al.mem k hk; omega
  · rcases hQ b hq with c | c
    · exact (h.newv b hb').2 c
    · have := h.at_.own.lt b hb'; omega
  · rcases hQ k hk with c | c
    · exact h'.qlt k c
    · exact c.2
theorem Hp.less (h : Hp w wr Q A n B N m v xs) {Q' : List Nat} (hQ : ∀ k ∈ Q', k ∈ Q) : Hp w wr Q' A n B N m v xs :=
  { h with new := fun k hk => ⟨(h.new k hk).1, fun hq => (h.new k hk).2 (hQ k hq)⟩, newv := fun b hb => ⟨(h.newv b hb).1, fun hq => (h.newv b hb).2 (hQ b hq)⟩, qlt := fun k hk => h.qlt k (hQ k hk) }
/-- Make, Lead, of such a heap. -/
def HpMade (w wr : World) (Q : List Nat) (A : AF) (n B N : Nat) (m : Al) (v : Value) (xs : List Nat) (p d : Int) : Ending → World → Prop := fun e w' => ∃ (m' : Al) (v' : Value) (xs' R : List Nat),
  e = .returned (.tuple #[vworld A v', .bool true]) ∧ Hp w w' Q (A.re R) (n + 6) B (N + 600000) m' v' xs' ∧ Off Q wr w' ∧ ((∃ a, Made B m m' a p d ∧ xs' = xs ++ [a]) ∨ (m' = m ∧ xs' = xs ∧ v' = v))
theorem Hp.make (h : Hp w wr Q A n B N m v xs) (hB2 : 2 ≤ B) (hB : B ≤ 200) (hn : n < 900000000000) (hN : N ≤ 900000000) (p d : Int) :
    Calls Tryz.prog 76 #[vworld A v, .int .i64 p, .int .i64 d] wr (HpMade w wr Q A n B N m v xs (clampI p 8) (clampI d 12)) := by
  have hl := h.ok.len
  refine (wmake_any h.at_ h.ok.ok hB2 hB hn hN h.steps (by omega) p d).mono ?_
  rintro e w' ⟨m', v', xs', rfl, hg, hm, hv, ha⟩
  have hs : m'.bm.dev.ok (N + 600000) := by rw [ha]; exact alloc_okN h.ok.ok.bm.clean.inv h.steps (by rw [h.ok.ok.bm.lenL]; omega) _ _ _
  have hok : WOk B m' xs' := by
    rcases hm with ⟨a, hm, rfl⟩ | ⟨rfl, rfl, _⟩
    · exact h.ok.made hm
    · exact h.ok
  obtain ⟨R, h1, h2⟩ := h.go hg hok hs hv
  exact ⟨m', v', xs', R, rfl, h1, h2, hm⟩
/-- Alloc, whatever comes of it. -/
def HpAll (w wr : World) (Q : List Nat) (A : AF) (n B N : Nat) (m : Al) (v : Value) (xs : List Nat) (p d : Int) : Ending → World → Prop := fun e w' => ∃ (m' : Al) (R : List Nat) (a er : Int),
  e = .returned (.tuple #[.int .i64 a, .int .i64 er]) ∧ Hp w w' Q (A.re R) (n + 6) B (N + 600000) m' v xs ∧ Off Q wr w' ∧ ((∃ a : Nat, Made B m m' a p d) ∨ m' = m)
theorem Hp.alloc (h : Hp w wr Q A n B N m v xs) (hB2 : 2 ≤ B) (hB : B ≤ 200) (hn : n < 900000000000) (hN : N ≤ 900000000) (p d : Int) (hs : objSize p d ≠ 0) (hm : (objSize p d : Int) ≤ 512 * ((B : Int) - 1)) :
    Calls Tryz.prog 77 #[valloc A, .int .i64 0, .int .i64 p, .int .i64 d] wr (HpAll w wr Q A n B N m v xs p d) := by
  refine (aalloc_any h.at_.al h.ok.ok (by omega) hB hn hN h.steps 0 p d).mono ?_
  rintro e w' ⟨rfl, hg⟩
  have hs' := alloc_okN h.ok.ok.bm.clean.inv h.steps (by rw [h.ok.ok.bm.lenL]; omega) 0 p d
  rcases alloc_done h.ok.ok hB (Int.le_refl 0) (by decide) hs hm with ⟨m', a, e, hm'⟩ | ⟨e, _⟩
  · rw [e] at hg hs' ⊢
    obtain ⟨R, h1, h2⟩ := h.go (h.at_.al' hg) (h.ok.more hm') hs' (fun b hb => .inl hb)
    exact ⟨m', R, _, _, rfl, h1, h2, .inl ⟨a, hm'⟩⟩
  · rw [e] at hg hs' ⊢
    obtain ⟨R, h1, h2⟩ := h.go (h.at_.al' hg) h.ok hs' (fun b hb => .inl hb)
    exact ⟨m, R, _, _, rfl, h1, h2, .inr rfl⟩
def HpLed (w wr : World) (Q : List Nat) (A : AF) (n B N : Nat) (m : Al) (v : Value) (xs : List Nat) : Ending → World → Prop := fun e w' => ∃ R : List Nat, e = .returned (.tuple #[]) ∧ Hp w w' Q (A.re R) n B (N + 1) m v xs ∧ Off Q wr w'
theorem Hp.lead (h : Hp w wr Q A n B N m v xs) (hB : B ≤ 200) (hN : N ≤ 900000000) (i p t : Int) :
    Calls Tryz.prog 59 #[vworld A v, .int .i64 i, .int .i64 p, .int .i64 t] wr (HpLed w wr Q A n B N (m.lead xs i p t) v xs) := by
  have hl := h.ok.len
  refine (wlead_any h.at_ hN h.steps (by omega) (fun x hx => by have := (h.ok.lt hx).2; omega) i p t).mono ?_
  rintro e w' ⟨rfl, hg⟩
  obtain ⟨R, h1, h2⟩ := h.go hg (h.ok.lead hB i p t) (lead_okN h.steps i p t) (fun b hb => .inl hb)
  exact ⟨R, rfl, h1, h2⟩
end

end Go.Proofs.YtfedgcdkagngnaaGreat

/- bitmap: All, List: a range over a function. -/
namespace Go.Proofs.YtfedgcdkagngnaaGreat
open Go.RowKit Go.Shelf
set_option linter.unusedVariables false

attribute [local go_sem] Oper.semAt_some

end Go.Proofs.YtfedgcdkagngnaaGreat

/- alloc: Used, Objects, Device. -/
namespace Go.Proofs.YtfedgcdkagngnaaGreat
open Go.RowKit
set_option linter.unusedVariables false

set_option maxHeartbeats 400000 in
theorem adev_any {w : World} {A : AF} {n B : Nat} {m : Al} (h : AlAt w A n B m) :
    Calls Tryz.prog 83 #[valloc A] w fun e w' => e = .returned (vdev A.X.F) ∧ w = w' := by
  have c1 := h.c1
  clear h
  go_enter Tryz.func83, Tryz.ntmps83
  go_wp2_with fail
  go_ret
  exact ⟨rfl, rfl⟩
end Go.Proofs.YtfedgcdkagngnaaGreat

/- Plain: digits in a base. -/
namespace Go.Proofs.YtfedgcdkagngnaaGreat
open Go.Lib (decDigits itoa nDigits)
set_option linter.unusedVariables false

/-- A digit's sign. -/
def chrN (d : Nat) : UInt8 := UInt8.ofNat (if d ≤ 9 then 48 + d else 87 + d)
/-- So many digits of a number, the last ones. -/
def digW (b v : Nat) : Nat → List UInt8
  | 0 => []
  | k + 1 => digW b (v / b) k ++ [chrN (v % b)]
theorem digW_len (b v k : Nat) : (digW b v k).length = k := by
  induction k generalizing v with
  | zero => rfl
  | succ k ih => simp [digW, ih]
theorem digW_front (b v t : Nat) : digW b v (t + 1) = chrN (v / b ^ t % b) :: digW b v t := by
  induction t generalizing v with
  | zero => simp [digW]
  | succ t ih =>
    show digW b (v / b) (t + 1) ++ [chrN (v % b)] = chrN (v / b ^ (t + 1) % b) :: (digW b (v / b) t ++ [chrN (v % b)])
    rw [ih, Nat.div_div_eq_div_mul, Nat.pow_succ, Nat.mul_comm b]
    rfl

/-- So many digits are written of a number, at least so many. -/
structure Written (b v least T : Nat) : Prop where
  all : v / b ^ T = 0
  enough : least ≤ T
  last : T = least ∨ v / b ^ (T - 1) ≠ 0

theorem dec_digW : ∀ {T v : Nat}, Written 10 v 1 T → digW 10 v T = decDigits v
  | 0, v, h => by have := h.enough; omega
  | 1, v, h => by
    have h1 := h.all
    have h2 : v < 10 := by simp at h1; omega
    rw [dec_small h2]
    show digW 10 (v / 10) 0 ++ [chrN (v % 10)] = _
    rw [show v % 10 = v by omega]
    unfold chrN
    rw [if_pos (by omega)]; rfl
  | T + 2, v, h => by
    have h1 := h.all
    have h3 : v / 10 ^ (T + 1) ≠ 0 := by
      rcases h.last with h3 | h3
      · omega
      · simpa using h3
    have h2 : ¬ v < 10 := by
      intro c
      apply h3
      rw [Nat.pow_succ, Nat.mul_comm, ← Nat.div_div_eq_div_mul, show v / 10 = 0 by omega, Nat.zero_div]
    rw [dec_big h2]
    show digW 10 (v / 10) (T + 1) ++ [chrN (v % 10)] = _
    have e : ∀ k, v / 10 / 10 ^ k = v / 10 ^ (k + 1) := fun k => by rw [Nat.div_div_eq_div_mul, Nat.pow_succ, Nat.mul_comm]
    rw [dec_digW (T := T + 1) (v := v / 10) ⟨by rw [e]; exact h1, by omega, by
      by_cases c : T = 0
      · left; omega
      · right
        rw [show T + 1 - 1 = T from rfl, e]; exact h3⟩]
    unfold chrN
    rw [if_pos (by omega)]

/-- Sixteen digits. -/
theorem hex_digW {T v : Nat} (hv : v < 18446744073709551616) (h : Written 16 v 16 T) : T = 16 := by
  rcases h.last with h1 | h1
  · exact h1
  · apply Classical.byContradiction
    intro c
    have := h.enough
    apply h1
    apply Nat.div_eq_of_lt
    refine Nat.lt_of_lt_of_le hv ?_
    have : (16 : Nat) ^ 16 ≤ 16 ^ (T - 1) := Nat.pow_le_pow_right (by decide) (by omega)
    have e : (16 : Nat) ^ 16 = 18446744073709551616 := by decide
    omega

end Go.Proofs.YtfedgcdkagngnaaGreat

/- The document's Text of a number (ref31). -/
namespace Go.Proofs.YtfedgcdkagngnaaGreat
open Go.RowKit
set_option linter.unusedVariables false
open Go.Lib (decDigits itoa nDigits)

set_option maxHeartbeats 4000000 in
set_option maxRecDepth 100000 in
theorem rtext_any (n : Int) (hn : In64 n) (w : World) : Calls Tryz.prog 157 #[.int .i64 n] w (Gives (strV (itoa n)) w) := by
  obtain ⟨h1, h2⟩ := hn
  have HP : Hid (∀ (l : List UInt8) (w' : World), itoa n = l → Below w.heap.size w w' → Gives (strV (itoa n)) w (.returned (strV l)) w') := Lib.hid (fun l w' h hb => by subst h; exact ⟨rfl, hb⟩)
  generalize Gives (strV (itoa n)) w = Post at *
  by_cases hz : n = 0
  · subst hz
    have HI : Hid (itoa 0 = [48]) := Lib.hid (by decide +kernel)
    go_enter Tryz.func157, Tryz.ntmps157
    go_wp2_with fail
    exact HP.out _ _ HI.out (Below.refl _ _)
  · have hz' : (n == 0) = false := by simpa using hz
    by_cases h0 : n < 0
    · obtain ⟨u, hu⟩ : ∃ u : Nat, n = -(u : Int) := ⟨n.natAbs, by omega⟩
      subst hu
      have hu1 : 1 ≤ u := by omega
      have HI : Hid (itoa (-(u : Int)) = 45 :: decDigits u) := Lib.hid (itoa_neg hu1)
      have HL := Lib.hid (dec_len20 (u := u) (by omega))
      go_enter Tryz.func157, Tryz.ntmps157
      go_wp2_with fail
      go_loopw [3, 4] (fun s k wr => ∃ (v : Nat) (tail : List UInt8), s = .string (bstr tail) ∧ k = .int .i64 (-(v : Int)) ∧ v ≤ 9223372036854775808 ∧ tail.length ≤ 20 ∧ partT u v tail ∧ Below w.heap.size w wr) (fun _ k _ => (-(RowKit.intOf k)).toNat)
      case atStart => exact ⟨u, [], rfl, rfl, by omega, by simp, .inr ⟨by omega, by simp⟩, Below.refl _ _⟩
      case round =>
        obtain ⟨v, tail, rfl, rfl, hv, htl, hp, hb⟩ := hrel
        have HPt := Lib.hid hp
        have HB := Lib.hid hb
        clear hp hb
        by_cases hv0 : v = 0
        · subst hv0
          have HD : Hid (decDigits u = tail) := Lib.hid (by rcases HPt.out with ⟨_, h⟩ | ⟨h, _⟩; exact h; omega)
          have hsz : (bstr tail).size ≤ 20 := by rw [bstr_size]; exact htl
          go_wp2_with fail
          show Post (.returned (.string (bstr [45] ++ bstr tail))) _
          rw [bstr_append]
          exact HP.out _ _ (by rw [HI.out, HD.out]; rfl) HB.out
        · have hne : ((-(v : Int)) != 0) = true := by simp; omega
          have hv0' : 0 < v := by omega
          have HPt1 := Lib.hid (partT_step HPt.out hv0')
          have htl1 : tail.length + 1 ≤ 20 := by
            have := HL.out
            rcases HPt.out with ⟨h, _⟩ | ⟨_, h⟩
            · omega
            · rw [h] at this
              have := dec_pos v
              simp at *; omega
          have HS : Hid (strOf [48 + v % 10] ++ bstr tail = bstr (UInt8.ofNat (48 + v % 10) :: tail)) := Lib.hid (by
            have := one_byte (UInt8.ofNat (48 + v % 10))
            rw [dig_toNat _ (by omega)] at this
            rw [this, bstr_append]; rfl)
          have hs1 : (strOf [48 + v % 10]).size = 1 := rfl
          have hs2 : (bstr tail).size ≤ 20 := by rw [bstr_size]; exact htl
          have HCb : Hid (Cells (wr.alloc (.cells #[.int .u8 (48 + (v : Int) % 10)] 5)) (some ⟨wr.heap.size, 0, none⟩) ([48 + v % 10].map vu8)) := Lib.hid (by
            have := ((Mem.one wr #[.int .u8 (48 + (v : Int) % 10)] 5).at 0 rfl).cells
            have e : ([48 + v % 10].map vu8) = [.int .u8 (48 + (v : Int) % 10)] := by simp [vu8]
            rw [e]; exact this)
          have HB1 := Lib.hid (HB.out.trans ((below_alloc wr (.cells #[.int .u8 (48 + (v : Int) % 10)] 5)).mono HB.out.size))
          have hd1 : 0 ≤ (v : Int) % 10 := by omega
          have hd2 : (v : Int) % 10 < 10 := by omega
          generalize UInt8.ofNat (48 + v % 10) = b at *
          by_cases hd : v % 10 = 0
          · have hd' : (v : Int) % 10 = 0 := by omega
            rw [hd'] at HCb HB1
            rw [hd] at HCb hs1 HS
            clear hd1 hd2
            go_wp2_with (refine wpList_string_of (ns := [48 + 0]) Tryz.underlying153 Tryz.underlying5 Tryz.underlying9 HCb.out rfl rfl rfl ?_)
            exact ⟨⟨v / 10, b :: tail, by rw [← HS.out], vint (by omega), by omega, by simp; omega, HPt1.out, HB1.out⟩, by simp [RowKit.intOf]; omega⟩
          · have hd' : 0 < (v : Int) % 10 := by omega
            go_wp2_with (refine wpList_string_of (ns := [48 + v % 10]) Tryz.underlying153 Tryz.underlying5 Tryz.underlying9 HCb.out rfl rfl rfl ?_)
            exact ⟨⟨v / 10, b :: tail, by rw [← HS.out], vint (by omega), by omega, by simp; omega, HPt1.out, HB1.out⟩, by simp [RowKit.intOf]; omega⟩
    · have HI : Hid (itoa n = decDigits n.toNat) := Lib.hid (by unfold itoa; rw [if_neg h0])
      have HL := Lib.hid (dec_len20 (u := n.toNat) (by omega))
      have h3 : 0 ≤ n := by omega
      clear h0 hz
      go_enter Tryz.func157, Tryz.ntmps157
      go_wp2_with fail
      go_loopw [3, 4] (fun s k wr => ∃ (x : Int) (tail : List UInt8), s = .string (bstr tail) ∧ k = .int .i64 x ∧ 0 ≤ x ∧ x < 9223372036854775808 ∧ tail.length ≤ 20 ∧ Hid (partT n.toNat x.toNat tail) ∧ Below w.heap.size w wr) (fun _ k _ => (RowKit.intOf k).toNat)
      case atStart => exact ⟨n, [], rfl, rfl, h3, h2, by simp, Lib.hid (.inr ⟨by simp at hz'; omega, by simp⟩), Below.refl _ _⟩
      case round =>
        obtain ⟨x, tail, rfl, rfl, hx0, hx1, htl, HPt, hb⟩ := hrel
        have HB := Lib.hid hb
        clear hb
        have hsz : (bstr tail).size ≤ 20 := by rw [bstr_size]; exact htl
        by_cases hv0 : x = 0
        · subst hv0
          have HD : Hid (decDigits n.toNat = tail) := Lib.hid (by rcases HPt.out with ⟨_, h⟩ | ⟨h, _⟩; exact h; simp at h)
          have hneg : decide (n < 0) = false := by simp; omega
          go_wp2_with fail
          exact HP.out _ _ (by rw [HI.out, HD.out]) HB.out
        · have hne : (x != 0) = true := by simpa using hv0
          have hv0' : 0 < x.toNat := by omega
          have HPt1 := Lib.hid (partT_step HPt.out hv0')
          have htl1 : tail.length + 1 ≤ 20 := by
            have := HL.out
            rcases HPt.out with ⟨h, _⟩ | ⟨_, h⟩
            · omega
            · rw [h] at this
              have := dec_pos x.toNat
              simp at *; omega
          have HS : Hid (strOf [48 + x.toNat % 10] ++ bstr tail = bstr (UInt8.ofNat (48 + x.toNat % 10) :: tail)) := Lib.hid (by
            have := one_byte (UInt8.ofNat (48 + x.toNat % 10))
            rw [dig_toNat _ (by omega)] at this
            rw [this, bstr_append]; rfl)
          have hs1 : (strOf [48 + x.toNat % 10]).size = 1 := rfl
          have HCb : Hid (Cells (wr.alloc (.cells #[.int .u8 (48 + x % 10)] 5)) (some ⟨wr.heap.size, 0, none⟩) ([48 + x.toNat % 10].map vu8)) := Lib.hid (by
            have := ((Mem.one wr #[.int .u8 (48 + x % 10)] 5).at 0 rfl).cells
            have e : ([48 + x.toNat % 10].map vu8) = [.int .u8 (48 + x % 10)] := by simp [vu8]; omega
            rw [e]; exact this)
          have HB1 := Lib.hid (HB.out.trans ((below_alloc wr (.cells #[.int .u8 (48 + x % 10)] 5)).mono HB.out.size))
          have hd1 : 0 ≤ x % 10 := by omega
          have hd2 : x % 10 < 10 := by omega
          have HQ : Hid (x.toNat / 10 = (x / 10).toNat) := Lib.hid (by omega)
          rw [HQ.out] at HPt1
          generalize UInt8.ofNat (48 + x.toNat % 10) = b at *
          clear hv0 hv0'
          go_wp2_with (refine wpList_string_of (ns := [48 + x.toNat % 10]) Tryz.underlying153 Tryz.underlying5 Tryz.underlying9 HCb.out rfl rfl rfl ?_)
          exact ⟨⟨x / 10, b :: tail, by rw [← HS.out], rfl, by omega, by omega, by simp; omega, HPt1, HB1.out⟩, by simp [RowKit.intOf]; simp at hne; omega⟩

end Go.Proofs.YtfedgcdkagngnaaGreat

/- dump: digits, Number, Hex; the document's Hex. -/
namespace Go.Proofs.YtfedgcdkagngnaaGreat
open Go.RowKit
set_option linter.unusedVariables false
open Go.Lib (decDigits itoa nDigits)

theorem chrN_toNat (d : Nat) (h : d < 16) : (chrN d).toNat = if d ≤ 9 then 48 + d else 87 + d := by
  unfold chrN
  split <;> simp <;> omega
/-- The digits' room: what isn't written yet, what is. -/
def digRow64 (tail : List UInt8) : List Value := List.replicate (64 - tail.length) (.int .u8 0) ++ vbs tail
theorem digRow64_set (tail : List UInt8) (b : UInt8) (h : tail.length < 64) : (digRow64 tail).set (64 - tail.length - 1) (.int .u8 (b.toNat : Int)) = digRow64 (b :: tail) := by
  unfold digRow64
  obtain ⟨k, hk⟩ : ∃ k, 64 - tail.length = k + 1 := ⟨64 - tail.length - 1, by omega⟩
  rw [hk, show 64 - (b :: tail).length = k by simp; omega, show k + 1 - 1 = k by omega, List.replicate_succ', List.append_assoc, List.set_append_right _ _ (by simp)]
  simp [vbs]
theorem digRow64_len (tail : List UInt8) (h : tail.length ≤ 64) : (digRow64 tail).length = 64 := by simp [digRow64, vbs]; omega
theorem digRow64_drop (tail : List UInt8) : (digRow64 tail).drop (64 - tail.length) = vbs tail := by
  unfold digRow64
  rw [List.drop_append, List.drop_of_length_le (by simp)]; simp

theorem len64 : Tryz.prog.arrayLen 255 = 64 := by kernel_rfl
theorem arr64 : Tryz.prog.underlying 255 = some (.array (Tryz.prog.arrayLen 255) (Tryz.prog.elem 255)) := by kernel_rfl
theorem size64 (W : World) : (Go.sizeOf (Tryz.prog.elem 255)).run Tryz.prog W = .ok 1 W := by kernel_rfl
theorem slice64 (g a n : Nat) (W : World) (h2 : n + a = 64) (h3 : 1 ≤ n) : (Instr.sliceAt 255 (.pointer (some ⟨g, 0, none⟩)) (some (.int .i64 (a : Int))) none none).run Tryz.prog W = .ok (.slice (some ⟨g, a, none⟩) n n) W := by
  rw [run_sliceAt_array_l W _ _ arr64 .i64 _ (by omega) (by rw [len64]; omega), size64, len64]
  have e1 : (a : Int).toNat = a := by omega
  have e2 : 64 - a = n := by omega
  have e3 : ¬ 64 = a := by omega
  simp only [Result.andThen, slicedAt, e1, e2, if_neg e3]
  have : (⟨g, 0, none⟩ : Addr).add (a * 1) = ⟨g, a, none⟩ := by rw [add_none]; simp
  rw [this]

theorem ten20 (n : Nat) (h : n < 18446744073709551616) (b : Nat) (hb : 10 ≤ b) : n / b ^ 20 = 0 := by
  apply Nat.div_eq_of_lt
  refine Nat.lt_of_lt_of_le h ?_
  have h1 : (10 : Nat) ^ 20 ≤ b ^ 20 := Nat.pow_le_pow_left hb 20
  have h2 : (10 : Nat) ^ 20 = 100000000000000000000 := by decide
  omega

/-- What digits leaves. -/
def DigPost (b n least : Nat) (w : World) : Ending → World → Prop := fun e w' => ∃ T, Written b n least T ∧ T ≤ 20 ∧ e = .returned (strV (digW b n T)) ∧ Below w.heap.size w w'

/-- On the way: t digits are written. -/
structure DigInv (b n least t v : Nat) : Prop where
  val : v = n / b ^ t
  le : t ≤ 20
  last : t ≤ least ∨ n / b ^ (t - 1) ≠ 0
theorem DigInv.done {b n least t : Nat} (h : DigInv b n least t 0) (hl : least ≤ t) : Written b n least t :=
  ⟨h.val.symm, hl, by rcases h.last with h1 | h1; · exact .inl (by omega)
                      · exact .inr h1⟩
theorem DigInv.step {b n least t v : Nat} (h : DigInv b n least t v) (hb : 10 ≤ b) (hn : n < 18446744073709551616) (hl : least ≤ 16) (hg : 0 < v ∨ t < least) : DigInv b n least (t + 1) (v / b) := by
  refine ⟨by rw [h.val, Nat.div_div_eq_div_mul, Nat.pow_succ], ?_, ?_⟩
  · apply Classical.byContradiction
    intro c
    have ht : t = 20 := by have := h.le; omega
    subst ht
    have := ten20 n hn b hb
    rw [← h.val] at this
    omega
  · rcases hg with hg | hg
    · right
      rw [show t + 1 - 1 = t from rfl, ← h.val]; omega
    · left; omega

set_option maxHeartbeats 2000000 in
set_option maxRecDepth 100000 in
theorem digits10_any (n least : Nat) (hn : n < 18446744073709551616) (hl1 : 1 ≤ least) (hl : least ≤ 16) (w : World) : Calls Tryz.prog 153 #[.int .u64 (n : Int), .int .u64 10, .int .i64 (least : Int)] w (DigPost 10 n least w) := by
  have HM := Lib.hid (Mem.one w (List.replicate 64 (.int .u8 0)).toArray 255)
  have HP : Hid (∀ (T : Nat) (w' : World), Written 10 n least T → T ≤ 20 → Below w.heap.size w w' → DigPost 10 n least w (.returned (strV (digW 10 n T))) w') := Lib.hid (fun T w' h1 h2 h3 => ⟨T, h1, h2, rfl, h3⟩)
  generalize DigPost 10 n least w = Post at *
  go_enter Tryz.func153, Tryz.ntmps153
  go_upto_region 2 with fail
  have e64 : (List.replicate 64 (.int .u8 0) : List Value).toArray = #[.int .u8 0, .int .u8 0, .int .u8 0, .int .u8 0, .int .u8 0, .int .u8 0, .int .u8 0, .int .u8 0, .int .u8 0, .int .u8 0, .int .u8 0, .int .u8 0, .int .u8 0, .int .u8 0, .int .u8 0, .int .u8 0, .int .u8 0, .int .u8 0, .int .u8 0, .int .u8 0, .int .u8 0, .int .u8 0, .int .u8 0, .int .u8 0, .int .u8 0, .int .u8 0, .int .u8 0, .int .u8 0, .int .u8 0, .int .u8 0, .int .u8 0, .int .u8 0, .int .u8 0, .int .u8 0, .int .u8 0, .int .u8 0, .int .u8 0, .int .u8 0, .int .u8 0, .int .u8 0, .int .u8 0, .int .u8 0, .int .u8 0, .int .u8 0, .int .u8 0, .int .u8 0, .int .u8 0, .int .u8 0, .int .u8 0, .int .u8 0, .int .u8 0, .int .u8 0, .int .u8 0, .int .u8 0, .int .u8 0, .int .u8 0, .int .u8 0, .int .u8 0, .int .u8 0, .int .u8 0, .int .u8 0, .int .u8 0, .int .u8 0, .int .u8 0] := rfl
  rw [e64] at HM
  clear e64
  generalize w.alloc _ = w0 at *
  obtain ⟨g, hg⟩ : ∃ g, g = w.heap.size := ⟨_, rfl⟩
  rw [← hg] at HM ⊢
  have HG : Hid (w.heap.size ≤ g) := Lib.hid (by omega)
  clear hg
  go_wp2_with fail
  go_loopw [0, 8] (fun nv av wr => ∃ (v t a : Nat), nv = .int .u64 (v : Int) ∧ av = .int .i64 (a : Int) ∧ v < 18446744073709551616 ∧ a + t = 64 ∧ t ≤ 20 ∧ Hid (DigInv 10 n least t v) ∧ Hid (RowAt wr g 255 (digRow64 (digW 10 n t))) ∧ Hid (Below w.heap.size w wr)) (fun _ av _ => (intOf av).toNat)
  case atStart => exact ⟨n, 0, 64, rfl, rfl, hn, by omega, by omega, Lib.hid ⟨by simp, by omega, .inl (by omega)⟩, Lib.hid (HM.out.at 0 rfl), Lib.hid HM.out.below⟩
  case round =>
    obtain ⟨v, t, a, rfl, rfl, hv, hat, ht20, HI, HR, HB⟩ := hrel
    by_cases hgo : 0 < v ∨ t < least
    · have HI2 := Lib.hid (HI.out.step (by omega) hn hl hgo)
      have hto : ((a : Int) - 1).toNat = a - 1 := by omega
      have ha1 : 1 ≤ a := by omega
      have HF : Hid (digW 10 n (t + 1) = chrN (v % 10) :: digW 10 n t) := Lib.hid (by rw [digW_front, ← HI.out.val])
      have hlen : (digW 10 n t).length = t := digW_len _ _ _
      have hset := digRow64_set (digW 10 n t) (chrN (v % 10)) (by omega)
      rw [hlen, show 64 - t - 1 = a - 1 by omega] at hset
      have hct := chrN_toNat (v % 10) (by omega)
      obtain ⟨x, hx⟩ : ∃ x, (digRow64 (digW 10 n t))[a - 1]? = some x := ⟨_, List.getElem?_eq_getElem (by rw [digRow64_len _ (by omega)]; omega)⟩
      have e0 := HR.out.cell hx
      have e1 := HR.out.frozen (a - 1)
      have hdB : (v : Int) % 10 < 10 := by omega
      have hd0 : 0 ≤ (v : Int) % 10 := by omega
      have ha64 : (a : Int) ≤ 64 := by omega
      have ha0 : 0 ≤ (a : Int) - 1 := by omega
      have HSet := Lib.hid hset
      have HLen : Hid ((digRow64 (digW 10 n t)).length = 64) := Lib.hid (digRow64_len _ (by omega))
      have HCt := Lib.hid hct
      clear hset hct hx hlen
      have hbyte : ((48 : Int) + (v : Int) % 10) = ((chrN (v % 10)).toNat : Int) := by rw [HCt.out, if_pos (by omega)]; omega
      have HR1 : Hid (RowAt (wr.setCell ⟨g, a - 1, none⟩ (.int .u8 (48 + (v : Int) % 10))) g 255 (digRow64 (digW 10 n (t + 1)))) := Lib.hid (by
        rw [hbyte, HF.out, ← HSet.out]; exact HR.out.set (a - 1) (by rw [HLen.out]; omega) _)
      have HB1 : Hid (Below w.heap.size w (wr.setCell ⟨g, a - 1, none⟩ (.int .u8 (48 + (v : Int) % 10)))) := Lib.hid (HB.out.setCell HG.out _)
      clear hbyte
      rcases hgo with hgo | hgo
      · have hgo' : (0 : Int) < (v : Int) := by omega
        go_wp2_with fail
        go_roundw
        case rel => exact ⟨v / 10, t + 1, a - 1, vint (by omega), vint (by omega), by omega, by omega, HI2.out.le, HI2, HR1, HB1⟩
        case measure => simp [intOf]; omega
      · have hgo' : (64 : Int) - (least : Int) < (a : Int) := by omega
        by_cases hv0 : v = 0
        · subst hv0
          go_wp2_with fail
          go_roundw
          case rel => exact ⟨0 / 10, t + 1, a - 1, vint (by omega), vint (by omega), by omega, by omega, HI2.out.le, HI2, HR1, HB1⟩
          case measure => simp [intOf]; omega
        · have hgo2 : (0 : Int) < (v : Int) := by omega
          go_wp2_with fail
          go_roundw
          case rel => exact ⟨v / 10, t + 1, a - 1, vint (by omega), vint (by omega), by omega, by omega, HI2.out.le, HI2, HR1, HB1⟩
          case measure => simp [intOf]; omega
    · have hv0 : v = 0 := by omega
      subst hv0
      have htl : decide ((64 : Int) - (least : Int) < (a : Int)) = false := by simp; omega
      have HW := Lib.hid (HI.out.done (by omega))
      have hc := HR.out.cells.drop a
      have hlen : (digW 10 n t).length = t := digW_len _ _ _
      have h2 := digRow64_drop (digW 10 n t)
      rw [hlen, show 64 - t = a by omega] at h2
      rw [h2] at hc
      have HC : Hid (Cells wr (some ⟨g, a, none⟩) (((digW 10 n t).map (·.toNat)).map vu8)) := Lib.hid (by rw [← vbs_nat]; simpa using hc)
      have HE : Hid (strOf ((digW 10 n t).map (·.toNat)) = bstr (digW 10 n t)) := Lib.hid (strOf_bytes _)
      have hnl : ((digW 10 n t).map (·.toNat)).length + a = 64 := by simp; omega
      have hn1 : 1 ≤ ((digW 10 n t).map (·.toNat)).length := by simp; omega
      generalize (digW 10 n t).map (·.toNat) = ns at *
      have hsl := fun W => slice64 g a ns.length W hnl hn1
      clear hnl hn1 h2 hc hlen hgo
      go_wp2_with (refine wpList_string_of (ns := ns) Tryz.underlying153 Tryz.underlying5 Tryz.underlying9 HC.out rfl rfl rfl ?_; rw [HE.out])
      exact HP.out _ _ HW.out ht20 HB.out

set_option maxHeartbeats 2000000 in
set_option maxRecDepth 100000 in
theorem digits16_any (n least : Nat) (hn : n < 18446744073709551616) (hl1 : 1 ≤ least) (hl : least ≤ 16) (w : World) : Calls Tryz.prog 153 #[.int .u64 (n : Int), .int .u64 16, .int .i64 (least : Int)] w (DigPost 16 n least w) := by
  have HM := Lib.hid (Mem.one w (List.replicate 64 (.int .u8 0)).toArray 255)
  have HP : Hid (∀ (T : Nat) (w' : World), Written 16 n least T → T ≤ 20 → Below w.heap.size w w' → DigPost 16 n least w (.returned (strV (digW 16 n T))) w') := Lib.hid (fun T w' h1 h2 h3 => ⟨T, h1, h2, rfl, h3⟩)
  generalize DigPost 16 n least w = Post at *
  go_enter Tryz.func153, Tryz.ntmps153
  go_upto_region 2 with fail
  have e64 : (List.replicate 64 (.int .u8 0) : List Value).toArray = #[.int .u8 0, .int .u8 0, .int .u8 0, .int .u8 0, .int .u8 0, .int .u8 0, .int .u8 0, .int .u8 0, .int .u8 0, .int .u8 0, .int .u8 0, .int .u8 0, .int .u8 0, .int .u8 0, .int .u8 0, .int .u8 0, .int .u8 0, .int .u8 0, .int .u8 0, .int .u8 0, .int .u8 0, .int .u8 0, .int .u8 0, .int .u8 0, .int .u8 0, .int .u8 0, .int .u8 0, .int .u8 0, .int .u8 0, .int .u8 0, .int .u8 0, .int .u8 0, .int .u8 0, .int .u8 0, .int .u8 0, .int .u8 0, .int .u8 0, .int .u8 0, .int .u8 0, .int .u8 0, .int .u8 0, .int .u8 0, .int .u8 0, .int .u8 0, .int .u8 0, .int .u8 0, .int .u8 0, .int .u8 0, .int .u8 0, .int .u8 0, .int .u8 0, .int .u8 0, .int .u8 0, .int .u8 0, .int .u8 0, .int .u8 0, .int .u8 0, .int .u8 0, .int .u8 0, .int .u8 0, .int .u8 0, .int .u8 0, .int .u8 0, .int .u8 0] := rfl
  rw [e64] at HM
  clear e64
  generalize w.alloc _ = w0 at *
  obtain ⟨g, hg⟩ : ∃ g, g = w.heap.size := ⟨_, rfl⟩
  rw [← hg] at HM ⊢
  have HG : Hid (w.heap.size ≤ g) := Lib.hid (by omega)
  clear hg
  go_wp2_with fail
  go_loopw [0, 8] (fun nv av wr => ∃ (v t a : Nat), nv = .int .u64 (v : Int) ∧ av = .int .i64 (a : Int) ∧ v < 18446744073709551616 ∧ a + t = 64 ∧ t ≤ 20 ∧ Hid (DigInv 16 n least t v) ∧ Hid (RowAt wr g 255 (digRow64 (digW 16 n t))) ∧ Hid (Below w.heap.size w wr)) (fun _ av _ => (intOf av).toNat)
  case atStart => exact ⟨n, 0, 64, rfl, rfl, hn, by omega, by omega, Lib.hid ⟨by simp, by omega, .inl (by omega)⟩, Lib.hid (HM.out.at 0 rfl), Lib.hid HM.out.below⟩
  case round =>
    obtain ⟨v, t, a, rfl, rfl, hv, hat, ht20, HI, HR, HB⟩ := hrel
    by_cases hgo : 0 < v ∨ t < least
    · have HI2 := Lib.hid (HI.out.step (by omega) hn hl hgo)
      have hto : ((a : Int) - 1).toNat = a - 1 := by omega
      have ha1 : 1 ≤ a := by omega
      have HF : Hid (digW 16 n (t + 1) = chrN (v % 16) :: digW 16 n t) := Lib.hid (by rw [digW_front, ← HI.out.val])
      have hlen : (digW 16 n t).length = t := digW_len _ _ _
      have hset := digRow64_set (digW 16 n t) (chrN (v % 16)) (by omega)
      rw [hlen, show 64 - t - 1 = a - 1 by omega] at hset
      have hct := chrN_toNat (v % 16) (by omega)
      obtain ⟨x, hx⟩ : ∃ x, (digRow64 (digW 16 n t))[a - 1]? = some x := ⟨_, List.getElem?_eq_getElem (by rw [digRow64_len _ (by omega)]; omega)⟩
      have e0 := HR.out.cell hx
      have e1 := HR.out.frozen (a - 1)
      have hdB : (v : Int) % 16 < 16 := by omega
      have hd0 : 0 ≤ (v : Int) % 16 := by omega
      have ha64 : (a : Int) ≤ 64 := by omega
      have ha0 : 0 ≤ (a : Int) - 1 := by omega
      have HSet := Lib.hid hset
      have HLen : Hid ((digRow64 (digW 16 n t)).length = 64) := Lib.hid (digRow64_len _ (by omega))
      have HCt := Lib.hid hct
      clear hset hct hx hlen
      by_cases hd9 : v % 16 ≤ 9
      · have hd9' : (v : Int) % 16 ≤ 9 := by omega
        have hbyte : ((48 : Int) + (v : Int) % 16) = ((chrN (v % 16)).toNat : Int) := by rw [HCt.out, if_pos (by omega)]; omega
        have HR1 : Hid (RowAt (wr.setCell ⟨g, a - 1, none⟩ (.int .u8 (48 + (v : Int) % 16))) g 255 (digRow64 (digW 16 n (t + 1)))) := Lib.hid (by
          rw [hbyte, HF.out, ← HSet.out]; exact HR.out.set (a - 1) (by rw [HLen.out]; omega) _)
        have HB1 : Hid (Below w.heap.size w (wr.setCell ⟨g, a - 1, none⟩ (.int .u8 (48 + (v : Int) % 16)))) := Lib.hid (HB.out.setCell HG.out _)
        clear hbyte
        rcases hgo with hgo | hgo
        · have hgo' : (0 : Int) < (v : Int) := by omega
          go_wp2_with fail
          go_roundw
          case rel => exact ⟨v / 16, t + 1, a - 1, vint (by omega), vint (by omega), by omega, by omega, HI2.out.le, HI2, HR1, HB1⟩
          case measure => simp [intOf]; omega
        · have hgo' : (64 : Int) - (least : Int) < (a : Int) := by omega
          by_cases hv0 : v = 0
          · subst hv0
            go_wp2_with fail
            go_roundw
            case rel => exact ⟨0 / 16, t + 1, a - 1, vint (by omega), vint (by omega), by omega, by omega, HI2.out.le, HI2, HR1, HB1⟩
            case measure => simp [intOf]; omega
          · have hgo2 : (0 : Int) < (v : Int) := by omega
            go_wp2_with fail
            go_roundw
            case rel => exact ⟨v / 16, t + 1, a - 1, vint (by omega), vint (by omega), by omega, by omega, HI2.out.le, HI2, HR1, HB1⟩
            case measure => simp [intOf]; omega
      · have hd9' : (9 : Int) < (v : Int) % 16 := by omega
        have hbyte : ((97 : Int) + (v : Int) % 16 - 10) = ((chrN (v % 16)).toNat : Int) := by rw [HCt.out, if_neg hd9]; omega
        have HR1 : Hid (RowAt ((wr.setCell ⟨g, a - 1, none⟩ (.int .u8 (48 + (v : Int) % 16))).setCell ⟨g, a - 1, none⟩ (.int .u8 (97 + (v : Int) % 16 - 10))) g 255 (digRow64 (digW 16 n (t + 1)))) := Lib.hid (by
          have h1 := HR.out.set (a - 1) (by rw [HLen.out]; omega) (.int .u8 (48 + (v : Int) % 16))
          have h2 := h1.set (a - 1) (by rw [List.length_set, HLen.out]; omega) (.int .u8 (97 + (v : Int) % 16 - 10))
          rw [List.set_set, hbyte, HSet.out, ← HF.out] at h2
          rw [hbyte]; exact h2)
        have HB1 : Hid (Below w.heap.size w ((wr.setCell ⟨g, a - 1, none⟩ (.int .u8 (48 + (v : Int) % 16))).setCell ⟨g, a - 1, none⟩ (.int .u8 (97 + (v : Int) % 16 - 10)))) := Lib.hid ((HB.out.setCell HG.out _).setCell HG.out _)
        clear hbyte
        rcases hgo with hgo | hgo
        · have hgo' : (0 : Int) < (v : Int) := by omega
          go_wp2_with fail
          go_roundw
          case rel => exact ⟨v / 16, t + 1, a - 1, vint (by omega), vint (by omega), by omega, by omega, HI2.out.le, HI2, HR1, HB1⟩
          case measure => simp [intOf]; omega
        · have hgo' : (64 : Int) - (least : Int) < (a : Int) := by omega
          by_cases hv0 : v = 0
          · omega
          · have hgo2 : (0 : Int) < (v : Int) := by omega
            go_wp2_with fail
            go_roundw
            case rel => exact ⟨v / 16, t + 1, a - 1, vint (by omega), vint (by omega), by omega, by omega, HI2.out.le, HI2, HR1, HB1⟩
            case measure => simp [intOf]; omega
    · have hv0 : v = 0 := by omega
      subst hv0
      have htl : decide ((64 : Int) - (least : Int) < (a : Int)) = false := by simp; omega
      have HW := Lib.hid (HI.out.done (by omega))
      have hc := HR.out.cells.drop a
      have hlen : (digW 16 n t).length = t := digW_len _ _ _
      have h2 := digRow64_drop (digW 16 n t)
      rw [hlen, show 64 - t = a by omega] at h2
      rw [h2] at hc
      have HC : Hid (Cells wr (some ⟨g, a, none⟩) (((digW 16 n t).map (·.toNat)).map vu8)) := Lib.hid (by rw [← vbs_nat]; simpa using hc)
      have HE : Hid (strOf ((digW 16 n t).map (·.toNat)) = bstr (digW 16 n t)) := Lib.hid (strOf_bytes _)
      have hnl : ((digW 16 n t).map (·.toNat)).length + a = 64 := by simp; omega
      have hn1 : 1 ≤ ((digW 16 n t).map (·.toNat)).length := by simp; omega
      generalize (digW 16 n t).map (·.toNat) = ns at *
      have hsl := fun W => slice64 g a ns.length W hnl hn1
      clear hnl hn1 h2 hc hlen hgo
      go_wp2_with (refine wpList_string_of (ns := ns) Tryz.underlying153 Tryz.underlying5 Tryz.underlying9 HC.out rfl rfl rfl ?_; rw [HE.out])
      exact HP.out _ _ HW.out ht20 HB.out

end Go.Proofs.YtfedgcdkagngnaaGreat

/- dump: Number, Hex; the document's Number, Hex. -/
namespace Go.Proofs.YtfedgcdkagngnaaGreat
open Go.RowKit
set_option linter.unusedVariables false
open Go.Lib (decDigits itoa nDigits)

section
variable {P : Program} {w : World} {ops : Array Oper} {rest : List Oper} {o : Oper} {a : Act} {Q : Exit → Act → World → Prop}
/-- A byte of a text. -/
theorem wpList_index_str {ty : TypeId} {x ix : Operand} {s : ByteArray} {k : IntKind} {I : Int} (i : Nat) {b : UInt8} (hu : P.underlying ty = some .string) (hI : I = (i : Int)) (hb : s[i]? = some b)
    (hgd : o.guard = none) (ho : o.op = .index ty x ix) (hx : a.eval x = .string s) (hix : a.eval ix = .int k I)
    (hK : wpList P ops Q rest (a.put o.dst (.int .u8 (b.toNat : Int))) w) : wpList P ops Q (o :: rest) a w := by
  refine wpList_plain hgd fun K hK' => ?_
  subst hI
  have hr : (Instr.index ty (.string s) (.int k i)).run P w = .ok (.int .u8 (b.toNat : Int)) w := by
    simp [Instr.index, asIntOf, run_underlying hu, hb]
  unfold Oper.wp
  simp [execOp, ho, hx, hix, hr, Result.andThen]
  exact hK' _ _ hK
end

theorem digits10d_any (u : Nat) (hu : u < 18446744073709551616) (w : World) : Calls Tryz.prog 153 #[.int .u64 (u : Int), .int .u64 10, .int .i64 1] w (Gives (strV (decDigits u)) w) := by
  refine (digits10_any u 1 hu (by omega) (by omega) w).mono ?_
  rintro e w' ⟨T, h1, _, rfl, hb⟩
  rw [dec_digW h1]
  exact ⟨rfl, hb⟩
theorem digits16d_any (u : Nat) (hu : u < 18446744073709551616) (w : World) : Calls Tryz.prog 153 #[.int .u64 (u : Int), .int .u64 16, .int .i64 16] w (Gives (strV (digW 16 u 16)) w) := by
  refine (digits16_any u 16 hu (by omega) (by omega) w).mono ?_
  rintro e w' ⟨T, h1, _, rfl, hb⟩
  rw [hex_digW hu h1]
  exact ⟨rfl, hb⟩

set_option maxHeartbeats 1000000 in
theorem dhex_any (u : Nat) (hu : u < 18446744073709551616) (w : World) : Calls Tryz.prog 85 #[vu64 u] w (Gives (strV (digW 16 u 16)) w) := by
  have HP : Hid (∀ w', Below w.heap.size w w' → Gives (strV (digW 16 u 16)) w (.returned (strV (digW 16 u 16))) w') := Lib.hid (fun w' h => ⟨rfl, h⟩)
  generalize Gives (strV (digW 16 u 16)) w = Post at *
  go_enter Tryz.func85, Tryz.ntmps85
  go_wp2_with fail
  refine (digits16d_any u hu _).mono ?_
  rintro e w1 ⟨rfl, hb1⟩
  have HB1 := Lib.hid hb1
  generalize digW 16 u 16 = l at *
  clear hb1
  go_wp2_with fail
  exact HP.out _ HB1.out

set_option maxHeartbeats 2000000 in
theorem dnumber_any (n : Int) (hn : In64 n) (w : World) : Calls Tryz.prog 82 #[.int .i64 n] w (Gives (strV (itoa n)) w) := by
  obtain ⟨h1, h2⟩ := hn
  have HP : Hid (∀ (l : List UInt8) (w' : World), itoa n = l → Below w.heap.size w w' → Gives (strV (itoa n)) w (.returned (strV l)) w') := Lib.hid (fun l w' h hb => by subst h; exact ⟨rfl, hb⟩)
  generalize Gives (strV (itoa n)) w = Post at *
  by_cases h0 : n < 0
  · obtain ⟨u, hu⟩ : ∃ u : Nat, n = -(u : Int) := ⟨n.natAbs, by omega⟩
    subst hu
    have hu1 : 1 ≤ u := by omega
    have HI : Hid (itoa (-(u : Int)) = 45 :: decDigits u) := Lib.hid (itoa_neg hu1)
    by_cases hm : u = 9223372036854775808
    · subst hm
      go_enter Tryz.func82, Tryz.ntmps82
      go_wp2_with fail
      rw [show IntKind.u64.wrap (wrap64 9223372036854775808) = ((9223372036854775808 : Nat) : Int) from by decide +kernel]
      refine (digits10d_any 9223372036854775808 (by omega) _).mono ?_
      rintro e w1 ⟨rfl, hb1⟩
      have HB1 := Lib.hid hb1
      have HL := Lib.hid (dec_len20 (u := 9223372036854775808) (by omega))
      generalize decDigits 9223372036854775808 = l at *
      have hl : (bstr l).size ≤ 20 := by rw [bstr_size]; exact HL.out
      clear hb1
      go_wp2_with fail
      show Post (.returned (.string (bstr [45] ++ bstr l))) w1
      rw [bstr_append]
      exact HP.out _ _ HI.out HB1.out
    · have hu2 : u < 9223372036854775808 := by omega
      go_enter Tryz.func82, Tryz.ntmps82
      go_wp2_with fail
      refine (digits10d_any u (by omega) _).mono ?_
      rintro e w1 ⟨rfl, hb1⟩
      have HB1 := Lib.hid hb1
      have HL := Lib.hid (dec_len20 (u := u) (by omega))
      generalize decDigits u = l at *
      have hl : (bstr l).size ≤ 20 := by rw [bstr_size]; exact HL.out
      clear hb1
      go_wp2_with fail
      show Post (.returned (.string (bstr [45] ++ bstr l))) w1
      rw [bstr_append]
      exact HP.out _ _ HI.out HB1.out
  · obtain ⟨u, rfl⟩ := Int.eq_ofNat_of_zero_le (show 0 ≤ n by omega)
    have HI : Hid (itoa (u : Int) = decDigits u) := Lib.hid (itoa_pos u)
    go_enter Tryz.func82, Tryz.ntmps82
    go_wp2_with fail
    refine (digits10d_any u (by omega) _).mono ?_
    rintro e w1 ⟨rfl, hb1⟩
    have HB1 := Lib.hid hb1
    generalize decDigits u = l at *
    clear hb1
    go_wp2_with fail
    exact HP.out _ _ HI.out HB1.out

set_option maxHeartbeats 1000000 in
theorem rnumber_any (n : Int) (hn : In64 n) (w : World) : Calls Tryz.prog 91 #[.int .i64 n] w (Gives (strV (itoa n)) w) := by
  have HP : Hid (∀ w', Below w.heap.size w w' → Gives (strV (itoa n)) w (.returned (strV (itoa n))) w') := Lib.hid (fun w' h => ⟨rfl, h⟩)
  have HT := Lib.hid (fun w => rtext_any n hn w)
  generalize Gives (strV (itoa n)) w = Post at *
  obtain ⟨h1, h2⟩ := hn
  go_enter Tryz.func91, Tryz.ntmps91
  go_wp2_with fail
  refine (HT.out _).mono ?_
  rintro e w1 ⟨rfl, hb1⟩
  have HB1 := Lib.hid hb1
  generalize itoa n = l at *
  clear hb1
  go_wp2_with fail
  exact HP.out _ HB1.out

def hexS : ByteArray := ⟨#[48, 49, 50, 51, 52, 53, 54, 55, 56, 57, 97, 98, 99, 100, 101, 102]⟩
theorem hexS_at : ∀ d : Fin 16, hexS[d.val]? = some (chrN d.val) := by decide +kernel

set_option maxHeartbeats 2000000 in
theorem rhex_any (n : Nat) (hn : n < 18446744073709551616) (w : World) : Calls Tryz.prog 159 #[vu64 n] w (Gives (strV (digW 16 n 16)) w) := by
  have HP : Hid (∀ w', Below w.heap.size w w' → Gives (strV (digW 16 n 16)) w (.returned (strV (digW 16 n 16))) w') := Lib.hid (fun w' h => ⟨rfl, h⟩)
  generalize Gives (strV (digW 16 n 16)) w = Post at *
  go_enter Tryz.func159, Tryz.ntmps159
  go_wp2_with fail
  go_loopw [0, 3, 4] (fun nv sv iv wr => ∃ v t : Nat, nv = .int .u64 (v : Int) ∧ sv = .string (bstr (digW 16 n t)) ∧ iv = .int .i64 (t : Int) ∧ t ≤ 16 ∧ v < 18446744073709551616 ∧ Hid (v = n / 16 ^ t) ∧ Hid (Below w.heap.size w wr)) (fun _ _ iv _ => 16 - (intOf iv).toNat)
  case atStart => exact ⟨n, 0, rfl, rfl, rfl, by omega, hn, Lib.hid (by simp), Lib.hid (Below.refl _ _)⟩
  case round =>
    obtain ⟨v, t, rfl, rfl, rfl, ht, hv, HV, HB⟩ := hrel
    by_cases hlt : t < 16
    · have HF : Hid (digW 16 n (t + 1) = chrN (v % 16) :: digW 16 n t) := Lib.hid (by rw [digW_front, ← HV.out])
      have HL : Hid ((digW 16 n t).length = t) := Lib.hid (digW_len _ _ _)
      have hsz : (bstr (digW 16 n t)).size ≤ 16 := by rw [bstr_size, HL.out]; exact ht
      have HX := Lib.hid (hexS_at ⟨v % 16, by omega⟩)
      have HV2 : Hid (v / 16 = n / 16 ^ (t + 1)) := Lib.hid (by rw [HV.out, Nat.div_div_eq_div_mul, Nat.pow_succ])
      have HM : Hid ((v : Int) % 16 = ((v % 16 : Nat) : Int)) := Lib.hid (by omega)
      dsimp only at HX
      generalize digW 16 n t = l at *
      generalize chrN (v % 16) = b at *
      have HS : Hid (strOf [b.toNat] ++ bstr l = bstr (b :: l)) := Lib.hid (by rw [one_byte, bstr_append]; rfl)
      have hs1 : (strOf [b.toNat]).size = 1 := rfl
      have HCb : Hid (Cells (wr.alloc (.cells #[.int .u8 (b.toNat : Int)] 5)) (some ⟨wr.heap.size, 0, none⟩) ([b.toNat].map vu8)) := Lib.hid (((Mem.one wr #[.int .u8 (b.toNat : Int)] 5).at 0 rfl).cells)
      have HB1 := Lib.hid (HB.out.trans ((below_alloc wr (.cells #[.int .u8 (b.toNat : Int)] 5)).mono HB.out.size))
      have hlt' : (t : Int) < 16 := by omega
      go_wp2_with (first
        | (refine wpList_index_str (v % 16) Tryz.underlying9 HM.out HX.out rfl rfl rfl rfl ?_)
        | (refine wpList_string_of (ns := [b.toNat]) Tryz.underlying153 Tryz.underlying5 Tryz.underlying9 HCb.out rfl rfl rfl ?_))
      go_roundw
      case rel => exact ⟨v / 16, t + 1, vint (by omega), by rw [HF.out, ← HS.out], vint (by omega), by omega, by omega, HV2, HB1⟩
      case measure => simp [intOf]; omega
    · obtain rfl : t = 16 := by omega
      generalize digW 16 n 16 = l at *
      go_wp2_with fail
      exact HP.out _ HB.out

end Go.Proofs.YtfedgcdkagngnaaGreat

/-
  DERIVED: THE SHELF's CONTRACTS AT THIS DUMP, IN PLAIN WORDS (tools/lay-plain.mjs out of 'TmpShelf.lean', which tools/lay-shelf.mjs wrote): THE SAME DECLARATIONS UNDER THE SAME NAMES: 'import', 'namespace', 'open', 'def', 'theorem' AND NOTHING ELSE: no command of the shelf's: FOR A HAND-IN. Each laying: the table of numbers ('.._ren') and one theorem, a field a fact of the dump's own or the kernel's comparison; each contract: ONE APPLICATION.
-/
namespace Go.Proofs
open Go.Shelf
def Tryz.lays169_ren : Go.Shelf.Ren := ⟨fun | 169 => 96 | n => n, fun | 70 => 152 | 9 => 9 | 0 => 0 | 72 => 155 | 37 => 153 | 127 => 219 | 3 => 3 | 5 => 5 | n => n, fun | n => n⟩
theorem Tryz.lays169 : Go.Proofs.Lays.n169 Tryz.prog Tryz.lays169_ren := {
  mixed := by kernel_rfl
  f169 := Tryz.func96.trans (congrArg some (by kernel_rfl))
  t0 := Tryz.underlying0
  a0 := Tryz.isAgg0
  z0 := Tryz.sizeOf0
  v0 := Tryz.zeroValue0
  t3 := Tryz.underlying3
  a3 := Tryz.isAgg3
  z3 := Tryz.sizeOf3
  v3 := Tryz.zeroValue3
  t9 := Tryz.underlying9
  a9 := Tryz.isAgg9
  z9 := Tryz.sizeOf9
  v9 := Tryz.zeroValue9
  t37 := Tryz.underlying153
  a37 := Tryz.isAgg153
  z37 := Tryz.sizeOf153
  v37 := Tryz.zeroValue153
  t70 := Tryz.underlying152
  a70 := Tryz.isAgg152
  z70 := Tryz.sizeOf152
  v70 := Tryz.zeroValue152
  t72 := Tryz.underlying155
  a72 := Tryz.isAgg155
  z72 := Tryz.sizeOf155
  v72 := Tryz.zeroValue155
  t127 := Tryz.underlying219
  a127 := Tryz.isAgg219
  z127 := Tryz.sizeOf219
  v127 := Tryz.zeroValue219 }
end Go.Proofs

/- strings.Builder's contracts, laid at this program. -/
namespace Go.Proofs.YtfedgcdkagngnaaGreat
open Go.RowKit Go.Shelf
set_option linter.unusedVariables false

theorem extraS : Go.Proofs.Builder.Extra Tryz.prog Tryz.lays169_ren := {
  sizeBuilder := by kernel_rfl
  liesBuilder := by kernel_rfl
  t5 := Tryz.underlying5
  a5 := Tryz.isAgg5
  z5 := Tryz.sizeOf5
  v5 := Tryz.zeroValue5
  infoByte := by kernel_rfl
  cellsByte := by kernel_rfl
  sizeByte := by kernel_rfl
  neB5 := by decide }

abbrev Bld (B b : Nat) (l : List UInt8) (w : World) : Prop := Lib.IsBuilder 155 5 B b (Lib.byteCells l) w

theorem bstring_any (B b : Nat) (l : List UInt8) (w : World) (h : Bld B b l w) (hB : B ≤ w.heap.size) :
    Calls Tryz.prog 96 #[.pointer (some ⟨b, 0, none⟩)] w fun e w' => e = .returned (.string ⟨l.toArray⟩) ∧ Below B w w' :=
  Any.Builder_String_any Tryz.lays169 extraS B b l w h hB

end Go.Proofs.YtfedgcdkagngnaaGreat

/- strings.Builder: WriteByte, laid at this program; builders while other blocks are made. -/
namespace Go.Proofs.YtfedgcdkagngnaaGreat
open Go.RowKit Go.Shelf
set_option linter.unusedVariables false

def renB : Go.Shelf.Ren := ⟨fun | 167 => 94 | 240 => 160 | 276 => 207 | n => n, fun | 0 => 0 | 3 => 3 | 4 => 4 | 5 => 5 | 9 => 9 | 20 => 20 | 37 => 153 | 70 => 152 | 72 => 155 | 75 => 157 | 80 => 160 | 164 => 260 | n => n, fun | n => n⟩
theorem laysB : Go.Proofs.Lays.n167 Tryz.prog renB := {
  mixed := by kernel_rfl
  f167 := Tryz.func94.trans (congrArg some (by kernel_rfl))
  f240 := Tryz.func160.trans (congrArg some (by kernel_rfl))
  f276 := Tryz.func207.trans (congrArg some (by kernel_rfl))
  t0 := Tryz.underlying0
  a0 := Tryz.isAgg0
  z0 := Tryz.sizeOf0
  v0 := Tryz.zeroValue0
  t4 := Tryz.underlying4
  a4 := Tryz.isAgg4
  z4 := Tryz.sizeOf4
  v4 := Tryz.zeroValue4
  t5 := Tryz.underlying5
  a5 := Tryz.isAgg5
  z5 := Tryz.sizeOf5
  v5 := Tryz.zeroValue5
  t9 := Tryz.underlying9
  a9 := Tryz.isAgg9
  z9 := Tryz.sizeOf9
  v9 := Tryz.zeroValue9
  t20 := Tryz.underlying20
  a20 := Tryz.isAgg20
  z20 := Tryz.sizeOf20
  v20 := Tryz.zeroValue20
  t37 := Tryz.underlying153
  a37 := Tryz.isAgg153
  z37 := Tryz.sizeOf153
  v37 := Tryz.zeroValue153
  t70 := Tryz.underlying152
  a70 := Tryz.isAgg152
  z70 := Tryz.sizeOf152
  v70 := Tryz.zeroValue152
  t72 := Tryz.underlying155
  a72 := Tryz.isAgg155
  z72 := Tryz.sizeOf155
  v72 := Tryz.zeroValue155
  t75 := Tryz.underlying157
  a75 := Tryz.isAgg157
  z75 := Tryz.sizeOf157
  v75 := Tryz.zeroValue157
  t164 := Tryz.underlying260
  a164 := Tryz.isAgg260
  z164 := Tryz.sizeOf260
  v164 := Tryz.zeroValue260 }
theorem extraB : Go.Proofs.Builder.Extra Tryz.prog renB := {
  sizeBuilder := by kernel_rfl
  liesBuilder := by kernel_rfl
  t5 := Tryz.underlying5
  a5 := Tryz.isAgg5
  z5 := Tryz.sizeOf5
  v5 := Tryz.zeroValue5
  infoByte := by kernel_rfl
  cellsByte := by kernel_rfl
  sizeByte := by kernel_rfl
  neB5 := by decide }

theorem bbyte_any (B b : Nat) (l : List UInt8) (c : UInt8) (w : World) (h : Bld B b l w) (hlen : l.length + 1 ≤ 140737488355328) (hB : B ≤ w.heap.size) :
    Calls Tryz.prog 94 #[.pointer (some ⟨b, 0, none⟩), .int .u8 (c.toNat : Int)] w fun e w' => e = .returned .nilIface ∧ Bld B b (l ++ [c]) w' ∧ Below B w w' := by
  have h1 := Any.Builder_WriteByte laysB extraB B b (Lib.byteCells l) (c.toNat : Int) w h (by rw [Lib.byteCells_length]; exact hlen) hB
  refine Calls.mono (f := 94) h1 ?_
  rintro e w' ⟨h2, h3, h4⟩
  refine ⟨h2, .inr ?_, h4⟩
  have e1 : Lib.byteCells (l ++ [c]) = Lib.byteCells l ++ [.int .u8 (c.toNat : Int)] := by simp [Lib.byteCells]
  rw [e1]; exact h3

theorem bld_keep {B b : Nat} {l : List UInt8} {w w' : World} (h : Bld B b l w) (hb : Below w.heap.size w w') : Bld B b l w' := by
  rcases h with ⟨h1, v, h2, h3, h4⟩ | ⟨h1, v, h2, h3, h4⟩
  · exact .inl ⟨h1, v, by rw [hb.block b (Array.getElem?_eq_some_iff.1 h2).1]; exact h2, owned_below h3 hb (Nat.le_refl _), h4⟩
  · exact .inr ⟨h1, v, by rw [hb.block b (Array.getElem?_eq_some_iff.1 h2).1]; exact h2, owned_below h3 hb (Nat.le_refl _), h4⟩
theorem bld_fresh (w : World) : Bld w.heap.size w.heap.size [] (w.alloc (.cells #[.pointer none, .slice none 0 0] 155)) :=
  .inl ⟨Nat.le_refl _, .slice none 0 0, heap_alloc_new w _, ⟨rfl, .inl ⟨rfl, rfl⟩⟩, by simp [Value.ownBlock]⟩

end Go.Proofs.YtfedgcdkagngnaaGreat

/- dump: sign, Map; the document's. -/
namespace Go.Proofs.YtfedgcdkagngnaaGreat
open Go.RowKit
set_option linter.unusedVariables false

/-- A block's sign. -/
def signB (h : Hd) : UInt8 :=
  if h.k = 2 then 35 else if h.k = 3 then 43 else if h.k = 1 then (if h.c < 26 then UInt8.ofNat (97 + h.c.toNat) else UInt8.ofNat (65 + (h.c.toNat - 26))) else 46
/-- Small blocks have a class. -/
def Hd.fine (h : Hd) : Prop := h.k = 1 → 0 ≤ h.c ∧ h.c < 32
def ByteOut (v : UInt8) (w : World) : Ending → World → Prop := fun e w' => e = .returned (.int .u8 (v.toNat : Int)) ∧ Below w.heap.size w w'
theorem byteOut {v : UInt8} {w w' : World} {x : Int} (h : x = (v.toNat : Int)) (hb : Below w.heap.size w w') : ByteOut v w (.returned (.int .u8 x)) w' := by rw [h]; exact ⟨rfl, hb⟩

set_option maxHeartbeats 2000000 in
set_option maxRecDepth 20000 in
theorem dsign_any {w : World} {A : AF} {n B : Nat} {m : Al} (h : AlAt w A n B m) (hB : B ≤ 1000) (b : Int) (hf : (hdGet m.bm.list b).fine) :
    Calls Tryz.prog 95 #[valloc A, .int .i64 b] w (ByteOut (signB (hdGet m.bm.list b)) w) := by
  have HA := Lib.hid h
  have c0 := h.c0
  have d0 := h.man.c0
  have HT := Lib.hid (h.man.tab.at (MF.notHot (MF.apart h.man.nd).t).1)
  have HL : Hid (m.bm.list.length ≤ 1000) := Lib.hid (by rw [h.man.tab.len]; exact hB)
  clear h
  go_enter Tryz.func95, Tryz.ntmps95
  go_wp2_with fail
  refine (tget_any HT.out b HL.out).mono ?_
  rintro e w1 ⟨rfl, hb1⟩
  have HP : Hid (∀ (x : Int) (w' : World), x = ((signB (hdGet m.bm.list b)).toNat : Int) → Below w.heap.size w w' → ByteOut (signB (hdGet m.bm.list b)) w (.returned (.int .u8 x)) w') := Lib.hid (fun x w' h1 h2 => byteOut h1 h2)
  generalize ByteOut (signB (hdGet m.bm.list b)) w = Post at *
  generalize hdGet m.bm.list b = hd at *
  obtain ⟨k, c, l⟩ := hd
  unfold Hd.val
  have hbx := below_alloc w1 (Obj.cells #[.int .i64 k, .int .i64 c, .int .i64 l] 139)
  have HB := Lib.hid (hb1.trans (hbx.mono hb1.size))
  have HS : Hid (signB ⟨k, c, l⟩ = if k = 2 then 35 else if k = 3 then 43 else if k = 1 then (if c < 26 then UInt8.ofNat (97 + c.toNat) else UInt8.ofNat (65 + (c.toNat - 26))) else 46) := Lib.hid rfl
  unfold Hd.fine at hf
  dsimp only at hf ⊢
  generalize signB ⟨k, c, l⟩ = s at *
  clear hb1 hbx c0 d0
  by_cases k2 : k = 2
  · have HV : Hid (s = 35) := Lib.hid (by rw [HS.out, if_pos k2])
    clear hf HS
    subst k2
    go_wp2_with fail
    exact HP.out _ _ (by rw [HV.out]; rfl) HB.out
  have k2' : ((k : Int) == 2) = false := by simpa using k2
  by_cases k3 : k = 3
  · have HV : Hid (s = 43) := Lib.hid (by rw [HS.out, if_neg k2, if_pos k3])
    clear hf HS k2
    subst k3
    go_wp2_with fail
    exact HP.out _ _ (by rw [HV.out]; rfl) HB.out
  have k3' : ((k : Int) == 3) = false := by simpa using k3
  by_cases k1 : k = 1
  · obtain ⟨hc0, hc1⟩ := hf k1
    by_cases hc : c < 26
    · have HV : Hid (s = UInt8.ofNat (97 + c.toNat)) := Lib.hid (by rw [HS.out, if_neg k2, if_neg k3, if_pos k1, if_pos hc])
      clear hf HS k2 k3
      subst k1
      go_wp2_with fail
      refine HP.out _ _ ?_ HB.out
      rw [HV.out, UInt8.toNat_ofNat']
      omega
    · have hc' : 26 ≤ c := by omega
      have HV : Hid (s = UInt8.ofNat (65 + (c.toNat - 26))) := Lib.hid (by rw [HS.out, if_neg k2, if_neg k3, if_pos k1, if_neg hc])
      clear hf HS k2 k3
      subst k1
      go_wp2_with fail
      refine HP.out _ _ ?_ HB.out
      rw [HV.out, UInt8.toNat_ofNat']
      omega
  · have k1' : ((k : Int) == 1) = false := by simpa using k1
    have HV : Hid (s = 46) := Lib.hid (by rw [HS.out, if_neg k2, if_neg k3, if_neg k1])
    clear hf HS
    go_wp2_with fail
    exact HP.out _ _ (by rw [HV.out]; rfl) HB.out

/-- Is a line's end behind a block? -/
def nlB (wd : Int) (b B : Nat) : Prop := 0 < wd ∧ (b : Int) % wd = 0 ∧ (b : Int) < (B : Int) - 1
instance (wd : Int) (b B : Nat) : Decidable (nlB wd b B) := by unfold nlB; infer_instance
/-- The map of so many blocks. -/
def mapTo (l : List Hd) (B : Nat) (wd : Int) : Nat → List UInt8
  | 0 => []
  | i + 1 => mapTo l B wd i ++ (signB (hdGet l ((i + 1 : Nat) : Int)) :: (if nlB wd (i + 1) B then [10] else []))
theorem mapTo_len (l : List Hd) (B : Nat) (wd : Int) (i : Nat) : (mapTo l B wd i).length ≤ 2 * i := by
  induction i with
  | zero => simp [mapTo]
  | succ i ih => simp only [mapTo, List.length_append, List.length_cons]; split <;> simp <;> omega

set_option maxHeartbeats 4000000 in
set_option maxRecDepth 20000 in
theorem dmap_any {w : World} {A : AF} {n B : Nat} {m : Al} (h : AlAt w A n B m) (hB1 : 1 ≤ B) (hB : B ≤ 1000) (wd : Int) (hf : ∀ b : Nat, (hdGet m.bm.list (b : Int)).fine) :
    Calls Tryz.prog 22 #[valloc A, .int .i64 wd] w (Gives (strV (mapTo m.bm.list B wd (B - 1))) w) := by
  have HP : Hid (∀ w', Below w.heap.size w w' → Gives (strV (mapTo m.bm.list B wd (B - 1))) w (.returned (strV (mapTo m.bm.list B wd (B - 1)))) w') := Lib.hid (fun w' h => ⟨rfl, h⟩)
  generalize Gives (strV (mapTo m.bm.list B wd (B - 1))) w = Post at *
  have HA := Lib.hid h
  have HF := Lib.hid hf
  have HB0 := Lib.hid (below_alloc w (.cells #[.pointer none, .slice none 0 0] 155))
  have HD0 := Lib.hid (bld_fresh w)
  clear h hf
  go_enter Tryz.func22, Tryz.ntmps22
  go_upto_region 2 with fail
  generalize w.alloc _ = w0 at *
  obtain ⟨q, hq⟩ : ∃ q, q = w.heap.size := ⟨_, rfl⟩
  rw [← hq] at HB0 HD0 ⊢
  have HQ := Lib.hid hq
  clear hq
  go_wp2_with fail
  go_loopw [6] (fun iv wr => ∃ b : Nat, 1 ≤ b ∧ b ≤ B ∧ iv = .int .i64 (b : Int) ∧ Hid (Bld q q (mapTo m.bm.list B wd (b - 1)) wr) ∧ Hid (Below q w wr)) (fun iv _ => B - (intOf iv).toNat)
  case atStart => exact ⟨1, Nat.le_refl _, hB1, rfl, HD0, HB0⟩
  case round =>
    clear HB0 HD0
    obtain ⟨b, hb1, hbB, rfl, HD, HBw⟩ := hrel
    have HAr := Lib.hid (HA.out.below (by rw [← HQ.out]; exact HBw.out))
    have c0 := HAr.out.c0
    have d0 := HAr.out.man.c0
    have HLen := Lib.hid (mapTo_len m.bm.list B wd (b - 1))
    have HStep : Hid (mapTo m.bm.list B wd b = mapTo m.bm.list B wd (b - 1) ++ (signB (hdGet m.bm.list (b : Int)) :: (if nlB wd b B then [10] else []))) := Lib.hid (by obtain ⟨c, rfl⟩ : ∃ c, b = c + 1 := ⟨b - 1, by omega⟩; rfl)
    have HQs : Hid (q ≤ wr.heap.size) := Lib.hid (by rw [HQ.out]; exact HBw.out.size)
    by_cases hlt : b < B
    · go_wp2_with fail
      refine (tlen_any HAr.out.man.tab).mono ?_
      rintro e w1 ⟨rfl, rfl⟩
      go_wp2_with fail
      refine (dsign_any HAr.out hB (b : Int) (HF.out b)).mono ?_
      rintro e w1 ⟨rfl, hb1⟩
      have HB1 := Lib.hid (HBw.out.trans (hb1.mono HQs.out))
      have HD1 := Lib.hid (bld_keep HD.out hb1)
      have HA1 := Lib.hid (HAr.out.below hb1)
      have HQ1 : Hid (q ≤ w1.heap.size) := Lib.hid (Nat.le_trans HQs.out hb1.size)
      clear hb1
      obtain ⟨T2, hT2⟩ : ∃ T2, T2 = mapTo m.bm.list B wd b := ⟨_, rfl⟩
      rw [← hT2] at HStep
      have HTe := Lib.hid hT2
      clear hT2
      generalize mapTo m.bm.list B wd (b - 1) = T at *
      generalize signB (hdGet m.bm.list (b : Int)) = s at *
      go_wp2_with fail
      refine (bbyte_any q q T s _ HD1.out (by have := HLen.out; omega) HQ1.out).mono ?_
      rintro e w2 ⟨rfl, hd2, hb2⟩
      have HB2 := Lib.hid (HB1.out.trans hb2)
      have HD2 := Lib.hid hd2
      have HA2 := Lib.hid (HA.out.below (by rw [← HQ.out]; exact HB2.out))
      have HQ2 : Hid (q ≤ w2.heap.size) := Lib.hid (by rw [HQ.out]; exact HB2.out.size)
      have c2 := HA2.out.c0
      have d2 := HA2.out.man.c0
      clear hd2 hb2 c0 d0 HA1 HD1 HB1 HQ1
      by_cases hw : 0 < wd
      · cases hm : ((b : Int) % wd == 0) with
        | true =>
          by_cases hl : (b : Int) < (B : Int) - 1
          · have HT2 : Hid (T2 = (T ++ [s]) ++ [10]) := Lib.hid (by rw [HStep.out, if_pos ⟨hw, by simpa using hm, hl⟩]; simp)
            clear HStep
            go_wp2_with fail
            refine (tlen_any HA2.out.man.tab).mono ?_
            rintro e w3 ⟨rfl, rfl⟩
            go_wp2_with fail
            refine (bbyte_any q q (T ++ [s]) 10 _ HD2.out (by have := HLen.out; simp; omega) HQ2.out).mono ?_
            rintro e w4 ⟨rfl, hd4, hb4⟩
            have HB4 := Lib.hid (HB2.out.trans hb4)
            have HD4 : Hid (Bld q q T2 w4) := Lib.hid (by rw [HT2.out]; exact hd4)
            clear hd4 hb4
            go_wp2_with fail
            go_roundw
            case rel => exact ⟨b + 1, by omega, by omega, vint (by omega), by rw [Nat.add_sub_cancel, ← HTe.out]; exact HD4, HB4⟩
            case measure => simp [intOf]; omega
          · have HT2 : Hid (Bld q q T2 w2) := Lib.hid (by rw [HStep.out, if_neg (fun h => hl h.2.2)]; exact HD2.out)
            clear HStep
            have hl' : (B : Int) - 1 ≤ (b : Int) := by omega
            go_wp2_with fail
            refine (tlen_any HA2.out.man.tab).mono ?_
            rintro e w3 ⟨rfl, rfl⟩
            go_wp2_with fail
            go_roundw
            case rel => exact ⟨b + 1, by omega, by omega, vint (by omega), by rw [Nat.add_sub_cancel, ← HTe.out]; exact HT2, HB2⟩
            case measure => simp [intOf]; omega
        | false =>
          have HT2 : Hid (Bld q q T2 w2) := Lib.hid (by rw [HStep.out, if_neg (fun h => by have := h.2.1; rw [this] at hm; cases hm)]; exact HD2.out)
          clear HStep
          go_wp2_with fail
          go_roundw
          case rel => exact ⟨b + 1, by omega, by omega, vint (by omega), by rw [Nat.add_sub_cancel, ← HTe.out]; exact HT2, HB2⟩
          case measure => simp [intOf]; omega
      · have HT2 : Hid (Bld q q T2 w2) := Lib.hid (by rw [HStep.out, if_neg (fun h => hw h.1)]; exact HD2.out)
        clear HStep
        have hw' : wd ≤ 0 := by omega
        go_wp2_with fail
        go_roundw
        case rel => exact ⟨b + 1, by omega, by omega, vint (by omega), by rw [Nat.add_sub_cancel, ← HTe.out]; exact HT2, HB2⟩
        case measure => simp [intOf]; omega
    · obtain rfl : b = B := by omega
      have hlt' : decide (b < b) = false := by simp
      clear HStep HLen
      generalize mapTo m.bm.list b wd (b - 1) = T at *
      go_wp2_with fail
      refine (tlen_any HAr.out.man.tab).mono ?_
      rintro e w1 ⟨rfl, rfl⟩
      go_wp2_with fail
      refine (bstring_any q q T _ HD.out HQs.out).mono ?_
      rintro e w4 ⟨rfl, hb4⟩
      have HB4 := Lib.hid (HBw.out.trans hb4)
      clear hb4
      go_wp2_with fail
      exact HP.out _ (by rw [← HQ.out]; exact HB4.out)

end Go.Proofs.YtfedgcdkagngnaaGreat
