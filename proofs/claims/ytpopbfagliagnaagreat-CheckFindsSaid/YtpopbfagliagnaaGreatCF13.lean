/- Parts of the proof, one behind the other: Ca, Pg, Cb, Cd, Cl, Db, Dc, Dd, De. -/
import Derived.Test.YtpopbfagliagnaaGreatCF12
set_option linter.unusedVariables false
namespace Go.Proofs.YtpopbfagliagnaaGreat
open Go.RowKit Go.Maps
theorem rep_result3 {P : Program} {fn : Func} {p u z : Tmp} {ty : TypeId} (h : fn.results = #[.cell p ty, .tmp u, .tmp z]) (tmps : Array Value) (w : World) (g : Nat) (t : TypeId) (cs : Array Value) (fr : Nat × Nat) (d : TypeDesc)
  (hp : tmps.getD p undef = .pointer (some ⟨g, 0, none⟩)) (hg : w.heap[g]? = some (.cells cs t fr))
  (hu : P.underlying ty = some d) (hd : (match d with | .struct _ | .array _ _ => true | _ => false) = true) (hi : (P.info? ty).map (·.size) = some cs.size) :
  (results fn tmps).run P w = .ok (.tuple #[.agg cs, tmps.getD u undef, tmps.getD z undef]) w := by
 have hp' : tmps[p]?.getD undef = .pointer (some ⟨g, 0, none⟩) := by simpa using hp
 simp [results, h, hp', asAddr, run_loadVar_row w g t ty cs fr d hg hu hd hi]
theorem aggRep : Agg Tryz.prog 157 #[.int .i64 0, .int .i64 0, .int .i64 0, .int .i64 0, .int .i64 0, .int .i64 0, .int .i64 0] := ⟨⟨_, Tryz.underlying157, rfl⟩, by kernel_rfl⟩
def zeroRep : Rep := ⟨0, 0, 0, 0, 0, 0, 0⟩
theorem run_isfree {B : Nat} {bm : Bm} (h : BmOk B bm) {s k i : Nat} (hm : (s, k) ∈ runsOf bm.free) (hi : i < k) : 1 ≤ s + i ∧ s + i < B ∧ (bm.list.getD (s + i) default).k = 0 := by
 have hr := ((runsOf_is bm.free).mem s k).1 hm
 exact (h.free (s + i)).1 (hr.2.1 (s + i) (by omega) (by omega))
def WholeIs (m : Al) (B : Nat) (w : World) : Ending → World → Prop := fun e w' => e = .returned (.tuple #[.agg (repTo m (B - 1)).cs.toArray, .int .i64 0, .int .i64 0]) ∧ Below w.heap.size w w'
set_option maxHeartbeats 8000000 in
set_option maxRecDepth 100000 in
theorem cwhole_any {w : World} {A : AF} {n B : Nat} {m : Al} (h : AlAt w A n B m) (hok : AlOk B m) (hlg : LgOk m) (hsn : Snd m.bm.list) (hB1 : 2 ≤ B) (hB : B ≤ 100) :
  Calls Tryz.prog 78 #[valloc A] w (WholeIs m B w) := by
 have HP : Hid (∀ w' (R : Rep), R = repTo m (B - 1) → Below w.heap.size w w' → WholeIs m B w (.returned (.tuple #[.agg R.cs.toArray, .int .i64 0, .int .i64 0])) w') := LH (fun w' R h1 h2 => by subst h1; exact ⟨rfl, h2⟩)
 generalize WholeIs m B w = Post at *
 have HA := LH h
 have HUp := LH (hok.upto.mono (show 512 * B ≤ 900000 by omega))
 have HM0 := LH (Mem.one w zeroRep.cs.toArray 157)
 have c0' := (h.below HM0.out.below).c0
 clear h
 go_enter Tryz.func78, Tryz.ntmps78
 go_upto_region 1 with fail
 rw [show (#[.int .i64 0, .int .i64 0, .int .i64 0, .int .i64 0, .int .i64 0, .int .i64 0, .int .i64 0] : Array Value) = zeroRep.cs.toArray from rfl]
 obtain ⟨q2, hq2⟩ : ∃ q, q = w.heap.size := ⟨_, rfl⟩
 have HQ2 := LH hq2
 rw [← hq2] at HM0 ⊢
 generalize w.alloc _ = w0 at *
 have HA0 := LH (HA.out.below HM0.out.below)
 clear hq2
 go_wp2_with fail
 refine (bgeom_any HA0.out.man).mono ?_
 rintro e w1 ⟨rfl, hb1⟩
 have HM1 := LH ((HM0.out.later hb1).alloc #[.int .i64 (B : Int)] 44)
 have HA1 := LH ((HA0.out.below hb1).below (below_alloc w1 (.cells #[.int .i64 (B : Int)] 44)))
 clear hb1 c0'
 go_upto_region 2 with fail
 obtain ⟨q5, hq5⟩ : ∃ q, q = w1.heap.size := ⟨_, rfl⟩
 rw [← hq5] at HM1 ⊢
 generalize w1.alloc _ = w2 at *
 clear hq5
 have e5 := HM1.out.cell 1 0 rfl rfl
 have r5 := fun x => later_cell e5 x
 refine wp_region_seg (C := fun w' => ∃ x : Later (w2), w' = x.val) [.fl [0, 2], .sq [1] true, .sq [3, 4] false, .fl [5, 6, 7, 8, 9], .sq [10] false] (by kernel_rfl) (by kernel_rfl) (by intro c a d v w h; cases d <;> exact h) ?_
 simp only [segs, picks, List.getElem?_cons_succ, List.getElem?_cons_zero]
 have hC1 := later_drew (w2)
 refine wpSeg_fl hC1 ?_
 repeat (first | go_big_quiet_step (fail) | quiet_step (fail))
 refine wpQuiet_nil ?_
 refine wpSeg_sq (fun K hK => ?_)
 go_wp2_with fail
 refine (adev_any (HA1.out.below (later_below hC1))).mono ?_
 rintro e w3 ⟨rfl, rfl⟩
 go_wp2_with fail
 refine hK _ _ (fun _ => hC1) ?_
 clear hK K
 refine wpSeg_sq (fun K hK => ?_)
 go_wp2_with fail
 refine (cheaders_heap hok.bm hsn (HA1.out.below (later_below hC1)).man.dev (by omega) (by omega)).mono ?_
 rintro e w4 ⟨hb4, g, gc, rfl, hg, hgc, hr4⟩
 have hC2 := later_step hC1 hb4
 have HB4 := LH (later_below hC2)
 have HR4 := LH hr4
 have HG := LH hg
 clear hb4 hr4 hg r5 e5
 go_wp2_with fail
 refine hK _ _ (fun h => nomatch h) ?_
 clear hK K
 refine wpSeg_fl hC2 ?_
 repeat (first | go_big_quiet_step (fail) | quiet_step (fail))
 refine wpQuiet_nil ?_
 refine wpSeg_last ?_
 go_wp2_with fail
 clear hC1 hC2
 have HA4 := LH (HA1.out.below HB4.out)
 have HM4 := LH (HM1.out.later HB4.out)
 clear HB4 HM1 HM0 HA0 HA1
 go_wp2_with fail
 refine (cfree_any HA4.out hok (by omega) (by omega) HUp.out).mono ?_
 rintro e w5 ⟨mp, nn, M, rfl, hmp, hV, hI, hb5⟩
 have HA5 := LH ((HA4.out.below hb5).below (below_alloc w5 (.cells zeroRep.cs.toArray 157)))
 have HM5 := LH ((HM4.out.later hb5).alloc zeroRep.cs.toArray 157)
 have HRp0 : Hid (RepAt (w5.alloc (.cells zeroRep.cs.toArray 157)) w5.heap.size (repTo m 0)) := LH (heap_alloc_new _ _)
 have HG5 : Hid (RowAt (w5.alloc (.cells zeroRep.cs.toArray 157)) g 103 (hdCs (hds (devWord m.bm.dev) B))) := LH (HR4.out.keep (((hb5.trans ((below_alloc w5 (.cells zeroRep.cs.toArray 157)).mono hb5.size))).block g HR4.out.lt))
 have HV5 : Hid (VMap Tryz.prog 3 (w5.alloc (.cells zeroRep.cs.toArray 157)) mp nn M) := LH (hV.block ((below_alloc w5 (.cells zeroRep.cs.toArray 157)).block mp hV.lt))
 have HLt5 : Hid (g < w5.heap.size ∧ mp < w5.heap.size ∧ w.heap.size ≤ w5.heap.size ∧ q2 < w5.heap.size) := LH ⟨Nat.lt_of_lt_of_le HR4.out.lt hb5.size, hV.lt, (HM4.out.later hb5).below.size, (HM4.out.later hb5).glt 0 rfl⟩
 have hLl : (hds (devWord m.bm.dev) B).length = B := hds_length _ _
 have hLa := hds_all hok.bm
 clear hb5 hV hmp HA4 HM4 HR4 HG
 go_upto_region 9 with fail
 rw [show (#[.int .i64 0, .int .i64 0, .int .i64 0, .int .i64 0, .int .i64 0, .int .i64 0, .int .i64 0] : Array Value) = zeroRep.cs.toArray from rfl]
 obtain ⟨q, hq⟩ : ∃ q, q = w5.heap.size := ⟨_, rfl⟩
 rw [← hq] at HM5 HRp0 ⊢
 have HQ : Hid (g ≠ q ∧ mp ≠ q ∧ q2 ≠ q ∧ w.heap.size ≤ q) := LH ⟨by have := HLt5.out; omega, by have := HLt5.out; omega, by have := HLt5.out; omega, by have := HLt5.out; omega⟩
 have HrA : Hid (q ∉ A.list) := LH (fun hm => by have := HA.out.mem q hm; have := HQ.out; omega)
 generalize w5.alloc _ = w6 at *
 clear hq HLt5
 have HOb := LH (rep_objects hok hlg (show 1 ≤ B by omega))
 have HFr := LH (rep_free hok hlg (show 1 ≤ B by omega))
 have HOkR := LH (fun j (h : j < B) => (repTo_ok hok j h).mono (show 400000 * j ≤ 100000000 by omega))
 have HOkA := LH hok
 generalize hds (devWord m.bm.dev) B = L at *
 go_wp2_with fail
 go_loopw [11] (fun iv wr => ∃ j : Nat, j + 1 ≤ B ∧ iv = .int .i64 ((j + 1 : Nat) : Int) ∧ Hid (RepAt wr q (repTo m j)) ∧ Hid (Touch [q] w6 wr)) (fun iv _ => B - (intOf iv).toNat)
 case atStart => exact ⟨0, by omega, rfl, HRp0, LH (Touch.refl _ _)⟩
 case round =>
  obtain ⟨j, hj, rfl, HRp, HT⟩ := hrel
  by_cases hlt : j + 1 < B
  ·have hlt' : ((j + 1 : Nat) : Int) < (B : Int) := by omega
   have HAr := LH (HA5.out.keep (fun k hk => HT.out.block k (HA5.out.mem k hk) (by simp; intro e; exact HrA.out (e ▸ hk))))
   have HVr := LH (HV5.out.block (HT.out.block mp HV5.out.lt (by simp; exact HQ.out.2.1)))
   have HCr := LH (HG5.out.keep (HT.out.block g HG5.out.lt (by simp; exact HQ.out.1))).cells
   have HOne := LH (rone_any HAr.out hok (by omega) hlg HVr.out hI HRp.out (HOkR.out j (by omega)) HrA.out (lc := gc) HCr.out hLl hLa (show 1 ≤ j + 1 by omega) hlt)
   clear HAr HVr HCr
   go_wp2_with fail
   refine HOne.out.mono ?_
   rintro e w7 ⟨rfl, hr7, ht7⟩
   have HR7 : Hid (RepAt w7 q (repTo m (j + 1))) := LH hr7
   have HT7 := LH (HT.out.trans ht7)
   clear hr7 ht7 HOne
   go_wp2_with fail
   exact ⟨⟨j + 1, by omega, vint (by omega), HR7, HT7⟩, by simp [intOf]; omega⟩
  ·obtain rfl : B = j + 1 := by omega
   have hlt' : decide (((j + 1 : Nat) : Int) < ((j + 1 : Nat) : Int)) = false := by simp
   have HOb' : Hid ((repTo m j).ob = (onesL m.used).length) := LH (by simpa using HOb.out)
   have HFr' : Hid ((repTo m j).fr = sumOf (runsOf m.bm.free)) := LH (by simpa using HFr.out)
   have HP' : Hid (∀ w', Below w.heap.size w w' → Post (.returned (.tuple #[.agg (repTo m j).cs.toArray, .int .i64 0, .int .i64 0])) w') := LH (fun w' h => HP.out w' _ (by simp) h)
   have HAr := LH (HA5.out.keep (fun k hk => HT.out.block k (HA5.out.mem k hk) (by simp; intro e; exact HrA.out (e ▸ hk))))
   have HGr := LH (HG5.out.keep (HT.out.block g HG5.out.lt (by simp; exact HQ.out.1)))
   have HMr := LH (HM5.out.upd 2 (y := ⟨q, 157, (repTo m j).cs, true⟩) rfl rfl HT.out ⟨_, HRp.out, [], by simp, fun _ => rfl⟩)
   have HSm : Hid (sumOf (runsOf m.bm.free) ≤ 200) := LH (Nat.le_trans (sum_le hok.bm) (by omega))
   have HRn := LH (fun s k y (hm : (s, k) ∈ runsOf m.bm.free) (hy : y < k) => run_isfree hok.bm hm hy)
   have hl9 : (runsOf m.bm.free).length ≤ 200 := by
    rw [← spans_runs hok.bm]
    exact Nat.le_trans (spanL_len (freeAt m.bm.list) m.bm.list.length) (by rw [hok.bm.lenL]; omega)
   generalize repTo m j = R at *
   obtain ⟨U, hU⟩ : ∃ U, U = (onesL m.used).length := ⟨_, rfl⟩
   rw [← hU] at HOb'
   have e3 : wr.cell? ⟨q, 3, none⟩ = some (.int .i64 (U : Int)) := by rw [← HOb'.out]; exact HRp.out.cell rfl
   have r3 := fun x => later_cell e3 x
   have HU := LH hU
   clear hlt HT HRp HA5 HG5 HV5 HM5 hU
   go_upto_region 15 with fail
   refine wp_region_seg (C := fun w' => ∃ x : Later (wr), w' = x.val) [.fl [0, 1, 2], .sq [3] true, .fl [4], .sq [5] false] (by kernel_rfl) (by kernel_rfl) (by intro c a d v w h; cases d <;> exact h) ?_
   simp only [segs, picks, List.getElem?_cons_succ, List.getElem?_cons_zero]
   have hC1 := later_drew (wr)
   refine wpSeg_fl hC1 ?_
   repeat (first | go_big_quiet_step (fail) | quiet_step (fail))
   refine wpQuiet_nil ?_
   refine wpSeg_sq (fun K hK => ?_)
   go_wp2_with fail
   refine (aobjects_any (HAr.out.below (later_below hC1))).mono ?_
   intro e w8 hp
   obtain ⟨au, cu, rfl, hcu, hb8, _⟩ := hp.own
   rw [← HU.out]
   have hC2 := later_step hC1 hb8
   have HB8 := LH (later_below hC2)
   clear hp hcu hb8 r3 e3
   go_wp2_with fail
   refine hK _ _ (fun _ => hC2) ?_
   clear hK K
   refine wpSeg_fl hC2 ?_
   repeat (first | go_big_quiet_step (fail) | quiet_step (fail))
   refine wpQuiet_nil ?_
   have HA8 := LH (HAr.out.below HB8.out)
   have HG8 := LH (HGr.out.keep (HB8.out.block g HGr.out.lt))
   have HM8 := LH (HMr.out.later HB8.out)
   have c0 := HA8.out.c0
   clear HAr HGr HMr HB8 hC1 hC2
   refine wpSeg_last ?_
   go_wp2_with fail
   refine (bruns_any HA8.out.man (by omega)).mono ?_
   rintro e w9 ⟨a1, c1, rfl, hc1, hb9⟩
   have HC := LH hc1
   have HG9 := LH (HG8.out.keep (hb9.block g HG8.out.lt))
   have HM9 := LH (HM8.out.later hb9)
   clear hc1 hb9 c0 HA8 HG8 HM8
   generalize runsOf m.bm.free = Rs at *
   obtain ⟨l, hl⟩ : ∃ l, l = Rs.length := ⟨_, rfl⟩
   rw [← hl] at hl9 ⊢
   have HL := LH hl
   clear hl
   have HLe : Hid (∀ i, sumOf (Rs.take i) ≤ 200) := LH (fun i => by
    refine Nat.le_trans ?_ HSm.out
    conv => rhs; rw [← List.take_append_drop i Rs]
    unfold sumOf
    rw [List.map_append, List.sum_append]
    omega)
   have HEl : Hid (∀ s k, (s, k) ∈ Rs → k ≤ 200) := LH (fun s k hm => Nat.le_trans (sum_memF hm) HSm.out)
   go_wp2_with fail
   go_loopw [14, 79] (fun nv iv wq => ∃ i x : Nat, i ≤ l ∧ x ≤ 200 ∧ nv = .int .i64 (x : Int) ∧ iv = .int .i64 (i : Int) ∧ Hid (x = sumOf (Rs.take i)) ∧ Hid (Below w9.heap.size w9 wq)) (fun _ iv _ => l - (intOf iv).toNat)
   case atStart => exact ⟨0, 0, Nat.zero_le _, Nat.zero_le _, rfl, rfl, LH rfl, LH (Below.refl _ _)⟩
   case round =>
    obtain ⟨i, x, hi, hx, rfl, rfl, HX, HB⟩ := hrel
    by_cases hlt : i < l
    ·have hlt' : (i : Int) < (l : Int) := by omega
     obtain ⟨⟨s, k⟩, hg⟩ : ∃ o, Rs[i]? = some o := ⟨_, List.getElem?_eq_getElem (by rw [← HL.out]; exact hlt)⟩
     have hgd : Rs.getD i (0, 0) = (s, k) := by rw [List.getD_eq_getElem?_getD, hg]; rfl
     have hmm := List.mem_of_getElem? hg
     have hk := HEl.out s k hmm
     have HRi := LH (fun y (hy : y < k) => HRn.out s k y hmm hy)
     have HNx : Hid (sumOf (Rs.take (i + 1)) = x + k) := LH (by
      have h1 := (List.getElem?_eq_some_iff.1 hg).1
      rw [List.take_succ_eq_append_getElem h1, (List.getElem?_eq_some_iff.1 hg).2, HX.out]
      unfold sumOf
      rw [List.map_append, List.sum_append]
      simp)
     have hxk : x + k ≤ 200 := by rw [← HNx.out]; exact HLe.out _
     obtain ⟨b1, o1, rfl, e0, e1⟩ := sp_cells (HC.out.below HB.out (Nat.le_refl _)) (by rw [← HL.out]; exact hlt) hgd
     have HMa := LH (Mem.one wr #[.int .i64 (s : Int), .int .i64 (k : Int)] 286)
     clear hg hgd hmm
     go_upto_region 21 with fail
     generalize wr.alloc _ = wa at *
     obtain ⟨qs, hqs⟩ : ∃ qs, qs = wr.heap.size := ⟨_, rfl⟩
     rw [← hqs] at HMa ⊢
     have d0 := HMa.out.cell 0 0 rfl rfl
     have d1 := HMa.out.cell 0 1 rfl rfl
     have HSp : Hid (qs < wa.heap.size) := LH (HMa.out.glt 0 rfl)
     have HBa := LH (HB.out.trans (HMa.out.below.mono HB.out.size))
     clear e0 e1 HB HMa hqs
     go_wp2_with fail
     go_loopw [89] (fun yv wq => ∃ y : Nat, y ≤ k ∧ yv = .int .i64 (y : Int) ∧ Hid (Below wa.heap.size wa wq)) (fun yv _ => k - (intOf yv).toNat)
     case atStart => exact ⟨0, Nat.zero_le _, rfl, LH (Below.refl _ _)⟩
     case round =>
      obtain ⟨y, hy, rfl, HBy⟩ := hrel
      by_cases hly : y < k
      ·have hly' : (y : Int) < (k : Int) := by omega
       obtain ⟨f1, f2, f3⟩ := HRi.out y hly
       have HGy := LH ((HG9.out.keep (HBa.out.block g HG9.out.lt)).keep (HBy.out.block g (Nat.lt_of_lt_of_le HG9.out.lt HBa.out.size)))
       obtain ⟨hh, hhe⟩ : ∃ hh, hh = L.getD (s + y) default := ⟨_, rfl⟩
       have hh0 : hh.k = 0 := by rw [hhe, hLa _ f1]; exact f3
       obtain ⟨hk1, hc1, hl1⟩ := hh
       have hk0 : hk1 = 0 := hh0
       subst hk0
       obtain ⟨b2, o2, he2, g0, _, _⟩ := hd_cells HGy.out.cells (j := s + y) (by rw [hLl]; exact f2) hhe.symm
       injection he2 with he2
       injection he2 with he2 he3 _
       subst he2 he3
       rw [Nat.zero_add] at g0
       obtain ⟨z, hz⟩ : ∃ z, z = s + y := ⟨_, rfl⟩
       rw [← hz] at g0 f2
       have hzI : (s : Int) + (y : Int) = (z : Int) := by omega
       have hzB : (z : Int) < (j : Int) + 1 := by omega
       have c0 : wr.cell? ⟨qs, 0, none⟩ = some (.int .i64 (s : Int)) := by rw [HBy.out.cell (p := ⟨qs, 0, none⟩) HSp.out]; exact d0
       clear hhe hh0 hz
       go_wp2_with fail
       refine ⟨⟨y + 1, by omega, vint (by omega), HBy⟩, ?_⟩
       simp [intOf]; omega
      ·obtain rfl : y = k := by omega
       have hly' : decide ((y : Int) < (y : Int)) = false := by simp
       have HBz := LH (HBa.out.trans (HBy.out.mono HBa.out.size))
       go_wp2_with fail
       refine ⟨⟨i + 1, x + y, by omega, hxk, vint (by omega), vint (by omega), LH HNx.out.symm, HBz⟩, ?_⟩
       simp [intOf]; omega
    ·obtain rfl : i = l := by omega
     have hlt2 : decide ((i : Int) < (i : Int)) = false := by simp
     have hxF : x = R.fr := by rw [HX.out, HL.out, List.take_length, HFr'.out]
     have HMe := LH (HM9.out.later HB.out)
     have e0 : wr.cell? ⟨q, 0, none⟩ = some (.int .i64 (x : Int)) := by rw [hxF]; exact HMe.out.cell 2 0 rfl rfl
     clear hxF
     go_wp2_with (first
      | (refine wpList_load_mem aggRep HMe.out 2 rfl rfl rfl rfl rfl ?_)
      | (refine wpList_store_mem aggRep HMe.out 0 rfl rfl rfl rfl rfl rfl rfl rfl ?_; intro w6 h6 ht6; have H6 := LH h6; clear h6 ht6))
     refine bodyPost_ret (rep_result3 (p := 2) (u := 3) (z := 4) rfl _ _ _ _ _ _ _ rfl (H6.out.exact 0 rfl) Tryz.underlying157 rfl (by kernel_rfl)) rfl ?_
     exact HP'.out _ H6.out.below
structure Op28 where
 k : Int
 m : Int
 p : Int
 d : Int
def Op28.cs (o : Op28) : List Value := [.int .i64 o.k, .int .i64 o.m, .int .i64 o.p, .int .i64 o.d]
theorem Op28.len (o : Op28) : (Op28.cs o).length = 4 := rfl
theorem four28 (zs : List Int) (h : zs.length = 4) : (Op28.cs ⟨zs.getD 0 0, zs.getD 1 0, zs.getD 2 0, zs.getD 3 0⟩) = zs.map (Value.int .i64) := by
 obtain ⟨a, b, c, d, rfl⟩ : ∃ a b c d, zs = [a, b, c, d] := by
  match zs, h with
  | [a, b, c, d], _ => exact ⟨a, b, c, d, rfl⟩
 rfl
section
variable {w wr w' : World} {Q : List Nat} {A : AF} {n n' B N N' : Nat} {m m' : Al}
def HqTr (w wr : World) (Q : List Nat) (A : AF) (n B N : Nat) : Ending → World → Prop := fun e w' => ∃ (m' : Al) (R : List Nat) (er : Bool),
 e = .returned (.tuple #[.bool er, .int .i64 0]) ∧ Hq w w' Q (A.re R) (n + 5) B (N + 500000) m' ∧ Off Q wr w'
theorem Hq.trim (h : Hq w wr Q A n B N m) (hB : B ≤ 200) (hn : n < 900000000000) (hN : N ≤ 900000000) (b : Int) :
  Calls Tryz.prog 174 #[valloc A, .int .i64 b] wr (HqTr w wr Q A n B N) := by
 refine (atrim_any h.at_ h.ok hB hn hN h.steps b).mono ?_
 rintro e w' (⟨hc, rfl, hg⟩ | ⟨bn, m', hb, _, _, hc, rfl, ht, ho, hg⟩)
 ·obtain ⟨R, hq, hof⟩ := h.go hg h.ok h.lg h.snd (h.steps.mono (Nat.le_add_right N 500000))
  exact ⟨m, R, false, rfl, hq, hof⟩
 ·obtain ⟨R, hq, hof⟩ := h.go hg ht.ok (h.lg.trim ht) (ht.snd h.snd) ho
  exact ⟨m', R, true, rfl, hq, hof⟩
end
def Made28 (w : World) (B : Nat) : Ending → World → Prop := fun e w' => ∃ (A : AF) (n : Nat) (m : Al), e = .returned (.tuple #[vworld A (.slice none 0 0), .bool true]) ∧ Hq w w' [] A n B 31000000 m ∧ n ≤ 2000000
set_option maxHeartbeats 8000000 in
set_option maxRecDepth 100000 in
theorem played28_any (n8 : Int) (hn8 : 0 ≤ n8 ∧ n8 ≤ 255) (a : Option Addr) (mm cap : Nat) (s : List Op28) (hm : s.length = mm) (w : World) (hcs : Cells w a (recs Op28.cs s)) (hmm : mm ≤ maxLen) :
  ∃ B, 2 ≤ B ∧ B ≤ 8 ∧ Calls Tryz.prog 77 #[.int .u8 n8, .slice a mm cap] w (Made28 w B) := by
 unfold maxLen at hmm
 obtain ⟨b0, hb0, hb05⟩ : ∃ b0 : Nat, n8.tmod 7 = (b0 : Int) ∧ b0 ≤ 6 := by
  obtain ⟨k, rfl⟩ := Int.eq_ofNat_of_zero_le hn8.1
  refine ⟨k % 7, ?_, by omega⟩
  rw [Int.tmod_eq_emod_of_nonneg (by omega)]; rfl
 obtain ⟨B, hB⟩ : ∃ B, B = 2 + b0 := ⟨_, rfl⟩
 refine ⟨B, by omega, by omega, ?_⟩
 have hB2 : 2 ≤ B := by omega
 have hB8 : B ≤ 8 := by omega
 have hBI : (2 : Int) + (b0 : Int) = (B : Int) := by omega
 clear hB
 have HM := LH hm
 have HCS := LH hcs
 clear hm hcs
 have HP : Hid (∀ (A : AF) (n : Nat) (m : Al) w', Hq w w' [] A n B 31000000 m → n ≤ 2000000 → Made28 w B (.returned (.tuple #[vworld A (.slice none 0 0), .bool true])) w') := LH (fun A n m w' h1 h2 => ⟨A, n, m, rfl, h1, h2⟩)
 generalize Made28 w B = Post at *
 have HB0 := LH (below_alloc w (.cells zeroW 132))
 have HR0 : Hid (RowX (w.alloc (.cells zeroW 132)) ⟨w.heap.size, 132, zeroW.toList, true⟩) := LH ⟨_, heap_alloc_new _ _, [], by simp, by simp⟩
 obtain ⟨q, hq⟩ : ∃ q, q = w.heap.size := ⟨_, rfl⟩
 go_enter Tryz.func77, Tryz.ntmps77
 go_upto_region 1 with fail
 rw [show (#[.pointer none, .pointer none, .slice none 0 0] : Array Value) = zeroW from rfl]
 have HQ0 : Hid ((w.alloc (.cells zeroW 132)).heap.size = q + 1) := LH (by simp [hq])
 rw [← hq] at HR0 ⊢
 have HQ := LH hq
 generalize w.alloc _ = w0 at *
 clear hq
 go_wp2_with fail
 refine (begun20_any B hB2 (by omega) _).mono ?_
 rintro e w1 ⟨A, n, rfl, ha, hn, hA, hb⟩
 have hh := Hq.begun hB2 (by omega) ha hA HB0.out hb (Q := [q]) (by intro k hk; simp at hk; have := HQ0.out; omega)
 obtain ⟨p, hp⟩ : ∃ p, p = w1.heap.size := ⟨_, rfl⟩
 have HH : Hid (Hq w (w1.alloc (.cells #[valloc A, vdev A.X.F, .slice none 0 0] 132)) [q, p] A n B 201000 (al0 B)) := LH (hh.more (fun k hk => by
  simp only [List.mem_cons, List.not_mem_nil, or_false] at hk
  rcases hk with rfl | rfl
  ·exact .inl (by simp)
  ·exact .inr (by simp [hp])) (below_alloc _ _))
 have HR : Hid (MemR w.heap.size (w1.alloc (.cells #[valloc A, vdev A.X.F, .slice none 0 0] 132)) [⟨q, 132, zeroW.toList, true⟩, ⟨p, 132, [valloc A, vdev A.X.F, .slice none 0 0], true⟩]) := LH (by
  have h0 : MemR w.heap.size w1 [⟨q, 132, zeroW.toList, true⟩] := ⟨by
   intro x hx
   simp at hx; subst hx
   exact HR0.out.keep (hb.block q (by have := HQ0.out; omega)), by intro x hx; simp at hx; subst hx; have := HQ.out; exact Nat.le_of_eq this.symm, by simp, hh.below.size⟩
  have := h0.alloc #[valloc A, vdev A.X.F, .slice none 0 0] 132
  rw [← hp] at this
  exact this)
 have HN := LH hn
 have HQb : Hid (∀ k ∈ [q, p], w.heap.size ≤ k) := LH (by intro k hk; simp at hk; rcases hk with rfl | rfl; exact Nat.le_of_eq HQ.out.symm; rw [hp]; exact hh.below.size)
 clear ha hA hb hh hn HR0 HB0
 go_upto_region 2 with fail
 rw [← hp]
 generalize w1.alloc _ = w2 at *
 clear hp HQ0 hb0 hb05 hBI
 go_wp2_with fail
 go_loopw [8] (fun i wr => ∃ (k : Nat) (R : List Nat) (m : Al), k ≤ mm ∧ k ≤ 50 ∧ i = .int .i64 (k : Int) ∧ Hid (Hq w wr [q, p] (A.re R) (n + 6 * k) B (201000 + 600000 * k) m) ∧ Hid (MemR w.heap.size wr [⟨q, 132, zeroW.toList, true⟩, ⟨p, 132, [valloc A, vdev A.X.F, .slice none 0 0], true⟩])) (fun i _ => 50 - (intOf i).toNat)
 case atStart => exact ⟨0, A.R, _, Nat.zero_le _, Nat.zero_le _, rfl, HH, HR⟩
 case round =>
  clear HH HR
  obtain ⟨k, R, m, hkm, hk50, rfl, HH, HMr⟩ := hrel
  have hN := HN.out
  by_cases hlt : k < mm ∧ k < 50
  ·obtain ⟨h1, h2⟩ := hlt
   have h1' : (k : Int) < (mm : Int) := by omega
   have h2' : (k : Int) < 50 := by omega
   have hkl : k < s.length := by rw [HM.out]; exact h1
   obtain ⟨b1, o1, rfl, hbl, hcell⟩ := recs_cells Op28.len (by decide) (⟨0, 0, 0, 0⟩ : Op28) (HCS.out.below HH.out.below (Nat.le_refl _)) hkl
   generalize s.getD k ⟨0, 0, 0, 0⟩ = o at *
   obtain ⟨ok, om, op, od⟩ := o
   have e0 : wr.cell? ⟨b1, o1 + k * 4, none⟩ = some (.int .i64 ok) := hcell 0 _ rfl
   have e1 : wr.cell? ⟨b1, o1 + k * 4 + 1, none⟩ = some (.int .i64 om) := hcell 1 _ rfl
   have e2 : wr.cell? ⟨b1, o1 + k * 4 + 2, none⟩ = some (.int .i64 op) := hcell 2 _ rfl
   have e3 : wr.cell? ⟨b1, o1 + k * 4 + 3, none⟩ = some (.int .i64 od) := hcell 3 _ rfl
   have HHa := LH (HH.out.later (below_alloc wr (.cells #[.int .i64 ok, .int .i64 om, .int .i64 op, .int .i64 od] 278)))
   have HMra := LH (HMr.out.later (below_alloc wr (.cells #[.int .i64 ok, .int .i64 om, .int .i64 op, .int .i64 od] 278)))
   have HMa := LH (Mem.one wr #[.int .i64 ok, .int .i64 om, .int .i64 op, .int .i64 od] 278)
   clear hcell hkl
   go_upto_region 6 with fail
   generalize wr.alloc _ = wa at *
   clear e0 e1 e2 e3
   have c0 := HMra.out.cell 1 0 rfl rfl
   go_upto_region 7 with fail
   refine (aobjects_any HHa.out.at_).mono ?_
   intro e w4 hp
   obtain ⟨au, cu, rfl, hcu, hb4, _⟩ := hp.own
   have HUl : Hid ((onesL m.used).length ≤ 4096) := LH (by
    rw [onesL_length]
    have h1 := count_le_len m.used
    have h2 := HH.out.ok.lenU
    omega)
   have HH4 := LH (HHa.out.later hb4)
   have HMr4 := LH (HMra.out.later hb4)
   have HM4 := LH (HMa.out.later hb4)
   have HCu := LH hcu
   obtain ⟨us, hus⟩ : ∃ us, us = onesL m.used := ⟨_, rfl⟩
   obtain ⟨ul, hul⟩ : ∃ ul, ul = us.length := ⟨_, rfl⟩
   rw [← hus, ← hul] at HUl
   rw [← hus] at HCu
   rw [← hus, ← hul]
   have HUs := LH hus
   have HUn := LH hul
   have hul9 := HUl.out
   clear hcu hb4 hp c0 hus hul HH HMr
   have d0 := HM4.out.cell 0 0 rfl rfl
   have d1 := HM4.out.cell 0 1 rfl rfl
   have d2 := HM4.out.cell 0 2 rfl rfl
   have d3 := HM4.out.cell 0 3 rfl rfl
   go_upto_region 8 with fail
   by_cases h0 : ok = 0
   ·subst h0
    obtain ⟨t1, ht1⟩ : ∃ t1, t1 = max op 0 := ⟨_, rfl⟩
    obtain ⟨t2, ht2⟩ : ∃ t2, t2 = min t1 63 := ⟨_, rfl⟩
    obtain ⟨t3, ht3⟩ : ∃ t3, t3 = max od 0 := ⟨_, rfl⟩
    obtain ⟨t4, ht4⟩ : ∃ t4, t4 = min t3 1500 := ⟨_, rfl⟩
    have HT1 := LH ht1.symm
    have HT2 := LH ht2.symm
    have HT3 := LH ht3.symm
    have HT4 := LH ht4.symm
    have HAl := LH (HH4.out.alloc hB2 (by omega) (by omega) (by omega) om t2 t4)
    have c0 := HMr4.out.cell 1 0 rfl rfl
    clear ht1 ht2 ht3 ht4
    go_wp2_with fail
    rw [HT1.out, HT2.out, HT3.out, HT4.out]
    refine HAl.out.mono ?_
    rintro e w5 ⟨m', R', ra, re, rfl, hh, hk, _, _⟩
    have HH5 : Hid (Hq w w5 [q, p] (A.re R') (n + 6 * (k + 1)) B (201000 + 600000 * (k + 1)) m') := LH (by rw [AF.re_re] at hh; exact hh.mono (by omega) (by omega))
    have HMr5 := LH (HMr4.out.off hk (by simp))
    clear hh hk d0 d1 d2 d3 c0 HAl
    go_wp2_with fail
    refine ⟨⟨k + 1, R', m', by omega, by omega, vint (by omega), HH5, HMr5⟩, ?_⟩
    simp [intOf]; omega
   have h0' : (ok == 0) = false := by simpa using h0
   have HStay : Hid (Hq w w4 [q, p] (A.re R) (n + 6 * (k + 1)) B (201000 + 600000 * (k + 1)) m) := LH (HH4.out.mono (by omega) (by omega))
   by_cases h1k : ok = 1
   case neg =>
    have h1k' : (ok == 1) = false := by simpa using h1k
    by_cases h2k : ok = 2
    case neg =>
     have h2k' : (ok == 2) = false := by simpa using h2k
     go_wp2_with fail
     refine ⟨⟨k + 1, R, m, by omega, by omega, vint (by omega), HStay, HMr4⟩, ?_⟩
     simp [intOf]; omega
    subst h2k
    have HTr := LH (HH4.out.trim (by omega) (by omega) (by omega) op)
    have c0 := HMr4.out.cell 1 0 rfl rfl
    go_wp2_with fail
    refine HTr.out.mono ?_
    rintro e w6 ⟨m', R', er, rfl, hh, hk⟩
    have HH6 : Hid (Hq w w6 [q, p] (A.re R') (n + 6 * (k + 1)) B (201000 + 600000 * (k + 1)) m') := LH (by rw [AF.re_re] at hh; exact hh.mono (by omega) (by omega))
    have HMr6 := LH (HMr4.out.off hk (by simp))
    clear hh hk HTr
    go_wp2_with fail
    refine ⟨⟨k + 1, R', m', by omega, by omega, vint (by omega), HH6, HMr6⟩, ?_⟩
    simp [intOf]; omega
   subst h1k
   by_cases hu0 : ul = 0
   ·have hu0' : decide ((0 : Int) < (ul : Int)) = false := by simp; omega
    go_wp2_with fail
    refine ⟨⟨k + 1, R, m, by omega, by omega, vint (by omega), HStay, HMr4⟩, ?_⟩
    simp [intOf]; omega
   have hu1 : (0 : Int) < (ul : Int) := by omega
   by_cases hp0 : 0 ≤ op
   case neg =>
    have hp0' : op < 0 := by omega
    go_wp2_with fail
    refine ⟨⟨k + 1, R, m, by omega, by omega, vint (by omega), HStay, HMr4⟩, ?_⟩
    simp [intOf]; omega
   obtain ⟨j, rfl⟩ := Int.eq_ofNat_of_zero_le hp0
   have hux0 : ((ul : Int) == 0) = false := by simpa using hu0
   have hjl : j % ul < ul := Nat.mod_lt _ (by omega)
   have hjm : (j : Int).tmod (ul : Int) = ((j % ul : Nat) : Int) := by rw [Int.tmod_eq_emod_of_nonneg (by omega)]; rfl
   obtain ⟨b2, o2, rfl, _, hcx⟩ := HCu.out.at (i := j % ul) (by rw [List.length_map, ← HUn.out]; exact hjl)
   have hcx := hcx (j % ul) (vi (us.getD (j % ul) 0)) (by rw [List.getElem?_map, List.getElem?_eq_getElem (by rw [← HUn.out]; exact hjl), List.getD_eq_getElem?_getD, List.getElem?_eq_getElem (by rw [← HUn.out]; exact hjl)]; rfl)
   generalize us.getD (j % ul) 0 = x at *
   have c0 := HMr4.out.cell 1 0 rfl rfl
   generalize j % ul = jm at *
   have r0 := fun x => later_cell c0 x
   have r1 := fun x => later_cell d1 x
   have r2 := fun x => later_cell d2 x
   have r3 := fun x => later_cell hcx x
   go_upto_region 12 with fail
   clear hcx
   refine wp_region_seg (C := fun w' => ∃ x : Later (w4), w' = x.val) [.fl [0, 1, 2, 3, 4, 5, 6, 7, 8, 9, 10, 11], .sq [12] false] (by kernel_rfl) (by kernel_rfl) (by intro c a d v w h; cases d <;> exact h) ?_
   simp only [segs, picks, List.getElem?_cons_succ, List.getElem?_cons_zero]
   have hC1 := later_drew (w4)
   refine wpSeg_fl hC1 ?_
   repeat (first | go_big_quiet_step (fail) | quiet_step (fail))
   refine wpQuiet_nil ?_
   have HH5 := LH (HH4.out.later (later_below hC1))
   have HMr5 := LH (HMr4.out.later (later_below hC1))
   clear r0 r1 r2 r3 c0 d0 d1 d2 d3
   generalize w4.drew = w5 at *
   refine wpSeg_last ?_
   go_wp2_with fail
   refine (HH5.out.free (by omega) (by omega) (by omega) om (x : Int)).mono ?_
   rintro e w6 ⟨m', R', er, rfl, hh, hk, _⟩
   have HH6 : Hid (Hq w w6 [q, p] (A.re R') (n + 6 * (k + 1)) B (201000 + 600000 * (k + 1)) m') := LH (by rw [AF.re_re] at hh; exact hh.mono (by omega) (by omega))
   have HMr6 := LH (HMr5.out.off hk (by simp))
   clear hh hk
   go_wp2_with fail
   refine ⟨⟨k + 1, R', m', by omega, by omega, vint (by omega), HH6, HMr6⟩, ?_⟩
   simp [intOf]; omega
  ·have hor : (k : Int) = (mm : Int) ∨ ((k : Int) < (mm : Int) ∧ (k : Int) = 50) := by omega
   have HEnd : Hid (∀ w6, Touch [q] wr w6 → Post (.returned (.tuple #[vworld A (.slice none 0 0), .bool true])) w6) := LH (fun w6 ht => HP.out (A.re R) (n + 6 * k) m w6 (((HH.out.own (ht.wide (by simp)) HQb.out).less (by simp)).mono (Nat.le_refl _) (by omega)) (by have := HN.out; omega))
   clear hlt
   rcases hor with h1 | ⟨h1, h2⟩
   ·obtain rfl : k = mm := by omega
    have hlt' : decide ((k : Int) < (k : Int)) = false := by simp
    clear h1
    go_wp2_with (first
     | (refine wpList_load_r aggW HMr.out 1 rfl rfl rfl rfl rfl ?_)
     | (refine wpList_store_r aggW HMr.out 0 rfl rfl rfl rfl rfl rfl rfl rfl ?_; intro w6 h6 ht6; have H6 := LH h6; have HT6 := LH ht6; clear h6 ht6))
    refine bodyPost_ret (results_cell_row2 (p := 4) (u := 5) rfl _ _ _ _ _ _ _ rfl (H6.out.exact 0 rfl) Tryz.underlying132 rfl (by kernel_rfl)) rfl ?_
    exact HEnd.out _ HT6.out
   ·obtain rfl : k = 50 := by omega
    clear h2
    go_wp2_with (first
     | (refine wpList_load_r aggW HMr.out 1 rfl rfl rfl rfl rfl ?_)
     | (refine wpList_store_r aggW HMr.out 0 rfl rfl rfl rfl rfl rfl rfl rfl ?_; intro w6 h6 ht6; have H6 := LH h6; have HT6 := LH ht6; clear h6 ht6))
    refine bodyPost_ret (results_cell_row2 (p := 4) (u := 5) rfl _ _ _ _ _ _ _ rfl (H6.out.exact 0 rfl) Tryz.underlying132 rfl (by kernel_rfl)) rfl ?_
    exact HEnd.out _ HT6.out
theorem repTo_al0 {B : Nat} (hB2 : 2 ≤ B) (hB : B ≤ 100) : ∀ b, b < B → repTo (al0 B) b = ⟨b, 0, 0, 0, 0, 0, 0⟩
 | 0, _ => rfl
 | b + 1, h => by
  have hk : ((al0 B).bm.list.getD (b + 1) default).k = 0 := by
   rw [al0_list hB2 hB, List.getD_eq_getElem?_getD, List.getElem?_replicate]
   split <;> rfl
  unfold repTo Rep.one
  rw [if_pos hk, repTo_al0 hB2 hB b (by omega)]
set_option maxHeartbeats 4000000 in
set_option maxRecDepth 100000 in
theorem awake28_any (w : World) : Calls Tryz.prog 43 #[] w (Gives (.bool true) w) := by
 have HP : Hid (∀ w', Below w.heap.size w w' → Gives (.bool true) w (.returned (.bool true)) w') := LH (fun w' h => ⟨rfl, h⟩)
 generalize Gives (.bool true) w = Post at *
 go_enter Tryz.func43, Tryz.ntmps43
 go_wp2_with fail
 refine (begun20_any 4 (by omega) (by omega) _).mono ?_
 rintro e w1 ⟨A, n, rfl, ha, hn, hA, hb⟩
 have hh := Hq.begun (by omega) (by omega) ha hA (Below.refl w.heap.size w) hb (Q := []) (by simp)
 have HB1 := LH hb
 have HM1 := LH (Mem.one w1 #[valloc A, vdev A.X.F, .slice none 0 0] 132)
 have HH := LH (hh.later HM1.out.below)
 have HB2 : Hid (Below w.heap.size w (w1.alloc (.cells #[valloc A, vdev A.X.F, .slice none 0 0] 132))) := LH (hb.trans (HM1.out.below.mono hb.size))
 clear ha hA hb hh hn HB1
 go_upto_region 2 with fail
 obtain ⟨p, hp⟩ : ∃ p, p = w1.heap.size := ⟨_, rfl⟩
 rw [← hp] at HM1 ⊢
 generalize w1.alloc _ = w2 at *
 clear hp
 have c0 := HM1.out.cell 0 0 rfl rfl
 go_wp2_with fail
 refine (cwhole_any HH.out.at_ HH.out.ok HH.out.lg HH.out.snd (by omega) (by omega)).mono ?_
 rintro e w3 ⟨rfl, hb3⟩
 have HR : Hid (repTo (al0 4) (4 - 1) = ⟨3, 0, 0, 0, 0, 0, 0⟩) := LH (repTo_al0 (by omega) (by omega) 3 (by omega))
 rw [HR.out, show (Rep.cs ⟨3, 0, 0, 0, 0, 0, 0⟩).toArray = #[.int .i64 3, .int .i64 0, .int .i64 0, .int .i64 0, .int .i64 0, .int .i64 0, .int .i64 0] from rfl]
 have HB3 := LH (HB2.out.trans (hb3.mono HB2.out.size))
 have HM3 := LH (Mem.one w3 #[.int .i64 3, .int .i64 0, .int .i64 0, .int .i64 0, .int .i64 0, .int .i64 0, .int .i64 0] 157)
 have HB4 : Hid (Below w.heap.size w (w3.alloc (.cells #[.int .i64 3, .int .i64 0, .int .i64 0, .int .i64 0, .int .i64 0, .int .i64 0, .int .i64 0] 157))) := LH (HB3.out.trans (HM3.out.below.mono HB3.out.size))
 clear hb3 c0
 go_upto_region 5 with fail
 obtain ⟨q, hq⟩ : ∃ q, q = w3.heap.size := ⟨_, rfl⟩
 rw [← hq] at HM3 ⊢
 generalize w3.alloc _ = w4 at *
 clear hq
 have d0 := HM3.out.cell 0 0 rfl rfl
 have d1 := HM3.out.cell 0 1 rfl rfl
 have d2 := HM3.out.cell 0 2 rfl rfl
 have d3 := HM3.out.cell 0 3 rfl rfl
 have d4 := HM3.out.cell 0 4 rfl rfl
 have d5 := HM3.out.cell 0 5 rfl rfl
 have d6 := HM3.out.cell 0 6 rfl rfl
 go_wp2_with fail
 exact HP.out _ HB4.out
end Go.Proofs.YtpopbfagliagnaaGreat
namespace Go.Proofs.YtpopbfagliagnaaGreat
open Go.RowKit Go.Shelf Go.Maps
attribute [local go_sem] Oper.semAt_some
def FineAt (m : Al) (x : Nat) : Prop := m.used.getD x false = true → (placedN m.bm.dev m.bm.list (x : Int)).isSome = true
theorem sizeP_le2 {m : Al} {c x : Nat} (hx : isCell m.bm.list c x) : sizeP m x ≤ clsWords (c : Int) := by
 cases ho : placedN m.bm.dev m.bm.list (x : Int) with
 | none =>
  have : sizeP m x = 0 := by unfold sizeP; rw [ho]
  omega
 | some o =>
  have hs : sizeP m x = objSize o.p o.d := by unfold sizeP; rw [ho]
  rw [hs]
  have hr : objSize o.p o.d ≤ roomN o.p o.d := by
   by_cases h0 : objSize o.p o.d = 0
   ·omega
   ·exact room_fits h0
  cases placed_room ho with
  | cell k hk hcell hn =>
   have h1 := hcell.2.2.1
   have h2 := hx.2.2.1
   rw [h1] at h2
   have h3 : ((k : Nat) : Int) = (c : Int) := congrArg Hd.c h2
   obtain rfl : k = c := by omega
   omega
  | run n hb h1 hm hw hn =>
   have := (wholeN_fits (L := m.bm.list) (b := x / 512) (by omega)).2.1
   rw [isCell_kind hx] at this
   exact absurd this (by decide)
theorem cellL_is2 {B : Nat} {m : Al} (hlen : m.bm.list.length = B) {b c x : Nat} (hc : c < 32) (hb1 : 1 ≤ b) (hbB : b < B) (hL : m.bm.list.getD b default = ⟨1, c, 0⟩) (hx : x ∈ cellL b c) : isCell m.bm.list c x := by
 obtain ⟨i, hi, hix⟩ := List.mem_map.1 hx
 exact ((isCell_of (L := m.bm.list) hc hb1 (by rw [hlen]; exact hbB) hL).2 ⟨i, List.mem_range.1 hi, hix.symm⟩).1
theorem cells1_fit2 {B : Nat} {m : Al} (hlen : m.bm.list.length = B) {b c : Nat} (hc : c < 32) (hb1 : 1 ≤ b) (hbB : b < B) (hL : m.bm.list.getD b default = ⟨1, c, 0⟩) {R : Rep} {N : Nat} (hR : R.ok N) {xs : List Nat} (hx : ∀ x ∈ xs, x ∈ cellL b c) : (Rep.cells1 m c R xs).ok (N + 600 * xs.length) :=
 Rep.cells1_ok hR (fun x h1 hu => Nat.le_trans (sizeP_le2 (cellL_is2 hlen hc hb1 hbB hL (hx x h1))) (clsWords_256 _))
def RepG (w4 : World) (r : Nat) (m : Al) (c : Nat) (R : Rep) {b : Nat} (pre : List {x : Nat // x ∈ cellL b c}) (W : World) : Prop := RepJ w4 r m c R pre W ∧ ∀ x ∈ pre, FineAt m x.val
theorem repG_own (w4 : World) (r : Nat) (m : Al) (c : Nat) (R : Rep) {b : Nat} : OwnFrom w4.heap.size (fun (pre : List {x : Nat // x ∈ cellL b c}) W => RepG w4 r m c R pre W) := by
 rintro s W W' row ⟨h1, h2⟩ hg hr
 exact ⟨repJ_own w4 r m c R s W W' row h1 hg hr, h2⟩
def RepX (w4 : World) (r Bx By : Nat) (m : Al) (cd : Code) (W : World) : Prop := cd = .ret ∧ ∃ (x : Nat) (R : Rep), m.used.getD x false = true ∧ placedN m.bm.dev m.bm.list (x : Int) = none ∧ RepAt W r R ∧ Touch [r, Bx, By] w4 W ∧ Boxed W Bx 3 (.int .i64 (x : Int)) ∧ Boxed W By 50 (.int .i64 22)
theorem repX_own (w4 : World) (r Bx By : Nat) (m : Al) (cd : Code) (hr4 : r < w4.heap.size) (hx4 : Bx < w4.heap.size) (hy4 : By < w4.heap.size) {α : Type} : OwnFrom w4.heap.size (fun (_ : List α) W => RepX w4 r Bx By m cd W) := by
 rintro s W W' row ⟨h0, x, R, hu, hp, h1, h2, h3, h4⟩ hg hr
 have hne : ∀ k, k < w4.heap.size → some k ≠ row := fun k hk e => by have := (hr k e.symm).1; omega
 have hs := h2.size
 refine ⟨h0, x, R, hu, hp, h1.keep (hg.block r h1.lt (hne r hr4)), ⟨hg.os.trans h2.os, hg.tape.trans h2.tape, hg.output.trans h2.output, Nat.le_trans h2.size hg.size, fun k hk hn => ?_⟩, (hg.block Bx h3.lt (hne Bx hx4)).trans h3, (hg.block By h4.lt (hne By hy4)).trans h4⟩
 exact (hg.block k (Nat.lt_of_lt_of_le hk hs) (hne k hk)).trans (h2.block k hk hn)
theorem keeps_touchL {B : Nat} {L : List Nat} {W W' : World} (h : Touch L W W') (hc : ∀ k ∈ L, ∃ o : Obj, W.heap[k]? = some o ∧ o.isCells = true) : KeepsFrom B W W' := ⟨h.size, fun k o _ hk ho => by
 have hne : k ∉ L := fun e => by
  obtain ⟨o', h1, h2⟩ := hc k e
  rw [h1] at hk
  injection hk with hk
  subst hk
  rw [h2] at ho; cases ho
 exact (h.block k (Array.getElem?_eq_some_iff.1 hk).1 hne).trans hk⟩
def BlkPost (w : World) (r : Nat) (m : Al) (b c : Nat) (R : Rep) : Ending → World → Prop := fun e w' => Touch [r] w w' ∧
  ((e = .returned (.tuple #[.int .i64 0, .int .i64 0]) ∧ RepAt w' r (R.block m b c) ∧ ∀ x ∈ cellL b c, FineAt m x) ∨
   ∃ x : Nat, m.used.getD x false = true ∧ placedN m.bm.dev m.bm.list (x : Int) = none ∧ e = .returned (.tuple #[.int .i64 (x : Int), .int .i64 22]) ∧ ∃ R', RepAt w' r R')
set_option maxRecDepth 100000 in
set_option maxHeartbeats 8000000 in
theorem rblock_gen {w : World} {A : AF} {n B : Nat} {m : Al} (h : AlAt w A n B m) (hlen : m.bm.list.length = B) (hB : B ≤ 200) {mp nn : Nat} {M : Lit → Option Value} (hV : VMap Tryz.prog 3 w mp nn M) (hI : InM M (freeUpto m 32)) {r : Nat} {R : Rep} (hR : RepAt w r R) (hRo : R.ok 100000000) (hrA : r ∉ A.list)
  {b c : Nat} (hb1 : 1 ≤ b) (hbB : b < B) (hc : c < 32) (hL : m.bm.list.getD b default = ⟨1, c, 0⟩) :
  Calls Tryz.prog 253 #[.pointer (some ⟨r, 0, none⟩), valloc A, .map (some mp), .int .i64 (b : Int), .int .i64 (c : Int)] w (BlkPost w r m b c R) := by
 refine (callsIn_wide (n := 5)).1 ?_
 refine callsIn_of_wp_marks Tryz.func253 rfl trivial ?_ rfl
 simp only [Tryz.ntmps253, List.size_toArray, List.length_cons, List.length_nil, Nat.reduceAdd, Nat.reduceSub, Array.replicate_succ, Array.replicate_zero, List.push_toArray, List.append_toArray, List.nil_append, List.cons_append]
 have HG := LH (fun w' (h' : Below w.heap.size w w') => bgeom_any (h.below h').man)
 have b5 := Boxed.new w 368 (.pointer (some ⟨r, 0, none⟩))
 have b6 := Boxed.new (w.alloc (.cells #[.pointer (some ⟨r, 0, none⟩)] 368)) 45 (valloc A)
 have b7 := Boxed.new ((w.alloc (.cells #[.pointer (some ⟨r, 0, none⟩)] 368)).alloc (.cells #[valloc A] 45)) 279 (.map (some mp))
 have b9 := Boxed.new (((w.alloc (.cells #[.pointer (some ⟨r, 0, none⟩)] 368)).alloc (.cells #[valloc A] 45)).alloc (.cells #[.map (some mp)] 279)) 3 (.int .i64 (c : Int))
 rw [World.size_alloc] at b6
 rw [World.size_alloc, World.size_alloc] at b7
 rw [World.size_alloc, World.size_alloc, World.size_alloc] at b9
 have b10 := Boxed.new ((((w.alloc (.cells #[.pointer (some ⟨r, 0, none⟩)] 368)).alloc (.cells #[valloc A] 45)).alloc (.cells #[.map (some mp)] 279)).alloc (.cells #[.int .i64 (c : Int)] 3)) 3 (.int .i64 0)
 rw [World.size_alloc, World.size_alloc, World.size_alloc, World.size_alloc] at b10
 have b11 := Boxed.new (((((w.alloc (.cells #[.pointer (some ⟨r, 0, none⟩)] 368)).alloc (.cells #[valloc A] 45)).alloc (.cells #[.map (some mp)] 279)).alloc (.cells #[.int .i64 (c : Int)] 3)).alloc (.cells #[.int .i64 0] 3)) 50 (.int .i64 0)
 rw [World.size_alloc, World.size_alloc, World.size_alloc, World.size_alloc, World.size_alloc] at b11
 have b10' := b10.alloc (.cells #[.int .i64 0] 50)
 have b5' := ((((b5.alloc (.cells #[valloc A] 45)).alloc (.cells #[.map (some mp)] 279)).alloc (.cells #[.int .i64 (c : Int)] 3)).alloc (.cells #[.int .i64 0] 3)).alloc (.cells #[.int .i64 0] 50)
 have b6' := (((b6.alloc (.cells #[.map (some mp)] 279)).alloc (.cells #[.int .i64 (c : Int)] 3)).alloc (.cells #[.int .i64 0] 3)).alloc (.cells #[.int .i64 0] 50)
 have b7' := ((b7.alloc (.cells #[.int .i64 (c : Int)] 3)).alloc (.cells #[.int .i64 0] 3)).alloc (.cells #[.int .i64 0] 50)
 have b9' := (b9.alloc (.cells #[.int .i64 0] 3)).alloc (.cells #[.int .i64 0] 50)
 have hBl : Below w.heap.size w ((((((w.alloc (.cells #[.pointer (some ⟨r, 0, none⟩)] 368)).alloc (.cells #[valloc A] 45)).alloc (.cells #[.map (some mp)] 279)).alloc (.cells #[.int .i64 (c : Int)] 3)).alloc (.cells #[.int .i64 0] 3)).alloc (.cells #[.int .i64 0] 50)) :=
  ((((((Below.refl _ w).alloc (Nat.le_refl _) _).alloc (by simp) _).alloc (by simp; omega) _).alloc (by simp; omega) _).alloc (by simp; omega) _).alloc (by simp; omega) _
 clear b5 b6 b7 b9 b10
 gi_wp2_with fail
 generalize (((((w.alloc _).alloc _).alloc _).alloc _).alloc _).alloc _ = w0 at *
 have HBl := LH hBl
 have HA0 := LH (h.below hBl)
 have a0 := HA0.out.c0
 have e6 := b6'.cell
 have e9 := b9'.cell
 have r0 := fun x => later_cell a0 x
 have r6 := fun x => later_cell e6 x
 have r9 := fun x => later_cell e9 x
 clear hBl a0 e6 e9
 refine wpIn_wide.2 (wp_nopanic ?_)
 refine wp_region_seg (C := fun w' => ∃ x : Later (w0), w' = x.val) [.fl [0, 1, 2, 3, 5, 6], .sq [4] true, .sq [7] false] (by kernel_rfl) (by kernel_rfl) (by intro c a d v w h; cases d <;> exact h) ?_
 simp only [segs, picks, List.getElem?_cons_succ, List.getElem?_cons_zero]
 have hC1 := later_drew (w0)
 refine wpSeg_fl hC1 ?_
 repeat (first | go_big_quiet_step (fail) | quiet_step (fail))
 refine wpQuiet_nil ?_
 refine wpSeg_sq (fun K hK => ?_)
 go_wp2_with fail
 refine (bgeom_any (HA0.out.below (later_below hC1)).man).mono ?_
 rintro e w1 ⟨rfl, hb1⟩
 have hC2 := later_step hC1 hb1
 have HB1 : Hid (Below w0.heap.size w0 w1) := LH (later_below hC2)
 clear hb1 r0 r6 r9
 go_wp2_with fail
 refine hK _ _ (fun _ => hC2) ?_
 clear hK K
 refine wpSeg_last ?_
 go_wp2_with fail
 refine ((callsIn_wide (n := 4)).1 (call_in B c b 4 w1)).mono ?_
 rintro e w2 ⟨rfl, rfl⟩
 have bK := (Boxed.new (w1.alloc (.cells #[.int .i64 (B : Int)] 44)) 3 (.int .i64 (c : Int))).alloc (.cells #[.int .i64 (b : Int)] 3)
 have bG := ((Boxed.new w1 44 (.int .i64 (B : Int))).alloc (.cells #[.int .i64 (c : Int)] 3)).alloc (.cells #[.int .i64 (b : Int)] 3)
 have bB := Boxed.new ((w1.alloc (.cells #[.int .i64 (B : Int)] 44)).alloc (.cells #[.int .i64 (c : Int)] 3)) 3 (.int .i64 (b : Int))
 rw [World.size_alloc] at bK
 rw [World.size_alloc, World.size_alloc] at bB
 have hb2 : Below w1.heap.size w1 (((w1.alloc (.cells #[.int .i64 (B : Int)] 44)).alloc (.cells #[.int .i64 (c : Int)] 3)).alloc (.cells #[.int .i64 (b : Int)] 3)) := (((Below.refl _ w1).alloc (Nat.le_refl _) _).alloc (by simp) _).alloc (by simp; omega) _
 generalize ((w1.alloc _).alloc _).alloc _ = w2 at *
 have HB2 : Hid (Below w0.heap.size w0 w2) := LH (HB1.out.trans (hb2.mono HB1.out.size))
 clear hb2 hC1 hC2
 go_wp2_with fail
 have HT0 : Hid (Touch [r] w2 w2) := LH (Touch.refl _ _)
 have HR2 : Hid (RepAt w2 r R) := LH ((hR.below HBl.out).below HB2.out)
 have hst := call_stops (show B ≤ 1000 by omega) hc hb1 hbB 4 (by omega) (w1.heap.size + 1) w1.heap.size (w1.heap.size + 1 + 1) bK bG bB
 have HX10 : Hid (w.heap.size + 1 + 1 + 1 + 1 < w2.heap.size) := LH (Nat.lt_of_lt_of_le b10'.lt HB2.out.size)
 have HX11 : Hid (w.heap.size + 1 + 1 + 1 + 1 + 1 < w2.heap.size) := LH (Nat.lt_of_lt_of_le b11.lt HB2.out.size)
 refine wpIn_block ?_
 refine wpIn_rangeFunc_ownG rfl (by omega) (gf := 340) (lb := #[.pointer (some ⟨w1.heap.size + 1, 0, none⟩), .pointer (some ⟨w1.heap.size, 0, none⟩), .pointer (some ⟨w1.heap.size + 1 + 1, 0, none⟩)]) rfl trivial (enters_of Tryz.func340 (by kernel_rfl) rfl)
  hst Kp3.trans (Kp3.book bK.lt bG.lt bB.lt) (Below.refl _ _) (fun _ => rfl)
  (fun pre W => RepG w2 r m c R pre W) (fun cd _ W => RepX w2 r (w.heap.size + 1 + 1 + 1 + 1) (w.heap.size + 1 + 1 + 1 + 1 + 1) m cd W) (repG_own w2 r m c R) (fun cd => repX_own w2 r _ _ m cd HR2.out.lt HX10.out HX11.out) ⟨⟨HR2.out, HT0.out⟩, fun _ h => nomatch h⟩
  (fun x => { tmps := #[.pointer (some ⟨r, 0, none⟩), valloc A, .map (some mp), .int .i64 (b : Int), .int .i64 (c : Int), .pointer (some ⟨w.heap.size, 0, none⟩), .pointer (some ⟨w.heap.size + 1, 0, none⟩), .pointer (some ⟨w.heap.size + 1 + 1, 0, none⟩), undef, .pointer (some ⟨w.heap.size + 1 + 1 + 1, 0, none⟩), .pointer (some ⟨w.heap.size + 1 + 1 + 1 + 1, 0, none⟩), .pointer (some ⟨w.heap.size + 1 + 1 + 1 + 1 + 1, 0, none⟩), .int .i64 (x.val : Int), undef, undef, undef, valloc A, .pointer (some ⟨A.a, 0, none⟩), .pointer (some ⟨A.a, 0, none⟩), .pointer (some ⟨A.X.m, 0, none⟩), vgeom (B : Int), .int .i64 (c : Int), .int .i64 (b : Int), .func (.func 340) #[] #[.pointer (some ⟨w1.heap.size + 1, 0, none⟩), .pointer (some ⟨w1.heap.size, 0, none⟩), .pointer (some ⟨w1.heap.size + 1 + 1, 0, none⟩)], .int .i64 (x.val : Int), undef, undef, undef, undef, undef, undef, undef, undef, undef, undef, undef, undef, undef, undef, undef, undef, undef, undef, undef, undef, undef, undef, undef, undef, undef, undef, undef, undef, undef, undef, undef, undef, undef, undef, undef, undef, undef, undef, undef, undef, undef, undef, undef, undef, undef, undef, undef, undef, undef, undef, undef, undef, undef, undef, undef, undef, undef, undef, undef, undef, undef], defers := [] }) ?assign ?body ?done ?stop
 case assign =>
  intro l x W K hK
  gi_wp2
  exact hK
 case stop =>
  rintro D cd pre W hD _ ⟨rfl, x, R', hu, hp, hrp, hT, bx, by_⟩ hK
  have hDa : D ≠ w.heap.size + 1 + 1 + 1 + 1 := fun e => by have := HX10.out; omega
  have hDb : D ≠ w.heap.size + 1 + 1 + 1 + 1 + 1 := fun e => by have := HX11.out; omega
  have z10 := (show Boxed (W.putObj D (.deferred none)) (w.heap.size + 1 + 1 + 1 + 1) 3 (.int .i64 (x : Int)) from (World.putObj_heap_other (fun e => hDa e.symm)).trans bx).cell
  have z11 := (show Boxed (W.putObj D (.deferred none)) (w.heap.size + 1 + 1 + 1 + 1 + 1) 50 (.int .i64 22) from (World.putObj_heap_other (fun e => hDb e.symm)).trans by_).cell
  have hz0 := HBl.out.size
  have hrw : r < w.heap.size := hR.lt
  gi_wp2
  refine ⟨by simp, .inl ⟨_, _, rfl, run_takeDeferred hK, ?_⟩⟩
  have B9 : Below w.heap.size W (W.putObj D (.deferred none)) := belowK_b (w := w2) (Nat.le_trans hz0 HB2.out.size) _ D _ (.deferred none) hD hK rfl rfl
  have t08 : Touch [r] w W := (Touch.ofBelow (HBl.out.trans (HB2.out.mono hz0))).own hT (fun k hk => by
   simp only [List.mem_cons, List.not_mem_nil, or_false] at hk
   rcases hk with rfl | rfl | rfl
   ·exact .inr (by simp)
   ·exact .inl (by omega)
   ·exact .inl (by omega))
  refine ⟨.tuple #[.int .i64 (x : Int), .int .i64 22], results_cell_two (p := 10) (q := 11) rfl _ _ _ _ rfl rfl z10 z11, ⟨B9.os.trans t08.os, B9.tape.trans t08.tape, B9.output.trans t08.output, Nat.le_trans t08.size B9.size, fun k hk hn => (B9.block k hk).trans (t08.block k hk hn)⟩, .inr ⟨x, hu, hp, rfl, R', hrp.keep (B9.block r hrw)⟩⟩
 case body =>
  rintro l' pre x W ⟨⟨hRp, hT⟩, hFi⟩ hlt'
  have HFi := LH hFi
  clear hFi
  have hrw : r < w.heap.size := hR.lt
  have hz0 := HBl.out.size
  have hz2 := HB2.out.size
  have hz1 := HB1.out.size
  have hzK := bK.lt
  have hzB := bB.lt
  have hzT := hT.size
  have hkp : ∀ k, k ≠ r → k < w2.heap.size → W.heap[k]? = w2.heap[k]? := fun k hk hl => hT.block k hl (by simpa using hk)
  have b5W : Boxed W w.heap.size 368 (.pointer (some ⟨r, 0, none⟩)) := (hkp _ (by omega) (Nat.lt_of_lt_of_le b5'.lt hz2)).trans ((HB2.out.block _ b5'.lt).trans b5')
  have b6W : Boxed W (w.heap.size + 1) 45 (valloc A) := (hkp _ (by omega) (Nat.lt_of_lt_of_le b6'.lt hz2)).trans ((HB2.out.block _ b6'.lt).trans b6')
  have b7W : Boxed W (w.heap.size + 1 + 1) 279 (.map (some mp)) := (hkp _ (by omega) (Nat.lt_of_lt_of_le b7'.lt hz2)).trans ((HB2.out.block _ b7'.lt).trans b7')
  have b9W : Boxed W (w.heap.size + 1 + 1 + 1) 3 (.int .i64 (c : Int)) := (hkp _ (by omega) (Nat.lt_of_lt_of_le b9'.lt hz2)).trans ((HB2.out.block _ b9'.lt).trans b9')
  have HA2 := HA0.out.below HB2.out
  have HAW := LH (HA2.keep (fun k hk => hkp k (fun e => hrA (e ▸ hk)) (HA2.mem k hk)))
  have hmr : mp ≠ r := fun e => by
   subst e
   obtain ⟨D, ⟨es, clock, hb, _⟩, _⟩ := hV
   rw [hR] at hb; cases hb
  have HVW := LH (hV.block ((hkp mp hmr (Nat.lt_of_lt_of_le (Nat.lt_of_lt_of_le hV.lt hz0) hz2)).trans ((HB2.out.block mp (Nat.lt_of_lt_of_le hV.lt hz0)).trans (HBl.out.block mp hV.lt))))
  have e5 := b5W.cell
  have e6 := b6W.cell
  have e7 := b7W.cell
  have e9 := b9W.cell
  have HU := LH (aused_any HAW.out (x.val : Int))
  rw [hasI_nat] at HU
  have hcell := x.property
  have hx9 : x.val ≤ 1000000 := by
   obtain ⟨i, hi, hix⟩ := List.mem_map.1 hcell
   have h1 : clsCells (c : Int) ≤ 512 := by unfold clsCells; exact Nat.le_trans (Nat.div_le_self _ _) (by omega)
   have h2 := List.mem_range.1 hi
   have h3 : i * clsWords (c : Int) ≤ 512 * 256 := Nat.mul_le_mul (by omega) (clsWords_256 _)
   rw [← hix]; unfold cellOf; omega
  have HcJ : Hid (Rep.cells1 m c R ((pre ++ [x]).map Subtype.val) = Rep.cell1 m c (Rep.cells1 m c R (pre.map Subtype.val)) x.val) := LH (by rw [List.map_append]; exact Rep.cells1_snoc _ _ _ _ _)
  have HTw := LH hT
  have hpl : pre.length < 513 := by
   have h1 : clsCells (c : Int) ≤ 512 := by unfold clsCells; exact Nat.le_trans (Nat.div_le_self _ _) (by omega)
   rw [cellL_len] at hlt'
   omega
  have hRok : (Rep.cells1 m c R (pre.map Subtype.val)).ok 1000000000 := (cells1_fit2 hlen hc hb1 hbB hL hRo (xs := pre.map Subtype.val) (fun y hy => by obtain ⟨z, _, rfl⟩ := List.mem_map.1 hy; exact z.property)).mono (by rw [List.length_map]; omega)
  generalize Rep.cells1 m c R (pre.map Subtype.val) = R1 at *
  have HRp := LH hRp
  cases hu : m.used.getD x.val false with
  | false =>
   rw [hu] at HU
   have HFr : Hid (freeUpto m 32 x.val = true) := LH (by
    unfold freeUpto
    rw [List.any_eq_true]
    refine ⟨c, List.mem_range.2 hc, ?_⟩
    unfold isFree
    rw [decide_eq_true_iff]
    refine ⟨((isCell_of (L := m.bm.list) hc hb1 (by rw [hlen]; exact hbB) hL).2 ?_).1, hu⟩
    obtain ⟨i, hi, hix⟩ := List.mem_map.1 hcell
    exact ⟨i, List.mem_range.1 hi, hix.symm⟩)
   have hlk : (Instr.lookup 279 (.map (some mp)) (.int .i64 (x.val : Int)) false).run Tryz.prog W = .ok (.bool true) W := by
    have := HVW.out.look keyed_int Tryz.underlying279 (zero_bool W) (key_int x.val hx9)
    rw [hI.get hx9, HFr.out] at this
    exact this
   have d5 : W.cell? ⟨r, 5, none⟩ = some (vi R1.ce) := HRp.out.cell rfl
   have f5 := HRp.out.row.frozen 5
   have hce : R1.ce ≤ 1000000000 := hRok.2.2.2.2.2.1
   gi_wp2_with (refine ⟨trivial, ?_⟩; gi_at_call 62; refine (callsIn_wide.2 HU.out).mono ?_; rintro e w1 ⟨rfl, rfl⟩)
   obtain ⟨h1, t1⟩ := HRp.out.set (R' := { R1 with ce := R1.ce + 1 }) 5 (.int .i64 ((R1.ce : Int) + 1)) rfl
   refine ⟨keeps_touch t1 HRp.out, kp3_touch t1 ⟨by omega, by omega⟩ ⟨by omega, by omega⟩ ⟨by omega, by omega⟩, ⟨?_, HTw.out.trans t1⟩, fun y hy => ?_⟩
   rotate_left
   ·rcases List.mem_append.1 hy with hy | hy
    ·exact HFi.out y hy
    ·obtain rfl := List.mem_singleton.1 hy
     exact fun h => by rw [hu] at h; cases h
   show RepAt _ r (Rep.cells1 m c R ((pre ++ [x]).map Subtype.val))
   rw [HcJ.out]
   unfold Rep.cell1
   rw [hu]
   exact h1
  | true =>
   have HAp := LH (fun w' (h' : Below W.heap.size W w') => aplace_any (HAW.out.below h') (by omega) (x.val : Int))
   have HCw := LH (fun w => cwords_any (c : Int) w)
   rw [hu] at HU
   have HFr : Hid (freeUpto m 32 x.val = false) := LH (by
    unfold freeUpto
    rw [List.any_eq_false]
    intro j _ hj
    unfold isFree at hj
    rw [decide_eq_true_iff] at hj
    rw [hj.2] at hu; cases hu)
   have hlk : (Instr.lookup 279 (.map (some mp)) (.int .i64 (x.val : Int)) false).run Tryz.prog W = .ok (.bool false) W := by
    have := HVW.out.look keyed_int Tryz.underlying279 (zero_bool W) (key_int x.val hx9)
    rw [hI.get hx9, HFr.out] at this
    exact this
   cases hpo : placedN m.bm.dev m.bm.list ((x.val : Nat) : Int) with
   | none =>
    have HPl := LH (HAp.out W (Below.refl _ _))
    have b10W : Boxed W (w.heap.size + 1 + 1 + 1 + 1) 3 (.int .i64 0) := (hkp _ (by omega) (Nat.lt_of_lt_of_le b10'.lt hz2)).trans ((HB2.out.block _ b10'.lt).trans b10')
    have b11W : Boxed W (w.heap.size + 1 + 1 + 1 + 1 + 1) 50 (.int .i64 0) := (hkp _ (by omega) (Nat.lt_of_lt_of_le b11.lt hz2)).trans ((HB2.out.block _ b11.lt).trans b11)
    have H10 := LH b10W
    have H11 := LH b11W
    clear b10W b11W
    gi_wp2_with (first
     | (refine ⟨trivial, ?_⟩; gi_at_call 62; refine (callsIn_wide.2 HU.out).mono ?_; rintro e w1 ⟨rfl, rfl⟩)
     | (refine ⟨trivial, ?_⟩; gi_at_call 166; refine (callsIn_wide.2 HPl.out).mono ?_; rintro e W2 ⟨⟨p, d, rfl, hpd⟩, hb2⟩; have HB2w := LH hb2; rw [hpo]; have HB5 : Hid (Below W.heap.size W (W2.alloc (.cells #[.int .i64 p, .int .i64 d] 169))) := LH (hb2.trans ((below_alloc W2 _).mono hb2.size)); have K10 : Boxed (W2.alloc (.cells #[.int .i64 p, .int .i64 d] 169)) (w.heap.size + 1 + 1 + 1 + 1) 3 (.int .i64 0) := (HB5.out.block _ H10.out.lt).trans H10.out; have K11 : Boxed (W2.alloc (.cells #[.int .i64 p, .int .i64 d] 169)) (w.heap.size + 1 + 1 + 1 + 1 + 1) 50 (.int .i64 0) := (HB5.out.block _ H11.out.lt).trans H11.out; have k10 := K10.cell; have f10 := K10.frozen; have K11' := K11.other (show w.heap.size + 1 + 1 + 1 + 1 + 1 ≠ w.heap.size + 1 + 1 + 1 + 1 by omega) (.int .i64 (x.val : Int)); have k11 := K11'.cell; have f11 := K11'.frozen; have HK10 := LH K10; have HK11 := LH K11'; clear hpd hb2 K10 K11 K11'))
    have HT5 : Hid (Touch [r, w.heap.size + 1 + 1 + 1 + 1, w.heap.size + 1 + 1 + 1 + 1 + 1] W (((W2.alloc (.cells #[.int .i64 p, .int .i64 d] 169)).setCell ⟨w.heap.size + 1 + 1 + 1 + 1, 0, none⟩ (.int .i64 (x.val : Int))).setCell ⟨w.heap.size + 1 + 1 + 1 + 1 + 1, 0, none⟩ (.int .i64 22))) := LH (((Touch.ofBelow HB5.out).trans (Touch.setCell _ (by simp) _)).trans (Touch.setCell _ (by simp) _))
    refine ⟨keeps_touchL HT5.out (fun k hk => by
     simp only [List.mem_cons, List.not_mem_nil, or_false] at hk
     rcases hk with rfl | rfl | rfl
     ·exact ⟨_, HRp.out, rfl⟩
     ·exact ⟨_, H10.out, rfl⟩
     ·exact ⟨_, H11.out, rfl⟩), rfl, x.val, R1, hu, hpo, ?_, (HTw.out.wide (by simp)).trans HT5.out, (HK10.out.set _).other (show w.heap.size + 1 + 1 + 1 + 1 ≠ w.heap.size + 1 + 1 + 1 + 1 + 1 by omega) _, HK11.out.set _⟩
    exact HRp.out.keep ((Below.heap_setCell _ _ _ _ (show r ≠ w.heap.size + 1 + 1 + 1 + 1 + 1 by omega)).trans ((Below.heap_setCell _ _ _ _ (show r ≠ w.heap.size + 1 + 1 + 1 + 1 by omega)).trans (HB5.out.block r HRp.out.lt)))
   | some po =>
    have HSz : Hid (sizeP m x.val = objSize po.p po.d) := LH (by unfold sizeP; rw [hpo])
    have HPl := LH (HAp.out W (Below.refl _ _))
    gi_wp2_with (first
     | (refine ⟨trivial, ?_⟩; gi_at_call 62; refine (callsIn_wide.2 HU.out).mono ?_; rintro e w1 ⟨rfl, rfl⟩)
     | (refine ⟨trivial, ?_⟩; gi_at_call 166; refine (callsIn_wide.2 HPl.out).mono ?_; rintro e W2 ⟨⟨p, d, rfl, hpd⟩, hb2⟩; have HPd := LH (hpd _ hpo); have HB2w := LH hb2; rw [hpo]; clear hpd hb2))
    have HM5 := LH (Mem.one W2 #[.int .i64 p, .int .i64 d] 169)
    have HB5 : Hid (Below W.heap.size W (W2.alloc (.cells #[.int .i64 p, .int .i64 d] 169))) := LH (HB2w.out.trans (HM5.out.below.mono HB2w.out.size))
    obtain ⟨qo, hqo⟩ : ∃ qo, qo = W2.heap.size := ⟨_, rfl⟩
    rw [← hqo] at HM5 ⊢
    generalize W2.alloc _ = w5 at *
    have g5b : Boxed w5 w.heap.size 368 (.pointer (some ⟨r, 0, none⟩)) := (HB5.out.block _ b5W.lt).trans b5W
    have g5 := g5b.cell
    have g9b : Boxed w5 (w.heap.size + 1 + 1 + 1) 3 (.int .i64 (c : Int)) := (HB5.out.block _ b9W.lt).trans b9W
    have g9 := g9b.cell
    have m0 := HM5.out.cell 0 0 rfl rfl
    have m1 := HM5.out.cell 0 1 rfl rfl
    have r5 := fun x => later_cell g5 x
    have r9 := fun x => later_cell g9 x
    have q0 := fun x => later_cell m0 x
    have q1 := fun x => later_cell m1 x
    have HR5 := LH (HRp.out.below HB5.out)
    have HSp : Hid (sizeP m x.val = objSize p d) := LH (by rw [HSz.out, HPd.out])
    clear e5 e6 e7 e9 g5 g9 m0 m1 hlk hqo
    refine wpIn_region_seg (C := fun w' => ∃ x : Later (w5), w' = x.val) [.fl [0, 1, 2], .sq [3] true, .sq [4] false] (by kernel_rfl) (by kernel_rfl) (by intro c a d v w h; cases d <;> exact h) (by rintro ⟨a, w, h⟩; exact h) (by kernel_rfl) ?_
    simp only [segs, picks, List.getElem?_cons_succ, List.getElem?_cons_zero]
    have hC1 := later_drew (w5)
    refine wpSeg_fl hC1 ?_
    repeat (first | go_big_quiet_step (fail) | quiet_step (fail))
    refine wpQuiet_nil ?_
    refine wpSeg_sq (fun K hK => ?_)
    go_wp2_with fail
    refine (HCw.out _).mono ?_
    rintro e w6 ⟨rfl, hb6⟩
    have hC2 := later_step hC1 hb6
    clear hb6 r5 r9 q0 q1
    go_wp2_with fail
    refine hK _ _ (fun _ => hC2) ?_
    clear hK K
    refine wpSeg_last ?_
    go_wp2_with fail
    have hs256 : sizeP m x.val ≤ 256 := Nat.le_trans (sizeP_le2 (cellL_is2 hlen hc hb1 hbB hL hcell)) (clsWords_256 _)
    refine (radd_any (HR5.out.below (later_below hC2)) hRok p d (clsWords (c : Int) : Nat) (by rw [← HSp.out]; omega) (by omega) (by have := clsWords_256 (c : Int); omega)).mono ?_
    rintro e w7 ⟨rfl, hr7, ht7⟩
    have htW : Touch [r] W w7 := ((Touch.ofBelow HB5.out).trans (Touch.ofBelow (later_below hC2))).trans ht7
    have HFin : Hid (RepJ w2 r m c R (pre ++ [x]) w7) := LH ⟨by
     rw [HcJ.out]
     unfold Rep.cell1
     rw [hu, if_pos rfl, HSp.out]
     exact hr7, HTw.out.trans htW⟩
    have HKe := LH (keeps_touch (B := w2.heap.size) htW HRp.out)
    have HK3 : Hid (Kp3 (w1.heap.size + 1) w1.heap.size (w1.heap.size + 1 + 1) W w7) := LH (kp3_touch htW ⟨by omega, by omega⟩ ⟨by omega, by omega⟩ ⟨by omega, by omega⟩)
    clear hr7 ht7 htW hC1 hC2
    go_wp2_with fail
    exact ⟨HKe.out, HK3.out, HFin.out, fun y hy => by
     rcases List.mem_append.1 hy with hy | hy
     ·exact HFi.out y hy
     ·obtain rfl := List.mem_singleton.1 hy
      exact fun _ => by rw [hpo]; rfl⟩
 case done =>
  rintro D ys W hD hys ⟨⟨hRp, hT⟩, hFi⟩ hK
  have hFc : ∀ x ∈ cellL b c, FineAt m x := fun x hx => by
   rw [← hys] at hx
   obtain ⟨y, h1, rfl⟩ := List.mem_map.1 hx
   exact hFi y h1
  have HFc := LH hFc
  clear hFi hFc
  have hrw : r < w.heap.size := hR.lt
  have hz0 := HBl.out.size
  have hz2 := HB2.out.size
  have hkp : ∀ k, k ≠ r → k < w2.heap.size → W.heap[k]? = w2.heap[k]? := fun k hk hl => hT.block k hl (by simpa using hk)
  have b5W : Boxed W w.heap.size 368 (.pointer (some ⟨r, 0, none⟩)) := (hkp _ (by omega) (Nat.lt_of_lt_of_le b5'.lt hz2)).trans ((HB2.out.block _ b5'.lt).trans b5')
  have b9W : Boxed W (w.heap.size + 1 + 1 + 1) 3 (.int .i64 (c : Int)) := (hkp _ (by omega) (Nat.lt_of_lt_of_le b9'.lt hz2)).trans ((HB2.out.block _ b9'.lt).trans b9')
  rw [hys] at hRp
  have hRok : (Rep.cells1 m c R (cellL b c)).ok 1000000000 := (cells1_fit2 hlen hc hb1 hbB hL hRo (xs := cellL b c) (fun y hy => hy)).mono (by
   have h1 : clsCells (c : Int) ≤ 512 := by unfold clsCells; exact Nat.le_trans (Nat.div_le_self _ _) (by omega)
   rw [cellL_len]; omega)
  have HBk : Hid (R.block m b c = { Rep.cells1 m c R (cellL b c) with sm := (Rep.cells1 m c R (cellL b c)).sm + 1, wa := (Rep.cells1 m c R (cellL b c)).wa + (clsWaste c : Nat) }) := LH rfl
  generalize Rep.cells1 m c R (cellL b c) = R2 at *
  have e5 := b5W.cell
  have d1 : W.cell? ⟨r, 1, none⟩ = some (vi R2.sm) := hRp.cell rfl
  have f1 := hRp.row.frozen 1
  have hsm : R2.sm ≤ 1000000000 := hRok.2.1
  have hwa : -1000000000 ≤ R2.wa ∧ R2.wa ≤ 1000000000 := hRok.2.2.2.2.2.2
  obtain ⟨h1, t1⟩ := (show RepAt W r R2 from hRp).set (R' := { R2 with sm := R2.sm + 1 }) 1 (.int .i64 ((R2.sm : Int) + 1)) rfl
  have HR6 := LH h1
  have HT6 := LH t1
  have hzW := hT.size
  gi_wp2_with fail
  generalize W.setCell _ _ = w6 at *
  have g5 : w6.cell? ⟨w.heap.size, 0, none⟩ = some (.pointer (some ⟨r, 0, none⟩)) := (show Boxed w6 w.heap.size 368 (.pointer (some ⟨r, 0, none⟩)) from (HT6.out.block _ b5W.lt (by simp; omega)).trans b5W).cell
  have g9 : w6.cell? ⟨w.heap.size + 1 + 1 + 1, 0, none⟩ = some (.int .i64 (c : Int)) := (show Boxed w6 (w.heap.size + 1 + 1 + 1) 3 (.int .i64 (c : Int)) from (HT6.out.block _ b9W.lt (by simp; omega)).trans b9W).cell
  have d6 : w6.cell? ⟨r, 6, none⟩ = some (.int .i64 R2.wa) := HR6.out.cell rfl
  have r5 := fun x => later_cell g5 x
  have r9 := fun x => later_cell g9 x
  have r6 := fun x => later_cell d6 x
  have HWs := LH (fun w => cwaste_any c hc w)
  have hws : clsWaste c ≤ 512 := Nat.sub_le _ _
  clear h1 t1 e5 d1 f1 g5 g9 d6
  refine wpIn_wide.2 (wp_nopanic ?_)
  refine wp_region_seg (C := fun w' => ∃ x : Later (w6), w' = x.val) [.fl [0, 1, 2, 3, 4], .sq [5] true, .sq [6, 7, 8, 9] false] (by kernel_rfl) (by kernel_rfl) (by intro c a d v w h; cases d <;> exact h) ?_
  simp only [segs, picks, List.getElem?_cons_succ, List.getElem?_cons_zero]
  have hC1 := later_drew (w6)
  refine wpSeg_fl hC1 ?_
  repeat (first | go_big_quiet_step (fail) | quiet_step (fail))
  refine wpQuiet_nil ?_
  refine wpSeg_sq (fun K hK => ?_)
  go_wp2_with fail
  refine (HWs.out _).mono ?_
  rintro e w7 ⟨rfl, hb7⟩
  have hC2 := later_step hC1 hb7
  have HR7 := LH (HR6.out.below (later_below hC2))
  have d6 : w7.cell? ⟨r, 6, none⟩ = some (.int .i64 R2.wa) := HR7.out.cell rfl
  have f6 := HR7.out.row.frozen 6
  clear hb7 r5 r6 r9
  obtain ⟨h2, t2⟩ := HR7.out.set (R' := { R2 with sm := R2.sm + 1, wa := R2.wa + (clsWaste c : Nat) }) 6 (.int .i64 (R2.wa + ((clsWaste c : Nat) : Int))) rfl
  have HT7 : Hid (Touch [r] W w7) := LH (HT6.out.trans (Touch.ofBelow (later_below hC2)))
  have HR8 := LH h2
  have HT8 := LH (HT7.out.trans t2)
  clear h2 t2
  go_wp2_with fail
  refine hK _ _ (fun _ => hC2) ?_
  clear hK K
  refine wpSeg_last ?_
  go_wp2_with fail
  generalize w7.setCell _ _ = w8 at *
  have HT28 : Hid (Touch [r] w2 w8) := LH (hT.trans HT8.out)
  have hz8 := HT28.out.size
  have k10 : Boxed w8 (w.heap.size + 1 + 1 + 1 + 1) 3 (.int .i64 0) := (HT28.out.block _ (Nat.lt_of_lt_of_le b10'.lt hz2) (by simp; omega)).trans ((HB2.out.block _ b10'.lt).trans b10')
  have k11 : Boxed w8 (w.heap.size + 1 + 1 + 1 + 1 + 1) 50 (.int .i64 0) := (HT28.out.block _ (Nat.lt_of_lt_of_le b11.lt hz2) (by simp; omega)).trans ((HB2.out.block _ b11.lt).trans b11)
  have c10 := k10.cell
  have f10 := k10.frozen
  have k11' := k11.other (show w.heap.size + 1 + 1 + 1 + 1 + 1 ≠ w.heap.size + 1 + 1 + 1 + 1 by omega) (.int .i64 0)
  have c11 := k11'.cell
  have f11 := k11'.frozen
  have hD8 : w8.heap[D]? = some (.deferred (some [])) := (HT8.out.block D (Array.getElem?_eq_some_iff.1 hK).1 (by simp; omega)).trans hK
  have hDa : D ≠ w.heap.size + 1 + 1 + 1 + 1 := fun e => by have := b10'.lt; omega
  have hDb : D ≠ w.heap.size + 1 + 1 + 1 + 1 + 1 := fun e => by have := b11.lt; omega
  have hK2 : ((w8.setCell ⟨w.heap.size + 1 + 1 + 1 + 1, 0, none⟩ (.int .i64 0)).setCell ⟨w.heap.size + 1 + 1 + 1 + 1 + 1, 0, none⟩ (.int .i64 0)).heap[D]? = some (.deferred (some [])) := (Below.heap_setCell _ _ _ _ hDb).trans ((Below.heap_setCell _ _ _ _ hDa).trans hD8)
  have k10b : Boxed (((w8.setCell ⟨w.heap.size + 1 + 1 + 1 + 1, 0, none⟩ (.int .i64 0)).setCell ⟨w.heap.size + 1 + 1 + 1 + 1 + 1, 0, none⟩ (.int .i64 0)).putObj D (.deferred none)) (w.heap.size + 1 + 1 + 1 + 1) 3 (.int .i64 0) := (World.putObj_heap_other (fun e => hDa e.symm)).trans ((k10.set (.int .i64 0)).other (by omega) _)
  have k11b : Boxed (((w8.setCell ⟨w.heap.size + 1 + 1 + 1 + 1, 0, none⟩ (.int .i64 0)).setCell ⟨w.heap.size + 1 + 1 + 1 + 1 + 1, 0, none⟩ (.int .i64 0)).putObj D (.deferred none)) (w.heap.size + 1 + 1 + 1 + 1 + 1) 50 (.int .i64 0) := (World.putObj_heap_other (fun e => hDb e.symm)).trans (k11'.set (.int .i64 0))
  have z10 := k10b.cell
  have z11 := k11b.cell
  gi_wp2
  refine ⟨by simp, .inl ⟨_, _, rfl, run_takeDeferred hK2, ?_⟩⟩
  have B9 : Below w.heap.size w8 (((w8.setCell ⟨w.heap.size + 1 + 1 + 1 + 1, 0, none⟩ (.int .i64 0)).setCell ⟨w.heap.size + 1 + 1 + 1 + 1 + 1, 0, none⟩ (.int .i64 0)).putObj D (.deferred none)) :=
   (((Below.refl w.heap.size w8).setCell (p := ⟨w.heap.size + 1 + 1 + 1 + 1, 0, none⟩) (by show w.heap.size ≤ w.heap.size + 1 + 1 + 1 + 1; omega) (.int .i64 0)).setCell (p := ⟨w.heap.size + 1 + 1 + 1 + 1 + 1, 0, none⟩) (by show w.heap.size ≤ w.heap.size + 1 + 1 + 1 + 1 + 1; omega) (.int .i64 0)).trans (belowK_b (w := w2) (by omega) _ D _ (.deferred none) hD hK2 rfl rfl)
  have t08 : Touch [r] w w8 := (Touch.ofBelow (HBl.out.trans (HB2.out.mono hz0))).trans HT28.out
  refine ⟨.tuple #[.int .i64 0, .int .i64 0], results_cell_two (p := 10) (q := 11) rfl _ _ _ _ rfl rfl z10 z11, ⟨B9.os.trans t08.os, B9.tape.trans t08.tape, B9.output.trans t08.output, Nat.le_trans t08.size B9.size, fun k hk hn => (B9.block k hk).trans (t08.block k hk hn)⟩, .inl ⟨rfl, ?_, HFc.out⟩⟩
  rw [HBk.out]
  exact HR8.out.keep (B9.block r hrw)
end Go.Proofs.YtpopbfagliagnaaGreat
namespace Go.Proofs.YtpopbfagliagnaaGreat
open Go.RowKit Go.Maps
structure HdsOk (B : Nat) (m : Al) : Prop where
 lenL : m.bm.list.length = B
 right : ∀ b, b < B → hdRight (m.bm.list.getD b default).k (m.bm.list.getD b default).c (m.bm.list.getD b default).l = true
theorem HdsOk.is {B : Nat} {m : Al} (h : HdsOk B m) {q : Nat} (h2 : q < B) : ∃ k c l : Int, m.bm.list.getD q default = ⟨k, c, l⟩ ∧ (k = 1 → ∃ cn : Nat, c = (cn : Int) ∧ cn < 32) := by
 have hr := of_decide_eq_true (h.right q h2)
 unfold HdRight at hr
 refine ⟨_, _, _, rfl, fun hk => ?_⟩
 obtain ⟨cn, hcn⟩ := Int.eq_ofNat_of_zero_le (show 0 ≤ (m.bm.list.getD q default).c by omega)
 exact ⟨cn, hcn, by omega⟩
def OneFine (m : Al) (b : Nat) : Prop := ((m.bm.list.getD b default).k = 1 → ∀ x ∈ cellL b (m.bm.list.getD b default).c.toNat, FineAt m x) ∧ ((m.bm.list.getD b default).k = 2 → FineAt m (512 * b))
def OnePost (w : World) (r : Nat) (m : Al) (b : Nat) (R : Rep) : Ending → World → Prop := fun e w' => Touch [r] w w' ∧
  ((e = .returned (.tuple #[.int .i64 0, .int .i64 0]) ∧ RepAt w' r (R.one m b) ∧ OneFine m b) ∨
   ∃ x : Nat, m.used.getD x false = true ∧ placedN m.bm.dev m.bm.list (x : Int) = none ∧ e = .returned (.tuple #[.int .i64 (x : Int), .int .i64 22]) ∧ ∃ R', RepAt w' r R')
theorem one_ok2 {B : Nat} {m : Al} (hok : HdsOk B m) {R : Rep} {N b : Nat} (h : R.ok N) (hb1 : 1 ≤ b) (hbB : b < B) : (R.one m b).ok (N + 400000) := by
 obtain ⟨k, c, l, he, hcls⟩ := hok.is hbB
 have hr := of_decide_eq_true (hok.right b hbB)
 unfold Rep.one
 rw [he] at hr ⊢
 unfold HdRight at hr
 dsimp only at hr ⊢
 by_cases h0 : k = 0
 ·rw [if_pos h0]
  obtain ⟨h1, h2, h3, h4, h5, h6, h7, h8⟩ := h
  exact ⟨by dsimp only; omega, by dsimp only; omega, by dsimp only; omega, by dsimp only; omega, by dsimp only; omega, by dsimp only; omega, by dsimp only; omega, by dsimp only; omega⟩
 rw [if_neg h0]
 by_cases h1 : k = 1
 ·rw [if_pos h1]
  obtain ⟨cn, rfl, hcn⟩ := hcls h1
  subst h1
  rw [Int.toNat_natCast]
  have hlen : (cellL b cn).length ≤ 512 := by rw [cellL_len]; unfold clsCells; exact Nat.le_trans (Nat.div_le_self _ _) (by omega)
  have hl0 : l = 0 := by omega
  have hf := (cells1_fit2 hok.lenL hcn hb1 hbB (he.trans (by rw [hl0])) h (xs := cellL b cn) (fun x hx => hx)).mono (N' := N + 307200) (by omega)
  have hw : clsWaste cn ≤ 512 := Nat.sub_le _ _
  unfold Rep.block
  generalize Rep.cells1 m cn R (cellL b cn) = R2 at *
  obtain ⟨h1, h2, h3, h4, h5, h6, h7, h8⟩ := hf
  exact ⟨by dsimp only; omega, by dsimp only; omega, by dsimp only; omega, by dsimp only; omega, by dsimp only; omega, by dsimp only; omega, by dsimp only; omega, by dsimp only; omega⟩
 rw [if_neg h1]
 by_cases h2 : k = 2
 ·rw [if_pos h2]
  have hs : sizeP m (512 * b) ≤ 16448 := by
   unfold sizeP
   split
   ·exact objSize_le _ _
   ·omega
  have hl : 1 ≤ l ∧ l < 256 := by omega
  unfold Rep.add
  obtain ⟨h1, h2, h3, h4, h5, h6, h7, h8⟩ := h
  exact ⟨by dsimp only; omega, by dsimp only; omega, by dsimp only; omega, by dsimp only; omega, by dsimp only; omega, by dsimp only; omega, by dsimp only; omega, by dsimp only; omega⟩
 ·rw [if_neg h2]
  exact h.mono (by omega)
set_option maxHeartbeats 8000000 in
set_option maxRecDepth 100000 in
theorem rone_gen {w : World} {A : AF} {n B : Nat} {m : Al} (h : AlAt w A n B m) (hok : HdsOk B m) (hB : B ≤ 200) (hlg : LgOk m) {mp nn : Nat} {M : Lit → Option Value} (hV : VMap Tryz.prog 3 w mp nn M) (hI : InM M (freeUpto m 32)) {r : Nat} {R : Rep} (hR : RepAt w r R) (hRo : R.ok 100000000) (hrA : r ∉ A.list)
  {la : Option Addr} {lc : Nat} {L : List Hd} (hC : Cells w la (hdCs L)) (hLl : L.length = B) (hLa : ∀ q, 1 ≤ q → L.getD q default = m.bm.list.getD q default) {b : Nat} (hb1 : 1 ≤ b) (hbB : b < B) :
  Calls Tryz.prog 177 #[.pointer (some ⟨r, 0, none⟩), valloc A, .map (some mp), .slice la B lc, .int .i64 (b : Int)] w (OnePost w r m b R) := by
 have HP : Hid (∀ w', RepAt w' r (R.one m b) → OneFine m b → Touch [r] w w' → OnePost w r m b R (.returned (.tuple #[.int .i64 0, .int .i64 0])) w') := LH (fun w' h1 h2 h3 => ⟨h3, .inl ⟨rfl, h1, h2⟩⟩)
 have HP2 : Hid (∀ w' (x : Nat), m.used.getD x false = true → placedN m.bm.dev m.bm.list (x : Int) = none → (∃ R', RepAt w' r R') → Touch [r] w w' → OnePost w r m b R (.returned (.tuple #[.int .i64 (x : Int), .int .i64 22])) w') := LH (fun w' x h1 h2 h3 h4 => ⟨h4, .inr ⟨x, h1, h2, rfl, h3⟩⟩)
 generalize OnePost w r m b R = Post at *
 obtain ⟨k, c, l, he, hcls⟩ := hok.is hbB
 have HFn : Hid (OneFine m b ↔ (k = 1 → ∀ x ∈ cellL b c.toNat, FineAt m x) ∧ (k = 2 → FineAt m (512 * b))) := LH (by unfold OneFine; rw [he])
 have hbl : b < L.length := by rw [hLl]; exact hbB
 obtain ⟨b1, o1, rfl, d0, d1, d2⟩ := hd_cells hC hbl ((hLa b hb1).trans he)
 have hbI : (b : Int) < (B : Int) := by omega
 have HOne : Hid (R.one m b = if k = 0 then { R with fr := R.fr + 1 } else if k = 1 then R.block m b c.toNat else if k = 2 then { R.add (sizeP m (512 * b)) (l * 512) with lg := R.lg + 1 } else R) := LH (by unfold Rep.one; rw [he])
 have hb0 := below_alloc w (.cells #[.int .i64 k, .int .i64 c, .int .i64 l] 103)
 have HM := LH (Mem.one w #[.int .i64 k, .int .i64 c, .int .i64 l] 103)
 have HR0 := LH (hR.below hb0)
 have HA0 := LH (h.below hb0)
 have HV0 := LH (hV.block (hb0.block mp hV.lt))
 have HB0 := LH hb0
 clear hb0 h hV
 go_enter Tryz.func177, Tryz.ntmps177
 go_upto_region 2 with fail
 generalize w.alloc _ = w0 at *
 have e0 := HM.out.cell 0 0 rfl rfl
 have e1 := HM.out.cell 0 1 rfl rfl
 have e2 := HM.out.cell 0 2 rfl rfl
 by_cases hk0 : k = 0
 ·subst hk0
  have g0 : w0.cell? ⟨r, 0, none⟩ = some (vi R.fr) := HR0.out.cell rfl
  have f0 := HR0.out.row.frozen 0
  have hfr : R.fr ≤ 100000000 := hRo.1
  obtain ⟨h1, t1⟩ := HR0.out.set (R' := { R with fr := R.fr + 1 }) 0 (.int .i64 ((R.fr : Int) + 1)) rfl
  have HFin := LH (HP.out _ (by rw [HOne.out, if_pos rfl]; exact h1) (HFn.out.2 ⟨fun h => absurd h (by decide), fun h => absurd h (by decide)⟩) ((Touch.ofBelow HB0.out).trans t1))
  clear h1 t1
  go_wp2_with fail
  exact HFin.out
 have hk0' : (k == 0) = false := by simpa using hk0
 by_cases hk1 : k = 1
 ·subst hk1
  obtain ⟨cn, rfl, hcn⟩ := hcls rfl
  have hl0 : l = 0 := by
   have hr := of_decide_eq_true (hok.right b hbB)
   rw [he] at hr
   unfold HdRight at hr
   dsimp only at hr
   omega
  subst hl0
  have HBl := LH (rblock_gen HA0.out hok.lenL hB HV0.out hI HR0.out hRo hrA hb1 hbB hcn he)
  go_wp2_with fail
  refine HBl.out.mono ?_
  rintro e w2 ⟨ht2, ⟨rfl, hr2, hfi⟩ | ⟨x, hu, hp, rfl, hr2⟩⟩
  ·have HFin := LH (HP.out w2 (by rw [HOne.out, if_neg (by omega), if_pos trivial, Int.toNat_natCast]; exact hr2) (HFn.out.2 ⟨fun _ => by rw [Int.toNat_natCast]; exact hfi, fun h => absurd h (by decide)⟩) ((Touch.ofBelow HB0.out).trans ht2))
   clear hr2 ht2 hfi
   go_wp2_with fail
   exact HFin.out
  ·have HFin := LH (HP2.out w2 x hu hp hr2 ((Touch.ofBelow HB0.out).trans ht2))
   clear hr2 ht2 hu hp
   go_wp2_with fail
   exact HFin.out
 have hk1' : (k == 1) = false := by simpa using hk1
 by_cases hk2 : k = 2
 ·subst hk2
  have hr := of_decide_eq_true (hok.right b hbB)
  rw [he] at hr
  unfold HdRight at hr
  dsimp only at hr
  have hl1 : 1 ≤ l ∧ l < 256 := by omega
  have hus : m.used.getD (512 * b) false = true := hlg b (by rw [he])
  cases hpo : placedN m.bm.dev m.bm.list ((512 * b : Nat) : Int) with
  | none =>
   have HPl : Hid (∀ w', Below w0.heap.size w0 w' → Calls Tryz.prog 166 #[valloc A, .int .i64 ((512 * b : Nat) : Int)] w' (fun e w2 => ∃ p d : Int, e = .returned (.tuple #[.agg #[.int .i64 p, .int .i64 d], .bool false]) ∧ Below w'.heap.size w' w2)) := LH (fun w' h' => (aplace_any (HA0.out.below h') (by omega) ((512 * b : Nat) : Int)).mono (by
    rintro e w2 ⟨⟨p, d, rfl, hpd⟩, hb4⟩
    rw [hpo]
    exact ⟨p, d, rfl, hb4⟩))
   have HGm := LH (bgeom_any HA0.out.man)
   have HFs := LH (fun w => gfirstN_any B (by omega) b hbB w)
   have hxe : (b : Int) * 512 = ((512 * b : Nat) : Int) := by omega
   rw [hxe] at HFs
   have HBad := LH (fun w' (h : ∃ R', RepAt w' r R') (t : Touch [r] w w') => HP2.out w' (512 * b) hus hpo h t)
   have a0 := HA0.out.c0
   obtain ⟨xx, hxx⟩ : ∃ xx, xx = 512 * b := ⟨_, rfl⟩
   rw [← hxx] at HPl HFs HBad
   clear hxe hr hus hpo hxx hLa hlg
   go_wp2_with fail
   refine HGm.out.mono ?_
   rintro e w2 ⟨rfl, hb2⟩
   have HB2 := LH hb2
   clear hb2 a0
   go_wp2_with fail
   refine (HFs.out _).mono ?_
   rintro e w3 ⟨rfl, hb3⟩
   have HB3 := LH (HB2.out.trans (hb3.mono HB2.out.size))
   clear hb3 HB2
   go_wp2_with fail
   refine (HPl.out _ HB3.out).mono ?_
   rintro e w4 ⟨p, d, rfl, hb4⟩
   have HB5 : Hid (Below w0.heap.size w0 (w4.alloc (.cells #[.int .i64 p, .int .i64 d] 169))) := LH ((HB3.out.trans (hb4.mono HB3.out.size)).trans ((below_alloc w4 _).mono (Nat.le_trans HB3.out.size hb4.size)))
   have HFin := LH (HBad.out _ ⟨R, HR0.out.below HB5.out⟩ ((Touch.ofBelow HB0.out).trans (Touch.ofBelow HB5.out)))
   clear hb4 HB3 HPl HFs
   go_wp2_with fail
   exact HFin.out
  | some po =>
   have HFi : Hid (OneFine m b) := LH (HFn.out.2 ⟨fun h => absurd h (by decide), fun _ _ => by rw [hpo]; rfl⟩)
   have hsz : objSize po.p po.d ≤ 200000 := by
    have h1 : objSize po.p po.d ≤ roomN po.p po.d := by
     by_cases h0 : objSize po.p po.d = 0
     ·omega
     ·exact room_fits h0
    have h2 := (placed_room hpo).pos.2.2
    rw [hok.lenL] at h2
    omega
   have HSz : Hid (sizeP m (512 * b) = objSize po.p po.d) := LH (by unfold sizeP; rw [hpo])
   have HPl : Hid (∀ w', Below w0.heap.size w0 w' → Calls Tryz.prog 166 #[valloc A, .int .i64 ((512 * b : Nat) : Int)] w' (fun e w2 => e = .returned (.tuple #[.agg #[.int .i64 po.p, .int .i64 po.d], .bool true]) ∧ Below w'.heap.size w' w2)) := LH (fun w' h' => (aplace_any (HA0.out.below h') (by omega) ((512 * b : Nat) : Int)).mono (by
    rintro e w2 ⟨⟨p, d, rfl, hpd⟩, hb4⟩
    have h1 := hpd _ hpo
    rw [hpo, h1]
    exact ⟨rfl, hb4⟩))
   have HGm := LH (bgeom_any HA0.out.man)
   have HFs := LH (fun w => gfirstN_any B (by omega) b hbB w)
   have HUs := LH (fun w' (h' : Below w0.heap.size w0 w') => aused_any (HA0.out.below h') ((512 * b : Nat) : Int))
   rw [hasI_nat, hus] at HUs
   have hxe : (b : Int) * 512 = ((512 * b : Nat) : Int) := by omega
   rw [hxe] at HFs
   have a0 := HA0.out.c0
   obtain ⟨p, hp⟩ : ∃ p, p = po.p := ⟨_, rfl⟩
   obtain ⟨d, hd⟩ : ∃ d, d = po.d := ⟨_, rfl⟩
   rw [← hp, ← hd] at HPl HSz hsz
   obtain ⟨xx, hxx⟩ : ∃ xx, xx = 512 * b := ⟨_, rfl⟩
   rw [← hxx] at HPl HUs HFs HSz HOne
   clear hxe hr hus hpo hp hd hxx hLa hlg
   go_wp2_with fail
   refine HGm.out.mono ?_
   rintro e w2 ⟨rfl, hb2⟩
   have HB2 := LH hb2
   clear hb2 a0
   go_wp2_with fail
   refine (HFs.out _).mono ?_
   rintro e w3 ⟨rfl, hb3⟩
   have HB3 := LH (HB2.out.trans (hb3.mono HB2.out.size))
   clear hb3 HB2
   go_wp2_with fail
   refine (HPl.out _ HB3.out).mono ?_
   rintro e w4 ⟨rfl, hb4⟩
   have HM5 := LH (Mem.one w4 #[.int .i64 p, .int .i64 d] 169)
   have HB5 : Hid (Below w0.heap.size w0 (w4.alloc (.cells #[.int .i64 p, .int .i64 d] 169))) := LH ((HB3.out.trans (hb4.mono HB3.out.size)).trans (HM5.out.below.mono (Nat.le_trans HB3.out.size hb4.size)))
   obtain ⟨qo, hqo⟩ : ∃ qo, qo = w4.heap.size := ⟨_, rfl⟩
   clear hb4 HB3 HPl HFs
   go_upto_region 10 with fail
   rw [← hqo] at HM5 ⊢
   generalize w4.alloc _ = w5 at *
   clear hqo
   have HA5 := LH (HUs.out _ HB5.out)
   go_wp2_with fail
   refine HA5.out.mono ?_
   rintro e w6 ⟨rfl, rfl⟩
   have HR5 := LH (HR0.out.below HB5.out)
   have g2 := (HM.out.later HB5.out).cell 0 2 rfl rfl
   have hl512 : l * 512 ≤ 200000 := by omega
   have hl0 : 0 ≤ l * 512 := by omega
   have HAd := LH (radd_any HR5.out (hRo.mono (by omega)) p d (l * 512) (by omega) hl0 (by omega))
   have o0 := HM5.out.cell 0 0 rfl rfl
   have o1 := HM5.out.cell 0 1 rfl rfl
   clear HUs HA5 HR5
   trace_state
   go_wp2_with fail
   refine HAd.out.mono ?_
   rintro e w7 ⟨rfl, hr7, ht7⟩
   have HT7 : Hid (Touch [r] w w7) := LH (((Touch.ofBelow HB0.out).trans (Touch.ofBelow HB5.out)).trans ht7)
   have HR7 := LH hr7
   clear hr7 ht7 o0 o1 g2
   have g7 : w7.cell? ⟨r, 2, none⟩ = some (vi R.lg) := HR7.out.cell rfl
   have f7 := HR7.out.row.frozen 2
   have hlgR : R.lg ≤ 100000000 := hRo.2.2.1
   obtain ⟨h1, t1⟩ := HR7.out.set (R' := { R.add (objSize p d) (l * 512) with lg := R.lg + 1 }) 2 (.int .i64 ((R.lg : Int) + 1)) rfl
   have HFin := LH (HP.out _ (by rw [HOne.out, if_neg (by omega), if_neg (by omega), if_pos trivial, HSz.out]; exact h1) HFi.out (HT7.out.trans t1))
   clear h1 t1 HR7 HT7
   go_wp2_with fail
   exact HFin.out
 have hk2' : (k == 2) = false := by simpa using hk2
 have HFin := LH (HP.out w0 (by rw [HOne.out, if_neg hk0, if_neg hk1, if_neg hk2]; exact HR0.out) (HFn.out.2 ⟨fun h => absurd h hk1, fun h => absurd h hk2⟩) (Touch.ofBelow HB0.out))
 go_wp2_with fail
 exact HFin.out
structure CkF (B : Nat) (m : Al) : Prop where
 lists : ∀ {k : Nat} {ys : List Nat}, k < 32 → (∀ a, ys.count a = m.fl.cnt k a) → ys.Nodup ∧ ∀ x, ys.contains x = isFree m k x
 at_ : ∀ {k x : Nat}, isFree m k x = true → 512 ≤ x ∧ x < 512 * B ∧ m.bm.list.getD (x / 512) default = ⟨1, k, 0⟩ ∧ begins k x = true
theorem AlOk.ckF {B : Nat} {m : Al} (h : AlOk B m) : CkF B m := ⟨fun hk hc => free_list h hk hc, fun hx => isFree_at h hx⟩
theorem CkF.dev {B : Nat} {m : Al} (h : CkF B m) (d : Dev) : CkF B ⟨⟨d, m.bm.list, m.bm.free⟩, m.used, m.fl⟩ := ⟨fun hk hc => h.lists hk hc, fun hx => h.at_ hx⟩
set_option maxHeartbeats 8000000 in
set_option maxRecDepth 100000 in
theorem cfree_gen {w : World} {A : AF} {n B : Nat} {m : Al} (h : AlAt w A n B m) (hok : CkF B m) (hB1 : 1 ≤ B) (hB : B ≤ 100) (hL : m.fl.upto 900000) :
  Calls Tryz.prog 176 #[valloc A] w (CfPost w m) := by
 have HP : Hid (∀ mp n M w', w.heap.size ≤ mp → VMap Tryz.prog 3 w' mp n M → InM M (freeUpto m 32) → Below w.heap.size w w' → CfPost w m (.returned (.tuple #[.map (some mp), .int .i64 0, .int .i64 0])) w') := LH (fun mp n M w' h1 h2 h3 h4 => ⟨mp, n, M, rfl, h1, h2, h3, h4⟩)
 generalize CfPost w m = Post at *
 have HA := LH h
 have HOk := LH hok
 have HLu := LH hL
 have HMp := LH (VMap.made w Tryz.prog 3)
 have HB0 := LH (below_alloc w (.map #[] 0))
 clear h hok hL
 have hmm := @run_makeMap Tryz.prog
 go_enter Tryz.func176, Tryz.ntmps176
 go_upto_block 0 with fail
 clear hmm
 obtain ⟨mp, hmp⟩ : ∃ mp, mp = w.heap.size := ⟨_, rfl⟩
 rw [← hmp] at HMp ⊢
 have HMq : Hid (w.heap.size ≤ mp) := LH (by rw [hmp]; exact Nat.le_refl _)
 generalize w.alloc _ = w0 at *
 clear hmp
 go_wp2_with fail
 go_loopw [12] (fun kv wr => ∃ (k n1 : Nat) (M : Lit → Option Value), k ≤ 32 ∧ kv = .int .i64 (k : Int) ∧ n1 ≤ 1000000 * k ∧ Hid (VMap Tryz.prog 3 wr mp n1 M) ∧ Hid (InM M (freeUpto m k)) ∧ Hid (Below w.heap.size w wr)) (fun kv _ => 32 - (RowKit.intOf kv).toNat)
 case atStart => exact ⟨0, 0, _, by omega, rfl, by omega, HMp, LH (fun x _ => rfl), HB0⟩
 case round =>
  clear HMp HB0
  obtain ⟨k, n1, M, hk32, rfl, hn1, HV, HI, HB⟩ := hrel
  by_cases hlt : k < 32
  case neg =>
   obtain rfl : k = 32 := by omega
   have HFin := LH (HP.out mp n1 M wr HMq.out HV.out HI.out HB.out)
   clear HV HI HB
   go_wp2_with fail
   go_ret3
   exact HFin.out
  have hlt' : (k : Int) < 32 := by omega
  have HFc := LH (afreeCells_any (HA.out.below HB.out) HLu.out k hlt)
  go_wp2_with fail
  refine HFc.out.mono ?_
  rintro e w5 ⟨vy, ys, rfl, ho5, _, hc5, _, hb5⟩
  obtain ⟨ay, cy, rfl, hcy, _, _⟩ := ho5.cells
  obtain ⟨hnd, hin⟩ := HOk.out.lists hlt hc5
  have HNd := LH hnd
  have HIn := LH hin
  have HC5 := LH hcy
  have HV5 := LH (HV.out.block (hb5.block mp HV.out.lt))
  have HB5 := LH (HB.out.trans (hb5.mono HB.out.size))
  have HYl : Hid (ys.length ≤ 100000) := LH (by
   have h1 := nodup_len (512 * B) ys (fun x hx => (HOk.out.at_ ((hin x).symm.trans (by simpa using hx))).2.1) (fun a => List.nodup_iff_count.1 hnd a)
   omega)
  obtain ⟨yl, hyl⟩ : ∃ yl, yl = ys.length := ⟨_, rfl⟩
  have HYn := LH hyl
  rw [← hyl] at HYl ⊢
  have hyl9 := HYl.out
  clear ho5 hcy hc5 hb5 hnd hin hyl HFc HV HB
  rename World => wz
  go_wp2_with fail
  go_loopw [19] (fun iv wr => ∃ (i n2 : Nat) (M2 : Lit → Option Value), i ≤ yl ∧ iv = .int .i64 (i : Int) ∧ n2 ≤ 1000000 * k + i ∧ Hid (VMap Tryz.prog 3 wr mp n2 M2) ∧ Hid (InM M2 (fun x => freeUpto m k x || (ys.take i).contains x)) ∧ Hid (Cells wr ay (ys.map vi)) ∧ Hid (Below w.heap.size w wr)) (fun iv _ => yl - (RowKit.intOf iv).toNat)
  case atStart => exact ⟨0, n1, M, Nat.zero_le _, rfl, by omega, HV5, LH (HI.out.same (fun x => by simp)), HC5, HB5⟩
  case round =>
   clear HV5 HI HC5 HB5
   obtain ⟨i, n2, M2, hi, rfl, hn2, HV, HI, HC, HB⟩ := hrel
   by_cases hil : i < yl
   case neg =>
    obtain rfl : i = yl := by omega
    have hil' : decide ((i : Int) < (i : Int)) = false := by simp
    have HI2 : Hid (InM M2 (freeUpto m (k + 1))) := LH (HI.out.same (fun x => by rw [freeUpto_step, HYn.out, List.take_length, HIn.out x]))
    clear HI HC
    go_wp2_with fail
    refine ⟨⟨k + 1, n2, M2, by omega, vint (by omega), by omega, HV, HI2, HB⟩, ?_⟩
    simp [RowKit.intOf]; omega
   have hil' : (i : Int) < (yl : Int) := by omega
   obtain ⟨x, hx⟩ : ∃ x, ys[i]? = some x := ⟨_, List.getElem?_eq_getElem (by rw [← HYn.out]; exact hil)⟩
   have hmem : x ∈ ys := List.mem_of_getElem? hx
   have hfr : isFree m k x = true := by rw [← HIn.out x]; simpa using hmem
   obtain ⟨x1, x2, x3, x4⟩ := HOk.out.at_ hfr
   have HNo : Hid ((freeUpto m k x || (ys.take i).contains x) = false) := LH (by
    rw [freeUpto_no hfr, Bool.false_or, ← Bool.not_eq_true, List.contains_iff_mem]
    intro hm
    obtain ⟨j, hj, hjx⟩ := List.mem_iff_getElem.1 hm
    rw [List.length_take] at hj
    have h1 : ys[j]? = some x := by rw [List.getElem?_eq_getElem (by omega)]; rw [List.getElem_take] at hjx; rw [hjx]
    have := (List.getElem?_inj (by rw [← HYn.out]; exact hil) HNd.out).1 (hx.trans h1.symm)
    omega)
   have HStp : Hid (∀ z, (freeUpto m k z || (ys.take (i + 1)).contains z) = ((freeUpto m k z || (ys.take i).contains z) || decide (z = x))) := LH (fun z => by
    rw [Bool.or_assoc]
    congr 1
    rw [Bool.eq_iff_iff, List.take_add_one, hx]
    simp)
   obtain ⟨b1, o1, q1, _, hc1⟩ := HC.out.at (i := i) (by rw [List.length_map, ← HYn.out]; exact hil)
   have hc1 := hc1 i (vi x) (by rw [List.getElem?_map, hx]; rfl)
   have HAr := LH (HA.out.below HB.out)
   have a0 := HAr.out.c0
   subst q1
   clear hx hmem hfr
   rename World => wv
   go_wp2_with fail
   refine (bgeom_any HAr.out.man).mono ?_
   rintro e w6 ⟨rfl, hb6⟩
   have HB6 := LH hb6
   have HCt := LH (cat_full B (by omega) k x hlt x1 x2 w6)
   have hx9 : x ≤ 100000 := by omega
   clear hb6 hc1 a0
   go_wp2_with fail
   refine HCt.out.mono ?_
   rintro e w7 ⟨⟨yy, rfl⟩, hb7⟩
   rw [x4]
   obtain ⟨xb, hxb⟩ : ∃ xb, xb = x / 512 := ⟨_, rfl⟩
   rw [← hxb] at x3 ⊢
   have hxb1 : 1 ≤ xb := by omega
   have hxbB : xb < B := by omega
   have HM8 := LH (Mem.one w7 #[.int .i64 (xb : Int), .int .i64 yy] 289)
   have HB8 : Hid (Below wv.heap.size wv (w7.alloc (.cells #[.int .i64 (xb : Int), .int .i64 yy] 289))) := LH ((HB6.out.trans (hb7.mono HB6.out.size)).trans (HM8.out.below.mono (Nat.le_trans HB6.out.size hb7.size)))
   obtain ⟨q9, hq9⟩ : ∃ q9, q9 = w7.heap.size := ⟨_, rfl⟩
   have HX3 := LH x3
   clear hb7 HCt HB6 hxb x1 x2 x3 x4
   go_upto_region 9 with fail
   rw [← hq9] at HM8 ⊢
   generalize w7.alloc _ = w8 at *
   clear hq9
   have HA8 := LH (HAr.out.below HB8.out)
   have a0 := HA8.out.c0
   have a1 := HA8.out.man.c0
   have d0 := HM8.out.cell 0 0 rfl rfl
   have r0 := fun x => later_cell a0 x
   have r1 := fun x => later_cell a1 x
   have r2 := fun x => later_cell d0 x
   have HGet := LH (fun w' (h' : Below w8.heap.size w8 w') => tget_any ((HA8.out.below h').man.tab.at (MF.notHot (MF.apart (HA8.out.below h').man.nd).t).1) (xb : Int) (by rw [HA8.out.man.tab.len]; omega))
   rw [hdGet_nat hxb1 (by rw [HA8.out.man.tab.len]; exact hxbB), HX3.out] at HGet
   unfold Hd.val at HGet
   dsimp only at HGet
   refine wp_region_seg (C := fun w' => ∃ x : Later (w8), w' = x.val) [.sq [0, 1, 2] false, .fl [3, 4, 5, 6, 7, 8, 9, 10, 11, 13, 14], .sq [12] true, .sq [15, 16, 17] false] (by kernel_rfl) (by kernel_rfl) (by intro c a d v w h; cases d <;> exact h) ?_
   simp only [segs, picks, List.getElem?_cons_succ, List.getElem?_cons_zero]
   have hC1 := later_drew (w8)
   refine wpSeg_sq (fun K hK => ?_)
   go_wp2_with fail
   go_wp2_with fail
   refine hK _ _ (fun h => nomatch h) ?_
   clear hK K
   refine wpSeg_fl hC1 ?_
   repeat (first | go_big_quiet_step (fail) | quiet_step (fail))
   refine wpQuiet_nil ?_
   refine wpSeg_sq (fun K hK => ?_)
   go_wp2_with fail
   refine (HGet.out _ (later_below hC1)).mono ?_
   rintro e w9 ⟨rfl, hb9⟩
   have hC2 := later_step hC1 hb9
   clear hb9
   go_wp2_with fail
   refine hK _ _ (fun _ => hC2) ?_
   clear hK K
   have HB9 : Hid (Below wv.heap.size wv w9) := LH (HB8.out.trans ((later_below hC2).mono HB8.out.size))
   have HV9 := LH (HV.out.block (HB9.out.block mp HV.out.lt))
   have HC9 := LH (HC.out.below HB9.out (Nat.le_refl _))
   have HGm : Hid ((M2 (.int .i64 (x : Int))).getD (.bool false) = .bool false) := LH (by rw [HI.out.get (by omega), HNo.out])
   have hkey := key_int x (by omega)
   have hn9 : n2 < maxLen := by have : maxLen = 9223372036854775807 := rfl; omega
   clear r0 r1 r2 a0 a1 d0 hC1 hC2 HGet HM8 HA8 HAr HB8 HV HC HX3
   refine wpSeg_last ?_
   go_wp2_with (first
    | (refine wpList_vlook rfl _ _ 279 rfl 3 4 keyed_int Tryz.underlying279 _ (zero_bool _) mp n2 M2 rfl HV9.out _ _ rfl hkey ?_; rw [HGm.out])
    | (refine wpList_vstore rfl _ _ _ 279 rfl 3 4 keyed_int Tryz.underlying279 mp n2 M2 rfl HV9.out hn9 _ _ _ rfl rfl hkey ?_; intro wf h6 hg6; have HV6 := LH h6; have HG6 := LH hg6; clear h6 hg6))
   have HC6 := LH (cells_vmap HV9.out HC9.out HG6.out)
   have HBf : Hid (Below w.heap.size w wf) := LH (below_touch (HB.out.trans (HB9.out.mono HB.out.size)) (grown_touchO HG6.out) (fun b hb => by simp at hb; subst hb; exact HMq.out) (Nat.le_refl _))
   refine ⟨⟨i + 1, n2 + 1, _, by omega, vint (by omega), by omega, HV6, LH (HI.out.put HStp.out), HC6, HBf⟩, ?_⟩
   simp [RowKit.intOf]; omega
def BadPost (w : World) : Ending → World → Prop := fun e w' => ∃ at_ er : Int, er ≠ 0 ∧ e = .returned (.tuple #[.agg zeroRep.cs.toArray, .int .i64 at_, .int .i64 er]) ∧ Below w.heap.size w w'
set_option maxHeartbeats 8000000 in
set_option maxRecDepth 100000 in
theorem cwhole_hd {w : World} {A : AF} {n B : Nat} {m : Al} (h : AlAt w A n B m) (hbad : ¬ GoodTo m.bm.dev B) (hB1 : 2 ≤ B) (hB : B ≤ 100) :
  Calls Tryz.prog 78 #[valloc A] w (BadPost w) := by
 have HP : Hid (∀ w' (at_ er : Int), er ≠ 0 → Below w.heap.size w w' → BadPost w (.returned (.tuple #[.agg zeroRep.cs.toArray, .int .i64 at_, .int .i64 er])) w') := LH (fun w' a e h1 h2 => ⟨a, e, h1, rfl, h2⟩)
 generalize BadPost w = Post at *
 have HA := LH h
 have HM0 := LH (Mem.one w zeroRep.cs.toArray 157)
 have c0' := (h.below HM0.out.below).c0
 clear h
 go_enter Tryz.func78, Tryz.ntmps78
 go_upto_region 1 with fail
 rw [show (#[.int .i64 0, .int .i64 0, .int .i64 0, .int .i64 0, .int .i64 0, .int .i64 0, .int .i64 0] : Array Value) = zeroRep.cs.toArray from rfl]
 obtain ⟨q2, hq2⟩ : ∃ q, q = w.heap.size := ⟨_, rfl⟩
 have HQ2 := LH hq2
 rw [← hq2] at HM0 ⊢
 generalize w.alloc _ = w0 at *
 have HA0 := LH (HA.out.below HM0.out.below)
 clear hq2
 go_wp2_with fail
 refine (bgeom_any HA0.out.man).mono ?_
 rintro e w1 ⟨rfl, hb1⟩
 have HM1 := LH ((HM0.out.later hb1).alloc #[.int .i64 (B : Int)] 44)
 have HA1 := LH ((HA0.out.below hb1).below (below_alloc w1 (.cells #[.int .i64 (B : Int)] 44)))
 clear hb1 c0'
 go_upto_region 2 with fail
 obtain ⟨q5, hq5⟩ : ∃ q, q = w1.heap.size := ⟨_, rfl⟩
 rw [← hq5] at HM1 ⊢
 generalize w1.alloc _ = w2 at *
 clear hq5
 have e5 := HM1.out.cell 1 0 rfl rfl
 have r5 := fun x => later_cell e5 x
 refine wp_region_seg (C := fun w' => ∃ x : Later (w2), w' = x.val) [.fl [0, 2], .sq [1] true, .sq [3, 4] false, .fl [5, 6, 7, 8, 9], .sq [10] false] (by kernel_rfl) (by kernel_rfl) (by intro c a d v w h; cases d <;> exact h) ?_
 simp only [segs, picks, List.getElem?_cons_succ, List.getElem?_cons_zero]
 have hC1 := later_drew (w2)
 refine wpSeg_fl hC1 ?_
 repeat (first | go_big_quiet_step (fail) | quiet_step (fail))
 refine wpQuiet_nil ?_
 refine wpSeg_sq (fun K hK => ?_)
 go_wp2_with fail
 refine (adev_any (HA1.out.below (later_below hC1))).mono ?_
 rintro e w3 ⟨rfl, rfl⟩
 go_wp2_with fail
 refine hK _ _ (fun _ => hC1) ?_
 clear hK K
 refine wpSeg_sq (fun K hK => ?_)
 go_wp2_with fail
 refine (cheaders_any (HA1.out.below (later_below hC1)).man.dev B (by omega) (by omega)).mono ?_
 rintro e w4 ⟨hb4, ⟨hg, _⟩ | ⟨b, b1, b2, _, _, rfl⟩ | ⟨hg, _⟩⟩
 ·exact absurd hg hbad
 ·have hC2 := later_step hC1 hb4
  have HM4 := LH (HM1.out.later (later_below hC2))
  clear hb4 r5 e5
  go_wp2_with fail
  refine hK _ _ (fun h => nomatch h) ?_
  clear hK K
  refine wpSeg_fl hC2 ?_
  repeat (first | go_big_quiet_step (fail) | quiet_step (fail))
  refine wpQuiet_nil ?_
  clear hC1 hC2
  refine wpSeg_last ?_
  go_wp2_with (refine wpList_store_mem aggRep HM4.out 0 rfl rfl rfl rfl rfl rfl rfl rfl ?_; intro w6 h6 ht6; have H6 := LH h6; clear h6 ht6)
  refine bodyPost_ret (rep_result3 (p := 2) (u := 3) (z := 4) rfl _ _ _ _ _ _ _ rfl (H6.out.exact 0 rfl) Tryz.underlying157 rfl (by kernel_rfl)) rfl ?_
  exact HP.out _ _ _ (by decide) H6.out.below
 ·exact absurd hg hbad
set_option maxHeartbeats 8000000 in
set_option maxRecDepth 100000 in
theorem cwhole_bad {w : World} {A : AF} {n B : Nat} {m : Al} (h : AlAt w A n B m) (hok : HdsOk B m) (hlg : LgOk m) (hckf : CkF B m) (hup : m.fl.upto 900000) (hgood : GoodTo m.bm.dev B) (hsnd : soundN (hds (devWord m.bm.dev) B) B 1 = 0) (hhds : ∀ q, 1 ≤ q → (hds (devWord m.bm.dev) B).getD q default = m.bm.list.getD q default) (hbad : ∃ b, 1 ≤ b ∧ b < B ∧ ¬ OneFine m b) (hB1 : 2 ≤ B) (hB : B ≤ 100) :
  Calls Tryz.prog 78 #[valloc A] w (BadPost w) := by
 have HP : Hid (∀ w' (at_ er : Int), er ≠ 0 → Below w.heap.size w w' → BadPost w (.returned (.tuple #[.agg zeroRep.cs.toArray, .int .i64 at_, .int .i64 er])) w') := LH (fun w' a e h1 h2 => ⟨a, e, h1, rfl, h2⟩)
 generalize BadPost w = Post at *
 have HA := LH h
 have HM0 := LH (Mem.one w zeroRep.cs.toArray 157)
 have c0' := (h.below HM0.out.below).c0
 clear h
 go_enter Tryz.func78, Tryz.ntmps78
 go_upto_region 1 with fail
 rw [show (#[.int .i64 0, .int .i64 0, .int .i64 0, .int .i64 0, .int .i64 0, .int .i64 0, .int .i64 0] : Array Value) = zeroRep.cs.toArray from rfl]
 obtain ⟨q2, hq2⟩ : ∃ q, q = w.heap.size := ⟨_, rfl⟩
 have HQ2 := LH hq2
 rw [← hq2] at HM0 ⊢
 generalize w.alloc _ = w0 at *
 have HA0 := LH (HA.out.below HM0.out.below)
 clear hq2
 go_wp2_with fail
 refine (bgeom_any HA0.out.man).mono ?_
 rintro e w1 ⟨rfl, hb1⟩
 have HM1 := LH ((HM0.out.later hb1).alloc #[.int .i64 (B : Int)] 44)
 have HA1 := LH ((HA0.out.below hb1).below (below_alloc w1 (.cells #[.int .i64 (B : Int)] 44)))
 clear hb1 c0'
 go_upto_region 2 with fail
 obtain ⟨q5, hq5⟩ : ∃ q, q = w1.heap.size := ⟨_, rfl⟩
 rw [← hq5] at HM1 ⊢
 generalize w1.alloc _ = w2 at *
 clear hq5
 have e5 := HM1.out.cell 1 0 rfl rfl
 have r5 := fun x => later_cell e5 x
 refine wp_region_seg (C := fun w' => ∃ x : Later (w2), w' = x.val) [.fl [0, 2], .sq [1] true, .sq [3, 4] false, .fl [5, 6, 7, 8, 9], .sq [10] false] (by kernel_rfl) (by kernel_rfl) (by intro c a d v w h; cases d <;> exact h) ?_
 simp only [segs, picks, List.getElem?_cons_succ, List.getElem?_cons_zero]
 have hC1 := later_drew (w2)
 refine wpSeg_fl hC1 ?_
 repeat (first | go_big_quiet_step (fail) | quiet_step (fail))
 refine wpQuiet_nil ?_
 refine wpSeg_sq (fun K hK => ?_)
 go_wp2_with fail
 refine (adev_any (HA1.out.below (later_below hC1))).mono ?_
 rintro e w3 ⟨rfl, rfl⟩
 go_wp2_with fail
 refine hK _ _ (fun _ => hC1) ?_
 clear hK K
 refine wpSeg_sq (fun K hK => ?_)
 go_wp2_with fail
 refine (cheaders_any (HA1.out.below (later_below hC1)).man.dev B (by omega) (by omega)).mono ?_
 intro e w4 hpost
 obtain ⟨hb4, g, gc, rfl, hg, hgc, hr4⟩ : Below _ _ w4 ∧ ∃ g c, e = .returned (.tuple #[.slice (some ⟨g, 0, none⟩) B c, .int .i64 0, .int .i64 0]) ∧ w2.drew.heap.size ≤ g ∧ B ≤ c ∧ RowAt w4 g 103 (hdCs (hds (devWord m.bm.dev) B)) := by
  obtain ⟨h1, ⟨_, _, h2⟩ | ⟨b, b1, b2, _, hn, _⟩ | ⟨_, z, hz, hne, _⟩⟩ := hpost
  ·exact ⟨h1, h2⟩
  ·exact absurd (hgood b b1 b2) hn
  ·exact absurd (hsnd.symm.trans hz).symm hne
 clear hpost
 have hC2 := later_step hC1 hb4
 have HB4 := LH (later_below hC2)
 have HR4 := LH hr4
 have HG := LH hg
 clear hb4 hr4 hg r5 e5
 go_wp2_with fail
 refine hK _ _ (fun h => nomatch h) ?_
 clear hK K
 refine wpSeg_fl hC2 ?_
 repeat (first | go_big_quiet_step (fail) | quiet_step (fail))
 refine wpQuiet_nil ?_
 refine wpSeg_last ?_
 go_wp2_with fail
 clear hC1 hC2
 have HA4 := LH (HA1.out.below HB4.out)
 have HM4 := LH (HM1.out.later HB4.out)
 clear HB4 HM1 HM0 HA0 HA1
 go_wp2_with fail
 refine (cfree_gen HA4.out hckf (by omega) (by omega) hup).mono ?_
 rintro e w5 ⟨mp, nn, M, rfl, hmp, hV, hI, hb5⟩
 have HA5 := LH ((HA4.out.below hb5).below (below_alloc w5 (.cells zeroRep.cs.toArray 157)))
 have HM5 := LH ((HM4.out.later hb5).alloc zeroRep.cs.toArray 157)
 have HRp0 : Hid (RepAt (w5.alloc (.cells zeroRep.cs.toArray 157)) w5.heap.size (repTo m 0)) := LH (heap_alloc_new _ _)
 have HG5 : Hid (RowAt (w5.alloc (.cells zeroRep.cs.toArray 157)) g 103 (hdCs (hds (devWord m.bm.dev) B))) := LH (HR4.out.keep (((hb5.trans ((below_alloc w5 (.cells zeroRep.cs.toArray 157)).mono hb5.size))).block g HR4.out.lt))
 have HV5 : Hid (VMap Tryz.prog 3 (w5.alloc (.cells zeroRep.cs.toArray 157)) mp nn M) := LH (hV.block ((below_alloc w5 (.cells zeroRep.cs.toArray 157)).block mp hV.lt))
 have HLt5 : Hid (g < w5.heap.size ∧ mp < w5.heap.size ∧ w.heap.size ≤ w5.heap.size ∧ q2 < w5.heap.size) := LH ⟨Nat.lt_of_lt_of_le HR4.out.lt hb5.size, hV.lt, (HM4.out.later hb5).below.size, (HM4.out.later hb5).glt 0 rfl⟩
 have hLl : (hds (devWord m.bm.dev) B).length = B := hds_length _ _
 have hLa := hhds
 clear hb5 hV hmp HA4 HM4 HR4 HG
 go_upto_region 9 with fail
 rw [show (#[.int .i64 0, .int .i64 0, .int .i64 0, .int .i64 0, .int .i64 0, .int .i64 0, .int .i64 0] : Array Value) = zeroRep.cs.toArray from rfl]
 obtain ⟨q, hq⟩ : ∃ q, q = w5.heap.size := ⟨_, rfl⟩
 rw [← hq] at HM5 HRp0 ⊢
 have HQ : Hid (g ≠ q ∧ mp ≠ q ∧ q2 ≠ q ∧ w.heap.size ≤ q) := LH ⟨by have := HLt5.out; omega, by have := HLt5.out; omega, by have := HLt5.out; omega, by have := HLt5.out; omega⟩
 have HrA : Hid (q ∉ A.list) := LH (fun hm => by have := HA.out.mem q hm; have := HQ.out; omega)
 generalize w5.alloc _ = w6 at *
 clear hq HLt5
 have HOkS := LH (fun (R : Rep) (N b : Nat) (h : R.ok N) (h1 : 1 ≤ b) (h2 : b < B) => one_ok2 hok h h1 h2)
 clear hgood hsnd
 generalize hds (devWord m.bm.dev) B = L at *
 go_wp2_with fail
 go_loopw [11] (fun iv wr => ∃ (j : Nat) (R : Rep), j + 1 ≤ B ∧ iv = .int .i64 ((j + 1 : Nat) : Int) ∧ Hid (RepAt wr q R) ∧ Hid (R.ok (400000 * j)) ∧ Hid (∀ b, 1 ≤ b → b ≤ j → OneFine m b) ∧ Hid (Touch [q] w6 wr)) (fun iv _ => B - (intOf iv).toNat)
 case atStart => exact ⟨0, repTo m 0, by omega, rfl, HRp0, LH ⟨Nat.le_refl _, Nat.le_refl _, Nat.le_refl _, Nat.le_refl _, Nat.le_refl _, Nat.le_refl _, by simp [repTo], by simp [repTo]⟩, LH (fun b h1 h2 => by omega), LH (Touch.refl _ _)⟩
 case round =>
  obtain ⟨j, R, hj, rfl, HRp, HRo, HFi, HT⟩ := hrel
  by_cases hlt : j + 1 < B
  ·have hlt' : ((j + 1 : Nat) : Int) < (B : Int) := by omega
   have HAr := LH (HA5.out.keep (fun k hk => HT.out.block k (HA5.out.mem k hk) (by simp; intro e; exact HrA.out (e ▸ hk))))
   have HVr := LH (HV5.out.block (HT.out.block mp HV5.out.lt (by simp; exact HQ.out.2.1)))
   have HCr := LH (HG5.out.keep (HT.out.block g HG5.out.lt (by simp; exact HQ.out.1))).cells
   have HOne := LH (rone_gen HAr.out hok (by omega) hlg HVr.out hI HRp.out (HRo.out.mono (by omega)) HrA.out (lc := gc) HCr.out hLl hLa (show 1 ≤ j + 1 by omega) hlt)
   have HRn := LH (HOkS.out R (400000 * j) (j + 1) HRo.out (by omega) hlt)
   have HMq := LH (fun w' R' (t : Touch [q] w6 w') (h : RepAt w' q R') => HM5.out.upd 2 (y := ⟨q, 157, R'.cs, true⟩) rfl rfl t ⟨_, h, [], by simp, fun _ => rfl⟩)
   clear HAr HVr HCr
   go_wp2_with fail
   refine HOne.out.mono ?_
   rintro e w7 ⟨ht7, ⟨rfl, hr7, hf7⟩ | ⟨x, _, _, rfl, R', hr7⟩⟩
   ·have HR7 := LH hr7
    have HT7 := LH (HT.out.trans ht7)
    have HF7 : Hid (∀ b, 1 ≤ b → b ≤ j + 1 → OneFine m b) := LH (fun b h1 h2 => by
     by_cases e : b = j + 1
     ·subst e; exact hf7
     ·exact HFi.out b h1 (by omega))
    have HRo7 := LH (HRn.out.mono (show 400000 * j + 400000 ≤ 400000 * (j + 1) by omega))
    clear hr7 ht7 hf7 HOne HMq
    go_wp2_with fail
    exact ⟨⟨j + 1, _, by omega, vint (by omega), HR7, HRo7, HF7, HT7⟩, by simp [intOf]; omega⟩
   ·have HMb := LH (HMq.out w7 R' (HT.out.trans ht7) hr7)
    clear hr7 ht7 HOne HMq
    go_wp2_with (refine wpList_store_mem aggRep HMb.out 0 rfl rfl rfl rfl rfl rfl rfl rfl ?_; intro w6 h6 ht6; have H6 := LH h6; clear h6 ht6)
    refine bodyPost_ret (rep_result3 (p := 2) (u := 3) (z := 4) rfl _ _ _ _ _ _ _ rfl (H6.out.exact 0 rfl) Tryz.underlying157 rfl (by kernel_rfl)) rfl ?_
    exact HP.out _ _ _ (by decide) H6.out.below
  ·exfalso
   obtain ⟨b, b1, b2, hb⟩ := hbad
   exact hb (HFi.out b b1 (by omega))
end Go.Proofs.YtpopbfagliagnaaGreat
namespace Go.Proofs.YtpopbfagliagnaaGreat
open Go.RowKit
theorem store_last (S : Dev) (i : Int) (x : Nat) : (S.store i x).lasting = S.lasting := by
 have h : S.step.lasting = S.lasting := by unfold Dev.step; split <;> rfl
 unfold Dev.store
 split
 ·rfl
 ·split
  ·exact h
  ·exact h
section
variable {B : Nat} {m : Al}
def Al.turn (m : Al) (a v : Nat) : Al := ⟨⟨m.bm.dev.store (a : Int) v, m.bm.list, m.bm.free⟩, m.used, m.fl⟩
theorem turn_store (hok : AlOk B m) {a v : Nat} (ha : a < 512 * B) : m.bm.dev.storeE (a : Int) = 0 ∧ (m.bm.dev.store (a : Int) v).cache = m.bm.dev.cache.set a v :=
 hok.live.store_ok a v (by rw [hok.len]; exact ha)
theorem turn_get (hok : AlOk B m) {a v : Nat} (ha : a < 512 * B) (y : Nat) : (m.bm.dev.store (a : Int) v).cache.getD y 0 = if y = a then v else m.bm.dev.cache.getD y 0 := by
 rw [(turn_store hok ha).2, getD_setN _ _ _ _ (by rw [hok.len]; exact ha)]
theorem devWord_nat (S : Dev) (b : Nat) : devWord S b = S.cache.getD (256 + b) 0 := by
 unfold devWord peek
 rw [if_pos (by omega), show (256 + (b : Int)).toNat = 256 + b by omega]
theorem turn_head (hok : AlOk B m) {b v : Nat} (b1 : 1 ≤ b) (b2 : b < B) (hv : v ≠ m.bm.dev.cache.getD (256 + b) 0) : ¬ GoodTo (m.turn (256 + b) v).bm.dev B := fun hg => by
 obtain ⟨_, h2⟩ := hg b b1 b2
 obtain ⟨_, h3⟩ := good_all hok.bm b b1 b2
 rw [devWord_nat] at h2 h3
 have hl : (m.turn (256 + b) v).bm.dev.lasting = m.bm.dev.lasting := store_last _ _ _
 have hc : (m.turn (256 + b) v).bm.dev.cache.getD (256 + b) 0 = v := by
  show (m.bm.dev.store ((256 + b : Nat) : Int) v).cache.getD (256 + b) 0 = v
  rw [turn_get hok (by omega), if_pos rfl]
 rw [hl, hc, h3] at h2
 exact hv h2.symm
theorem turn_word (hok : AlOk B m) {a v : Nat} (ha : a < 512 * B) (ha2 : 512 ≤ a) (hB : B ≤ 200) {b : Nat} (b2 : b < B) : devWord (m.turn a v).bm.dev b = devWord m.bm.dev b := by
 rw [devWord_nat, devWord_nat]
 show (m.bm.dev.store (a : Int) v).cache.getD (256 + b) 0 = _
 rw [turn_get hok ha, if_neg (by omega)]
theorem turn_hds (hok : AlOk B m) {a v : Nat} (ha : a < 512 * B) (ha2 : 512 ≤ a) (hB : B ≤ 200) : hds (devWord (m.turn a v).bm.dev) B = hds (devWord m.bm.dev) B := by
 unfold hds
 refine List.map_congr_left (fun b hb => ?_)
 unfold hdF
 rw [turn_word hok ha ha2 hB (List.mem_range.1 hb)]
theorem turn_good (hok : AlOk B m) {a v : Nat} (ha : a < 512 * B) (ha2 : 512 ≤ a) (hB : B ≤ 200) : GoodTo (m.turn a v).bm.dev B := fun b b1 b2 => by
 obtain ⟨h1, h2⟩ := good_all hok.bm b b1 b2
 unfold HdGood
 rw [turn_word hok ha ha2 hB b2]
 refine ⟨h1, ?_⟩
 rw [show (m.turn a v).bm.dev.lasting = m.bm.dev.lasting from store_last _ _ _]
 exact h2
theorem turn_hdsOk (hok : AlOk B m) (a v : Nat) : HdsOk B (m.turn a v) := ⟨hok.bm.lenL, hok.bm.right⟩
theorem turn_lg (h : LgOk m) (a v : Nat) : LgOk (m.turn a v) := h
theorem turn_bad (hok : AlOk B m) (hlg : LgOk m) {a v : Nat} (hu : m.used.getD a false = true) (hp : placedN (m.turn a v).bm.dev m.bm.list (a : Int) = none) : ∃ b, 1 ≤ b ∧ b < B ∧ ¬ OneFine (m.turn a v) b := by
 obtain ⟨h1, h2, _⟩ := hok.used_kind hu
 refine ⟨a / 512, by omega, h2, fun hf => ?_⟩
 have hin : a ∈ ofB (a / 512) (onesL m.used) := mem_ofB.2 ⟨hu, rfl⟩
 have hno : ¬ FineAt (m.turn a v) a := fun h => by
  have := h hu
  rw [show (m.turn a v).bm.list = m.bm.list from rfl, hp] at this
  cases this
 rcases used_small hok hu with hk | hk
 ·obtain ⟨k, c, l, _, he, hcls⟩ := hd_is hok.bm (show 1 ≤ a / 512 by omega) h2
  have hk1 : k = 1 := by rw [he] at hk; exact hk
  obtain ⟨cn, rfl, hcn⟩ := hcls hk1
  subst hk1
  have hl0 : l = 0 := by
   have hr := of_decide_eq_true (hok.bm.right (a / 512) h2)
   rw [he] at hr
   unfold HdRight at hr
   dsimp only at hr
   omega
  subst hl0
  have hm := (ofB_small hok hcn (by omega) h2 he).mem_iff.1 hin
  have := hf.1 hk a (by
   show a ∈ cellL (a / 512) ((m.bm.list.getD (a / 512) default).c.toNat)
   rw [he, Int.toNat_natCast]
   exact (List.mem_filter.1 hm).1)
  exact hno this
 ·have hm := (ofB_large hok hlg hk).mem_iff.1 hin
  have e := List.mem_singleton.1 hm
  have := hf.2 hk
  rw [← e] at this
  exact hno this
end
end Go.Proofs.YtpopbfagliagnaaGreat
