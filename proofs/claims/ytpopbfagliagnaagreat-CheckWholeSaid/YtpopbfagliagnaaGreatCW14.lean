/- Parts of the proof, one behind the other: Ca, Pg, Cb, Cd, Cx, Arr, Ci, Cj, Ri. -/
import Derived.Test.YtpopbfagliagnaaGreatCW13
import Derived.OpenShut
import Derived.Lib.SmallJoins
set_option linter.unusedVariables false
namespace Go.Proofs.YtpopbfagliagnaaGreat
open Go.RowKit Go.Maps
theorem rep_result3 {P : Program} {fn : Func} {p u z : Tmp} {ty : TypeId} (h : fn.results = #[.cell p ty, .tmp u, .tmp z]) (tmps : Array Value) (w : World) (g : Nat) (t : TypeId) (cs : Array Value) (fr : Nat × Nat) (d : TypeDesc)
  (hp : tmps.getD p undef = .pointer (some ⟨g, 0, none⟩)) (hg : w.heap[g]? = some (.cells cs t fr))
  (hu : P.underlying ty = some d) (hd : (match d with | .struct _ | .array _ _ => true | _ => false) = true) (hi : (P.info? ty).map (·.size) = some cs.size) :
  (results fn tmps).run P w = .ok (.tuple #[.agg cs, tmps.getD u undef, tmps.getD z undef]) w := by
 have hp' : tmps[p]?.getD undef = .pointer (some ⟨g, 0, none⟩) := by simpa using hp
 simp [results, h, hp', asAddr, run_loadVar_row w g t ty cs fr d hg hu hd hi]
theorem aggRep : Agg Tryz.prog 157 #[.int .i64 0, .int .i64 0, .int .i64 0, .int .i64 0, .int .i64 0, .int .i64 0, .int .i64 0] := ⟨⟨_, Tryz.underlying157, rfl⟩, by kernel_rfl⟩
def zeroRep : Rep := ⟨0, 0, 0, 0, 0, 0, 0⟩
theorem run_isfree {B : Nat} {bm : Bm} (h : BmOk B bm) {s k i : Nat} (hm : (s, k) ∈ runsOf bm.free) (hi : i < k) : 1 ≤ s + i ∧ s + i < B ∧ (bm.list.getD (s + i) default).k = 0 := by
 have hr := ((runsOf_is bm.free).mem s k).1 hm
 exact (h.free (s + i)).1 (hr.2.1 (s + i) (by omega) (by omega))
def WholeIs (m : Al) (B : Nat) (w : World) : Ending → World → Prop := fun e w' => e = .returned (.tuple #[.agg (repTo m (B - 1)).cs.toArray, .int .i64 0, .int .i64 0]) ∧ Below w.heap.size w w'
set_option maxHeartbeats 8000000 in
set_option maxRecDepth 100000 in
theorem cwhole_any {w : World} {A : AF} {n B : Nat} {m : Al} (h : AlAt w A n B m) (hok : AlOk B m) (hlg : LgOk m) (hsn : Snd m.bm.list) (hB1 : 2 ≤ B) (hB : B ≤ 100) :
  Calls Tryz.prog 78 #[valloc A] w (WholeIs m B w) := by
 have HP : Hid (∀ w' (R : Rep), R = repTo m (B - 1) → Below w.heap.size w w' → WholeIs m B w (.returned (.tuple #[.agg R.cs.toArray, .int .i64 0, .int .i64 0])) w') := LH (fun w' R h1 h2 => by subst h1; exact ⟨rfl, h2⟩)
 generalize WholeIs m B w = Post at *
 have HA := LH h
 have HUp := LH (hok.upto.mono (show 512 * B ≤ 900000 by omega))
 have HM0 := LH (Mem.one w zeroRep.cs.toArray 157)
 have c0' := (h.below HM0.out.below).c0
 clear h
 go_enter Tryz.func78, Tryz.ntmps78
 go_upto_region 1 with fail
 rw [show (#[.int .i64 0, .int .i64 0, .int .i64 0, .int .i64 0, .int .i64 0, .int .i64 0, .int .i64 0] : Array Value) = zeroRep.cs.toArray from rfl]
 obtain ⟨q2, hq2⟩ : ∃ q, q = w.heap.size := ⟨_, rfl⟩
 have HQ2 := LH hq2
 rw [← hq2] at HM0 ⊢
 generalize w.alloc _ = w0 at *
 have HA0 := LH (HA.out.below HM0.out.below)
 clear hq2
 go_wp2_with fail
 refine (bgeom_any HA0.out.man).mono ?_
 rintro e w1 ⟨rfl, hb1⟩
 have HM1 := LH ((HM0.out.later hb1).alloc #[.int .i64 (B : Int)] 44)
 have HA1 := LH ((HA0.out.below hb1).below (below_alloc w1 (.cells #[.int .i64 (B : Int)] 44)))
 clear hb1 c0'
 go_upto_region 2 with fail
 obtain ⟨q5, hq5⟩ : ∃ q, q = w1.heap.size := ⟨_, rfl⟩
 rw [← hq5] at HM1 ⊢
 generalize w1.alloc _ = w2 at *
 clear hq5
 have e5 := HM1.out.cell 1 0 rfl rfl
 have r5 := fun x => later_cell e5 x
 refine wp_region_seg (C := fun w' => ∃ x : Later (w2), w' = x.val) [.fl [0, 2], .sq [1] true, .sq [3, 4] false, .fl [5, 6, 7, 8, 9], .sq [10] false] (by kernel_rfl) (by kernel_rfl) (by intro c a d v w h; cases d <;> exact h) ?_
 simp only [segs, picks, List.getElem?_cons_succ, List.getElem?_cons_zero]
 have hC1 := later_drew (w2)
 refine wpSeg_fl hC1 ?_
 repeat (first | go_big_quiet_step (fail) | quiet_step (fail))
 refine wpQuiet_nil ?_
 refine wpSeg_sq (fun K hK => ?_)
 go_wp2_with fail
 refine (adev_any (HA1.out.below (later_below hC1))).mono ?_
 rintro e w3 ⟨rfl, rfl⟩
 go_wp2_with fail
 refine hK _ _ (fun _ => hC1) ?_
 clear hK K
 refine wpSeg_sq (fun K hK => ?_)
 go_wp2_with fail
 refine (cheaders_heap hok.bm hsn (HA1.out.below (later_below hC1)).man.dev (by omega) (by omega)).mono ?_
 rintro e w4 ⟨hb4, g, gc, rfl, hg, hgc, hr4⟩
 have hC2 := later_step hC1 hb4
 have HB4 := LH (later_below hC2)
 have HR4 := LH hr4
 have HG := LH hg
 clear hb4 hr4 hg r5 e5
 go_wp2_with fail
 refine hK _ _ (fun h => nomatch h) ?_
 clear hK K
 refine wpSeg_fl hC2 ?_
 repeat (first | go_big_quiet_step (fail) | quiet_step (fail))
 refine wpQuiet_nil ?_
 refine wpSeg_last ?_
 go_wp2_with fail
 clear hC1 hC2
 have HA4 := LH (HA1.out.below HB4.out)
 have HM4 := LH (HM1.out.later HB4.out)
 clear HB4 HM1 HM0 HA0 HA1
 go_wp2_with fail
 refine (cfree_any HA4.out hok (by omega) (by omega) HUp.out).mono ?_
 rintro e w5 ⟨mp, nn, M, rfl, hmp, hV, hI, hb5⟩
 have HA5 := LH ((HA4.out.below hb5).below (below_alloc w5 (.cells zeroRep.cs.toArray 157)))
 have HM5 := LH ((HM4.out.later hb5).alloc zeroRep.cs.toArray 157)
 have HRp0 : Hid (RepAt (w5.alloc (.cells zeroRep.cs.toArray 157)) w5.heap.size (repTo m 0)) := LH (heap_alloc_new _ _)
 have HG5 : Hid (RowAt (w5.alloc (.cells zeroRep.cs.toArray 157)) g 103 (hdCs (hds (devWord m.bm.dev) B))) := LH (HR4.out.keep (((hb5.trans ((below_alloc w5 (.cells zeroRep.cs.toArray 157)).mono hb5.size))).block g HR4.out.lt))
 have HV5 : Hid (VMap Tryz.prog 3 (w5.alloc (.cells zeroRep.cs.toArray 157)) mp nn M) := LH (hV.block ((below_alloc w5 (.cells zeroRep.cs.toArray 157)).block mp hV.lt))
 have HLt5 : Hid (g < w5.heap.size ∧ mp < w5.heap.size ∧ w.heap.size ≤ w5.heap.size ∧ q2 < w5.heap.size) := LH ⟨Nat.lt_of_lt_of_le HR4.out.lt hb5.size, hV.lt, (HM4.out.later hb5).below.size, (HM4.out.later hb5).glt 0 rfl⟩
 have hLl : (hds (devWord m.bm.dev) B).length = B := hds_length _ _
 have hLa := hds_all hok.bm
 clear hb5 hV hmp HA4 HM4 HR4 HG
 go_upto_region 9 with fail
 rw [show (#[.int .i64 0, .int .i64 0, .int .i64 0, .int .i64 0, .int .i64 0, .int .i64 0, .int .i64 0] : Array Value) = zeroRep.cs.toArray from rfl]
 obtain ⟨q, hq⟩ : ∃ q, q = w5.heap.size := ⟨_, rfl⟩
 rw [← hq] at HM5 HRp0 ⊢
 have HQ : Hid (g ≠ q ∧ mp ≠ q ∧ q2 ≠ q ∧ w.heap.size ≤ q) := LH ⟨by have := HLt5.out; omega, by have := HLt5.out; omega, by have := HLt5.out; omega, by have := HLt5.out; omega⟩
 have HrA : Hid (q ∉ A.list) := LH (fun hm => by have := HA.out.mem q hm; have := HQ.out; omega)
 generalize w5.alloc _ = w6 at *
 clear hq HLt5
 have HOb := LH (rep_objects hok hlg (show 1 ≤ B by omega))
 have HFr := LH (rep_free hok hlg (show 1 ≤ B by omega))
 have HOkR := LH (fun j (h : j < B) => (repTo_ok hok j h).mono (show 400000 * j ≤ 100000000 by omega))
 have HOkA := LH hok
 generalize hds (devWord m.bm.dev) B = L at *
 go_wp2_with fail
 go_loopw [11] (fun iv wr => ∃ j : Nat, j + 1 ≤ B ∧ iv = .int .i64 ((j + 1 : Nat) : Int) ∧ Hid (RepAt wr q (repTo m j)) ∧ Hid (Touch [q] w6 wr)) (fun iv _ => B - (intOf iv).toNat)
 case atStart => exact ⟨0, by omega, rfl, HRp0, LH (Touch.refl _ _)⟩
 case round =>
  obtain ⟨j, hj, rfl, HRp, HT⟩ := hrel
  by_cases hlt : j + 1 < B
  ·have hlt' : ((j + 1 : Nat) : Int) < (B : Int) := by omega
   have HAr := LH (HA5.out.keep (fun k hk => HT.out.block k (HA5.out.mem k hk) (by simp; intro e; exact HrA.out (e ▸ hk))))
   have HVr := LH (HV5.out.block (HT.out.block mp HV5.out.lt (by simp; exact HQ.out.2.1)))
   have HCr := LH (HG5.out.keep (HT.out.block g HG5.out.lt (by simp; exact HQ.out.1))).cells
   have HOne := LH (rone_any HAr.out hok (by omega) hlg HVr.out hI HRp.out (HOkR.out j (by omega)) HrA.out (lc := gc) HCr.out hLl hLa (show 1 ≤ j + 1 by omega) hlt)
   clear HAr HVr HCr
   go_wp2_with fail
   refine HOne.out.mono ?_
   rintro e w7 ⟨rfl, hr7, ht7⟩
   have HR7 : Hid (RepAt w7 q (repTo m (j + 1))) := LH hr7
   have HT7 := LH (HT.out.trans ht7)
   clear hr7 ht7 HOne
   go_wp2_with fail
   exact ⟨⟨j + 1, by omega, vint (by omega), HR7, HT7⟩, by simp [intOf]; omega⟩
  ·obtain rfl : B = j + 1 := by omega
   have hlt' : decide (((j + 1 : Nat) : Int) < ((j + 1 : Nat) : Int)) = false := by simp
   have HOb' : Hid ((repTo m j).ob = (onesL m.used).length) := LH (by simpa using HOb.out)
   have HFr' : Hid ((repTo m j).fr = sumOf (runsOf m.bm.free)) := LH (by simpa using HFr.out)
   have HP' : Hid (∀ w', Below w.heap.size w w' → Post (.returned (.tuple #[.agg (repTo m j).cs.toArray, .int .i64 0, .int .i64 0])) w') := LH (fun w' h => HP.out w' _ (by simp) h)
   have HAr := LH (HA5.out.keep (fun k hk => HT.out.block k (HA5.out.mem k hk) (by simp; intro e; exact HrA.out (e ▸ hk))))
   have HGr := LH (HG5.out.keep (HT.out.block g HG5.out.lt (by simp; exact HQ.out.1)))
   have HMr := LH (HM5.out.upd 2 (y := ⟨q, 157, (repTo m j).cs, true⟩) rfl rfl HT.out ⟨_, HRp.out, [], by simp, fun _ => rfl⟩)
   have HSm : Hid (sumOf (runsOf m.bm.free) ≤ 200) := LH (Nat.le_trans (sum_le hok.bm) (by omega))
   have HRn := LH (fun s k y (hm : (s, k) ∈ runsOf m.bm.free) (hy : y < k) => run_isfree hok.bm hm hy)
   have hl9 : (runsOf m.bm.free).length ≤ 200 := by
    rw [← spans_runs hok.bm]
    exact Nat.le_trans (spanL_len (freeAt m.bm.list) m.bm.list.length) (by rw [hok.bm.lenL]; omega)
   generalize repTo m j = R at *
   obtain ⟨U, hU⟩ : ∃ U, U = (onesL m.used).length := ⟨_, rfl⟩
   rw [← hU] at HOb'
   have e3 : wr.cell? ⟨q, 3, none⟩ = some (.int .i64 (U : Int)) := by rw [← HOb'.out]; exact HRp.out.cell rfl
   have r3 := fun x => later_cell e3 x
   have HU := LH hU
   clear hlt HT HRp HA5 HG5 HV5 HM5 hU
   go_upto_region 15 with fail
   refine wp_region_seg (C := fun w' => ∃ x : Later (wr), w' = x.val) [.fl [0, 1, 2], .sq [3] true, .fl [4], .sq [5] false] (by kernel_rfl) (by kernel_rfl) (by intro c a d v w h; cases d <;> exact h) ?_
   simp only [segs, picks, List.getElem?_cons_succ, List.getElem?_cons_zero]
   have hC1 := later_drew (wr)
   refine wpSeg_fl hC1 ?_
   repeat (first | go_big_quiet_step (fail) | quiet_step (fail))
   refine wpQuiet_nil ?_
   refine wpSeg_sq (fun K hK => ?_)
   go_wp2_with fail
   refine (aobjects_any (HAr.out.below (later_below hC1))).mono ?_
   intro e w8 hp
   obtain ⟨au, cu, rfl, hcu, hb8, _⟩ := hp.own
   rw [← HU.out]
   have hC2 := later_step hC1 hb8
   have HB8 := LH (later_below hC2)
   clear hp hcu hb8 r3 e3
   go_wp2_with fail
   refine hK _ _ (fun _ => hC2) ?_
   clear hK K
   refine wpSeg_fl hC2 ?_
   repeat (first | go_big_quiet_step (fail) | quiet_step (fail))
   refine wpQuiet_nil ?_
   have HA8 := LH (HAr.out.below HB8.out)
   have HG8 := LH (HGr.out.keep (HB8.out.block g HGr.out.lt))
   have HM8 := LH (HMr.out.later HB8.out)
   have c0 := HA8.out.c0
   clear HAr HGr HMr HB8 hC1 hC2
   refine wpSeg_last ?_
   go_wp2_with fail
   refine (bruns_any HA8.out.man (by omega)).mono ?_
   rintro e w9 ⟨a1, c1, rfl, hc1, hb9⟩
   have HC := LH hc1
   have HG9 := LH (HG8.out.keep (hb9.block g HG8.out.lt))
   have HM9 := LH (HM8.out.later hb9)
   clear hc1 hb9 c0 HA8 HG8 HM8
   generalize runsOf m.bm.free = Rs at *
   obtain ⟨l, hl⟩ : ∃ l, l = Rs.length := ⟨_, rfl⟩
   rw [← hl] at hl9 ⊢
   have HL := LH hl
   clear hl
   have HLe : Hid (∀ i, sumOf (Rs.take i) ≤ 200) := LH (fun i => by
    refine Nat.le_trans ?_ HSm.out
    conv => rhs; rw [← List.take_append_drop i Rs]
    unfold sumOf
    rw [List.map_append, List.sum_append]
    omega)
   have HEl : Hid (∀ s k, (s, k) ∈ Rs → k ≤ 200) := LH (fun s k hm => Nat.le_trans (sum_memF hm) HSm.out)
   go_wp2_with fail
   go_loopw [14, 79] (fun nv iv wq => ∃ i x : Nat, i ≤ l ∧ x ≤ 200 ∧ nv = .int .i64 (x : Int) ∧ iv = .int .i64 (i : Int) ∧ Hid (x = sumOf (Rs.take i)) ∧ Hid (Below w9.heap.size w9 wq)) (fun _ iv _ => l - (intOf iv).toNat)
   case atStart => exact ⟨0, 0, Nat.zero_le _, Nat.zero_le _, rfl, rfl, LH rfl, LH (Below.refl _ _)⟩
   case round =>
    obtain ⟨i, x, hi, hx, rfl, rfl, HX, HB⟩ := hrel
    by_cases hlt : i < l
    ·have hlt' : (i : Int) < (l : Int) := by omega
     obtain ⟨⟨s, k⟩, hg⟩ : ∃ o, Rs[i]? = some o := ⟨_, List.getElem?_eq_getElem (by rw [← HL.out]; exact hlt)⟩
     have hgd : Rs.getD i (0, 0) = (s, k) := by rw [List.getD_eq_getElem?_getD, hg]; rfl
     have hmm := List.mem_of_getElem? hg
     have hk := HEl.out s k hmm
     have HRi := LH (fun y (hy : y < k) => HRn.out s k y hmm hy)
     have HNx : Hid (sumOf (Rs.take (i + 1)) = x + k) := LH (by
      have h1 := (List.getElem?_eq_some_iff.1 hg).1
      rw [List.take_succ_eq_append_getElem h1, (List.getElem?_eq_some_iff.1 hg).2, HX.out]
      unfold sumOf
      rw [List.map_append, List.sum_append]
      simp)
     have hxk : x + k ≤ 200 := by rw [← HNx.out]; exact HLe.out _
     obtain ⟨b1, o1, rfl, e0, e1⟩ := sp_cells (HC.out.below HB.out (Nat.le_refl _)) (by rw [← HL.out]; exact hlt) hgd
     have HMa := LH (Mem.one wr #[.int .i64 (s : Int), .int .i64 (k : Int)] 286)
     clear hg hgd hmm
     go_upto_region 21 with fail
     generalize wr.alloc _ = wa at *
     obtain ⟨qs, hqs⟩ : ∃ qs, qs = wr.heap.size := ⟨_, rfl⟩
     rw [← hqs] at HMa ⊢
     have d0 := HMa.out.cell 0 0 rfl rfl
     have d1 := HMa.out.cell 0 1 rfl rfl
     have HSp : Hid (qs < wa.heap.size) := LH (HMa.out.glt 0 rfl)
     have HBa := LH (HB.out.trans (HMa.out.below.mono HB.out.size))
     clear e0 e1 HB HMa hqs
     go_wp2_with fail
     go_loopw [89] (fun yv wq => ∃ y : Nat, y ≤ k ∧ yv = .int .i64 (y : Int) ∧ Hid (Below wa.heap.size wa wq)) (fun yv _ => k - (intOf yv).toNat)
     case atStart => exact ⟨0, Nat.zero_le _, rfl, LH (Below.refl _ _)⟩
     case round =>
      obtain ⟨y, hy, rfl, HBy⟩ := hrel
      by_cases hly : y < k
      ·have hly' : (y : Int) < (k : Int) := by omega
       obtain ⟨f1, f2, f3⟩ := HRi.out y hly
       have HGy := LH ((HG9.out.keep (HBa.out.block g HG9.out.lt)).keep (HBy.out.block g (Nat.lt_of_lt_of_le HG9.out.lt HBa.out.size)))
       obtain ⟨hh, hhe⟩ : ∃ hh, hh = L.getD (s + y) default := ⟨_, rfl⟩
       have hh0 : hh.k = 0 := by rw [hhe, hLa _ f1]; exact f3
       obtain ⟨hk1, hc1, hl1⟩ := hh
       have hk0 : hk1 = 0 := hh0
       subst hk0
       obtain ⟨b2, o2, he2, g0, _, _⟩ := hd_cells HGy.out.cells (j := s + y) (by rw [hLl]; exact f2) hhe.symm
       injection he2 with he2
       injection he2 with he2 he3 _
       subst he2 he3
       rw [Nat.zero_add] at g0
       obtain ⟨z, hz⟩ : ∃ z, z = s + y := ⟨_, rfl⟩
       rw [← hz] at g0 f2
       have hzI : (s : Int) + (y : Int) = (z : Int) := by omega
       have hzB : (z : Int) < (j : Int) + 1 := by omega
       have c0 : wr.cell? ⟨qs, 0, none⟩ = some (.int .i64 (s : Int)) := by rw [HBy.out.cell (p := ⟨qs, 0, none⟩) HSp.out]; exact d0
       clear hhe hh0 hz
       go_wp2_with fail
       refine ⟨⟨y + 1, by omega, vint (by omega), HBy⟩, ?_⟩
       simp [intOf]; omega
      ·obtain rfl : y = k := by omega
       have hly' : decide ((y : Int) < (y : Int)) = false := by simp
       have HBz := LH (HBa.out.trans (HBy.out.mono HBa.out.size))
       go_wp2_with fail
       refine ⟨⟨i + 1, x + y, by omega, hxk, vint (by omega), vint (by omega), LH HNx.out.symm, HBz⟩, ?_⟩
       simp [intOf]; omega
    ·obtain rfl : i = l := by omega
     have hlt2 : decide ((i : Int) < (i : Int)) = false := by simp
     have hxF : x = R.fr := by rw [HX.out, HL.out, List.take_length, HFr'.out]
     have HMe := LH (HM9.out.later HB.out)
     have e0 : wr.cell? ⟨q, 0, none⟩ = some (.int .i64 (x : Int)) := by rw [hxF]; exact HMe.out.cell 2 0 rfl rfl
     clear hxF
     go_wp2_with (first
      | (refine wpList_load_mem aggRep HMe.out 2 rfl rfl rfl rfl rfl ?_)
      | (refine wpList_store_mem aggRep HMe.out 0 rfl rfl rfl rfl rfl rfl rfl rfl ?_; intro w6 h6 ht6; have H6 := LH h6; clear h6 ht6))
     refine bodyPost_ret (rep_result3 (p := 2) (u := 3) (z := 4) rfl _ _ _ _ _ _ _ rfl (H6.out.exact 0 rfl) Tryz.underlying157 rfl (by kernel_rfl)) rfl ?_
     exact HP'.out _ H6.out.below
structure Op28 where
 k : Int
 m : Int
 p : Int
 d : Int
def Op28.cs (o : Op28) : List Value := [.int .i64 o.k, .int .i64 o.m, .int .i64 o.p, .int .i64 o.d]
theorem Op28.len (o : Op28) : (Op28.cs o).length = 4 := rfl
theorem four28 (zs : List Int) (h : zs.length = 4) : (Op28.cs ⟨zs.getD 0 0, zs.getD 1 0, zs.getD 2 0, zs.getD 3 0⟩) = zs.map (Value.int .i64) := by
 obtain ⟨a, b, c, d, rfl⟩ : ∃ a b c d, zs = [a, b, c, d] := by
  match zs, h with
  | [a, b, c, d], _ => exact ⟨a, b, c, d, rfl⟩
 rfl
section
variable {w wr w' : World} {Q : List Nat} {A : AF} {n n' B N N' : Nat} {m m' : Al}
def HqTr (w wr : World) (Q : List Nat) (A : AF) (n B N : Nat) : Ending → World → Prop := fun e w' => ∃ (m' : Al) (R : List Nat) (er : Bool),
 e = .returned (.tuple #[.bool er, .int .i64 0]) ∧ Hq w w' Q (A.re R) (n + 5) B (N + 500000) m' ∧ Off Q wr w'
theorem Hq.trim (h : Hq w wr Q A n B N m) (hB : B ≤ 200) (hn : n < 900000000000) (hN : N ≤ 900000000) (b : Int) :
  Calls Tryz.prog 174 #[valloc A, .int .i64 b] wr (HqTr w wr Q A n B N) := by
 refine (atrim_any h.at_ h.ok hB hn hN h.steps b).mono ?_
 rintro e w' (⟨hc, rfl, hg⟩ | ⟨bn, m', hb, _, _, hc, rfl, ht, ho, hg⟩)
 ·obtain ⟨R, hq, hof⟩ := h.go hg h.ok h.lg h.snd (h.steps.mono (Nat.le_add_right N 500000))
  exact ⟨m, R, false, rfl, hq, hof⟩
 ·obtain ⟨R, hq, hof⟩ := h.go hg ht.ok (h.lg.trim ht) (ht.snd h.snd) ho
  exact ⟨m', R, true, rfl, hq, hof⟩
end
def Made28 (w : World) (B : Nat) : Ending → World → Prop := fun e w' => ∃ (A : AF) (n : Nat) (m : Al), e = .returned (.tuple #[vworld A (.slice none 0 0), .bool true]) ∧ Hq w w' [] A n B 31000000 m ∧ n ≤ 2000000
set_option maxHeartbeats 8000000 in
set_option maxRecDepth 100000 in
theorem played28_any (n8 : Int) (hn8 : 0 ≤ n8 ∧ n8 ≤ 255) (a : Option Addr) (mm cap : Nat) (s : List Op28) (hm : s.length = mm) (w : World) (hcs : Cells w a (recs Op28.cs s)) (hmm : mm ≤ maxLen) :
  ∃ B, 2 ≤ B ∧ B ≤ 8 ∧ Calls Tryz.prog 77 #[.int .u8 n8, .slice a mm cap] w (Made28 w B) := by
 unfold maxLen at hmm
 obtain ⟨b0, hb0, hb05⟩ : ∃ b0 : Nat, n8.tmod 7 = (b0 : Int) ∧ b0 ≤ 6 := by
  obtain ⟨k, rfl⟩ := Int.eq_ofNat_of_zero_le hn8.1
  refine ⟨k % 7, ?_, by omega⟩
  rw [Int.tmod_eq_emod_of_nonneg (by omega)]; rfl
 obtain ⟨B, hB⟩ : ∃ B, B = 2 + b0 := ⟨_, rfl⟩
 refine ⟨B, by omega, by omega, ?_⟩
 have hB2 : 2 ≤ B := by omega
 have hB8 : B ≤ 8 := by omega
 have hBI : (2 : Int) + (b0 : Int) = (B : Int) := by omega
 clear hB
 have HM := LH hm
 have HCS := LH hcs
 clear hm hcs
 have HP : Hid (∀ (A : AF) (n : Nat) (m : Al) w', Hq w w' [] A n B 31000000 m → n ≤ 2000000 → Made28 w B (.returned (.tuple #[vworld A (.slice none 0 0), .bool true])) w') := LH (fun A n m w' h1 h2 => ⟨A, n, m, rfl, h1, h2⟩)
 generalize Made28 w B = Post at *
 have HB0 := LH (below_alloc w (.cells zeroW 132))
 have HR0 : Hid (RowX (w.alloc (.cells zeroW 132)) ⟨w.heap.size, 132, zeroW.toList, true⟩) := LH ⟨_, heap_alloc_new _ _, [], by simp, by simp⟩
 obtain ⟨q, hq⟩ : ∃ q, q = w.heap.size := ⟨_, rfl⟩
 go_enter Tryz.func77, Tryz.ntmps77
 go_upto_region 1 with fail
 rw [show (#[.pointer none, .pointer none, .slice none 0 0] : Array Value) = zeroW from rfl]
 have HQ0 : Hid ((w.alloc (.cells zeroW 132)).heap.size = q + 1) := LH (by simp [hq])
 rw [← hq] at HR0 ⊢
 have HQ := LH hq
 generalize w.alloc _ = w0 at *
 clear hq
 go_wp2_with fail
 refine (begun20_any B hB2 (by omega) _).mono ?_
 rintro e w1 ⟨A, n, rfl, ha, hn, hA, hb⟩
 have hh := Hq.begun hB2 (by omega) ha hA HB0.out hb (Q := [q]) (by intro k hk; simp at hk; have := HQ0.out; omega)
 obtain ⟨p, hp⟩ : ∃ p, p = w1.heap.size := ⟨_, rfl⟩
 have HH : Hid (Hq w (w1.alloc (.cells #[valloc A, vdev A.X.F, .slice none 0 0] 132)) [q, p] A n B 201000 (al0 B)) := LH (hh.more (fun k hk => by
  simp only [List.mem_cons, List.not_mem_nil, or_false] at hk
  rcases hk with rfl | rfl
  ·exact .inl (by simp)
  ·exact .inr (by simp [hp])) (below_alloc _ _))
 have HR : Hid (MemR w.heap.size (w1.alloc (.cells #[valloc A, vdev A.X.F, .slice none 0 0] 132)) [⟨q, 132, zeroW.toList, true⟩, ⟨p, 132, [valloc A, vdev A.X.F, .slice none 0 0], true⟩]) := LH (by
  have h0 : MemR w.heap.size w1 [⟨q, 132, zeroW.toList, true⟩] := ⟨by
   intro x hx
   simp at hx; subst hx
   exact HR0.out.keep (hb.block q (by have := HQ0.out; omega)), by intro x hx; simp at hx; subst hx; have := HQ.out; exact Nat.le_of_eq this.symm, by simp, hh.below.size⟩
  have := h0.alloc #[valloc A, vdev A.X.F, .slice none 0 0] 132
  rw [← hp] at this
  exact this)
 have HN := LH hn
 have HQb : Hid (∀ k ∈ [q, p], w.heap.size ≤ k) := LH (by intro k hk; simp at hk; rcases hk with rfl | rfl; exact Nat.le_of_eq HQ.out.symm; rw [hp]; exact hh.below.size)
 clear ha hA hb hh hn HR0 HB0
 go_upto_region 2 with fail
 rw [← hp]
 generalize w1.alloc _ = w2 at *
 clear hp HQ0 hb0 hb05 hBI
 go_wp2_with fail
 go_loopw [8] (fun i wr => ∃ (k : Nat) (R : List Nat) (m : Al), k ≤ mm ∧ k ≤ 50 ∧ i = .int .i64 (k : Int) ∧ Hid (Hq w wr [q, p] (A.re R) (n + 6 * k) B (201000 + 600000 * k) m) ∧ Hid (MemR w.heap.size wr [⟨q, 132, zeroW.toList, true⟩, ⟨p, 132, [valloc A, vdev A.X.F, .slice none 0 0], true⟩])) (fun i _ => 50 - (intOf i).toNat)
 case atStart => exact ⟨0, A.R, _, Nat.zero_le _, Nat.zero_le _, rfl, HH, HR⟩
 case round =>
  clear HH HR
  obtain ⟨k, R, m, hkm, hk50, rfl, HH, HMr⟩ := hrel
  have hN := HN.out
  by_cases hlt : k < mm ∧ k < 50
  ·obtain ⟨h1, h2⟩ := hlt
   have h1' : (k : Int) < (mm : Int) := by omega
   have h2' : (k : Int) < 50 := by omega
   have hkl : k < s.length := by rw [HM.out]; exact h1
   obtain ⟨b1, o1, rfl, hbl, hcell⟩ := recs_cells Op28.len (by decide) (⟨0, 0, 0, 0⟩ : Op28) (HCS.out.below HH.out.below (Nat.le_refl _)) hkl
   generalize s.getD k ⟨0, 0, 0, 0⟩ = o at *
   obtain ⟨ok, om, op, od⟩ := o
   have e0 : wr.cell? ⟨b1, o1 + k * 4, none⟩ = some (.int .i64 ok) := hcell 0 _ rfl
   have e1 : wr.cell? ⟨b1, o1 + k * 4 + 1, none⟩ = some (.int .i64 om) := hcell 1 _ rfl
   have e2 : wr.cell? ⟨b1, o1 + k * 4 + 2, none⟩ = some (.int .i64 op) := hcell 2 _ rfl
   have e3 : wr.cell? ⟨b1, o1 + k * 4 + 3, none⟩ = some (.int .i64 od) := hcell 3 _ rfl
   have HHa := LH (HH.out.later (below_alloc wr (.cells #[.int .i64 ok, .int .i64 om, .int .i64 op, .int .i64 od] 278)))
   have HMra := LH (HMr.out.later (below_alloc wr (.cells #[.int .i64 ok, .int .i64 om, .int .i64 op, .int .i64 od] 278)))
   have HMa := LH (Mem.one wr #[.int .i64 ok, .int .i64 om, .int .i64 op, .int .i64 od] 278)
   clear hcell hkl
   go_upto_region 6 with fail
   generalize wr.alloc _ = wa at *
   clear e0 e1 e2 e3
   have c0 := HMra.out.cell 1 0 rfl rfl
   go_upto_region 7 with fail
   refine (aobjects_any HHa.out.at_).mono ?_
   intro e w4 hp
   obtain ⟨au, cu, rfl, hcu, hb4, _⟩ := hp.own
   have HUl : Hid ((onesL m.used).length ≤ 4096) := LH (by
    rw [onesL_length]
    have h1 := count_le_len m.used
    have h2 := HH.out.ok.lenU
    omega)
   have HH4 := LH (HHa.out.later hb4)
   have HMr4 := LH (HMra.out.later hb4)
   have HM4 := LH (HMa.out.later hb4)
   have HCu := LH hcu
   obtain ⟨us, hus⟩ : ∃ us, us = onesL m.used := ⟨_, rfl⟩
   obtain ⟨ul, hul⟩ : ∃ ul, ul = us.length := ⟨_, rfl⟩
   rw [← hus, ← hul] at HUl
   rw [← hus] at HCu
   rw [← hus, ← hul]
   have HUs := LH hus
   have HUn := LH hul
   have hul9 := HUl.out
   clear hcu hb4 hp c0 hus hul HH HMr
   have d0 := HM4.out.cell 0 0 rfl rfl
   have d1 := HM4.out.cell 0 1 rfl rfl
   have d2 := HM4.out.cell 0 2 rfl rfl
   have d3 := HM4.out.cell 0 3 rfl rfl
   go_upto_region 8 with fail
   by_cases h0 : ok = 0
   ·subst h0
    obtain ⟨t1, ht1⟩ : ∃ t1, t1 = max op 0 := ⟨_, rfl⟩
    obtain ⟨t2, ht2⟩ : ∃ t2, t2 = min t1 63 := ⟨_, rfl⟩
    obtain ⟨t3, ht3⟩ : ∃ t3, t3 = max od 0 := ⟨_, rfl⟩
    obtain ⟨t4, ht4⟩ : ∃ t4, t4 = min t3 1500 := ⟨_, rfl⟩
    have HT1 := LH ht1.symm
    have HT2 := LH ht2.symm
    have HT3 := LH ht3.symm
    have HT4 := LH ht4.symm
    have HAl := LH (HH4.out.alloc hB2 (by omega) (by omega) (by omega) om t2 t4)
    have c0 := HMr4.out.cell 1 0 rfl rfl
    clear ht1 ht2 ht3 ht4
    go_wp2_with fail
    rw [HT1.out, HT2.out, HT3.out, HT4.out]
    refine HAl.out.mono ?_
    rintro e w5 ⟨m', R', ra, re, rfl, hh, hk, _, _⟩
    have HH5 : Hid (Hq w w5 [q, p] (A.re R') (n + 6 * (k + 1)) B (201000 + 600000 * (k + 1)) m') := LH (by rw [AF.re_re] at hh; exact hh.mono (by omega) (by omega))
    have HMr5 := LH (HMr4.out.off hk (by simp))
    clear hh hk d0 d1 d2 d3 c0 HAl
    go_wp2_with fail
    refine ⟨⟨k + 1, R', m', by omega, by omega, vint (by omega), HH5, HMr5⟩, ?_⟩
    simp [intOf]; omega
   have h0' : (ok == 0) = false := by simpa using h0
   have HStay : Hid (Hq w w4 [q, p] (A.re R) (n + 6 * (k + 1)) B (201000 + 600000 * (k + 1)) m) := LH (HH4.out.mono (by omega) (by omega))
   by_cases h1k : ok = 1
   case neg =>
    have h1k' : (ok == 1) = false := by simpa using h1k
    by_cases h2k : ok = 2
    case neg =>
     have h2k' : (ok == 2) = false := by simpa using h2k
     go_wp2_with fail
     refine ⟨⟨k + 1, R, m, by omega, by omega, vint (by omega), HStay, HMr4⟩, ?_⟩
     simp [intOf]; omega
    subst h2k
    have HTr := LH (HH4.out.trim (by omega) (by omega) (by omega) op)
    have c0 := HMr4.out.cell 1 0 rfl rfl
    go_wp2_with fail
    refine HTr.out.mono ?_
    rintro e w6 ⟨m', R', er, rfl, hh, hk⟩
    have HH6 : Hid (Hq w w6 [q, p] (A.re R') (n + 6 * (k + 1)) B (201000 + 600000 * (k + 1)) m') := LH (by rw [AF.re_re] at hh; exact hh.mono (by omega) (by omega))
    have HMr6 := LH (HMr4.out.off hk (by simp))
    clear hh hk HTr
    go_wp2_with fail
    refine ⟨⟨k + 1, R', m', by omega, by omega, vint (by omega), HH6, HMr6⟩, ?_⟩
    simp [intOf]; omega
   subst h1k
   by_cases hu0 : ul = 0
   ·have hu0' : decide ((0 : Int) < (ul : Int)) = false := by simp; omega
    go_wp2_with fail
    refine ⟨⟨k + 1, R, m, by omega, by omega, vint (by omega), HStay, HMr4⟩, ?_⟩
    simp [intOf]; omega
   have hu1 : (0 : Int) < (ul : Int) := by omega
   by_cases hp0 : 0 ≤ op
   case neg =>
    have hp0' : op < 0 := by omega
    go_wp2_with fail
    refine ⟨⟨k + 1, R, m, by omega, by omega, vint (by omega), HStay, HMr4⟩, ?_⟩
    simp [intOf]; omega
   obtain ⟨j, rfl⟩ := Int.eq_ofNat_of_zero_le hp0
   have hux0 : ((ul : Int) == 0) = false := by simpa using hu0
   have hjl : j % ul < ul := Nat.mod_lt _ (by omega)
   have hjm : (j : Int).tmod (ul : Int) = ((j % ul : Nat) : Int) := by rw [Int.tmod_eq_emod_of_nonneg (by omega)]; rfl
   obtain ⟨b2, o2, rfl, _, hcx⟩ := HCu.out.at (i := j % ul) (by rw [List.length_map, ← HUn.out]; exact hjl)
   have hcx := hcx (j % ul) (vi (us.getD (j % ul) 0)) (by rw [List.getElem?_map, List.getElem?_eq_getElem (by rw [← HUn.out]; exact hjl), List.getD_eq_getElem?_getD, List.getElem?_eq_getElem (by rw [← HUn.out]; exact hjl)]; rfl)
   generalize us.getD (j % ul) 0 = x at *
   have c0 := HMr4.out.cell 1 0 rfl rfl
   generalize j % ul = jm at *
   have r0 := fun x => later_cell c0 x
   have r1 := fun x => later_cell d1 x
   have r2 := fun x => later_cell d2 x
   have r3 := fun x => later_cell hcx x
   go_upto_region 12 with fail
   clear hcx
   refine wp_region_seg (C := fun w' => ∃ x : Later (w4), w' = x.val) [.fl [0, 1, 2, 3, 4, 5, 6, 7, 8, 9, 10, 11], .sq [12] false] (by kernel_rfl) (by kernel_rfl) (by intro c a d v w h; cases d <;> exact h) ?_
   simp only [segs, picks, List.getElem?_cons_succ, List.getElem?_cons_zero]
   have hC1 := later_drew (w4)
   refine wpSeg_fl hC1 ?_
   repeat (first | go_big_quiet_step (fail) | quiet_step (fail))
   refine wpQuiet_nil ?_
   have HH5 := LH (HH4.out.later (later_below hC1))
   have HMr5 := LH (HMr4.out.later (later_below hC1))
   clear r0 r1 r2 r3 c0 d0 d1 d2 d3
   generalize w4.drew = w5 at *
   refine wpSeg_last ?_
   go_wp2_with fail
   refine (HH5.out.free (by omega) (by omega) (by omega) om (x : Int)).mono ?_
   rintro e w6 ⟨m', R', er, rfl, hh, hk, _⟩
   have HH6 : Hid (Hq w w6 [q, p] (A.re R') (n + 6 * (k + 1)) B (201000 + 600000 * (k + 1)) m') := LH (by rw [AF.re_re] at hh; exact hh.mono (by omega) (by omega))
   have HMr6 := LH (HMr5.out.off hk (by simp))
   clear hh hk
   go_wp2_with fail
   refine ⟨⟨k + 1, R', m', by omega, by omega, vint (by omega), HH6, HMr6⟩, ?_⟩
   simp [intOf]; omega
  ·have hor : (k : Int) = (mm : Int) ∨ ((k : Int) < (mm : Int) ∧ (k : Int) = 50) := by omega
   have HEnd : Hid (∀ w6, Touch [q] wr w6 → Post (.returned (.tuple #[vworld A (.slice none 0 0), .bool true])) w6) := LH (fun w6 ht => HP.out (A.re R) (n + 6 * k) m w6 (((HH.out.own (ht.wide (by simp)) HQb.out).less (by simp)).mono (Nat.le_refl _) (by omega)) (by have := HN.out; omega))
   clear hlt
   rcases hor with h1 | ⟨h1, h2⟩
   ·obtain rfl : k = mm := by omega
    have hlt' : decide ((k : Int) < (k : Int)) = false := by simp
    clear h1
    go_wp2_with (first
     | (refine wpList_load_r aggW HMr.out 1 rfl rfl rfl rfl rfl ?_)
     | (refine wpList_store_r aggW HMr.out 0 rfl rfl rfl rfl rfl rfl rfl rfl ?_; intro w6 h6 ht6; have H6 := LH h6; have HT6 := LH ht6; clear h6 ht6))
    refine bodyPost_ret (results_cell_row2 (p := 4) (u := 5) rfl _ _ _ _ _ _ _ rfl (H6.out.exact 0 rfl) Tryz.underlying132 rfl (by kernel_rfl)) rfl ?_
    exact HEnd.out _ HT6.out
   ·obtain rfl : k = 50 := by omega
    clear h2
    go_wp2_with (first
     | (refine wpList_load_r aggW HMr.out 1 rfl rfl rfl rfl rfl ?_)
     | (refine wpList_store_r aggW HMr.out 0 rfl rfl rfl rfl rfl rfl rfl rfl ?_; intro w6 h6 ht6; have H6 := LH h6; have HT6 := LH ht6; clear h6 ht6))
    refine bodyPost_ret (results_cell_row2 (p := 4) (u := 5) rfl _ _ _ _ _ _ _ rfl (H6.out.exact 0 rfl) Tryz.underlying132 rfl (by kernel_rfl)) rfl ?_
    exact HEnd.out _ HT6.out
theorem repTo_al0 {B : Nat} (hB2 : 2 ≤ B) (hB : B ≤ 100) : ∀ b, b < B → repTo (al0 B) b = ⟨b, 0, 0, 0, 0, 0, 0⟩
 | 0, _ => rfl
 | b + 1, h => by
  have hk : ((al0 B).bm.list.getD (b + 1) default).k = 0 := by
   rw [al0_list hB2 hB, List.getD_eq_getElem?_getD, List.getElem?_replicate]
   split <;> rfl
  unfold repTo Rep.one
  rw [if_pos hk, repTo_al0 hB2 hB b (by omega)]
set_option maxHeartbeats 4000000 in
set_option maxRecDepth 100000 in
theorem awake28_any (w : World) : Calls Tryz.prog 43 #[] w (Gives (.bool true) w) := by
 have HP : Hid (∀ w', Below w.heap.size w w' → Gives (.bool true) w (.returned (.bool true)) w') := LH (fun w' h => ⟨rfl, h⟩)
 generalize Gives (.bool true) w = Post at *
 go_enter Tryz.func43, Tryz.ntmps43
 go_wp2_with fail
 refine (begun20_any 4 (by omega) (by omega) _).mono ?_
 rintro e w1 ⟨A, n, rfl, ha, hn, hA, hb⟩
 have hh := Hq.begun (by omega) (by omega) ha hA (Below.refl w.heap.size w) hb (Q := []) (by simp)
 have HB1 := LH hb
 have HM1 := LH (Mem.one w1 #[valloc A, vdev A.X.F, .slice none 0 0] 132)
 have HH := LH (hh.later HM1.out.below)
 have HB2 : Hid (Below w.heap.size w (w1.alloc (.cells #[valloc A, vdev A.X.F, .slice none 0 0] 132))) := LH (hb.trans (HM1.out.below.mono hb.size))
 clear ha hA hb hh hn HB1
 go_upto_region 2 with fail
 obtain ⟨p, hp⟩ : ∃ p, p = w1.heap.size := ⟨_, rfl⟩
 rw [← hp] at HM1 ⊢
 generalize w1.alloc _ = w2 at *
 clear hp
 have c0 := HM1.out.cell 0 0 rfl rfl
 go_wp2_with fail
 refine (cwhole_any HH.out.at_ HH.out.ok HH.out.lg HH.out.snd (by omega) (by omega)).mono ?_
 rintro e w3 ⟨rfl, hb3⟩
 have HR : Hid (repTo (al0 4) (4 - 1) = ⟨3, 0, 0, 0, 0, 0, 0⟩) := LH (repTo_al0 (by omega) (by omega) 3 (by omega))
 rw [HR.out, show (Rep.cs ⟨3, 0, 0, 0, 0, 0, 0⟩).toArray = #[.int .i64 3, .int .i64 0, .int .i64 0, .int .i64 0, .int .i64 0, .int .i64 0, .int .i64 0] from rfl]
 have HB3 := LH (HB2.out.trans (hb3.mono HB2.out.size))
 have HM3 := LH (Mem.one w3 #[.int .i64 3, .int .i64 0, .int .i64 0, .int .i64 0, .int .i64 0, .int .i64 0, .int .i64 0] 157)
 have HB4 : Hid (Below w.heap.size w (w3.alloc (.cells #[.int .i64 3, .int .i64 0, .int .i64 0, .int .i64 0, .int .i64 0, .int .i64 0, .int .i64 0] 157))) := LH (HB3.out.trans (HM3.out.below.mono HB3.out.size))
 clear hb3 c0
 go_upto_region 5 with fail
 obtain ⟨q, hq⟩ : ∃ q, q = w3.heap.size := ⟨_, rfl⟩
 rw [← hq] at HM3 ⊢
 generalize w3.alloc _ = w4 at *
 clear hq
 have d0 := HM3.out.cell 0 0 rfl rfl
 have d1 := HM3.out.cell 0 1 rfl rfl
 have d2 := HM3.out.cell 0 2 rfl rfl
 have d3 := HM3.out.cell 0 3 rfl rfl
 have d4 := HM3.out.cell 0 4 rfl rfl
 have d5 := HM3.out.cell 0 5 rfl rfl
 have d6 := HM3.out.cell 0 6 rfl rfl
 go_wp2_with fail
 exact HP.out _ HB4.out
end Go.Proofs.YtpopbfagliagnaaGreat
namespace Go.Proofs.YtpopbfagliagnaaGreat
open Go.RowKit
section
variable {B : Nat} {m : Al}
def wtTo (L : List Hd) : Nat → Int
 | 0 => 0
 | b + 1 => wtTo L b + if (L.getD (b + 1) default).k = 0 ∨ (L.getD (b + 1) default).k = 1 then 1 else if (L.getD (b + 1) default).k = 2 then (L.getD (b + 1) default).l else 0
theorem wt_cover (hb : BmOk B m.bm) (hs : Snd m.bm.list) : ∀ b, b < B → ((b : Int) + 1 ≤ wtTo m.bm.list b + 1 ∧ wtTo m.bm.list b + 1 ≤ B ∧ (∀ q : Nat, b < q → (q : Int) < wtTo m.bm.list b + 1 → (m.bm.list.getD q default).k = 3) ∧
  ∀ a : Nat, 1 ≤ a → a ≤ b → (m.bm.list.getD a default).k = 2 → (a : Int) + (m.bm.list.getD a default).l ≤ wtTo m.bm.list b + 1)
 | 0, h => ⟨by unfold wtTo; omega, by unfold wtTo; omega, fun q h1 h2 => by unfold wtTo at h2; omega, fun a h1 h2 => by omega⟩
 | b + 1, h => by
  obtain ⟨h1, h2, h3, h4⟩ := wt_cover hb hs b (by omega)
  have hr := of_decide_eq_true (hb.right (b + 1) h)
  have hlg := hb.large (b + 1) (by omega) h
  have hsn := hs (b + 1) (by omega)
  unfold HdRight at hr
  unfold wtTo
  generalize wtTo m.bm.list b = e at *
  by_cases he : (b : Int) + 1 < e + 1
  ·have hk := h3 (b + 1) (by omega) (by omega)
   rw [if_neg (by omega), if_neg (by omega)]
   refine ⟨by omega, by omega, fun q q1 q2 => h3 q (by omega) (by omega), fun a a1 a2 ak => ?_⟩
   by_cases ha : a = b + 1
   ·subst ha; omega
   ·have := h4 a a1 (by omega) ak; omega
  ·have hk3 : (m.bm.list.getD (b + 1) default).k ≠ 3 := fun hk => by
    obtain ⟨a, a1, a2, a3, a4⟩ := hsn hk
    have := h4 a a1 (by omega) a3
    omega
   clear hsn
   by_cases h01 : (m.bm.list.getD (b + 1) default).k = 0 ∨ (m.bm.list.getD (b + 1) default).k = 1
   ·rw [if_pos h01]
    refine ⟨by omega, by omega, fun q q1 q2 => by omega, fun a a1 a2 ak => ?_⟩
    by_cases ha : a = b + 1
    ·subst ha; omega
    ·have := h4 a a1 (by omega) ak; omega
   ·have hk2 : (m.bm.list.getD (b + 1) default).k = 2 := by omega
    obtain ⟨l1, l2⟩ := hlg hk2
    rw [if_neg h01, if_pos hk2]
    refine ⟨by omega, by omega, fun q q1 q2 => ?_, fun a a1 a2 ak => ?_⟩
    ·have := l2 (q - (b + 1)) (by omega) (by omega)
     rw [show b + 1 + (q - (b + 1)) = q by omega] at this
     rw [this]
    ·by_cases ha : a = b + 1
     ·subst ha; omega
     ·have := h4 a a1 (by omega) ak; omega
theorem wt_all (hb : BmOk B m.bm) (hs : Snd m.bm.list) (hB : 1 ≤ B) : wtTo m.bm.list (B - 1) = (B : Int) - 1 := by
 obtain ⟨h1, h2, _, _⟩ := wt_cover hb hs (B - 1) (by omega)
 omega
theorem filter_both (p : Nat → Bool) : ∀ xs : List Nat, (xs.filter p).length + (xs.filter (fun x => !p x)).length = xs.length
 | [] => rfl
 | x :: xs => by
  have := filter_both p xs
  cases h : p x with
  | true => rw [List.filter_cons_of_pos h, List.filter_cons_of_neg (by rw [h]; decide), List.length_cons, List.length_cons]; omega
  | false => rw [List.filter_cons_of_neg (by rw [h]; decide), List.filter_cons_of_pos (by rw [h]; rfl), List.length_cons, List.length_cons]; omega
theorem sumI_const (z : Int) : ∀ xs : List Nat, sumI (fun _ => z) xs = z * xs.length
 | [] => by rw [sumI_nil]; simp
 | x :: xs => by rw [sumI_cons, sumI_const z xs, List.length_cons, Int.natCast_add, Int.mul_add]; omega
def wordsTo (m : Al) (b : Nat) : Int := 512 * (kindTo m.bm.list 0 b : Nat) + (wasteTo m.bm.list b : Nat) + sumI (fun x => (roomP m x : Nat)) (upB b (onesL m.used)) + (freeSum (fun k => clsWords (k : Int)) m b : Nat)
theorem words_is (hok : AlOk B m) (hlg : LgOk m) : ∀ b, b < B → wordsTo m b = 512 * wtTo m.bm.list b
 | 0, _ => by unfold wordsTo wtTo; rw [up_zero hok, freeTo_zero]; rfl
 | b + 1, hbB => by
  have ih := words_is hok hlg b (by omega)
  obtain ⟨k, c, l, _, he, hcls⟩ := hd_is hok.bm (show 1 ≤ b + 1 by omega) hbB
  have hr := of_decide_eq_true (hok.bm.right (b + 1) hbB)
  have hk : (m.bm.list.getD (b + 1) default).k = k := by rw [he]
  have hF1 := (freeSum_step (fun k => clsWords (k : Int)) m (b := b)).1
  have hF2 := (freeSum_step (fun k => clsWords (k : Int)) m (b := b)).2
  have hRl := roomP_large (b := b + 1) hok hlg
  have hO2 := ofB_large (b := b + 1) hok hlg
  have hO0 := ofB_none (b := b + 1) hok
  unfold wordsTo at ih ⊢
  unfold kindTo wasteTo wtTo
  rw [he] at hr hRl hO2 hO0 hF2 ⊢
  unfold HdRight at hr
  dsimp only at hr hRl hO2 hO0 hF2 ⊢
  rw [upB_step]
  by_cases h0 : k = 0
  ·rw [if_pos h0, if_neg (by omega), if_pos (.inl h0), hO0 (by omega) (by omega), hF2 (by omega)]
   simp only [sumI_nil, sumI_cons]
   omega
  by_cases h1 : k = 1
  ·obtain ⟨cn, rfl, hcn⟩ := hcls h1
   subst h1
   have hl0 : l = 0 := by omega
   subst hl0
   rw [if_neg h0, if_pos rfl, if_pos (.inr rfl), Int.toNat_natCast, sumI_perm _ (ofB_small hok hcn (by omega) hbB he), hF1 cn hcn he, sumI_congr (f := fun x => ((roomP m x : Nat) : Int)) (g := fun _ => ((clsWords (cn : Int) : Nat) : Int)) (xs := (cellL (b + 1) cn).filter _) (fun x hx => by
    obtain ⟨x1, x2⟩ := List.mem_filter.1 hx
    show ((roomP m x : Nat) : Int) = _
    rw [roomP_small hok hcn (by omega) hbB he x1 x2]), sumI_const]
   have hfb := filter_both (fun x => m.used.getD x false) (cellL (b + 1) cn)
   rw [cellL_len] at hfb
   have h5 : clsCells (cn : Int) * clsWords (cn : Int) ≤ 512 := by unfold clsCells; exact Nat.div_mul_le_self _ _
   have hw : clsWaste cn + clsCells (cn : Int) * clsWords (cn : Int) = 512 := by unfold clsWaste; omega
   rw [← hfb, Nat.add_mul] at hw
   rw [← Int.natCast_mul, Nat.mul_comm (clsWords (cn : Int))]
   omega
  by_cases h2 : k = 2
  ·rw [if_neg h0, if_neg h1, if_neg (by omega), if_pos h2, sumI_perm _ (hO2 h2), hF2 h1]
   simp only [sumI_nil, sumI_cons]
   rw [hRl h2]
   omega
  ·rw [if_neg h0, if_neg h1, if_neg (by omega), if_neg h2, hO0 h1 h2, hF2 h1]
   simp only [sumI_nil, sumI_cons]
   omega
theorem words_all (hok : AlOk B m) (hlg : LgOk m) (hs : Snd m.bm.list) (hB : 1 ≤ B) : 512 * ((repTo m (B - 1)).fr : Int) + (repTo m (B - 1)).us + (repTo m (B - 1)).wa + (freeSum (fun k => clsWords (k : Int)) m (B - 1) : Nat) = 512 * ((B : Int) - 1) := by
 have h1 := words_is hok hlg (B - 1) (by omega)
 rw [wt_all hok.bm hs hB] at h1
 obtain ⟨a1, a2, a3, a4, a5, a6, a7⟩ := repTo_is hok hlg (B - 1) (by omega)
 unfold wordsTo at h1
 have h2 := sumI_add (fun x => ((sizeP m x : Nat) : Int)) (fun x => ((roomP m x : Nat) : Int) - (sizeP m x : Nat)) (upB (B - 1) (onesL m.used))
 rw [sumI_congr (g := fun x => ((roomP m x : Nat) : Int)) (fun x _ => by show ((sizeP m x : Nat) : Int) + (((roomP m x : Nat) : Int) - (sizeP m x : Nat)) = _; omega)] at h2
 rw [a1, a5, a7]
 omega
end
end Go.Proofs.YtpopbfagliagnaaGreat
namespace Go.Proofs.YtpopbfagliagnaaGreat
open Go.RowKit Go.ChangeShapes Go.WideShapes
section
variable {H : Type} {enc : TypeId × Value → H} {P : Program} {w : World} {base b0 : Nat} {r : Reach} {spare : Nat → Bool} {held : Bool}
end
end Go.Proofs.YtpopbfagliagnaaGreat
namespace Go.Proofs.YtpopbfagliagnaaGreat
open Go.RowKit Go.Maps
def rc1 (L : List Hd) (j : Nat) : Rep := ⟨kindTo L 0 j, kindTo L 1 j, kindTo L 2 j, 0, 0, 0, (wasteTo L j : Nat)⟩
def rc2 (L : List Hd) (xs : List Nat) (j k : Nat) : Rep := { rc1 L j with ce := sumK (fun k => (freeTo (fun y => xs.contains y) L k j).length) k }
def szS (S : Dev) (x : Nat) : Nat := objSize (headN S (x : Int)).p (headN S (x : Int)).d
def rmS (S : Dev) (x : Nat) : Nat := roomN (headN S (x : Int)).p (headN S (x : Int)).d
def sumN (f : Nat → Nat) : List Nat → Nat
 | [] => 0
 | x :: xs => f x + sumN f xs
theorem sumN_snoc (f : Nat → Nat) (x : Nat) : ∀ xs, sumN f (xs ++ [x]) = sumN f xs + f x
 | [] => by simp [sumN]
 | y :: ys => by rw [List.cons_append, sumN, sumN, sumN_snoc f x ys]; omega
theorem sumN_le (f : Nat → Nat) (N : Nat) (h : ∀ x, f x ≤ N) : ∀ xs : List Nat, sumN f xs ≤ N * xs.length
 | [] => by simp [sumN]
 | x :: xs => by
  have := sumN_le f N h xs
  have := h x
  rw [sumN, List.length_cons, Nat.mul_add]; omega
theorem sumN_I (f : Nat → Nat) : ∀ xs, ((sumN f xs : Nat) : Int) = sumI (fun x => (f x : Nat)) xs
 | [] => rfl
 | x :: xs => by rw [sumN, sumI_cons, ← sumN_I f xs]; omega
def rc3 (S : Dev) (L : List Hd) (xs : List Nat) (j i : Nat) : Rep :=
 { rc2 L xs j 32 with ob := i, us := sumN (szS S) (xs.take i), wa := (wasteTo L j : Nat) + ((sumN (rmS S) (xs.take i) : Nat) : Int) - ((sumN (szS S) (xs.take i) : Nat) : Int) }
theorem kindTo_le (L : List Hd) (k : Int) : ∀ j, kindTo L k j ≤ j
 | 0 => Nat.le_refl _
 | j + 1 => by have := kindTo_le L k j; rw [kindTo_succ]; split <;> omega
theorem wasteTo_le (L : List Hd) : ∀ j, wasteTo L j ≤ 512 * j
 | 0 => Nat.le_refl _
 | j + 1 => by
  have := wasteTo_le L j
  have h2 : clsWaste (L.getD (j + 1) default).c.toNat ≤ 512 := Nat.sub_le _ _
  rw [wasteTo_succ]
  split <;> omega
theorem sumK_le (f : Nat → Nat) (N : Nat) (h : ∀ x, x < 32 → f x ≤ N) : ∀ n, n ≤ 32 → sumK f n ≤ N * n
 | 0, _ => Nat.zero_le _
 | n + 1, hn => by
  have := sumK_le f N h n (by omega)
  have := h n (by omega)
  rw [sumK, Nat.mul_add]; omega
theorem rmS_le (S : Dev) (x : Nat) : rmS S x ≤ 20000 := by
 unfold rmS roomN
 have := objSize_le (headN S (x : Int)).p (headN S (x : Int)).d
 split
 ·have := clsWords_256 ((ofN (objSize (headN S (x : Int)).p (headN S (x : Int)).d : Nat) : Nat) : Int); omega
 ·unfold objBlocks; split <;> omega
def rep0 : Rep := ⟨0, 0, 0, 0, 0, 0, 0⟩
theorem aggRr : Agg Tryz.prog 161 #[.int .i64 0, .int .i64 0, .int .i64 0, .int .i64 0, .int .i64 0, .int .i64 0, .int .i64 0] := ⟨⟨_, Tryz.underlying161, rfl⟩, by kernel_rfl⟩
set_option maxHeartbeats 8000000 in
set_option maxRecDepth 100000 in
theorem rcount28_any {w : World} {v : Value} {S : Dev} {m : Nat} (hm : S.dirty.length = m) (h : RAt w v m S.ref) {N : Nat} (hf : S.fit N) (a : Option Addr) (n cap : Nat) (L : List Hd) (hn : L.length = n) (hn1 : 1 ≤ n) (hn2 : n ≤ 200) (hc : Cells w a (hdCs L))
  (hL : ∀ q, 1 ≤ q → q < n → HdRight (L.getD q default).k (L.getD q default).c (L.getD q default).l) (b : Option Addr) (un uc : Nat) (xs : List Nat) (hun : xs.length = un) (hx : Cells w b (xs.map vi)) (hul : un ≤ 100000) :
  Calls Tryz.prog 80 #[v, .slice a n cap, .slice b un uc] w (Gives (.agg (rc3 S L xs (n - 1) un).cs.toArray) w) := by
 have HP : Hid (∀ w', Below w.heap.size w w' → Gives (.agg (rc3 S L xs (n - 1) un).cs.toArray) w (.returned (.agg (rc3 S L xs (n - 1) un).cs.toArray)) w') := LH (fun w' h => ⟨rfl, h⟩)
 generalize hPo : Gives (.agg (rc3 S L xs (n - 1) un).cs.toArray) w = Post at *
 clear hPo
 obtain ⟨D, rfl⟩ := h.agg
 have HArr := LH h.arr
 have HRA := LH h
 have HC := LH hc
 have HX := LH hx
 have HN := LH hn
 have HUn := LH hun
 have HDl := LH hm
 clear h hc hx hn hun hm
 have HM0 := LH (Mem.two w D 38 rep0.cs.toArray 161)
 have HM := LH (HM0.out.alloc rep0.cs.toArray 161)
 clear HM0
 go_enter Tryz.func80, Tryz.ntmps80
 go_upto_region 2 with fail
 rw [show (#[.int .i64 0, .int .i64 0, .int .i64 0, .int .i64 0, .int .i64 0, .int .i64 0, .int .i64 0] : Array Value) = rep0.cs.toArray from rfl]
 obtain ⟨q3, hq3⟩ : ∃ q, q = w.heap.size := ⟨_, rfl⟩
 obtain ⟨q6, hq6⟩ : ∃ q, q = w.heap.size + 1 := ⟨_, rfl⟩
 obtain ⟨q7, hq7⟩ : ∃ q, q = w.heap.size + 1 + 1 := ⟨_, rfl⟩
 have HM0 : Hid (Mem w (((w.alloc (.cells D 38)).alloc (.cells rep0.cs.toArray 161)).alloc (.cells rep0.cs.toArray 161)) [⟨q3, 38, D.toList, true⟩, ⟨q6, 161, rep0.cs, true⟩, ⟨q7, 161, (rc1 L 0).cs, true⟩]) := LH (by
  have := HM.out
  rw [World.size_alloc, World.size_alloc] at this
  rw [hq3, hq6, hq7]
  exact this)
 rw [← hq7, ← hq6, ← hq3]
 generalize ((w.alloc _).alloc _).alloc _ = w0 at *
 have hqq : q3 ≠ q7 := by omega
 clear hq3 hq6 hq7 HM
 go_wp2_with fail
 go_loopw [8] (fun iv wr => ∃ j : Nat, j + 1 ≤ n ∧ iv = .int .i64 ((j + 1 : Nat) : Int) ∧ Hid (Mem w wr [⟨q3, 38, D.toList, true⟩, ⟨q6, 161, rep0.cs, true⟩, ⟨q7, 161, (rc1 L j).cs, true⟩])) (fun iv _ => n - (intOf iv).toNat)
 case atStart => exact ⟨0, by omega, rfl, HM0⟩
 case round =>
  obtain ⟨j, hj, rfl, HM⟩ := hrel
  by_cases hlt : j + 1 < n
  ·have hlt' : ((j + 1 : Nat) : Int) < (n : Int) := by omega
   obtain ⟨k, c, z, he⟩ := hdGetD L (j + 1)
   have hr := hL (j + 1) (by omega) hlt
   rw [he] at hr
   unfold HdRight at hr
   dsimp only at hr
   obtain ⟨b1, o1, rfl, d0w, d1w, _⟩ := hd_cells HC.out (by rw [HN.out]; exact hlt) he
   have d0 := below_cells HM.out.below d0w (Nat.le_refl _)
   have HD0 := LH d0w
   have HD1 := LH d1w
   clear d0w d1w
   have HK0 := LH (kindTo_succ L 0 j)
   have HK1 := LH (kindTo_succ L 1 j)
   have HK2 := LH (kindTo_succ L 2 j)
   have HW := LH (wasteTo_succ L j)
   have HR1 : Hid (rc1 L (j + 1) = ⟨kindTo L 0 (j + 1), kindTo L 1 (j + 1), kindTo L 2 (j + 1), 0, 0, 0, (wasteTo L (j + 1) : Nat)⟩) := LH rfl
   rw [he] at HK0 HK1 HK2 HW
   dsimp only at HK0 HK1 HK2 HW
   have l0 := kindTo_le L 0 j
   have l1 := kindTo_le L 1 j
   have l2 := kindTo_le L 2 j
   have l3 := wasteTo_le L j
   have g0 : wr.cell? ⟨q7, 0, none⟩ = some (vi (kindTo L 0 j)) := HM.out.cell 2 0 rfl rfl
   have g1 : wr.cell? ⟨q7, 1, none⟩ = some (vi (kindTo L 1 j)) := HM.out.cell 2 1 rfl rfl
   have g2 : wr.cell? ⟨q7, 2, none⟩ = some (vi (kindTo L 2 j)) := HM.out.cell 2 2 rfl rfl
   have HSet : Hid (∀ i v, i < 7 → Mem w (wr.setCell ⟨q7, i, none⟩ v) [⟨q3, 38, D.toList, true⟩, ⟨q6, 161, rep0.cs, true⟩, ⟨q7, 161, (rc1 L j).cs.set i v, true⟩]) := LH (fun i v hi => HM.out.set 2 i v rfl hi)
   have hf7 := HM.out.frozen 2
   have hRc : (rc1 L j).cs = [vi (kindTo L 0 j), vi (kindTo L 1 j), vi (kindTo L 2 j), vi 0, vi 0, vi 0, .int .i64 ((wasteTo L j : Nat) : Int)] := rfl
   have HRc := LH hRc
   generalize rc1 L j = R at *
   generalize kindTo L 0 j = x0 at *
   generalize kindTo L 1 j = x1 at *
   generalize kindTo L 2 j = x2 at *
   generalize wasteTo L j = x6 at *
   clear he hRc
   by_cases h0 : k = 0
   ·subst h0
    have f0 := hf7 0 rfl
    have HFin : Hid (Mem w (wr.setCell ⟨q7, 0, none⟩ (.int .i64 ((x0 : Int) + 1))) [⟨q3, 38, D.toList, true⟩, ⟨q6, 161, rep0.cs, true⟩, ⟨q7, 161, (rc1 L (j + 1)).cs, true⟩]) := LH (by
     have := HSet.out 0 (.int .i64 ((x0 : Int) + 1)) (by omega)
     rw [HRc.out] at this
     rw [HR1.out, HK0.out, HK1.out, HK2.out, HW.out, if_pos rfl, if_neg (by decide), if_neg (by decide), if_neg (by decide)]
     exact this)
    clear hf7
    go_wp2_with fail
    exact ⟨⟨j + 1, by omega, vint (by omega), HFin⟩, by simp [intOf]; omega⟩
   have h0' : (k == 0) = false := by simpa using h0
   by_cases h1 : k = 1
   ·subst h1
    obtain ⟨cn, rfl⟩ := Int.eq_ofNat_of_zero_le (show 0 ≤ c by omega)
    have hcn : cn < 32 := by omega
    have f1 := hf7 1 rfl
    have HMa := LH (HSet.out 1 (.int .i64 ((x1 : Int) + 1)) (by omega))
    rw [HRc.out] at HMa
    have HV1 : Hid (∀ v, v = ((x6 + clsWaste cn : Nat) : Int) → [vi x0, .int .i64 ((x1 : Int) + 1), vi x2, vi 0, vi 0, vi 0, .int .i64 v] = (rc1 L (j + 1)).cs) := LH (fun v hv => by
     rw [HR1.out, HK0.out, HK1.out, HK2.out, HW.out, if_neg (by decide), if_pos rfl, if_neg (by decide), if_pos rfl, hv, Int.toNat_natCast]; rfl)
    have hCW : clsCells (cn : Int) * clsWords (cn : Int) ≤ 512 := by unfold clsCells; exact Nat.div_mul_le_self _ _
    have hws : clsWaste cn = 512 - clsCells (cn : Int) * clsWords (cn : Int) := rfl
    have HCl := LH (fun w => rccells_any (cn : Int) w)
    have HWd := LH (fun w => rcwords_any (cn : Int) w)
    generalize clsWaste cn = ww at *
    generalize clsCells (cn : Int) = cc at *
    generalize clsWords (cn : Int) = wd at *
    obtain ⟨P, hP⟩ : ∃ P, P = cc * wd := ⟨_, rfl⟩
    have hPI : (cc : Int) * (wd : Int) = (P : Int) := by rw [hP, Int.natCast_mul]
    rw [← hP] at hCW hws
    have HFv : Hid ((x6 : Int) + 512 - (P : Int) = ((x6 + ww : Nat) : Int)) := LH (by omega)
    clear hf7 hP hws HSet HRc HR1 HK0 HK1 HK2 HW HM
    go_upto_region 7 with fail
    generalize wr.setCell _ _ = wa at *
    have d0a := below_cells HMa.out.below HD0.out (Nat.le_refl _)
    have d1a := below_cells HMa.out.below HD1.out (Nat.le_refl _)
    clear d0 g0 g1 g2 f1
    go_upto_region 8 with fail
    have g6 : wa.cell? ⟨q7, 6, none⟩ = some (.int .i64 (x6 : Int)) := HMa.out.cell 2 6 rfl rfl
    have r1 := fun x => later_cell d1a x
    have r6 := fun x => later_cell g6 x
    clear d0a d1a g6
    refine wp_region_seg (C := fun w' => ∃ x : Later (wa), w' = x.val) [.fl [0, 1, 2, 3, 4, 5, 6, 7, 9, 10, 11, 12, 13], .sq [8] true, .sq [14] true, .fl [15], .sq [16, 17, 18] false] (by kernel_rfl) (by kernel_rfl) (by intro c a d v w h; cases d <;> exact h) ?_
    simp only [segs, picks, List.getElem?_cons_succ, List.getElem?_cons_zero]
    have hC1 := later_drew (wa)
    refine wpSeg_fl hC1 ?_
    repeat (first | go_big_quiet_step (fail) | quiet_step (fail))
    refine wpQuiet_nil ?_
    refine wpSeg_sq (fun K hK => ?_)
    go_wp2_with fail
    refine (HCl.out _).mono ?_
    rintro e w5 ⟨rfl, hb5⟩
    have hC2 := later_step hC1 hb5
    clear hb5 r1 r6
    go_wp2_with fail
    refine hK _ _ (fun _ => hC2) ?_
    clear hK K
    refine wpSeg_sq (fun K hK => ?_)
    go_wp2_with fail
    refine (HWd.out _).mono ?_
    rintro e w6 ⟨rfl, hb6⟩
    have hC3 := later_step hC2 hb6
    clear hb6
    go_wp2_with fail
    refine hK _ _ (fun _ => hC3) ?_
    clear hK K
    refine wpSeg_fl hC3 ?_
    repeat (first | go_big_quiet_step (fail) | quiet_step (fail))
    refine wpQuiet_nil ?_
    have HM6 := LH (HMa.out.later (later_below hC3))
    have g6 : w6.cell? ⟨q7, 6, none⟩ = some (.int .i64 (x6 : Int)) := HM6.out.cell 2 6 rfl rfl
    have f6 := HM6.out.frozen 2 6 rfl
    have HM7 : Hid (Mem w (w6.setCell ⟨q7, 6, none⟩ (.int .i64 ((x6 : Int) + 512 - (P : Int)))) [⟨q3, 38, D.toList, true⟩, ⟨q6, 161, rep0.cs, true⟩, ⟨q7, 161, (rc1 L (j + 1)).cs, true⟩]) := LH (by
     have := HM6.out.set 2 6 (.int .i64 ((x6 : Int) + 512 - (P : Int))) rfl (by simp)
     rw [← HV1.out _ HFv.out]
     exact this)
    clear hC1 hC2 hC3 HCl HWd
    refine wpSeg_last ?_
    go_wp2_with fail
    exact ⟨⟨j + 1, by omega, vint (by omega), HM7⟩, by simp [intOf]; omega⟩
   have h1' : (k == 1) = false := by simpa using h1
   by_cases h2 : k = 2
   ·subst h2
    have f2 := hf7 2 rfl
    have HFin : Hid (Mem w (wr.setCell ⟨q7, 2, none⟩ (.int .i64 ((x2 : Int) + 1))) [⟨q3, 38, D.toList, true⟩, ⟨q6, 161, rep0.cs, true⟩, ⟨q7, 161, (rc1 L (j + 1)).cs, true⟩]) := LH (by
     have := HSet.out 2 (.int .i64 ((x2 : Int) + 1)) (by omega)
     rw [HRc.out] at this
     rw [HR1.out, HK0.out, HK1.out, HK2.out, HW.out, if_neg (by decide), if_neg (by decide), if_pos rfl, if_neg (by decide)]
     exact this)
    have d0b := below_cells HFin.out.below HD0.out (Nat.le_refl _)
    clear hf7
    go_wp2_with fail
    exact ⟨⟨j + 1, by omega, vint (by omega), HFin⟩, by simp [intOf]; omega⟩
   have h3 : k = 3 := by omega
   subst h3
   have HFin : Hid (Mem w wr [⟨q3, 38, D.toList, true⟩, ⟨q6, 161, rep0.cs, true⟩, ⟨q7, 161, (rc1 L (j + 1)).cs, true⟩]) := LH (by
    have := HM.out
    rw [HRc.out] at this
    rw [HR1.out, HK0.out, HK1.out, HK2.out, HW.out, if_neg (by decide), if_neg (by decide), if_neg (by decide), if_neg (by decide)]
    exact this)
   clear hf7
   go_wp2_with fail
   exact ⟨⟨j + 1, by omega, vint (by omega), HFin⟩, by simp [intOf]; omega⟩
  ·have hjn : j + 1 = n := by omega
   rw [hjn]
   have hj1 : n - 1 = j := by omega
   rw [hj1] at HP
   have HJ := LH hj1
   have hlt' : decide ((n : Int) < (n : Int)) = false := by simp
   have hj2 : j ≤ 200 := by omega
   clear hjn hj1 hj hlt
   have HFs : Hid (∀ k, k < 32 → (freeTo (fun y => xs.contains y) L k j).length ≤ 51200) := LH (fun k hk => by
    have := freeTo_len (u := fun y => xs.contains y) (L := L) hk j
    omega)
   have HSl : Hid (∀ k, k ≤ 32 → sumK (fun k => (freeTo (fun y => xs.contains y) L k j).length) k ≤ 51200 * 32) := LH (fun k hk => Nat.le_trans (sumK_le _ 51200 HFs.out k hk) (Nat.mul_le_mul_left _ hk))
   have HFr := LH (fun w' (h : Below w.heap.size w w') (k : Nat) (hk : k < 32) => rfree16_any a n cap L HN.out (HC.out.below h (Nat.le_refl _)) hn2 k hk b un uc xs HUn.out (HX.out.below h (Nat.le_refl _)) (by omega))
   have HM2 : Hid (Mem w wr [⟨q3, 38, D.toList, true⟩, ⟨q6, 161, rep0.cs, true⟩, ⟨q7, 161, (rc2 L xs j 0).cs, true⟩]) := HM
   clear HM HM0
   go_wp2_with fail
   go_loopw [9] (fun iv wr => ∃ k : Nat, k ≤ 32 ∧ iv = .int .i64 (k : Int) ∧ Hid (Mem w wr [⟨q3, 38, D.toList, true⟩, ⟨q6, 161, rep0.cs, true⟩, ⟨q7, 161, (rc2 L xs j k).cs, true⟩])) (fun iv _ => 32 - (intOf iv).toNat)
   case atStart => exact ⟨0, by omega, rfl, HM2⟩
   case round =>
    clear HM2
    obtain ⟨k, hk, rfl, HM⟩ := hrel
    by_cases hlt : k < 32
    ·have hlt2 : (k : Int) < 32 := by omega
     have hSn : rc2 L xs j (k + 1) = { rc2 L xs j k with ce := (rc2 L xs j k).ce + (freeTo (fun y => xs.contains y) L k j).length } := rfl
     have HSn := LH hSn
     have hce : (rc2 L xs j k).ce ≤ 51200 * 32 := HSl.out k hk
     have hfl := HFs.out k hlt
     have HFk := LH (fun w' (h : Below w.heap.size w w') => HFr.out w' h k hlt)
     rw [HJ.out] at HFk
     have g5 : wr.cell? ⟨q7, 5, none⟩ = some (vi (rc2 L xs j k).ce) := HM.out.cell 2 5 rfl rfl
     generalize rc2 L xs j k = R at *
     generalize freeTo (fun y => xs.contains y) L k j = fr at *
     obtain ⟨fl, hfe⟩ : ∃ fl, fl = fr.length := ⟨_, rfl⟩
     rw [← hfe] at hfl HSn
     have HFe := LH hfe
     clear hSn hfe
     go_upto_region 12 with fail
     have r5 := fun x => later_cell g5 x
     clear g5
     refine wp_region_seg (C := fun w' => ∃ x : Later (wr), w' = x.val) [.fl [0, 1, 2, 3, 4], .sq [5] true, .fl [6], .sq [7, 8, 9] false] (by kernel_rfl) (by kernel_rfl) (by intro c a d v w h; cases d <;> exact h) ?_
     simp only [segs, picks, List.getElem?_cons_succ, List.getElem?_cons_zero]
     have hC1 := later_drew (wr)
     refine wpSeg_fl hC1 ?_
     repeat (first | go_big_quiet_step (fail) | quiet_step (fail))
     refine wpQuiet_nil ?_
     refine wpSeg_sq (fun K hK => ?_)
     go_wp2_with fail
     refine (HFk.out _ (HM.out.below.trans ((later_below hC1).mono HM.out.below.size))).mono ?_
     rintro e w5 ⟨v, rfl, ho, _, hb5⟩
     obtain ⟨a5, c5, rfl, _⟩ := ho.cells
     rw [← HFe.out]
     have hC2 := later_step hC1 hb5
     clear hb5 ho r5
     go_wp2_with fail
     refine hK _ _ (fun _ => hC2) ?_
     clear hK K
     refine wpSeg_fl hC2 ?_
     repeat (first | go_big_quiet_step (fail) | quiet_step (fail))
     refine wpQuiet_nil ?_
     have HM5 := LH (HM.out.later (later_below hC2))
     have g5 : w5.cell? ⟨q7, 5, none⟩ = some (vi R.ce) := HM5.out.cell 2 5 rfl rfl
     have f5 := HM5.out.frozen 2 5 rfl
     have HM6 : Hid (Mem w (w5.setCell ⟨q7, 5, none⟩ (.int .i64 ((R.ce : Int) + (fl : Int)))) [⟨q3, 38, D.toList, true⟩, ⟨q6, 161, rep0.cs, true⟩, ⟨q7, 161, (rc2 L xs j (k + 1)).cs, true⟩]) := LH (by
      have := HM5.out.set 2 5 (.int .i64 ((R.ce : Int) + (fl : Int))) rfl (by simp [Rep.cs])
      rw [HSn.out]
      exact this)
     clear hC1 hC2
     refine wpSeg_last ?_
     go_wp2_with fail
     exact ⟨⟨k + 1, by omega, vint (by omega), HM6⟩, by simp [intOf]; omega⟩
    ·have hk32 : k = 32 := by omega
     have hlt2 : decide ((k : Int) < 32) = false := by simp; omega
     rw [hk32] at HM
     clear hlt hk32
     have HM3 : Hid (Mem w wr [⟨q3, 38, D.toList, true⟩, ⟨q6, 161, rep0.cs, true⟩, ⟨q7, 161, (rc3 S L xs j 0).cs, true⟩]) := LH (by
      have e : rc3 S L xs j 0 = rc2 L xs j 32 := by
       unfold rc3
       rw [List.take_zero]
       unfold sumN rc2 rc1
       simp
      rw [e]; exact HM.out)
     have HSz : Hid (∀ i, sumN (szS S) (xs.take i) ≤ 16448 * 100000) := LH (fun i => by
      have h1 := sumN_le (szS S) 16448 (fun x => objSize_le _ _) (xs.take i)
      have h2 : (xs.take i).length ≤ 100000 := by rw [List.length_take]; have := HUn.out; omega
      exact Nat.le_trans h1 (Nat.mul_le_mul_left _ h2))
     have HRm : Hid (∀ i, sumN (rmS S) (xs.take i) ≤ 20000 * 100000) := LH (fun i => by
      have h1 := sumN_le (rmS S) 20000 (rmS_le S) (xs.take i)
      have h2 : (xs.take i).length ≤ 100000 := by rw [List.length_take]; have := HUn.out; omega
      exact Nat.le_trans h1 (Nat.mul_le_mul_left _ h2))
     have HWl : Hid (wasteTo L j ≤ 512 * 200) := LH (Nat.le_trans (wasteTo_le L j) (Nat.mul_le_mul_left _ hj2))
     clear HM HFr HFs HSl
     go_wp2_with fail
     go_loopw [10] (fun iv wr => ∃ i : Nat, i ≤ un ∧ iv = .int .i64 (i : Int) ∧ Hid (Mem w wr [⟨q3, 38, D.toList, true⟩, ⟨q6, 161, rep0.cs, true⟩, ⟨q7, 161, (rc3 S L xs j i).cs, true⟩])) (fun iv _ => un - (intOf iv).toNat)
     case atStart => exact ⟨0, by omega, rfl, HM3⟩
     case round =>
      clear HM3
      obtain ⟨i, hi, rfl, HM⟩ := hrel
      by_cases hlt : i < un
      ·have hlt3 : (i : Int) < (un : Int) := by omega
       have hix : i < xs.length := by rw [HUn.out]; exact hlt
       obtain ⟨b2, o2, rfl, _, hcx⟩ := HX.out.at (i := i) (by rw [List.length_map]; exact hix)
       have hcw := hcx i (vi (xs.getD i 0)) (by rw [List.getElem?_map, List.getElem?_eq_getElem hix, List.getD_eq_getElem?_getD, List.getElem?_eq_getElem hix]; rfl)
       have htk : xs.take (i + 1) = xs.take i ++ [xs.getD i 0] := by
        rw [List.take_succ_eq_append_getElem hix, List.getD_eq_getElem?_getD, List.getElem?_eq_getElem hix]; rfl
       have HS1 : Hid (sumN (szS S) (xs.take (i + 1)) = sumN (szS S) (xs.take i) + szS S (xs.getD i 0)) := LH (by rw [htk, sumN_snoc])
       have HR1 : Hid (sumN (rmS S) (xs.take (i + 1)) = sumN (rmS S) (xs.take i) + rmS S (xs.getD i 0)) := LH (by rw [htk, sumN_snoc])
       have HR' : Hid (rc3 S L xs j (i + 1) = { rc3 S L xs j i with ob := i + 1, us := sumN (szS S) (xs.take (i + 1)), wa := (wasteTo L j : Nat) + ((sumN (rmS S) (xs.take (i + 1)) : Nat) : Int) - ((sumN (szS S) (xs.take (i + 1)) : Nat) : Int) }) := LH rfl
       have cx := below_cells HM.out.below hcw (Nat.le_refl _)
       have hob : (rc3 S L xs j i).ob = i := rfl
       have hus : (rc3 S L xs j i).us = sumN (szS S) (xs.take i) := rfl
       have hwa : (rc3 S L xs j i).wa = (wasteTo L j : Nat) + ((sumN (rmS S) (xs.take i) : Nat) : Int) - ((sumN (szS S) (xs.take i) : Nat) : Int) := rfl
       have s1 := HSz.out i
       have s2 := HSz.out (i + 1)
       have s3 := HRm.out i
       have s4 := HRm.out (i + 1)
       have s5 := HWl.out
       have sx : szS S (xs.getD i 0) ≤ 16448 := objSize_le _ _
       have rx := rmS_le S (xs.getD i 0)
       have hRA : RAt wr (.agg D) m S.ref := HRA.out.below HM.out.below (Nat.le_refl _)
       have HHd := LH (fun w' (h : Below wr.heap.size wr w') => rhead15_any HDl.out (hRA.below h (Nat.le_refl _)) hf ((xs.getD i 0 : Nat) : Int))
       have HSe : Hid (szS S (xs.getD i 0) = objSize (headN S ((xs.getD i 0 : Nat) : Int)).p (headN S ((xs.getD i 0 : Nat) : Int)).d) := LH rfl
       have HRe : Hid (rmS S (xs.getD i 0) = roomN (headN S ((xs.getD i 0 : Nat) : Int)).p (headN S ((xs.getD i 0 : Nat) : Int)).d) := LH rfl
       generalize rc3 S L xs j i = R at *
       generalize sumN (szS S) (xs.take (i + 1)) = z' at *
       generalize sumN (rmS S) (xs.take (i + 1)) = y' at *
       generalize sumN (szS S) (xs.take i) = z at *
       generalize sumN (rmS S) (xs.take i) = y at *
       generalize szS S (xs.getD i 0) = sz at *
       generalize rmS S (xs.getD i 0) = rm at *
       generalize wasteTo L j = wst at *
       generalize xs.getD i 0 = x at *
       generalize headN S (x : Int) = o at *
       obtain ⟨p, d, cc⟩ := o
       unfold headV at HHd
       dsimp only at HHd HSe HRe
       generalize decide (cc = 0) = okk at *
       have hD8 := HArr.out.1
       have rcx := fun x => later_cell cx x
       clear hcx hcw htk hix hRA cx
       go_upto_region 16 with fail
       go_cut [11, 12] from 106 (fun ov kv wc => ∃ g : Nat, ov = .pointer (some ⟨g, 0, none⟩) ∧ kv = .bool okk ∧ Hid (Mem w wc [⟨q3, 38, D.toList, true⟩, ⟨q6, 161, rep0.cs, true⟩, ⟨q7, 161, R.cs, true⟩, ⟨g, 180, [.int .i64 p, .int .i64 d], true⟩]))
       case first =>
        have hld : ∀ w', (∃ x : Later wr, w' = x.val) → ∀ (i : Nat) (v : Value), D.toList[i]? = some v → w'.cell? ⟨q3, 0 + i, none⟩ = some v := by
         rintro w' ⟨x, rfl⟩ i v hi
         rw [Nat.zero_add]
         exact later_cell (HM.out.cell 0 i rfl hi) x
        refine wp_region_tr (C := fun w' => ∃ x : Later (wr), w' = x.val) (.fl [0, 1, 2, 3, 4] (.br 5 false (.pu [6, 7, 8] (.sq [9] true (.sq [10, 11] false (.nil)))) 9 true (.sq [5, 6] false (.pu [7, 8] (.sq [10, 11] false (.nil)))))) (by kernel_rfl) (by kernel_rfl) (by intro c a d v w h; cases d <;> exact h) ?_
        simp only [trO, picks, List.getElem?_cons_succ, List.getElem?_cons_zero]
        have hC1 := later_drew (wr)
        refine wpTr_fl hC1 ?_
        repeat (first | (refine wpQuiet_load_arr aggRd D hld hD8 rfl rfl rfl ?_) | go_big_quiet_step (fail) | quiet_step (fail))
        refine wpQuiet_nil ?_
        clear rcx hld
        have hbd := later_below hC1
        have HMd := LH (HM.out.later hbd)
        have HBd := LH hbd
        generalize wr.drew = wd at *
        clear hbd
        refine wpTr_br ?_ ?_
        ·refine wpTr_sq (fun K hK => ?_)
         go_wp2_with fail
         refine (HHd.out _ HBd.out).mono ?_
         rintro e w4 ⟨rfl, hb4⟩
         have hC2 := later_step hC1 hb4
         have HM4 := LH (HMd.out.later hb4)
         clear hb4
         go_wp2_with fail
         refine hK _ _ (fun h => nomatch h) ?_
         clear hK K
         refine wpTr_pu ?_
         repeat (first | go_big_quiet_step (fail) | quiet_step (fail))
         refine wpQuiet_nil ?_
         refine wpTr_sq (fun K hK => ?_)
         go_wp2_with fail
         have hba := below_alloc w4 (.cells #[.int .i64 0, .int .i64 0] 180)
         have hC3 := later_step hC2 hba
         have HM5 := LH (HM4.out.alloc #[.int .i64 0, .int .i64 0] 180)
         clear hba
         go_wp2_with fail
         refine hK _ _ (fun _ => hC3) ?_
         clear hK K
         generalize w4.alloc _ = w5 at *
         obtain ⟨g, hg⟩ : ∃ g, g = w4.heap.size := ⟨_, rfl⟩
         rw [← hg] at HM5 ⊢
         clear hg hC1 hC2 hC3
         refine wpTr_last ?_
         go_wp2_with (refine wpList_store_mem aggRo HM5.out 3 rfl rfl rfl rfl rfl rfl rfl rfl ?_; intro w6 h6 ht6; have H6 := LH h6; clear h6 ht6)
         go_meet
         exact ⟨g, rfl, rfl, H6⟩
        ·refine wpTr_sq (fun K hK => ?_)
         go_wp2_with fail
         have hba := below_alloc wd (.cells #[.int .i64 0, .int .i64 0] 180)
         have hC2 := later_step hC1 hba
         have HM4 := LH (HMd.out.alloc #[.int .i64 0, .int .i64 0] 180)
         have HB4 := LH (HBd.out.trans (hba.mono HBd.out.size))
         clear hba
         go_wp2_with fail
         refine hK _ _ (fun _ => hC2) ?_
         clear hK K
         generalize wd.alloc _ = w4 at *
         obtain ⟨g, hg⟩ : ∃ g, g = wd.heap.size := ⟨_, rfl⟩
         rw [← hg] at HM4 ⊢
         clear hg
         refine wpTr_sq (fun K hK => ?_)
         go_wp2_with fail
         refine (HHd.out _ HB4.out).mono ?_
         rintro e w5 ⟨rfl, hb5⟩
         have HM5 := LH (HM4.out.later hb5)
         clear hb5
         go_wp2_with fail
         refine hK _ _ (fun h => nomatch h) ?_
         clear hK K
         refine wpTr_pu ?_
         repeat (first | go_big_quiet_step (fail) | quiet_step (fail))
         refine wpQuiet_nil ?_
         clear hC1 hC2
         refine wpTr_last ?_
         go_wp2_with (refine wpList_store_mem aggRo HM5.out 3 rfl rfl rfl rfl rfl rfl rfl rfl ?_; intro w6 h6 ht6; have H6 := LH h6; clear h6 ht6)
         go_meet
         exact ⟨g, rfl, rfl, H6⟩
       case rest =>
        obtain ⟨g, rfl, rfl, HMc⟩ := hcut
        clear HHd HM rcx
        have HRm := LH (fun w => rroom_any p d w)
        have HSi := LH (fun w => rosize_any p d w)
        rw [← HSe.out] at HSi
        rw [← HRe.out] at HRm
        have a3 : wc.cell? ⟨q7, 3, none⟩ = some (.int .i64 (i : Int)) := by rw [← hob]; exact HMc.out.cell 2 3 rfl rfl
        have f3 := HMc.out.frozen 2 3 rfl
        have HM3 : Hid (Mem w (wc.setCell ⟨q7, 3, none⟩ (.int .i64 ((i : Int) + 1))) [⟨q3, 38, D.toList, true⟩, ⟨q6, 161, rep0.cs, true⟩, ⟨q7, 161, ({ R with ob := i + 1 } : Rep).cs, true⟩, ⟨g, 180, [.int .i64 p, .int .i64 d], true⟩]) := LH (HMc.out.set 2 3 (.int .i64 ((i : Int) + 1)) rfl (by simp [Rep.cs]))
        go_upto_region 18 with fail
        generalize wc.setCell _ _ = w3 at *
        clear a3 f3 HMc
        obtain ⟨W0, hW0⟩ : ∃ W0, W0 = R.wa := ⟨_, rfl⟩
        rw [← hW0] at hwa
        have hz' : z' = z + sz := HS1.out
        have hy' : y' = y + rm := HR1.out
        have HW1 : Hid (W0 + (rm : Int) - (sz : Int) = (wst : Nat) + (y' : Int) - (z' : Int)) := LH (by omega)
        have hWb : -3000000000 ≤ W0 ∧ W0 ≤ 3000000000 := by omega
        have HZ1 : Hid (((z : Int) + (sz : Int)) = ((z' : Nat) : Int)) := LH (by omega)
        have HW0 := LH hW0
        have HUs := LH hus
        clear hwa hz' hy' HS1 HR1 HSe HRe hW0 hus hob
        have b4 : w3.cell? ⟨q7, 4, none⟩ = some (.int .i64 (z : Int)) := by rw [← HUs.out]; exact HM3.out.cell 2 4 rfl rfl
        have o0 := HM3.out.cell 3 0 rfl rfl
        have o1 := HM3.out.cell 3 1 rfl rfl
        have rb := fun x => later_cell b4 x
        have r0 := fun x => later_cell o0 x
        have r1 := fun x => later_cell o1 x
        clear b4 o0 o1
        refine wp_region_seg (C := fun w' => ∃ x : Later (w3), w' = x.val) [.fl [0, 1, 2], .sq [3] true, .sq [4, 5, 6] false] (by kernel_rfl) (by kernel_rfl) (by intro c a d v w h; cases d <;> exact h) ?_
        simp only [segs, picks, List.getElem?_cons_succ, List.getElem?_cons_zero]
        have hC1 := later_drew (w3)
        refine wpSeg_fl hC1 ?_
        repeat (first | go_big_quiet_step (fail) | quiet_step (fail))
        refine wpQuiet_nil ?_
        refine wpSeg_sq (fun K hK => ?_)
        go_wp2_with fail
        refine (HSi.out _).mono ?_
        rintro e w4 ⟨rfl, hb4⟩
        have hC2 := later_step hC1 hb4
        clear hb4 rb r0 r1
        go_wp2_with fail
        refine hK _ _ (fun _ => hC2) ?_
        clear hK K
        have HM4 := LH (HM3.out.later (later_below hC2))
        have b4 : w4.cell? ⟨q7, 4, none⟩ = some (.int .i64 (z : Int)) := by rw [← HUs.out]; exact HM4.out.cell 2 4 rfl rfl
        have f4 := HM4.out.frozen 2 4 rfl
        have HM5 : Hid (Mem w (w4.setCell ⟨q7, 4, none⟩ (.int .i64 ((z : Int) + (sz : Int)))) [⟨q3, 38, D.toList, true⟩, ⟨q6, 161, rep0.cs, true⟩, ⟨q7, 161, ({ R with ob := i + 1, us := z' } : Rep).cs, true⟩, ⟨g, 180, [.int .i64 p, .int .i64 d], true⟩]) := LH (by
         have := HM4.out.set 2 4 (.int .i64 ((z : Int) + (sz : Int))) rfl (by simp [Rep.cs])
         rw [HZ1.out] at this ⊢
         exact this)
        clear hC1 hC2 HM3
        refine wpSeg_last ?_
        go_wp2_with fail
        go_upto_region 19 with fail
        generalize w4.setCell _ _ = w5 at *
        clear b4 f4 HM4
        have b6 : w5.cell? ⟨q7, 6, none⟩ = some (.int .i64 W0) := by rw [HW0.out]; exact HM5.out.cell 2 6 rfl rfl
        have o0 := HM5.out.cell 3 0 rfl rfl
        have o1 := HM5.out.cell 3 1 rfl rfl
        have rb := fun x => later_cell b6 x
        have r0 := fun x => later_cell o0 x
        have r1 := fun x => later_cell o1 x
        clear b6 o0 o1
        refine wp_region_seg (C := fun w' => ∃ x : Later (w5), w' = x.val) [.fl [0, 1, 2, 5], .sq [3] true, .fl [4], .sq [6] true, .sq [7, 8, 9] false] (by kernel_rfl) (by kernel_rfl) (by intro c a d v w h; cases d <;> exact h) ?_
        simp only [segs, picks, List.getElem?_cons_succ, List.getElem?_cons_zero]
        have hC1 := later_drew (w5)
        refine wpSeg_fl hC1 ?_
        repeat (first | go_big_quiet_step (fail) | quiet_step (fail))
        refine wpQuiet_nil ?_
        refine wpSeg_sq (fun K hK => ?_)
        go_wp2_with fail
        refine (HRm.out _).mono ?_
        rintro e w6 ⟨rfl, hb6⟩
        have hC2 := later_step hC1 hb6
        clear hb6 rb r0 r1
        go_wp2_with fail
        refine hK _ _ (fun _ => hC2) ?_
        clear hK K
        refine wpSeg_fl hC2 ?_
        repeat (first | go_big_quiet_step (fail) | quiet_step (fail))
        refine wpQuiet_nil ?_
        refine wpSeg_sq (fun K hK => ?_)
        go_wp2_with fail
        refine (HSi.out _).mono ?_
        rintro e w7 ⟨rfl, hb7⟩
        have hC3 := later_step hC2 hb7
        clear hb7
        go_wp2_with fail
        refine hK _ _ (fun _ => hC3) ?_
        clear hK K
        have HM7 := LH (HM5.out.later (later_below hC3))
        have b6 : w7.cell? ⟨q7, 6, none⟩ = some (.int .i64 W0) := by rw [HW0.out]; exact HM7.out.cell 2 6 rfl rfl
        have f6 := HM7.out.frozen 2 6 rfl
        have HM8 : Hid (Mem w (w7.setCell ⟨q7, 6, none⟩ (.int .i64 (W0 + (rm : Int) - (sz : Int)))) [⟨q3, 38, D.toList, true⟩, ⟨q6, 161, rep0.cs, true⟩, ⟨q7, 161, (rc3 S L xs j (i + 1)).cs, true⟩]) := LH (by
         have := HM7.out.set 2 6 (.int .i64 (W0 + (rm : Int) - (sz : Int))) rfl (by simp [Rep.cs])
         rw [HW1.out] at this ⊢
         rw [HR'.out]
         exact this.upto 3)
        clear hC1 hC2 hC3 HM5
        refine wpSeg_last ?_
        go_wp2_with fail
        exact ⟨⟨i + 1, by omega, vint (by omega), HM8⟩, by simp [intOf]; omega⟩
      ·obtain rfl : i = un := by omega
       clear hlt
       have hlt3 : decide ((i : Int) < (i : Int)) = false := by simp
       go_wp2_with (first
        | (refine wpList_load_mem aggRr HM.out 2 rfl rfl rfl rfl rfl ?_)
        | (refine wpList_store_mem aggRr HM.out 1 rfl rfl rfl rfl rfl rfl rfl rfl ?_; intro w6 h6 ht6; have H6 := LH h6; clear h6 ht6))
       exact bodyPost_ret (results_cell_row (p := 6) rfl _ _ _ _ _ _ _ rfl (H6.out.exact 1 rfl) Tryz.underlying161 rfl (by kernel_rfl)) rfl (HP.out _ H6.out.below)
theorem cellsI64 : Tryz.prog.cellsOf 3 = 1 := by kernel_rfl
theorem infoI64 : (Tryz.prog.info? 3).isSome = true := by kernel_rfl
theorem equal7 (w : World) (xs : List Int) (hx : xs.length = 7) : (Op.equalIn 10000 161 (.agg (xs.map (Value.int .i64)).toArray) (.agg (xs.map (Value.int .i64)).toArray)).run Tryz.prog w = .ok true w := by
 obtain ⟨i, hi⟩ := Option.isSome_iff_exists.1 infoI64
 rw [show (10000 : Nat) = 9999 + 1 from rfl, run_equalIn_array w 9999 _ _ Tryz.underlying161 hi, cellsI64, show (9999 : Nat) = 9998 + 1 from rfl]
 obtain ⟨b, hb, hiff⟩ := run_eqItems_ints Tryz.underlying3 9998 w xs xs (List.range 7) (fun i hi => by simp at hi; omega)
 rw [hb, hiff.2 (fun _ _ => rfl)]
theorem ones_has28 (U : List Bool) : (fun y => (onesL U).contains y) = fun a => U.getD a false := by
 funext y
 rw [Bool.eq_iff_iff, List.contains_iff_mem]; exact mem_onesL
theorem count_is {B : Nat} {m : Al} (hok : AlOk B m) (hlg : LgOk m) (hB : 1 ≤ B) : rc3 (nowD m.bm.dev) m.bm.list (onesL m.used) (B - 1) (onesL m.used).length = repTo m (B - 1) := by
 obtain ⟨a1, a2, a3, a4, a5, a6, a7⟩ := repTo_is hok hlg (B - 1) (by omega)
 have a4 := rep_objects hok hlg hB
 rw [up_all hok hB] at a5 a7
 have hp : ∀ x ∈ onesL m.used, szS (nowD m.bm.dev) x = sizeP m x ∧ rmS (nowD m.bm.dev) x = roomP m x := fun x hx => by
  obtain ⟨o, ho⟩ := Option.isSome_iff_exists.1 (hok.placed x (mem_onesL.1 hx))
  have hh : headN (nowD m.bm.dev) (x : Int) = o := (placed_head ho).1
  unfold szS rmS sizeP roomP
  rw [hh, ho]
  exact ⟨rfl, rfl⟩
 have hs : ((sumN (szS (nowD m.bm.dev)) (onesL m.used) : Nat) : Int) = sumI (fun x => ((sizeP m x : Nat) : Int)) (onesL m.used) := by
  rw [sumN_I]; exact sumI_congr (fun x hx => by rw [(hp x hx).1])
 have hr : ((sumN (rmS (nowD m.bm.dev)) (onesL m.used) : Nat) : Int) = sumI (fun x => ((roomP m x : Nat) : Int)) (onesL m.used) := by
  rw [sumN_I]; exact sumI_congr (fun x hx => by rw [(hp x hx).2])
 have hd := sumI_add (fun x => ((roomP m x : Nat) : Int) - ((sizeP m x : Nat) : Int)) (fun x => ((sizeP m x : Nat) : Int)) (onesL m.used)
 rw [sumI_congr (g := fun x => ((roomP m x : Nat) : Int)) (fun x _ => by show ((roomP m x : Nat) : Int) - (sizeP m x : Nat) + (sizeP m x : Nat) = _; omega)] at hd
 have hce : sumK (fun k => (freeTo (fun y => (onesL m.used).contains y) m.bm.list k (B - 1)).length) 32 = freeSum (fun _ => 1) m (B - 1) := by
  unfold freeSum
  rw [ones_has28]
  exact sumK_congr (fun k _ => (Nat.mul_one _).symm)
 have hus : sumN (szS (nowD m.bm.dev)) (onesL m.used) = (repTo m (B - 1)).us := by omega
 have hwa : ((wasteTo m.bm.list (B - 1) : Nat) : Int) + ((sumN (rmS (nowD m.bm.dev)) (onesL m.used) : Nat) : Int) - ((sumN (szS (nowD m.bm.dev)) (onesL m.used) : Nat) : Int) = (repTo m (B - 1)).wa := by omega
 unfold rc3 rc2 rc1
 rw [List.take_length, hce]
 clear hs hr hd hp hce hok hlg
 generalize repTo m (B - 1) = R at *
 obtain ⟨f, s, l, o, u, c, w⟩ := R
 show (⟨_, _, _, _, _, _, _⟩ : Rep) = _
 rw [Rep.mk.injEq]
 exact ⟨a1.symm, a2.symm, a3.symm, a4.symm, hus, a6.symm, hwa⟩
set_option maxHeartbeats 2000000 in
set_option maxRecDepth 20000 in
theorem report28_any (fr sm lg ob us ce wa : Int) (w : World) : Calls Tryz.prog 79 #[.agg #[.int .i64 fr, .int .i64 sm, .int .i64 lg, .int .i64 ob, .int .i64 us, .int .i64 ce, .int .i64 wa]] w fun e w' => e = .returned (.agg #[.int .i64 fr, .int .i64 sm, .int .i64 lg, .int .i64 ob, .int .i64 us, .int .i64 ce, .int .i64 wa]) ∧ Below w.heap.size w w' := by
 have HM0 := LH (Mem.two w #[.int .i64 fr, .int .i64 sm, .int .i64 lg, .int .i64 ob, .int .i64 us, .int .i64 ce, .int .i64 wa] 157 rep0.cs.toArray 161)
 have HP : Hid (∀ w', Below w.heap.size w w' → (fun e w' => e = Ending.returned (.agg #[.int .i64 fr, .int .i64 sm, .int .i64 lg, .int .i64 ob, .int .i64 us, .int .i64 ce, .int .i64 wa]) ∧ Below w.heap.size w w') (.returned (.agg #[.int .i64 fr, .int .i64 sm, .int .i64 lg, .int .i64 ob, .int .i64 us, .int .i64 ce, .int .i64 wa])) w') := LH (fun w' h => ⟨rfl, h⟩)
 generalize (fun e w' => e = Ending.returned (.agg #[.int .i64 fr, .int .i64 sm, .int .i64 lg, .int .i64 ob, .int .i64 us, .int .i64 ce, .int .i64 wa]) ∧ Below w.heap.size w w') = Post at *
 go_enter Tryz.func79, Tryz.ntmps79
 go_upto_region 1 with fail
 rw [show (#[.int .i64 0, .int .i64 0, .int .i64 0, .int .i64 0, .int .i64 0, .int .i64 0, .int .i64 0] : Array Value) = rep0.cs.toArray from rfl]
 obtain ⟨q, hq⟩ : ∃ q, q = w.heap.size := ⟨_, rfl⟩
 obtain ⟨q2, hq2⟩ : ∃ q, q = w.heap.size + 1 := ⟨_, rfl⟩
 rw [← hq2, ← hq] at HM0 ⊢
 generalize (w.alloc _).alloc _ = w0 at *
 clear hq hq2
 have d0 := HM0.out.cell 0 0 rfl rfl
 have d1 := HM0.out.cell 0 1 rfl rfl
 have d2 := HM0.out.cell 0 2 rfl rfl
 have d3 := HM0.out.cell 0 3 rfl rfl
 have d4 := HM0.out.cell 0 4 rfl rfl
 have d5 := HM0.out.cell 0 5 rfl rfl
 have d6 := HM0.out.cell 0 6 rfl rfl
 go_wp2_with (refine wpList_store_mem aggRr HM0.out 1 rfl rfl rfl rfl rfl rfl rfl rfl ?_; intro w6 h6 ht6; have H6 := LH h6; clear h6 ht6)
 exact bodyPost_ret (results_cell_row (p := 2) rfl _ _ _ _ _ _ _ rfl (H6.out.exact 1 rfl) Tryz.underlying161 rfl (by kernel_rfl)) rfl (HP.out _ H6.out.below)
set_option maxHeartbeats 8000000 in
set_option maxRecDepth 100000 in
theorem checkWhole_any (n8 : Int) (hn8 : 0 ≤ n8 ∧ n8 ≤ 255) (a : Option Addr) (mm cap : Nat) (s : List Op28) (hm : s.length = mm) (w : World) (hcs : Cells w a (recs Op28.cs s)) (hmm : mm ≤ maxLen) :
  Calls Tryz.prog 13 #[.int .u8 n8, .slice a mm cap] w (Gives (.bool true) w) := by
 have HP : Hid (∀ w', Below w.heap.size w w' → Gives (.bool true) w (.returned (.bool true)) w') := LH (fun w' h => ⟨rfl, h⟩)
 generalize Gives (.bool true) w = Post at *
 have HM := LH hm
 have HCS := LH hcs
 clear hm hcs
 go_enter Tryz.func13, Tryz.ntmps13
 go_wp2_with fail
 refine (awake28_any w).mono ?_
 rintro e w1 ⟨rfl, hb1⟩
 have HB1 := LH hb1
 obtain ⟨B, hB2, hB8, hpl⟩ := played28_any n8 hn8 a mm cap s HM.out w1 (HCS.out.below hb1 (Nat.le_refl _)) hmm
 have HPl := LH hpl
 clear hb1 hpl
 go_wp2_with fail
 refine HPl.out.mono ?_
 rintro e w2 ⟨A, n, m, rfl, hh, _⟩
 have HB2 := LH (HB1.out.trans (hh.below.mono HB1.out.size))
 have HMw := LH (Mem.one w2 #[valloc A, vdev A.X.F, .slice none 0 0] 132)
 have HA3 := LH (hh.at_.below HMw.out.below)
 have HOk := LH hh.ok
 have HLg := LH hh.lg
 have HSn := LH hh.snd
 have HB3 := LH (HB2.out.trans (HMw.out.below.mono HB2.out.size))
 clear hh HPl HB1 HB2
 unfold vworld
 go_upto_region 4 with fail
 obtain ⟨q5, hq5⟩ : ∃ q, q = w2.heap.size := ⟨_, rfl⟩
 rw [← hq5] at HMw ⊢
 generalize w2.alloc _ = w3 at *
 clear hq5
 have c0 := HMw.out.cell 0 0 rfl rfl
 go_wp2_with fail
 refine (cwhole_any HA3.out HOk.out HLg.out HSn.out hB2 (by omega)).mono ?_
 rintro e w4 ⟨rfl, hb4⟩
 have HCi := LH (count_is HOk.out HLg.out (show 1 ≤ B by omega))
 have HWa := LH (words_all HOk.out HLg.out HSn.out (show 1 ≤ B by omega))
 have HRk := LH (repTo_ok HOk.out (B - 1) (by omega))
 generalize repTo m (B - 1) = R at *
 obtain ⟨fr, sm, lg, ob, us, ce, wa⟩ := R
 rw [show (Rep.cs ⟨fr, sm, lg, ob, us, ce, wa⟩).toArray = #[.int .i64 (fr : Int), .int .i64 (sm : Int), .int .i64 (lg : Int), .int .i64 (ob : Int), .int .i64 (us : Int), .int .i64 (ce : Int), .int .i64 wa] from rfl]
 have HMr := LH ((HMw.out.later hb4).alloc #[.int .i64 (fr : Int), .int .i64 (sm : Int), .int .i64 (lg : Int), .int .i64 (ob : Int), .int .i64 (us : Int), .int .i64 (ce : Int), .int .i64 wa] 157)
 have HA4 := LH ((HA3.out.below hb4).below (below_alloc w4 (.cells #[.int .i64 (fr : Int), .int .i64 (sm : Int), .int .i64 (lg : Int), .int .i64 (ob : Int), .int .i64 (us : Int), .int .i64 (ce : Int), .int .i64 wa] 157)))
 have HB4 : Hid (Below w.heap.size w (w4.alloc (.cells #[.int .i64 (fr : Int), .int .i64 (sm : Int), .int .i64 (lg : Int), .int .i64 (ob : Int), .int .i64 (us : Int), .int .i64 (ce : Int), .int .i64 wa] 157))) := LH ((HB3.out.trans (hb4.mono HB3.out.size)).trans ((below_alloc w4 _).mono (Nat.le_trans HB3.out.size hb4.size)))
 clear hb4 c0 HB3 HA3 HMw
 go_upto_region 7 with fail
 obtain ⟨q7, hq7⟩ : ∃ q, q = w4.heap.size := ⟨_, rfl⟩
 rw [← hq7] at HMr ⊢
 generalize w4.alloc _ = w5 at *
 clear hq7
 have c0 := HMr.out.cell 0 0 rfl rfl
 have a0 := HA4.out.c0
 have m0 := HA4.out.man.c0
 go_wp2_with fail
 refine (tall_any HA4.out.man.tab (by omega)).mono ?_
 rintro e w6 ⟨gl, kl, rfl, _, _, hrow, hb6⟩
 have HLn : Hid (m.bm.list.length = B) := LH HOk.out.bm.lenL
 have HM6 := LH (HMr.out.later hb6)
 have HA6 := LH (HA4.out.below hb6)
 have HB6 := LH (HB4.out.trans (hb6.mono HB4.out.size))
 have HR6 := LH hrow
 clear hb6 hrow c0 a0 m0 HMr HA4 HB4
 go_wp2_with fail
 refine (refs_any (some ⟨gl, 0, none⟩) B kl m.bm.list HLn.out w6 HR6.out.cells (by omega)).mono ?_
 rintro e w7 ⟨v, rfl, ho, hb7⟩
 obtain ⟨ar, cr, rfl, hcr⟩ := cells_of_owned ho
 have HM7 := LH (HM6.out.later hb7)
 have HA7 := LH (HA6.out.below hb7)
 have HB7 := LH (HB6.out.trans (hb7.mono HB6.out.size))
 have HCr := LH hcr
 clear ho hb7 hcr HR6 HM6 HA6 HB6
 have HWf := LH HA7.out.man.dev.wf
 have HUl : Hid ((onesL m.used).length ≤ 4096) := LH (by
  rw [onesL_length]
  have h1 := count_le_len m.used
  have h2 := HOk.out.lenU
  omega)
 have p0 := HM7.out.cell 1 0 rfl rfl
 have p1 := HM7.out.cell 1 1 rfl rfl
 have p2 := HM7.out.cell 1 2 rfl rfl
 have p3 := HM7.out.cell 1 3 rfl rfl
 have p4 := HM7.out.cell 1 4 rfl rfl
 have p5 := HM7.out.cell 1 5 rfl rfl
 have p6 := HM7.out.cell 1 6 rfl rfl
 have s0 := HM7.out.cell 0 0 rfl rfl
 have s1 := HM7.out.cell 0 1 rfl rfl
 have s2 := HM7.out.cell 0 2 rfl rfl
 go_upto_region 8 with fail
 have rp0 := fun x => later_cell p0 x
 have rp1 := fun x => later_cell p1 x
 have rp2 := fun x => later_cell p2 x
 have rp3 := fun x => later_cell p3 x
 have rp4 := fun x => later_cell p4 x
 have rp5 := fun x => later_cell p5 x
 have rp6 := fun x => later_cell p6 x
 have rs0 := fun x => later_cell s0 x
 have rs1 := fun x => later_cell s1 x
 have rs2 := fun x => later_cell s2 x
 clear p0 p1 p2 p3 p4 p5 p6 s0 s1 s2
 refine wp_region_seg (C := fun w' => ∃ x : Later (w7), w' = x.val) [.sq [0, 1, 2, 3, 4, 5, 6] false, .fl [7, 9, 11, 12, 13], .sq [8] true, .sq [10] true, .sq [14] true, .sq [15, 16, 17] false] (by kernel_rfl) (by kernel_rfl) (by intro c a d v w h; cases d <;> exact h) ?_
 simp only [segs, picks, List.getElem?_cons_succ, List.getElem?_cons_zero]
 have hC1 := later_drew (w7)
 refine wpSeg_sq (fun K hK => ?_)
 go_wp2_with fail
 go_wp2_with fail
 refine hK _ _ (fun h => nomatch h) ?_
 clear hK K
 refine wpSeg_fl hC1 ?_
 repeat (first | go_big_quiet_step (fail) | quiet_step (fail))
 refine wpQuiet_nil ?_
 clear rp0 rp1 rp2 rp3 rp4 rp5 rp6 rs0 rs1 rs2
 refine wpSeg_sq (fun K hK => ?_)
 go_wp2_with fail
 refine (report28_any fr sm lg ob us ce wa _).mono ?_
 rintro e w8 ⟨rfl, hb8⟩
 have hC2 := later_step hC1 hb8
 have HA8 := LH (HA7.out.below (later_below hC2))
 clear hb8
 go_wp2_with fail
 refine hK _ _ (fun _ => hC2) ?_
 clear hK K
 refine wpSeg_sq (fun K hK => ?_)
 go_wp2_with fail
 refine (wnow_any HA8.out.man.dev (valloc A) (.slice none 0 0) (by have := HOk.out.len; omega)).mono ?_
 rintro e w9 ⟨v, rfl, hra, _, hb9⟩
 have hC3 := later_step hC2 hb9
 have HRA9 := LH hra
 have HA9 := LH (HA8.out.below hb9)
 clear hra hb9 HA8
 go_wp2_with fail
 refine hK _ _ (fun _ => hC3) ?_
 clear hK K
 refine wpSeg_sq (fun K hK => ?_)
 go_wp2_with fail
 refine (aobjects_any HA9.out).mono ?_
 intro e w10 hp
 obtain ⟨au, cu, rfl, hcu, hb10, _⟩ := hp.own
 have hC4 := later_step hC3 hb10
 have HRA10 := LH (HRA9.out.below hb10 (Nat.le_refl _))
 have HCu := LH hcu
 have HA10 := LH (HA9.out.below hb10)
 have HM10 := LH (HM7.out.later (later_below hC4))
 have HCr10 := LH (HCr.out.below (later_below hC4) (Nat.le_refl _))
 have HB10 := LH (HB7.out.trans ((later_below hC4).mono HB7.out.size))
 clear hp hcu hb10 HRA9 HA9 HA7 HM7 HCr HB7
 go_wp2_with fail
 refine hK _ _ (fun _ => hC4) ?_
 clear hK K
 clear hC1 hC2 hC3 hC4
 refine wpSeg_last ?_
 go_wp2_with fail
 refine (rcount28_any (S := nowD m.bm.dev) (m := m.bm.dev.dirty.length) (by simp [nowD, freshDev]) HRA10.out (nowD_fit HWf.out 0) ar B cr m.bm.list HLn.out (by omega) (by omega) HCr10.out (fun q h1 h2 => of_decide_eq_true (HOk.out.bm.right q h2)) au (onesL m.used).length cu (onesL m.used) rfl HCu.out (by have := HUl.out; omega)).mono ?_
 rintro e w11 ⟨rfl, hb11⟩
 rw [HCi.out, show (Rep.cs ⟨fr, sm, lg, ob, us, ce, wa⟩).toArray = #[.int .i64 (fr : Int), .int .i64 (sm : Int), .int .i64 (lg : Int), .int .i64 (ob : Int), .int .i64 (us : Int), .int .i64 (ce : Int), .int .i64 wa] from rfl]
 have HA11 := LH (HA10.out.below hb11)
 have HM11 := LH (HM10.out.later hb11)
 have HCr11 := LH (HCr10.out.below hb11 (Nat.le_refl _))
 have HB11 := LH (HB10.out.trans (hb11.mono HB10.out.size))
 clear hb11 HA10 HM10 HCr10 HB10 HRA10 HCu
 have heq : ∀ w', (Op.equalIn 10000 161 (.agg #[.int .i64 (fr : Int), .int .i64 (sm : Int), .int .i64 (lg : Int), .int .i64 (ob : Int), .int .i64 (us : Int), .int .i64 (ce : Int), .int .i64 wa]) (.agg #[.int .i64 (fr : Int), .int .i64 (sm : Int), .int .i64 (lg : Int), .int .i64 (ob : Int), .int .i64 (us : Int), .int .i64 (ce : Int), .int .i64 wa])).run Tryz.prog w' = .ok true w' := fun w' => equal7 w' [(fr : Int), (sm : Int), (lg : Int), (ob : Int), (us : Int), (ce : Int), wa] rfl
 go_upto_region 10 with fail
 clear heq
 have p0 := HM11.out.cell 1 0 rfl rfl
 have p4 := HM11.out.cell 1 4 rfl rfl
 have p6 := HM11.out.cell 1 6 rfl rfl
 have hbd : fr ≤ 2800000 ∧ us ≤ 2800000 ∧ -2800000 ≤ wa ∧ wa ≤ 2800000 := by
  obtain ⟨h1, h2, h3, h4, h5, h6, h7, h8⟩ := HRk.out
  dsimp only at h1 h5 h7 h8
  omega
 obtain ⟨T0, hT0⟩ : ∃ T0 : Int, T0 = 512 * (fr : Int) + (us : Int) + wa := ⟨_, rfl⟩
 have HT0 := LH hT0
 have hTb : -3000000 ≤ T0 ∧ T0 ≤ 2000000000 := by omega
 have hTI : 512 * (fr : Int) + (us : Int) + wa = T0 := hT0.symm
 have HFb : Hid (∀ k, k < 32 → (freeTo (fun a => m.used.getD a false) m.bm.list k (B - 1)).length * clsWords (k : Int) ≤ 458752) := LH (fun k hk => by
  have h1 := freeTo_len (u := fun a => m.used.getD a false) (L := m.bm.list) hk (B - 1)
  have h2 := clsWords_256 (k : Int)
  have h3 : 256 * (B - 1) ≤ 1792 := by omega
  exact Nat.le_trans (Nat.mul_le_mul (Nat.le_trans h1 h3) h2) (by decide))
 have HSb : Hid (∀ k, k ≤ 32 → sumK (fun k => (freeTo (fun a => m.used.getD a false) m.bm.list k (B - 1)).length * clsWords (k : Int)) k ≤ 458752 * 32) := LH (fun k hk => Nat.le_trans (sumK_le _ 458752 HFb.out k hk) (Nat.mul_le_mul_left _ hk))
 have HSe : Hid (∀ k, sumK (fun k => (freeTo (fun a => m.used.getD a false) m.bm.list k (B - 1)).length * clsWords (k : Int)) (k + 1) = sumK (fun k => (freeTo (fun a => m.used.getD a false) m.bm.list k (B - 1)).length * clsWords (k : Int)) k + (freeTo (fun a => m.used.getD a false) m.bm.list k (B - 1)).length * clsWords (k : Int)) := LH (fun _ => rfl)
 have HEnd : Hid (T0 + ((sumK (fun k => (freeTo (fun a => m.used.getD a false) m.bm.list k (B - 1)).length * clsWords (k : Int)) 32 : Nat) : Int) = 512 * ((B : Int) - 1)) := LH (by rw [hT0]; exact HWa.out)
 have HFr := LH (fun w' (au : Option Addr) (cu : Nat) (h : Below w11.heap.size w11 w') (hc : Cells w' au ((onesL m.used).map vi)) (k : Nat) (hk : k < 32) => rfree16_any ar B cr m.bm.list HLn.out (HCr11.out.below h (Nat.le_refl _)) (by omega) k hk au (onesL m.used).length cu (onesL m.used) rfl hc (by have := HUl.out; omega))
 rw [ones_has28] at HFr
 have HS0 : Hid (sumK (fun k => (freeTo (fun a => m.used.getD a false) m.bm.list k (B - 1)).length * clsWords (k : Int)) 0 = 0) := LH rfl
 generalize sumK (fun k => (freeTo (fun a => m.used.getD a false) m.bm.list k (B - 1)).length * clsWords (k : Int)) = SK at *
 clear hT0
 go_wp2_with fail
 clear p0 p4 p6 hTI hbd
 go_loopw [11, 12] (fun xv kv wr => ∃ (k : Nat) (x : Int), k ≤ 32 ∧ -3000000 ≤ x ∧ x ≤ 2100000000 ∧ xv = .int .i64 x ∧ kv = .int .i64 (k : Int) ∧ Hid (x = T0 + (SK k : Nat)) ∧ Hid (Below w11.heap.size w11 wr)) (fun _ kv _ => 32 - (intOf kv).toNat)
 case atStart => exact ⟨0, T0, by omega, by omega, by omega, rfl, rfl, LH (by rw [HS0.out]; omega), LH (Below.refl _ _)⟩
 case round =>
  obtain ⟨k, x, hk, hx1, hx2, rfl, rfl, HX, HB⟩ := hrel
  by_cases hlt : k < 32
  ·have hlt2 : (k : Int) < 32 := by omega
   have HAr := LH (HA11.out.below HB.out)
   have HMr := LH (HM11.out.later HB.out)
   have c0 := HMr.out.cell 0 0 rfl rfl
   have hfb := HFb.out k hlt
   have HSk := LH (HSe.out k)
   have hsb := HSb.out (k + 1) (by omega)
   have HFk := LH (fun w' au cu h hc => HFr.out w' au cu h hc k hlt)
   have HWd := LH (fun w => rcwords_any (k : Int) w)
   generalize freeTo (fun a => m.used.getD a false) m.bm.list k (B - 1) = fl at *
   generalize clsWords (k : Int) = wd at *
   obtain ⟨ll, hll⟩ : ∃ ll, ll = fl.length := ⟨_, rfl⟩
   rw [← hll] at hfb HSk
   have HLl := LH hll
   obtain ⟨P, hP⟩ : ∃ P, P = ll * wd := ⟨_, rfl⟩
   have hPI : (ll : Int) * (wd : Int) = (P : Int) := by rw [hP, Int.natCast_mul]
   rw [← hP] at hfb HSk
   have HNx : Hid (x + (P : Int) = T0 + (SK (k + 1) : Nat)) := LH (by rw [HSk.out, HX.out]; omega)
   have hx3 : -3000000 ≤ x + (P : Int) ∧ x + (P : Int) ≤ 2100000000 := by rw [HNx.out]; omega
   clear hll hP
   go_wp2_with fail
   refine (aobjects_any HAr.out).mono ?_
   intro e w12 hp
   obtain ⟨au, cu, rfl, hcu, hb12, _⟩ := hp.own
   have HCu := LH hcu
   have HB12 := LH (HB.out.trans (hb12.mono HB.out.size))
   clear hp hcu hb12 c0
   go_wp2_with fail
   refine (HFk.out w12 au cu HB12.out HCu.out).mono ?_
   rintro e w13 ⟨v, rfl, ho, _, hb13⟩
   obtain ⟨a5, c5, rfl, _⟩ := ho.cells
   rw [← HLl.out]
   have HB13 := LH (HB12.out.trans (hb13.mono HB12.out.size))
   clear ho hb13
   go_wp2_with fail
   refine (HWd.out _).mono ?_
   rintro e w14 ⟨rfl, hb14⟩
   have HB14 := LH (HB13.out.trans (hb14.mono HB13.out.size))
   clear hb14
   go_wp2_with fail
   refine ⟨⟨k + 1, x + (P : Int), by omega, hx3.1, hx3.2, rfl, vint (by omega), HNx, HB14⟩, ?_⟩
   simp [intOf]; omega
  ·have hk32 : k = 32 := by omega
   have hlt2 : decide ((k : Int) < 32) = false := by simp; omega
   rw [hk32] at HX
   have HAr := LH (HA11.out.below HB.out)
   have HMr := LH (HM11.out.later HB.out)
   have c0 := HMr.out.cell 0 0 rfl rfl
   have a0 := HAr.out.c0
   have m0 := HAr.out.man.c0
   have hfin : x = 512 * ((B : Int) - 1) := by rw [HX.out, HEnd.out]
   have HFn := LH (HP.out wr (HB11.out.trans (HB.out.mono HB11.out.size)))
   clear hlt hk32
   go_wp2_with fail
   refine (tlen_any HAr.out.man.tab).mono ?_
   rintro e w12 ⟨rfl, rfl⟩
   go_wp2_with fail
   exact HFn.out
end Go.Proofs.YtpopbfagliagnaaGreat
namespace Go.Proofs.YtpopbfagliagnaaGreat
open Go.RowKit Go.ChangeShapes Go.WideShapes Go.Deep
theorem wf_bounds {x : Int} (h : (Lit.int .i64 x).wf = true) : -9223372036854775808 ≤ x ∧ x ≤ 9223372036854775807 := by
 simp [Lit.wf, IntKind.min, IntKind.max, IntKind.bits, IntKind.signed] at h
 omega
theorem list_of {α : Type} (P : Nat → α → Prop) : ∀ n, (∀ i, i < n → ∃ x, P i x) → ∃ l : List α, l.length = n ∧ ∀ i x, l[i]? = some x → P i x
 | 0, _ => ⟨[], rfl, by simp⟩
 | n + 1, h => by
  obtain ⟨l, hl, hp⟩ := list_of P n (fun i hi => h i (by omega))
  obtain ⟨x, hx⟩ := h n (by omega)
  refine ⟨l ++ [x], by simp [hl], fun i y hy => ?_⟩
  by_cases hi : i < l.length
  ·rw [List.getElem?_append_left hi] at hy; exact hp i y hy
  ·rw [List.getElem?_append_right (by omega)] at hy
   have h0 : i - l.length = 0 := by
    have := (List.getElem?_eq_some_iff.1 hy).1; simp at this; omega
   rw [h0] at hy
   simp at hy
   subst hy
   rw [show i = n by omega]; exact hx
section
variable {H : Type} {enc : TypeId × Value → H} {P : Program} {w : World} {base : Nat} {spare : Nat → Bool} {held : Bool}
theorem ints_struct {e T : TypeId} {fs : Array Field} {n fuel : Nat} {us : List Value} {z : DataW H × List MemPlace} (he : P.underlying e = some (.struct fs)) (hT : P.underlying T = some (.int .i64)) (hc : P.cellsOf T = 1)
  (hF : ((List.range n).all fun j => match fs[j]? with | some f => f.type == T && f.offset == j | none => false) = true) (hlen : us.length = n) (hz : DataW.trod enc P w base spare held fuel e us = some z) :
  ∃ zs : List Int, zs.length = n ∧ us = zs.map (Value.int .i64) ∧ ∀ x ∈ zs, -9223372036854775808 ≤ x ∧ x ≤ 9223372036854775807 := by
 obtain ⟨ys, n', _, _, _, hyl, hf⟩ := DataW.trod_struct he hz
 have each : ∀ j, j < n → ∃ x : Int, us[j]? = some (.int .i64 x) ∧ (-9223372036854775808 ≤ x ∧ x ≤ 9223372036854775807) := by
  intro j hj
  have h1 := List.all_eq_true.1 hF j (List.mem_range.2 hj)
  cases hfj : fs[j]? with
  | none => rw [hfj] at h1; cases h1
  | some f =>
   rw [hfj] at h1
   simp only [Bool.and_eq_true, beq_iff_eq] at h1
   have h2 := hf j f hfj
   rw [h1.1, h1.2, hc] at h2
   have hjs : j < ys.length := by rw [hyl]; exact (Array.getElem?_eq_some_iff.1 hfj).1
   rw [List.getElem?_eq_getElem hjs] at h2
   have hju : j < us.length := by omega
   have h3 : (us.drop j).take 1 = [us[j]] := by rw [List.drop_eq_getElem_cons hju]; rfl
   rw [h3] at h2
   obtain ⟨x, hx, _, hw⟩ := DataW.trod_int hT h2
   have hx' : us[j] = .int .i64 x := by simpa using hx
   exact ⟨x, by rw [List.getElem?_eq_getElem hju, hx'], wf_bounds hw⟩
 obtain ⟨zs, hl, hp⟩ := list_of (fun j x => us[j]? = some (.int .i64 x) ∧ (-9223372036854775808 ≤ x ∧ x ≤ 9223372036854775807)) n each
 refine ⟨zs, hl, ?_, fun x hx => ?_⟩
 ·apply List.ext_getElem?
  intro i
  by_cases hi : i < zs.length
  ·rw [(hp i _ (List.getElem?_eq_getElem hi)).1, List.getElem?_map, List.getElem?_eq_getElem hi]; rfl
  ·rw [List.getElem?_eq_none (by omega), List.getElem?_eq_none (by simp; omega)]
 ·obtain ⟨i, hi, rfl⟩ := List.mem_iff_getElem.1 hx
  exact (hp i _ (List.getElem?_eq_getElem hi)).2
theorem recs_ints_read {α : Type} {f : α → List Value} {n : Nat} (hfl : ∀ x, (f x).length = n) (hn : 0 < n) (d : α) (mk : List Int → α) (hmk : ∀ zs : List Int, zs.length = n → f (mk zs) = zs.map (Value.int .i64))
  {t e T : TypeId} {fs : Array Field} {fuel : Nat} {v : Value} {y : DataW H × List MemPlace} (ht : P.underlying t = some (.slice e)) (he : P.underlying e = some (.struct fs)) (hT : P.underlying T = some (.int .i64)) (hC : P.cellsOf e = n) (hc : P.cellsOf T = 1)
  (hF : ((List.range n).all fun j => match fs[j]? with | some f => f.type == T && f.offset == j | none => false) = true) (h : DataW.trod enc P w base spare held fuel t [v] = some y) :
  ∃ (a : Option Addr) (len cap : Nat) (l : List α), v = .slice a len cap ∧ l.length = len ∧ Cells w a (recs f l) ∧ (∀ o ∈ l, ∃ zs : List Int, o = mk zs ∧ zs.length = n ∧ ∀ x ∈ zs, -9223372036854775808 ≤ x ∧ x ≤ 9223372036854775807) ∧ len ≤ maxLen := by
 obtain ⟨a, len, cap, m, rfl, hl, hm, hcs⟩ := elems_read ht hC hn h
 rcases hcs with rfl | ⟨b, off, rfl, hcs⟩
 ·exact ⟨a, 0, cap, [], rfl, rfl, Cells.nil _ _, by simp, Nat.zero_le _⟩
 ·have each : ∀ i, i < len → ∃ x : α, (∀ r u, (f x)[r]? = some u → w.cell? ⟨b, off + i * n + r, none⟩ = some u) ∧ ∃ zs : List Int, x = mk zs ∧ zs.length = n ∧ ∀ x ∈ zs, -9223372036854775808 ≤ x ∧ x ≤ 9223372036854775807 := by
   intro i hi
   obtain ⟨us, z, hlen, hat, hz⟩ := hcs i hi
   obtain ⟨zs, h1, h2, h3⟩ := ints_struct he hT hc hF hlen hz
   exact ⟨mk zs, fun r u hr => by rw [hmk zs h1, ← h2] at hr; exact hat r u hr, zs, rfl, h1, h3⟩
  obtain ⟨l, hll, hcl, hok⟩ := recs_of hfl hn d each
  exact ⟨_, len, cap, l, rfl, hll, hcl, hok, by omega⟩
end
end Go.Proofs.YtpopbfagliagnaaGreat
