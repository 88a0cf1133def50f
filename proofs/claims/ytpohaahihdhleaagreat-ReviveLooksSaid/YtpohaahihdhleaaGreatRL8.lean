/- Parts of the proof that ReviveLooks holds. -/
import Derived.Test.YtpohaahihdhleaaGreatRL7
import Derived.BigQuiet
import Derived.Lib.ItoaNum
import Derived.Lib.ItoaLen
import Derived.Lib.SplitLaws
import Derived.RangeFuncNested
import Derived.RangeFuncBound
import Derived.RangeFuncCalls
import Derived.RangeFuncLeaves
import Derived.RangeFuncBox
import Derived.Shelf.Abstract
import Derived.WalkKit
import Derived.OwnWalkIn
import Derived.TacticsInMore
import Derived.LoopNIn
import Derived.LoopIn
import Derived.Maps.AppendAt
import Derived.WideKeyEntry
import Derived.Shelf.Sort.Plain
import Derived.Shelf.Slices.In.SortNone
import Derived.Test.YtpohaahihdhleaaGreatProg
import Derived.Laws.CopyOwn
set_option linter.unusedVariables false
set_option maxHeartbeats 16000000
set_option maxRecDepth 100000
open Go.RowKit
namespace Go.Proofs.YtpohaahihdhleaaGreat
section
def bmOf (S : Dev) (B : Nat) : Bm := ⟨S, hds (devWord S) B, freeL (freeAt (hds (devWord S) B)) B B⟩
def OpenBm (w : World) (F : Foot) (S : Dev) (B : Nat) : Ending → World → Prop := fun e w' => Below w.heap.size w w' ∧
  ((AllOk (devWord S) B ∧ soundN (hds (devWord S) B) B 1 = 0 ∧ ∃ (X : MF) (n : Nat), e = .returned (.tuple #[.pointer (some ⟨X.m, 0, none⟩), .int .i64 0]) ∧ X.F = F ∧ ManAt w' X n B (bmOf S B) ∧ n ≤ 1000000 ∧
      (∀ k ∈ X.list, k ∈ F.list ∨ w.heap.size ≤ k)) ∨
   (AllOk (devWord S) B ∧ soundN (hds (devWord S) B) B 1 ≠ 0 ∧ e = .returned (.tuple #[.pointer none, .int .i64 40])) ∨
   (¬ AllOk (devWord S) B ∧ e = .returned (.tuple #[.pointer none, .int .i64 21])))
theorem bspans_fill (l : List Hd) (B : Nat) (h : l.length = B) : fillR (op2s (spansOf l)) (List.replicate B false) = (freeL (freeAt l) B B, 0) := by
 unfold spansOf
 rw [h]
 exact fill_spans (freeAt l) B B (Nat.le_refl _)
theorem bopen_any {w : World} {F : Foot} {S : Dev} (h : DevAt w F S) (B : Nat) (hB1 : 1 ≤ B) (hB : B ≤ 1000) :
    Calls Tryz.prog 69 #[vdev F, vgeom B] w (OpenBm w F S B) := by
  have HM := LH (Mem.one w #[.int .i64 (B : Int)] 44)
  have HD := LH (h.below HM.out.below)
  have HMF := LH h.mem
  have HNF := LH h.nodup
  have HL : Hid ((hds (devWord S) B).length = B) := LH (hds_length _ _)
  have HFill := LH (bspans_fill (hds (devWord S) B) B HL.out)
  have HBm : Hid (bmOf S B = ⟨S, hds (devWord S) B, freeL (freeAt (hds (devWord S) B)) B B⟩) := LH rfl
  have HFl : Hid ((freeL (freeAt (hds (devWord S) B)) B B).length = B) := LH (freeL_len _ _ _)
  have HPE : Hid (OpenBm w F S B = fun e w' => Below w.heap.size w w' ∧
  ((AllOk (devWord S) B ∧ soundN (hds (devWord S) B) B 1 = 0 ∧ ∃ (X : MF) (n : Nat), e = .returned (.tuple #[.pointer (some ⟨X.m, 0, none⟩), .int .i64 0]) ∧ X.F = F ∧ ManAt w' X n B (bmOf S B) ∧ n ≤ 1000000 ∧
      (∀ k ∈ X.list, k ∈ F.list ∨ w.heap.size ≤ k)) ∨
   (AllOk (devWord S) B ∧ soundN (hds (devWord S) B) B 1 ≠ 0 ∧ e = .returned (.tuple #[.pointer none, .int .i64 40])) ∨
   (¬ AllOk (devWord S) B ∧ e = .returned (.tuple #[.pointer none, .int .i64 21])))) := LH rfl
  generalize hP : OpenBm w F S B = Post at *
  clear h hP
  go_enter Tryz.func69, Tryz.ntmps69
  go_upto_region 1 with fail
  generalize hw0 : w.alloc _ = w0 at *
  clear hw0
  obtain ⟨q, hq⟩ : ∃ q, q = w.heap.size := ⟨_, rfl⟩
  rw [← hq] at HM ⊢
  have HQ := LH hq
  clear hq
  have c0 := HM.out.cell 0 0 rfl rfl
  unfold vdev at *
  go_wp2_with fail
  refine (open_tabG HD.out B hB1 hB).mono ?_
  rintro e w1 ⟨hb1, ⟨hok, p, g, cc, rfl, hp, hg, hpg, htab⟩ | ⟨b, hb0, hbB, hok, hbad, rfl⟩⟩
  case inr =>
    have HE : Hid (¬ AllOk (devWord S) B) := LH (fun h => hbad (h b hb0 hbB))
    have HB1 := LH (HM.out.later hb1)
    clear hok hbad hb1
    go_wp2_with fail
    rw [HPE.out]
    exact ⟨HB1.out.below, .inr (.inr ⟨HE.out, rfl⟩)⟩
  have HM1 := LH (HM.out.later hb1)
  have HD1 := LH (HD.out.below hb1)
  have HT1 := LH htab
  have HOK := LH hok
  have HG : Hid (w0.heap.size ≤ p ∧ w0.heap.size ≤ g ∧ p ≠ g) := LH ⟨hp, hg, hpg⟩
  have HW0 : Hid (w.heap.size + 1 ≤ w0.heap.size) := LH (by have := HM.out.glt 0 rfl; have := HQ.out; omega)
  clear hb1 htab hok hp hg hpg c0 HM HD
  generalize hds (devWord S) B = L at *
  go_wp2_with fail
  refine (tall_any HT1.out hB).mono ?_
  rintro e w2 ⟨a2, k2, rfl, hq2, hk2, hr2, hb2⟩
  have HM2 := LH (HM1.out.later hb2)
  have HD2 := LH (HD1.out.below hb2)
  have HT2 := LH (HT1.out.keep (hb2.block p HT1.out.lt.1) (hb2.block g HT1.out.lt.2))
  have HR2 := LH hr2
  clear hq2 hk2 hr2 hb2 HM1 HD1 HT1
  go_wp2_with fail
  refine (bsound_any _ B k2 L HL.out w2 HR2.out.cells hB).mono ?_
  rintro e w3 ⟨rfl, hb3⟩
  rw [HL.out]
  have HM3 := LH (HM2.out.later hb3)
  have HD3 := LH (HD2.out.below hb3)
  have HT3 := LH (HT2.out.keep (hb3.block p HT2.out.lt.1) (hb3.block g HT2.out.lt.2))
  clear hb3 HM2 HD2 HT2 HR2
  obtain ⟨sn, hsn⟩ : ∃ sn, sn = soundN L B 1 := ⟨_, rfl⟩
  rw [← hsn] at HPE ⊢
  clear hsn
  by_cases hs : sn = 0
  case neg =>
    have hs' : decide (sn = 0) = false := by simpa using hs
    rw [hs']
    have HS := LH hs
    clear hs hs'
    go_wp2_with fail
    rw [HPE.out]
    exact ⟨HM3.out.below, .inr (.inl ⟨HOK.out, HS.out, rfl⟩)⟩
  have hs' : decide (sn = 0) = true := by simpa using hs
  rw [hs']
  have HS := LH hs
  clear hs hs'
  have c0 := HM3.out.cell 0 0 rfl rfl
  go_upto_region 7 with fail
  have r0 := fun x => later_cell c0 x
  clear c0
  refine wp_region_seg (C := fun w' => ∃ x : Later (w3), w' = x.val) [.fl [0, 1, 2], .sq [3] true, .sq [4, 5] false, .fl [6, 7, 8], .sq [9] false] (by kernel_rfl) (by kernel_rfl) (by intro c a d v w h; cases d <;> exact h) ?_
  simp only [segs, picks, List.getElem?_cons_succ, List.getElem?_cons_zero]
  have hC1 := later_drew (w3)
  refine wpSeg_fl hC1 ?_
  repeat (first | go_big_quiet_step (fail) | quiet_step (fail))
  refine wpQuiet_nil ?_
  refine wpSeg_sq (fun K hK => ?_)
  go_wp2_with fail
  refine (tspans_any ((HT3.out.keep ((later_below hC1).block p HT3.out.lt.1) ((later_below hC1).block g HT3.out.lt.2)).at HG.out.2.2) (by rw [HL.out]; exact hB)).mono ?_
  rintro e w4 ⟨v, rfl, ho4, hb4⟩
  have hC2 := later_step hC1 hb4
  obtain ⟨a4, c4, rfl, _, hm4⟩ := owned_form ho4
  have HC4 : Hid (Cells w4 a4 (recs Op2.cs (op2s (spansOf L)))) := LH (by rw [op2s_cs]; exact Cells.owned2 ho4)
  have HSl : Hid ((op2s (spansOf L)).length = (spansOf L).length) := LH (by simp [op2s])
  have HSl2 : Hid ((spansOf L).length ≤ 1000000) := LH (by
    have := spanL_len (freeAt L) L.length
    unfold spansOf
    rw [HL.out] at this ⊢
    omega)
  generalize (spansOf L).length = nl at *
  clear ho4 hb4 hm4
  go_wp2_with fail
  refine hK _ _ (fun _ => hC2) ?_
  clear hK K
  refine wpSeg_sq (fun K hK => ?_)
  go_wp2_with fail
  refine (ifill_any (B : Int) (by omega) a4 nl c4 (op2s (spansOf L)) HSl.out _ HC4.out HSl2.out).mono ?_
  rw [show (B : Int).toNat = B from rfl, HFill.out]
  rintro e w5 ⟨hb5, ⟨_, T, kk, rfl, hix, hkk, hT⟩ | ⟨hne, _⟩⟩
  case inr => exact absurd rfl hne
  have hC3 := later_step hC2 hb5
  have HIx := LH hix
  have HTt := LH hT
  have HW4 : Hid (w3.heap.size ≤ w4.heap.size) := LH ((later_below hC2).size)
  clear hix hT hb5 HC4 HSl HSl2
  go_wp2_with fail
  refine hK _ _ (fun _ => hC3) ?_
  clear hK K
  refine wpSeg_fl hC3 ?_
  repeat (first | go_big_quiet_step (fail) | quiet_step (fail))
  refine wpQuiet_nil ?_
  have HM5 := LH (HM3.out.later (later_below hC3))
  have HD5 := LH (HD3.out.below (later_below hC3))
  have HT5 := LH (HT3.out.keep ((later_below hC3).block p HT3.out.lt.1) ((later_below hC3).block g HT3.out.lt.2))
  have HFl3 : Hid (∀ k ∈ F.list, k < w.heap.size) := HMF
  have HT3l : Hid (p < w3.heap.size ∧ g < w3.heap.size) := LH HT3.out.lt
  have c0 := HM5.out.cell 0 0 rfl rfl
  clear hC1 hC2 hC3 r0 HM3 HD3 HT3
  refine wpSeg_last ?_
  go_wp2_with fail
  rw [HPE.out]
  have hbx := below_alloc w5 (.cells #[.pointer (some ⟨p, 0, none⟩), .pointer (some ⟨T.p, 0, none⟩), .int .i64 (B : Int)] 87)
  have hTl := HIx.out.mem
  have hsz := HW4.out
  obtain ⟨hG1, hG2, hG3⟩ := HG.out
  have hW0 := HW0.out
  have h3 := HT3l.out
  have hw05 : w0.heap.size ≤ w5.heap.size := by have := HT5.out.lt; omega
  refine ⟨HM5.out.below.trans (hbx.mono HM5.out.below.size), .inl ⟨HOK.out, HS.out, ⟨w5.heap.size, p, g, cc, F, T⟩, kk, rfl, rfl, ?_, hkk, ?_⟩⟩
  · rw [HBm.out]
    refine ⟨heap_alloc_new _ _, HT5.out.keep (hbx.block p HT5.out.lt.1) (hbx.block g HT5.out.lt.2), HD5.out.below hbx, HIx.out.below hbx, HFl.out, ?_⟩
    obtain ⟨M, E, hmp, _⟩ := HIx.out
    have e1 := hmp.ne1
    have e2 := hmp.ne2
    have e3 := hmp.ne3
    have t1 := HTt.out T.p (by simp [Tri.list])
    have t2 := HTt.out T.s (by simp [Tri.list])
    have t3 := HTt.out T.e (by simp [Tri.list])
    have l1 := hTl T.p (by simp [Tri.list])
    have l2 := hTl T.s (by simp [Tri.list])
    have l3 := hTl T.e (by simp [Tri.list])
    have lp := HT5.out.lt
    have hF : ∀ k, w.heap.size ≤ k → k ∉ F.list := fun k hk hm => by have := HFl3.out k hm; omega
    simp only [MF.list, List.nodup_cons, List.mem_cons, not_or]
    refine ⟨⟨by omega, by omega, by omega, by omega, by omega, hF _ (by omega)⟩, ⟨by omega, by omega, by omega, by omega, hF _ (by omega)⟩, ⟨by omega, e1, e2, hF _ (by omega)⟩, ⟨by omega, by omega, hF _ (by omega)⟩, ⟨e3, hF _ (by omega)⟩, hF _ (by omega), HNF.out⟩
  · intro k hk
    have t1 := HTt.out T.p (by simp [Tri.list])
    have t2 := HTt.out T.s (by simp [Tri.list])
    have t3 := HTt.out T.e (by simp [Tri.list])
    simp only [MF.list, List.mem_cons] at hk
    rcases hk with rfl | rfl | rfl | rfl | rfl | rfl | hk
    · right; omega
    · right; omega
    · right; omega
    · right; omega
    · right; omega
    · right; omega
    · exact .inl hk
section
variable {P : Program} {C : World → Prop} {ops : Array Oper} {rest : List Oper} {o : Oper} {a : Act}
theorem wpQuiet_load_arr {Q : Act → Prop} {ty : TypeId} {zs : Array Value} (A : Agg P ty zs) {p : Operand} {g off : Nat} (D : Array Value) (hc : ∀ w, C w → ∀ i v, D.toList[i]? = some v → w.cell? ⟨g, off + i, none⟩ = some v) (hs : D.size = zs.size)
  (hgd : o.guard = none) (ho : o.op = .load ty p) (hp : a.eval p = .pointer (some ⟨g, off, none⟩))
  (hK : wpQuiet P ops C Q rest (a.put o.dst (.agg D))) : wpQuiet P ops C Q (o :: rest) a := by
 have hw : Region.wanted o (yielded ops a.tmps) = true := by simp [Region.wanted, hgd]
 unfold wpQuiet
 rw [if_pos hw]
 refine ⟨_, fun w hC => ?_, hK⟩
 obtain ⟨d, hu, hd⟩ := A.desc
 have hl : (loadCells ⟨g, off, none⟩ D.toList.length).run P w = .ok D.toList.toArray w := run_loadCells_list (P := P) w ⟨g, off, none⟩ D.toList (fun j v hv => by rw [add_none]; exact hc w hC j v hv)
 rw [Array.length_toList, Array.toArray_toList] at hl
 have hagg : (isAgg ty).run P w = .ok true w := by
  unfold isAgg
  rw [Sem.run_bind, run_underlying hu w]
  cases d <;> simp_all
 have hsz := A.size
 have hr : (loadVar ty ⟨g, off, none⟩).run P w = .ok (.agg D) w := by
  cases hq : P.info? ty with
  | none => simp [hq] at hsz
  | some inf =>
   have e : inf.size = D.size := by simp [hq] at hsz; rw [hsz, hs]
   simp [loadVar, hagg, sizeOf, typeInfo, hq, e, hl]
 have hr2 : (Instr.loadAt ty (.pointer (some ⟨g, off, none⟩))).run P w = .ok (.agg D) w := by
  simp only [Instr.loadAt, Instr.sureAddr, Sem.run_bind, Sem.run_pure, Result.andThen]
  exact hr
 unfold Oper.quietAt
 simp only [execOp, ho, hp]
 simp only [Sem.run_bind, hr2, Result.andThen, Sem.run_pure, Oper.quietUpon, and_self]
theorem wpQuiet_load_arrw {Q : Act → Prop} {ty : TypeId} {zs : Array Value} (A : Agg P ty zs) {p : Operand} {g off : Nat} (D : Array Value) (hc : ∀ w, C w → ∀ i v, D.toList[i]? = some v → w.cell? ⟨g, off + i, none⟩ = some v) (hs : D.size = zs.size)
  (hw : Region.wanted o (yielded ops a.tmps) = true) (ho : o.op = .load ty p) (hp : a.eval p = .pointer (some ⟨g, off, none⟩))
  (hK : wpQuiet P ops C Q rest (a.put o.dst (.agg D))) : wpQuiet P ops C Q (o :: rest) a := by
 unfold wpQuiet
 rw [if_pos hw]
 refine ⟨_, fun w hC => ?_, hK⟩
 obtain ⟨d, hu, hd⟩ := A.desc
 have hl : (loadCells ⟨g, off, none⟩ D.toList.length).run P w = .ok D.toList.toArray w := run_loadCells_list (P := P) w ⟨g, off, none⟩ D.toList (fun j v hv => by rw [add_none]; exact hc w hC j v hv)
 rw [Array.length_toList, Array.toArray_toList] at hl
 have hagg : (isAgg ty).run P w = .ok true w := by
  unfold isAgg
  rw [Sem.run_bind, run_underlying hu w]
  cases d <;> simp_all
 have hsz := A.size
 have hr : (loadVar ty ⟨g, off, none⟩).run P w = .ok (.agg D) w := by
  cases hq : P.info? ty with
  | none => simp [hq] at hsz
  | some inf =>
   have e : inf.size = D.size := by simp [hq] at hsz; rw [hsz, hs]
   simp [loadVar, hagg, sizeOf, typeInfo, hq, e, hl]
 have hr2 : (Instr.loadAt ty (.pointer (some ⟨g, off, none⟩))).run P w = .ok (.agg D) w := by
  simp only [Instr.loadAt, Instr.sureAddr, Sem.run_bind, Sem.run_pure, Result.andThen]
  exact hr
 unfold Oper.quietAt
 simp only [execOp, ho, hp]
 simp only [Sem.run_bind, hr2, Result.andThen, Sem.run_pure, Oper.quietUpon, and_self]
variable {Q : Exit → Act → World → Prop} {w W : World} {L : List Ent}
theorem wpList_load_arr {ty : TypeId} {zs : Array Value} (A : Agg P ty zs) {p : Operand} {g off : Nat} (D : Array Value) (hc : ∀ i v, D.toList[i]? = some v → W.cell? ⟨g, off + i, none⟩ = some v) (hs : D.size = zs.size)
  (hgd : o.guard = none) (ho : o.op = .load ty p) (hp : a.eval p = .pointer (some ⟨g, off, none⟩))
  (hK : wpList P ops Q rest (a.put o.dst (.agg D)) W) : wpList P ops Q (o :: rest) a W :=
 wpList_load_part A D.toList hc (by simpa using hs) hgd ho hp (by simpa using hK)
theorem wpList_unguard (hw : Region.wanted o (yielded ops a.tmps) = true) (h : wpList P ops Q ({ o with guard := none } :: rest) a W) : wpList P ops Q (o :: rest) a W := by
 unfold wpList at h ⊢
 rw [if_pos (by rfl)] at h
 rw [if_pos hw]
 exact h
theorem wpList_load_box {ty : TypeId} {zs : Array Value} (A : Agg P ty zs) (h : Mem w W L) (k : Nat) {p : Operand} {g e : Nat} {D : Array Value} {ex : Bool} (hk : L[k]? = some ⟨g, e, D.toList, ex⟩) (hs : D.size = zs.size)
  (hgd : o.guard = none) (ho : o.op = .load ty p) (hp : a.eval p = .pointer (some ⟨g, 0, none⟩))
  (hK : wpList P ops Q rest (a.put o.dst (.agg D)) W) : wpList P ops Q (o :: rest) a W :=
 wpList_load_arr A D (fun i v hi => by rw [Nat.zero_add]; exact h.cell k i hk hi) hs hgd ho hp hK
end
theorem RAt.arr {w : World} {D : Array Value} {m : Nat} {R : RDev} (h : RAt w (.agg D) m R) : D.size = 8 ∧ D.toList.all (·.oneCell') = true := by
 obtain ⟨an, cn, al, cl, aw, cw, ad, cd, ap, cp, he, _⟩ := h.ex
 cases he
 exact ⟨rfl, rfl⟩
theorem RAt.agg {w : World} {v : Value} {m : Nat} {R : RDev} (h : RAt w v m R) : ∃ D, v = .agg D := by
 obtain ⟨an, cn, al, cl, aw, cw, ad, cd, ap, cp, he, _⟩ := h.ex
 exact ⟨_, he⟩
end
section
open Go.Lib
def In64 (n : Int) : Prop := -9223372036854775808 ≤ n ∧ n < 9223372036854775808
def over (n d : Int) : Bool := decide (n > 922337203685477580) || decide (n < -922337203685477580) || (decide (n = 922337203685477580) && decide (d > 7)) || (decide (n = -922337203685477580) && decide (d < -8))
end
section
open Go.Lib (decDigits itoa nDigits)
def Gives (v : Value) (w : World) : Ending → World → Prop := fun e w' => e = .returned v ∧ Below w.heap.size w w'
theorem AF.hot_list {A : AF} {k : Nat} (h : k ∈ A.hot) : k ∈ A.list := by
 simp only [AF.hot, AF.list, AF.fix, List.mem_append, List.mem_cons] at h ⊢
 rcases h with h | h | h
 ·exact .inl (.inr (.inl (MF.hot_sub h)))
 ·exact .inl (.inr (.inr h))
 ·exact .inr h
theorem AF.re_list {A : AF} {R : List Nat} {k : Nat} (h : k ∈ (A.re R).list) : k ∈ A.list ∨ k ∈ R := by
 simp only [AF.re, AF.list, AF.fix, List.mem_append, List.mem_cons] at h ⊢
 rcases h with h | h
 ·exact .inl (.inl h)
 ·exact .inr h
def nowD (S : Dev) : Dev := freshDev S.cache S.dirty.length
theorem nowD_fit {S : Dev} (h : S.wf) (N : Nat) : (nowD S).fit N :=
 ⟨⟨rfl, by simp [nowD, freshDev], by simp [nowD, freshDev], by simp [nowD, freshDev, h.lenD], h.small, h.u64C, h.u64C, fun z hz => by simp [nowD, freshDev] at hz; omega⟩, fresh_ok _ _ _, fun h => by cases h⟩
section
variable {B : Nat} {m m' : Al} {xs : List Nat}
theorem nodup_count {l : List Nat} (h : l.Nodup) (a : Nat) : l.count a ≤ 1 := List.nodup_iff_count.1 h a
theorem objSize_is {p d : Int} (h : objSize p d ≠ 0) : (objSize p d : Int) = 1 + p + d := by
 unfold objSize at h ⊢
 split
 ·next c => rw [if_pos c] at h; exact absurd rfl h
 ·omega
end
section
variable {w wr w' : World} {Q : List Nat} {A : AF} {n n' B N N' : Nat} {m m' : Al} {v v' : Value} {xs xs' : List Nat}
end
end
section
open Go.Shelf
attribute [local go_sem] Oper.semAt_some
end
section
structure MkF where
 p : Nat
 X : SetF
 Y : SetF
 s : Nat
 v : Value
section
variable {w w' : World} {A : AF} {K : MkF} {M : Mk}
end
section
variable {w w0 w1 w' : World} {A : AF} {n B : Nat} {m : Al} {K : MkF} {M M' : Mk}
end
section
variable {w : World} {A : AF} {K : MkF} {M : Mk}
end
section
variable {w : World} {A : AF} {n B : Nat} {m : Al} {K : MkF} {M : Mk}
end
end
section
section
variable {U : List Bool} {P : Nat → List Nat} {M : Mk}
section
variable {b : Bool} {M' : Mk}
end
end
end
section
theorem Cells.touchL {w w' : World} {a : Option Addr} {vs : List Value} {L : List Nat} (h : Cells w a vs) (ht : Touch L w w') (hne : ∀ x, a = some x → x.block < w.heap.size → x.block ∉ L) : Cells w' a vs := by
 rcases h with h | ⟨b, off, rfl, h⟩
 ·exact .inl h
 ·exact .inr ⟨b, off, rfl, fun i v hi => cell_of_touch ht (show (⟨b, off + i, none⟩ : Addr).block ∉ L from hne ⟨b, off, none⟩ rfl (show b < w.heap.size from World.block_lt_of_cell? w ⟨b, off + i, none⟩ (h i v hi))) (h i v hi)⟩
def ptrsD (S : Dev) (a : Int) : List Nat := if (headN S a).code = 0 then ptrL S a (headN S a).p.toNat else []
theorem PtrsPost.out {S : Dev} {a : Int} {w w' : World} {e : Ending} (h : PtrsPost S a w e w') : ∃ av cp ec, e = .returned (.tuple #[.slice av (ptrsD S a).length cp, .int .i64 ec]) ∧ ec = (headN S a).code ∧ Cells w' av ((ptrsD S a).map vi) ∧ (∀ x, av = some x → w.heap.size ≤ x.block) ∧ Below w.heap.size w w' := by
 obtain ⟨hb, h⟩ := h
 rcases h with ⟨h0, v, rfl, ho⟩ | ⟨h0, rfl⟩
 ·have e0 : ptrsD S a = ptrL S a (headN S a).p.toNat := by unfold ptrsD; rw [if_pos h0]
  obtain ⟨av, cp, rfl, _, _⟩ := owned_form ho
  rw [e0, ptrL_length]
  exact ⟨av, cp, _, rfl, h0.symm, Cells.owned ho, owned_addr ho, hb⟩
 ·have e0 : ptrsD S a = [] := by unfold ptrsD; rw [if_neg (by rw [h0]; decide)]
  rw [e0]
  exact ⟨none, 0, _, rfl, h0.symm, Cells.nil _ _, fun x hx => (by cases hx), hb⟩
theorem ptrsD_len {S : Dev} (hs : S.cache.length ≤ 1000000) (a : Int) : (ptrsD S a).length ≤ 64 := by
 unfold ptrsD
 split
 ·next h =>
  rw [ptrL_length]
  have := head_small hs (a := a) h
  omega
 ·simp
section
variable {w : World} {A : AF} {n B : Nat} {m : Al} {K : MkF} {M : Mk}
end
end
section
open Go.Maps Go.ChangeMaps
structure TF where
 g : Nat
 ms : Nat
 mb : Nat
def tracC (F : Foot) (B : Nat) (a : Option Addr) (cap : Nat) (T : TF) (v : Value) : Array Value := #[vdev F, .int .i64 (B : Int), .slice a B cap, .map (some T.ms), v, .map (some T.mb)]
structure TrAt (w0 w : World) (F : Foot) (B : Nat) (a : Option Addr) (cap : Nat) (T : TF) (n : Nat) (seen opn : List Nat) (bad : Bool) (v : Value) : Prop where
 org : Below w0.heap.size w0 w
 head : w.heap[T.g]? = some (.cells (tracC F B a cap T v) 250 (0, 0))
 own : OwnI w v opn
 row : ∀ b, rowOf v = some b → w0.heap.size ≤ b ∧ b ≠ T.g ∧ b ≠ T.ms ∧ b ≠ T.mb
 seen : VMap Tryz.prog 3 w T.ms n (seenM seen)
 bad : BadAt Tryz.prog 252 w T.mb n bad
 g0 : w0.heap.size ≤ T.g
 s0 : w0.heap.size ≤ T.ms
 b0 : w0.heap.size ≤ T.mb
 gs : T.g ≠ T.ms
 gb : T.g ≠ T.mb
 sb : T.ms ≠ T.mb
section
variable {w0 w w' : World} {F : Foot} {B : Nat} {a : Option Addr} {cap : Nat} {T : TF} {n : Nat} {seen opn : List Nat} {bad : Bool} {v : Value}
theorem lt_of_head {w : World} {g : Nat} {x : Obj} (h : w.heap[g]? = some x) : g < w.heap.size := (Array.getElem?_eq_some_iff.1 h).1
theorem TrAt.later (h : TrAt w0 w F B a cap T n seen opn bad v) (hb : Below w.heap.size w w') : TrAt w0 w' F B a cap T n seen opn bad v :=
 ⟨h.org.trans (hb.mono h.org.size), (hb.block _ (lt_of_head h.head)).trans h.head, h.own.keep (fun b hb' => hb.block b (h.own.lt b hb')), h.row, h.seen.block (hb.block _ h.seen.lt), h.bad.block (hb.block _ h.bad.lt), h.g0, h.s0, h.b0, h.gs, h.gb, h.sb⟩
theorem TrAt.mono {n' : Nat} (h : TrAt w0 w F B a cap T n seen opn bad v) (hn : n ≤ n') : TrAt w0 w F B a cap T n' seen opn bad v :=
 ⟨h.org, h.head, h.own, h.row, h.seen.mono hn, h.bad.mono hn, h.g0, h.s0, h.b0, h.gs, h.gb, h.sb⟩
theorem below_at {b : Nat} (h : Below w0.heap.size w0 w) (hg : w.grownBy w' (some b)) (hb : w0.heap.size ≤ b) : Below w0.heap.size w0 w' :=
 ⟨hg.os.trans h.os, hg.tape.trans h.tape, hg.output.trans h.output, Nat.le_trans h.size hg.size, fun k hk => (hg.block k (Nat.lt_of_lt_of_le hk h.size) (fun e => by injection e with e; omega)).trans (h.block k hk)⟩
theorem TrAt.seenPut (h : TrAt w0 w F B a cap T n seen opn bad v) {seen' : List Nat} (hg : w.grownBy w' (some T.ms)) (hv : VMap Tryz.prog 3 w' T.ms (n + 1) (seenM seen')) : TrAt w0 w' F B a cap T (n + 1) seen' opn bad v := by
 have hk : ∀ k, k < w.heap.size → k ≠ T.ms → w'.heap[k]? = w.heap[k]? := fun k h1 h2 => hg.block k h1 (fun e => h2 (by injection e))
 exact ⟨below_at h.org hg h.s0, (hk _ (lt_of_head h.head) h.gs).trans h.head, h.own.keep (fun b hb => hk b (h.own.lt b hb) (h.row b hb).2.2.1), h.row, hv, (h.bad.block (hk _ h.bad.lt h.sb.symm)).mono (by omega), h.g0, h.s0, h.b0, h.gs, h.gb, h.sb⟩
theorem TrAt.badPut (h : TrAt w0 w F B a cap T n seen opn bad v) (hg : w.grownBy w' (some T.mb)) (hv : BadAt Tryz.prog 252 w' T.mb (n + 1) true) : TrAt w0 w' F B a cap T (n + 1) seen opn true v := by
 have hk : ∀ k, k < w.heap.size → k ≠ T.mb → w'.heap[k]? = w.heap[k]? := fun k h1 h2 => hg.block k h1 (fun e => h2 (by injection e))
 exact ⟨below_at h.org hg h.b0, (hk _ (lt_of_head h.head) h.gb).trans h.head, h.own.keep (fun b hb => hk b (h.own.lt b hb) (h.row b hb).2.2.2), h.row, (h.seen.block (hk _ h.seen.lt h.sb)).mono (by omega), hv, h.g0, h.s0, h.b0, h.gs, h.gb, h.sb⟩
theorem TrAt.openPut (h : TrAt w0 w F B a cap T n seen opn bad v) {opn' : List Nat} {v' : Value} (hg : w.grownBy w' (rowOf v)) (ho : OwnI w' v' opn') (hr : ∀ b, rowOf v' = some b → rowOf v = some b ∨ w.heap.size ≤ b) :
  TrAt w0 (w'.setCell ⟨T.g, 4, none⟩ v') F B a cap T n seen opn' bad v' := by
 have hk : ∀ k, k < w.heap.size → rowOf v ≠ some k → w'.heap[k]? = w.heap[k]? := fun k h1 h2 => hg.block k h1 (fun e => h2 e.symm)
 have hrow : ∀ b, rowOf v' = some b → w0.heap.size ≤ b ∧ b ≠ T.g ∧ b ≠ T.ms ∧ b ≠ T.mb := fun b hb => by
  rcases hr b hb with c | c
  ·exact h.row b c
  ·have h1 := lt_of_head h.head
   have h2 := h.seen.lt
   have h3 := h.bad.lt
   have := h.org.size
   exact ⟨by omega, by omega, by omega, by omega⟩
 have hs : ∀ k, k ≠ T.g → (w'.setCell ⟨T.g, 4, none⟩ v').heap[k]? = w'.heap[k]? := fun k hk => heap_setCell_other w' _ _ _ hk
 have hh : w'.heap[T.g]? = some (.cells (tracC F B a cap T v) 250 (0, 0)) := (hk _ (lt_of_head h.head) (fun e => (h.row _ e).2.1 rfl)).trans h.head
 have horg : Below w0.heap.size w0 w' := ⟨hg.os.trans h.org.os, hg.tape.trans h.org.tape, hg.output.trans h.org.output, Nat.le_trans h.org.size hg.size, fun k h1 => (hk k (Nat.lt_of_lt_of_le h1 h.org.size) (fun e => by have := (h.row _ e).1; omega)).trans (h.org.block k h1)⟩
 refine ⟨Below.setCell horg h.g0 _, ?_, ho.keep (fun b hb => hs b (hrow b hb).2.1), hrow, ?_, ?_, h.g0, h.s0, h.b0, h.gs, h.gb, h.sb⟩
 ·exact heap_setCell_same _ _ _ _ _ _ hh
 ·exact (h.seen.block (hk _ h.seen.lt (fun e => (h.row _ e).2.2.1 rfl))).block (hs _ h.gs.symm)
 ·exact (h.bad.block (hk _ h.bad.lt (fun e => (h.row _ e).2.2.2 rfl))).block (hs _ h.gb.symm)
theorem TrAt.cell (h : TrAt w0 w F B a cap T n seen opn bad v) (i : Nat) {x : Value} (hx : (tracC F B a cap T v)[i]? = some x) : w.cell? ⟨T.g, i, none⟩ = some x := cell_of_row _ _ i _ _ _ h.head |>.trans hx
theorem TrAt.frozen (h : TrAt w0 w F B a cap T n seen opn bad v) (i : Nat) : w.frozen? ⟨T.g, i, none⟩ = false := frozen_of_row _ _ _ _ _ h.head
end
def TrNew (w : World) (F : Foot) (B : Nat) (a : Option Addr) (cap : Nat) : Ending → World → Prop := fun e w' => ∃ T : TF, e = .returned (.pointer (some ⟨T.g, 0, none⟩)) ∧ TrAt w w' F B a cap T 0 [] [] false (.slice none 0 0)
theorem trnew_any (w : World) (F : Foot) (B : Nat) (a : Option Addr) (cap : Nat) :
  Calls Tryz.prog 93 #[vdev F, vgeom (B : Int), .slice a B cap] w (TrNew w F B a cap) := by
 have HP : Hid (∀ (T : TF) w', TrAt w w' F B a cap T 0 [] [] false (.slice none 0 0) → TrNew w F B a cap (.returned (.pointer (some ⟨T.g, 0, none⟩))) w') := LH (fun T w' h => ⟨T, rfl, h⟩)
 generalize TrNew w F B a cap = Post at *
 have hmm := @run_makeMap Tryz.prog
 have hb1 := below_alloc w (.cells #[.int .i64 (B : Int)] 44)
 have c0 : (w.alloc (.cells #[.int .i64 (B : Int)] 44)).cell? ⟨w.heap.size, 0, none⟩ = some (.int .i64 (B : Int)) := cell_alloc_new _ _ _ 0 _ rfl
 have HB1 := LH hb1
 clear hb1
 go_enter Tryz.func93, Tryz.ntmps93
 go_upto_region 1 with fail
 generalize w.alloc (.cells #[.int .i64 (B : Int)] 44) = w1 at *
 have HV := LH (VMap.made w1 Tryz.prog 3)
 have hb2 := below_alloc w1 (.map #[] 0)
 have HB2 := LH hb2
 have HW := LH (BadAt.made (w1.alloc (.map #[] 0)) Tryz.prog 252)
 have HB3 := LH (below_alloc (w1.alloc (.map #[] 0)) (.map #[] 0))
 clear hb2
 go_wp2_with fail
 have h1 : (w1.alloc (.map #[] 0)).heap.size = w1.heap.size + 1 := by simp
 have h2 : ((w1.alloc (.map #[] 0)).alloc (.map #[] 0)).heap.size = w1.heap.size + 1 + 1 := by simp
 have hV := HV.out
 have hW := HW.out
 have hB1 := HB1.out
 have hB2 := HB2.out
 have hB3 := HB3.out
 rw [h1] at hW
 generalize w1.alloc (.map #[] 0) = w2 at *
 generalize w2.alloc (.map #[] 0) = w3 at *
 have hb4 := below_alloc w3 (Obj.cells (tracC F B a cap ⟨w1.heap.size + 1 + 1, w1.heap.size, w1.heap.size + 1⟩ (.slice none 0 0)) 250)
 have hh := heap_alloc_new w3 (Obj.cells (tracC F B a cap ⟨w1.heap.size + 1 + 1, w1.heap.size, w1.heap.size + 1⟩ (.slice none 0 0)) 250)
 rw [h2] at hh
 refine HP.out ⟨w1.heap.size + 1 + 1, w1.heap.size, w1.heap.size + 1⟩ _ ⟨?_, hh, OwnI.nil _, fun b hb => (by cases hb), ?_, ?_, ?_, ?_, ?_, ?_, ?_, ?_⟩
 ·exact (((hB1.trans (hB2.mono hB1.size)).trans (hB3.mono (by have := hB1.size; omega))).trans (hb4.mono (by have := hB1.size; omega)))
 ·have hq : (fun _ => none : Lit → Option Value) = seenM [] := by
   funext l
   unfold seenM
   split <;> simp
  rw [← hq]
  exact (hV.block (hB3.block _ (by omega))).block (hb4.block _ (by omega))
 ·exact hW.block (hb4.block _ (by omega))
 ·have := hB1.size
  show w.heap.size ≤ w1.heap.size + 1 + 1
  omega
 ·exact hB1.size
 ·have := hB1.size
  show w.heap.size ≤ w1.heap.size + 1
  omega
 ·show w1.heap.size + 1 + 1 ≠ w1.heap.size
  omega
 ·show w1.heap.size + 1 + 1 ≠ w1.heap.size + 1
  omega
 ·show w1.heap.size ≠ w1.heap.size + 1
  omega
def okN (S : Dev) (L : List Hd) (x : Nat) : Prop := (placedN S L (x : Int)).isSome = true
def ptrN (S : Dev) (x : Nat) : List Nat := ptrsD S (x : Int)
theorem okN_zero (S : Dev) (L : List Hd) : ¬ okN S L 0 := by
 unfold okN placedN
 rw [if_pos (.inl (by decide))]
 simp
theorem okN_lt {S : Dev} {L : List Hd} {x : Nat} (h : okN S L x) : 512 ≤ x ∧ x < 512 * L.length := by
 obtain ⟨o, ho⟩ := Option.isSome_iff_exists.1 h
 have := placed_head ho
 omega
theorem zero_bool' (w : World) : (zeroValue 4).run Tryz.prog w = .ok (.bool false) w := Tryz.zeroValue4 w
theorem wf_nat {x : Nat} (h : x ≤ 4611686018427387904) : (Lit.int .i64 (x : Int)).wf = true := WalkArith.wf_i64 (by omega)
def TF.hot (T : TF) (v : Value) : List Nat := T.g :: T.ms :: T.mb :: (rowOf v).toList
def Reached (S : Dev) (L : List Hd) (w0 : World) (F : Foot) (B : Nat) (a : Option Addr) (cap : Nat) (T : TF) (n : Nat) (seen opn : List Nat) (bad : Bool) (v : Value) (w : World) (x : Nat) : Ending → World → Prop := fun e w' =>
 ∃ seen' opn' bad' v' er, e = .returned (.int .i64 er) ∧ TrAt w0 w' F B a cap T (n + 1) seen' opn' bad' v' ∧ (er = 0 ∨ er = 22) ∧ (er ≠ 0 → bad' = true) ∧ (bad = true → bad' = true) ∧
  (∀ f rest, Trc (okN S L) (ptrN S) f seen opn (x :: rest) bad → Trc (okN S L) (ptrN S) f seen' opn' rest bad') ∧ seen'.length + opn.length = seen.length + opn'.length ∧ seen.length ≤ seen'.length ∧ Touch (T.hot v) w w' ∧ (∀ b, rowOf v' = some b → rowOf v = some b ∨ w.heap.size ≤ b) ∧ opn'.length ≤ opn.length + 1
theorem treach_any {w0 w : World} {F : Foot} {S : Dev} (h0 : DevAt w0 F S) {a : Option Addr} {B cap : Nat} {L : List Hd} (hlen : L.length = B) (hc : Cells w0 a (hdCs L)) (hB : B ≤ 1000)
  {T : TF} {n : Nat} {seen opn : List Nat} {bad : Bool} {v : Value} (h : TrAt w0 w F B a cap T n seen opn bad v) (hn : n ≤ 1000000000) (ho : opn.length ≤ 1000000000) (x : Nat) (hx : x ≤ 4611686018427387904) (eF eP : Int) (hF : (Lit.int .i64 eF).wf = true) (hP : (Lit.int .i64 eP).wf = true) :
  Calls Tryz.prog 142 #[.pointer (some ⟨T.g, 0, none⟩), .agg #[.int .i64 eF, .int .i64 eP], .int .i64 (x : Int)] w (Reached S L w0 F B a cap T n seen opn bad v w x) := by
 have HSkip : Hid (∀ w', TrAt w0 w' F B a cap T n seen opn bad v → (x = 0 ∨ x ∈ seen) → Touch (T.hot v) w w' → Reached S L w0 F B a cap T n seen opn bad v w x (.returned (.int .i64 0)) w') := LH (fun w' h1 h2 h3 =>
  ⟨seen, opn, bad, v, 0, rfl, h1.mono (by omega), .inl rfl, fun h => absurd rfl h, id, fun f rest ht => ht.skip (okN_zero S L) h2, rfl, Nat.le_refl _, h3, fun b hb => .inl hb, by omega⟩)
 have HFail : Hid (∀ w', TrAt w0 w' F B a cap T (n + 1) seen opn true v → x ≠ 0 → ¬ okN S L x → Touch (T.hot v) w w' → Reached S L w0 F B a cap T n seen opn bad v w x (.returned (.int .i64 22)) w') := LH (fun w' h1 h2 h3 h4 =>
  ⟨seen, opn, true, v, 22, rfl, h1, .inr rfl, fun _ => rfl, fun _ => rfl, fun f rest ht => ht.fail h2 h3, rfl, Nat.le_refl _, h4, fun b hb => .inl hb, by omega⟩)
 have HTake : Hid (∀ w' v', TrAt w0 w' F B a cap T (n + 1) (seen ++ [x]) (opn ++ [x]) bad v' → okN S L x → x ∉ seen → Touch (T.hot v) w w' → (∀ b, rowOf v' = some b → rowOf v = some b ∨ w.heap.size ≤ b) → Reached S L w0 F B a cap T n seen opn bad v w x (.returned (.int .i64 0)) w') := LH (fun w' v' h1 h2 h3 h4 h5 =>
  ⟨seen ++ [x], opn ++ [x], bad, v', 0, rfl, h1, .inl rfl, fun h => absurd rfl h, id, fun f rest ht => ht.take h2 h3, by simp; omega, by simp, h4, h5, by simp⟩)
 generalize Reached S L w0 F B a cap T n seen opn bad v w x = Post at *
 have hba := below_alloc w (.cells #[.int .i64 eF, .int .i64 eP] 252)
 have H1 := LH (h.later hba)
 have HB1 := LH hba
 have e0 : (w.alloc (.cells #[.int .i64 eF, .int .i64 eP] 252)).cell? ⟨w.heap.size, 0, none⟩ = some (.int .i64 eF) := cell_alloc_new _ _ _ 0 _ rfl
 have e1 : (w.alloc (.cells #[.int .i64 eF, .int .i64 eP] 252)).cell? ⟨w.heap.size, 1, none⟩ = some (.int .i64 eP) := cell_alloc_new _ _ _ 1 _ rfl
 obtain ⟨g, hg⟩ : ∃ g, g = T.g := ⟨_, rfl⟩
 obtain ⟨ms, hms⟩ : ∃ g, g = T.ms := ⟨_, rfl⟩
 obtain ⟨mb, hmb⟩ : ∃ g, g = T.mb := ⟨_, rfl⟩
 have HE : Hid (g = T.g ∧ ms = T.ms ∧ mb = T.mb) := LH ⟨hg, hms, hmb⟩
 rw [← hg]
 clear h hba hg hms hmb
 go_enter Tryz.func142, Tryz.ntmps142
 go_upto_region 1 with fail
 obtain ⟨q, hq⟩ : ∃ q, q = w.heap.size := ⟨_, rfl⟩
 rw [← hq] at e0 e1 ⊢
 generalize w.alloc _ = w1 at *
 clear hq
 by_cases hx0 : x = 0
 ·have HS := LH (fun w' h => HSkip.out w' h (.inl hx0))
  subst hx0
  rw [show ((0 : Nat) : Int) = 0 from rfl]
  go_wp2_with fail
  exact HS.out _ H1.out (Touch.ofBelow HB1.out)
 have hx0' : ((x : Int) == 0) = false := by rw [beq_eq_false_iff_ne]; omega
 have hwf : (Lit.int .i64 (x : Int)).wf = true := wf_nat hx
 have HKey : Hid (keyOf Tryz.prog 3 (.int .i64 (x : Int)) = some (.int .i64 (x : Int))) := LH (keyOf_int_mk Tryz.underlying3 hwf)
 have c3 : w1.cell? ⟨g, 3, none⟩ = some (.map (some ms)) := by rw [HE.out.1, HE.out.2.1]; exact H1.out.cell 3 rfl
 have hlk := VMap.look (int_keyed Tryz.underlying3) Tryz.underlying247 (zero_bool' w1) H1.out.seen HKey.out
 rw [seenM_int, ← HE.out.2.1] at hlk
 have HX0 := LH hx0
 clear hx0 hwf
 by_cases hs : x ∈ seen
 ·have HS := LH (fun w' h => HSkip.out w' h (.inr hs))
  rw [if_pos hs, Option.getD_some] at hlk
  clear hs
  go_wp2_with fail
  exact HS.out _ H1.out (Touch.ofBelow HB1.out)
 rw [if_neg hs, Option.getD_none] at hlk
 have HNs := LH hs
 clear hs
 go_upto_region 3 with fail
 clear hlk
 have HPl : Hid (∀ w', Below w1.heap.size w1 w' → Calls Tryz.prog 159 #[vdev F, vgeom (B : Int), .slice a B cap, .int .i64 (x : Int)] w' (PlPost S L (x : Int) w')) := LH (fun w' hb =>
  aplaced_any (h0.below ((H1.out.later hb).org)) a B cap L hlen (hc.below (H1.out.later hb).org (Nat.le_refl _)) hB (h0.small) (x : Int))
 obtain ⟨okk, hok⟩ : ∃ okk, okk = (placedN S L (x : Int)).isSome := ⟨_, rfl⟩
 have HOk : Hid (okk = (placedN S L (x : Int)).isSome) := LH hok
 unfold PlPost at HPl
 rw [← hok] at HPl
 clear hok
 go_cut [7, 8] from 9 (fun pv kv wc => ∃ g2 : Nat, pv = .pointer (some ⟨g2, 0, none⟩) ∧ kv = .bool okk ∧ Hid (Below w1.heap.size w1 wc))
 case first =>
  have c0 : w1.cell? ⟨g, 0, none⟩ = some (vdev F) := by rw [HE.out.1]; exact H1.out.cell 0 rfl
  have c1 : w1.cell? ⟨g, 1, none⟩ = some (.int .i64 (B : Int)) := by rw [HE.out.1]; exact H1.out.cell 1 rfl
  have c2 : w1.cell? ⟨g, 2, none⟩ = some (.slice a B cap) := by rw [HE.out.1]; exact H1.out.cell 2 rfl
  have r0 := fun x => later_cell c0 x
  have r1 := fun x => later_cell c1 x
  have r2 := fun x => later_cell c2 x
  clear c0 c1 c2 c3 e0 e1
  refine wp_region_tr (C := fun w' => ∃ x : Later (w1), w' = x.val) (.fl [0, 1, 2, 3, 4, 5, 6, 7, 8, 9, 10, 11, 12] (.br 13 false (.pu [14, 15, 16] (.sq [17] true (.sq [18, 19] false (.nil)))) 17 true (.sq [13, 14] false (.pu [15, 16] (.sq [18, 19] false (.nil)))))) (by kernel_rfl) (by kernel_rfl) (by intro c a d v w h; cases d <;> exact h) ?_
  simp only [trO, picks, List.getElem?_cons_succ, List.getElem?_cons_zero]
  have hC1 := later_drew (w1)
  refine wpTr_fl hC1 ?_
  repeat (first | go_big_quiet_step (fail) | quiet_step (fail))
  refine wpQuiet_nil ?_
  clear r0 r1 r2
  have hbd := later_below hC1
  have HMd := LH ((Mem.start w1).later hbd)
  generalize w1.drew = wd at *
  clear hbd
  refine wpTr_br ?_ ?_
  ·refine wpTr_sq (fun K hK => ?_)
   go_wp2_with fail
   refine (HPl.out _ HMd.out.below).mono ?_
   rintro e w4 ⟨⟨p, d, rfl, _⟩, hb4⟩
   have hC2 := later_step hC1 hb4
   have HM4 := LH (HMd.out.later hb4)
   clear hb4
   go_wp2_with fail
   refine hK _ _ (fun h => nomatch h) ?_
   clear hK K
   refine wpTr_pu ?_
   repeat (first | go_big_quiet_step (fail) | quiet_step (fail))
   refine wpQuiet_nil ?_
   refine wpTr_sq (fun K hK => ?_)
   go_wp2_with fail
   have hba := below_alloc w4 (.cells #[.int .i64 0, .int .i64 0] 211)
   have hC3 := later_step hC2 hba
   have HM5 := LH (HM4.out.alloc #[.int .i64 0, .int .i64 0] 211)
   clear hba
   go_wp2_with fail
   refine hK _ _ (fun _ => hC3) ?_
   clear hK K
   generalize w4.alloc _ = w5 at *
   obtain ⟨g2, hg⟩ : ∃ g2, g2 = w4.heap.size := ⟨_, rfl⟩
   rw [← hg] at HM5 ⊢
   clear hg hC1 hC2 hC3
   refine wpTr_last ?_
   go_wp2_with (refine wpList_store_mem aggOb HM5.out 0 rfl rfl rfl rfl rfl rfl rfl rfl ?_; intro w6 h6 ht6; have H6 := LH h6; clear h6 ht6)
   go_meet
   exact ⟨g2, rfl, rfl, LH H6.out.below⟩
  ·refine wpTr_sq (fun K hK => ?_)
   go_wp2_with fail
   have hba := below_alloc wd (.cells #[.int .i64 0, .int .i64 0] 211)
   have hC2 := later_step hC1 hba
   have HM4 := LH (HMd.out.alloc #[.int .i64 0, .int .i64 0] 211)
   clear hba
   go_wp2_with fail
   refine hK _ _ (fun _ => hC2) ?_
   clear hK K
   generalize wd.alloc _ = w4 at *
   obtain ⟨g2, hg⟩ : ∃ g2, g2 = wd.heap.size := ⟨_, rfl⟩
   rw [← hg] at HM4 ⊢
   clear hg
   refine wpTr_sq (fun K hK => ?_)
   go_wp2_with fail
   refine (HPl.out _ HM4.out.below).mono ?_
   rintro e w5 ⟨⟨p, d, rfl, _⟩, hb5⟩
   have HM5 := LH (HM4.out.later hb5)
   clear hb5
   go_wp2_with fail
   refine hK _ _ (fun h => nomatch h) ?_
   clear hK K
   refine wpTr_pu ?_
   repeat (first | go_big_quiet_step (fail) | quiet_step (fail))
   refine wpQuiet_nil ?_
   clear hC1 hC2
   refine wpTr_last ?_
   go_wp2_with (refine wpList_store_mem aggOb HM5.out 0 rfl rfl rfl rfl rfl rfl rfl rfl ?_; intro w6 h6 ht6; have H6 := LH h6; clear h6 ht6)
   go_meet
   exact ⟨g2, rfl, rfl, LH H6.out.below⟩
 case rest =>
  obtain ⟨g2, rfl, rfl, HBc⟩ := hcut
  have Hc := LH (H1.out.later HBc.out)
  have e0' := below_cells HBc.out e0 (Nat.le_refl _)
  have e1' := below_cells HBc.out e1 (Nat.le_refl _)
  clear e0 e1 c3 HPl
  cases okk with
  | false =>
   have HNo : Hid (¬ okN S L x) := LH (by unfold okN; rw [← HOk.out]; simp)
   have c5 : wc.cell? ⟨g, 5, none⟩ = some (.map (some mb)) := by rw [HE.out.1, HE.out.2.2]; exact Hc.out.cell 5 rfl
   have r5 := fun x => later_cell c5 x
   have r0 := fun x => later_cell e0' x
   have r1 := fun x => later_cell e1' x
   clear c5 e0' e1'
   go_upto_region 5 with fail
   refine wp_region_seg (C := fun w' => ∃ x : Later (wc), w' = x.val) [.fl [0, 1, 2, 3, 4, 5], .sq [6] false] (by kernel_rfl) (by kernel_rfl) (by intro c a d v w h; cases d <;> exact h) ?_
   simp only [segs, picks, List.getElem?_cons_succ, List.getElem?_cons_zero]
   have hC1 := later_drew (wc)
   refine wpSeg_fl hC1 ?_
   repeat (first | go_big_quiet_step (fail) | quiet_step (fail))
   refine wpQuiet_nil ?_
   have Hd := LH (Hc.out.later (later_below hC1))
   have HBd2 : Hid (Below w.heap.size w wc.drew) := LH ((HB1.out.trans (HBc.out.mono HB1.out.size)).trans ((later_below hC1).mono (Nat.le_trans HB1.out.size HBc.out.size)))
   generalize wc.drew = wd at *
   clear r5 r0 r1 hC1
   have HBd : Hid (BadAt Tryz.prog 252 wd mb n bad) := LH (by rw [HE.out.2.2]; exact Hd.out.bad)
   have HNm : Hid (n < maxLen) := LH (Nat.lt_of_le_of_lt hn (by decide))
   have HKe := LH (key_edge eF eP hF hP)
   refine wpSeg_last ?_
   go_wp2_with (refine wpList_bstore rfl _ _ _ 248 rfl 252 3 keyed_edge Tryz.underlying248 mb n bad rfl HBd.out HNm.out _ _ _ rfl rfl HKe.out ?_; intro w6 hm6 hg6; have HM6 := LH hm6; have HG6 := LH hg6; clear hm6 hg6)
   go_wp2_with fail
   refine HFail.out _ (Hd.out.badPut (by rw [← HE.out.2.2]; exact HG6.out) (by rw [← HE.out.2.2]; exact HM6.out)) HX0.out HNo.out ((Touch.ofBelow HBd2.out).trans (grown_touch HG6.out (by rw [HE.out.2.2]; simp [TF.hot])))
  | true =>
   have HOk' : Hid (okN S L x) := LH (by unfold okN; rw [← HOk.out])
   have c3 : wc.cell? ⟨g, 3, none⟩ = some (.map (some ms)) := by rw [HE.out.1, HE.out.2.1]; exact Hc.out.cell 3 rfl
   have HVm : Hid (VMap Tryz.prog 3 wc ms n (seenM seen)) := LH (by rw [HE.out.2.1]; exact Hc.out.seen)
   have HNm : Hid (n < maxLen) := LH (Nat.lt_of_le_of_lt hn (by decide))
   clear e0' e1'
   go_upto_region 8 with (refine wpList_vstore rfl _ _ _ 247 rfl 3 4 (int_keyed Tryz.underlying3) Tryz.underlying247 ms n (seenM seen) rfl HVm.out HNm.out _ _ _ rfl rfl HKey.out ?_; intro w6 hm6 hg6; have HM6 := LH hm6; have HG6 := LH hg6; clear hm6 hg6)
   have H6 : Hid (TrAt w0 w6 F B a cap T (n + 1) (seen ++ [x]) opn bad v) := LH (Hc.out.seenPut (by rw [← HE.out.2.1]; exact HG6.out) (by rw [← seenM_put, ← HE.out.2.1]; exact HM6.out))
   have HT6 : Hid (Touch (T.hot v) w w6) := LH ((Touch.ofBelow (HB1.out.trans (HBc.out.mono HB1.out.size))).trans (grown_touch HG6.out (by rw [HE.out.2.1]; simp [TF.hot])))
   clear c3 HVm HM6 HG6 Hc
   obtain ⟨av, cv, hv, _⟩ := H6.out.own.cells
   obtain ⟨l, hl⟩ : ∃ l, l = opn.length := ⟨_, rfl⟩
   rw [← hl] at hv ho
   subst hv
   have c4 : w6.cell? ⟨g, 4, none⟩ = some (.slice av l cv) := by rw [HE.out.1]; exact H6.out.cell 4 rfl
   have H7 := LH (H6.out.later (below_alloc w6 (.cells #[.int .i64 (x : Int)] 3)))
   have HC2 : Hid (Cells (w6.alloc (.cells #[.int .i64 (x : Int)] 3)) (some ⟨w6.heap.size, 0, none⟩) ([x].map vi)) := LH (RowAt.cells ⟨_, heap_alloc_new _ _, [], rfl⟩)
   have HN1 : Hid (opn.length + 1 ≤ 1000000000000) := LH (by omega)
   clear hl
   go_wp2_with (refine wpList_append_ownI (m := 1) H7.out.own HC2.out rfl HN1.out rfl rfl rfl rfl ?_; intro v' w8 ho8 hg8 hr8; have HO8 := LH ho8; have HG8 := LH hg8; have HR8 := LH hr8; obtain ⟨av', cv', e', _⟩ := ho8.cells; obtain ⟨l', hl'⟩ : ∃ l', l' = (opn ++ [x]).length := ⟨_, rfl⟩; rw [← hl'] at e'; subst e'; clear hl'; have fr8 : w8.frozen? ⟨g, 4, none⟩ = false := by { rw [HE.out.1]; exact frozen_of_row _ _ _ _ _ ((hg8.block T.g (lt_of_head H7.out.head) (fun e => (H7.out.row _ e.symm).2.1 rfl)).trans H7.out.head) }; have ck8 : w8.cell? ⟨g, 4, none⟩ = some (.slice av l cv) := by { rw [HE.out.1]; exact (cell_of_row _ _ 4 _ _ _ ((hg8.block T.g (lt_of_head H7.out.head) (fun e => (H7.out.row _ e.symm).2.1 rfl)).trans H7.out.head)).trans rfl }; clear ho8 hg8 hr8)
   have h9 := H7.out.openPut HG8.out HO8.out (fun b hb => (HR8.out b hb).elim .inl (fun e => .inr (by rw [e]; exact Nat.le_refl _)))
   rw [← HE.out.1] at h9
   refine HTake.out _ _ h9 HOk'.out HNs.out ?_ (fun b hb => (HR8.out b hb).elim .inl (fun e => .inr (by rw [e]; simp; exact Nat.le_trans HT6.out.size (by simp))))
   have hb7 : Touch (T.hot (.slice av l cv)) w6 (w6.alloc (.cells #[.int .i64 (x : Int)] 3)) := Touch.ofBelow (below_alloc _ _)
   have hb8 : Touch (T.hot (.slice av l cv)) (w6.alloc (.cells #[.int .i64 (x : Int)] 3)) w8 := (grown_touchO HG8.out).wide (fun b hb => by simp only [TF.hot, List.mem_cons]; exact .inr (.inr (.inr hb)))
   exact ((HT6.out.trans hb7).trans hb8).trans (Touch.setCell _ (by rw [HE.out.1]; simp [TF.hot]) _)
theorem troot_any {w0 w : World} {F : Foot} {S : Dev} (h0 : DevAt w0 F S) {a : Option Addr} {B cap : Nat} {L : List Hd} (hlen : L.length = B) (hc : Cells w0 a (hdCs L)) (hB : B ≤ 1000)
  {T : TF} {n : Nat} {seen opn : List Nat} {bad : Bool} {v : Value} (h : TrAt w0 w F B a cap T n seen opn bad v) (hn : n ≤ 1000000000) (ho : opn.length ≤ 1000000000) (x : Nat) (hx : x ≤ 4611686018427387904) :
  Calls Tryz.prog 94 #[.pointer (some ⟨T.g, 0, none⟩), .int .i64 (x : Int)] w (Reached S L w0 F B a cap T n seen opn bad v w x) := by
 have HR := LH (treach_any h0 hlen hc hB h hn ho x hx (-1) 0 (WalkArith.wf_i64 (by omega)) (WalkArith.wf_i64 (by omega)))
 clear h h0 hc
 have HP : Hid (∀ e w', Reached S L w0 F B a cap T n seen opn bad v w x e w' → ∃ er, e = .returned (.int .i64 er)) := LH (fun e w' ⟨_, _, _, _, er, h, _⟩ => ⟨er, h⟩)
 generalize Reached S L w0 F B a cap T n seen opn bad v w x = Post at *
 go_enter Tryz.func94, Tryz.ntmps94
 go_wp2_with fail
 refine HR.out.mono ?_
 intro e w1 hp
 obtain ⟨er, rfl⟩ := HP.out _ _ hp
 have HPp := LH hp
 clear hp
 go_wp2_with fail
 exact HPp.out
def TStep (S : Dev) (L : List Hd) (w0 : World) (F : Foot) (B : Nat) (a : Option Addr) (cap : Nat) (T : TF) (n : Nat) (seen opn : List Nat) (bad : Bool) (v : Value) : Ending → World → Prop := fun e w' =>
 (opn = [] ∧ e = .returned (.bool false) ∧ TrAt w0 w' F B a cap T n seen opn bad v) ∨
 (∃ seen' opn' bad' v', opn ≠ [] ∧ e = .returned (.bool true) ∧ TrAt w0 w' F B a cap T (n + 64) seen' opn' bad' v' ∧ (∀ f, Trc (okN S L) (ptrN S) f seen opn [] bad → Trc (okN S L) (ptrN S) f seen' opn' [] bad') ∧
  seen'.length + opn.length = seen.length + opn'.length + 1 ∧ seen.length ≤ seen'.length ∧ (bad = true → bad' = true))
theorem tstep_any {w0 w : World} {F : Foot} {S : Dev} (h0 : DevAt w0 F S) {a : Option Addr} {B cap : Nat} {L : List Hd} (hlen : L.length = B) (hc : Cells w0 a (hdCs L)) (hB : B ≤ 1000)
  {T : TF} {n : Nat} {seen opn : List Nat} {bad : Bool} {v : Value} (h : TrAt w0 w F B a cap T n seen opn bad v) (hn : n ≤ 900000000) (ho : opn.length ≤ 900000000) (hop : ∀ x ∈ opn, x ≤ 1000000000) :
  Calls Tryz.prog 143 #[.pointer (some ⟨T.g, 0, none⟩)] w (TStep S L w0 F B a cap T n seen opn bad v) := by
 obtain ⟨av, cv, hv, hcv, hle, hmx⟩ := h.own.cells
 obtain ⟨l, hl⟩ : ∃ l, l = opn.length := ⟨_, rfl⟩
 obtain ⟨g, hg⟩ : ∃ g, g = T.g := ⟨_, rfl⟩
 rw [← hg]
 rw [← hl] at hv hle ho
 subst hv
 have H := LH h
 by_cases h0l : l = 0
 ·have HP : Hid (∀ w', TrAt w0 w' F B a cap T n seen opn bad (.slice av l cv) → TStep S L w0 F B a cap T n seen opn bad (.slice av l cv) (.returned (.bool false)) w') := LH (fun w' h => .inl ⟨List.length_eq_zero_iff.1 (by omega), rfl, h⟩)
  generalize TStep S L w0 F B a cap T n seen opn bad (.slice av l cv) = Post at *
  have c4 : w.cell? ⟨g, 4, none⟩ = some (.slice av l cv) := by rw [hg]; exact H.out.cell 4 rfl
  subst h0l
  clear hg hl h h0 hc hcv
  go_enter Tryz.func143, Tryz.ntmps143
  go_wp2_with fail
  exact HP.out _ H.out
 obtain ⟨o, y, rfl⟩ : ∃ o y, opn = o ++ [y] := by
  rcases List.eq_nil_or_concat opn with e | ⟨o, y, e⟩
  ·rw [e] at hl; simp at hl; omega
  ·exact ⟨o, y, by rw [e, List.concat_eq_append]⟩
 have hyb := hop y (by simp)
 clear hop
 have HPtr : Hid (∀ w', Below w0.heap.size w0 w' → Calls Tryz.prog 173 #[vdev F, .int .i64 (y : Int)] w' (PtrsPost S (y : Int) w')) := LH (fun w' hb => optrs_any (h0.below hb) (y : Int))
 have HP : Hid (∀ w' seen' opn' bad' v', TrAt w0 w' F B a cap T (n + 64) seen' opn' bad' v' → (∀ f, Trc (okN S L) (ptrN S) f seen o (ptrN S y) bad → Trc (okN S L) (ptrN S) f seen' opn' [] bad') → seen'.length + o.length = seen.length + opn'.length → seen.length ≤ seen'.length → (bad = true → bad' = true) →
   TStep S L w0 F B a cap T n seen (o ++ [y]) bad (.slice av l cv) (.returned (.bool true)) w') := LH (fun w' seen' opn' bad' v' h1 h2 h3 h4 h5 =>
  .inr ⟨seen', opn', bad', v', by simp, rfl, h1, fun f ht => h2 f ht.pop, by simp; omega, h4, h5⟩)
 generalize TStep S L w0 F B a cap T n seen (o ++ [y]) bad (.slice av l cv) = Post at *
 have hlo : l = o.length + 1 := by rw [hl]; simp
 have HOl := LH hlo
 have HG := LH hg
 have c4 : w.cell? ⟨g, 4, none⟩ = some (.slice av l cv) := by rw [hg]; exact H.out.cell 4 rfl
 have c0 : w.cell? ⟨g, 0, none⟩ = some (vdev F) := by rw [hg]; exact H.out.cell 0 rfl
 have k4 : w.frozen? ⟨g, 4, none⟩ = false := by rw [hg]; exact H.out.frozen 4
 obtain ⟨b, off, e, _, hcell⟩ := hcv.at (i := l - 1) (by simp; omega)
 have cy : w.cell? ⟨b, off + (l - 1), none⟩ = some (.int .i64 (y : Int)) := hcell (l - 1) (vi y) (by rw [hlo, List.map_append]; simp [vi])
 subst e
 have HRe : Hid (∀ (w1 : World) (n' : Nat) (seen' opn' : List Nat) (bad' : Bool) (v' : Value), TrAt w0 w1 F B a cap T n' seen' opn' bad' v' → n' ≤ 1000000000 → opn'.length ≤ 1000000000 → ∀ x : Nat, x ≤ 4611686018427387904 → ∀ i : Nat, i ≤ 4611686018427387904 →
   Calls Tryz.prog 142 #[.pointer (some ⟨g, 0, none⟩), .agg #[.int .i64 (y : Int), .int .i64 (i : Int)], .int .i64 (x : Int)] w1 (Reached S L w0 F B a cap T n' seen' opn' bad' v' w1 x)) := LH (fun w1 n' seen' opn' bad' v' h h1 h2 x hx i hi => by
  have hy2 : y ≤ 4611686018427387904 := Nat.le_trans hyb (by decide)
  have hr := treach_any h0 hlen hc hB h h1 h2 x hx (y : Int) (i : Int) (wf_nat hy2) (wf_nat hi)
  rw [← hg] at hr
  exact hr)
 have HSm := LH h0.small
 have hcut := H.out.own.cutN hl (n := l - 1) (by omega)
 rw [show (o ++ [y]).take (l - 1) = o from by rw [hlo]; simp] at hcut
 have HCut := LH hcut
 obtain ⟨j, hj⟩ : ∃ j, j = l - 1 := ⟨_, rfl⟩
 have hlj : (l : Int) - 1 = (j : Int) := by omega
 have hjl : j < l := by omega
 rw [← hj] at cy HCut
 clear hcut hj hlo hl hg h h0 hc hcv hcell
 have h0l' : ((l : Int) == 0) = false := by rw [beq_eq_false_iff_ne]; omega
 clear h0l
 go_enter Tryz.func143, Tryz.ntmps143
 go_upto_region 3 with fail
 have r4 := fun x => later_cell c4 x
 have ry := fun x => later_cell cy x
 refine wp_region_later (by kernel_rfl) (by kernel_rfl) ?_
 repeat (first | go_big_quiet_step (fail) | quiet_step (fail))
 refine wpQuiet_nil ?_
 rintro w1 ⟨x1, hx1⟩
 have HB1 : Hid (Below w.heap.size w w1) := LH (by rw [hx1]; exact x1.below)
 clear hx1 r4 ry
 have H1 := LH (H.out.later HB1.out)
 have c4' := below_cells HB1.out c4 (Nat.le_refl _)
 have c0' := below_cells HB1.out c0 (Nat.le_refl _)
 clear c4 c0 cy k4
 go_upto_region 4 with fail
 have r4 := fun x => later_cell c4' x
 refine wp_region_seg (C := fun w' => ∃ x : Later (w1), w' = x.val) [.fl [0, 1, 2, 3, 4, 5, 6, 7, 8, 9, 10, 11], .sq [12, 13, 14] false] (by kernel_rfl) (by kernel_rfl) (by intro c a d v w h; cases d <;> exact h) ?_
 simp only [segs, picks, List.getElem?_cons_succ, List.getElem?_cons_zero]
 have hC1 := later_drew (w1)
 refine wpSeg_fl hC1 ?_
 repeat (first | go_big_quiet_step (fail) | quiet_step (fail))
 refine wpQuiet_nil ?_
 have HB2 : Hid (Below w.heap.size w w1.drew) := LH (HB1.out.trans ((later_below hC1).mono HB1.out.size))
 have H2 := LH (H1.out.later (later_below hC1))
 generalize w1.drew = w2 at *
 have c4 : w2.cell? ⟨g, 4, none⟩ = some (.slice (some ⟨b, off, none⟩) l cv) := by rw [HG.out]; exact H2.out.cell 4 rfl
 have k4 : w2.frozen? ⟨g, 4, none⟩ = false := by rw [HG.out]; exact H2.out.frozen 4
 have c02 : w2.cell? ⟨g, 0, none⟩ = some (vdev F) := by rw [HG.out]; exact H2.out.cell 0 rfl
 have HC2 := LH (HCut.out.keep (fun b' hb' => HB2.out.block b' (HCut.out.lt b' hb')))
 have h3 := H2.out.openPut (grown_self _ _) HC2.out (fun b hb => .inl hb)
 rw [← HG.out] at h3
 have H3 := LH h3
 clear r4 c4' hC1 h3
 refine wpSeg_last ?_
 go_wp2_with fail
 generalize w2.setCell _ _ = w3 at *
 clear c4 k4 c0' c02 HC2 H1 HB1 H2 HB2 HCut H
 obtain ⟨v3, hv3⟩ : ∃ v3, v3 = Value.slice (some ⟨b, off, none⟩) j cv := ⟨_, rfl⟩
 rw [← hv3] at H3
 refine (HPtr.out w3 H3.out.org).mono ?_
 intro e w4 hp
 obtain ⟨ap, cp, ec, rfl, _, hcp, hnew, hb4⟩ := hp.out
 have H4 := LH (H3.out.later hb4)
 have HCp := LH hcp
 have hkl := ptrsD_len HSm.out (y : Int)
 obtain ⟨P, hP⟩ : ∃ P, P = ptrsD S (y : Int) := ⟨_, rfl⟩
 rw [← hP] at HCp hkl ⊢
 have HPe : Hid (ptrN S y = P) := LH hP.symm
 have HPb : Hid (∀ x ∈ P, x ≤ 4611686018427387904) := LH (fun x hx => by
  rw [hP] at hx
  unfold ptrsD at hx
  split at hx
  ·obtain ⟨i, _, rfl⟩ := List.mem_map.1 hx
   exact Nat.le_trans (capP_le _) (by decide)
  ·cases hx)
 obtain ⟨kl, hkle⟩ : ∃ kl, kl = P.length := ⟨_, rfl⟩
 have HKl := LH hkle
 have HNew : Hid (0 < kl → ∀ x, ap = some x → x.block < w4.heap.size ∧ x.block ∉ T.hot v3) := LH (fun hk x hx => by
  have h1 := hnew x hx
  have hlt := H3.out
  refine ⟨?_, ?_⟩
  ·obtain ⟨b1, o1, q1, hq, _⟩ := hcp.at (i := 0) (by rw [← hP]; simp; omega)
   rw [hx] at q1
   injection q1 with q1
   rw [q1]
   exact hq
  ·intro hm
   simp only [TF.hot, List.mem_cons, Option.mem_toList] at hm
   rcases hm with hm | hm | hm | hm
   ·have := lt_of_head hlt.head; omega
   ·have := hlt.seen.lt; omega
   ·have := hlt.bad.lt; omega
   ·have := hlt.own.lt _ hm; omega)
 rw [← hkle] at hkl ⊢
 clear hp hcp hnew hb4 hP hkle HPtr
 go_wp2_with fail
 go_loopw [51] (fun iv wr => ∃ (k : Nat) (seen' opn' : List Nat) (bad' : Bool) (v' : Value), k ≤ kl ∧ iv = .int .i64 (k : Int) ∧ Hid (TrAt w0 wr F B a cap T (n + k) seen' opn' bad' v') ∧
  Hid (∀ f, Trc (okN S L) (ptrN S) f seen o (ptrN S y) bad → Trc (okN S L) (ptrN S) f seen' opn' (P.drop k) bad') ∧ Hid (seen'.length + o.length = seen.length + opn'.length ∧ seen.length ≤ seen'.length ∧ (bad = true → bad' = true) ∧ opn'.length ≤ o.length + k) ∧
  Hid (Cells wr ap (P.map vi)) ∧ Hid (0 < kl → ∀ x, ap = some x → x.block < wr.heap.size ∧ x.block ∉ T.hot v')) (fun iv _ => kl - (intOf iv).toNat)
 case atStart => exact ⟨0, seen, o, bad, v3, by omega, rfl, H4, LH (fun f h => by rw [HPe.out] at h; exact h), LH ⟨rfl, Nat.le_refl _, id, by omega⟩, HCp, HNew⟩
 case round =>
  obtain ⟨k, seen', opn', bad', v', hk, rfl, HTr, HTc, HLe, HCr, HNr⟩ := hrel
  by_cases hlt : k < kl
  ·have hlt' : (k : Int) < (kl : Int) := by omega
   obtain ⟨x, hx⟩ : ∃ x, P[k]? = some x := ⟨_, List.getElem?_eq_getElem (by rw [← HKl.out]; exact hlt)⟩
   obtain ⟨b1, o1, q1, _, hc1⟩ := HCr.out.at (i := k) (by rw [List.length_map, ← HKl.out]; exact hlt)
   have cx : wr.cell? ⟨b1, o1 + k, none⟩ = some (.int .i64 (x : Int)) := hc1 k (vi x) (by rw [List.getElem?_map, hx]; rfl)
   have HXb := LH (HPb.out x (List.mem_of_getElem? hx))
   have HDr : Hid (P.drop k = x :: P.drop (k + 1)) := LH (by
    have hk2 : k < P.length := by rw [← HKl.out]; exact hlt
    rw [List.drop_eq_getElem_cons hk2]
    congr 1
    rw [List.getElem?_eq_getElem hk2] at hx
    injection hx)
   subst q1
   clear hc1 hx
   have hlen9 := HLe.out.2.2.2
   have hol := HOl.out
   have HBo : Hid (opn'.length ≤ 1000000000) := LH (by omega)
   clear hlen9 hol
   go_wp2_with fail
   refine (HRe.out wr (n + k) seen' opn' bad' v' HTr.out (by omega) HBo.out x HXb.out k (by omega)).mono ?_
   rintro e w5 ⟨seen2, opn2, bad2, v2, er, rfl, ht2, _, _, hbb, htc, hl1, hl2, hto, hro, hl3⟩
   have HT2 := LH ht2
   have HTc2 : Hid (∀ f, Trc (okN S L) (ptrN S) f seen o (ptrN S y) bad → Trc (okN S L) (ptrN S) f seen2 opn2 (P.drop (k + 1)) bad2) := LH (fun f h => htc f _ (by rw [← HDr.out]; exact HTc.out f h))
   have HLe2 : Hid (seen2.length + o.length = seen.length + opn2.length ∧ seen.length ≤ seen2.length ∧ (bad = true → bad2 = true) ∧ opn2.length ≤ o.length + (k + 1)) := LH (by
    obtain ⟨z1, z2, z3, z4⟩ := HLe.out
    exact ⟨by omega, by omega, fun h => hbb (z3 h), by omega⟩)
   have hnr := HNr.out (by omega) _ rfl
   have HC5 : Hid (Cells w5 (some ⟨b1, o1, none⟩) (P.map vi)) := LH (HCr.out.touchL hto (fun x hx _ => by injection hx with hx; rw [← hx]; exact hnr.2))
   have HN5 : Hid (0 < kl → ∀ x, some (⟨b1, o1, none⟩ : Addr) = some x → x.block < w5.heap.size ∧ x.block ∉ T.hot v2) := LH (fun _ x hx => by
    injection hx with hx
    subst hx
    refine ⟨Nat.lt_of_lt_of_le hnr.1 hto.size, fun hm => ?_⟩
    simp only [TF.hot, List.mem_cons, Option.mem_toList] at hm
    rcases hm with hm | hm | hm | hm
    ·exact hnr.2 (by simp [TF.hot, hm])
    ·exact hnr.2 (by simp [TF.hot, hm])
    ·exact hnr.2 (by simp [TF.hot, hm])
    ·rcases hro _ hm with c | c
     ·exact hnr.2 (by simp [TF.hot, c])
     ·have := hnr.1; omega)
   clear ht2 hbb htc hl1 hl2 hto hro hl3 hnr cx
   go_wp2_with fail
   exact ⟨⟨k + 1, seen2, opn2, bad2, v2, by omega, vint (by omega), HT2, HTc2, HLe2, HC5, HN5⟩, by simp [intOf]; omega⟩
  ·have hltd : decide ((k : Int) < (kl : Int)) = false := by simp; omega
   have hke : k = kl := by omega
   have HEnd : Hid (P.drop k = []) := LH (by rw [hke, HKl.out]; exact List.drop_length)
   have HTf := LH (fun f h => (by have := HTc.out f h; rw [HEnd.out] at this; exact this : Trc (okN S L) (ptrN S) f seen' opn' [] bad'))
   have HTm := LH (HTr.out.mono (n' := n + 64) (by omega))
   clear hke
   go_wp2_with fail
   exact HP.out _ seen' opn' bad' v' HTm.out HTf.out HLe.out.1 HLe.out.2.1 HLe.out.2.2.1
end
section
open Go.Maps Go.ChangeMaps Go.MapKept Go.WideElems
section
variable {P : Program} {k e t : TypeId} {w : World} {b n : Nat} {M : Lit → Option Value}
variable {ops : Array Oper} {rest : List Oper} {o : Oper} {a : Act} {Q : Exit → Act → World → Prop}
end
end
section
open Go.Maps
end
end Go.Proofs.YtpohaahihdhleaaGreat
namespace Go.Proofs
open Go.Shelf
def Tryz.lays189_ren : Go.Shelf.Ren := ⟨fun | 189 => 133 | 125 => 168 | 257 => 167 | 128 => 197 | 129 => 198 | 294 => 188 | 295 => 189 | 296 => 190 | 297 => 191 | 298 => 192 | 299 => 193 | 216 => 194 | 300 => 195 | 301 => 196 | 328 => 208 | 329 => 209 | 330 => 210 | 331 => 211 | 332 => 212 | 215 => 213 | 343 => 220 | n => n, fun | 28 => 47 | 3 => 3 | 46 => 115 | 0 => 0 | 51 => 166 | 53 => 40 | 4 => 4 | 183 => 281 | 182 => 280 | 131 => 199 | 5 => 5 | 9 => 9 | 218 => 293 | 222 => 296 | 228 => 302 | 229 => 303 | n => n, fun | n => n⟩
theorem Tryz.lays189 : Go.Proofs.Lays.n189 Tryz.prog Tryz.lays189_ren := {
 mixed := by kernel_rfl
 f125 := Tryz.func168.trans (congrArg some (by kernel_rfl))
 f128 := Tryz.func197.trans (congrArg some (by kernel_rfl))
 f129 := Tryz.func198.trans (congrArg some (by kernel_rfl))
 f189 := Tryz.func133.trans (congrArg some (by kernel_rfl))
 f215 := Tryz.func213.trans (congrArg some (by kernel_rfl))
 f216 := Tryz.func194.trans (congrArg some (by kernel_rfl))
 f257 := Tryz.func167.trans (congrArg some (by kernel_rfl))
 f294 := Tryz.func188.trans (congrArg some (by kernel_rfl))
 f295 := Tryz.func189.trans (congrArg some (by kernel_rfl))
 f296 := Tryz.func190.trans (congrArg some (by kernel_rfl))
 f297 := Tryz.func191.trans (congrArg some (by kernel_rfl))
 f298 := Tryz.func192.trans (congrArg some (by kernel_rfl))
 f299 := Tryz.func193.trans (congrArg some (by kernel_rfl))
 f300 := Tryz.func195.trans (congrArg some (by kernel_rfl))
 f301 := Tryz.func196.trans (congrArg some (by kernel_rfl))
 f328 := Tryz.func208.trans (congrArg some (by kernel_rfl))
 f329 := Tryz.func209.trans (congrArg some (by kernel_rfl))
 f330 := Tryz.func210.trans (congrArg some (by kernel_rfl))
 f331 := Tryz.func211.trans (congrArg some (by kernel_rfl))
 f332 := Tryz.func212.trans (congrArg some (by kernel_rfl))
 f343 := Tryz.func220.trans (congrArg some (by kernel_rfl))
 t0 := Tryz.underlying0
 a0 := Tryz.isAgg0
 z0 := Tryz.sizeOf0
 v0 := Tryz.zeroValue0
 t3 := Tryz.underlying3
 a3 := Tryz.isAgg3
 z3 := Tryz.sizeOf3
 v3 := Tryz.zeroValue3
 t4 := Tryz.underlying4
 a4 := Tryz.isAgg4
 z4 := Tryz.sizeOf4
 v4 := Tryz.zeroValue4
 t5 := Tryz.underlying5
 a5 := Tryz.isAgg5
 z5 := Tryz.sizeOf5
 v5 := Tryz.zeroValue5
 t9 := Tryz.underlying9
 a9 := Tryz.isAgg9
 z9 := Tryz.sizeOf9
 v9 := Tryz.zeroValue9
 t28 := Tryz.underlying47
 a28 := Tryz.isAgg47
 z28 := Tryz.sizeOf47
 v28 := Tryz.zeroValue47
 t46 := Tryz.underlying115
 a46 := Tryz.isAgg115
 z46 := Tryz.sizeOf115
 v46 := Tryz.zeroValue115
 t51 := Tryz.underlying166
 a51 := Tryz.isAgg166
 z51 := Tryz.sizeOf166
 v51 := Tryz.zeroValue166
 t53 := Tryz.underlying40
 a53 := Tryz.isAgg40
 z53 := Tryz.sizeOf40
 v53 := Tryz.zeroValue40
 t131 := Tryz.underlying199
 a131 := Tryz.isAgg199
 z131 := Tryz.sizeOf199
 v131 := Tryz.zeroValue199
 t182 := Tryz.underlying280
 a182 := Tryz.isAgg280
 z182 := Tryz.sizeOf280
 v182 := Tryz.zeroValue280
 t183 := Tryz.underlying281
 a183 := Tryz.isAgg281
 z183 := Tryz.sizeOf281
 v183 := Tryz.zeroValue281
 t218 := Tryz.underlying293
 a218 := Tryz.isAgg293
 z218 := Tryz.sizeOf293
 v218 := Tryz.zeroValue293
 t222 := Tryz.underlying296
 a222 := Tryz.isAgg296
 z222 := Tryz.sizeOf296
 v222 := Tryz.zeroValue296
 t228 := Tryz.underlying302
 a228 := Tryz.isAgg302
 z228 := Tryz.sizeOf302
 v228 := Tryz.zeroValue302
 t229 := Tryz.underlying303
 a229 := Tryz.isAgg303
 z229 := Tryz.sizeOf303
 v229 := Tryz.zeroValue303 }
end Go.Proofs
namespace Go.Proofs.YtpohaahihdhleaaGreat
section
open Go.Maps Go.Shelf Go.Sort
theorem putCells_front (cur : Array Value) (d : Array Int) (h : d.size ≤ cur.size) : (putCells (Value.int .i64) 0 d cur).toList = d.toList.map (Value.int .i64) ++ cur.toList.drop d.size := by
 apply List.ext_getElem?
 intro k
 unfold putCells
 rw [Array.getElem?_toList, Array.getElem?_mapIdx]
 by_cases hk : k < d.size
 ·rw [List.getElem?_append_left (by simpa using hk), List.getElem?_map, Array.getElem?_toList, Array.getElem?_eq_getElem hk, Array.getElem?_eq_getElem (show k < cur.size by omega)]
  simp [hk]
 ·rw [List.getElem?_append_right (by simpa using hk), List.getElem?_drop]
  have e : d.size + (k - (d.toList.map (Value.int .i64)).length) = k := by simp; omega
  rw [e, Array.getElem?_toList]
  cases cur[k]? with
  | none => rfl
  | some x => simp [hk]
theorem putRow_heap {w : World} {g : Nat} {cur : Array Value} {e : TypeId} {fr : Nat × Nat} (hg : w.heap[g]? = some (.cells cur e fr)) (d : Array Int) (q : Nat) :
  (putRow (Value.int .i64) (Sort.ahead w q) g 0 d).heap[g]? = some (.cells (putCells (Value.int .i64) 0 d cur) e fr) := by
 unfold putRow mapBlock
 simp [Array.getElem?_modify, hg, onCells]
theorem putRow_grown (w : World) (g : Nat) (d : Array Int) (q : Nat) : w.grownBy (putRow (Value.int .i64) (Sort.ahead w q) g 0 d) (some g) := by
 refine ⟨rfl, rfl, rfl, by simp [putRow, mapBlock], fun k hk hne => ?_⟩
 have : ¬ g = k := fun e => hne (by rw [e])
 simp [putRow, mapBlock, Array.getElem?_modify, this]
theorem grow_grown (w : World) (os : Array Obj) : w.grownBy (grow w os) none :=
 ⟨rfl, rfl, rfl, by simp [grow], fun k hk _ => heap_grow_old w os hk⟩
theorem row_put {w : World} {g cap : Nat} {cur : Array Value} (hg : w.heap[g]? = some (.cells cur 3 (0, 0))) (hc : cur.size = cap) (h2 : cap ≤ maxLen) (d : Array Int) (hd : d.size ≤ cap) (q : Nat) (ys : List Nat) (hy : d.toList.take ys.length = ys.map (fun x : Nat => (x : Int))) (hl : ys.length ≤ d.size) :
  OwnI (putRow (Value.int .i64) (Sort.ahead w q) g 0 d) (.slice (some ⟨g, 0, none⟩) ys.length cap) ys := by
 refine .inl ⟨by simp, .inr ⟨g, cap, _, rfl, Nat.zero_le _, putRow_heap hg d q, by omega, h2, by unfold putCells; simp [hc], ?_⟩⟩
 rw [putCells_front _ _ (by omega), Nat.mul_one, List.take_append_of_le_length (by simpa using hl), ← List.map_take, hy, List.map_map]
 rfl
theorem OwnI.row {w : World} {v : Value} {xs : List Nat} (h : OwnI w v xs) (hx : xs ≠ []) : ∃ g cap cur, v = .slice (some ⟨g, 0, none⟩) xs.length cap ∧ w.heap[g]? = some (.cells cur 3 (0, 0)) ∧ xs.length ≤ cap ∧ cap ≤ maxLen ∧ cur.size = cap ∧ rowOf v = some g ∧
  Go.Sort.Holds (Value.int .i64) w g 0 (xs.map (fun x : Nat => (x : Int))).toArray := by
 rcases h with h | ⟨a, _, h⟩
 ·rcases h.2 with ⟨_, h0⟩ | ⟨g, cap, cur, rfl, hb, hg, h1, h2, h3, h4⟩
  ·exact absurd (List.length_eq_zero_iff.1 h0) hx
  ·have hpos : 0 < xs.length := List.length_pos_iff.2 hx
   refine ⟨g, cap, cur, rfl, hg, h1, h2, by omega, ?_, fun j hj => ⟨?_, frozen_of_row _ _ _ _ _ hg⟩⟩
   ·show (if cap = 0 then none else some g) = some g
    rw [if_neg (by omega)]
   ·have hj' : j < xs.length := by simpa using hj
    rw [Nat.zero_add, cell_of_row _ _ j _ _ _ hg]
    have h5 := congrArg (fun l => l[j]?) h4
    rw [Nat.mul_one] at h5
    simp only [List.getElem?_take, if_pos hj', List.getElem?_map, List.getElem?_eq_getElem hj', Option.map_some] at h5
    rw [← Array.getElem?_toList, h5]
    simp [vi, hj']
 ·exact absurd h hx
theorem OwnI.none_val {w : World} {v : Value} (h : OwnI w v []) : ∃ p c, v = .slice p 0 c := by
 obtain ⟨a, c, e, _⟩ := h.cells
 exact ⟨a, c, e⟩
def SortedI (w : World) (v : Value) (xs : List Nat) : Ending → World → Prop := fun e w' => e = .returned (.tuple #[]) ∧ ∃ ys : List Nat, OwnI w' v ys ∧ ys.Pairwise (· ≤ ·) ∧ ys.Perm xs ∧ w.grownBy w' (rowOf v)
theorem sortI_any {w : World} {v : Value} {xs : List Nat} (h : OwnI w v xs) (hl : xs.length ≤ 1000000000) : Calls Tryz.prog 133 #[v] w (SortedI w v xs) := by
 by_cases hx : xs = []
 ·subst hx
  obtain ⟨p, c, rfl⟩ := h.none_val
  refine (Any.slices_Sort_int_none Tryz.lays189 p c w).mono ?_
  rintro e w' ⟨rfl, rfl⟩
  exact ⟨rfl, [], h, List.Pairwise.nil, List.Perm.refl _, grown_self _ _⟩
 ·obtain ⟨g, cap, cur, rfl, hg, h1, h2, h3, h4, hH⟩ := h.row hx
  have hc := Any.slices_Sort_int Tryz.lays189 g 0 cap (xs.map (fun x : Nat => (x : Int))) w hH (Array.getElem?_eq_some_iff.1 hg).1 (by rw [List.length_map]; omega)
  rw [List.length_map] at hc
  refine hc.mono ?_
  rintro e w' ⟨rfl, q, os, rfl⟩
  have hm : (xs.map (fun x : Nat => (x : Int))).mergeSort (fun x y => decide (x ≤ y)) = (xs.mergeSort (fun x y => decide (x ≤ y))).map (fun x : Nat => (x : Int)) := by
   rw [List.map_mergeSort (s := fun x y : Int => decide (x ≤ y)) (fun a _ b _ => by simp)]
  rw [hm]
  have hpm := List.mergeSort_perm xs (fun x y => decide (x ≤ y))
  have hlm : (xs.mergeSort (fun x y => decide (x ≤ y))).length = xs.length := hpm.length_eq
  have hso : (xs.mergeSort (fun x y => decide (x ≤ y))).Pairwise (· ≤ ·) := by
   have := List.pairwise_mergeSort (le := fun x y : Nat => decide (x ≤ y)) (fun a b c h1 h2 => by simp at *; omega) (fun a b => by simp; omega) xs
   exact this.imp (fun h => by simpa using h)
  have ho := row_put hg h3 h2 ((xs.mergeSort (fun x y => decide (x ≤ y))).map (fun x : Nat => (x : Int))).toArray (by rw [List.size_toArray, List.length_map, hlm]; exact h1) q (xs.mergeSort (fun x y => decide (x ≤ y))) (by rw [List.take_of_length_le (by simp)]) (by simp)
  rw [hlm] at ho
  have hgr := putRow_grown w g ((xs.mergeSort (fun x y => decide (x ≤ y))).map (fun x : Nat => (x : Int))).toArray q
  refine ⟨rfl, _, ?_, hso, hpm, ?_⟩
  ·exact ho.keep (fun b hb => heap_grow_old _ _ (ho.lt b hb))
  ·have hg2 := grow_grown (putRow (Value.int .i64) (Sort.ahead w q) g 0 ((xs.mergeSort (fun x y => decide (x ≤ y))).map (fun x : Nat => (x : Int))).toArray) os
   rw [h4]
   exact ⟨hg2.os.trans hgr.os, hg2.tape.trans hgr.tape, hg2.output.trans hgr.output, Nat.le_trans hgr.size hg2.size, fun k hk hne => (hg2.block k (Nat.lt_of_lt_of_le hk hgr.size) (by simp)).trans (hgr.block k hk hne)⟩
end
section
open Go.Maps Go.ChangeMaps
theorem least_ex {p : Nat → Prop} (h : ∃ m, p m) : ∃ m, p m ∧ ∀ k, p k → m ≤ k := by
 have go : ∀ n m, m ≤ n → p m → ∃ m, p m ∧ ∀ k, p k → m ≤ k := by
  intro n
  induction n with
  | zero => intro m hm hp; exact ⟨m, hp, fun k _ => by omega⟩
  | succ n ih =>
   intro m hm hp
   by_cases hq : ∃ k, k ≤ n ∧ p k
   ·obtain ⟨k, hk, hpk⟩ := hq
    exact ih k hk hpk
   ·refine ⟨m, hp, fun k hk => ?_⟩
    rcases Nat.lt_or_ge n k with c | c
    ·omega
    ·exact absurd ⟨k, c, hk⟩ hq
 obtain ⟨m, hm⟩ := h
 exact go m m (Nat.le_refl _) hm
open Classical in
noncomputable def leastM (p : Nat → Prop) : Nat := if h : ∃ m, p m then Classical.choose (least_ex h) else 0
theorem leastM_spec {p : Nat → Prop} (h : ∃ m, p m) : p (leastM p) := by
 unfold leastM
 rw [dif_pos h]
 exact (Classical.choose_spec (least_ex h)).1
theorem leastM_le {p : Nat → Prop} {m : Nat} (h : p m) : leastM p ≤ m := by
 unfold leastM
 rw [dif_pos ⟨m, h⟩]
 exact (Classical.choose_spec (least_ex ⟨m, h⟩)).2 m h
theorem Trc.len {S : Dev} {L : List Hd} {f seen opn rest : List Nat} {bad : Bool} (h : Trc (okN S L) (ptrN S) f seen opn rest bad) : seen.length ≤ 512 * L.length :=
 nodup_len _ _ (fun x hx => (okN_lt (h.in_ x hx).ok').2) (nodup_count h.nd)
theorem Trc.opn_lt {S : Dev} {L : List Hd} {f seen opn rest : List Nat} {bad : Bool} (h : Trc (okN S L) (ptrN S) f seen opn rest bad) : ∀ x ∈ opn, x < 512 * L.length :=
 fun x hx => (okN_lt (h.in_ x (h.sub x hx)).ok').2
def TrRun (S : Dev) (L : List Hd) (w0 : World) (F : Foot) (B : Nat) (a : Option Addr) (cap : Nat) (T : TF) (f : List Nat) (w : World) (m : Nat) : Prop :=
 ∃ n seen opn bad v, TrAt w0 w F B a cap T n seen opn bad v ∧ Trc (okN S L) (ptrN S) f seen opn [] bad ∧ (512 * B - seen.length) + opn.length = m ∧ n + 64 * m ≤ 800000000
def TrDone (S : Dev) (L : List Hd) (w0 : World) (F : Foot) (B : Nat) (a : Option Addr) (cap : Nat) (T : TF) (f : List Nat) : Ending → World → Prop := fun e w' =>
 ∃ n seen bad v, e = .returned (.int .i64 (if bad = true then 22 else 0)) ∧ TrAt w0 w' F B a cap T n seen [] bad v ∧ Trc (okN S L) (ptrN S) f seen [] [] bad
theorem trun_any {w0 w : World} {F : Foot} {S : Dev} (h0 : DevAt w0 F S) {a : Option Addr} {B cap : Nat} {L : List Hd} (hlen : L.length = B) (hc : Cells w0 a (hdCs L)) (hB : B ≤ 1000)
  {T : TF} {f : List Nat} {m0 : Nat} (h : TrRun S L w0 F B a cap T f w m0) :
  Calls Tryz.prog 95 #[.pointer (some ⟨T.g, 0, none⟩)] w (TrDone S L w0 F B a cap T f) := by
 have HP : Hid (∀ w' n seen v, TrAt w0 w' F B a cap T n seen [] false v → Trc (okN S L) (ptrN S) f seen [] [] false → TrDone S L w0 F B a cap T f (.returned (.int .i64 0)) w') := LH (fun w' n seen v h1 h2 => ⟨n, seen, false, v, rfl, h1, h2⟩)
 have HQ : Hid (∀ w' n seen v, TrAt w0 w' F B a cap T n seen [] true v → Trc (okN S L) (ptrN S) f seen [] [] true → TrDone S L w0 F B a cap T f (.returned (.int .i64 22)) w') := LH (fun w' n seen v h1 h2 => ⟨n, seen, true, v, rfl, h1, h2⟩)
 generalize TrDone S L w0 F B a cap T f = Post at *
 obtain ⟨g, hg⟩ : ∃ g, g = T.g := ⟨_, rfl⟩
 have HG := LH hg
 have HStep : Hid (∀ (w1 : World) (n : Nat) (seen opn : List Nat) (bad : Bool) (v : Value), TrAt w0 w1 F B a cap T n seen opn bad v → n ≤ 900000000 → opn.length ≤ 900000000 → (∀ x ∈ opn, x ≤ 1000000000) →
   Calls Tryz.prog 143 #[.pointer (some ⟨g, 0, none⟩)] w1 (TStep S L w0 F B a cap T n seen opn bad v)) := LH (fun w1 n seen opn bad v h h1 h2 h3 => by
  have := tstep_any h0 hlen hc hB h h1 h2 h3
  rw [← hg] at this
  exact this)
 rw [← hg]
 have HS := LH h
 have HL := LH hlen
 clear h0 hc hg h hlen
 go_enter Tryz.func95, Tryz.ntmps95
 go_wp2_with fail
 go_loopw [] (fun wr => ∃ m, TrRun S L w0 F B a cap T f wr m) (fun wr => leastM (TrRun S L w0 F B a cap T f wr))
 case atStart => exact ⟨m0, HS.out⟩
 case round =>
  obtain ⟨m, hm⟩ : ∃ m, m = leastM (TrRun S L w0 F B a cap T f wr) := ⟨_, rfl⟩
  have hsp := leastM_spec hrel
  rw [← hm] at hsp
  have HM := LH hm
  obtain ⟨n, seen, opn, bad, v, ht, htc, hmm, hnm⟩ := hsp
  clear hrel hm
  have htl := htc.len
  rw [HL.out] at htl
  have hop : ∀ x ∈ opn, x ≤ 1000000000 := fun x hx => by
   have h1 := htc.opn_lt x hx
   rw [HL.out] at h1
   omega
  have HSt := LH (HStep.out wr n seen opn bad v ht (by omega) (by omega) hop)
  have HTc := LH htc
  have HNm : Hid (n + 64 * m ≤ 800000000 ∧ (512 * B - seen.length) + opn.length = m ∧ seen.length ≤ 512 * B) := LH ⟨hnm, hmm, htl⟩
  clear ht htc hmm hnm htl hop
  go_wp2_with fail
  refine HSt.out.mono ?_
  rintro e w1 (⟨rfl, rfl, ht1⟩ | ⟨seen', opn', bad', v', hne, rfl, ht1, hct, hl1, hl2, _⟩)
  ·have HT1 := LH ht1
   clear ht1
   cases bad with
   | false =>
    have HB1 : Hid (BadAt Tryz.prog 252 w1 T.mb n false) := LH HT1.out.bad
    have c5 : w1.cell? ⟨g, 5, none⟩ = some (.map (some T.mb)) := by rw [HG.out]; exact HT1.out.cell 5 rfl
    go_wp2_with (refine wpList_blen rfl _ _ rfl 252 3 Tryz.underlying248 T.mb n false rfl HB1.out ?_; intro s hs hs0 hs1; obtain rfl := hs0 rfl; clear hs hs0 hs1)
    exact HP.out _ _ _ _ HT1.out HTc.out
   | true =>
    have HB1 : Hid (BadAt Tryz.prog 252 w1 T.mb n true) := LH HT1.out.bad
    have c5 : w1.cell? ⟨g, 5, none⟩ = some (.map (some T.mb)) := by rw [HG.out]; exact HT1.out.cell 5 rfl
    go_wp2_with (refine wpList_blen rfl _ _ rfl 252 3 Tryz.underlying248 T.mb n true rfl HB1.out ?_; intro s hs hs0 hs1; have hsp : 0 < (s : Int) := (by have := hs1 rfl; omega); clear hs hs0 hs1)
    exact HQ.out _ _ _ _ HT1.out HTc.out
  ·have ht2 := hct f HTc.out
   have hlen2 := ht2.len
   rw [HL.out] at hlen2
   obtain ⟨z1, z2, z3⟩ := HNm.out
   have hpos : 0 < opn.length := List.length_pos_iff.2 hne
   have HNew : Hid (∃ m', m' < m ∧ TrRun S L w0 F B a cap T f w1 m') := LH ⟨(512 * B - seen'.length) + opn'.length, by omega, n + 64, seen', opn', bad', v', ht1, ht2, rfl, by omega⟩
   clear ht1 hct hl1 hl2 hne ht2 hlen2 z1 z2 z3 hpos HNm HTc HSt
   go_wp2_with fail
   obtain ⟨m', hlt, hr⟩ := HNew.out
   refine ⟨⟨m', hr⟩, ?_⟩
   rw [← HM.out]
   exact Nat.lt_of_le_of_lt (leastM_le hr) hlt
def SeenPost (w : World) (seen : List Nat) : Ending → World → Prop := fun e w' => ∃ v ys, e = .returned v ∧ OwnI w' v ys ∧ ys.Pairwise (· ≤ ·) ∧ ys.Perm seen ∧ Below w.heap.size w w' ∧ (∀ b, rowOf v = some b → w.heap.size ≤ b)
theorem tseen_any {w0 w : World} {F : Foot} {a : Option Addr} {B cap : Nat} {T : TF} {n : Nat} {seen opn : List Nat} {bad : Bool} {v : Value} (h : TrAt w0 w F B a cap T n seen opn bad v) (hnd : seen.Nodup) (hl : seen.length ≤ 900000000) :
  Calls Tryz.prog 96 #[.pointer (some ⟨T.g, 0, none⟩)] w (SeenPost w seen) := by
 have HP : Hid (∀ v ys w', OwnI w' v ys → ys.Pairwise (· ≤ ·) → ys.Perm seen → Below w.heap.size w w' → (∀ b, rowOf v = some b → w.heap.size ≤ b) → SeenPost w seen (.returned v) w') := LH (fun v ys w' h1 h2 h3 h4 h5 => ⟨v, ys, rfl, h1, h2, h3, h4, h5⟩)
 generalize SeenPost w seen = Post at *
 have c3 : w.cell? ⟨T.g, 3, none⟩ = some (.map (some T.ms)) := h.cell 3 rfl
 have HV := LH h.seen
 obtain ⟨g, hg⟩ : ∃ g, g = T.g := ⟨_, rfl⟩
 obtain ⟨ms, hms⟩ : ∃ g, g = T.ms := ⟨_, rfl⟩
 rw [← hg, ← hms] at c3
 rw [← hms] at HV
 rw [← hg]
 have HNd := LH hnd
 have HL := LH hl
 clear h hnd hl hg hms
 go_enter Tryz.func96, Tryz.ntmps96
 go_wp2_with (at_range; refine wpList_srange rfl _ 247 rfl 3 4 Tryz.underlying3 Tryz.underlying247 ms n seen rfl HV.out ?_; intro w1 cnt0 hr0 hg0 hs0)
 have HR0 := LH hr0
 have HB0 := LH (grown_none hg0)
 have HSz : Hid (w.heap.size + 1 ≤ w1.heap.size) := LH (by omega)
 clear hr0 hg0 hs0 c3
 go_frame
 obtain ⟨r, hr⟩ : ∃ r, r = w.heap.size := ⟨_, rfl⟩
 have HRr := LH hr
 rw [← hr] at HR0 HSz ⊢
 clear hr
 go_loopw [3] (fun ov wr => ∃ (dn left : List Nat) (cnt : Nat), Hid (OwnI wr ov dn) ∧ Hid (∀ b, rowOf ov = some b → r < b) ∧ Hid (SRange Tryz.prog 3 wr ms r n seen left cnt) ∧ Hid ((dn ++ left).Perm seen) ∧ Hid (Below w.heap.size w wr ∧ r + 1 ≤ wr.heap.size)) (fun _ wr => wr.rangeLeft ms r)
 case atStart => exact ⟨[], seen, cnt0, LH (OwnI.nil _), LH (fun b hb => by cases hb), HR0, LH (List.Perm.refl _), LH ⟨HB0.out, HSz.out⟩⟩
 case round =>
  obtain ⟨dn, left, cnt, HO, HRow, HR, HPm, HB⟩ := hrel
  have hndl : left.Nodup := (List.nodup_append.1 (HPm.out.nodup_iff.2 HNd.out)).2.1
  have hsub : ∀ x ∈ left, x ∈ seen := fun x hx => HPm.out.mem_iff.1 (List.mem_append_right _ hx)
  have HNl := LH hndl
  have HSb := LH hsub
  clear hndl hsub
  obtain ⟨av, cv, hov, _⟩ := HO.out.cells
  obtain ⟨l, hll⟩ : ∃ l, l = dn.length := ⟨_, rfl⟩
  rw [← hll] at hov
  have HLl := LH hll
  subst hov
  clear hll
  go_wp2_with (at_next; refine wpList_snext rfl _ rfl 3 Tryz.underlying3 ms r n seen left _ HNl.out HSb.out rfl HR.out ?_ ?_)
  ·intro h0
   subst h0
   have HPe : Hid (dn.Perm seen) := LH (by have := HPm.out; rwa [List.append_nil] at this)
   have HDl : Hid (dn.length ≤ 1000000000) := LH (by rw [HPe.out.length_eq]; have := HL.out; omega)
   go_wp2_with fail
   refine (sortI_any HO.out HDl.out).mono ?_
   rintro e w2 ⟨rfl, ys, ho, hso, hpm, hgr⟩
   have hlen : ys.length = l := by rw [hpm.length_eq, HLl.out]
   have HO2 := LH ho
   have HS2 := LH hso
   have HP2 := LH (hpm.trans HPe.out)
   have HB2 : Hid (Below w.heap.size w w2) := LH (by
    have h1 := HB.out.1
    refine ⟨hgr.os.trans h1.os, hgr.tape.trans h1.tape, hgr.output.trans h1.output, Nat.le_trans h1.size hgr.size, fun k hk => (hgr.block k (Nat.lt_of_lt_of_le hk h1.size) (fun e => ?_)).trans (h1.block k hk)⟩
    have := HRow.out _ e.symm
    rw [HRr.out] at this
    omega)
   have HRw : Hid (∀ b, rowOf (.slice av l cv) = some b → w.heap.size ≤ b) := LH (fun b hb => by have := HRow.out b hb; rw [HRr.out] at this; omega)
   clear ho hso hpm hgr hlen
   go_wp2_with fail
   exact HP.out _ _ _ HO2.out HS2.out HP2.out HB2.out HRw.out
  ·intro x w2 cnt1 hx hr1 hlt hg1 hs1 hen
   have HR1 := LH hr1
   have HLt := LH hlt
   have HO1 : Hid (OwnI w2 (.slice av l cv) dn) := LH (HO.out.keep (fun b hb => hg1.block b (HO.out.lt b hb) (fun e => by injection e with e; have := HRow.out b hb; omega)))
   have HB1 : Hid (Below w.heap.size w w2 ∧ r + 1 ≤ w2.heap.size) := LH ⟨HB.out.1.trans ⟨hg1.os, hg1.tape, hg1.output, hg1.size, fun k hk => hg1.block k (Nat.lt_of_lt_of_le hk HB.out.1.size) (fun e => by injection e with e; rw [HRr.out] at e; omega)⟩, by rw [hs1]; exact HB.out.2⟩
   have HP1 : Hid ((dn ++ [x] ++ left.erase x).Perm seen) := LH (by
    refine List.Perm.trans ?_ HPm.out
    rw [List.append_assoc]
    exact List.Perm.append_left _ (List.perm_cons_erase hx).symm)
   have HO2 := LH (HO1.out.keep (fun b hb => (below_alloc w2 (.cells #[.int .i64 (x : Int)] 3)).block b (HO1.out.lt b hb)))
   have HC2 : Hid (Cells (w2.alloc (.cells #[.int .i64 (x : Int)] 3)) (some ⟨w2.heap.size, 0, none⟩) ([x].map vi)) := LH (RowAt.cells ⟨_, heap_alloc_new _ _, [], rfl⟩)
   have HN1 : Hid (dn.length + 1 ≤ 1000000000000) := LH (by
    have h1 := HPm.out.length_eq
    rw [List.length_append] at h1
    have := HL.out
    omega)
   have HSz2 : Hid (r < w2.heap.size) := LH (by have := HB1.out.2; omega)
   clear hx hr1 hlt hg1 hs1
   go_wp2_with (refine wpList_append_ownI (m := 1) HO2.out HC2.out rfl HN1.out rfl rfl rfl rfl ?_; intro v' w3 ho hg hr; have HO3 := LH ho; have HG3 := LH hg; have HR3 := LH hr; clear ho hg hr)
   go_roundw
   case rel =>
    have hg3 := HG3.out
    refine ⟨dn ++ [x], left.erase x, cnt1, HO3, LH (fun b hb => ?_), LH ?_, HP1, LH ⟨?_, ?_⟩⟩
    ·rcases HR3.out b hb with c | c
     ·exact HRow.out b c
     ·rw [c]; simp; have := HSz2.out; omega
    ·refine ((HR1.out.kept (World.grownBy_alloc w2 _ none) (by simp) (by simp)).kept hg3 ?_ ?_)
     ·intro e
      have h1 := HRow.out _ e.symm
      have h2 := HV.out.lt
      rw [HRr.out] at h1
      omega
     ·intro e
      have h1 := HRow.out _ e.symm
      omega
    ·have hba := below_alloc w2 (.cells #[.int .i64 (x : Int)] 3)
     have h1 := HB1.out.1.trans (hba.mono HB1.out.1.size)
     refine ⟨hg3.os.trans h1.os, hg3.tape.trans h1.tape, hg3.output.trans h1.output, Nat.le_trans h1.size hg3.size, fun k hk => (hg3.block k (Nat.lt_of_lt_of_le hk h1.size) (fun e => ?_)).trans (h1.block k hk)⟩
     have := HRow.out _ e.symm
     rw [HRr.out] at this
     omega
    ·have h1 := hg3.size
     have h2 := HB1.out.2
     simp at h1
     omega
   case measure =>
    have hk : SRange Tryz.prog 3 w3 ms r n seen (left.erase x) cnt1 := by
     refine ((HR1.out.kept (World.grownBy_alloc w2 _ none) (by simp) (by simp)).kept HG3.out ?_ ?_)
     ·intro e
      have h1 := HRow.out _ e.symm
      have h2 := HV.out.lt
      rw [HRr.out] at h1
      omega
     ·intro e
      have h1 := HRow.out _ e.symm
      omega
    rw [hk.left_eq, HR.out.left_eq]
    exact HLt.out
def ClPost (S : Dev) (L : List Hd) (fr : List Nat) (w : World) : Ending → World → Prop := fun e w' => Below w.heap.size w w' ∧
  ((CloOk (okN S L) (ptrN S) fr ∧ ∃ v ys, e = .returned (.tuple #[v, .int .i64 0]) ∧ OwnI w' v ys ∧ ys.Pairwise (· < ·) ∧ (∀ x, x ∈ ys ↔ Rch (okN S L) (ptrN S) fr x) ∧ (∀ b, rowOf v = some b → w.heap.size ≤ b)) ∨
   (¬ CloOk (okN S L) (ptrN S) fr ∧ e = .returned (.tuple #[.slice none 0 0, .int .i64 22])))
theorem lt_of_le_nodup {ys : List Nat} (h : ys.Pairwise (· ≤ ·)) (hn : ys.Nodup) : ys.Pairwise (· < ·) := by
 have := List.pairwise_and_iff.2 ⟨h, hn⟩
 exact this.imp (fun ⟨h1, h2⟩ => Nat.lt_of_le_of_ne h1 h2)
theorem tclosure_any {w : World} {F : Foot} {S : Dev} (h : DevAt w F S) {a : Option Addr} {B cap : Nat} {L : List Hd} (hlen : L.length = B) (hc : Cells w a (hdCs L)) (hB : B ≤ 1000)
  (fa : Option Addr) (fl fc : Nat) (fr : List Nat) (hfl : fr.length = fl) (hfc : Cells w fa (fr.map vi)) (hfs : fl ≤ 1000) (hfb : ∀ x ∈ fr, x ≤ 4611686018427387904) :
  Calls Tryz.prog 47 #[vdev F, vgeom (B : Int), .slice a B cap, .slice fa fl fc] w (ClPost S L fr w) := by
 have HP : Hid (∀ v ys w', Below w.heap.size w w' → CloOk (okN S L) (ptrN S) fr → OwnI w' v ys → ys.Pairwise (· < ·) → (∀ x, x ∈ ys ↔ Rch (okN S L) (ptrN S) fr x) → (∀ b, rowOf v = some b → w.heap.size ≤ b) → ClPost S L fr w (.returned (.tuple #[v, .int .i64 0])) w') := LH (fun v ys w' h1 h2 h3 h4 h5 h6 => ⟨h1, .inl ⟨h2, v, ys, rfl, h3, h4, h5, h6⟩⟩)
 have HQ : Hid (∀ w', Below w.heap.size w w' → ¬ CloOk (okN S L) (ptrN S) fr → ClPost S L fr w (.returned (.tuple #[.slice none 0 0, .int .i64 22])) w') := LH (fun w' h1 h2 => ⟨h1, .inr ⟨h2, rfl⟩⟩)
 generalize ClPost S L fr w = Post at *
 have hb1 := below_alloc w (.cells #[.int .i64 (B : Int)] 44)
 have c0 : (w.alloc (.cells #[.int .i64 (B : Int)] 44)).cell? ⟨w.heap.size, 0, none⟩ = some (.int .i64 (B : Int)) := cell_alloc_new _ _ _ 0 _ rfl
 have HB1 := LH hb1
 have h1 := h.below hb1
 have hc1 := hc.below hb1 (Nat.le_refl _)
 have hf1 := hfc.below hb1 (Nat.le_refl _)
 generalize hw1 : w.alloc (.cells #[.int .i64 (B : Int)] 44) = w1 at *
 have HRoot : Hid (∀ (T : TF) (w2 : World) (n : Nat) (seen opn : List Nat) (bad : Bool) (v : Value), TrAt w1 w2 F B a cap T n seen opn bad v → n ≤ 1000000000 → opn.length ≤ 1000000000 → ∀ x : Nat, x ≤ 4611686018427387904 →
   Calls Tryz.prog 94 #[.pointer (some ⟨T.g, 0, none⟩), .int .i64 (x : Int)] w2 (Reached S L w1 F B a cap T n seen opn bad v w2 x)) := LH (fun T w2 n seen opn bad v ht hn ho x hx => troot_any h1 hlen hc1 hB ht hn ho x hx)
 have HRun : Hid (∀ (T : TF) (w2 : World) (m0 : Nat), TrRun S L w1 F B a cap T fr w2 m0 → Calls Tryz.prog 95 #[.pointer (some ⟨T.g, 0, none⟩)] w2 (TrDone S L w1 F B a cap T fr)) := LH (fun T w2 m0 ht => trun_any h1 hlen hc1 hB ht)
 have HCf := LH hf1
 have HFl := LH hfl
 have HFb := LH hfb
 have HLn := LH hlen
 clear h hc hfc h1 hc1 hf1 hfl hfb hb1 hlen
 go_enter Tryz.func47, Tryz.ntmps47
 go_upto_region 1 with fail
 clear hw1
 obtain ⟨q, hq⟩ : ∃ q, q = w.heap.size := ⟨_, rfl⟩
 rw [← hq] at c0 ⊢
 clear hq
 go_wp2_with fail
 refine (trnew_any w1 F B a cap).mono ?_
 rintro e w2 ⟨T, rfl, ht⟩
 have HT := LH ht
 obtain ⟨g, hg⟩ : ∃ g, g = T.g := ⟨_, rfl⟩
 have HG := LH hg
 rw [← hg]
 clear ht hg c0
 go_wp2_with fail
 go_loopw [11, 22] (fun fv iv wr => ∃ (k : Nat) (seen opn : List Nat) (bad : Bool) (v : Value) (fe : Int), k ≤ fl ∧ fv = .int .i64 fe ∧ iv = .int .i64 (k : Int) ∧ Hid (TrAt w1 wr F B a cap T k seen opn bad v) ∧ Hid (Trc (okN S L) (ptrN S) fr seen opn (fr.drop k) bad) ∧ Hid (fe ≠ 0 → bad = true) ∧ Hid (opn.length ≤ k)) (fun _ iv _ => fl - (RowKit.intOf iv).toNat)
 case atStart => exact ⟨0, [], [], false, _, 0, by omega, rfl, rfl, HT, LH (Trc.start _ _ _), LH (fun h => absurd rfl h), LH (by simp)⟩
 case round =>
  obtain ⟨k, seen, opn, bad, v, fe, hk, rfl, rfl, HTr, HTc, HFe, HOl⟩ := hrel
  by_cases hlt : k < fl
  ·have hlt' : (k : Int) < (fl : Int) := by omega
   obtain ⟨x, hx⟩ : ∃ x, fr[k]? = some x := ⟨_, List.getElem?_eq_getElem (by rw [HFl.out]; exact hlt)⟩
   obtain ⟨b1, o1, q1, _, hcx⟩ := (HCf.out.below HTr.out.org (Nat.le_refl _)).at (i := k) (by rw [List.length_map, HFl.out]; exact hlt)
   have cx : wr.cell? ⟨b1, o1 + k, none⟩ = some (.int .i64 (x : Int)) := hcx k (vi x) (by rw [List.getElem?_map, hx]; rfl)
   have HXb := LH (HFb.out x (List.mem_of_getElem? hx))
   have HDr : Hid (fr.drop k = x :: fr.drop (k + 1)) := LH (by
    have hk2 : k < fr.length := by rw [HFl.out]; exact hlt
    rw [List.drop_eq_getElem_cons hk2]
    congr 1
    rw [List.getElem?_eq_getElem hk2] at hx
    injection hx)
   have HRx := LH (HRoot.out T wr k seen opn bad v HTr.out (by omega) (by have := HOl.out; omega) x HXb.out)
   rw [← HG.out] at HRx
   subst q1
   clear hcx hx
   go_wp2_with fail
   refine HRx.out.mono ?_
   rintro e w5 ⟨seen2, opn2, bad2, v2, er, rfl, ht2, her, hbe, hbb, htc, hl1, hl2, hto, hro, hl3⟩
   have HT2 := LH ht2
   have HTc2 : Hid (Trc (okN S L) (ptrN S) fr seen2 opn2 (fr.drop (k + 1)) bad2) := LH (htc fr _ (by rw [← HDr.out]; exact HTc.out))
   have HOl2 : Hid (opn2.length ≤ k + 1) := LH (by have := HOl.out; omega)
   have HBb := LH hbb
   have HBe := LH hbe
   clear ht2 hbe hbb htc hl1 hl2 hto hro hl3 cx
   rcases her with rfl | rfl
   ·go_wp2_with fail
    exact ⟨⟨k + 1, seen2, opn2, bad2, v2, fe, by omega, rfl, vint (by omega), HT2, HTc2, LH (fun h => HBb.out (HFe.out h)), HOl2⟩, by simp [RowKit.intOf]; omega⟩
   ·go_wp2_with fail
    exact ⟨⟨k + 1, seen2, opn2, bad2, v2, 22, by omega, rfl, vint (by omega), HT2, HTc2, LH (fun _ => HBe.out (by decide)), HOl2⟩, by simp [RowKit.intOf]; omega⟩
  ·have hltd : decide ((k : Int) < (fl : Int)) = false := by simp; omega
   have hke : k = fl := by omega
   have HTc2 : Hid (Trc (okN S L) (ptrN S) fr seen opn [] bad) := LH (by have := HTc.out; rw [hke, ← HFl.out, List.drop_length] at this; exact this)
   have HRx := LH (HRun.out T wr ((512 * B - seen.length) + opn.length) ⟨k, seen, opn, bad, v, HTr.out, HTc2.out, rfl, by have := HOl.out; omega⟩)
   rw [← HG.out] at HRx
   have HKeep : Hid (∀ n seen' bad' v' w', TrAt w1 w' F B a cap T n seen' [] bad' v' → Trc (okN S L) (ptrN S) fr seen' [] [] bad' → (fe ≠ 0 → bad' = true)) := LH (fun n seen' bad' v' w' _ h2 hf => by
    have hb := HFe.out hf
    cases hq : bad' with
    | true => rfl
    | false =>
     have hok := h2.verdict.1 hq
     obtain ⟨z, z1, z2, z3⟩ := HTc2.out.dirty hb
     exact absurd (hok z z1 (z3.elim .inl (fun ⟨y, hy, hm⟩ => .inr ⟨y, HTc2.out.in_ y hy, hm⟩))) z2)
   clear hke HTc HFe HTc2 HTr
   go_wp2_with fail
   refine HRx.out.mono ?_
   rintro e w5 ⟨n5, seen5, bad5, v5, rfl, ht5, hc5⟩
   have HT5 := LH ht5
   have HC5 := LH hc5
   have hfe := HKeep.out _ _ _ _ _ ht5 hc5
   have HB5 : Hid (Below w.heap.size w w5) := LH (HB1.out.trans (ht5.org.mono HB1.out.size))
   clear ht5 hc5
   cases bad5 with
   | true =>
    rw [if_pos rfl]
    clear hfe
    go_wp2_with fail
    exact HQ.out _ HB5.out (fun h => by have := HC5.out.verdict.2 h; cases this)
   | false =>
    rw [if_neg (by simp)]
    have hf0 : fe = 0 := by
     by_cases c : fe = 0
     ·exact c
     ·have := hfe c; cases this
    subst hf0
    have hnd := HC5.out.nd
    have hln := HC5.out.len
    rw [HLn.out] at hln
    have HSe := LH (tseen_any HT5.out hnd (by omega))
    rw [← HG.out] at HSe
    clear hfe hnd hln
    go_wp2_with fail
    refine HSe.out.mono ?_
    rintro e w6 ⟨v6, ys, rfl, ho6, hso, hpm, hb6, hrw⟩
    have HO6 := LH ho6
    have HS6 := LH (lt_of_le_nodup hso (hpm.nodup_iff.2 HC5.out.nd))
    have HM6 : Hid (∀ x, x ∈ ys ↔ Rch (okN S L) (ptrN S) fr x) := LH (fun x => by rw [hpm.mem_iff]; exact HC5.out.done x)
    have HR6 : Hid (∀ b, rowOf v6 = some b → w.heap.size ≤ b) := LH (fun b hb => Nat.le_trans HB5.out.size (hrw b hb))
    have HB6 : Hid (Below w.heap.size w w6) := LH (HB5.out.trans (hb6.mono HB5.out.size))
    clear ho6 hso hpm hb6 hrw
    go_wp2_with fail
    exact HP.out _ _ _ HB6.out (HC5.out.verdict.1 rfl) HO6.out HS6.out HM6.out HR6.out
end
section
theorem run_copy_rows {P : Program} (w : World) (dT sT ty elem : TypeId) (g o dLen dCap : Nat) (a : Addr) (sLen sCap size : Nat) (cur : Array Value) (t : TypeId) (cs : List Value)
  (hu : P.underlying dT = some (.slice elem)) (hs : (P.info? elem).map (·.size) = some size)
  (hg : w.heap[g]? = some (.cells cur t (0, 0))) (hn : cs.length = Nat.min sLen dLen * size)
  (hsrc : ∀ j v, cs[j]? = some v → w.cell? (a.add j) = some v) (hfit : o + cs.length ≤ cur.size) (h1 : ∀ v ∈ cs, v.oneCell' = true) :
  (Builtin.copy_ #[dT, sT] ty #[.slice (some ⟨g, o, none⟩) dLen dCap, .slice (some a) sLen sCap]).run P w =
   .ok (goInt (Nat.min sLen dLen : Nat)) (w.setRow g (cur.toList.take o ++ cs ++ cur.toList.drop (o + cs.length)).toArray) := by
 have hl := run_loadCells_list (P := P) w a cs hsrc
 have hst := run_storeCells_at P g o t cs 0 cur w hg (by simpa using hfit) h1
 cases hq : P.info? elem with
 | none => simp [hq] at hs
 | some i =>
  have hi : i.size = size := by simpa [hq] using hs
  simp [Builtin.copy_, run_underlying hu, Builtin.lenOf, Builtin.firstCells, sizeOf, typeInfo, hq, hi, ← hn, hl, hst]
theorem wpList_copy_rows {P : Program} {w : World} {ops : Array Oper} {rest : List Oper} {o : Oper} {a : Act} {Q : Exit → Act → World → Prop} (hgd : o.guard = none) {d s : Operand} {dT sT : TypeId}
  (ho : o.op = .call { callee := .builtin .copy, args := #[d, s], argTypes := #[dT, sT] }) {elem : TypeId} {size : Nat} (hu : P.underlying dT = some (.slice elem)) (hsz : (P.info? elem).map (·.size) = some size)
  {g off dLen dCap g2 off2 sLen sCap : Nat} (hd : a.eval d = .slice (some ⟨g, off, none⟩) dLen dCap) (hs : a.eval s = .slice (some ⟨g2, off2, none⟩) sLen sCap)
  {t : TypeId} {vs : List Value} (hr : RowAt w g t vs) (cs : List Value) (hn : cs.length = Nat.min sLen dLen * size) (hsrc : ∀ j v, cs[j]? = some v → w.cell? ⟨g2, off2 + j, none⟩ = some v)
  (hfit : off + cs.length ≤ vs.length) (h1 : ∀ v ∈ cs, v.oneCell' = true)
  (h : ∀ w', RowAt w' g t (splice vs off cs) → Touch [g] w w' → wpList P ops Q rest (a.put o.dst (goInt (Nat.min sLen dLen : Nat))) w') : wpList P ops Q (o :: rest) a w := by
 obtain ⟨xs, hg, more, hx⟩ := hr
 have hsz2 : xs.size = vs.length + more.length := by rw [← Array.length_toList, hx, List.length_append]
 have hrun := run_copy_rows (P := P) w dT sT o.type elem g off dLen dCap ⟨g2, off2, none⟩ sLen sCap size xs t cs hu hsz hg hn (fun j v hj => by
  have e : (⟨g2, off2, none⟩ : Addr).add j = ⟨g2, off2 + j, none⟩ := by unfold Addr.add; split <;> simp_all
  rw [e]; exact hsrc j v hj) (by omega) h1
 refine wpList_plain hgd fun K hK' => ?_
 unfold Oper.wp
 simp [execOp, ho, resolve, invoke, builtin, hd, hs, hrun, Result.andThen]
 refine hK' _ _ (h _ ⟨_, setRow_heap w g xs _ t _ hg, more, ?_⟩ ⟨rfl, rfl, rfl, by simp [World.setRow], fun k _ hk => setRow_other w g k _ (fun e => hk (by simp [e]))⟩)
 rw [hx, splice]
 simp only [List.append_assoc]
 rw [List.take_append_of_le_length (by omega), List.drop_append_of_le_length (by omega)]
theorem RowAt.below {w w' : World} {g e : Nat} {vs : List Value} (h : RowAt w g e vs) (hb : Below w.heap.size w w') : RowAt w' g e vs := h.keep (hb.block _ h.lt)
theorem splice_length {α : Type} (l s : List α) (o : Nat) (h : o + s.length ≤ l.length) : (splice l o s).length = l.length := by
 unfold splice
 simp only [List.length_append, List.length_take, List.length_drop]
 omega
section
variable {P : Program} {C : World → Prop} {ops : Array Oper} {rest : List Oper} {o : Oper} {a : Act} {Q : Act → Prop}
theorem wpQuiet_slice_mid {x lo hi : Operand} {t e : TypeId} {z : Value} {size bytes : Nat} (E : Elem P t e z size bytes) {ad : Option Addr} {n cap : Nat} {k k2 : IntKind} {L H : Int} (l h : Nat)
  (hL : L = (l : Int)) (hH : H = (h : Int)) (hl : l ≤ h) (hh : h ≤ n) (hn : n ≤ cap)
  (hgd : o.guard = none) (ho : o.op = .slice t x (some lo) (some hi) none) (hx : a.eval x = .slice ad n cap) (hlo : a.eval lo = .int k L) (hhi : a.eval hi = .int k2 H)
  (hK : wpQuiet P ops C Q rest (a.put o.dst (.slice (if cap = l then ad else ad.map (·.add (l * size))) (h - l) (cap - l)))) :
  wpQuiet P ops C Q (o :: rest) a := by
 subst hL
 subst hH
 have hw : Region.wanted o (yielded ops a.tmps) = true := by simp [Region.wanted, hgd]
 unfold wpQuiet
 rw [if_pos hw]
 refine ⟨_, fun w hC => ?_, hK⟩
 have hr := run_slice_any (w := w) E ad n cap l h (some (.int k l)) (some (.int k2 h)) (by
  have h1 : (0 : Int) ≤ (l : Int) ∧ (l : Int) ≤ (h : Int) := by omega
  have h2 : (0 : Int) ≤ (h : Int) ∧ (h : Int) ≤ (cap : Int) := by omega
  simp [Instr.sliceBounds, Instr.sliceBound, asIntOf, hl, Nat.le_trans hh hn])
 unfold Oper.quietAt
 simp only [execOp, ho, hx, hlo, hhi, Option.map_some]
 simp [hr, Result.andThen, Oper.quietUpon]
end
def keepN (L : List Hd) (b : Nat) : Nat := max 1 (wholeN L b)
def keep1 (L out : List Hd) (x : Nat) : List Hd := if x < 512 ∨ 512 * L.length ≤ x then out else splice out (x / 512) ((L.drop (x / 512)).take (keepN L (x / 512)))
def keepL (L : List Hd) (live : List Nat) : List Hd := live.foldl (keep1 L) (List.replicate L.length default)
theorem keepN_fits {L : List Hd} {b : Nat} (hb : b < L.length) : 1 ≤ keepN L b ∧ b + keepN L b ≤ L.length := by
 unfold keepN
 by_cases h : wholeN L b = 0
 ·rw [h]; simp; omega
 ·have := (wholeN_fits h).2.2.2.1
  omega
theorem keep1_len (L out : List Hd) (x : Nat) (h : out.length = L.length) : (keep1 L out x).length = L.length := by
 unfold keep1
 split
 ·exact h
 ·have hb : x / 512 < L.length := by omega
  have := keepN_fits hb
  rw [splice_length _ _ _ (by rw [List.length_take, List.length_drop]; omega), h]
theorem keepL_len (L : List Hd) (live : List Nat) : (keepL L live).length = L.length := by
 unfold keepL
 have : ∀ (l : List Nat) (out : List Hd), out.length = L.length → (l.foldl (keep1 L) out).length = L.length := by
  intro l
  induction l with
  | nil => intro out h; exact h
  | cons x l ih => intro out h; exact ih _ (keep1_len L out x h)
 exact this live _ (by simp)
theorem keepL_snoc (L : List Hd) (l : List Nat) (x : Nat) : keepL L (l ++ [x]) = keep1 L (keepL L l) x := by unfold keepL; rw [List.foldl_append]; rfl
theorem hdCs_splice (out s : List Hd) (b : Nat) : hdCs (splice out b s) = splice (hdCs out) (b * 3) (hdCs s) := by
 unfold splice
 rw [hdCs_append, hdCs_append]
 have ht : ∀ (l : List Hd) (n : Nat), hdCs (l.take n) = (hdCs l).take (n * 3) := by
  intro l
  induction l with
  | nil => intro n; simp [hdCs]
  | cons x l ih =>
   intro n
   cases n with
   | zero => simp [hdCs]
   | succ n =>
    rw [List.take_succ_cons]
    show x.cs ++ hdCs (l.take n) = (x.cs ++ hdCs l).take ((n + 1) * 3)
    rw [ih, show (n + 1) * 3 = x.cs.length + n * 3 by show _ = 3 + n * 3; omega, List.take_length_add_append]
 have hd : ∀ (l : List Hd) (n : Nat), hdCs (l.drop n) = (hdCs l).drop (n * 3) := by
  intro l
  induction l with
  | nil => intro n; simp [hdCs]
  | cons x l ih =>
   intro n
   cases n with
   | zero => simp
   | succ n =>
    rw [List.drop_succ_cons]
    show hdCs (l.drop n) = (x.cs ++ hdCs l).drop ((n + 1) * 3)
    rw [ih, show (n + 1) * 3 = x.cs.length + n * 3 by show _ = 3 + n * 3; omega, List.drop_length_add_append]
 rw [ht, hd, hdCs_length]
 congr 3
 omega
def KeepPost (L : List Hd) (xs : List Nat) (w : World) : Ending → World → Prop := fun e w' => ∃ g c, e = .returned (.slice (some ⟨g, 0, none⟩) L.length c) ∧ w.heap.size ≤ g ∧ L.length ≤ c ∧ RowAt w' g 107 (hdCs (keepL L xs)) ∧ Below w.heap.size w w'
theorem keep_any {w : World} {B lg lc : Nat} {L : List Hd} (hlen : L.length = B) (hB1 : 1 ≤ B) (hB : B ≤ 1000) (hr : RowAt w lg 107 (hdCs L)) (hlc : B ≤ lc)
  (va : Option Addr) (vl vc : Nat) (xs : List Nat) (hvl : xs.length = vl) (hv : Cells w va (xs.map vi)) (hvs : vl ≤ 1000000) (hxb : ∀ x ∈ xs, x ≤ 4611686018427387904) :
  Calls Tryz.prog 68 #[vgeom (B : Int), .slice (some ⟨lg, 0, none⟩) B lc, .slice va vl vc] w (KeepPost L xs w) := by
 have HP : Hid (∀ g c w', w.heap.size ≤ g → B ≤ c → RowAt w' g 107 (hdCs (keepL L xs)) → Below w.heap.size w w' → KeepPost L xs w (.returned (.slice (some ⟨g, 0, none⟩) B c)) w') := LH (fun g c w' h1 h2 h3 h4 => ⟨g, c, by rw [hlen], h1, by rw [hlen]; exact h2, h3, h4⟩)
 generalize KeepPost L xs w = Post at *
 have HM := LH (Mem.one w #[.int .i64 (B : Int)] 44)
 have HLn := LH hlen
 have HL := LH hr
 have HV := LH hv
 have HVl := LH hvl
 have HXb := LH hxb
 have HRep : Hid (List.replicate (B * 3) (Value.int .i64 0) = hdCs (keepL L [])) := LH (by
  show _ = hdCs (List.replicate L.length default)
  rw [hlen]
  clear hlen HP HLn HL HM hr hlc hB hB1
  induction B with
  | zero => rfl
  | succ n ih => rw [Nat.succ_mul, ← List.replicate_append_replicate (n := n * 3), List.replicate_succ' (n := n) (a := (default : Hd)), hdCs_append, ← ih]; rfl)
 clear hlen hr hv hvl hxb
 go_enter Tryz.func68, Tryz.ntmps68
 go_upto_region 1 with fail
 obtain ⟨q, hq⟩ : ∃ q, q = w.heap.size := ⟨_, rfl⟩
 rw [← hq] at HM ⊢
 generalize w.alloc _ = w1 at *
 have HQ := LH hq
 clear hq
 have HM1 : Hid (Mem w w1 [⟨q, 44, [.int .i64 (B : Int)], true⟩]) := LH (by simpa using HM.out)
 clear HM
 go_wp2_with (at_make; refine wpList_make_rows elHd w1.heap.size B (z := .int .i64 0) (by intro i hi; simp at hi; rcases i with _ | _ | _ | i <;> first | rfl | omega) (by omega) (by omega) (by omega) (by decide) (Nat.le_refl _) rfl rfl rfl rfl ?_; intro w2 hown hgrow; have HOw := LH hown; have HGr := LH hgrow; clear hown hgrow)
 have HM2 : Hid (Mem w w2 [⟨q, 44, [.int .i64 (B : Int)], true⟩, ⟨w1.heap.size, 107, hdCs (keepL L (xs.take 0)), false⟩]) := LH (by
  rw [List.take_zero, ← HRep.out]
  obtain ⟨g', cap', cur, hv', _, hg', _, _, _, ht'⟩ := HOw.out.2.resolve_left (fun ⟨h, _⟩ => by cases h)
  injection hv' with e1 e2 e3
  injection e1 with e1
  injection e1 with e1 _ _
  subst e1
  exact HM1.out.row (below_grown HGr.out (Nat.le_refl _)) ⟨cur, hg', cur.toList.drop (B * 3), by
   have : cur.toList.take (B * 3) = List.replicate (B * 3) (Value.int .i64 0) := ht'
   rw [← this, List.take_append_drop]⟩ (Nat.le_refl _))
 obtain ⟨g, hg⟩ : ∃ g, g = w1.heap.size := ⟨_, rfl⟩
 rw [← hg] at HM2 ⊢
 clear hg HOw HGr HM1
 go_loopw [19] (fun iv wr => ∃ k : Nat, k ≤ vl ∧ iv = .int .i64 (k : Int) ∧ Hid (Mem w wr [⟨q, 44, [.int .i64 (B : Int)], true⟩, ⟨g, 107, hdCs (keepL L (xs.take k)), false⟩])) (fun iv _ => vl - (intOf iv).toNat)
 case atStart => exact ⟨0, by omega, rfl, HM2⟩
 case round =>
  obtain ⟨k, hk, rfl, HMr⟩ := hrel
  by_cases hlt : k < vl
  case neg =>
   have hltd : decide ((k : Int) < (vl : Int)) = false := by simp; omega
   have hke : k = vl := by omega
   have HRow : Hid (RowAt wr g 107 (hdCs (keepL L xs))) := LH (by
    have := HMr.out.at 1 rfl
    rw [hke, ← HVl.out, List.take_length] at this
    exact this)
   have hgb := HMr.out.gbase 1 rfl
   have HGb := LH hgb
   clear hke hgb
   go_wp2_with fail
   exact HP.out _ _ _ HGb.out (Nat.le_refl _) HRow.out HMr.out.below
  have hlt' : (k : Int) < (vl : Int) := by omega
  obtain ⟨x, hx⟩ : ∃ x, xs[k]? = some x := ⟨_, List.getElem?_eq_getElem (by rw [HVl.out]; exact hlt)⟩
  obtain ⟨b1, o1, q1, _, hcx⟩ := (HV.out.below HMr.out.below (Nat.le_refl _)).at (i := k) (by rw [List.length_map, HVl.out]; exact hlt)
  have cx : wr.cell? ⟨b1, o1 + k, none⟩ = some (.int .i64 (x : Int)) := hcx k (vi x) (by rw [List.getElem?_map, hx]; rfl)
  have HTk : Hid (keepL L (xs.take (k + 1)) = keep1 L (keepL L (xs.take k)) x) := LH (by
   have h1 := (List.getElem?_eq_some_iff.1 hx).1
   rw [List.take_succ_eq_append_getElem h1, (List.getElem?_eq_some_iff.1 hx).2, keepL_snoc])
  have HXx := LH (HXb.out x (List.mem_of_getElem? hx))
  have c0 := HMr.out.cell 0 0 rfl rfl
  subst q1
  clear hcx hx
  by_cases hin : x < 512 ∨ 512 * B ≤ x
  ·have HSame : Hid (Mem w wr [⟨q, 44, [.int .i64 (B : Int)], true⟩, ⟨g, 107, hdCs (keepL L (xs.take (k + 1))), false⟩]) := LH (by
    rw [HTk.out]
    unfold keep1
    rw [if_pos (by rw [HLn.out]; exact hin)]
    exact HMr.out)
   have hbb : blockOf (B : Int) (x : Int) < 1 := by unfold blockOf; split <;> omega
   have HBk := LH (gblockOf_any B hB (x : Int) wr)
   generalize blockOf (B : Int) (x : Int) = bb at *
   clear hin
   go_wp2_with fail
   refine HBk.out.mono ?_
   rintro e w3 ⟨rfl, hb3⟩
   have HM3 := LH (HSame.out.later hb3)
   clear hb3 c0 cx
   go_wp2_with fail
   exact ⟨⟨k + 1, by omega, vint (by omega), HM3⟩, by simp [intOf]; omega⟩
  have h1 : 512 ≤ x := by omega
  have h2 : x < 512 * B := by omega
  have hbo : blockOf (B : Int) (x : Int) = ((x / 512 : Nat) : Int) := by unfold blockOf; rw [if_neg (by omega)]; omega
  have HBk := LH (gblockOf_any B hB (x : Int) wr)
  rw [hbo] at HBk
  have HK1 : Hid (keep1 L (keepL L (xs.take k)) x = splice (keepL L (xs.take k)) (x / 512) ((L.drop (x / 512)).take (keepN L (x / 512)))) := LH (by unfold keep1; rw [if_neg (by rw [HLn.out]; exact hin)])
  obtain ⟨b, hb⟩ : ∃ b, b = x / 512 := ⟨_, rfl⟩
  rw [← hb] at HBk HK1
  have hb1 : 1 ≤ b := by omega
  have hb2 : b < B := by omega
  clear hin hbo hb h1 h2
  have hfit := keepN_fits (L := L) (b := b) (by rw [HLn.out]; exact hb2)
  rw [HLn.out] at hfit
  have hkn : keepN L b = max 1 (wholeN L b) := rfl
  obtain ⟨m, hm⟩ : ∃ m, m = wholeN L b := ⟨_, rfl⟩
  obtain ⟨n, hn⟩ : ∃ n, n = keepN L b := ⟨_, rfl⟩
  rw [← hm, ← hn] at hkn
  rw [← hn] at hfit HK1
  go_wp2_with fail
  refine HBk.out.mono ?_
  rintro e w3 ⟨rfl, hb3⟩
  have HM3 := LH (HMr.out.later hb3)
  clear hb3 c0 cx HMr
  go_wp2_with fail
  refine (bwhole_any (some ⟨lg, 0, none⟩) B lc L HLn.out w3 ((HL.out.below HM3.out.below).cells) hB b hb2).mono ?_
  rintro e w4 ⟨rfl, hb4⟩
  have HM4 := LH (HM3.out.later hb4)
  rw [← hm]
  obtain ⟨okk, hok⟩ : ∃ o, o = decide (m ≠ 0) := ⟨_, rfl⟩
  rw [← hok]
  have HOk := LH hok
  clear hb4 hm hn HM3 hok
  go_upto_if 40 with fail
  go_cut [11] from 57 (fun nv wc => nv = .int .i64 (n : Int) ∧ wc = w4)
  case first =>
   cases okk with
   | false =>
    have hm0 : m = 0 := by have := HOk.out; simpa using this
    have hn1 : n = 1 := by omega
    subst hn1
    go_wp2_with fail
    go_meet
    exact ⟨rfl, rfl⟩
   | true =>
    have hm0 : ¬ m = 0 := by have := HOk.out; simpa using this
    have hn1 : n = m := by omega
    subst hn1
    go_wp2_with fail
    go_meet
    exact ⟨rfl, rfl⟩
  case rest =>
   obtain ⟨rfl, rfl⟩ := hcut
   have HKn : Hid (n = max 1 m) := LH hkn
   obtain ⟨hf1, hf2⟩ := hfit
   have hsum : (b : Int) + (n : Int) = ((b + n : Nat) : Int) := by omega
   obtain ⟨e9, he9⟩ : ∃ e, e = b + n := ⟨_, rfl⟩
   rw [← he9] at hsum hf2
   have hbe : b ≤ e9 := by omega
   have hBb : ¬ B = b := by omega
   have hLb : ¬ lc = b := by omega
   have HE9 : Hid (e9 - b = n) := LH (by omega)
   clear hkn he9
   go_upto_region 11 with fail
   refine wp_region_seg (C := fun w' => ∃ x : Later (wc), w' = x.val) [.fl [0, 1, 2, 3, 4, 5, 6, 7, 8, 9, 10, 11], .sq [12] false] (by kernel_rfl) (by kernel_rfl) (by intro c a d v w h; cases d <;> exact h) ?_
   simp only [segs, picks, List.getElem?_cons_succ, List.getElem?_cons_zero]
   have hC1 := later_drew (wc)
   have HAg : Hid ((⟨g, 0, none⟩ : Addr).add (b * 3) = ⟨g, b * 3, none⟩) := LH (by
    unfold Addr.add
    split
    ·exfalso; omega
    ·simp)
   have HAl : Hid ((⟨lg, 0, none⟩ : Addr).add (b * 3) = ⟨lg, b * 3, none⟩) := LH (by
    unfold Addr.add
    split
    ·exfalso; omega
    ·simp)
   refine wpSeg_fl hC1 ?_
   repeat (first
    | (refine wpQuiet_slice_mid elHd b e9 rfl rfl hbe hf2 (Nat.le_refl _) rfl rfl rfl rfl rfl ?_; rw [if_neg hBb, Option.map_some, HAg.out, HE9.out])
    | (refine wpQuiet_slice_mid elHd b e9 rfl rfl hbe hf2 hlc rfl rfl rfl rfl rfl ?_; rw [if_neg hLb, Option.map_some, HAl.out, HE9.out])
    | go_big_quiet_step (fail) | quiet_step (fail))
   refine wpQuiet_nil ?_
   have HM5 := LH (HM4.out.later (later_below hC1))
   generalize wc.drew = wd at *
   clear hC1 HM4
   have HSeg : Hid ((hdCs ((L.drop b).take n)).length = Nat.min n n * 3) := LH (by
    rw [hdCs_length, List.length_take, List.length_drop, HLn.out, show Nat.min n n = n from Nat.min_self n]
    omega)
   have HSrc : Hid (∀ j v, (hdCs ((L.drop b).take n))[j]? = some v → wd.cell? ⟨lg, b * 3 + j, none⟩ = some v) := LH (fun j v hj => by
    have hrow : RowAt wd lg 107 (hdCs L) := HL.out.below HM5.out.below
    refine hrow.cell ?_
    have hdt : hdCs L = hdCs (L.take b) ++ (hdCs ((L.drop b).take n) ++ hdCs ((L.drop b).drop n)) := by
     rw [← hdCs_append, List.take_append_drop, ← hdCs_append, List.take_append_drop]
    have hlt3 : (hdCs (L.take b)).length = b * 3 := by rw [hdCs_length, List.length_take, HLn.out]; omega
    rw [hdt, List.getElem?_append_right (by omega), hlt3, show b * 3 + j - b * 3 = j by omega, List.getElem?_append_left (List.getElem?_eq_some_iff.1 hj).1]
    exact hj)
   have HFit : Hid (b * 3 + (hdCs ((L.drop b).take n)).length ≤ (hdCs (keepL L (xs.take k))).length) := LH (by
    rw [hdCs_length, hdCs_length, keepL_len, HLn.out, List.length_take, List.length_drop, HLn.out]
    omega)
   refine wpSeg_last ?_
   go_wp2_with (refine wpList_copy_rows rfl rfl (Tryz.underlying22) (size := 3) (by kernel_rfl) rfl rfl (HM5.out.at 1 rfl) (hdCs ((L.drop b).take n)) HSeg.out HSrc.out HFit.out (hdCs_one _) ?_; intro w6 h6 ht6; have H6 := LH h6; have HT6 := LH ht6; clear h6 ht6)
   have HNew : Hid (Mem w w6 [⟨q, 44, [.int .i64 (B : Int)], true⟩, ⟨g, 107, hdCs (keepL L (xs.take (k + 1))), false⟩]) := LH (by
    have := HM5.out.upd 1 (y := ⟨g, 107, hdCs (keepL L (xs.take (k + 1))), false⟩) rfl rfl HT6.out (by
     rw [HTk.out, HK1.out, hdCs_splice]
     exact RowX.of H6.out)
    exact this)
   exact ⟨⟨k + 1, by omega, vint (by omega), HNew⟩, by simp [intOf]; omega⟩
end
end Go.Proofs.YtpohaahihdhleaaGreat
