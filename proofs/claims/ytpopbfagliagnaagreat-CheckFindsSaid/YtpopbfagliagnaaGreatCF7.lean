/- Parts of the proof, one behind the other: Yd, Ek, El, Em, Ye, Rs, Rt, Ru, Rv, Rw, Ua, Dl, Ub, Yo, Lp, Yp, Yq, Yr. -/
import Derived.Test.YtpopbfagliagnaaGreatCF6
import Derived.BigQuiet
import Derived.Deep.CutBlock
import Derived.ChangeKeysEq
import Derived.Laws.StructEq
import Derived.Deep.QuietTactic
set_option linter.unusedVariables false
namespace Go.Proofs.YtpopbfagliagnaaGreat
open Go.RowKit
section
variable {P : Program} {C : World → Prop} {ops : Array Oper} {rest : List Oper} {o : Oper} {a : Act} {Q : Act → Prop}
theorem wpQuiet_slice_from {x lo : Operand} {t e : TypeId} {z : Value} {size bytes : Nat} (E : Elem P t e z size bytes) {ad : Option Addr} {n cap : Nat} {k : IntKind} {L : Int} (l : Nat)
  (hL : L = (l : Int)) (hl : l ≤ n) (hn : n ≤ cap)
  (hgd : o.guard = none) (ho : o.op = .slice t x (some lo) none none) (hx : a.eval x = .slice ad n cap) (hlo : a.eval lo = .int k L)
  (hK : wpQuiet P ops C Q rest (a.put o.dst (.slice (if cap = l then ad else ad.map (·.add (l * size))) (n - l) (cap - l)))) :
  wpQuiet P ops C Q (o :: rest) a := by
 subst hL
 have hw : Region.wanted o (yielded ops a.tmps) = true := by simp [Region.wanted, hgd]
 unfold wpQuiet
 rw [if_pos hw]
 refine ⟨_, fun w hC => ?_, hK⟩
 have hr := run_slice_any (w := w) E ad n cap l n (some (.int k l)) none (by
  have : (0 : Int) ≤ (l : Int) ∧ (l : Int) ≤ (n : Int) := by omega
  simp [Instr.sliceBounds, Instr.sliceBound, asIntOf, hl])
 unfold Oper.quietAt
 simp only [execOp, ho, hx, hlo, Option.map_some, Option.map_none]
 simp [hr, Result.andThen, Oper.quietUpon]
end
theorem takeR_err {l : List Bool} {z : Int} (h : (takeR l z).2.2 ≠ 0) : (takeR l z).1 = l := by
 unfold takeR at h ⊢
 by_cases c : z < 1
 ·rw [if_pos c]
 ·rw [if_neg c] at h ⊢
  cases hp : pick z.toNat (runsOf l) with
  | none => rfl
  | some x => rw [hp] at h; exact absurd rfl h
theorem takeR_fit {l : List Bool} {z : Nat} (hz : 1 ≤ z) (h : (takeR l z).2.2 = 0) : ∃ a k : Nat, takeR l z = (setTo l a false z, (a : Int), 0) ∧ IsRun (fb l) a k ∧ z ≤ k ∧ a + z ≤ l.length := by
 cases hp : pick z (runsOf l) with
 | none => rw [takeR_none hz hp] at h; simp at h
 | some x =>
  obtain ⟨hr, hk⟩ := pick_run hp
  have := runEnds hr
  exact ⟨x.1, x.2, takeR_some hz hp, hr, hk, by omega⟩
def Bm.large (m : Bm) (n : Int) : BmR :=
 if n < 1 ∨ 256 ≤ n then ⟨m, 0, 1⟩ else
 if (takeR m.free n).2.2 ≠ 0 then ⟨⟨m.dev, m.list, (takeR m.free n).1⟩, 0, (takeR m.free n).2.2⟩ else
 if (putAll m.dev m.list ((takeR m.free n).2.1 + 1) ((hdRun n.toNat n.toNat).drop 1)).err ≠ 0 then
  ⟨⟨(putAll m.dev m.list ((takeR m.free n).2.1 + 1) ((hdRun n.toNat n.toNat).drop 1)).dev, (putAll m.dev m.list ((takeR m.free n).2.1 + 1) ((hdRun n.toNat n.toNat).drop 1)).list, (takeR m.free n).1⟩, 0,
   (putAll m.dev m.list ((takeR m.free n).2.1 + 1) ((hdRun n.toNat n.toNat).drop 1)).err⟩ else
 ⟨⟨(putAll (putAll m.dev m.list ((takeR m.free n).2.1 + 1) ((hdRun n.toNat n.toNat).drop 1)).dev (putAll m.dev m.list ((takeR m.free n).2.1 + 1) ((hdRun n.toNat n.toNat).drop 1)).list (takeR m.free n).2.1 [⟨2, 0, n⟩]).dev,
  (putAll (putAll m.dev m.list ((takeR m.free n).2.1 + 1) ((hdRun n.toNat n.toNat).drop 1)).dev (putAll m.dev m.list ((takeR m.free n).2.1 + 1) ((hdRun n.toNat n.toNat).drop 1)).list (takeR m.free n).2.1 [⟨2, 0, n⟩]).list, (takeR m.free n).1⟩,
  if (putAll (putAll m.dev m.list ((takeR m.free n).2.1 + 1) ((hdRun n.toNat n.toNat).drop 1)).dev (putAll m.dev m.list ((takeR m.free n).2.1 + 1) ((hdRun n.toNat n.toNat).drop 1)).list (takeR m.free n).2.1 [⟨2, 0, n⟩]).err = 0 then (takeR m.free n).2.1 else 0,
  (putAll (putAll m.dev m.list ((takeR m.free n).2.1 + 1) ((hdRun n.toNat n.toNat).drop 1)).dev (putAll m.dev m.list ((takeR m.free n).2.1 + 1) ((hdRun n.toNat n.toNat).drop 1)).list (takeR m.free n).2.1 [⟨2, 0, n⟩]).err⟩
theorem putAll_none (S : Dev) {L : List Hd} {b : Int} (h1 : 1 ≤ b) (h2 : b ≤ (L.length : Int)) : putAll S L b [] = ⟨S, L, 0⟩ := by
 unfold putAll
 rw [if_neg, if_pos (show ([] : List Hd).length = 0 from rfl)]
 rintro (h | h | h | h)
 ·omega
 ·omega
 ·simp at h; omega
 ·exact h (fun i hi => absurd hi (Nat.not_lt_zero _))
theorem putTo_inv {S : Dev} (h : S.inv) (L : List Hd) (b : Nat) (l : List Hd) : ∀ i, (putTo S L b l i).dev.inv
 | 0 => h
 | i + 1 => by
  have := putTo_inv h L b l i
  unfold putTo putStep
  split
  ·exact this
  ·exact Dev.store_inv this _ _ (encN_lt _ _ _ _)
theorem putAll_inv {S : Dev} (h : S.inv) (L : List Hd) (b : Int) (l : List Hd) : (putAll S L b l).dev.inv := by
 unfold putAll
 split
 ·exact h
 ·split
  ·exact h
  ·unfold putIn
   split
   ·exact putTo_inv h _ _ _ _
   ·exact Dev.persist_inv (putTo_inv h _ _ _ _) _ _
theorem putAll_len (S : Dev) (L : List Hd) (b : Int) (l : List Hd) : (putAll S L b l).list.length = L.length := by
 unfold putAll
 split
 ·rfl
 ·split
  ·rfl
  ·unfold putIn
   split
   ·exact putTo_len _ _ _ _ _
   ·exact putTo_len _ _ _ _ _
theorem putAll_ok {S : Dev} {N : Nat} (hw : S.inv) (h : S.ok N) (L : List Hd) (b : Int) (l : List Hd) : (putAll S L b l).dev.ok (N + l.length + 200000) := by
 unfold putAll
 split
 ·exact h.mono (by omega)
 ·split
  ·exact h.mono (by omega)
  ·unfold putIn
   have ho := putTo_ok h L b.toNat l l.length
   split
   ·exact ho.mono (by omega)
   ·exact Dev.persist_ok (putTo_inv hw L b.toNat l l.length).wf ho _ _
set_option maxHeartbeats 4000000 in
set_option maxRecDepth 20000 in
theorem blarge_any {w : World} {X : MF} {n B : Nat} {m : Bm} (h : ManAt w X n B m) (hB : B ≤ 1000) (hn : n < 1000000000000) {N : Nat} (hN : N ≤ 999000000) (ho : m.dev.ok N) (hi : m.dev.inv) (z : Int) :
  Calls Tryz.prog 290 #[.pointer (some ⟨X.m, 0, none⟩), .int .i64 z] w (BmDone w X (n + 1) B (m.large z)) := by
 generalize hr : m.large z = r
 generalize hP : BmDone w X (n + 1) B r = Post
 have HP := LH hP
 have HV := LH hr.symm
 have HA := LH h
 have HLB : Hid (m.list.length = B) := LH h.tab.len
 have HLF : Hid (m.free.length = B) := LH h.lenF
 clear h hP hr
 by_cases hz : z < 1 ∨ 256 ≤ z
 ·have HE : Hid (r = ⟨m, 0, 1⟩) := LH (by rw [HV.out]; unfold Bm.large; rw [if_pos hz])
  have hz' : z < 1 ∨ (1 ≤ z ∧ 256 ≤ z) := by omega
  clear hz
  rcases hz' with hz | ⟨hz1, hz⟩
  all_goals
   go_enter Tryz.func290, Tryz.ntmps290
   go_wp2_with fail
   rw [← HP.out, HE.out]
   exact ⟨rfl, HA.out.mono (by omega), Touch.refl _ _⟩
 obtain ⟨k, rfl⟩ := Int.eq_ofNat_of_zero_le (show 0 ≤ z by omega)
 have hk1 : 1 ≤ k := by omega
 have hk2 : k < 256 := by omega
 have q1 : decide ((k : Int) < 1) = false := by simp; omega
 have q2 : decide (256 ≤ (k : Int)) = false := by simp; omega
 have HV2 : Hid (r = if (takeR m.free k).2.2 ≠ 0 then ⟨⟨m.dev, m.list, (takeR m.free k).1⟩, 0, (takeR m.free k).2.2⟩ else
   (fun r1 : PutR => if r1.err ≠ 0 then ⟨⟨r1.dev, r1.list, (takeR m.free k).1⟩, 0, r1.err⟩ else
    (fun r2 : PutR => ⟨⟨r2.dev, r2.list, (takeR m.free k).1⟩, if r2.err = 0 then (takeR m.free k).2.1 else 0, r2.err⟩) (putAll r1.dev r1.list (takeR m.free k).2.1 [⟨2, 0, (k : Int)⟩]))
   (putAll m.dev m.list ((takeR m.free k).2.1 + 1) ((hdRun k k).drop 1))) := LH (by rw [HV.out]; unfold Bm.large; rw [if_neg hz]; rfl)
 have HFit := LH (takeR_fit (l := m.free) hk1)
 clear HV hz
 have c1 := HA.out.c1
 go_enter Tryz.func290, Tryz.ntmps290
 go_wp2_with fail
 refine (mtake_any HA.out hB hn k).mono ?_
 rintro e w2 ⟨rfl, ha2, ht2⟩
 generalize takeR m.free k = t at *
 obtain ⟨f2, b2, e2⟩ := t
 dsimp only at ha2 HV2 HFit ⊢
 have HA2 := LH ha2
 have HT2 := LH ht2
 clear ha2 ht2 c1
 by_cases he : e2 = 0
 case neg =>
  have HE : Hid (r = ⟨⟨m.dev, m.list, f2⟩, 0, e2⟩) := LH (by rw [HV2.out, if_pos he])
  have he' : (e2 != 0) = true := by simpa using he
  clear he
  go_wp2_with fail
  rw [← HP.out, HE.out]
  exact ⟨rfl, HA2.out, HT2.out⟩
 subst he
 obtain ⟨a, c, hta, _, _, hfit⟩ := HFit.out rfl
 obtain rfl : b2 = (a : Int) := congrArg (fun t => t.2.1) hta
 have hfit' : a + k ≤ B := by rw [← HLF.out]; exact hfit
 clear hta hfit HFit
 obtain ⟨r1, hr1⟩ : ∃ r1, r1 = putAll m.dev m.list ((a : Int) + 1) ((hdRun k k).drop 1) := ⟨_, rfl⟩
 rw [← hr1] at HV2
 have HR1 := LH hr1
 have HOk1 : Hid (r1.dev.ok (N + k + 200000)) := LH (by
  have := putAll_ok hi ho m.list ((a : Int) + 1) ((hdRun k k).drop 1)
  rw [← hr1] at this
  exact this.mono (by rw [List.length_drop, hdRun_len]; omega))
 have HV3 : Hid (r = if r1.err ≠ 0 then ⟨⟨r1.dev, r1.list, f2⟩, 0, r1.err⟩ else
   ⟨⟨(putAll r1.dev r1.list (a : Int) [⟨2, 0, (k : Int)⟩]).dev, (putAll r1.dev r1.list (a : Int) [⟨2, 0, (k : Int)⟩]).list, f2⟩, if (putAll r1.dev r1.list (a : Int) [⟨2, 0, (k : Int)⟩]).err = 0 then (a : Int) else 0, (putAll r1.dev r1.list (a : Int) [⟨2, 0, (k : Int)⟩]).err⟩) := LH (by rw [HV2.out, if_neg (by simp)])
 clear hr1 HV2
 go_wp2_with fail
 refine (brun_any k (by omega) _).mono ?_
 rintro e w3 ⟨v, rfl, ho3, hb3⟩
 have HA3 := LH (HA2.out.below hb3)
 have HT3 := LH (HT2.out.later hb3)
 obtain ⟨g, cc, rfl, hcc, _, hgb⟩ := owned_some ho3 (by omega)
 have HR3 := LH (owned_row ho3)
 have HGn : Hid (g ∉ X.hot) := LH (HA2.out.lt (by
  rcases ho3.2 with ⟨hv, _⟩ | ⟨g', _, _, hv, hb', _⟩
  ·cases hv
  ·cases hv; exact hb'))
 clear ho3 hb3 hgb HA2 HT2
 go_upto_if 32 with fail
 go_cut [] from 11 (fun wc => r1.err = 0 ∧ ManAt wc X (n + 1) B ⟨r1.dev, r1.list, f2⟩ ∧ Touch X.hot w wc ∧ RowAt wc g 103 (hdCs (hdRun k k)))
 case first =>
  by_cases hk : k = 1
  ·have q3 : decide (1 < (k : Int)) = false := by simp; omega
   have q3n : decide (1 < k) = false := by simp; omega
   have q3p : ¬ 1 < k := by omega
   have q3i : ¬ 1 < (k : Int) := by omega
   have HE : Hid (r1 = ⟨m.dev, m.list, 0⟩) := LH (by
    rw [HR1.out, List.drop_of_length_le (by rw [hdRun_len]; omega)]
    exact putAll_none _ (by omega) (by rw [HLB.out]; omega))
   clear hk
   go_wp2_with fail
   go_meet
   case rel => rw [HE.out]; exact ⟨rfl, HA3.out, HT3.out, HR3.out⟩
  ·have q3 : 1 < (k : Int) := by omega
   have q3n : 1 < k := by omega
   have c0 := HA3.out.c0
   go_upto_region 8 with fail
   have r0 := fun x => later_cell c0 x
   clear c0
   have hw1 : IntKind.i64.wrap ((a : Int) + 1) = (a : Int) + 1 := IntWalk.i64_in _ (by omega)
   refine wp_region_seg (C := fun w' => ∃ x : Later (w3), w' = x.val) [.fl [0, 1, 2, 3, 4, 5, 6, 7], .sq [8, 9] false] (by kernel_rfl) (by kernel_rfl) (by intro c a d v w h; cases d <;> exact h) ?_
   simp only [segs, picks, List.getElem?_cons_succ, List.getElem?_cons_zero]
   have hC1 := later_drew w3
   refine wpSeg_fl hC1 ?_
   repeat (first | (refine wpQuiet_slice_from elHd (ad := some ⟨g, 0, none⟩) (n := k) (cap := cc) 1 rfl (by omega) hcc rfl rfl rfl rfl ?_) | go_big_quiet_step (fail) | quiet_step (fail))
   refine wpQuiet_nil ?_
   have HCs : Hid (Cells w3.drew (if cc = 1 then some ⟨g, 0, none⟩ else (some (⟨g, 0, none⟩ : Addr)).map (·.add (1 * 3))) (hdCs ((hdRun k k).drop 1))) := LH (by
    have h1 := (Cells.below HR3.out.cells (later_below hC1) (Nat.le_refl _)).shift (1 * 3) (cc = 1) (fun h => by omega)
    have h2 : (hdCs (hdRun k k)).drop (1 * 3) = hdCs ((hdRun k k).drop 1) := by
     have e : hdRun k k = (hdRun k k).take 1 ++ (hdRun k k).drop 1 := (List.take_append_drop _ _).symm
     have hl : (hdCs ((hdRun k k).take 1)).length = 1 * 3 := by rw [hdCs_length, List.length_take, hdRun_len, Nat.min_eq_left (by omega)]
     conv => lhs; rw [e]
     rw [hdCs_append, ← hl, List.drop_left]
    rw [h2] at h1
    exact h1)
   have HAd : Hid (∀ b o s, (if cc = 1 then some (⟨g, 0, none⟩ : Addr) else (some (⟨g, 0, none⟩ : Addr)).map (·.add (1 * 3))) = some ⟨b, o, s⟩ → b = g) := LH (by
    intro b o s h
    split at h
    ·cases h; rfl
    ·simp only [Option.map_some, add_none] at h; cases h; rfl)
   generalize (if cc = 1 then some (⟨g, 0, none⟩ : Addr) else (some (⟨g, 0, none⟩ : Addr)).map (·.add (1 * 3))) = ad at *
   refine wpSeg_last ?_
   go_wp2_with fail
   refine (mput_any (HA3.out.below (later_below hC1)) hB (by omega) ho ad (k - 1) (cc - 1) ((hdRun k k).drop 1) (by rw [List.length_drop, hdRun_len]) HCs.out (fun _ b o s e => by rw [HAd.out b o s e]; exact HGn.out) (by omega) ((a : Int) + 1)).mono ?_
   rintro e w4 ⟨rfl, ha4, ht4⟩
   dsimp only at ha4 ⊢
   rw [← HR1.out] at ha4 ⊢
   have HA4 := LH ha4
   have HT4 := LH ((HT3.out.later (later_below hC1)).trans ht4)
   have HR4 := LH ((HR3.out.keep ((later_below hC1).block g HR3.out.lt)).keep (ht4.block g (Nat.lt_of_lt_of_le HR3.out.lt (later_below hC1).size) HGn.out))
   clear ha4 ht4 hC1 HCs HAd r0
   obtain ⟨e1, he1⟩ : ∃ e1, e1 = r1.err := ⟨_, rfl⟩
   rw [← he1]
   by_cases hz : e1 = 0
   ·subst hz
    have HE1 := LH he1
    clear he1
    go_wp2_with fail
    go_meet
    case rel => exact ⟨HE1.out.symm, HA4.out, HT4.out, HR4.out⟩
   ·have hz' : (e1 != 0) = true := by simpa using hz
    have HE : Hid (r = ⟨⟨r1.dev, r1.list, f2⟩, 0, e1⟩) := LH (by rw [HV3.out, if_pos (by rw [← he1]; exact hz), ← he1])
    clear he1 hz
    go_wp2_with fail
    rw [← HP.out, HE.out]
    exact ⟨rfl, HA4.out, HT4.out⟩
 case rest =>
  obtain ⟨he1, ha4, ht4, hr4⟩ := hcut
  have HV4 : Hid (r = ⟨⟨(putAll r1.dev r1.list (a : Int) [⟨2, 0, (k : Int)⟩]).dev, (putAll r1.dev r1.list (a : Int) [⟨2, 0, (k : Int)⟩]).list, f2⟩, if (putAll r1.dev r1.list (a : Int) [⟨2, 0, (k : Int)⟩]).err = 0 then (a : Int) else 0, (putAll r1.dev r1.list (a : Int) [⟨2, 0, (k : Int)⟩]).err⟩) := LH (by rw [HV3.out, if_neg (by rw [he1]; simp)])
  have HA4 := LH ha4
  have HT4 := LH ht4
  have hg0 : (hdRun k k).getD 0 default = ⟨2, 0, (k : Int)⟩ := by rw [hdRun_getD k k 0 hk1, if_pos rfl]
  have hg := hdCs_at (hdRun k k) 0 (by rw [hdRun_len]; omega)
  rw [hg0] at hg
  have d0 : wc.cell? ⟨g, 0, none⟩ = some (.int .i64 2) := hr4.cell (hg 0 _ rfl)
  have d1 : wc.cell? ⟨g, 1, none⟩ = some (.int .i64 0) := hr4.cell (hg 1 _ rfl)
  have d2 : wc.cell? ⟨g, 2, none⟩ = some (.int .i64 (k : Int)) := hr4.cell (hg 2 _ rfl)
  have c0 := HA4.out.c0
  clear he1 ha4 ht4 hr4 hg0 hg HV3 HA3 HT3 HR3
  go_upto_region 11 with fail
  have r0 := fun x => later_cell d0 x
  have r1' := fun x => later_cell d1 x
  have r2 := fun x => later_cell d2 x
  have r3 := fun x => later_cell c0 x
  clear d0 d1 d2 c0
  have hk0 : 0 < (k : Int) := by omega
  refine wp_region_seg (C := fun w' => ∃ x : Later (wc), w' = x.val) [.fl [0, 1, 2, 3, 4, 5, 6, 7], .sq [8] true, .sq [9, 10] false] (by kernel_rfl) (by kernel_rfl) (by intro c a d v w h; cases d <;> exact h) ?_
  simp only [segs, picks, List.getElem?_cons_succ, List.getElem?_cons_zero]
  have hC1 := later_drew (wc)
  refine wpSeg_fl hC1 ?_
  repeat (first | go_big_quiet_step (fail) | quiet_step (fail))
  refine wpQuiet_nil ?_
  clear r0 r1' r2 r3
  refine wpSeg_sq (fun K hK => ?_)
  go_wp2_with fail
  have hbn := below_alloc wc.drew (.cells #[.int .i64 2, .int .i64 0, .int .i64 (k : Int)] 103)
  have hC2 := later_step hC1 hbn
  have HC2 : Hid (Cells (wc.drew.alloc (.cells #[.int .i64 2, .int .i64 0, .int .i64 (k : Int)] 103)) (some ⟨wc.drew.heap.size, 0, none⟩) (hdCs [⟨2, 0, (k : Int)⟩])) := LH (by
   rw [hdCs_single]
   exact (RowAt.cells ⟨_, heap_alloc_new _ _, [], rfl⟩))
  clear hbn
  go_wp2_with fail
  refine hK _ _ (fun _ => hC2) ?_
  clear hK K
  refine wpSeg_last ?_
  go_wp2_with fail
  refine (mput_any (HA4.out.below (later_below hC2)) hB (N := N + k + 200000) (by omega) HOk1.out _ 1 1 [⟨2, 0, (k : Int)⟩] rfl HC2.out (fun _ b o s e hm => ?_) (by omega) (a : Int)).mono ?_
  ·cases e
   exact HA4.out.lt (by simp) hm
  rintro e w5 ⟨rfl, ha5, ht5⟩
  dsimp only at ha5 ⊢
  generalize putAll r1.dev r1.list (a : Int) [⟨2, 0, (k : Int)⟩] = pr at *
  have HA5 := LH ha5
  have HT5 := LH ((HT4.out.later (later_below hC2)).trans ht5)
  clear ha5 ht5 hC1 hC2
  by_cases hz : pr.err = 0
  ·have HE : Hid (r = ⟨⟨pr.dev, pr.list, f2⟩, (a : Int), 0⟩) := LH (by rw [HV4.out, if_pos hz, hz])
   rw [hz]
   go_wp2_with fail
   rw [← HP.out, HE.out]
   exact ⟨rfl, HA5.out, HT5.out⟩
  ·have HE : Hid (r = ⟨⟨pr.dev, pr.list, f2⟩, 0, pr.err⟩) := LH (by rw [HV4.out, if_neg hz])
   have hz' : (pr.err != 0) = true := by simpa using hz
   generalize pr.err = pe at *
   clear hz
   go_wp2_with fail
   rw [← HP.out, HE.out]
   exact ⟨rfl, HA5.out, HT5.out⟩
end Go.Proofs.YtpopbfagliagnaaGreat
namespace Go.Proofs.YtpopbfagliagnaaGreat
open Go.RowKit Go.Maps
section
variable {P : Program} {C : World → Prop} {ops : Array Oper} {rest : List Oper} {o : Oper} {a : Act} {Q : Act → Prop}
theorem wpQuiet_slice_to {x hi : Operand} {t e : TypeId} {z : Value} {size bytes : Nat} (E : Elem P t e z size bytes) {ad : Option Addr} {n cap : Nat} {k : IntKind} {H : Int} (h : Nat)
  (hH : H = (h : Int)) (hh : h ≤ n) (hn : n ≤ cap)
  (hgd : o.guard = none) (ho : o.op = .slice t x none (some hi) none) (hx : a.eval x = .slice ad n cap) (hhi : a.eval hi = .int k H)
  (hK : wpQuiet P ops C Q rest (a.put o.dst (.slice ad h cap))) :
  wpQuiet P ops C Q (o :: rest) a := by
 subst hH
 have hw : Region.wanted o (yielded ops a.tmps) = true := by simp [Region.wanted, hgd]
 unfold wpQuiet
 rw [if_pos hw]
 refine ⟨_, fun w hC => ?_, hK⟩
 have hr := run_slice_any (w := w) E ad n cap 0 h none (some (.int k h)) (by
  have : (0 : Int) ≤ (h : Int) ∧ (h : Int) ≤ (cap : Int) := by omega
  simp [Instr.sliceBounds, Instr.sliceBound, asIntOf, Nat.le_trans hh hn])
 unfold Oper.quietAt
 simp only [execOp, ho, hx, hhi, Option.map_some, Option.map_none]
 have e : (if cap = 0 then ad else ad.map (·.add (0 * size))) = ad := by
  split
  ·rfl
  ·cases ad <;> simp [Addr.add]
 simp only [e, Nat.sub_zero] at hr
 simp [hr, Result.andThen, Oper.quietUpon]
end
theorem OwnI.cells2 {w : World} {v : Value} {xs : List Nat} (h : OwnI w v xs) : ∃ a c, v = .slice a xs.length c ∧ Cells w a (xs.map vi) ∧ xs.length ≤ c ∧ c ≤ maxLen ∧ (a = none → c = 0) := by
 obtain ⟨a, c, e, h1, h2, h3⟩ := h.cells
 refine ⟨a, c, e, h1, h2, h3, fun ha => ?_⟩
 subst ha
 rcases h with h | ⟨p, h, _⟩
 ·rcases h.2 with ⟨h, _⟩ | ⟨g, cap, cur, h, _⟩
  ·rw [h] at e
   exact (congrArg (fun v => match v with | .slice _ _ c => c | _ => 0) e).symm
  ·rw [h] at e; cases e
 ·rw [h] at e; cases e
theorem step_c {w wd w1 : World} {f mb n n' : Nat} {R : List Nat} {V : Nat → Value} {S : FL} {m k : Nat} {v : Value} {o : Option Value} {xs : List Nat} (hi : FreeIn w f mb n V S) (hm : m < 4) (hk : k < 32)
  (h1 : f ∈ R) (h2 : mb ∈ R) (h3 : ∀ b ∈ R, b < w.heap.size) {M : Lit → Option Value} (hM : ∀ m k : Nat, m < 4 → k < 32 → (M (pairKey m k)).getD (.slice none 0 0) = V (slotI m k))
  (hd : Below w.heap.size w wd) (hw : VMap Tryz.prog 336 w1 mb n' (putL M (pairKey m k) o)) (ho : o.getD (.slice none 0 0) = v) (hg : wd.grownBy w1 (some mb)) (hv : OwnI wd v xs) (hrow : ∀ b, rowOf v = some b → rowOf (V (slotI m k)) = some b ∨ w.heap.size ≤ b) :
  Step1 w w1 f mb n' V S (S.setC m k xs) (slotI m k) v xs := by
 have hfl := h3 f h1
 have hsl : slotI m k < 160 := by unfold slotI; omega
 have hb : ∀ b, b < w.heap.size → b ≠ mb → w1.heap[b]? = w.heap[b]? := fun b hb hn => (hg.block b (Nat.lt_of_lt_of_le hb hd.size) (fun e => hn (by simpa using e))).trans (hd.block b hb)
 have hne : ∀ b, rowOf v = some b → b ≠ mb := fun b hr e => by
  subst e
  rcases hrow b hr with c | c
  ·exact (hi.neF _ hsl).2 c
  ·have := h3 b h2; omega
 refine ⟨?_, ⟨_, hw, fun m' k' hm' hk' => ?_⟩, hv.keep (fun b hb' => hg.block b (hv.lt b hb') (fun e => hne b hb' (by simpa using e))), hrow, fun b hbl h5 h6 h7 => hb b hbl h6, Nat.le_trans hd.size hg.size, fun j hj => ?_⟩
 ·rw [hb f hfl hi.ne, hi.head]
  have : (List.range 32).map (fun j => if j = slotI m k then v else V j) = (List.range 32).map V := List.map_congr_left (fun j hj => by
   have := List.mem_range.1 hj
   rw [if_neg (by unfold slotI; omega)])
  rw [this]
 ·by_cases e : m' = m ∧ k' = k
  ·obtain ⟨rfl, rfl⟩ := e
   rw [putL_same, if_pos rfl, ho]
  ·rw [putL_other _ (fun c => e (by
    have := key_inj (wf_small m' (by omega)) (wf_small k' (by omega)) (wf_small m (by omega)) (wf_small k (by omega)) c
    omega)), hM m' k' hm' hk', if_neg (by unfold slotI; omega)]
 ·unfold FL.at
  simp only [FL.setC_g, FL.setC_c]
  by_cases e : j < 32
  ·rw [if_pos e, if_pos e, if_neg (by unfold slotI; omega)]
  ·rw [if_neg e, if_neg e]
   by_cases e2 : (j - 32) / 32 = m ∧ (j - 32) % 32 = k
   ·rw [if_pos e2, if_pos (by unfold slotI; omega)]
   ·rw [if_neg e2, if_neg (by unfold slotI; omega)]
theorem FL.setC_same (S : FL) (m k : Nat) : S.setC m k (S.c m k) = S := by
 refine FL.ext' (fun j => rfl) (fun i j => ?_)
 rw [FL.setC_c]
 split
 ·rename_i e; obtain ⟨rfl, rfl⟩ := e; rfl
 ·rfl
theorem FL.taken_none {S : FL} {m k : Nat} (h : S.cell m k = none) : S.taken m k = S := by
 unfold FL.taken
 rw [FL.fill_none h, (FL.cell_none h).2]
 have := S.setC_same m k
 rw [(FL.cell_none h).2] at this
 exact this
def TookI (w : World) (f mb n : Nat) (R : List Nat) (S : FL) (m k : Nat) : Ending → World → Prop := fun e w' =>
 e = .returned (.tuple #[.int .i64 ((S.cell m k).getD 0 : Nat), .int .i64 (if (S.cell m k).isSome then 0 else 4)]) ∧ FreeGo w w' f mb n R (S.taken m k)
theorem fright_any (m k : Nat) (hm : m < 4) (hk : k < 32) (w : World) : Calls Tryz.prog 250 #[.int .i64 (m : Int), .int .i64 (k : Int)] w (Same1 (.bool true) w) := by
 go_enter Tryz.func250, Tryz.ntmps250
 go_wp2_with fail
 refine (cright_any _ _).mono ?_
 rintro e w1 ⟨rfl, rfl⟩
 rw [decide_eq_true (show (0 : Int) ≤ (k : Int) ∧ (k : Int) < 32 by omega)]
 go_wp2_with fail
 go_ret
 exact ⟨rfl, rfl⟩
theorem FreeIn.below {w w' : World} {f mb n : Nat} {R : List Nat} {V : Nat → Value} {S : FL} (hi : FreeIn w f mb n V S)
  (h1 : f ∈ R) (h2 : mb ∈ R) (h3 : ∀ b ∈ R, b < w.heap.size) (h4 : ∀ j, j < 160 → ∀ b, rowOf (V j) = some b → b ∈ R) (hb : Below w.heap.size w w') : FreeIn w' f mb n V S := by
 have hk : ∀ k ∈ R, w'.heap[k]? = w.heap[k]? := fun k hk => hb.block k (h3 k hk)
 obtain ⟨M, hm, hv⟩ := hi.map
 exact ⟨(hk f h1).trans hi.head, ⟨M, hm.block (hk mb h2), hv⟩, fun i hi' => (hi.rows i hi').keep fun b hb => hk b (h4 i hi' b hb), hi.apart, hi.neF, hi.ne⟩
theorem index_int (b off l c i : Nat) (h : i < l) (W : World) : (Instr.indexAt 47 (.slice (some ⟨b, off, none⟩) l c) (.int .i64 (i : Int))).run Tryz.prog W = .ok (.pointer (some ⟨b, off + i, none⟩)) W := by
 have h2 : (sizeOf (Tryz.prog.elem 47)).run Tryz.prog W = .ok 1 W := by
  have e : Tryz.prog.elem 47 = 3 := by kernel_rfl
  rw [e]; exact Tryz.sizeOf3 W
 rw [run_indexAt_slice _ _ _ _ _ _ _ (by kernel_rfl), if_pos (by omega), h2]
 simp [Result.andThen, add_none]
theorem FreeGo.own {w w0 w' : World} {f mb n q : Nat} {R : List Nat} {S : FL} (h : FreeGo w0 w' f mb n R S) (_hq : q = w.heap.size) (hb : Below w.heap.size w w0) : FreeGo w w' f mb n R S := by
 obtain ⟨R', h1, h2, h3⟩ := h
 exact ⟨R', h1, (Touch.ofBelow hb).trans h2, fun b hb' => (h3 b hb').imp id (fun c => Nat.le_trans hb.size c)⟩
set_option maxHeartbeats 4000000 in
set_option maxRecDepth 20000 in
theorem ftake_any {w : World} {f mb n : Nat} {R : List Nat} {S : FL} (h : FreeAt w f mb n R S) (hL : S.upto 1000000) (hn : n < 1000000000000) (m k : Nat) (hm4 : m < 4) (hk : k < 32) :
  Calls Tryz.prog 291 #[vfree f, .int .i64 (m : Int), .int .i64 (k : Int)] w (TookI w f mb (n + 2) R S m k) := by
 have HMem := LH (Mem.one w #[.int .i64 (m : Int), .int .i64 (k : Int)] 336)
 have HF0 := LH (h.below HMem.out.below)
 have HRlt := LH h.mem
 have HUp := LH hL
 have HPost : Hid (∀ w', (TookI w f mb (n + 2) R S m k (.returned (.tuple #[.int .i64 ((S.cell m k).getD 0 : Nat), .int .i64 (if (S.cell m k).isSome then 0 else 4)])) w' ↔ FreeGo w w' f mb (n + 2) R (S.taken m k))) := LH (fun w' => ⟨fun h => h.2, fun h => ⟨rfl, h⟩⟩)
 generalize TookI w f mb (n + 2) R S m k = Post at *
 clear h hL
 go_enter Tryz.func291, Tryz.ntmps291
 go_wp2_with fail
 refine (fright_any m k hm4 hk _).mono ?_
 rintro e w1 ⟨rfl, rfl⟩
 go_upto_region 4 with fail
 have HW0 := LH (below_alloc w (Obj.cells #[.int .i64 (m : Int), .int .i64 (k : Int)] 336))
 generalize hw0 : w.alloc _ = w0 at *
 obtain ⟨q, hq⟩ : ∃ q, q = w.heap.size := ⟨_, rfl⟩
 rw [← hq] at HMem HRlt ⊢
 have HQ := LH hq
 clear hq hw0
 have d0 := HMem.out.cell 0 0 rfl rfl
 have d1 := HMem.out.cell 0 1 rfl rfl
 have HQl := LH (HMem.out.glt 0 rfl)
 obtain ⟨V, hi, h1, h2, h3, h4⟩ := HF0.out
 have HI := LH hi
 have HR1 := LH h1
 have HR2 := LH h2
 have HR3 := LH h3
 have HR4 := LH h4
 have c32 := hi.m
 clear hi h1 h2 h3 h4
 have r0 := fun x => later_cell d0 x
 have r1 := fun x => later_cell d1 x
 have r2 := fun x => later_cell c32 x
 obtain ⟨ac, cc, ec, hcc, hcl, _, hcn⟩ := (HI.out.rows (slotI m k) (by unfold slotI; omega)).cells2
 rw [S.at_c m hk] at ec hcc hcl
 have HCc := LH hcc
 have HEc := LH ec
 clear hcc d0 d1 c32 ec
 obtain ⟨lc, hlc⟩ : ∃ lc, lc = (S.c m k).length := ⟨_, rfl⟩
 rw [← hlc] at HEc hcl
 have HLc := LH hlc
 clear hlc
 have hkey := key_slot (m : Int) (k : Int) (wf_small m (by omega)) (wf_small k (by omega))
 refine wp_region_seg (C := fun w' => ∃ x : Later (w0), w' = x.val) [.fl [0, 1, 2, 3, 4], .sq [5, 6, 7] false] (by kernel_rfl) (by kernel_rfl) (by intro c a d v w h; cases d <;> exact h) ?_
 simp only [segs, picks, List.getElem?_cons_succ, List.getElem?_cons_zero]
 have hC1 := later_drew (w0)
 refine wpSeg_fl hC1 ?_
 repeat (first | go_big_quiet_step (fail) | quiet_step (fail))
 refine wpQuiet_nil ?_
 have HD1 : Hid (Below w0.heap.size w0 w0.drew) := LH (later_below hC1)
 generalize w0.drew = wd at *
 have HId := LH (HI.out.below HR1.out HR2.out HR3.out HR4.out HD1.out)
 obtain ⟨M, hm, hv⟩ := HId.out.map
 have HM := LH hm
 have HVi := LH ((hv m k hm4 hk).trans HEc.out)
 clear hm hv
 refine wpSeg_last ?_
 go_upto_if 26 with (refine wpList_vlook rfl _ _ 332 rfl 336 47 keyed_slot Tryz.underlying332 _ (zero_ints _) mb n M rfl HM.out _ _ rfl hkey ?_; rw [HVi.out])
 go_cut [9, 10] from 27 (fun _ _ wc => Hid (FreeGo w0 wc f mb (n + 1) R (S.fill m k)))
 case first =>
  by_cases hz : lc = 0
  case neg =>
   have hz' : ((lc : Int) == 0) = false := by simpa using hz
   have HGo : Hid (FreeGo w0 wd f mb (n + 1) R (S.fill m k)) := LH (by
    have : S.fill m k = S := by unfold FL.fill; rw [if_neg]; intro e; have := HLc.out; rw [e] at this; exact hz (by simpa using this)
    rw [this]
    exact ((FreeGo.refl HF0.out).later HD1.out).mono (by omega))
   clear hz
   go_wp2_with fail
   go_meet
   case rel => exact HGo
  case pos =>
  subst hz
  have HC0 : Hid (S.c m k = []) := LH (List.length_eq_zero_iff.1 HLc.out.symm)
  obtain ⟨ag, cg, eg, hcg, hgl, _, hgn⟩ := (HId.out.rows k (by omega)).cells2
  rw [S.at_g hk] at eg hcg hgl
  have HOg : Hid (OwnI wd (V k) (S.g k)) := LH (by have := HId.out.rows k (by omega); rwa [S.at_g hk] at this)
  have HEg := LH eg
  have HCg := LH hcg
  have ck := HId.out.g hk
  rw [eg] at ck
  have HLg : Hid ((S.g k).length ≤ 1000000) := LH (by have := HUp.out k (by omega); rwa [S.at_g hk] at this)
  obtain ⟨lg, hlg⟩ : ∃ lg, lg = (S.g k).length := ⟨_, rfl⟩
  rw [← hlg] at ck HLg hgl HEg
  have HLge := LH hlg
  have hlgm := HLg.out
  clear hcg eg hlg
  obtain ⟨mn, hmn⟩ : ∃ mn, mn = min lg 4 := ⟨_, rfl⟩
  have hmn1 : min (lg : Int) 4 = (mn : Int) := by omega
  have hmn2 : (if (4 : Int) < (lg : Int) then 4 else (lg : Int)) = (mn : Int) := by split <;> omega
  have hmn3 : mn ≤ lg := by omega
  have HMn := LH hmn
  clear hmn
  obtain ⟨fr, hfr⟩ : ∃ fr : Nat, fr = lg - mn := ⟨_, rfl⟩
  have hfr1 : (lg : Int) - (mn : Int) = (fr : Int) := by omega
  have hfr2 : fr ≤ lg := by omega
  have HFr := LH hfr
  clear hfr
  go_upto_region 7 with fail
  have HMd := LH (HMem.out.later HD1.out)
  have d0 := HMd.out.cell 0 0 rfl rfl
  have d1 := HMd.out.cell 0 1 rfl rfl
  have c32 := HId.out.m
  have r0 := fun x => later_cell d0 x
  have r1 := fun x => later_cell d1 x
  have r2 := fun x => later_cell c32 x
  have r3 := fun x => later_cell ck x
  clear d0 d1 c32
  refine wp_region_seg (C := fun w' => ∃ x : Later (wd), w' = x.val) [.fl [0, 1, 2, 3, 4, 5, 6, 7, 8, 9, 10, 11, 12], .sq [13] true, .sq [14] false] (by kernel_rfl) (by kernel_rfl) (by intro c a d v w h; cases d <;> exact h) ?_
  simp only [segs, picks, List.getElem?_cons_succ, List.getElem?_cons_zero]
  have hC2 := later_drew (wd)
  refine wpSeg_fl hC2 ?_
  repeat (first | (refine wpQuiet_slice_from el_int (ad := ag) (n := lg) (cap := cg) fr rfl hfr2 hgl rfl rfl rfl rfl ?_) | go_big_quiet_step (fail) | quiet_step (fail))
  refine wpQuiet_nil ?_
  clear r0 r1 r2 r3
  obtain ⟨sa, hsa⟩ : ∃ sa, sa = (if cg = fr then ag else ag.map (·.add (fr * 1))) := ⟨_, rfl⟩
  rw [← hsa]
  obtain ⟨sl, hsl⟩ : ∃ sl, sl = lg - fr := ⟨_, rfl⟩
  rw [← hsl]
  obtain ⟨sc, hsc⟩ : ∃ sc, sc = cg - fr := ⟨_, rfl⟩
  rw [← hsc]
  have HD2 : Hid (Below wd.heap.size wd wd.drew) := LH (later_below hC2)
  have HCl : Hid (Calls Tryz.prog 221 #[.slice sa sl sc] wd.drew (NewI wd.drew ((S.g k).drop fr))) := LH (by
   refine cloneI_any _ _ _ _ (by rw [List.length_drop, ← HLge.out, hsl]) ?_ (by rw [List.length_drop, ← HLge.out]; omega) (fun h => ?_)
   ·rw [List.map_drop, hsa, Nat.mul_one]
    exact (HCg.out.below HD2.out (Nat.le_refl _)).shift fr _ (fun e => by rw [List.length_map, ← HLge.out]; omega)
   ·by_cases e : cg = fr
    ·omega
    ·rw [hsa, if_neg e] at h
     cases ag with
     | none => have := hgn rfl; omega
     | some d => cases h)
  generalize wd.drew = we at *
  clear hsa hsl hsc
  refine wpSeg_sq (fun K hK => ?_)
  go_wp2_with fail
  refine HCl.out.mono ?_
  rintro e w3 ⟨v3, rfl, ho3, hr3, hb3⟩
  have HO3 := LH ho3
  have HR3' := LH hr3
  have HB3 : Hid (Below wd.heap.size wd w3) := LH (HD2.out.trans (hb3.mono HD2.out.size))
  have HWe := LH HD2.out.size
  have hC3 := later_step hC2 hb3
  clear ho3 hr3 hb3
  go_wp2_with fail
  refine hK _ _ (fun _ => hC3) ?_
  clear hK K
  have HI3 := LH (HI.out.below HR1.out HR2.out HR3.out HR4.out (HD1.out.trans (HB3.out.mono HD1.out.size)))
  obtain ⟨M3, hm3, hv3⟩ := HI3.out.map
  have HM3 := LH hm3
  have HV3 := LH hv3
  have HNm : Hid (n < maxLen) := LH (by unfold maxLen; omega)
  clear hm3 hv3
  refine wpSeg_last ?_
  go_wp2_with (refine wpList_vstore rfl _ _ _ 332 rfl 336 47 keyed_slot Tryz.underlying332 mb n M3 rfl HM3.out HNm.out _ _ _ rfl rfl hkey ?_; intro w4 hm4' hg4; have HM4 := LH hm4'; have HG4 := LH hg4; clear hm4' hg4)
  have HFV0 : Hid (FreeV w0 f mb n V R S) := LH ⟨HI.out, HR1.out, HR2.out, HR3.out, HR4.out⟩
  have HB03 : Hid (Below w0.heap.size w0 w3) := LH (HD1.out.trans (HB3.out.mono HD1.out.size))
  have hr03 : ∀ b, rowOf v3 = some b → rowOf (V (slotI m k)) = some b ∨ w0.heap.size ≤ b := fun b hb => .inr (Nat.le_trans (Nat.le_trans HD1.out.size HWe.out) (HR3'.out b hb))
  have hst1 := step_c (o := some v3) HI.out hm4 hk HR1.out HR2.out HR3.out HV3.out HB03.out HM4.out rfl HG4.out HO3.out hr03
  have hos1 : w4.os = w0.os ∧ w4.tape = w0.tape ∧ w4.output = w0.output := ⟨HG4.out.os.trans HB03.out.os, HG4.out.tape.trans HB03.out.tape, HG4.out.output.trans HB03.out.output⟩
  have hsl : slotI m k < 160 := by unfold slotI; omega
  have HFV4 := LH (HFV0.out.step hsl hst1)
  have HT4 := LH (hst1.touch HFV0.out hsl hos1)
  have HVk : Hid ((if k = slotI m k then v3 else V k) = .slice ag lg cg) := LH (by rw [if_neg (by unfold slotI; omega)]; exact HEg.out)
  have HOk : Hid (OwnI w4 (.slice ag lg cg) (S.g k)) := LH (by
   have := HFV4.out.inn.rows k (by omega)
   rw [FL.at_g _ hk] at this
   rw [← HVk.out]; exact this)
  have ck4 : w4.cell? ⟨f, k, none⟩ = some (.slice ag lg cg) := (HFV4.out.inn.g hk).trans (congrArg some HVk.out)
  clear hst1 hos1 hr03 hC3 hC2 ck
  go_upto_region 8 with fail
  have r0 := fun x => later_cell ck4 x
  clear ck4
  refine wp_region_seg (C := fun w' => ∃ x : Later (w4), w' = x.val) [.fl [0, 1, 2, 3, 4, 5, 6, 7, 8, 9, 10, 11], .sq [12, 13] false] (by kernel_rfl) (by kernel_rfl) (by intro c a d v w h; cases d <;> exact h) ?_
  simp only [segs, picks, List.getElem?_cons_succ, List.getElem?_cons_zero]
  have hC5 := later_drew (w4)
  refine wpSeg_fl hC5 ?_
  repeat (first | (refine wpQuiet_slice_to el_int (ad := ag) (n := lg) (cap := cg) fr rfl hfr2 hgl rfl rfl rfl rfl ?_) | go_big_quiet_step (fail) | quiet_step (fail))
  refine wpQuiet_nil ?_
  clear r0
  have HD5 : Hid (Below w4.heap.size w4 w4.drew) := LH (later_below hC5)
  have HF5 : Hid (w4.drew.heap[f]? = w4.heap[f]?) := LH (HD5.out.block f (HFV4.out.lt f HFV4.out.f))
  have hst2 := step_g HFV4.out.inn hk HFV4.out.f HFV4.out.mb HFV4.out.lt HD5.out (grown_self _ _) ((HOk.out.keep (fun b hb => HD5.out.block b (HOk.out.lt b hb))).cutN HLge.out hfr2) (fun b hb => .inl (by
   rw [rowOf_cut ag fr lg cg] at hb
   exact (congrArg rowOf HVk.out).trans hb))
  have HGo : Hid (FreeGo w0 (w4.drew.setCell ⟨f, k, none⟩ (.slice ag fr cg)) f mb (n + 1) R (S.fill m k)) := LH (by
   have e : S.fill m k = (S.setC m k ((S.g k).drop fr)).setG k ((S.g k).take fr) := by
    unfold FL.fill
    rw [if_pos HC0.out, ← HLge.out, ← HMn.out, ← HFr.out]
    rfl
   rw [e]
   exact FreeGo.more HT4.out.1 HT4.out.2 HFV4.out (by omega) hst2 ⟨HD5.out.os, HD5.out.tape, HD5.out.output⟩)
  have fr5 : w4.drew.frozen? ⟨f, k, none⟩ = false := frozen_of_row _ _ _ _ _ (HF5.out.trans HFV4.out.inn.head)
  have ck5 : w4.drew.cell? ⟨f, k, none⟩ = some (.slice ag lg cg) := (cell_of_row _ _ k _ _ _ (HF5.out.trans HFV4.out.inn.head)).trans ((HFV4.out.inn.lt hk).trans (congrArg some HVk.out))
  clear hst2
  refine wpSeg_last ?_
  go_wp2_with fail
  go_meet
  case rel => exact HGo
 case rest =>
  have HGo := hcut
  have HRow0 := LH (HMem.out.at 0 rfl)
  clear hcut HMem HEc HCc HLc hcl hcn
  obtain ⟨T, hT⟩ : ∃ T, T = S.fill m k := ⟨_, rfl⟩
  have HCell : Hid (S.cell m k = (T.c m k).getLast? ∧ S.taken m k = T.setC m k (T.c m k).dropLast) := LH (by subst hT; exact ⟨rfl, rfl⟩)
  rw [← hT] at HGo
  have HTu : Hid ((T.c m k).length ≤ 1000000) := LH (by
   rw [hT]
   unfold FL.fill
   have h1 := HUp.out k (by omega)
   have h2 := HUp.out (slotI m k) (by unfold slotI; omega)
   rw [S.at_g hk] at h1
   rw [S.at_c m hk] at h2
   split
   ·rw [FL.setC_c, if_pos ⟨rfl, rfl⟩, List.length_drop]; omega
   ·exact h2)
  clear hT
  obtain ⟨R1, hfa, ht1, hr1⟩ := HGo.out
  obtain ⟨V1, hfv⟩ := hfa.v
  have HFV := LH hfv
  have HT1 := LH ht1
  have HR1' := LH hr1
  have HRow : Hid (RowAt wc q 336 [.int .i64 (m : Int), .int .i64 (k : Int)]) := LH (HRow0.out.keep (ht1.block q HQl.out (fun hm => Nat.lt_irrefl _ (HRlt.out q hm))))
  clear hfa hfv ht1 hr1 HGo
  have d0 := HRow.out.cell (i := 0) rfl
  have d1 := HRow.out.cell (i := 1) rfl
  have c32 := HFV.out.inn.m
  have r0 := fun x => later_cell d0 x
  have r1 := fun x => later_cell d1 x
  have r2 := fun x => later_cell c32 x
  obtain ⟨ao, co, eo, hco, hol, _, _⟩ := (HFV.out.inn.rows (slotI m k) (by unfold slotI; omega)).cells2
  rw [T.at_c m hk] at eo hco hol
  have HCo := LH hco
  have HEo := LH eo
  clear hco d0 d1 c32 eo
  obtain ⟨lo, hlo⟩ : ∃ lo, lo = (T.c m k).length := ⟨_, rfl⟩
  rw [← hlo] at HEo hol HTu
  have HLo := LH hlo
  have hlom := HTu.out
  clear hlo
  go_upto_region 9 with fail
  refine wp_region_seg (C := fun w' => ∃ x : Later (wc), w' = x.val) [.fl [0, 1, 2, 3, 4], .sq [5, 6] false] (by kernel_rfl) (by kernel_rfl) (by intro c a d v w h; cases d <;> exact h) ?_
  simp only [segs, picks, List.getElem?_cons_succ, List.getElem?_cons_zero]
  have hC1 := later_drew (wc)
  refine wpSeg_fl hC1 ?_
  repeat (first | go_big_quiet_step (fail) | quiet_step (fail))
  refine wpQuiet_nil ?_
  have HD6 : Hid (Below wc.heap.size wc wc.drew) := LH (later_below hC1)
  generalize wc.drew = wd at *
  have HFd := LH (HFV.out.below HD6.out)
  obtain ⟨M, hm, hv⟩ := HFd.out.inn.map
  have HM := LH hm
  have HV := LH hv
  have HVi := LH ((hv m k hm4 hk).trans HEo.out)
  clear hm hv
  by_cases hz : lo = 0
  ·subst hz
   have HE : Hid (S.cell m k = none ∧ S.taken m k = T) := LH (by
    have h0 : T.c m k = [] := List.length_eq_zero_iff.1 HLo.out.symm
    refine ⟨by rw [HCell.out.1, h0]; rfl, ?_⟩
    rw [HCell.out.2]
    have := T.setC_same m k
    rw [h0] at this ⊢
    exact this)
   clear hol hlom
   refine wpSeg_last ?_
   go_wp2_with (refine wpList_vlook rfl _ _ 332 rfl 336 47 keyed_slot Tryz.underlying332 _ (zero_ints _) mb (n + 1) M rfl HM.out _ _ rfl hkey ?_; rw [HVi.out])
   have hp := (HPost.out wd).2 (by
    rw [HE.out.2]
    refine FreeGo.own ?_ HQ.out HW0.out
    exact ⟨R1, (HFd.out.at).mono (by omega), HT1.out.later HD6.out, HR1'.out⟩)
   rw [HE.out.1] at hp
   exact hp
  obtain ⟨lm, hlm⟩ : ∃ lm, lo = lm + 1 := ⟨lo - 1, by omega⟩
  have hz1 : (lo : Int) - 1 = (lm : Int) := by omega
  have hz2 : ((lo : Int) == 0) = false := by simp; omega
  have hlm1 : lm ≤ lo := by omega
  have hlt1 : lm < lo := by omega
  have HLm := LH hlm
  clear hlm
  clear hz
  obtain ⟨x, hx⟩ : ∃ x, (T.c m k)[lm]? = some x := ⟨_, List.getElem?_eq_getElem (by have := HLo.out; omega)⟩
  have HX := LH hx
  clear hx
  refine wpSeg_last ?_
  go_wp2_with (refine wpList_vlook rfl _ _ 332 rfl 336 47 keyed_slot Tryz.underlying332 _ (zero_ints _) mb (n + 1) M rfl HM.out _ _ rfl hkey ?_; rw [HVi.out])
  go_upto_region 12 with fail
  clear r0 r1 r2
  have HRowd := LH (HRow.out.keep (HD6.out.block q HRow.out.lt))
  have d0 := HRowd.out.cell (i := 0) rfl
  have d1 := HRowd.out.cell (i := 1) rfl
  have c32 := HFd.out.inn.m
  have r0 := fun x => later_cell d0 x
  have r1 := fun x => later_cell d1 x
  have r2 := fun x => later_cell c32 x
  clear d0 d1 c32
  refine wp_region_seg (C := fun w' => ∃ x : Later (wd), w' = x.val) [.fl [0, 1, 2, 3, 4, 5, 6, 7, 8, 9], .sq [10] false] (by kernel_rfl) (by kernel_rfl) (by intro c a d v w h; cases d <;> exact h) ?_
  simp only [segs, picks, List.getElem?_cons_succ, List.getElem?_cons_zero]
  have hC7 := later_drew (wd)
  refine wpSeg_fl hC7 ?_
  repeat (first | (refine wpQuiet_slice_to el_int (ad := ao) (n := lo) (cap := co) lm hz1 hlm1 hol rfl rfl rfl rfl ?_) | go_big_quiet_step (fail) | quiet_step (fail))
  refine wpQuiet_nil ?_
  clear r0 r1 r2
  have HD7 : Hid (Below wd.heap.size wd wd.drew) := LH (later_below hC7)
  generalize wd.drew = we at *
  have HFe := LH (HFd.out.below HD7.out)
  obtain ⟨M2, hm2, hv2⟩ := HFe.out.inn.map
  have HM2 := LH hm2
  have HV2 := LH hv2
  have HNm : Hid (n + 1 < maxLen) := LH (by unfold maxLen; omega)
  clear hm2 hv2
  refine wpSeg_last ?_
  go_wp2_with (refine wpList_vstore rfl _ _ _ 332 rfl 336 47 keyed_slot Tryz.underlying332 mb (n + 1) M2 rfl HM2.out HNm.out _ _ _ rfl rfl hkey ?_; intro w8 hm8 hg8; have HM8 := LH hm8; have HG8 := LH hg8; clear hm8 hg8)
  have hsl : slotI m k < 160 := by unfold slotI; omega
  have HOe : Hid (OwnI we (.slice ao lo co) (T.c m k)) := LH (by
   have := HFe.out.inn.rows (slotI m k) hsl
   rw [T.at_c m hk, HEo.out] at this
   exact this)
  have HO8 : Hid (OwnI w8 (.slice ao lo co) (T.c m k)) := LH (HOe.out.keep (fun b hb => HG8.out.block b (HOe.out.lt b hb) (fun e => by
   have h1 := (HFe.out.inn.neF (slotI m k) hsl).2
   rw [HEo.out] at h1
   exact h1 (by rw [hb]; exact e))))
  have hcx : ∃ b off, ao = some ⟨b, off, none⟩ ∧ w8.cell? ⟨b, off + lm, none⟩ = some (.int .i64 (x : Int)) := by
   obtain ⟨a', c', e', hc', _⟩ := HO8.out.cells
   injection e' with e1 e2 e3
   subst e1
   rcases hc' with h | ⟨b, off, e, h⟩
   ·exfalso
    have := congrArg List.length h
    rw [List.length_map, ← HLo.out] at this
    simp at this; omega
   ·exact ⟨b, off, e, h lm _ (by rw [List.getElem?_map, HX.out]; rfl)⟩
  obtain ⟨b, off, rfl, hcx⟩ := hcx
  have hst := step_c (o := some (.slice (some ⟨b, off, none⟩) lm co)) HFe.out.inn hm4 hk HFe.out.f HFe.out.mb HFe.out.lt HV2.out (Below.refl _ _) HM8.out rfl HG8.out (HOe.out.cutN HLo.out hlm1) (fun b' hb => .inl (by
   rw [HEo.out]
   exact (rowOf_cut _ _ _ _).trans hb))
  have hgo := FreeGo.more (((HT1.out.later HD6.out).later HD7.out)) HR1'.out HFe.out hsl hst ⟨HG8.out.os, HG8.out.tape, HG8.out.output⟩
  have HFin : Hid (S.cell m k = some x ∧ FreeGo w w8 f mb (n + 2) R (S.taken m k)) := LH (by
   refine ⟨by rw [HCell.out.1, List.getLast?_eq_getElem?, ← HLo.out, HLm.out]; exact HX.out, ?_⟩
   rw [HCell.out.2, show (T.c m k).dropLast = (T.c m k).take lm by rw [List.dropLast_eq_take, ← HLo.out, HLm.out]; rfl]
   exact hgo.own HQ.out HW0.out)
  clear hst hgo
  have hix := index_int b off lo co lm hlt1
  go_wp2_with fail
  rw [hix]
  go_wp2_with fail
  have hp := (HPost.out w8).2 HFin.out.2
  rw [HFin.out.1] at hp
  exact hp
def FL.drainTo (S : FL) (m i : Nat) : FL := ⟨fun k => if k < i then S.g k ++ S.c m k else S.g k, fun j k => if j = m ∧ k < i then [] else S.c j k⟩
theorem FL.drainTo_zero (S : FL) (m : Nat) : S.drainTo m 0 = S := FL.ext' (fun k => by unfold FL.drainTo; simp) (fun j k => by unfold FL.drainTo; simp)
theorem FL.drainTo_succ (S : FL) (m i : Nat) : S.drainTo m (i + 1) = ((S.drainTo m i).setG i ((S.drainTo m i).g i ++ (S.drainTo m i).c m i)).setC m i [] := by
 refine FL.ext' (fun k => ?_) (fun j k => ?_)
 ·rw [FL.setC_g, FL.setG_g]
  unfold FL.drainTo
  dsimp only
  by_cases e : k = i
  ·subst e; simp
  ·rw [if_neg e]
   by_cases h : k < i
   ·rw [if_pos h, if_pos (by omega)]
   ·rw [if_neg h, if_neg (by omega)]
 ·rw [FL.setC_c]
  unfold FL.drainTo
  dsimp only
  by_cases e : j = m ∧ k = i
  ·rw [if_pos e, if_pos (by omega)]
  ·rw [if_neg e, FL.setG_c]
   dsimp only
   by_cases h : j = m ∧ k < i
   ·rw [if_pos h, if_pos (by omega)]
   ·rw [if_neg h, if_neg (by omega)]
theorem FL.drainTo_lens {S : FL} {N : Nat} (h : S.upto N) {m i : Nat} (hm : m < 4) (hi : i < 32) : ((S.drainTo m i).g i).length ≤ N ∧ ((S.drainTo m i).c m i).length ≤ N := by
 have h1 := h i (by omega)
 have h2 := h (slotI m i) (by unfold slotI; omega)
 rw [S.at_g hi] at h1
 rw [S.at_c m hi] at h2
 unfold FL.drainTo
 simp
 exact ⟨h1, h2⟩
set_option maxHeartbeats 4000000 in
set_option maxRecDepth 20000 in
theorem fdrain_any {w : World} {f mb n : Nat} {R : List Nat} {S : FL} (h : FreeAt w f mb n R S) (hL : S.upto 1000000) (hn : n < 1000000000000) (m : Nat) (hm4 : m < 4) :
  Calls Tryz.prog 337 #[vfree f, .int .i64 (m : Int)] w fun e w' => e = .returned (.tuple #[]) ∧ FreeGo w w' f mb n R (S.drain m) := by
 have HF := LH h
 have HUp := LH hL
 clear h hL
 go_enter Tryz.func337, Tryz.ntmps337
 go_wp2_with fail
 go_loopw [6] (fun iv wr => ∃ i : Nat, i ≤ 32 ∧ iv = .int .i64 (i : Int) ∧ Hid (FreeGo w wr f mb n R (S.drainTo m i))) (fun iv _ => 32 - (intOf iv).toNat)
 case atStart => exact ⟨0, by omega, rfl, LH (by rw [FL.drainTo_zero]; exact FreeGo.refl HF.out)⟩
 case round =>
  obtain ⟨i, hi32, rfl, HGo⟩ := hrel
  by_cases hlt : i < 32
  case neg =>
   obtain rfl : i = 32 := by omega
   go_wp2_with fail
   go_end0
   exact ⟨rfl, HGo.out⟩
  obtain ⟨R1, hfa, ht1, hr1⟩ := HGo.out
  obtain ⟨V, hfv⟩ := hfa.v
  have HT1 := LH ht1
  have HR1 := LH hr1
  have HMem := LH (Mem.one wr #[.int .i64 (m : Int), .int .i64 (i : Int)] 336)
  have HFV := LH (hfv.below HMem.out.below)
  have HFVr := LH hfv.lt
  have HW0 := LH HMem.out.below
  have HStep : Hid (S.drainTo m (i + 1) = ((S.drainTo m i).setG i ((S.drainTo m i).g i ++ (S.drainTo m i).c m i)).setC m i []) := LH (FL.drainTo_succ S m i)
  have HLens := LH (FL.drainTo_lens HUp.out hm4 hlt)
  generalize S.drainTo m i = T at *
  clear hfa ht1 hr1
  go_upto_region 4 with fail
  obtain ⟨q, hq⟩ : ∃ q, q = wr.heap.size := ⟨_, rfl⟩
  have hqf : q ∉ (rowOf (V i)).toList := fun hm => by
   have h1 := hfv.lt q (hfv.rows i (by omega) q (by simpa using hm))
   rw [hq] at h1
   exact Nat.lt_irrefl _ h1
  clear hfv
  rw [← hq] at HMem ⊢
  have HQ := LH hq
  clear hq
  generalize wr.alloc _ = w0 at *
  have hfn : f ∉ (rowOf (V i)).toList := fun hm => (HFV.out.inn.neF i (by omega)).1 (by simpa using hm)
  have d0 := HMem.out.cell 0 0 rfl rfl
  have d1 := HMem.out.cell 0 1 rfl rfl
  obtain ⟨ac, cc, ec, hcc, hcl, _, hcn⟩ := (HFV.out.inn.rows (slotI m i) (by unfold slotI; omega)).cells2
  rw [T.at_c m hlt] at ec hcc hcl
  have HEc := LH ec
  have HCc := LH hcc
  have hkey := key_slot (m : Int) (i : Int) (wf_small m (by omega)) (wf_small i (by omega))
  have r0 := fun x => near_cell (L := (rowOf (V i)).toList) d0 hqf x
  have r1 := fun x => near_cell (L := (rowOf (V i)).toList) d1 hqf x
  have r2 := fun x => near_cell (L := (rowOf (V i)).toList) HFV.out.inn.m hfn x
  have r3 := fun x => near_cell (L := (rowOf (V i)).toList) (HFV.out.inn.g hlt) hfn x
  have HTn : Hid (Touch (rowOf (V i)).toList w0 w0.drew) := LH (Touch.ofBelow (later_below (later_drew w0)))
  have HD1 : Hid (Below w0.heap.size w0 w0.drew) := LH (later_below (later_drew w0))
  have hC1 := near_of HTn.out
  clear hcc ec hqf hfn d0 d1
  obtain ⟨lc, hlc⟩ : ∃ lc, lc = (T.c m i).length := ⟨_, rfl⟩
  rw [← hlc] at HEc hcl
  have HLc := LH hlc
  clear hlc
  refine wp_region_seg (C := fun w' => ∃ x : Near (rowOf (V i)).toList w0, w' = x.val) [.fl [0, 1, 2, 3, 4, 5, 6, 7, 8, 9, 10, 11, 12, 15, 16], .sq [13] true, .sq [14] true, .sq [17, 18] false] (by kernel_rfl) (by kernel_rfl) (by intro c a d v w h; cases d <;> exact h) ?_
  simp only [segs, picks, List.getElem?_cons_succ, List.getElem?_cons_zero]
  refine wpSeg_fl hC1 ?_
  repeat (first | go_big_quiet_step (fail) | quiet_step (fail))
  refine wpQuiet_nil ?_
  clear r0 r1 r2 r3
  generalize w0.drew = wd at *
  have HFd := LH (HFV.out.below HD1.out)
  obtain ⟨M, hm, hv⟩ := HFd.out.inn.map
  have HM := LH hm
  have HVi := LH ((hv m i hm4 hlt).trans HEc.out)
  clear hm hv
  refine wpSeg_sq (fun K hK => ?_)
  go_wp2_with (refine wpList_vlook rfl _ _ 332 rfl 336 47 keyed_slot Tryz.underlying332 _ (zero_ints _) mb n M rfl HM.out _ _ rfl hkey ?_; rw [HVi.out])
  go_wp2_with fail
  refine hK _ _ (fun _ => hC1) ?_
  clear hK K
  have HOd : Hid (OwnI wd (V i) (T.g i)) := LH (by
   have := HFd.out.inn.rows i (by omega)
   rwa [T.at_g hlt] at this)
  have HCd : Hid (Cells wd ac ((T.c m i).map vi)) := LH (HCc.out.below HD1.out (Nat.le_refl _))
  have HN1 : Hid ((T.g i).length + lc ≤ 1000000000000) := LH (by have := HLens.out; have := HLc.out; omega)
  refine wpSeg_sq (fun K hK => ?_)
  go_wp2_with (refine wpList_append_ownI (m := lc) HOd.out HCd.out HLc.out.symm HN1.out rfl rfl rfl rfl ?_; intro v' w1 ho hg hr; have HO1 := LH ho; have HG1 := LH hg; have HR := LH hr; clear ho hg hr)
  have HTn1 : Hid (Touch (rowOf (V i)).toList w0 w1) := LH (HTn.out.trans (grown_touchO HG1.out))
  have hC3 := near_of HTn1.out
  go_wp2_with fail
  refine hK _ _ (fun _ => hC3) ?_
  clear hK K
  have hst := step_g HFV.out.inn hlt HFV.out.f HFV.out.mb HFV.out.lt HD1.out HG1.out HO1.out (fun b hb => by
   rcases HR.out b hb with c | c
   ·exact .inl c
   ·exact .inr (by rw [c]; exact HD1.out.size))
  have hos : (w1.setCell ⟨f, i, none⟩ v').os = w0.os ∧ (w1.setCell ⟨f, i, none⟩ v').tape = w0.tape ∧ (w1.setCell ⟨f, i, none⟩ v').output = w0.output := ⟨HG1.out.os.trans HD1.out.os, HG1.out.tape.trans HD1.out.tape, HG1.out.output.trans HD1.out.output⟩
  have HFV2 := LH (HFV.out.step (by omega) hst)
  have HT2 := LH (hst.touch HFV.out (by omega) hos)
  have HF1 : Hid (w1.heap[f]? = some (.cells ((List.range 32).map V ++ [Value.map (some mb)]).toArray 334 (0, 0))) := LH (by
   have := (HG1.out.block f (Nat.lt_of_lt_of_le (HFV.out.lt f HFV.out.f) HD1.out.size) (fun e => (HFV.out.inn.neF i (by omega)).1 e.symm)).trans (HD1.out.block f (HFV.out.lt f HFV.out.f))
   exact this.trans HFV.out.inn.head)
  have fr : w1.frozen? ⟨f, i, none⟩ = false := frozen_of_row _ _ _ _ _ HF1.out
  have ck1 : w1.cell? ⟨f, i, none⟩ = some (V i) := (cell_of_row _ _ i _ _ _ HF1.out).trans (HFV.out.inn.lt hlt)
  have HRow2 : Hid (RowAt (w1.setCell ⟨f, i, none⟩ v') q 336 [.int .i64 (m : Int), .int .i64 (i : Int)]) := LH ((HMem.out.at 0 rfl).keep (HT2.out.1.block q (HMem.out.glt 0 rfl) (fun hm => by
   have h1 := HFVr.out q hm
   rw [HQ.out] at h1
   exact Nat.lt_irrefl _ h1)))
  obtain ⟨a', c', e', _⟩ := HO1.out.cells
  obtain ⟨l', hl'⟩ : ∃ l', l' = (T.g i ++ T.c m i).length := ⟨_, rfl⟩
  rw [← hl'] at e'
  subst e'
  clear hst hl' hos
  refine wpSeg_last ?_
  go_wp2_with fail
  generalize w1.setCell _ _ = w2 at *
  have hsl : slotI m i < 160 := by unfold slotI; omega
  go_upto_region 5 with fail
  have d0 := HRow2.out.cell (i := 0) rfl
  have d1 := HRow2.out.cell (i := 1) rfl
  have c32 := HFV2.out.inn.m
  have r0 := fun x => later_cell d0 x
  have r1 := fun x => later_cell d1 x
  have r2 := fun x => later_cell c32 x
  clear d0 d1 c32 hC1 hC3
  refine wp_region_seg (C := fun w' => ∃ x : Later (w2), w' = x.val) [.fl [0, 1, 2, 3, 4], .sq [5] false] (by kernel_rfl) (by kernel_rfl) (by intro c a d v w h; cases d <;> exact h) ?_
  simp only [segs, picks, List.getElem?_cons_succ, List.getElem?_cons_zero]
  have hC5 := later_drew (w2)
  refine wpSeg_fl hC5 ?_
  repeat (first | go_big_quiet_step (fail) | quiet_step (fail))
  refine wpQuiet_nil ?_
  clear r0 r1 r2
  have HD5 : Hid (Below w2.heap.size w2 w2.drew) := LH (later_below hC5)
  generalize w2.drew = w3 at *
  have HFV3 := LH (HFV2.out.below HD5.out)
  obtain ⟨M3, hm3, hv3⟩ := HFV3.out.inn.map
  have HM3 := LH hm3
  have HV3 := LH hv3
  clear hm3 hv3
  refine wpSeg_last ?_
  go_wp2_with (refine wpList_vdelete rfl _ _ 332 336 rfl 47 keyed_slot Tryz.underlying332 mb n M3 rfl HM3.out _ _ rfl hkey ?_; intro w4 hm4' hg4; have HM4 := LH hm4'; have HG4 := LH hg4; clear hm4' hg4)
  have hst := step_c (o := none) HFV3.out.inn hm4 hlt HFV3.out.f HFV3.out.mb HFV3.out.lt HV3.out (Below.refl _ _) HM4.out rfl HG4.out (OwnI.nil _) (fun b hb => by cases hb)
  have HNext : Hid (FreeGo w w4 f mb n R (S.drainTo m (i + 1))) := LH (by
   have e : S.drainTo m (i + 1) = (T.setG i (T.g i ++ T.c m i)).setC m i [] := HStep.out
   rw [e]
   have h1 := FreeGo.more (HT2.out.1.later HD5.out) HT2.out.2 HFV3.out hsl hst ⟨HG4.out.os, HG4.out.tape, HG4.out.output⟩
   exact FreeGo.trans (HT1.out.later HW0.out) (fun b hb => HR1.out b hb) (h1))
  clear hst
  go_wp2_with fail
  go_roundw
  case rel => exact ⟨i + 1, by omega, vint (by omega), HNext⟩
  case measure => simp [intOf]; omega
end Go.Proofs.YtpopbfagliagnaaGreat
namespace Go.Proofs.YtpopbfagliagnaaGreat
open Go.RowKit
def relN (h : Hd) : Int := if h.k = 1 then 1 else h.l
def Bm.release (m : Bm) (b : Int) : BmR :=
 if (hdGet m.list b).k ≠ 1 ∧ (hdGet m.list b).k ≠ 2 then ⟨m, 0, 42⟩ else
 (fun r1 : PutR => if r1.err ≠ 0 then ⟨⟨r1.dev, r1.list, m.free⟩, 0, r1.err⟩ else
  (fun r2 : PutR => if r2.err ≠ 0 then ⟨⟨r2.dev, r2.list, m.free⟩, 0, r2.err⟩ else ⟨⟨r2.dev, r2.list, (giveR m.free b (relN (hdGet m.list b))).1⟩, 0, (giveR m.free b (relN (hdGet m.list b))).2⟩)
   (putAll r1.dev r1.list (b + 1) (List.replicate (relN (hdGet m.list b) - 1).toNat ⟨0, 0, 0⟩)))
  (putAll m.dev m.list b [⟨0, 0, 0⟩])
def BmDone1 (w : World) (X : MF) (n B : Nat) (r : BmR) : Ending → World → Prop := fun e w' => e = .returned (.int .i64 r.err) ∧ ManAt w' X n B r.bm ∧ Touch X.hot w w'
theorem hdGet_in {l : List Hd} {b : Int} (h : (hdGet l b).k ≠ 0) : 1 ≤ b ∧ b < l.length := by
 unfold hdGet at h
 by_cases c : b < 1 ∨ (l.length : Int) ≤ b
 ·rw [if_pos c] at h; exact absurd rfl h
 ·omega
theorem hdCs_zeros (n : Nat) : hdCs (List.replicate n ⟨0, 0, 0⟩) = List.replicate (n * 3) (.int .i64 0) := by
 induction n with
 | zero => rfl
 | succ n ih =>
  rw [List.replicate_succ, show (⟨0, 0, 0⟩ : Hd) :: List.replicate n ⟨0, 0, 0⟩ = [⟨0, 0, 0⟩] ++ List.replicate n ⟨0, 0, 0⟩ from rfl, hdCs_append, ih, show (n + 1) * 3 = 3 + n * 3 by omega, ← List.replicate_append_replicate]
  rfl
set_option maxHeartbeats 4000000 in
set_option maxRecDepth 20000 in
theorem brelease_any {w : World} {X : MF} {n B : Nat} {m : Bm} (h : ManAt w X n B m) (hB : B ≤ 1000) (hn : n < 1000000000000) {N : Nat} (hN : N ≤ 999000000) (ho : m.dev.ok N) (hi : m.dev.inv) (hl : ∀ i, (m.list.getD i default).l ≤ 100000) (b : Int) :
  Calls Tryz.prog 168 #[.pointer (some ⟨X.m, 0, none⟩), .int .i64 b] w (BmDone1 w X (n + 1) B (m.release b)) := by
 generalize hr : m.release b = r
 generalize hP : BmDone1 w X (n + 1) B r = Post
 have HP := LH hP
 have HA := LH h
 have HLB : Hid (m.list.length = B) := LH h.tab.len
 have HLF : Hid (m.free.length = B) := LH h.lenF
 have HV : Hid (r = if (hdGet m.list b).k ≠ 1 ∧ (hdGet m.list b).k ≠ 2 then ⟨m, 0, 42⟩ else
  (fun r1 : PutR => if r1.err ≠ 0 then ⟨⟨r1.dev, r1.list, m.free⟩, 0, r1.err⟩ else
  (fun r2 : PutR => if r2.err ≠ 0 then ⟨⟨r2.dev, r2.list, m.free⟩, 0, r2.err⟩ else ⟨⟨r2.dev, r2.list, (giveR m.free b (relN (hdGet m.list b))).1⟩, 0, (giveR m.free b (relN (hdGet m.list b))).2⟩)
   (putAll r1.dev r1.list (b + 1) (List.replicate (relN (hdGet m.list b) - 1).toNat ⟨0, 0, 0⟩)))
  (putAll m.dev m.list b [⟨0, 0, 0⟩])) := LH (by rw [← hr]; rfl)
 have HIn := LH (hdGet_in (l := m.list) (b := b))
 have HZ : Hid ((hdGet m.list b).l ≤ 100000) := LH (by
  unfold hdGet
  split
  ·simp
  ·exact hl _)
 have c0 := h.c0
 have HTg := LH (fun W (h : ManAt W X n B m) => tget_any (h.tab.at (fun e => (MF.notHot (MF.apart h.nd).t).1 e)) b (by rw [h.tab.len]; exact hB))
 clear h hP hr
 obtain ⟨k, c, z, he⟩ : ∃ k c z, hdGet m.list b = ⟨k, c, z⟩ := ⟨_, _, _, rfl⟩
 rw [he] at HV HIn HZ HTg
 unfold Hd.val at HTg
 dsimp only at HV HIn HZ HTg
 clear he
 go_enter Tryz.func168, Tryz.ntmps168
 go_wp2_with fail
 refine (HTg.out _ HA.out).mono ?_
 rintro e w1 ⟨rfl, hb1⟩
 have HA1 := LH (HA.out.below hb1)
 have HT1 := LH (Touch.ofBelow (L := X.hot) hb1)
 clear hb1 c0 HTg HA
 have HM := LH (Mem.one w1 #[.int .i64 k, .int .i64 c, .int .i64 z] 103)
 have HA2 := LH (HA1.out.below HM.out.below)
 have HT2 := LH (HT1.out.later HM.out.below)
 clear HA1 HT1
 go_upto_region 2 with fail
 obtain ⟨q, hq⟩ : ∃ q, q = w1.heap.size := ⟨_, rfl⟩
 rw [← hq] at HM ⊢
 generalize w1.alloc _ = w2 at *
 clear hq
 have d0 := HM.out.cell 0 0 rfl rfl
 have d2 := HM.out.cell 0 2 rfl rfl
 by_cases hk : k ≠ 1 ∧ k ≠ 2
 ·have HE : Hid (r = ⟨m, 0, 42⟩) := LH (by rw [HV.out, if_pos hk])
  have q1 : (k == 1) = false := by simpa using hk.1
  have q2 : (k == 2) = false := by simpa using hk.2
  clear hk
  go_wp2_with fail
  rw [← HP.out, HE.out]
  exact ⟨rfl, HA2.out.mono (by omega), HT2.out⟩
 have hb := HIn.out (by omega)
 rw [HLB.out] at hb
 obtain ⟨b, rfl⟩ := Int.eq_ofNat_of_zero_le (show 0 ≤ b by omega)
 obtain ⟨z', hz'⟩ : ∃ z', z' = relN ⟨k, c, z⟩ := ⟨_, rfl⟩
 have hzk : (k = 1 ∧ z' = 1) ∨ (k = 2 ∧ z' = z) := by
  rw [hz']; unfold relN
  by_cases h1 : k = 1
  ·exact .inl ⟨h1, by rw [if_pos h1]⟩
  ·exact .inr ⟨by omega, by rw [if_neg h1]⟩
 rw [← hz'] at HV
 have HV2 : Hid (r = (fun r1 : PutR => if r1.err ≠ 0 then ⟨⟨r1.dev, r1.list, m.free⟩, 0, r1.err⟩ else
  (fun r2 : PutR => if r2.err ≠ 0 then ⟨⟨r2.dev, r2.list, m.free⟩, 0, r2.err⟩ else ⟨⟨r2.dev, r2.list, (giveR m.free (b : Int) z').1⟩, 0, (giveR m.free (b : Int) z').2⟩)
   (putAll r1.dev r1.list ((b : Int) + 1) (List.replicate (z' - 1).toNat ⟨0, 0, 0⟩)))
  (putAll m.dev m.list (b : Int) [⟨0, 0, 0⟩])) := LH (by rw [HV.out, if_neg hk])
 have hzz := HZ.out
 have hzm : z' ≤ 100000 := by rcases hzk with ⟨_, h⟩ | ⟨_, h⟩ <;> omega
 have hb1 : 1 ≤ b := by omega
 have hb2 : b < B := by omega
 clear HV HIn hb hk hz'
 go_upto_block 0 with fail
 go_cut [6] from 9 (fun v wc => v = .int .i64 z' ∧ wc = w2)
 case first =>
  rcases hzk with ⟨rfl, rfl⟩ | ⟨rfl, rfl⟩
  ·go_wp2_with fail
   go_meet
   case rel => exact ⟨rfl, rfl⟩
  ·go_wp2_with fail
   go_meet
   case rel => exact ⟨rfl, rfl⟩
 case rest =>
  obtain ⟨rfl, rfl⟩ := hcut
  clear d0 d2 hzk
  have c0 := HA2.out.c0
  have hbn := below_alloc wc (.cells #[.int .i64 0, .int .i64 0, .int .i64 0] 103)
  have HC2 : Hid (Cells (wc.alloc (.cells #[.int .i64 0, .int .i64 0, .int .i64 0] 103)) (some ⟨wc.heap.size, 0, none⟩) (hdCs [⟨0, 0, 0⟩])) := LH (by
   rw [hdCs_single]
   exact (RowAt.cells ⟨_, heap_alloc_new _ _, [], rfl⟩))
  have HPut := LH (mput_any (HA2.out.below hbn) hB (by omega) ho (some ⟨wc.heap.size, 0, none⟩) 1 1 [⟨0, 0, 0⟩] rfl HC2.out (fun _ b o s e hm => by
   cases e
   exact HA2.out.lt (Nat.le_refl _) hm) (by omega) (b : Int))
  have HTa := LH (HT2.out.later hbn)
  clear hbn HC2
  go_wp2_with fail
  refine HPut.out.mono ?_
  rintro e w3 ⟨rfl, ha3, ht3⟩
  dsimp only at ha3 ⊢
  obtain ⟨r1, hr1⟩ : ∃ r1, r1 = putAll m.dev m.list (b : Int) [⟨0, 0, 0⟩] := ⟨_, rfl⟩
  rw [← hr1] at HV2 ha3 ⊢
  have HLen1 : Hid (r1.list.length = B) := LH (by rw [hr1, putAll_len]; exact HLB.out)
  have HOk1 : Hid (r1.dev.ok (N + 1 + 200000)) := LH (by have := putAll_ok hi ho m.list (b : Int) [⟨0, 0, 0⟩]; rw [← hr1] at this; exact this)
  have HV3 : Hid (r = if r1.err ≠ 0 then ⟨⟨r1.dev, r1.list, m.free⟩, 0, r1.err⟩ else
   (fun r2 : PutR => if r2.err ≠ 0 then ⟨⟨r2.dev, r2.list, m.free⟩, 0, r2.err⟩ else ⟨⟨r2.dev, r2.list, (giveR m.free (b : Int) z').1⟩, 0, (giveR m.free (b : Int) z').2⟩)
    (putAll r1.dev r1.list ((b : Int) + 1) (List.replicate (z' - 1).toNat ⟨0, 0, 0⟩))) := LH HV2.out
  have HA3 := LH ha3
  have HT3 := LH (HTa.out.trans ht3)
  clear ha3 ht3 HV2 HPut HTa HT2 HA2 c0 hr1
  obtain ⟨e1, he1⟩ : ∃ e1, e1 = r1.err := ⟨_, rfl⟩
  rw [← he1] at HV3 ⊢
  clear he1
  by_cases hz : e1 = 0
  case neg =>
   have hz' : (e1 != 0) = true := by simpa using hz
   have HE : Hid (r = ⟨⟨r1.dev, r1.list, m.free⟩, 0, e1⟩) := LH (by rw [HV3.out, if_pos hz])
   clear hz
   go_wp2_with fail
   rw [← HP.out, HE.out]
   exact ⟨rfl, HA3.out.mono (by omega), HT3.out⟩
  subst hz
  obtain ⟨r2, hr2⟩ : ∃ r2, r2 = putAll r1.dev r1.list ((b : Int) + 1) (List.replicate (z' - 1).toNat ⟨0, 0, 0⟩) := ⟨_, rfl⟩
  have HV4 : Hid (r = if r2.err ≠ 0 then ⟨⟨r2.dev, r2.list, m.free⟩, 0, r2.err⟩ else ⟨⟨r2.dev, r2.list, (giveR m.free (b : Int) z').1⟩, 0, (giveR m.free (b : Int) z').2⟩) := LH (by rw [HV3.out, if_neg (by simp), ← hr2])
  have HR2 := LH hr2
  clear HV3 hr2
  go_upto_if 35 with fail
  go_cut [] from 9 (fun wd => r2.err = 0 ∧ ManAt wd X n B ⟨r2.dev, r2.list, m.free⟩ ∧ Touch X.hot w wd)
  case first =>
   by_cases hz1 : z' ≤ 1
   ·have HE : Hid (r2 = ⟨r1.dev, r1.list, 0⟩) := LH (by
     rw [HR2.out, show (z' - 1).toNat = 0 by omega]
     exact putAll_none _ (by omega) (by rw [HLen1.out]; omega))
    have q3 : decide (1 < z') = false := by simp; omega
    have q3p : ¬ 1 < z' := by omega
    go_wp2_with fail
    go_meet
    case rel => rw [HE.out]; exact ⟨rfl, HA3.out, HT3.out⟩
   ·obtain ⟨y, hy⟩ : ∃ y : Nat, y = (z' - 1).toNat := ⟨_, rfl⟩
    have hy1 : 1 ≤ y := by omega
    have hy9 : y ≤ 100000 := by omega
    have HY : Hid (z' - 1 = (y : Int)) := LH (by omega)
    rw [← hy] at HR2
    have q3p : 1 < z' := by omega
    clear hy hz1
    have c0 := HA3.out.c0
    go_upto_region 12 with fail
    have r0 := fun x => later_cell c0 x
    clear c0
    have hw1 : IntKind.i64.wrap ((b : Int) + 1) = (b : Int) + 1 := IntWalk.i64_in _ (by omega)
    have hw2 : IntKind.i64.wrap (z' - 1) = (y : Int) := by rw [IntWalk.i64_in _ (by omega)]; exact HY.out
    refine wp_region_seg (C := fun w' => ∃ x : Later (w3), w' = x.val) [.fl [0, 1, 2, 3, 4, 5, 6, 7], .sq [8] true, .sq [9, 10] false] (by kernel_rfl) (by kernel_rfl) (by intro c a d v w h; cases d <;> exact h) ?_
    simp only [segs, picks, List.getElem?_cons_succ, List.getElem?_cons_zero]
    have hC1 := later_drew (w3)
    refine wpSeg_fl hC1 ?_
    repeat (first | go_big_quiet_step (fail) | quiet_step (fail))
    refine wpQuiet_nil ?_
    clear r0
    have HA3d := LH (HA3.out.below (later_below hC1))
    have HT3d := LH (HT3.out.later (later_below hC1))
    generalize w3.drew = w3d at *
    refine wpSeg_sq (fun K hK => ?_)
    go_wp2_with (at_make; refine wpList_make_rows elHd w3d.heap.size y (z := .int .i64 0) (by intro i hi; simp at hi; rcases i with _ | _ | _ | i <;> first | rfl | omega) (by omega) (by omega) (by omega) (by decide) (Nat.le_refl _) rfl rfl rfl rfl ?_; intro w4 hown hgrow; have HO4 := LH hown; have HG4 := LH hgrow; clear hown hgrow)
    have HB4 := LH (below_grown HG4.out (Nat.le_refl _))
    have hC2 := later_step hC1 HB4.out
    go_wp2_with fail
    refine hK _ _ (fun _ => hC2) ?_
    clear hK K
    refine wpSeg_last ?_
    go_wp2_with fail
    refine (mput_any (HA3d.out.below HB4.out) hB (N := N + 1 + 200000) (by omega) HOk1.out _ y y (List.replicate y ⟨0, 0, 0⟩) (by simp) (by rw [hdCs_zeros]; exact Cells.owned2 HO4.out) (fun _ b o s e hm => ?_) (by omega) ((b : Int) + 1)).mono ?_
    ·cases e
     exact HA3d.out.lt (Nat.le_refl _) hm
    rintro e w5 ⟨rfl, ha5, ht5⟩
    dsimp only at ha5 ⊢
    rw [← HR2.out] at ha5 ⊢
    have HA5 := LH ha5
    have HT5 := LH ((HT3d.out.later HB4.out).trans ht5)
    clear ha5 ht5 hC1 hC2
    obtain ⟨e2, he2⟩ : ∃ e2, e2 = r2.err := ⟨_, rfl⟩
    rw [← he2] at HV4 ⊢
    have HE2 := LH he2
    clear he2
    by_cases hz : e2 = 0
    ·subst hz
     go_wp2_with fail
     go_meet
     case rel => exact ⟨HE2.out.symm, HA5.out, HT5.out⟩
    ·have hz' : (e2 != 0) = true := by simpa using hz
     have HE : Hid (r = ⟨⟨r2.dev, r2.list, m.free⟩, 0, e2⟩) := LH (by rw [HV4.out, if_pos hz])
     clear hz
     go_wp2_with fail
     rw [← HP.out, HE.out]
     exact ⟨rfl, HA5.out.mono (by omega), HT5.out⟩
  case rest =>
   obtain ⟨he2, ha5, ht5⟩ := hcut
   have HE : Hid (r = ⟨⟨r2.dev, r2.list, (giveR m.free (b : Int) z').1⟩, 0, (giveR m.free (b : Int) z').2⟩) := LH (by rw [HV4.out, if_neg (by rw [he2]; simp)])
   have HA5 := LH ha5
   have HT5 := LH ht5
   have c1 := HA5.out.c1
   clear he2 ha5 ht5 HV4
   go_wp2_with fail
   refine (mgive_any HA5.out hB hn (b : Int) z').mono ?_
   rintro e w6 ⟨rfl, ha6, ht6⟩
   have HA6 := LH ha6
   have HT6 := LH (HT5.out.trans ht6)
   clear ha6 ht6
   go_wp2_with fail
   rw [← HP.out, HE.out]
   exact ⟨rfl, HA6.out, HT6.out⟩
theorem aggGe : Agg Tryz.prog 44 #[.int .i64 0] := ⟨⟨_, Tryz.underlying44, rfl⟩, by kernel_rfl⟩
set_option maxHeartbeats 1000000 in
theorem bgeom_any {w : World} {X : MF} {n B : Nat} {m : Bm} (h : ManAt w X n B m) :
  Calls Tryz.prog 86 #[.pointer (some ⟨X.m, 0, none⟩)] w fun e w' => e = .returned (vgeom (B : Int)) ∧ Below w.heap.size w w' := by
 have HM := LH (Mem.one w #[.int .i64 0] 44)
 have c2 := (h.below HM.out.below).c2
 clear h
 unfold vgeom
 go_enter Tryz.func86, Tryz.ntmps86
 go_upto_region 1 with fail
 generalize w.alloc _ = w0 at *
 obtain ⟨q, hq⟩ : ∃ q, q = w.heap.size := ⟨_, rfl⟩
 rw [← hq] at HM ⊢
 have HQ := LH hq
 clear hq
 go_wp2_with (refine wpList_store_mem aggGe HM.out 0 rfl rfl rfl rfl rfl rfl rfl rfl ?_; intro w9 h9 _; have H9 := LH h9; clear h9)
 refine bodyPost_ret (results_cell_row rfl _ _ _ _ _ _ _ rfl (H9.out.exact 0 rfl) Tryz.underlying44 rfl (by kernel_rfl)) rfl ⟨rfl, H9.out.below⟩
structure Dev.fit (S : Dev) (N : Nat) : Prop where
 wf : S.wf
 ok : S.ok N
 arm : S.armed = true → 0 ≤ S.fuse
theorem Dev.fit.mono {S : Dev} {N M : Nat} (h : S.fit N) (hM : N ≤ M) : S.fit M := ⟨h.wf, h.ok.mono hM, h.arm⟩
theorem Dev.step_fit {S : Dev} {N : Nat} (h : S.fit N) : S.step.fit (N + 1) := by
 refine ⟨Dev.step_wf h.wf, Dev.step_ok h.ok, ?_⟩
 unfold Dev.step
 have ha := h.arm
 have hst : S.stop = false → S.armed = true → ¬ S.fuse = 0 := fun h1 h2 => by unfold Dev.stop at h1; simp [h2] at h1; exact h1.2
 cases hs : S.stop
 ·intro c
  have c1 := ha c
  have c2 := hst hs c
  simp at c1 c2 ⊢
  omega
 ·exact ha
theorem Dev.hold_wf {S : Dev} (h : S.wf) (j : Nat) (hj : j < S.dirty.length) : (S.hold j).wf := by
 have hs := seg_length S.cache j (by have := h.lenD; omega)
 unfold Dev.hold
 split
 ·exact ⟨h.lenL, by show (splice _ _ _).length = _; rw [length_splice _ _ _ (by rw [hs, h.lenF, h.lenD]; omega)]; exact h.lenF, by simp [h.lenP], h.lenD, h.small, h.u64L, h.u64C, splice_lt _ h.u64F (seg_lt _ h.u64C)⟩
 ·exact h
theorem Dev.flush_fit {S : Dev} {N : Nat} (h : S.fit N) (j : Int) : (S.flush j).fit (N + 1) := by
 have h1 := Dev.step_fit h
 unfold Dev.flush
 split
 ·exact h.mono (by omega)
 ·split
  ·exact h1
  ·rename_i c _
   have e4 := S.step_rest.2.2.2.1
   refine ⟨Dev.hold_wf h1.wf _ (by rw [e4]; omega), ?_, ?_⟩
   ·have := Dev.hold_same S.step j.toNat
    unfold Dev.ok
    rw [this.1, this.2]
    exact h1.ok
   ·unfold Dev.hold
    split <;> exact h1.arm
theorem Dev.flush_dl (S : Dev) (j : Int) : (S.flush j).dirty.length = S.dirty.length := by rw [(Dev.flush_len S j).2]
theorem flushRun_fit {S : Dev} {N : Nat} (h : S.fit N) (a : Nat) : ∀ k, (S.flushRun a k).dev.fit (N + k)
 | 0 => h
 | k + 1 => by
  rw [Dev.flushRun]
  split
  ·exact (flushRun_fit h a k).mono (by omega)
  ·exact Dev.flush_fit (flushRun_fit h a k) _
theorem flushRun_dl (S : Dev) (a : Nat) : ∀ k, (S.flushRun a k).dev.dirty.length = S.dirty.length
 | 0 => rfl
 | k + 1 => by
  rw [Dev.flushRun]
  split
  ·exact flushRun_dl S a k
  ·dsimp only; rw [Dev.flush_dl]; exact flushRun_dl S a k
set_option maxHeartbeats 1000000 in
theorem dlasting_any {w : World} {F : Foot} {S : Dev} (h : DevAt w F S) (i : Int) :
  Calls Tryz.prog 109 #[vdev F, .int .i64 i] w fun e w' => e = .returned (vu64 (peek S.lasting i)) ∧ w = w' := by
 have c1 : w.cell? ⟨F.d, 0, none⟩ = some (.slice (some ⟨F.l, 0, none⟩) S.cache.length F.cl) := cell_of_row _ _ 0 _ _ _ h.head
 have hll := h.lenL
 have HR := LH h.lasting
 by_cases h0 : i < 0
 ·have HP : Hid (peek S.lasting i = 0) := LH (by unfold peek; rw [if_neg (by omega)])
  clear h hll
  go_enter Tryz.func109, Tryz.ntmps109
  go_wp2_with fail
  go_ret
  exact ⟨ret_int (by rw [HP.out]; rfl), rfl⟩
 obtain ⟨j, rfl⟩ := Int.eq_ofNat_of_zero_le (show 0 ≤ i by omega)
 by_cases h1 : j < S.cache.length
 ·have h1' : decide ((S.cache.length : Int) ≤ (j : Int)) = false := by simp; omega
  have h1n : decide (S.cache.length ≤ j) = false := by simp; omega
  have HP : Hid (peek S.lasting (j : Int) = S.lasting.getD j 0) := LH (by unfold peek; rw [if_pos (by omega)]; rfl)
  have d0 : w.cell? ⟨F.l, j, none⟩ = some (vu64 (S.lasting.getD j 0)) := HR.out.cell (by simp [show j < S.lasting.length by omega])
  clear h hll
  generalize S.lasting.getD j 0 = y at *
  go_enter Tryz.func109, Tryz.ntmps109
  go_wp2_with fail
  go_ret
  exact ⟨by rw [HP.out]; rfl, rfl⟩
 ·have h1' : (S.cache.length : Int) ≤ (j : Int) := by omega
  have h1n : S.cache.length ≤ j := by omega
  have HP : Hid (peek S.lasting (j : Int) = 0) := LH (by unfold peek; rw [if_pos (by omega)]; show S.lasting.getD j 0 = 0; exact getD_zero_of (by omega))
  clear h hll
  go_enter Tryz.func109, Tryz.ntmps109
  go_wp2_with fail
  go_ret
  exact ⟨ret_int (by rw [HP.out]; rfl), rfl⟩
end Go.Proofs.YtpopbfagliagnaaGreat
namespace Go.Proofs.YtpopbfagliagnaaGreat
theorem nat_ext {a b : List Nat} (hl : a.length = b.length) (h : ∀ i, a.getD i 0 = b.getD i 0) : a = b := by
 apply List.ext_getElem hl
 intro i h1 h2
 have := h i
 simpa [h1, h2] using this
theorem bool_ext {a b : List Bool} (hl : a.length = b.length) (h : ∀ i, a.getD i false = b.getD i false) : a = b := by
 apply List.ext_getElem hl
 intro i h1 h2
 have := h i
 simpa [h1, h2] using this
theorem Dev.store_ok0 {S : Dev} {i x : Nat} (h : S.storeE (i : Int) = 0) : i < S.cache.length ∧ (S.store (i : Int) x).cache = S.cache.set i x ∧ (S.store (i : Int) x).dirty = S.dirty.set (i / 8) true := by
 unfold Dev.storeE at h
 by_cases c1 : (i : Int) < 0 ∨ (S.cache.length : Int) ≤ (i : Int)
 ·rw [if_pos c1] at h; simp at h
 rw [if_neg c1] at h
 cases c2 : S.stop
 ·unfold Dev.store
  rw [if_neg c1, c2]
  simp only [Bool.false_eq_true, if_false]
  obtain ⟨e1, e2, e3, e4, e5⟩ := S.step_rest
  refine ⟨by omega, ?_, ?_⟩
  ·simp [Dev.put, e2]
  ·simp [Dev.put, e4]
 ·rw [c2] at h; simp at h
structure PutAt (S : Dev) (b : Nat) (l : List Hd) (i : Nat) (T : Dev) : Prop where
 inv : T.inv
 lenC : T.cache.length = S.cache.length
 lenD : T.dirty.length = S.dirty.length
 fits : i = 0 ∨ 256 + b + i ≤ S.cache.length
 cache : ∀ j, T.cache.getD j 0 = if 256 + b ≤ j ∧ j < 256 + b + i then encN ((j - 256 : Nat) : Int) (l.getD (j - 256 - b) default).k (l.getD (j - 256 - b) default).c (l.getD (j - 256 - b) default).l else S.cache.getD j 0
 dirty : ∀ q, (∀ k, k < i → (256 + b + k) / 8 ≠ q) → T.dirty.getD q false = S.dirty.getD q false
theorem putTo_at {S : Dev} (h : S.inv) (L : List Hd) (b : Nat) (l : List Hd) : ∀ i, (putTo S L b l i).err = 0 → PutAt S b l i (putTo S L b l i).dev
 | 0, _ => ⟨h, rfl, rfl, .inl rfl, fun j => by rw [if_neg (by omega)]; rfl, fun q _ => rfl⟩
 | i + 1, he => by
  have hst : putTo S L b l (i + 1) = putStep (putTo S L b l i) (b + i) (l.getD i default) := rfl
  rw [hst] at he ⊢
  unfold putStep at he ⊢
  by_cases h0 : (putTo S L b l i).err ≠ 0
  ·rw [if_pos h0] at he; exact absurd he h0
  rw [if_neg h0] at he ⊢
  have t := putTo_at h L b l i (by simpa using h0)
  generalize (putTo S L b l i).dev = T at *
  dsimp only at he ⊢
  rw [show (256 + ((b + i : Nat) : Int)) = ((256 + b + i : Nat) : Int) by omega] at he ⊢
  obtain ⟨g1, g2, g3⟩ := Dev.store_ok0 (x := encN ((b + i : Nat) : Int) (l.getD i default).k (l.getD i default).c (l.getD i default).l) he
  have hlc := t.lenC
  have hwD := t.inv.wf.lenD
  refine ⟨Dev.store_inv t.inv _ _ (encN_lt _ _ _ _), by rw [g2]; simp [t.lenC], by rw [g3]; simp [t.lenD], .inr (by omega), fun j => ?_, fun q hq => ?_⟩
  ·rw [g2, getD_setN _ _ _ _ g1, t.cache j]
   by_cases e : j = 256 + b + i
   ·subst e
    rw [if_pos rfl, if_pos (by omega), show 256 + b + i - 256 = b + i by omega, show b + i - b = i by omega]
   ·rw [if_neg e]
    by_cases c : 256 + b ≤ j ∧ j < 256 + b + i
    ·rw [if_pos c, if_pos (by omega)]
    ·rw [if_neg c, if_neg (by omega)]
  ·rw [g3, getD_setB _ _ _ _ (by omega), if_neg (fun e => hq i (by omega) e.symm)]
   exact t.dirty q (fun k hk => hq k (by omega))
structure Clean (S : Dev) (B : Nat) : Prop where
 inv : S.inv
 fits : 256 + B ≤ S.cache.length
 clean : ∀ b, 1 ≤ b → b < B → S.dirty.getD ((256 + b) / 8) false = false
theorem put_clean {S : Dev} {B : Nat} (h : Clean S B) {L : List Hd} (hL : L.length = B) {b : Int} {l : List Hd} (he : (putAll S L b l).err = 0) :
  Clean (putAll S L b l).dev B ∧ ∃ k : Nat, b = (k : Int) ∧ 1 ≤ k ∧ k + l.length ≤ B ∧ allRight l l.length ∧
   ∀ q, 1 ≤ q → q < B → (putAll S L b l).dev.cache.getD (256 + q) 0 = if k ≤ q ∧ q < k + l.length then encN (q : Int) (l.getD (q - k) default).k (l.getD (q - k) default).c (l.getD (q - k) default).l else S.cache.getD (256 + q) 0 := by
 unfold putAll at he ⊢
 by_cases c1 : b < 1 ∨ (L.length : Int) < b ∨ (L.length : Int) - b < (l.length : Int) ∨ ¬ allRight l l.length
 ·rw [if_pos c1] at he; simp at he
 rw [if_neg c1] at he ⊢
 obtain ⟨k, rfl⟩ := Int.eq_ofNat_of_zero_le (show 0 ≤ b by omega)
 have hr : allRight l l.length := Decidable.byContradiction fun h => c1 (.inr (.inr (.inr h)))
 by_cases c2 : l.length = 0
 ·rw [if_pos c2]
  exact ⟨h, k, rfl, by omega, by omega, hr, fun q _ _ => by rw [if_neg (by omega)]⟩
 rw [if_neg c2] at he ⊢
 rw [show ((k : Nat) : Int).toNat = k from rfl] at he ⊢
 unfold putIn at he ⊢
 by_cases c3 : (putTo S L k l l.length).err ≠ 0
 ·rw [if_pos c3] at he; exact absurd he c3
 rw [if_neg c3] at he ⊢
 have t := putTo_at h.inv L k l l.length (by simpa using c3)
 generalize (putTo S L k l l.length).dev = T at *
 dsimp only at he ⊢
 rw [show (256 + (k : Int)) = ((256 + k : Nat) : Int) by omega] at he ⊢
 obtain ⟨q1, q2, q3, q4, q5⟩ := Dev.persist_clean t.inv (256 + k) l.length (by omega) he
 have hfit := h.fits
 refine ⟨⟨Dev.persist_inv t.inv _ _, by rw [q1, t.lenC]; exact hfit, fun q h1 h2 => ?_⟩, k, rfl, by omega, by omega, hr, fun q h1 h2 => ?_⟩
 ·by_cases c : ∃ i, i < l.length ∧ (256 + k + i) / 8 = (256 + q) / 8
  ·obtain ⟨i, hi, e⟩ := c
   rw [← e]
   exact q4 (256 + k + i) (by omega) (by omega)
  ·refine q5 _ ?_
   rw [t.dirty _ (fun i hi e => c ⟨i, hi, e⟩)]
   exact h.clean q h1 h2
 ·rw [q1, t.cache]
  by_cases c : k ≤ q ∧ q < k + l.length
  ·rw [if_pos (by omega), if_pos c, show 256 + q - 256 = q by omega]
  ·rw [if_neg (by omega), if_neg c]
theorem fmtTo_inv {S : Dev} (h : S.inv) (k : Nat) : (S.fmtTo k).inv := by
 induction k with
 | zero => exact h
 | succ k ih =>
  unfold Dev.fmtTo
  split
  ·exact h
  ·exact Dev.store_inv ih _ _ (encN_lt _ _ _ _)
theorem fmt_clean {S : Dev} (h : S.inv) (hv : S.live) (ho : S.ok 100) {B : Nat} (hB2 : 2 ≤ B) (hlen : 256 + B ≤ S.cache.length) : Clean (S.fmt B) B := by
 obtain ⟨p1, p2, p3, p5, p4⟩ := fmtTo_props hv ho B hlen
 have he := (p1.persist 257 (B - 1) (by omega) (by rw [p3, p5]; exact h.wf.lenD) (by rw [p3]; omega)).1
 unfold Dev.fmt
 rw [show ((B : Int) - 1) = ((B - 1 : Nat) : Int) by omega]
 rw [show ((257 : Nat) : Int) = 257 from rfl] at he
 have hi := fmtTo_inv h B
 obtain ⟨q1, q2, q3, q4, q5⟩ := Dev.persist_clean hi 257 (B - 1) (by omega) he
 rw [show ((257 : Nat) : Int) = 257 from rfl] at q1 q4
 exact ⟨Dev.persist_inv hi _ _, by rw [q1, p3]; exact hlen, fun b h1 h2 => q4 (256 + b) (by omega) (by omega)⟩
structure Among (S : Dev) (i : Nat) (V : Nat → Prop) : Prop where
 cache : V (S.cache.getD i 0)
 lasting : V (S.lasting.getD i 0)
 flushed : S.pending.getD (i / 8) false = true → V (S.flushed.getD i 0)
section
variable {S : Dev} {i : Nat} {V : Nat → Prop}
theorem Among.step (h : Among S i V) : Among S.step i V := by
 obtain ⟨e1, e2, e3, e4, e5⟩ := S.step_rest
 exact ⟨by rw [e2]; exact h.cache, by rw [e1]; exact h.lasting, fun hp => by rw [e3]; rw [e5] at hp; exact h.flushed hp⟩
theorem Among.store (h : Among S i V) (j : Int) (x : Nat) (hx : j = (i : Int) → V x) : Among (S.store j x) i V := by
 unfold Dev.store
 by_cases c : j < 0 ∨ (S.cache.length : Int) ≤ j
 ·rw [if_pos c]; exact h
 ·rw [if_neg c]
  split
  ·exact h.step
  ·have k := h.step
   obtain ⟨e1, e2, e3, e4, e5⟩ := S.step_rest
   refine ⟨?_, k.lasting, k.flushed⟩
   show V ((S.step.cache.set j.toNat x).getD i 0)
   rw [getD_setN _ _ _ _ (by rw [e2]; omega)]
   by_cases e : i = j.toNat
   ·rw [if_pos e]; exact hx (by omega)
   ·rw [if_neg e]; exact k.cache
theorem Among.hold (h : Among S i V) (hS : S.wf) (j : Nat) (hj : j < S.dirty.length) : Among (S.hold j) i V := by
 unfold Dev.hold
 split
 ·have hD := hS.lenD
  refine ⟨h.cache, h.lasting, fun hp => ?_⟩
  dsimp only at hp ⊢
  rw [getD_setB _ _ _ _ (by rw [hS.lenP]; exact hj)] at hp
  rw [splice_seg_getD _ _ _ _ (by rw [hS.lenF]; omega) (by omega)]
  by_cases e : i / 8 = j
  ·rw [if_pos e]; exact h.cache
  ·rw [if_neg e] at hp ⊢
   exact h.flushed hp
 ·exact h
theorem Among.flush (h : Among S i V) (hS : S.inv) (j : Int) : Among (S.flush j) i V := by
 unfold Dev.flush
 by_cases c : j < 0 ∨ (S.dirty.length : Int) ≤ j
 ·rw [if_pos c]; exact h
 ·rw [if_neg c]
  split
  ·exact h.step
  ·exact h.step.hold (Dev.step_wf hS.wf) _ (by rw [S.step_rest.2.2.2.1]; omega)
theorem Among.fence (h : Among S i V) (hS : S.wf) : Among S.fence i V := by
 cases hs : S.stop
 ·have a := Dev.fence_at hS hs
  refine ⟨by rw [a.cache]; exact h.cache, ?_, fun hp => ?_⟩
  ·rw [a.lasting i]
   by_cases c : i / 8 < S.dirty.length ∧ S.pending.getD (i / 8) false = true
   ·rw [if_pos c]; exact h.flushed c.2
   ·rw [if_neg c]; exact h.lasting
  ·rw [a.flushed]
   rw [a.pending] at hp
   by_cases c : i / 8 < S.dirty.length
   ·rw [if_pos c] at hp; cases hp
   ·rw [if_neg c] at hp; exact h.flushed hp
 ·unfold Dev.fence
  rw [hs]
  exact h.step
theorem Among.flushRun (h : Among S i V) (hS : S.inv) (a : Nat) : ∀ m, Among (S.flushRun a m).dev i V
 | 0 => h
 | m + 1 => by
  have := Among.flushRun h hS a m
  rw [Dev.flushRun]
  split
  ·exact this
  ·exact this.flush (Dev.flushRun_inv hS a m) _
theorem Among.persist (h : Among S i V) (hS : S.inv) (p n : Int) : Among (S.persist p n).dev i V := by
 unfold Dev.persist
 split
 ·exact h
 ·split
  ·unfold Dev.persistN
   have := h.flushRun hS (p / 8).toNat ((p + n - 1) / 8 - p / 8 + 1).toNat
   split
   ·exact this
   ·exact this.fence (Dev.flushRun_inv hS _ _).wf
  ·exact h.fence hS.wf
theorem Among.putTo (h : Among S i V) (L : List Hd) (b : Nat) (l : List Hd) (hx : ∀ k, k < l.length → i = 256 + b + k → V (encN ((b + k : Nat) : Int) (l.getD k default).k (l.getD k default).c (l.getD k default).l)) : ∀ k, k ≤ l.length → Among (putTo S L b l k).dev i V
 | 0, _ => h
 | k + 1, hk => by
  have := Among.putTo h L b l hx k (by omega)
  unfold Go.Proofs.YtpopbfagliagnaaGreat.putTo putStep
  split
  ·exact this
  ·exact this.store _ _ (fun e => hx k (by omega) (by omega))
theorem Among.putAll (h : Among S i V) (hS : S.inv) (L : List Hd) (b : Int) (l : List Hd) (hx : ∀ k, k < l.length → (i : Int) = 256 + b + k → allRight l l.length → V (encN (b + k) (l.getD k default).k (l.getD k default).c (l.getD k default).l)) : Among (putAll S L b l).dev i V := by
 unfold Go.Proofs.YtpopbfagliagnaaGreat.putAll
 by_cases c : b < 1 ∨ (L.length : Int) < b ∨ (L.length : Int) - b < (l.length : Int) ∨ ¬ allRight l l.length
 ·rw [if_pos c]; exact h
 ·rw [if_neg c]
  split
  ·exact h
  ·have hr : allRight l l.length := Decidable.byContradiction fun h => c (.inr (.inr (.inr h)))
   have t := h.putTo L b.toNat l (fun k hk e => by
    have := hx k hk (by omega) hr
    rw [show ((b.toNat + k : Nat) : Int) = b + k by omega]
    exact this) l.length (Nat.le_refl _)
   unfold putIn
   split
   ·exact t
   ·exact t.persist (putTo_inv hS _ _ _ _) _ _
end
structure BmOk (B : Nat) (m : Bm) : Prop where
 lenL : m.list.length = B
 lenF : m.free.length = B
 clean : Clean m.dev B
 right : ∀ b, b < B → hdRight (m.list.getD b default).k (m.list.getD b default).c (m.list.getD b default).l = true
 word : ∀ b, 1 ≤ b → b < B → m.dev.cache.getD (256 + b) 0 = encN (b : Int) (m.list.getD b default).k (m.list.getD b default).c (m.list.getD b default).l
 free : ∀ b, fb m.free b = true ↔ 1 ≤ b ∧ b < B ∧ (m.list.getD b default).k = 0
 large : ∀ b, 1 ≤ b → b < B → (m.list.getD b default).k = 2 → (b : Int) + (m.list.getD b default).l ≤ B ∧ ∀ i : Nat, 1 ≤ i → (i : Int) < (m.list.getD b default).l → m.list.getD (b + i) default = ⟨3, 0, i⟩
def IsHd (q : Nat) (x : Nat) : Prop := (decN (q : Int) x).code = 0
theorem BmOk.among {B : Nat} {m : Bm} (h : BmOk B m) {q : Nat} (h1 : 1 ≤ q) (h2 : q < B) : Among m.dev (256 + q) (fun x => x = encN (q : Int) (m.list.getD q default).k (m.list.getD q default).c (m.list.getD q default).l) := by
 have hc := h.clean.clean q h1 h2
 refine ⟨h.word q h1 h2, ?_, fun hp => ?_⟩
 ·rw [h.clean.inv.sound _ hc]; exact h.word q h1 h2
 ·have := h.clean.inv.pend _ hp
  rw [hc] at this; cases this
theorem Among.mono {S : Dev} {i : Nat} {V V' : Nat → Prop} (h : Among S i V) (hv : ∀ x, V x → V' x) : Among S i V' := ⟨hv _ h.cache, hv _ h.lasting, fun hp => hv _ (h.flushed hp)⟩
def Stay (m m' : Bm) (B : Nat) (T : Nat → Prop) : Prop := m'.dev.inv ∧ m'.dev.cache.length = m.dev.cache.length ∧ ∀ q, 1 ≤ q → q < B → Among m'.dev (256 + q) (IsHd q) ∧ (¬ T q → Among m'.dev (256 + q) (fun x => x = encN (q : Int) (m.list.getD q default).k (m.list.getD q default).c (m.list.getD q default).l))
theorem isHd_enc {q : Nat} {k c l : Int} (h : hdRight k c l = true) : IsHd q (encN (q : Int) k c l) := by
 unfold IsHd; rw [dec_enc _ _ _ _ h]
theorem BmOk.stay {B : Nat} {m : Bm} (h : BmOk B m) (T : Nat → Prop) : Stay m m B T :=
 ⟨h.clean.inv, rfl, fun q h1 h2 => ⟨(h.among h1 h2).mono (fun x hx => by rw [hx]; exact isHd_enc (h.right q h2)), fun _ => h.among h1 h2⟩⟩
theorem store_clen (S : Dev) (i : Int) (x : Nat) : (S.store i x).cache.length = S.cache.length := by
 obtain ⟨_, e2, _⟩ := S.step_rest
 unfold Dev.store
 split
 ·rfl
 ·split
  ·rw [e2]
  ·show (S.step.cache.set i.toNat x).length = _
   rw [List.length_set, e2]
theorem flush_clen (S : Dev) (j : Int) : (S.flush j).cache.length = S.cache.length := by
 obtain ⟨_, e2, _⟩ := S.step_rest
 unfold Dev.flush
 split
 ·rfl
 ·split
  ·rw [e2]
  ·unfold Dev.hold
   split
   ·dsimp only; rw [e2]
   ·rw [e2]
theorem putTo_clen (S : Dev) (L : List Hd) (b : Nat) (l : List Hd) : ∀ i, (putTo S L b l i).dev.cache.length = S.cache.length
 | 0 => rfl
 | i + 1 => by
  have := putTo_clen S L b l i
  unfold putTo putStep
  split
  ·exact this
  ·dsimp only; rw [store_clen]; exact this
theorem flushRun_clen (S : Dev) (a : Nat) : ∀ m, (S.flushRun a m).dev.cache.length = S.cache.length
 | 0 => rfl
 | m + 1 => by
  have := flushRun_clen S a m
  rw [Dev.flushRun]
  split
  ·exact this
  ·dsimp only; rw [flush_clen]; exact this
theorem persist_clen {S : Dev} (h : S.inv) (p n : Int) : (S.persist p n).dev.cache.length = S.cache.length := by
 have hf : ∀ {U : Dev}, U.wf → U.fence.cache.length = U.cache.length := by
  intro U hU
  cases hs : U.stop
  ·rw [(Dev.fence_at hU hs).cache]
  ·unfold Dev.fence; rw [hs]; simp only [if_true]; rw [U.step_rest.2.1]
 unfold Dev.persist
 split
 ·rfl
 ·split
  ·unfold Dev.persistN
   split
   ·exact flushRun_clen _ _ _
   ·dsimp only; rw [hf (Dev.flushRun_inv h _ _).wf]; exact flushRun_clen _ _ _
  ·exact hf h.wf
theorem putAll_clen {S : Dev} (h : S.inv) (L : List Hd) (b : Int) (l : List Hd) : (putAll S L b l).dev.cache.length = S.cache.length := by
 unfold putAll
 split
 ·rfl
 ·split
  ·rfl
  ·unfold putIn
   split
   ·exact putTo_clen _ _ _ _ _
   ·dsimp only; rw [persist_clen (putTo_inv h _ _ _ _)]; exact putTo_clen _ _ _ _ _
theorem Stay.put {m m' : Bm} {B : Nat} {T : Nat → Prop} (h : Stay m m' B T) (L : List Hd) (b : Int) (l : List Hd) (f : List Bool) (l2 : List Hd) (hT : ∀ k : Nat, k < l.length → ∀ q : Nat, (q : Int) = b + k → T q) : Stay m ⟨(putAll m'.dev L b l).dev, l2, f⟩ B T := by
 obtain ⟨h1, h2, h3⟩ := h
 refine ⟨putAll_inv h1 _ _ _, by rw [← h2]; exact putAll_clen h1 _ _ _, fun q q1 q2 => ?_⟩
 obtain ⟨g1, g2⟩ := h3 q q1 q2
 refine ⟨g1.putAll h1 L b l (fun k hk e hr => ?_), fun hn => (g2 hn).putAll h1 L b l (fun k hk e _ => absurd (hT k hk q (by omega)) hn)⟩
 rw [show b + (k : Int) = (q : Int) by omega]
 exact isHd_enc (hr k hk)
structure BmW (B : Nat) (S : Dev) (L : List Hd) : Prop where
 lenL : L.length = B
 clean : Clean S B
 right : ∀ b, b < B → hdRight (L.getD b default).k (L.getD b default).c (L.getD b default).l = true
 word : ∀ b, 1 ≤ b → b < B → S.cache.getD (256 + b) 0 = encN (b : Int) (L.getD b default).k (L.getD b default).c (L.getD b default).l
theorem BmOk.w {B : Nat} {m : Bm} (h : BmOk B m) : BmW B m.dev m.list := ⟨h.lenL, h.clean, h.right, h.word⟩
theorem putTo_list (S : Dev) (L : List Hd) (b : Nat) (l : List Hd) : ∀ i, b + i ≤ L.length → (putTo S L b l i).err = 0 → ∀ q, (putTo S L b l i).list.getD q default = if b ≤ q ∧ q < b + i then l.getD (q - b) default else L.getD q default
 | 0, _, _, q => by rw [if_neg (by omega)]; rfl
 | i + 1, hi, he, q => by
  have hst : putTo S L b l (i + 1) = putStep (putTo S L b l i) (b + i) (l.getD i default) := rfl
  rw [hst] at he ⊢
  have hlen := putTo_len S L b l i
  unfold putStep at he ⊢
  by_cases h0 : (putTo S L b l i).err ≠ 0
  ·rw [if_pos h0] at he; exact absurd he h0
  rw [if_neg h0] at he ⊢
  have ih := putTo_list S L b l i (by omega) (by simpa using h0) q
  dsimp only at he ⊢
  rw [if_pos he]
  rw [List.getD_eq_getElem?_getD, List.getElem?_set]
  by_cases e : b + i = q
  ·rw [if_pos e, if_pos (by omega), if_pos (by omega), show q - b = i by omega]; rfl
  ·rw [if_neg e, ← List.getD_eq_getElem?_getD, ih]
   by_cases c : b ≤ q ∧ q < b + i
   ·rw [if_pos c, if_pos (by omega)]
   ·rw [if_neg c, if_neg (by omega)]
theorem BmW.put {B : Nat} {S : Dev} {L : List Hd} (h : BmW B S L) {k : Nat} {l : List Hd} (hk1 : 1 ≤ k) (hkB : k + l.length ≤ B) (hr : allRight l l.length) (he : (putAll S L (k : Int) l).err = 0) :
  BmW B (putAll S L (k : Int) l).dev (putAll S L (k : Int) l).list ∧ ∀ q, (putAll S L (k : Int) l).list.getD q default = if k ≤ q ∧ q < k + l.length then l.getD (q - k) default else L.getD q default := by
 obtain ⟨hc, k', e, _, _, _, hw⟩ := put_clean h.clean h.lenL he
 obtain rfl : k' = k := by omega
 have hlist : ∀ q, (putAll S L (k' : Int) l).list.getD q default = if k' ≤ q ∧ q < k' + l.length then l.getD (q - k') default else L.getD q default := by
  intro q
  rw [putAll_in S hk1 (by rw [h.lenL]; exact hkB) hr] at he ⊢
  by_cases hl : l.length = 0
  ·rw [if_pos hl, if_neg (by omega)]
  ·rw [if_neg hl] at he ⊢
   unfold putIn at he ⊢
   by_cases c : (putTo S L k' l l.length).err ≠ 0
   ·rw [if_pos c] at he; exact absurd he c
   ·rw [if_neg c]
    exact putTo_list S L k' l l.length (by rw [h.lenL]; exact hkB) (by simpa using c) q
 refine ⟨⟨by rw [putAll_len, h.lenL], hc, fun b hb => ?_, fun b h1 h2 => ?_⟩, hlist⟩
 ·rw [hlist b]
  by_cases c : k' ≤ b ∧ b < k' + l.length
  ·rw [if_pos c]; exact hr _ (by omega)
  ·rw [if_neg c]; exact h.right b hb
 ·rw [hw b h1 h2, hlist b]
  by_cases c : k' ≤ b ∧ b < k' + l.length
  ·rw [if_pos c, if_pos c]
  ·rw [if_neg c, if_neg c]; exact h.word b h1 h2
theorem step_dead {S : Dev} (h : S.stop = true) : S.step.dead = true := by unfold Dev.step; rw [if_pos h]
theorem flush_dead {S : Dev} {j : Int} (h0 : 0 ≤ j) (h1 : j < S.dirty.length) (he : S.flushE j ≠ 0) : (S.flush j).dead = true := by
 unfold Dev.flushE at he
 unfold Dev.flush
 rw [if_neg (by omega)] at he ⊢
 by_cases hs : S.stop = true
 ·rw [if_pos hs]; exact step_dead hs
 ·rw [if_neg hs] at he; exact absurd rfl he
theorem fence_dead {S : Dev} (he : S.fenceE ≠ 0) : S.fence.dead = true := by
 unfold Dev.fenceE at he
 unfold Dev.fence
 by_cases hs : S.stop = true
 ·rw [if_pos hs]; exact step_dead hs
 ·rw [if_neg hs] at he; exact absurd rfl he
theorem flushRun_dead {S : Dev} (a : Nat) : ∀ m, a + m ≤ S.dirty.length → (S.flushRun a m).err ≠ 0 → (S.flushRun a m).dev.dead = true
 | 0, _, h => absurd rfl h
 | m + 1, hm, h => by
  rw [Dev.flushRun] at h ⊢
  by_cases c : (S.flushRun a m).err ≠ 0
  ·rw [if_pos c] at h ⊢; exact flushRun_dead a m (by omega) h
  ·rw [if_neg c] at h ⊢
   exact flush_dead (by omega) (by rw [flushRun_dl]; omega) h
theorem persist_dead {S : Dev} (hS : S.inv) {p n : Nat} (hn : 0 < n) (hp : p + n ≤ S.cache.length) (he : (S.persist p n).err ≠ 0) : (S.persist p n).dev.dead = true := by
 have hD := hS.wf.lenD
 unfold Dev.persist at he ⊢
 rw [if_neg (by omega), if_pos (by omega)] at he ⊢
 unfold Dev.persistN at he ⊢
 by_cases c : (S.flushRun ((p : Int) / 8).toNat (((p : Int) + n - 1) / 8 - (p : Int) / 8 + 1).toNat).err ≠ 0
 ·rw [if_pos c] at he ⊢
  exact flushRun_dead _ _ (by omega) c
 ·rw [if_neg c] at he ⊢
  exact fence_dead he
theorem store_dead {S : Dev} {j : Int} {x : Nat} (h0 : 0 ≤ j) (h1 : j < S.cache.length) (he : S.storeE j ≠ 0) : (S.store j x).dead = true := by
 unfold Dev.storeE at he
 unfold Dev.store
 rw [if_neg (by omega)] at he ⊢
 by_cases hs : S.stop = true
 ·rw [if_pos hs]; exact step_dead hs
 ·rw [if_neg hs] at he; exact absurd rfl he
theorem putTo_dead {S : Dev} (L : List Hd) (b : Nat) (l : List Hd) : ∀ i, 256 + b + i ≤ S.cache.length → (putTo S L b l i).err ≠ 0 → (putTo S L b l i).dev.dead = true
 | 0, _, h => absurd rfl h
 | i + 1, hi, h => by
  have hst : putTo S L b l (i + 1) = putStep (putTo S L b l i) (b + i) (l.getD i default) := rfl
  rw [hst] at h ⊢
  unfold putStep at h ⊢
  by_cases c : (putTo S L b l i).err ≠ 0
  ·rw [if_pos c] at h ⊢; exact putTo_dead L b l i (by omega) h
  ·rw [if_neg c] at h ⊢
   exact store_dead (by omega) (by rw [putTo_clen]; omega) h
theorem putAll_dead {S : Dev} (hS : S.inv) {L : List Hd} {k : Nat} {l : List Hd} (hk1 : 1 ≤ k) (hkB : k + l.length ≤ L.length) (hr : allRight l l.length) (hf : 256 + L.length ≤ S.cache.length) : (putAll S L (k : Int) l).err = 0 ∨ (putAll S L (k : Int) l).dev.dead = true := by
 by_cases he : (putAll S L (k : Int) l).err = 0
 ·exact .inl he
 right
 rw [putAll_in S hk1 hkB hr] at he ⊢
 by_cases hl : l.length = 0
 ·rw [if_pos hl] at he; exact absurd rfl he
 ·rw [if_neg hl] at he ⊢
  unfold putIn at he ⊢
  by_cases c : (putTo S L k l l.length).err ≠ 0
  ·rw [if_pos c]
   exact putTo_dead L k l l.length (by omega) c
  ·rw [if_neg c] at he ⊢
   have : (256 : Int) + (k : Int) = ((256 + k : Nat) : Int) := by omega
   rw [this] at he ⊢
   exact persist_dead (putTo_inv hS L k l l.length) (by omega) (by rw [putTo_clen]; omega) he
theorem allRight_one {h : Hd} (hr : hdRight h.k h.c h.l = true) : allRight [h] [h].length := by
 intro i hi
 obtain rfl : i = 0 := by simp at hi; omega
 exact hr
variable {B : Nat} {m : Bm}
theorem run_free {f : List Bool} {a k n : Nat} (hr : IsRun (fb f) a k) (hn : n ≤ k) : ∀ q, a ≤ q → q < a + n → fb f q = true := fun q h1 h2 => hr.2.1 q h1 (by omega)
theorem BmOk.part {h : BmOk B m} {b i : Nat} (h1 : 1 ≤ b) (h2 : b < B) (hk : (m.list.getD b default).k = 2) (hi : 1 ≤ i) (hi2 : (i : Int) < (m.list.getD b default).l) : fb m.free (b + i) = false := by
 cases hq : fb m.free (b + i) with
 | false => rfl
 | true =>
  have := ((h.free (b + i)).1 hq).2.2
  rw [(h.large b h1 h2 hk).2 i hi hi2] at this
  cases this
theorem small_done (h : BmOk B m) (k : Int) : Stay m (m.small k).bm B (fun q => fb m.free q = true) ∧ ((m.small k).bm.dev.dead = true ∨ BmOk B (m.small k).bm) := by
 unfold Bm.small
 by_cases hr : hdRight 1 k 0 = false
 ·rw [if_pos hr]; exact ⟨h.stay _, .inr h⟩
 rw [if_neg hr]
 have hr' : hdRight 1 k 0 = true := by simpa using hr
 by_cases ht : (takeR m.free 1).2.2 ≠ 0
 ·rw [if_pos ht, takeR_err ht]; exact ⟨h.stay _, .inr h⟩
 rw [if_neg ht]
 obtain ⟨a, c, hta, hrun, hc, hfit⟩ := takeR_fit (l := m.free) (z := 1) (Nat.le_refl _) (by simpa using ht)
 have hta' : takeR m.free 1 = (setTo m.free a false 1, (a : Int), 0) := hta
 rw [hta']
 dsimp only
 have hfr := run_free hrun hc
 have hfa := hfr a (Nat.le_refl _) (by omega)
 obtain ⟨a1, a2, a3⟩ := (h.free a).1 hfa
 refine ⟨(h.stay _).put _ _ _ _ _ (fun j hj q e => ?_), ?_⟩
 ·have : q = a := by simp at hj; omega
  subst this; exact hfa
 ·have hone : allRight [(⟨1, k, 0⟩ : Hd)] [(⟨1, k, 0⟩ : Hd)].length := allRight_one hr'
  rcases putAll_dead h.clean.inv (L := m.list) a1 (by rw [h.lenL]; simp; omega) hone (by rw [h.lenL]; exact h.clean.fits) with he | hd
  ·right
   obtain ⟨hw, hl⟩ := h.w.put a1 (by simp; omega) hone he
   have hl' : ∀ q, (putAll m.dev m.list (a : Int) [⟨1, k, 0⟩]).list.getD q default = if q = a then ⟨1, k, 0⟩ else m.list.getD q default := by
    intro q
    rw [hl q]
    by_cases e : q = a
    ·subst e; rw [if_pos (by simp), if_pos rfl]; simp
    ·rw [if_neg (by simp; omega), if_neg e]
   refine ⟨hw.lenL, by rw [setTo_length, h.lenF], hw.clean, hw.right, hw.word, fun q => ?_, fun q q1 q2 hq => ?_⟩
   ·rw [setTo_ff hfit, hl' q]
    by_cases e : q = a
    ·subst e
     rw [if_pos rfl]
     constructor
     ·rintro ⟨h1, _⟩; exact absurd ⟨Nat.le_refl _, by omega⟩ h1
     ·rintro ⟨_, _, h3⟩; cases h3
    ·rw [if_neg e, ← h.free q]
     exact ⟨fun h => h.2, fun h => ⟨by omega, h⟩⟩
   ·dsimp only at hq ⊢
    rw [hl' q] at hq ⊢
    by_cases e : q = a
    ·rw [if_pos e] at hq; cases hq
    ·rw [if_neg e] at hq ⊢
     obtain ⟨g1, g2⟩ := h.large q q1 q2 hq
     refine ⟨g1, fun i i1 i2 => ?_⟩
     rw [hl' (q + i), if_neg (fun e2 => by
      have := BmOk.part (h := h) q1 q2 hq i1 i2
      rw [e2, hfa] at this; cases this)]
     exact g2 i i1 i2
  ·exact .inl hd
variable {B : Nat} {m : Bm}
theorem run_tail (n : Nat) : ((hdRun n n).drop 1).length = n - 1 ∧ ∀ i, i < n - 1 → ((hdRun n n).drop 1).getD i default = ⟨3, 0, ((i + 1 : Nat) : Int)⟩ := by
 refine ⟨by rw [List.length_drop, hdRun_len], fun i hi => ?_⟩
 rw [List.getD_eq_getElem?_getD, List.getElem?_drop, ← List.getD_eq_getElem?_getD, hdRun_getD n n (1 + i) (by omega), if_neg (by omega), show 1 + i = i + 1 by omega]
theorem large_done (h : BmOk B m) (z : Int) : Stay m (m.large z).bm B (fun q => fb m.free q = true) ∧ ((m.large z).bm.dev.dead = true ∨ BmOk B (m.large z).bm) := by
 unfold Bm.large
 by_cases hz : z < 1 ∨ 256 ≤ z
 ·rw [if_pos hz]; exact ⟨h.stay _, .inr h⟩
 rw [if_neg hz]
 obtain ⟨n, rfl⟩ := Int.eq_ofNat_of_zero_le (show 0 ≤ z by omega)
 have hn1 : 1 ≤ n := by omega
 have hn2 : n < 256 := by omega
 rw [show ((n : Int)).toNat = n from rfl]
 by_cases ht : (takeR m.free n).2.2 ≠ 0
 ·rw [if_pos ht, takeR_err ht]; exact ⟨h.stay _, .inr h⟩
 rw [if_neg ht]
 obtain ⟨a, c, hta, hrun, hc, hfit⟩ := takeR_fit (l := m.free) hn1 (by simpa using ht)
 rw [hta]
 dsimp only
 have hfr := run_free hrun hc
 have hfk : ∀ q, a ≤ q → q < a + n → 1 ≤ q ∧ q < B ∧ (m.list.getD q default).k = 0 := fun q h1 h2 => (h.free q).1 (hfr q h1 h2)
 have a1 := (hfk a (Nat.le_refl _) (by omega)).1
 have haB : a + n ≤ B := by rw [← h.lenF]; exact hfit
 obtain ⟨hlen, htl⟩ := run_tail n
 have hr1 : allRight ((hdRun n n).drop 1) ((hdRun n n).drop 1).length := by
  intro i hi
  rw [hlen] at hi
  rw [htl i hi]
  exact decide_eq_true (.inr (.inr ⟨.inr rfl, rfl, by dsimp only; omega⟩))
 have hs1 : Stay m ⟨(putAll m.dev m.list ((a : Int) + 1) ((hdRun n n).drop 1)).dev, (putAll m.dev m.list ((a : Int) + 1) ((hdRun n n).drop 1)).list, setTo m.free a false n⟩ B (fun q => fb m.free q = true) :=
  (h.stay _).put _ _ _ _ _ (fun j hj q e => hfr q (by omega) (by rw [hlen] at hj; omega))
 have e1 : (a : Int) + 1 = ((a + 1 : Nat) : Int) := by omega
 have hcase := putAll_dead h.clean.inv (L := m.list) (k := a + 1) (l := (hdRun n n).drop 1) (by omega) (by rw [h.lenL, hlen]; omega) hr1 (by rw [h.lenL]; exact h.clean.fits)
 rw [← e1] at hcase
 have hput := fun (he : (putAll m.dev m.list ((a : Int) + 1) ((hdRun n n).drop 1)).err = 0) => h.w.put (k := a + 1) (l := (hdRun n n).drop 1) (by omega) (by rw [hlen]; omega) hr1 (by rw [← e1]; exact he)
 rw [← e1] at hput
 generalize putAll m.dev m.list ((a : Int) + 1) ((hdRun n n).drop 1) = r1 at *
 by_cases he1 : r1.err ≠ 0
 ·rw [if_pos he1]
  refine ⟨hs1, ?_⟩
  rcases hcase with h0 | hd
  ·exact absurd h0 he1
  ·exact .inl hd
 rw [if_neg he1]
 obtain ⟨hw1, hl1⟩ := hput (by simpa using he1)
 refine ⟨hs1.put _ _ _ _ _ (fun j hj q e => ?_), ?_⟩
 ·have : q = a := by simp at hj; omega
  subst this; exact hfr q (Nat.le_refl _) (by omega)
 have hone : allRight [(⟨2, 0, (n : Int)⟩ : Hd)] [(⟨2, 0, (n : Int)⟩ : Hd)].length := allRight_one (decide_eq_true (.inr (.inr ⟨.inl rfl, rfl, by dsimp only; omega⟩)))
 rcases putAll_dead hw1.clean.inv (L := r1.list) a1 (by rw [hw1.lenL]; simp; omega) hone (by rw [hw1.lenL]; exact hw1.clean.fits) with he | hd
 ·right
  obtain ⟨hw, hl⟩ := hw1.put a1 (by simp; omega) hone he
  have hl' : ∀ q, (putAll r1.dev r1.list (a : Int) [⟨2, 0, (n : Int)⟩]).list.getD q default = if q = a then ⟨2, 0, (n : Int)⟩ else if a ≤ q ∧ q < a + n then ⟨3, 0, ((q - a : Nat) : Int)⟩ else m.list.getD q default := by
   intro q
   rw [hl q]
   by_cases e : q = a
   ·subst e; rw [if_pos (by simp), if_pos rfl]; simp
   ·rw [if_neg (by simp; omega), if_neg e, hl1 q, hlen]
    by_cases c2 : a ≤ q ∧ q < a + n
    ·rw [if_pos (by omega), if_pos c2, htl _ (by omega), show q - (a + 1) + 1 = q - a by omega]
    ·rw [if_neg (by omega), if_neg c2]
  refine ⟨hw.lenL, by rw [setTo_length, h.lenF], hw.clean, hw.right, hw.word, fun q => ?_, fun q q1 q2 hq => ?_⟩
  ·rw [setTo_ff hfit, hl' q]
   by_cases e : q = a
   ·subst e
    rw [if_pos rfl]
    constructor
    ·rintro ⟨h1, _⟩; exact absurd ⟨Nat.le_refl _, by omega⟩ h1
    ·rintro ⟨_, _, h3⟩; cases h3
   ·rw [if_neg e]
    by_cases c2 : a ≤ q ∧ q < a + n
    ·rw [if_pos c2]
     constructor
     ·rintro ⟨h1, _⟩; exact absurd c2 h1
     ·rintro ⟨_, _, h3⟩; cases h3
    ·rw [if_neg c2, ← h.free q]
     exact ⟨fun h => h.2, fun h => ⟨c2, h⟩⟩
  ·dsimp only at hq ⊢
   rw [hl' q] at hq ⊢
   by_cases e : q = a
   ·subst e
    rw [if_pos rfl] at hq ⊢
    dsimp only
    refine ⟨by omega, fun i i1 i2 => ?_⟩
    rw [hl' (q + i), if_neg (by omega), if_pos (by omega), show q + i - q = i by omega]
   ·rw [if_neg e] at hq ⊢
    by_cases c2 : a ≤ q ∧ q < a + n
    ·rw [if_pos c2] at hq; cases hq
    ·rw [if_neg c2] at hq ⊢
     obtain ⟨g1, g2⟩ := h.large q q1 q2 hq
     refine ⟨g1, fun i i1 i2 => ?_⟩
     have hnf := BmOk.part (h := h) q1 q2 hq i1 i2
     have hno : ¬ (a ≤ q + i ∧ q + i < a + n) := fun c => by rw [hfr _ c.1 c.2] at hnf; cases hnf
     rw [hl' (q + i), if_neg (by omega), if_neg hno]
     exact g2 i i1 i2
 ·exact .inl hd
def IsBack (m : Bm) (b : Int) (q : Nat) : Prop := (q : Int) = b ∨ ((m.list.getD q default).k = 3 ∧ (q : Int) - (m.list.getD q default).l = b)
theorem release_done (h : BmOk B m) (b : Int) : Stay m (m.release b).bm B (IsBack m b) ∧ ((m.release b).bm.dev.dead = true ∨ BmOk B (m.release b).bm) := by
 unfold Bm.release
 by_cases hk : (hdGet m.list b).k ≠ 1 ∧ (hdGet m.list b).k ≠ 2
 ·rw [if_pos hk]; exact ⟨h.stay _, .inr h⟩
 rw [if_neg hk]
 have hin := hdGet_in (l := m.list) (b := b) (by omega)
 rw [h.lenL] at hin
 obtain ⟨a, rfl⟩ := Int.eq_ofNat_of_zero_le (show 0 ≤ b by omega)
 have a1 : 1 ≤ a := by omega
 have a2 : a < B := by omega
 have hg : hdGet m.list (a : Int) = m.list.getD a default := by unfold hdGet; rw [if_neg (by rw [h.lenL]; omega)]; rfl
 rw [hg] at hk ⊢
 have hra := h.right a a2
 have hn : ∃ n : Nat, 1 ≤ n ∧ relN (m.list.getD a default) = (n : Int) ∧ a + n ≤ B ∧ (∀ i : Nat, 1 ≤ i → i < n → m.list.getD (a + i) default = ⟨3, 0, i⟩) := by
  have hri := of_decide_eq_true hra
  unfold HdRight at hri
  unfold relN
  by_cases h1 : (m.list.getD a default).k = 1
  ·exact ⟨1, Nat.le_refl _, by rw [if_pos h1]; rfl, by omega, fun i i1 i2 => by omega⟩
  ·have h2 : (m.list.getD a default).k = 2 := by omega
   obtain ⟨g1, g2⟩ := h.large a a1 a2 h2
   refine ⟨(m.list.getD a default).l.toNat, by omega, by rw [if_neg h1]; omega, by omega, fun i i1 i2 => g2 i i1 (by omega)⟩
 obtain ⟨n, n1, hn, haB, hcont⟩ := hn
 rw [hn, show ((n : Int) - 1).toNat = n - 1 by omega]
 dsimp only
 have hz : ∀ k, allRight (List.replicate k (⟨0, 0, 0⟩ : Hd)) (List.replicate k (⟨0, 0, 0⟩ : Hd)).length := by
  intro k i hi
  have : (List.replicate k (⟨0, 0, 0⟩ : Hd)).getD i default = ⟨0, 0, 0⟩ := by
   simp only [List.getD_eq_getElem?_getD, List.getElem?_replicate]
   split <;> rfl
  rw [this]; exact decide_eq_true (.inl ⟨rfl, rfl, rfl⟩)
 have hback : ∀ i : Nat, i < n → IsBack m (a : Int) (a + i) := by
  intro i hi
  by_cases i0 : i = 0
  ·subst i0; exact .inl (by omega)
  ·exact .inr ⟨by rw [hcont i (by omega) hi], by rw [hcont i (by omega) hi]; dsimp only; omega⟩
 have hs1 : Stay m ⟨(putAll m.dev m.list (a : Int) [⟨0, 0, 0⟩]).dev, (putAll m.dev m.list (a : Int) [⟨0, 0, 0⟩]).list, m.free⟩ B (IsBack m (a : Int)) :=
  (h.stay _).put _ _ _ _ _ (fun j hj q e => by
   have : q = a + 0 := by simp at hj; omega
   rw [this]; exact hback 0 (by omega))
 have hcase := putAll_dead h.clean.inv (L := m.list) (k := a) (l := [⟨0, 0, 0⟩]) a1 (by rw [h.lenL]; simp; omega) (hz 1) (by rw [h.lenL]; exact h.clean.fits)
 have hput := fun (he : (putAll m.dev m.list (a : Int) [⟨0, 0, 0⟩]).err = 0) => h.w.put (k := a) (l := [⟨0, 0, 0⟩]) a1 (by simp; omega) (hz 1) he
 generalize putAll m.dev m.list (a : Int) [⟨0, 0, 0⟩] = r1 at *
 by_cases he1 : r1.err ≠ 0
 ·rw [if_pos he1]
  refine ⟨hs1, ?_⟩
  rcases hcase with h0 | hd
  ·exact absurd h0 he1
  ·exact .inl hd
 rw [if_neg he1]
 obtain ⟨hw1, hl1⟩ := hput (by simpa using he1)
 have hs2 : Stay m ⟨(putAll r1.dev r1.list ((a : Int) + 1) (List.replicate (n - 1) ⟨0, 0, 0⟩)).dev, (putAll r1.dev r1.list ((a : Int) + 1) (List.replicate (n - 1) ⟨0, 0, 0⟩)).list, m.free⟩ B (IsBack m (a : Int)) :=
  hs1.put _ _ _ _ _ (fun j hj q e => by
   rw [List.length_replicate] at hj
   have : q = a + (j + 1) := by omega
   rw [this]; exact hback (j + 1) (by omega))
 have e1 : (a : Int) + 1 = ((a + 1 : Nat) : Int) := by omega
 have hcase2 := putAll_dead hw1.clean.inv (L := r1.list) (k := a + 1) (l := List.replicate (n - 1) ⟨0, 0, 0⟩) (by omega) (by rw [hw1.lenL, List.length_replicate]; omega) (hz _) (by rw [hw1.lenL]; exact hw1.clean.fits)
 have hput2 := fun (he : (putAll r1.dev r1.list ((a + 1 : Nat) : Int) (List.replicate (n - 1) ⟨0, 0, 0⟩)).err = 0) => hw1.put (k := a + 1) (l := List.replicate (n - 1) ⟨0, 0, 0⟩) (by omega) (by rw [List.length_replicate]; omega) (hz _) he
 rw [← e1] at hcase2 hput2
 generalize putAll r1.dev r1.list ((a : Int) + 1) (List.replicate (n - 1) ⟨0, 0, 0⟩) = r2 at *
 by_cases he2 : r2.err ≠ 0
 ·rw [if_pos he2]
  refine ⟨hs2, ?_⟩
  rcases hcase2 with h0 | hd
  ·exact absurd h0 he2
  ·exact .inl hd
 rw [if_neg he2]
 refine ⟨hs2, .inr ?_⟩
 obtain ⟨hw, hl2⟩ := hput2 (by simpa using he2)
 have hl : ∀ q, r2.list.getD q default = if a ≤ q ∧ q < a + n then ⟨0, 0, 0⟩ else m.list.getD q default := by
  intro q
  rw [hl2 q, List.length_replicate, hl1 q]
  by_cases c : a ≤ q ∧ q < a + n
  ·rw [if_pos c]
   by_cases c1 : a + 1 ≤ q ∧ q < a + 1 + (n - 1)
   ·rw [if_pos c1]
    simp only [List.getD_eq_getElem?_getD, List.getElem?_replicate]
    split <;> rfl
   ·rw [if_neg c1, if_pos (by simp; omega)]
    have : q - a = 0 := by omega
    rw [this]; rfl
  ·rw [if_neg c, if_neg (by omega), if_neg (by simp; omega)]
 have hnz : ∀ i : Nat, i < n → (m.list.getD (a + i) default).k ≠ 0 := by
  intro i hi
  by_cases i0 : i = 0
  ·subst i0; rw [Nat.add_zero]; omega
  ·rw [hcont i (by omega) hi]; show (3 : Int) ≠ 0; decide
 have hnf : anyFree m.free a n = false := anyFree_none (fun q q1 q2 => fb_no (fun hq => by
  have := ((h.free q).1 hq).2.2
  exact hnz (q - a) (by omega) (by rw [show a + (q - a) = q by omega]; exact this)))
 have hgo : giveR m.free (a : Int) (n : Int) = (setTo m.free a true n, 0) := giveR_ok ⟨a1, n1, by rw [h.lenF]; exact haB⟩ hnf
 rw [hgo]
 dsimp only
 refine ⟨hw.lenL, by rw [setTo_length, h.lenF], hw.clean, hw.right, hw.word, fun q => ?_, fun q q1 q2 hq => ?_⟩
 ·rw [setTo_tt (by rw [h.lenF]; exact haB), hl q]
  by_cases c : a ≤ q ∧ q < a + n
  ·rw [if_pos c]; exact ⟨fun _ => ⟨by omega, by omega, rfl⟩, fun _ => .inl c⟩
  ·rw [if_neg c, ← h.free q]
   exact ⟨fun h => h.resolve_left c, fun h => .inr h⟩
 ·dsimp only at hq ⊢
  rw [hl q] at hq ⊢
  by_cases c : a ≤ q ∧ q < a + n
  ·rw [if_pos c] at hq; cases hq
  ·rw [if_neg c] at hq ⊢
   obtain ⟨g1, g2⟩ := h.large q q1 q2 hq
   refine ⟨g1, fun i i1 i2 => ?_⟩
   have hgi := g2 i i1 i2
   have hno : ¬ (a ≤ q + i ∧ q + i < a + n) := fun c2 => by
    have hj := hcont (q + i - a)
    by_cases j0 : q + i = a
    ·rw [j0] at hgi
     have : (m.list.getD a default).k = 3 := by rw [hgi]
     omega
    ·have := hj (by omega) (by omega)
     rw [show a + (q + i - a) = q + i by omega, hgi] at this
     have h3 := congrArg Hd.l this
     dsimp only at h3
     omega
   rw [hl (q + i), if_neg hno]
   exact hgi
end Go.Proofs.YtpopbfagliagnaaGreat
