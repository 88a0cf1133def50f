/- Parts of the proof, one behind the other: Yd, Ek, El, Fc, Fd, So, Fe, Em, Ff, Df, Fg, Fh, Ye. -/
import Derived.Test.YtbimcogdbafjpaaGreatPT6
import Derived.BigQuiet
import Derived.Deep.CutBlock
import Derived.WideKeyEntry
import Derived.Shelf.Sort.Plain
import Derived.Shelf.Slices.In.SortNone
import Derived.Test.YtbimcogdbafjpaaGreatProg
import Derived.Shelf.SlicesE.DeleteFunc
import Derived.Lib.SliceRun
set_option linter.unusedVariables false
namespace Go.Proofs.YtbimcogdbafjpaaGreat
open Go.RowKit
section
variable {P : Program} {C : World → Prop} {ops : Array Oper} {rest : List Oper} {o : Oper} {a : Act} {Q : Act → Prop}
theorem wpQuiet_slice_from {x lo : Operand} {t e : TypeId} {z : Value} {size bytes : Nat} (E : Elem P t e z size bytes) {ad : Option Addr} {n cap : Nat} {k : IntKind} {L : Int} (l : Nat)
  (hL : L = (l : Int)) (hl : l ≤ n) (hn : n ≤ cap)
  (hgd : o.guard = none) (ho : o.op = .slice t x (some lo) none none) (hx : a.eval x = .slice ad n cap) (hlo : a.eval lo = .int k L)
  (hK : wpQuiet P ops C Q rest (a.put o.dst (.slice (if cap = l then ad else ad.map (·.add (l * size))) (n - l) (cap - l)))) :
  wpQuiet P ops C Q (o :: rest) a := by
 subst hL
 have hw : Region.wanted o (yielded ops a.tmps) = true := by simp [Region.wanted, hgd]
 unfold wpQuiet
 rw [if_pos hw]
 refine ⟨_, fun w hC => ?_, hK⟩
 have hr := run_slice_any (w := w) E ad n cap l n (some (.int k l)) none (by
  have : (0 : Int) ≤ (l : Int) ∧ (l : Int) ≤ (n : Int) := by omega
  simp [Instr.sliceBounds, Instr.sliceBound, asIntOf, hl])
 unfold Oper.quietAt
 simp only [execOp, ho, hx, hlo, Option.map_some, Option.map_none]
 simp [hr, Result.andThen, Oper.quietUpon]
end
theorem takeR_err {l : List Bool} {z : Int} (h : (takeR l z).2.2 ≠ 0) : (takeR l z).1 = l := by
 unfold takeR at h ⊢
 by_cases c : z < 1
 ·rw [if_pos c]
 ·rw [if_neg c] at h ⊢
  cases hp : pick z.toNat (runsOf l) with
  | none => rfl
  | some x => rw [hp] at h; exact absurd rfl h
theorem takeR_fit {l : List Bool} {z : Nat} (hz : 1 ≤ z) (h : (takeR l z).2.2 = 0) : ∃ a k : Nat, takeR l z = (setTo l a false z, (a : Int), 0) ∧ IsRun (fb l) a k ∧ z ≤ k ∧ a + z ≤ l.length := by
 cases hp : pick z (runsOf l) with
 | none => rw [takeR_none hz hp] at h; simp at h
 | some x =>
  obtain ⟨hr, hk⟩ := pick_run hp
  have := runEnds hr
  exact ⟨x.1, x.2, takeR_some hz hp, hr, hk, by omega⟩
def Bm.large (m : Bm) (n : Int) : BmR :=
 if n < 1 ∨ 256 ≤ n then ⟨m, 0, 1⟩ else
 if (takeR m.free n).2.2 ≠ 0 then ⟨⟨m.dev, m.list, (takeR m.free n).1⟩, 0, (takeR m.free n).2.2⟩ else
 if (putAll m.dev m.list ((takeR m.free n).2.1 + 1) ((hdRun n.toNat n.toNat).drop 1)).err ≠ 0 then
  ⟨⟨(putAll m.dev m.list ((takeR m.free n).2.1 + 1) ((hdRun n.toNat n.toNat).drop 1)).dev, (putAll m.dev m.list ((takeR m.free n).2.1 + 1) ((hdRun n.toNat n.toNat).drop 1)).list, (takeR m.free n).1⟩, 0,
   (putAll m.dev m.list ((takeR m.free n).2.1 + 1) ((hdRun n.toNat n.toNat).drop 1)).err⟩ else
 ⟨⟨(putAll (putAll m.dev m.list ((takeR m.free n).2.1 + 1) ((hdRun n.toNat n.toNat).drop 1)).dev (putAll m.dev m.list ((takeR m.free n).2.1 + 1) ((hdRun n.toNat n.toNat).drop 1)).list (takeR m.free n).2.1 [⟨2, 0, n⟩]).dev,
  (putAll (putAll m.dev m.list ((takeR m.free n).2.1 + 1) ((hdRun n.toNat n.toNat).drop 1)).dev (putAll m.dev m.list ((takeR m.free n).2.1 + 1) ((hdRun n.toNat n.toNat).drop 1)).list (takeR m.free n).2.1 [⟨2, 0, n⟩]).list, (takeR m.free n).1⟩,
  if (putAll (putAll m.dev m.list ((takeR m.free n).2.1 + 1) ((hdRun n.toNat n.toNat).drop 1)).dev (putAll m.dev m.list ((takeR m.free n).2.1 + 1) ((hdRun n.toNat n.toNat).drop 1)).list (takeR m.free n).2.1 [⟨2, 0, n⟩]).err = 0 then (takeR m.free n).2.1 else 0,
  (putAll (putAll m.dev m.list ((takeR m.free n).2.1 + 1) ((hdRun n.toNat n.toNat).drop 1)).dev (putAll m.dev m.list ((takeR m.free n).2.1 + 1) ((hdRun n.toNat n.toNat).drop 1)).list (takeR m.free n).2.1 [⟨2, 0, n⟩]).err⟩
theorem putAll_none (S : Dev) {L : List Hd} {b : Int} (h1 : 1 ≤ b) (h2 : b ≤ (L.length : Int)) : putAll S L b [] = ⟨S, L, 0⟩ := by
 unfold putAll
 rw [if_neg, if_pos (show ([] : List Hd).length = 0 from rfl)]
 rintro (h | h | h | h)
 ·omega
 ·omega
 ·simp at h; omega
 ·exact h (fun i hi => absurd hi (Nat.not_lt_zero _))
theorem putTo_inv {S : Dev} (h : S.inv) (L : List Hd) (b : Nat) (l : List Hd) : ∀ i, (putTo S L b l i).dev.inv
 | 0 => h
 | i + 1 => by
  have := putTo_inv h L b l i
  unfold putTo putStep
  split
  ·exact this
  ·exact Dev.store_inv this _ _ (encN_lt _ _ _ _)
theorem putAll_inv {S : Dev} (h : S.inv) (L : List Hd) (b : Int) (l : List Hd) : (putAll S L b l).dev.inv := by
 unfold putAll
 split
 ·exact h
 ·split
  ·exact h
  ·unfold putIn
   split
   ·exact putTo_inv h _ _ _ _
   ·exact Dev.persist_inv (putTo_inv h _ _ _ _) _ _
theorem putAll_len (S : Dev) (L : List Hd) (b : Int) (l : List Hd) : (putAll S L b l).list.length = L.length := by
 unfold putAll
 split
 ·rfl
 ·split
  ·rfl
  ·unfold putIn
   split
   ·exact putTo_len _ _ _ _ _
   ·exact putTo_len _ _ _ _ _
theorem putAll_ok {S : Dev} {N : Nat} (hw : S.inv) (h : S.ok N) (L : List Hd) (b : Int) (l : List Hd) : (putAll S L b l).dev.ok (N + l.length + 200000) := by
 unfold putAll
 split
 ·exact h.mono (by omega)
 ·split
  ·exact h.mono (by omega)
  ·unfold putIn
   have ho := putTo_ok h L b.toNat l l.length
   split
   ·exact ho.mono (by omega)
   ·exact Dev.persist_ok (putTo_inv hw L b.toNat l l.length).wf ho _ _
set_option maxHeartbeats 4000000 in
set_option maxRecDepth 20000 in
theorem blarge_any {w : World} {X : MF} {n B : Nat} {m : Bm} (h : ManAt w X n B m) (hB : B ≤ 1000) (hn : n < 1000000000000) {N : Nat} (hN : N ≤ 999000000) (ho : m.dev.ok N) (hi : m.dev.inv) (z : Int) :
  Calls Tryz.prog 190 #[.pointer (some ⟨X.m, 0, none⟩), .int .i64 z] w (BmDone w X (n + 1) B (m.large z)) := by
 generalize hr : m.large z = r
 generalize hP : BmDone w X (n + 1) B r = Post
 have HP := LH hP
 have HV := LH hr.symm
 have HA := LH h
 have HLB : Hid (m.list.length = B) := LH h.tab.len
 have HLF : Hid (m.free.length = B) := LH h.lenF
 clear h hP hr
 by_cases hz : z < 1 ∨ 256 ≤ z
 ·have HE : Hid (r = ⟨m, 0, 1⟩) := LH (by rw [HV.out]; unfold Bm.large; rw [if_pos hz])
  have hz' : z < 1 ∨ (1 ≤ z ∧ 256 ≤ z) := by omega
  clear hz
  rcases hz' with hz | ⟨hz1, hz⟩
  all_goals
   go_enter Tryz.func190, Tryz.ntmps190
   go_wp2_with fail
   rw [← HP.out, HE.out]
   exact ⟨rfl, HA.out.mono (by omega), Touch.refl _ _⟩
 obtain ⟨k, rfl⟩ := Int.eq_ofNat_of_zero_le (show 0 ≤ z by omega)
 have hk1 : 1 ≤ k := by omega
 have hk2 : k < 256 := by omega
 have q1 : decide ((k : Int) < 1) = false := by simp; omega
 have q2 : decide (256 ≤ (k : Int)) = false := by simp; omega
 have HV2 : Hid (r = if (takeR m.free k).2.2 ≠ 0 then ⟨⟨m.dev, m.list, (takeR m.free k).1⟩, 0, (takeR m.free k).2.2⟩ else
   (fun r1 : PutR => if r1.err ≠ 0 then ⟨⟨r1.dev, r1.list, (takeR m.free k).1⟩, 0, r1.err⟩ else
    (fun r2 : PutR => ⟨⟨r2.dev, r2.list, (takeR m.free k).1⟩, if r2.err = 0 then (takeR m.free k).2.1 else 0, r2.err⟩) (putAll r1.dev r1.list (takeR m.free k).2.1 [⟨2, 0, (k : Int)⟩]))
   (putAll m.dev m.list ((takeR m.free k).2.1 + 1) ((hdRun k k).drop 1))) := LH (by rw [HV.out]; unfold Bm.large; rw [if_neg hz]; rfl)
 have HFit := LH (takeR_fit (l := m.free) hk1)
 clear HV hz
 have c1 := HA.out.c1
 go_enter Tryz.func190, Tryz.ntmps190
 go_wp2_with fail
 refine (mtake_any HA.out hB hn k).mono ?_
 rintro e w2 ⟨rfl, ha2, ht2⟩
 generalize takeR m.free k = t at *
 obtain ⟨f2, b2, e2⟩ := t
 dsimp only at ha2 HV2 HFit ⊢
 have HA2 := LH ha2
 have HT2 := LH ht2
 clear ha2 ht2 c1
 by_cases he : e2 = 0
 case neg =>
  have HE : Hid (r = ⟨⟨m.dev, m.list, f2⟩, 0, e2⟩) := LH (by rw [HV2.out, if_pos he])
  have he' : (e2 != 0) = true := by simpa using he
  clear he
  go_wp2_with fail
  rw [← HP.out, HE.out]
  exact ⟨rfl, HA2.out, HT2.out⟩
 subst he
 obtain ⟨a, c, hta, _, _, hfit⟩ := HFit.out rfl
 obtain rfl : b2 = (a : Int) := congrArg (fun t => t.2.1) hta
 have hfit' : a + k ≤ B := by rw [← HLF.out]; exact hfit
 clear hta hfit HFit
 obtain ⟨r1, hr1⟩ : ∃ r1, r1 = putAll m.dev m.list ((a : Int) + 1) ((hdRun k k).drop 1) := ⟨_, rfl⟩
 rw [← hr1] at HV2
 have HR1 := LH hr1
 have HOk1 : Hid (r1.dev.ok (N + k + 200000)) := LH (by
  have := putAll_ok hi ho m.list ((a : Int) + 1) ((hdRun k k).drop 1)
  rw [← hr1] at this
  exact this.mono (by rw [List.length_drop, hdRun_len]; omega))
 have HV3 : Hid (r = if r1.err ≠ 0 then ⟨⟨r1.dev, r1.list, f2⟩, 0, r1.err⟩ else
   ⟨⟨(putAll r1.dev r1.list (a : Int) [⟨2, 0, (k : Int)⟩]).dev, (putAll r1.dev r1.list (a : Int) [⟨2, 0, (k : Int)⟩]).list, f2⟩, if (putAll r1.dev r1.list (a : Int) [⟨2, 0, (k : Int)⟩]).err = 0 then (a : Int) else 0, (putAll r1.dev r1.list (a : Int) [⟨2, 0, (k : Int)⟩]).err⟩) := LH (by rw [HV2.out, if_neg (by simp)])
 clear hr1 HV2
 go_wp2_with fail
 refine (brun_any k (by omega) _).mono ?_
 rintro e w3 ⟨v, rfl, ho3, hb3⟩
 have HA3 := LH (HA2.out.below hb3)
 have HT3 := LH (HT2.out.later hb3)
 obtain ⟨g, cc, rfl, hcc, _, hgb⟩ := owned_some ho3 (by omega)
 have HR3 := LH (owned_row ho3)
 have HGn : Hid (g ∉ X.hot) := LH (HA2.out.lt (by
  rcases ho3.2 with ⟨hv, _⟩ | ⟨g', _, _, hv, hb', _⟩
  ·cases hv
  ·cases hv; exact hb'))
 clear ho3 hb3 hgb HA2 HT2
 go_upto_if 32 with fail
 go_cut [] from 11 (fun wc => r1.err = 0 ∧ ManAt wc X (n + 1) B ⟨r1.dev, r1.list, f2⟩ ∧ Touch X.hot w wc ∧ RowAt wc g 104 (hdCs (hdRun k k)))
 case first =>
  by_cases hk : k = 1
  ·have q3 : decide (1 < (k : Int)) = false := by simp; omega
   have q3n : decide (1 < k) = false := by simp; omega
   have q3p : ¬ 1 < k := by omega
   have q3i : ¬ 1 < (k : Int) := by omega
   have HE : Hid (r1 = ⟨m.dev, m.list, 0⟩) := LH (by
    rw [HR1.out, List.drop_of_length_le (by rw [hdRun_len]; omega)]
    exact putAll_none _ (by omega) (by rw [HLB.out]; omega))
   clear hk
   go_wp2_with fail
   go_meet
   case rel => rw [HE.out]; exact ⟨rfl, HA3.out, HT3.out, HR3.out⟩
  ·have q3 : 1 < (k : Int) := by omega
   have q3n : 1 < k := by omega
   have c0 := HA3.out.c0
   go_upto_region 8 with fail
   have r0 := fun x => later_cell c0 x
   clear c0
   have hw1 : IntKind.i64.wrap ((a : Int) + 1) = (a : Int) + 1 := IntWalk.i64_in _ (by omega)
   refine wp_region_seg (C := fun w' => ∃ x : Later (w3), w' = x.val) [.fl [0, 1, 2, 3, 4, 5, 6, 7], .sq [8, 9] false] (by kernel_rfl) (by kernel_rfl) (by intro c a d v w h; cases d <;> exact h) ?_
   simp only [segs, picks, List.getElem?_cons_succ, List.getElem?_cons_zero]
   have hC1 := later_drew w3
   refine wpSeg_fl hC1 ?_
   repeat (first | (refine wpQuiet_slice_from elHd (ad := some ⟨g, 0, none⟩) (n := k) (cap := cc) 1 rfl (by omega) hcc rfl rfl rfl rfl ?_) | go_big_quiet_step (fail) | quiet_step (fail))
   refine wpQuiet_nil ?_
   have HCs : Hid (Cells w3.drew (if cc = 1 then some ⟨g, 0, none⟩ else (some (⟨g, 0, none⟩ : Addr)).map (·.add (1 * 3))) (hdCs ((hdRun k k).drop 1))) := LH (by
    have h1 := (Cells.below HR3.out.cells (later_below hC1) (Nat.le_refl _)).shift (1 * 3) (cc = 1) (fun h => by omega)
    have h2 : (hdCs (hdRun k k)).drop (1 * 3) = hdCs ((hdRun k k).drop 1) := by
     have e : hdRun k k = (hdRun k k).take 1 ++ (hdRun k k).drop 1 := (List.take_append_drop _ _).symm
     have hl : (hdCs ((hdRun k k).take 1)).length = 1 * 3 := by rw [hdCs_length, List.length_take, hdRun_len, Nat.min_eq_left (by omega)]
     conv => lhs; rw [e]
     rw [hdCs_append, ← hl, List.drop_left]
    rw [h2] at h1
    exact h1)
   have HAd : Hid (∀ b o s, (if cc = 1 then some (⟨g, 0, none⟩ : Addr) else (some (⟨g, 0, none⟩ : Addr)).map (·.add (1 * 3))) = some ⟨b, o, s⟩ → b = g) := LH (by
    intro b o s h
    split at h
    ·cases h; rfl
    ·simp only [Option.map_some, add_none] at h; cases h; rfl)
   generalize (if cc = 1 then some (⟨g, 0, none⟩ : Addr) else (some (⟨g, 0, none⟩ : Addr)).map (·.add (1 * 3))) = ad at *
   refine wpSeg_last ?_
   go_wp2_with fail
   refine (mput_any (HA3.out.below (later_below hC1)) hB (by omega) ho ad (k - 1) (cc - 1) ((hdRun k k).drop 1) (by rw [List.length_drop, hdRun_len]) HCs.out (fun _ b o s e => by rw [HAd.out b o s e]; exact HGn.out) (by omega) ((a : Int) + 1)).mono ?_
   rintro e w4 ⟨rfl, ha4, ht4⟩
   dsimp only at ha4 ⊢
   rw [← HR1.out] at ha4 ⊢
   have HA4 := LH ha4
   have HT4 := LH ((HT3.out.later (later_below hC1)).trans ht4)
   have HR4 := LH ((HR3.out.keep ((later_below hC1).block g HR3.out.lt)).keep (ht4.block g (Nat.lt_of_lt_of_le HR3.out.lt (later_below hC1).size) HGn.out))
   clear ha4 ht4 hC1 HCs HAd r0
   obtain ⟨e1, he1⟩ : ∃ e1, e1 = r1.err := ⟨_, rfl⟩
   rw [← he1]
   by_cases hz : e1 = 0
   ·subst hz
    have HE1 := LH he1
    clear he1
    go_wp2_with fail
    go_meet
    case rel => exact ⟨HE1.out.symm, HA4.out, HT4.out, HR4.out⟩
   ·have hz' : (e1 != 0) = true := by simpa using hz
    have HE : Hid (r = ⟨⟨r1.dev, r1.list, f2⟩, 0, e1⟩) := LH (by rw [HV3.out, if_pos (by rw [← he1]; exact hz), ← he1])
    clear he1 hz
    go_wp2_with fail
    rw [← HP.out, HE.out]
    exact ⟨rfl, HA4.out, HT4.out⟩
 case rest =>
  obtain ⟨he1, ha4, ht4, hr4⟩ := hcut
  have HV4 : Hid (r = ⟨⟨(putAll r1.dev r1.list (a : Int) [⟨2, 0, (k : Int)⟩]).dev, (putAll r1.dev r1.list (a : Int) [⟨2, 0, (k : Int)⟩]).list, f2⟩, if (putAll r1.dev r1.list (a : Int) [⟨2, 0, (k : Int)⟩]).err = 0 then (a : Int) else 0, (putAll r1.dev r1.list (a : Int) [⟨2, 0, (k : Int)⟩]).err⟩) := LH (by rw [HV3.out, if_neg (by rw [he1]; simp)])
  have HA4 := LH ha4
  have HT4 := LH ht4
  have hg0 : (hdRun k k).getD 0 default = ⟨2, 0, (k : Int)⟩ := by rw [hdRun_getD k k 0 hk1, if_pos rfl]
  have hg := hdCs_at (hdRun k k) 0 (by rw [hdRun_len]; omega)
  rw [hg0] at hg
  have d0 : wc.cell? ⟨g, 0, none⟩ = some (.int .i64 2) := hr4.cell (hg 0 _ rfl)
  have d1 : wc.cell? ⟨g, 1, none⟩ = some (.int .i64 0) := hr4.cell (hg 1 _ rfl)
  have d2 : wc.cell? ⟨g, 2, none⟩ = some (.int .i64 (k : Int)) := hr4.cell (hg 2 _ rfl)
  have c0 := HA4.out.c0
  clear he1 ha4 ht4 hr4 hg0 hg HV3 HA3 HT3 HR3
  go_upto_region 11 with fail
  have r0 := fun x => later_cell d0 x
  have r1' := fun x => later_cell d1 x
  have r2 := fun x => later_cell d2 x
  have r3 := fun x => later_cell c0 x
  clear d0 d1 d2 c0
  have hk0 : 0 < (k : Int) := by omega
  refine wp_region_seg (C := fun w' => ∃ x : Later (wc), w' = x.val) [.fl [0, 1, 2, 3, 4, 5, 6, 7], .sq [8] true, .sq [9, 10] false] (by kernel_rfl) (by kernel_rfl) (by intro c a d v w h; cases d <;> exact h) ?_
  simp only [segs, picks, List.getElem?_cons_succ, List.getElem?_cons_zero]
  have hC1 := later_drew (wc)
  refine wpSeg_fl hC1 ?_
  repeat (first | go_big_quiet_step (fail) | quiet_step (fail))
  refine wpQuiet_nil ?_
  clear r0 r1' r2 r3
  refine wpSeg_sq (fun K hK => ?_)
  go_wp2_with fail
  have hbn := below_alloc wc.drew (.cells #[.int .i64 2, .int .i64 0, .int .i64 (k : Int)] 104)
  have hC2 := later_step hC1 hbn
  have HC2 : Hid (Cells (wc.drew.alloc (.cells #[.int .i64 2, .int .i64 0, .int .i64 (k : Int)] 104)) (some ⟨wc.drew.heap.size, 0, none⟩) (hdCs [⟨2, 0, (k : Int)⟩])) := LH (by
   rw [hdCs_single]
   exact (RowAt.cells ⟨_, heap_alloc_new _ _, [], rfl⟩))
  clear hbn
  go_wp2_with fail
  refine hK _ _ (fun _ => hC2) ?_
  clear hK K
  refine wpSeg_last ?_
  go_wp2_with fail
  refine (mput_any (HA4.out.below (later_below hC2)) hB (N := N + k + 200000) (by omega) HOk1.out _ 1 1 [⟨2, 0, (k : Int)⟩] rfl HC2.out (fun _ b o s e hm => ?_) (by omega) (a : Int)).mono ?_
  ·cases e
   exact HA4.out.lt (by simp) hm
  rintro e w5 ⟨rfl, ha5, ht5⟩
  dsimp only at ha5 ⊢
  generalize putAll r1.dev r1.list (a : Int) [⟨2, 0, (k : Int)⟩] = pr at *
  have HA5 := LH ha5
  have HT5 := LH ((HT4.out.later (later_below hC2)).trans ht5)
  clear ha5 ht5 hC1 hC2
  by_cases hz : pr.err = 0
  ·have HE : Hid (r = ⟨⟨pr.dev, pr.list, f2⟩, (a : Int), 0⟩) := LH (by rw [HV4.out, if_pos hz, hz])
   rw [hz]
   go_wp2_with fail
   rw [← HP.out, HE.out]
   exact ⟨rfl, HA5.out, HT5.out⟩
  ·have HE : Hid (r = ⟨⟨pr.dev, pr.list, f2⟩, 0, pr.err⟩) := LH (by rw [HV4.out, if_neg hz])
   have hz' : (pr.err != 0) = true := by simpa using hz
   generalize pr.err = pe at *
   clear hz
   go_wp2_with fail
   rw [← HP.out, HE.out]
   exact ⟨rfl, HA5.out, HT5.out⟩
end Go.Proofs.YtbimcogdbafjpaaGreat
namespace Go.Proofs.YtbimcogdbafjpaaGreat
open Go.RowKit Go.Maps
section
variable {P : Program} {C : World → Prop} {ops : Array Oper} {rest : List Oper} {o : Oper} {a : Act} {Q : Act → Prop}
theorem wpQuiet_slice_to {x hi : Operand} {t e : TypeId} {z : Value} {size bytes : Nat} (E : Elem P t e z size bytes) {ad : Option Addr} {n cap : Nat} {k : IntKind} {H : Int} (h : Nat)
  (hH : H = (h : Int)) (hh : h ≤ n) (hn : n ≤ cap)
  (hgd : o.guard = none) (ho : o.op = .slice t x none (some hi) none) (hx : a.eval x = .slice ad n cap) (hhi : a.eval hi = .int k H)
  (hK : wpQuiet P ops C Q rest (a.put o.dst (.slice ad h cap))) :
  wpQuiet P ops C Q (o :: rest) a := by
 subst hH
 have hw : Region.wanted o (yielded ops a.tmps) = true := by simp [Region.wanted, hgd]
 unfold wpQuiet
 rw [if_pos hw]
 refine ⟨_, fun w hC => ?_, hK⟩
 have hr := run_slice_any (w := w) E ad n cap 0 h none (some (.int k h)) (by
  have : (0 : Int) ≤ (h : Int) ∧ (h : Int) ≤ (cap : Int) := by omega
  simp [Instr.sliceBounds, Instr.sliceBound, asIntOf, Nat.le_trans hh hn])
 unfold Oper.quietAt
 simp only [execOp, ho, hx, hhi, Option.map_some, Option.map_none]
 have e : (if cap = 0 then ad else ad.map (·.add (0 * size))) = ad := by
  split
  ·rfl
  ·cases ad <;> simp [Addr.add]
 simp only [e, Nat.sub_zero] at hr
 simp [hr, Result.andThen, Oper.quietUpon]
end
theorem OwnI.cells2 {w : World} {v : Value} {xs : List Nat} (h : OwnI w v xs) : ∃ a c, v = .slice a xs.length c ∧ Cells w a (xs.map vi) ∧ xs.length ≤ c ∧ c ≤ maxLen ∧ (a = none → c = 0) := by
 obtain ⟨a, c, e, h1, h2, h3⟩ := h.cells
 refine ⟨a, c, e, h1, h2, h3, fun ha => ?_⟩
 subst ha
 rcases h with h | ⟨p, h, _⟩
 ·rcases h.2 with ⟨h, _⟩ | ⟨g, cap, cur, h, _⟩
  ·rw [h] at e
   exact (congrArg (fun v => match v with | .slice _ _ c => c | _ => 0) e).symm
  ·rw [h] at e; cases e
 ·rw [h] at e; cases e
theorem step_c {w wd w1 : World} {f mb n n' : Nat} {R : List Nat} {V : Nat → Value} {S : FL} {m k : Nat} {v : Value} {o : Option Value} {xs : List Nat} (hi : FreeIn w f mb n V S) (hm : m < 4) (hk : k < 32)
  (h1 : f ∈ R) (h2 : mb ∈ R) (h3 : ∀ b ∈ R, b < w.heap.size) {M : Lit → Option Value} (hM : ∀ m k : Nat, m < 4 → k < 32 → (M (pairKey m k)).getD (.slice none 0 0) = V (slotI m k))
  (hd : Below w.heap.size w wd) (hw : VMap Tryz.prog 288 w1 mb n' (putL M (pairKey m k) o)) (ho : o.getD (.slice none 0 0) = v) (hg : wd.grownBy w1 (some mb)) (hv : OwnI wd v xs) (hrow : ∀ b, rowOf v = some b → rowOf (V (slotI m k)) = some b ∨ w.heap.size ≤ b) :
  Step1 w w1 f mb n' V S (S.setC m k xs) (slotI m k) v xs := by
 have hfl := h3 f h1
 have hsl : slotI m k < 160 := by unfold slotI; omega
 have hb : ∀ b, b < w.heap.size → b ≠ mb → w1.heap[b]? = w.heap[b]? := fun b hb hn => (hg.block b (Nat.lt_of_lt_of_le hb hd.size) (fun e => hn (by simpa using e))).trans (hd.block b hb)
 have hne : ∀ b, rowOf v = some b → b ≠ mb := fun b hr e => by
  subst e
  rcases hrow b hr with c | c
  ·exact (hi.neF _ hsl).2 c
  ·have := h3 b h2; omega
 refine ⟨?_, ⟨_, hw, fun m' k' hm' hk' => ?_⟩, hv.keep (fun b hb' => hg.block b (hv.lt b hb') (fun e => hne b hb' (by simpa using e))), hrow, fun b hbl h5 h6 h7 => hb b hbl h6, Nat.le_trans hd.size hg.size, fun j hj => ?_⟩
 ·rw [hb f hfl hi.ne, hi.head]
  have : (List.range 32).map (fun j => if j = slotI m k then v else V j) = (List.range 32).map V := List.map_congr_left (fun j hj => by
   have := List.mem_range.1 hj
   rw [if_neg (by unfold slotI; omega)])
  rw [this]
 ·by_cases e : m' = m ∧ k' = k
  ·obtain ⟨rfl, rfl⟩ := e
   rw [putL_same, if_pos rfl, ho]
  ·rw [putL_other _ (fun c => e (by
    have := key_inj (wf_small m' (by omega)) (wf_small k' (by omega)) (wf_small m (by omega)) (wf_small k (by omega)) c
    omega)), hM m' k' hm' hk', if_neg (by unfold slotI; omega)]
 ·unfold FL.at
  simp only [FL.setC_g, FL.setC_c]
  by_cases e : j < 32
  ·rw [if_pos e, if_pos e, if_neg (by unfold slotI; omega)]
  ·rw [if_neg e, if_neg e]
   by_cases e2 : (j - 32) / 32 = m ∧ (j - 32) % 32 = k
   ·rw [if_pos e2, if_pos (by unfold slotI; omega)]
   ·rw [if_neg e2, if_neg (by unfold slotI; omega)]
theorem FL.setC_same (S : FL) (m k : Nat) : S.setC m k (S.c m k) = S := by
 refine FL.ext' (fun j => rfl) (fun i j => ?_)
 rw [FL.setC_c]
 split
 ·rename_i e; obtain ⟨rfl, rfl⟩ := e; rfl
 ·rfl
theorem FL.taken_none {S : FL} {m k : Nat} (h : S.cell m k = none) : S.taken m k = S := by
 unfold FL.taken
 rw [FL.fill_none h, (FL.cell_none h).2]
 have := S.setC_same m k
 rw [(FL.cell_none h).2] at this
 exact this
def TookI (w : World) (f mb n : Nat) (R : List Nat) (S : FL) (m k : Nat) : Ending → World → Prop := fun e w' =>
 e = .returned (.tuple #[.int .i64 ((S.cell m k).getD 0 : Nat), .int .i64 (if (S.cell m k).isSome then 0 else 4)]) ∧ FreeGo w w' f mb n R (S.taken m k)
theorem fright_any (m k : Nat) (hm : m < 4) (hk : k < 32) (w : World) : Calls Tryz.prog 203 #[.int .i64 (m : Int), .int .i64 (k : Int)] w (Same1 (.bool true) w) := by
 go_enter Tryz.func203, Tryz.ntmps203
 go_wp2_with fail
 refine (cright_any _ _).mono ?_
 rintro e w1 ⟨rfl, rfl⟩
 rw [decide_eq_true (show (0 : Int) ≤ (k : Int) ∧ (k : Int) < 32 by omega)]
 go_wp2_with fail
 go_ret
 exact ⟨rfl, rfl⟩
theorem FreeIn.below {w w' : World} {f mb n : Nat} {R : List Nat} {V : Nat → Value} {S : FL} (hi : FreeIn w f mb n V S)
  (h1 : f ∈ R) (h2 : mb ∈ R) (h3 : ∀ b ∈ R, b < w.heap.size) (h4 : ∀ j, j < 160 → ∀ b, rowOf (V j) = some b → b ∈ R) (hb : Below w.heap.size w w') : FreeIn w' f mb n V S := by
 have hk : ∀ k ∈ R, w'.heap[k]? = w.heap[k]? := fun k hk => hb.block k (h3 k hk)
 obtain ⟨M, hm, hv⟩ := hi.map
 exact ⟨(hk f h1).trans hi.head, ⟨M, hm.block (hk mb h2), hv⟩, fun i hi' => (hi.rows i hi').keep fun b hb => hk b (h4 i hi' b hb), hi.apart, hi.neF, hi.ne⟩
theorem index_int (b off l c i : Nat) (h : i < l) (W : World) : (Instr.indexAt 35 (.slice (some ⟨b, off, none⟩) l c) (.int .i64 (i : Int))).run Tryz.prog W = .ok (.pointer (some ⟨b, off + i, none⟩)) W := by
 have h2 : (sizeOf (Tryz.prog.elem 35)).run Tryz.prog W = .ok 1 W := by
  have e : Tryz.prog.elem 35 = 3 := by kernel_rfl
  rw [e]; exact Tryz.sizeOf3 W
 rw [run_indexAt_slice _ _ _ _ _ _ _ (by kernel_rfl), if_pos (by omega), h2]
 simp [Result.andThen, add_none]
theorem FreeGo.own {w w0 w' : World} {f mb n q : Nat} {R : List Nat} {S : FL} (h : FreeGo w0 w' f mb n R S) (_hq : q = w.heap.size) (hb : Below w.heap.size w w0) : FreeGo w w' f mb n R S := by
 obtain ⟨R', h1, h2, h3⟩ := h
 exact ⟨R', h1, (Touch.ofBelow hb).trans h2, fun b hb' => (h3 b hb').imp id (fun c => Nat.le_trans hb.size c)⟩
set_option maxHeartbeats 4000000 in
set_option maxRecDepth 20000 in
theorem ftake_any {w : World} {f mb n : Nat} {R : List Nat} {S : FL} (h : FreeAt w f mb n R S) (hL : S.upto 1000000) (hn : n < 1000000000000) (m k : Nat) (hm4 : m < 4) (hk : k < 32) :
  Calls Tryz.prog 191 #[vfree f, .int .i64 (m : Int), .int .i64 (k : Int)] w (TookI w f mb (n + 2) R S m k) := by
 have HMem := LH (Mem.one w #[.int .i64 (m : Int), .int .i64 (k : Int)] 288)
 have HF0 := LH (h.below HMem.out.below)
 have HRlt := LH h.mem
 have HUp := LH hL
 have HPost : Hid (∀ w', (TookI w f mb (n + 2) R S m k (.returned (.tuple #[.int .i64 ((S.cell m k).getD 0 : Nat), .int .i64 (if (S.cell m k).isSome then 0 else 4)])) w' ↔ FreeGo w w' f mb (n + 2) R (S.taken m k))) := LH (fun w' => ⟨fun h => h.2, fun h => ⟨rfl, h⟩⟩)
 generalize TookI w f mb (n + 2) R S m k = Post at *
 clear h hL
 go_enter Tryz.func191, Tryz.ntmps191
 go_wp2_with fail
 refine (fright_any m k hm4 hk _).mono ?_
 rintro e w1 ⟨rfl, rfl⟩
 go_upto_region 4 with fail
 have HW0 := LH (below_alloc w (Obj.cells #[.int .i64 (m : Int), .int .i64 (k : Int)] 288))
 generalize hw0 : w.alloc _ = w0 at *
 obtain ⟨q, hq⟩ : ∃ q, q = w.heap.size := ⟨_, rfl⟩
 rw [← hq] at HMem HRlt ⊢
 have HQ := LH hq
 clear hq hw0
 have d0 := HMem.out.cell 0 0 rfl rfl
 have d1 := HMem.out.cell 0 1 rfl rfl
 have HQl := LH (HMem.out.glt 0 rfl)
 obtain ⟨V, hi, h1, h2, h3, h4⟩ := HF0.out
 have HI := LH hi
 have HR1 := LH h1
 have HR2 := LH h2
 have HR3 := LH h3
 have HR4 := LH h4
 have c32 := hi.m
 clear hi h1 h2 h3 h4
 have r0 := fun x => later_cell d0 x
 have r1 := fun x => later_cell d1 x
 have r2 := fun x => later_cell c32 x
 obtain ⟨ac, cc, ec, hcc, hcl, _, hcn⟩ := (HI.out.rows (slotI m k) (by unfold slotI; omega)).cells2
 rw [S.at_c m hk] at ec hcc hcl
 have HCc := LH hcc
 have HEc := LH ec
 clear hcc d0 d1 c32 ec
 obtain ⟨lc, hlc⟩ : ∃ lc, lc = (S.c m k).length := ⟨_, rfl⟩
 rw [← hlc] at HEc hcl
 have HLc := LH hlc
 clear hlc
 have hkey := key_slot (m : Int) (k : Int) (wf_small m (by omega)) (wf_small k (by omega))
 refine wp_region_seg (C := fun w' => ∃ x : Later (w0), w' = x.val) [.fl [0, 1, 2, 3, 4], .sq [5, 6, 7] false] (by kernel_rfl) (by kernel_rfl) (by intro c a d v w h; cases d <;> exact h) ?_
 simp only [segs, picks, List.getElem?_cons_succ, List.getElem?_cons_zero]
 have hC1 := later_drew (w0)
 refine wpSeg_fl hC1 ?_
 repeat (first | go_big_quiet_step (fail) | quiet_step (fail))
 refine wpQuiet_nil ?_
 have HD1 : Hid (Below w0.heap.size w0 w0.drew) := LH (later_below hC1)
 generalize w0.drew = wd at *
 have HId := LH (HI.out.below HR1.out HR2.out HR3.out HR4.out HD1.out)
 obtain ⟨M, hm, hv⟩ := HId.out.map
 have HM := LH hm
 have HVi := LH ((hv m k hm4 hk).trans HEc.out)
 clear hm hv
 refine wpSeg_last ?_
 go_upto_if 26 with (refine wpList_vlook rfl _ _ 252 rfl 288 35 keyed_slot Tryz.underlying252 _ (zero_ints _) mb n M rfl HM.out _ _ rfl hkey ?_; rw [HVi.out])
 go_cut [9, 10] from 27 (fun _ _ wc => Hid (FreeGo w0 wc f mb (n + 1) R (S.fill m k)))
 case first =>
  by_cases hz : lc = 0
  case neg =>
   have hz' : ((lc : Int) == 0) = false := by simpa using hz
   have HGo : Hid (FreeGo w0 wd f mb (n + 1) R (S.fill m k)) := LH (by
    have : S.fill m k = S := by unfold FL.fill; rw [if_neg]; intro e; have := HLc.out; rw [e] at this; exact hz (by simpa using this)
    rw [this]
    exact ((FreeGo.refl HF0.out).later HD1.out).mono (by omega))
   clear hz
   go_wp2_with fail
   go_meet
   case rel => exact HGo
  case pos =>
  subst hz
  have HC0 : Hid (S.c m k = []) := LH (List.length_eq_zero_iff.1 HLc.out.symm)
  obtain ⟨ag, cg, eg, hcg, hgl, _, hgn⟩ := (HId.out.rows k (by omega)).cells2
  rw [S.at_g hk] at eg hcg hgl
  have HOg : Hid (OwnI wd (V k) (S.g k)) := LH (by have := HId.out.rows k (by omega); rwa [S.at_g hk] at this)
  have HEg := LH eg
  have HCg := LH hcg
  have ck := HId.out.g hk
  rw [eg] at ck
  have HLg : Hid ((S.g k).length ≤ 1000000) := LH (by have := HUp.out k (by omega); rwa [S.at_g hk] at this)
  obtain ⟨lg, hlg⟩ : ∃ lg, lg = (S.g k).length := ⟨_, rfl⟩
  rw [← hlg] at ck HLg hgl HEg
  have HLge := LH hlg
  have hlgm := HLg.out
  clear hcg eg hlg
  obtain ⟨mn, hmn⟩ : ∃ mn, mn = min lg 4 := ⟨_, rfl⟩
  have hmn1 : min (lg : Int) 4 = (mn : Int) := by omega
  have hmn2 : (if (4 : Int) < (lg : Int) then 4 else (lg : Int)) = (mn : Int) := by split <;> omega
  have hmn3 : mn ≤ lg := by omega
  have HMn := LH hmn
  clear hmn
  obtain ⟨fr, hfr⟩ : ∃ fr : Nat, fr = lg - mn := ⟨_, rfl⟩
  have hfr1 : (lg : Int) - (mn : Int) = (fr : Int) := by omega
  have hfr2 : fr ≤ lg := by omega
  have HFr := LH hfr
  clear hfr
  go_upto_region 7 with fail
  have HMd := LH (HMem.out.later HD1.out)
  have d0 := HMd.out.cell 0 0 rfl rfl
  have d1 := HMd.out.cell 0 1 rfl rfl
  have c32 := HId.out.m
  have r0 := fun x => later_cell d0 x
  have r1 := fun x => later_cell d1 x
  have r2 := fun x => later_cell c32 x
  have r3 := fun x => later_cell ck x
  clear d0 d1 c32
  refine wp_region_seg (C := fun w' => ∃ x : Later (wd), w' = x.val) [.fl [0, 1, 2, 3, 4, 5, 6, 7, 8, 9, 10, 11, 12], .sq [13] true, .sq [14] false] (by kernel_rfl) (by kernel_rfl) (by intro c a d v w h; cases d <;> exact h) ?_
  simp only [segs, picks, List.getElem?_cons_succ, List.getElem?_cons_zero]
  have hC2 := later_drew (wd)
  refine wpSeg_fl hC2 ?_
  repeat (first | (refine wpQuiet_slice_from el_int (ad := ag) (n := lg) (cap := cg) fr rfl hfr2 hgl rfl rfl rfl rfl ?_) | go_big_quiet_step (fail) | quiet_step (fail))
  refine wpQuiet_nil ?_
  clear r0 r1 r2 r3
  obtain ⟨sa, hsa⟩ : ∃ sa, sa = (if cg = fr then ag else ag.map (·.add (fr * 1))) := ⟨_, rfl⟩
  rw [← hsa]
  obtain ⟨sl, hsl⟩ : ∃ sl, sl = lg - fr := ⟨_, rfl⟩
  rw [← hsl]
  obtain ⟨sc, hsc⟩ : ∃ sc, sc = cg - fr := ⟨_, rfl⟩
  rw [← hsc]
  have HD2 : Hid (Below wd.heap.size wd wd.drew) := LH (later_below hC2)
  have HCl : Hid (Calls Tryz.prog 204 #[.slice sa sl sc] wd.drew (NewI wd.drew ((S.g k).drop fr))) := LH (by
   refine cloneI_any _ _ _ _ (by rw [List.length_drop, ← HLge.out, hsl]) ?_ (by rw [List.length_drop, ← HLge.out]; omega) (fun h => ?_)
   ·rw [List.map_drop, hsa, Nat.mul_one]
    exact (HCg.out.below HD2.out (Nat.le_refl _)).shift fr _ (fun e => by rw [List.length_map, ← HLge.out]; omega)
   ·by_cases e : cg = fr
    ·omega
    ·rw [hsa, if_neg e] at h
     cases ag with
     | none => have := hgn rfl; omega
     | some d => cases h)
  generalize wd.drew = we at *
  clear hsa hsl hsc
  refine wpSeg_sq (fun K hK => ?_)
  go_wp2_with fail
  refine HCl.out.mono ?_
  rintro e w3 ⟨v3, rfl, ho3, hr3, hb3⟩
  have HO3 := LH ho3
  have HR3' := LH hr3
  have HB3 : Hid (Below wd.heap.size wd w3) := LH (HD2.out.trans (hb3.mono HD2.out.size))
  have HWe := LH HD2.out.size
  have hC3 := later_step hC2 hb3
  clear ho3 hr3 hb3
  go_wp2_with fail
  refine hK _ _ (fun _ => hC3) ?_
  clear hK K
  have HI3 := LH (HI.out.below HR1.out HR2.out HR3.out HR4.out (HD1.out.trans (HB3.out.mono HD1.out.size)))
  obtain ⟨M3, hm3, hv3⟩ := HI3.out.map
  have HM3 := LH hm3
  have HV3 := LH hv3
  have HNm : Hid (n < maxLen) := LH (by unfold maxLen; omega)
  clear hm3 hv3
  refine wpSeg_last ?_
  go_wp2_with (refine wpList_vstore rfl _ _ _ 252 rfl 288 35 keyed_slot Tryz.underlying252 mb n M3 rfl HM3.out HNm.out _ _ _ rfl rfl hkey ?_; intro w4 hm4' hg4; have HM4 := LH hm4'; have HG4 := LH hg4; clear hm4' hg4)
  have HFV0 : Hid (FreeV w0 f mb n V R S) := LH ⟨HI.out, HR1.out, HR2.out, HR3.out, HR4.out⟩
  have HB03 : Hid (Below w0.heap.size w0 w3) := LH (HD1.out.trans (HB3.out.mono HD1.out.size))
  have hr03 : ∀ b, rowOf v3 = some b → rowOf (V (slotI m k)) = some b ∨ w0.heap.size ≤ b := fun b hb => .inr (Nat.le_trans (Nat.le_trans HD1.out.size HWe.out) (HR3'.out b hb))
  have hst1 := step_c (o := some v3) HI.out hm4 hk HR1.out HR2.out HR3.out HV3.out HB03.out HM4.out rfl HG4.out HO3.out hr03
  have hos1 : w4.os = w0.os ∧ w4.tape = w0.tape ∧ w4.output = w0.output := ⟨HG4.out.os.trans HB03.out.os, HG4.out.tape.trans HB03.out.tape, HG4.out.output.trans HB03.out.output⟩
  have hsl : slotI m k < 160 := by unfold slotI; omega
  have HFV4 := LH (HFV0.out.step hsl hst1)
  have HT4 := LH (hst1.touch HFV0.out hsl hos1)
  have HVk : Hid ((if k = slotI m k then v3 else V k) = .slice ag lg cg) := LH (by rw [if_neg (by unfold slotI; omega)]; exact HEg.out)
  have HOk : Hid (OwnI w4 (.slice ag lg cg) (S.g k)) := LH (by
   have := HFV4.out.inn.rows k (by omega)
   rw [FL.at_g _ hk] at this
   rw [← HVk.out]; exact this)
  have ck4 : w4.cell? ⟨f, k, none⟩ = some (.slice ag lg cg) := (HFV4.out.inn.g hk).trans (congrArg some HVk.out)
  clear hst1 hos1 hr03 hC3 hC2 ck
  go_upto_region 8 with fail
  have r0 := fun x => later_cell ck4 x
  clear ck4
  refine wp_region_seg (C := fun w' => ∃ x : Later (w4), w' = x.val) [.fl [0, 1, 2, 3, 4, 5, 6, 7, 8, 9, 10, 11], .sq [12, 13] false] (by kernel_rfl) (by kernel_rfl) (by intro c a d v w h; cases d <;> exact h) ?_
  simp only [segs, picks, List.getElem?_cons_succ, List.getElem?_cons_zero]
  have hC5 := later_drew (w4)
  refine wpSeg_fl hC5 ?_
  repeat (first | (refine wpQuiet_slice_to el_int (ad := ag) (n := lg) (cap := cg) fr rfl hfr2 hgl rfl rfl rfl rfl ?_) | go_big_quiet_step (fail) | quiet_step (fail))
  refine wpQuiet_nil ?_
  clear r0
  have HD5 : Hid (Below w4.heap.size w4 w4.drew) := LH (later_below hC5)
  have HF5 : Hid (w4.drew.heap[f]? = w4.heap[f]?) := LH (HD5.out.block f (HFV4.out.lt f HFV4.out.f))
  have hst2 := step_g HFV4.out.inn hk HFV4.out.f HFV4.out.mb HFV4.out.lt HD5.out (grown_self _ _) ((HOk.out.keep (fun b hb => HD5.out.block b (HOk.out.lt b hb))).cutN HLge.out hfr2) (fun b hb => .inl (by
   rw [rowOf_cut ag fr lg cg] at hb
   exact (congrArg rowOf HVk.out).trans hb))
  have HGo : Hid (FreeGo w0 (w4.drew.setCell ⟨f, k, none⟩ (.slice ag fr cg)) f mb (n + 1) R (S.fill m k)) := LH (by
   have e : S.fill m k = (S.setC m k ((S.g k).drop fr)).setG k ((S.g k).take fr) := by
    unfold FL.fill
    rw [if_pos HC0.out, ← HLge.out, ← HMn.out, ← HFr.out]
    rfl
   rw [e]
   exact FreeGo.more HT4.out.1 HT4.out.2 HFV4.out (by omega) hst2 ⟨HD5.out.os, HD5.out.tape, HD5.out.output⟩)
  have fr5 : w4.drew.frozen? ⟨f, k, none⟩ = false := frozen_of_row _ _ _ _ _ (HF5.out.trans HFV4.out.inn.head)
  have ck5 : w4.drew.cell? ⟨f, k, none⟩ = some (.slice ag lg cg) := (cell_of_row _ _ k _ _ _ (HF5.out.trans HFV4.out.inn.head)).trans ((HFV4.out.inn.lt hk).trans (congrArg some HVk.out))
  clear hst2
  refine wpSeg_last ?_
  go_wp2_with fail
  go_meet
  case rel => exact HGo
 case rest =>
  have HGo := hcut
  have HRow0 := LH (HMem.out.at 0 rfl)
  clear hcut HMem HEc HCc HLc hcl hcn
  obtain ⟨T, hT⟩ : ∃ T, T = S.fill m k := ⟨_, rfl⟩
  have HCell : Hid (S.cell m k = (T.c m k).getLast? ∧ S.taken m k = T.setC m k (T.c m k).dropLast) := LH (by subst hT; exact ⟨rfl, rfl⟩)
  rw [← hT] at HGo
  have HTu : Hid ((T.c m k).length ≤ 1000000) := LH (by
   rw [hT]
   unfold FL.fill
   have h1 := HUp.out k (by omega)
   have h2 := HUp.out (slotI m k) (by unfold slotI; omega)
   rw [S.at_g hk] at h1
   rw [S.at_c m hk] at h2
   split
   ·rw [FL.setC_c, if_pos ⟨rfl, rfl⟩, List.length_drop]; omega
   ·exact h2)
  clear hT
  obtain ⟨R1, hfa, ht1, hr1⟩ := HGo.out
  obtain ⟨V1, hfv⟩ := hfa.v
  have HFV := LH hfv
  have HT1 := LH ht1
  have HR1' := LH hr1
  have HRow : Hid (RowAt wc q 288 [.int .i64 (m : Int), .int .i64 (k : Int)]) := LH (HRow0.out.keep (ht1.block q HQl.out (fun hm => Nat.lt_irrefl _ (HRlt.out q hm))))
  clear hfa hfv ht1 hr1 HGo
  have d0 := HRow.out.cell (i := 0) rfl
  have d1 := HRow.out.cell (i := 1) rfl
  have c32 := HFV.out.inn.m
  have r0 := fun x => later_cell d0 x
  have r1 := fun x => later_cell d1 x
  have r2 := fun x => later_cell c32 x
  obtain ⟨ao, co, eo, hco, hol, _, _⟩ := (HFV.out.inn.rows (slotI m k) (by unfold slotI; omega)).cells2
  rw [T.at_c m hk] at eo hco hol
  have HCo := LH hco
  have HEo := LH eo
  clear hco d0 d1 c32 eo
  obtain ⟨lo, hlo⟩ : ∃ lo, lo = (T.c m k).length := ⟨_, rfl⟩
  rw [← hlo] at HEo hol HTu
  have HLo := LH hlo
  have hlom := HTu.out
  clear hlo
  go_upto_region 9 with fail
  refine wp_region_seg (C := fun w' => ∃ x : Later (wc), w' = x.val) [.fl [0, 1, 2, 3, 4], .sq [5, 6] false] (by kernel_rfl) (by kernel_rfl) (by intro c a d v w h; cases d <;> exact h) ?_
  simp only [segs, picks, List.getElem?_cons_succ, List.getElem?_cons_zero]
  have hC1 := later_drew (wc)
  refine wpSeg_fl hC1 ?_
  repeat (first | go_big_quiet_step (fail) | quiet_step (fail))
  refine wpQuiet_nil ?_
  have HD6 : Hid (Below wc.heap.size wc wc.drew) := LH (later_below hC1)
  generalize wc.drew = wd at *
  have HFd := LH (HFV.out.below HD6.out)
  obtain ⟨M, hm, hv⟩ := HFd.out.inn.map
  have HM := LH hm
  have HV := LH hv
  have HVi := LH ((hv m k hm4 hk).trans HEo.out)
  clear hm hv
  by_cases hz : lo = 0
  ·subst hz
   have HE : Hid (S.cell m k = none ∧ S.taken m k = T) := LH (by
    have h0 : T.c m k = [] := List.length_eq_zero_iff.1 HLo.out.symm
    refine ⟨by rw [HCell.out.1, h0]; rfl, ?_⟩
    rw [HCell.out.2]
    have := T.setC_same m k
    rw [h0] at this ⊢
    exact this)
   clear hol hlom
   refine wpSeg_last ?_
   go_wp2_with (refine wpList_vlook rfl _ _ 252 rfl 288 35 keyed_slot Tryz.underlying252 _ (zero_ints _) mb (n + 1) M rfl HM.out _ _ rfl hkey ?_; rw [HVi.out])
   have hp := (HPost.out wd).2 (by
    rw [HE.out.2]
    refine FreeGo.own ?_ HQ.out HW0.out
    exact ⟨R1, (HFd.out.at).mono (by omega), HT1.out.later HD6.out, HR1'.out⟩)
   rw [HE.out.1] at hp
   exact hp
  obtain ⟨lm, hlm⟩ : ∃ lm, lo = lm + 1 := ⟨lo - 1, by omega⟩
  have hz1 : (lo : Int) - 1 = (lm : Int) := by omega
  have hz2 : ((lo : Int) == 0) = false := by simp; omega
  have hlm1 : lm ≤ lo := by omega
  have hlt1 : lm < lo := by omega
  have HLm := LH hlm
  clear hlm
  clear hz
  obtain ⟨x, hx⟩ : ∃ x, (T.c m k)[lm]? = some x := ⟨_, List.getElem?_eq_getElem (by have := HLo.out; omega)⟩
  have HX := LH hx
  clear hx
  refine wpSeg_last ?_
  go_wp2_with (refine wpList_vlook rfl _ _ 252 rfl 288 35 keyed_slot Tryz.underlying252 _ (zero_ints _) mb (n + 1) M rfl HM.out _ _ rfl hkey ?_; rw [HVi.out])
  go_upto_region 12 with fail
  clear r0 r1 r2
  have HRowd := LH (HRow.out.keep (HD6.out.block q HRow.out.lt))
  have d0 := HRowd.out.cell (i := 0) rfl
  have d1 := HRowd.out.cell (i := 1) rfl
  have c32 := HFd.out.inn.m
  have r0 := fun x => later_cell d0 x
  have r1 := fun x => later_cell d1 x
  have r2 := fun x => later_cell c32 x
  clear d0 d1 c32
  refine wp_region_seg (C := fun w' => ∃ x : Later (wd), w' = x.val) [.fl [0, 1, 2, 3, 4, 5, 6, 7, 8, 9], .sq [10] false] (by kernel_rfl) (by kernel_rfl) (by intro c a d v w h; cases d <;> exact h) ?_
  simp only [segs, picks, List.getElem?_cons_succ, List.getElem?_cons_zero]
  have hC7 := later_drew (wd)
  refine wpSeg_fl hC7 ?_
  repeat (first | (refine wpQuiet_slice_to el_int (ad := ao) (n := lo) (cap := co) lm hz1 hlm1 hol rfl rfl rfl rfl ?_) | go_big_quiet_step (fail) | quiet_step (fail))
  refine wpQuiet_nil ?_
  clear r0 r1 r2
  have HD7 : Hid (Below wd.heap.size wd wd.drew) := LH (later_below hC7)
  generalize wd.drew = we at *
  have HFe := LH (HFd.out.below HD7.out)
  obtain ⟨M2, hm2, hv2⟩ := HFe.out.inn.map
  have HM2 := LH hm2
  have HV2 := LH hv2
  have HNm : Hid (n + 1 < maxLen) := LH (by unfold maxLen; omega)
  clear hm2 hv2
  refine wpSeg_last ?_
  go_wp2_with (refine wpList_vstore rfl _ _ _ 252 rfl 288 35 keyed_slot Tryz.underlying252 mb (n + 1) M2 rfl HM2.out HNm.out _ _ _ rfl rfl hkey ?_; intro w8 hm8 hg8; have HM8 := LH hm8; have HG8 := LH hg8; clear hm8 hg8)
  have hsl : slotI m k < 160 := by unfold slotI; omega
  have HOe : Hid (OwnI we (.slice ao lo co) (T.c m k)) := LH (by
   have := HFe.out.inn.rows (slotI m k) hsl
   rw [T.at_c m hk, HEo.out] at this
   exact this)
  have HO8 : Hid (OwnI w8 (.slice ao lo co) (T.c m k)) := LH (HOe.out.keep (fun b hb => HG8.out.block b (HOe.out.lt b hb) (fun e => by
   have h1 := (HFe.out.inn.neF (slotI m k) hsl).2
   rw [HEo.out] at h1
   exact h1 (by rw [hb]; exact e))))
  have hcx : ∃ b off, ao = some ⟨b, off, none⟩ ∧ w8.cell? ⟨b, off + lm, none⟩ = some (.int .i64 (x : Int)) := by
   obtain ⟨a', c', e', hc', _⟩ := HO8.out.cells
   injection e' with e1 e2 e3
   subst e1
   rcases hc' with h | ⟨b, off, e, h⟩
   ·exfalso
    have := congrArg List.length h
    rw [List.length_map, ← HLo.out] at this
    simp at this; omega
   ·exact ⟨b, off, e, h lm _ (by rw [List.getElem?_map, HX.out]; rfl)⟩
  obtain ⟨b, off, rfl, hcx⟩ := hcx
  have hst := step_c (o := some (.slice (some ⟨b, off, none⟩) lm co)) HFe.out.inn hm4 hk HFe.out.f HFe.out.mb HFe.out.lt HV2.out (Below.refl _ _) HM8.out rfl HG8.out (HOe.out.cutN HLo.out hlm1) (fun b' hb => .inl (by
   rw [HEo.out]
   exact (rowOf_cut _ _ _ _).trans hb))
  have hgo := FreeGo.more (((HT1.out.later HD6.out).later HD7.out)) HR1'.out HFe.out hsl hst ⟨HG8.out.os, HG8.out.tape, HG8.out.output⟩
  have HFin : Hid (S.cell m k = some x ∧ FreeGo w w8 f mb (n + 2) R (S.taken m k)) := LH (by
   refine ⟨by rw [HCell.out.1, List.getLast?_eq_getElem?, ← HLo.out, HLm.out]; exact HX.out, ?_⟩
   rw [HCell.out.2, show (T.c m k).dropLast = (T.c m k).take lm by rw [List.dropLast_eq_take, ← HLo.out, HLm.out]; rfl]
   exact hgo.own HQ.out HW0.out)
  clear hst hgo
  have hix := index_int b off lo co lm hlt1
  go_wp2_with fail
  rw [hix]
  go_wp2_with fail
  have hp := (HPost.out w8).2 HFin.out.2
  rw [HFin.out.1] at hp
  exact hp
end Go.Proofs.YtbimcogdbafjpaaGreat
namespace Go.Proofs.YtbimcogdbafjpaaGreat
open Go.Maps Go.ChangeMaps Go.MapKept Go.WideElems
section
variable {P : Program} {k e t : TypeId} {w : World} {b n : Nat} {M : Lit → Option Value}
theorem ventry_store_at {es : Array MapEntry} {clock j : Nat} {e0 : MapEntry} (hb : w.heap[b]? = some (.map es clock)) (hn : (es.toList.map (·.born)).Nodup) (hj : es.toList[j]? = some e0) (val : Value) :
  (Instr.entryStore t (.map (some b)) (goInt e0.born) val).run P w = .ok () (setBlock w b (.map (es.modify j fun e => { e with val := val }) clock)) := by
 have hidx : es.findIdx? (fun e => ((e.born : Nat) : Int) == ((e0.born : Nat) : Int)) = some j := by
  rw [findIdx_arr]; exact findIdx_born hn hj
 simp [Instr.entryStore, MapKept.run_getObj_map hb, asInt, asIntOf, goInt, hidx, MapKept.run_setObj_map _ hb, Result.andThen, setBlock]
def VPend (P : Program) (k t : TypeId) (w : World) (b n : Nat) (M : Lit → Option Value) (kl : Lit) (st : Nat) : Prop :=
 ∃ (es1 : Array MapEntry) (clock1 : Nat), w.heap[b]? = some (.map es1 clock1) ∧
  ∀ (w2 : World) (c : Value), w2.heap[b]? = some (.map es1 clock1) → ∃ es' clock', (Instr.entryStore t (.map (some b)) (goInt st) c).run P w2 = .ok () (setBlock w2 b (.map es' clock')) ∧
   VMap P k (setBlock w2 b (.map es' clock')) b (n + 1) (putL M kl (some c))
theorem vmap_entry (h : VMap P k w b n M) (K : Keyed P k) (ht : P.underlying t = some (.map k e)) {z : Value} (hz : ∀ u : World, (zeroValue e).run P u = .ok z u) (hn : n < maxLen) {key : Value} {kl : Lit} (hkey : keyOf P k key = some kl) :
  ∃ (st : Nat) (w1 : World), (Instr.mapEntry t (.map (some b)) key).run P w = .ok (.tuple #[(M kl).getD z, goInt st]) w1 ∧ VPend P k t w1 b n M kl st ∧ w.grownBy w1 (some b) := by
 have hgs : ∀ (x : Obj), w.grownBy (setBlock w b x) (some b) := fun x =>
  ⟨rfl, rfl, rfl, by simp [setBlock], fun i hi hne => by
   have : i ≠ b := fun e => hne (by rw [e])
   simp [setBlock, Ne.symm this]⟩
 have hlk := h.look K ht (hz w) hkey
 have hlt := h.lt
 obtain ⟨D, ho, hT⟩ := h
 have hup : ∀ c : Value, ∃ w', (Instr.mapUpdate t (.map (some b)) key c).run P w = .ok () w' ∧ VMap P k w' b (n + 1) (putL M kl (some c)) := fun c => by
  obtain ⟨w', h1, h2, _⟩ := ho.update K ht hn hkey (val := c) (d := .held c) (ps := []) rfl
  exact ⟨w', h1, _, h2, hT.put (K.key hkey) c⟩
 have hmove : ∀ (w2 : World) (c : Value) (es' : Array MapEntry) (clock' : Nat) (e2 : Array MapEntry) (c2 : Nat), w2.heap[b]? = some (.map e2 c2) →
   (Instr.mapUpdate t (.map (some b)) key c).run P w = .ok () (setBlock w b (.map es' clock')) → VMap P k (setBlock w2 b (.map es' clock')) b (n + 1) (putL M kl (some c)) := by
  intro w2 c es' clock' e2 c2 h2 hrun
  obtain ⟨w', h3, h4⟩ := hup c
  rw [hrun] at h3
  injection h3 with _ h5
  rw [← h5] at h4
  obtain ⟨es, clock, hb, _⟩ := ho
  exact h4.block ((heap_setBlock_same h2 _).trans (heap_setBlock_same hb _).symm)
 obtain ⟨es, clock, hb, F, _, _⟩ := ho
 obtain ⟨s1, s2, _⟩ := F.stamped
 rcases K.find w hkey es.toList F.keys with ⟨h1, h2⟩ | ⟨j, e0, h1, h2, h3⟩
 ·have hlast : (es.push ⟨key, z, clock⟩).toList[es.size]? = some ⟨key, z, clock⟩ := by simp
  have hnd : ((es.push ⟨key, z, clock⟩).toList.map (·.born)).Nodup := by
   rw [Array.toList_push, List.map_append]
   refine List.nodup_append.2 ⟨s2, by simp, fun a ha c hc e => ?_⟩
   obtain ⟨x, hx, rfl⟩ := List.mem_map.1 ha
   have := s1 x hx
   simp at hc; omega
  have hv : (M kl).getD z = z := by
   simp [Instr.lookup, run_underlying ht, MapKept.run_getObj_map hb, K.check w es.isEmpty hkey, h1, hz, Result.andThen] at hlk
   exact hlk.symm
  refine ⟨clock, _, ?_, ⟨_, clock + 1, heap_setBlock_same hb _, fun w2 c hw2 => ⟨_, _, ventry_store_at hw2 hnd hlast _, hmove w2 c _ _ _ _ hw2 ?_⟩⟩, hgs _⟩
  ·rw [hv]
   simp [Instr.mapEntry, run_underlying ht, MapKept.run_getObj_map hb, K.check w false hkey, h1, hz, MapKept.run_setObj_map _ hb, Result.andThen, setBlock]
  ·have hmod : (es.push ⟨key, z, clock⟩).modify es.size (fun e => { e with val := c }) = es.push ⟨key, c, clock⟩ := by
    apply Array.ext'
    rw [Array.toList_modify, Array.toList_push, Array.toList_push, ← Array.length_toList, modify_last]
   rw [hmod]
   simp [Instr.mapUpdate, run_underlying ht, MapKept.run_getObj_map hb, K.check w false hkey, h1, MapKept.run_setObj_map _ hb, Result.andThen, setBlock]
 ·have hj : es[j]? = some e0 := by simpa using h2
  have hsame : es.modify j (fun e => { e with key := key }) = es := by
   apply Array.ext'
   rw [Array.toList_modify, modify_eq_set _ _ _ _ h2, show ({ e0 with key := key } : MapEntry) = e0 by rw [← h3]]
   exact set_self _ _ _ h2
  have hv : (M kl).getD z = e0.val := by
   simp [Instr.lookup, run_underlying ht, MapKept.run_getObj_map hb, K.check w es.isEmpty hkey, h1, hj, Result.andThen] at hlk
   exact hlk.symm
  refine ⟨e0.born, _, ?_, ⟨es, clock, heap_setBlock_same hb _, fun w2 c hw2 => ⟨_, _, ventry_store_at hw2 s2 h2 _, hmove w2 c _ _ _ _ hw2 ?_⟩⟩, hgs _⟩
  ·rw [hv]
   simp [Instr.mapEntry, run_underlying ht, MapKept.run_getObj_map hb, K.check w false hkey, h1, hj, h3, K.stays w hkey, hsame, MapKept.run_setObj_map _ hb, Result.andThen, setBlock]
  ·have hmod : es.modify j (fun e => { e with val := c }) = es.modify j (fun e' => { e' with key := key, val := c }) := by
    apply Array.ext'
    rw [Array.toList_modify, Array.toList_modify, modify_eq_set _ _ _ _ h2, modify_eq_set _ _ _ _ h2, ← h3]
   rw [hmod]
   simp [Instr.mapUpdate, run_underlying ht, MapKept.run_getObj_map hb, K.check w false hkey, h1, hj, h3, K.stays w hkey, MapKept.run_setObj_map _ hb, Result.andThen, setBlock]
theorem VPend.block {kl : Lit} {st : Nat} (h : VPend P k t w b n M kl st) {w' : World} (he : w'.heap[b]? = w.heap[b]?) : VPend P k t w' b n M kl st := by
 obtain ⟨es1, clock1, h1, h2⟩ := h
 exact ⟨es1, clock1, he.trans h1, h2⟩
variable {ops : Array Oper} {rest : List Oper} {o : Oper} {a : Act} {Q : Exit → Act → World → Prop}
theorem wpList_ventry (hg : o.guard = none) (m x : Operand) (t : TypeId) (hop : o.op = Op.mapEntry t m x)
  (k e : TypeId) (K : Keyed P k) (ht : P.underlying t = some (.map k e)) (z : Value) (hz : ∀ u : World, (zeroValue e).run P u = .ok z u) (b n : Nat) (M : Lit → Option Value)
  (hm : a.eval m = .map (some b)) (hown : VMap P k w b n M) (hn : n < maxLen) (key : Value) (kl : Lit) (hx : a.eval x = key) (hkey : keyOf P k key = some kl)
  (hK : ∀ w' st, VPend P k t w' b n M kl st → w.grownBy w' (some b) → wpList P ops Q rest (a.put o.dst (.tuple #[(M kl).getD z, goInt st])) w') :
  wpList P ops Q (o :: rest) a w := by
 refine wpList_plain hg fun K' hK' => ?_
 obtain ⟨st, w1, h1, h2, h3⟩ := vmap_entry hown K ht hz hn hkey
 unfold Oper.wp
 simp [execOp, hop, hm, hx, h1, Result.andThen]
 exact hK' _ _ (hK _ st h2 h3)
theorem wpList_ventryStore (hg : o.guard = none) (m s x : Operand) (t : TypeId) (hop : o.op = Op.entryStore t m s x)
  (k : TypeId) (b n : Nat) (M : Lit → Option Value) (kl : Lit) (st : Nat) (c : Value)
  (hm : a.eval m = .map (some b)) (hs : a.eval s = goInt st) (hx : a.eval x = c) (hp : VPend P k t w b n M kl st)
  (hK : ∀ w', VMap P k w' b (n + 1) (putL M kl (some c)) → w.grownBy w' (some b) → wpList P ops Q rest (a.put o.dst undef) w') :
  wpList P ops Q (o :: rest) a w := by
 refine wpList_plain hg fun K' hK' => ?_
 obtain ⟨es1, clock1, h1, h2⟩ := hp
 obtain ⟨es', clock', h3, h4⟩ := h2 w c h1
 have hgs : w.grownBy (setBlock w b (.map es' clock')) (some b) :=
  ⟨rfl, rfl, rfl, by simp [setBlock], fun i hi hne => by
   have : i ≠ b := fun e => hne (by rw [e])
   simp [setBlock, Ne.symm this]⟩
 unfold Oper.wp
 simp [execOp, hop, hm, hs, hx, h3, Result.andThen]
 exact hK' _ _ (hK _ h4 hgs)
end
end Go.Proofs.YtbimcogdbafjpaaGreat
namespace Go.Proofs.YtbimcogdbafjpaaGreat
open Go.RowKit Go.Maps
theorem Cells.touchM {w w' : World} {a : Option Addr} {vs : List Value} {L : List Nat} (h : Cells w a vs) (ht : Touch L w w') (hne : ∀ x, a = some x → x.block < w.heap.size → x.block ∉ L) : Cells w' a vs := by
 rcases h with h | ⟨b, off, rfl, h⟩
 ·exact .inl h
 ·exact .inr ⟨b, off, rfl, fun i v hi => cell_of_touch ht (show (⟨b, off + i, none⟩ : Addr).block ∉ L from hne ⟨b, off, none⟩ rfl (show b < w.heap.size from World.block_lt_of_cell? w ⟨b, off + i, none⟩ (h i v hi))) (h i v hi)⟩
theorem step_ca {w w1 : World} {f mb n n' : Nat} {R : List Nat} {V : Nat → Value} {S : FL} {m k : Nat} {v : Value} {xs : List Nat} (hi : FreeIn w f mb n V S) (hm : m < 4) (hk : k < 32)
  (h1 : f ∈ R) (h2 : mb ∈ R) (h3 : ∀ b ∈ R, b < w.heap.size) {M : Lit → Option Value} (hM : ∀ m k : Nat, m < 4 → k < 32 → (M (pairKey m k)).getD (.slice none 0 0) = V (slotI m k))
  (hb : ∀ b, b < w.heap.size → b ≠ mb → rowOf (V (slotI m k)) ≠ some b → w1.heap[b]? = w.heap[b]?) (hsz : w.heap.size ≤ w1.heap.size)
  (hw : VMap Tryz.prog 288 w1 mb n' (putL M (pairKey m k) (some v))) (hv : OwnI w1 v xs) (hrow : ∀ b, rowOf v = some b → rowOf (V (slotI m k)) = some b ∨ w.heap.size ≤ b) :
  Step1 w w1 f mb n' V S (S.setC m k xs) (slotI m k) v xs := by
 have hfl := h3 f h1
 have hsl : slotI m k < 160 := by unfold slotI; omega
 refine ⟨?_, ⟨_, hw, fun m' k' hm' hk' => ?_⟩, hv, hrow, fun b hbl h5 h6 h7 => hb b hbl h6 h7, hsz, fun j hj => ?_⟩
 ·rw [hb f hfl hi.ne (hi.neF _ hsl).1, hi.head]
  have : (List.range 32).map (fun j => if j = slotI m k then v else V j) = (List.range 32).map V := List.map_congr_left (fun j hj => by
   have := List.mem_range.1 hj
   rw [if_neg (by unfold slotI; omega)])
  rw [this]
 ·by_cases e : m' = m ∧ k' = k
  ·obtain ⟨rfl, rfl⟩ := e
   rw [putL_same, if_pos rfl]; rfl
  ·rw [putL_other _ (fun c => e (by
    have := key_inj (wf_small m' (by omega)) (wf_small k' (by omega)) (wf_small m (by omega)) (wf_small k (by omega)) c
    omega)), hM m' k' hm' hk', if_neg (by unfold slotI; omega)]
 ·unfold FL.at
  simp only [FL.setC_g, FL.setC_c]
  by_cases e : j < 32
  ·rw [if_pos e, if_pos e, if_neg (by unfold slotI; omega)]
  ·rw [if_neg e, if_neg e]
   by_cases e2 : (j - 32) / 32 = m ∧ (j - 32) % 32 = k
   ·rw [if_pos e2, if_pos (by unfold slotI; omega)]
   ·rw [if_neg e2, if_neg (by unfold slotI; omega)]
def PutI (w : World) (f mb n : Nat) (R : List Nat) (S : FL) (m k a : Nat) : Ending → World → Prop := fun e w' => e = .returned (.int .i64 (if S.has k a then 41 else 0)) ∧ FreeGo w w' f mb n R (S.put m k a)
set_option maxHeartbeats 4000000 in
set_option maxRecDepth 20000 in
theorem fput_any {w : World} {f mb n : Nat} {R : List Nat} {S : FL} (h : FreeAt w f mb n R S) (hL : S.upto 900000) (hn : n < 1000000000000) (m k a : Nat) (hm4 : m < 4) (hk : k < 32) :
  Calls Tryz.prog 160 #[vfree f, .int .i64 (m : Int), .int .i64 (k : Int), .int .i64 (a : Int)] w (PutI w f mb (n + 2) R S m k a) := by
 have HMem := LH (Mem.one w #[.int .i64 (m : Int), .int .i64 (k : Int)] 288)
 have HF0 := LH (h.below HMem.out.below)
 have HF := LH h
 have HHas := LH (fhas_any h (hL.mono (by omega)) k a hk)
 have HRlt := LH h.mem
 have HUp := LH hL
 have HP : Hid (∀ x w', x = (if S.has k a then 41 else 0) → FreeGo w w' f mb (n + 2) R (S.put m k a) → PutI w f mb (n + 2) R S m k a (.returned (.int .i64 x)) w') := LH (fun x w' h1 h2 => by subst h1; exact ⟨rfl, h2⟩)
 generalize PutI w f mb (n + 2) R S m k a = Post at *
 clear h hL
 go_enter Tryz.func160, Tryz.ntmps160
 go_wp2_with fail
 refine (fright_any m k hm4 hk _).mono ?_
 rintro e w1 ⟨rfl, rfl⟩
 go_wp2_with fail
 refine HHas.out.mono ?_
 rintro e w1 ⟨rfl, rfl⟩
 cases hh : S.has k a with
 | true =>
  have HE : Hid (41 = (if S.has k a then (41 : Int) else 0) ∧ FreeGo w w f mb (n + 2) R (S.put m k a)) := LH ⟨by rw [hh]; rfl, by unfold FL.put; rw [hh]; exact (FreeGo.refl HF.out).mono (by omega)⟩
  clear hh
  go_wp2_with fail
  exact HP.out _ _ HE.out.1 HE.out.2
 | false =>
 have HE0 : Hid (0 = (if S.has k a then (41 : Int) else 0)) := LH (by rw [hh]; rfl)
 obtain ⟨T, hT⟩ : ∃ T, T = S.c m k ++ [a] := ⟨_, rfl⟩
 have HPut : Hid (S.put m k a = if 8 < T.length then (S.setG k (S.g k ++ T.take (T.length / 2))).setC m k (T.drop (T.length / 2)) else S.setC m k T) := LH (by unfold FL.put; rw [hh, hT]; rfl)
 have HT := LH hT
 clear hh hT
 go_upto_region 6 with fail
 have HW0 := LH (below_alloc w (Obj.cells #[.int .i64 (m : Int), .int .i64 (k : Int)] 288))
 generalize w.alloc _ = w0 at *
 obtain ⟨q, hq⟩ : ∃ q, q = w.heap.size := ⟨_, rfl⟩
 rw [← hq] at HMem HRlt ⊢
 have HQ := LH hq
 clear hq
 obtain ⟨V, hfv⟩ := HF0.out.v
 have HFV := LH hfv
 clear hfv
 obtain ⟨sl, hsl⟩ : ∃ sl, sl = slotI m k := ⟨_, rfl⟩
 have hsl160 : Hid (sl < 160 ∧ 32 ≤ sl) := LH (by rw [hsl]; unfold slotI; omega)
 have HSl := LH hsl
 have HLs : Hid ((S.c m k).length ≤ 900000) := LH (by have := HUp.out (slotI m k) (by unfold slotI; omega); rwa [S.at_c m hk] at this)
 have HLg : Hid ((S.g k).length ≤ 900000) := LH (by have := HUp.out k (by omega); rwa [S.at_g hk] at this)
 have HOs : Hid (OwnI w0 (V sl) (S.c m k)) := LH (by have := HFV.out.inn.rows (slotI m k) (by unfold slotI; omega); rwa [S.at_c m hk, ← hsl] at this)
 clear hsl
 have hkey := key_slot (m : Int) (k : Int) (wf_small m (by omega)) (wf_small k (by omega))
 have hqn : q ∉ mb :: (rowOf (V sl)).toList := fun hm => by
  rcases List.mem_cons.1 hm with e | e
  ·exact Nat.lt_irrefl _ (by have := HRlt.out mb HFV.out.mb; rw [← e] at this; exact this)
  ·exact Nat.lt_irrefl q (HRlt.out q (HFV.out.rows sl hsl160.out.1 q (by simpa using e)))
 have hfn : f ∉ mb :: (rowOf (V sl)).toList := fun hm => by
  rcases List.mem_cons.1 hm with e | e
  ·exact HFV.out.inn.ne e
  ·exact (HFV.out.inn.neF sl hsl160.out.1).1 (by simpa using e)
 have r0 := fun x => near_cell (L := mb :: (rowOf (V sl)).toList) (HMem.out.cell 0 0 rfl rfl) hqn x
 have r1 := fun x => near_cell (L := mb :: (rowOf (V sl)).toList) (HMem.out.cell 0 1 rfl rfl) hqn x
 have r2 := fun x => near_cell (L := mb :: (rowOf (V sl)).toList) HFV.out.inn.m hfn x
 have hC1 : ∃ x : Near (mb :: (rowOf (V sl)).toList) w0, w0.drew = x.val := near_of (Touch.ofBelow (later_below (later_drew w0)))
 have HD0 : Hid (Below w0.heap.size w0 w0.drew) := LH (later_below (later_drew w0))
 clear hqn hfn
 refine wp_region_seg (C := fun w' => ∃ x : Near (mb :: (rowOf (V sl)).toList) w0, w' = x.val) [.fl [0, 1, 2, 3, 4, 5], .sq [6] true, .sq [7] false, .fl [8, 10], .sq [9] true, .sq [11] false] (by kernel_rfl) (by kernel_rfl) (by intro c a d v w h; cases d <;> exact h) ?_
 simp only [segs, picks, List.getElem?_cons_succ, List.getElem?_cons_zero]
 refine wpSeg_fl hC1 ?_
 repeat (first | go_big_quiet_step (fail) | quiet_step (fail))
 refine wpQuiet_nil ?_
 clear r0 r1 r2
 generalize w0.drew = wd at *
 refine wpSeg_sq (fun K hK => ?_)
 go_wp2_with fail
 have hbn := below_alloc wd (.cells #[.int .i64 (a : Int)] 3)
 have HB2 : Hid (Below w0.heap.size w0 (wd.alloc (.cells #[.int .i64 (a : Int)] 3))) := LH (HD0.out.trans (hbn.mono HD0.out.size))
 have hC2 : ∃ x : Near (mb :: (rowOf (V sl)).toList) w0, wd.alloc (.cells #[.int .i64 (a : Int)] 3) = x.val := near_of (Touch.ofBelow HB2.out)
 have HC2 : Hid (Cells (wd.alloc (.cells #[.int .i64 (a : Int)] 3)) (some ⟨wd.heap.size, 0, none⟩) ([a].map vi)) := LH (RowAt.cells ⟨_, heap_alloc_new _ _, [], rfl⟩)
 have HQa : Hid (w0.heap.size ≤ wd.heap.size) := LH HD0.out.size
 have HQa2 : Hid (wd.heap.size < (wd.alloc (.cells #[.int .i64 (a : Int)] 3)).heap.size) := LH (by simp)
 clear hbn
 go_wp2_with fail
 refine hK _ _ (fun _ => hC2) ?_
 clear hK K
 obtain ⟨qa, hqa⟩ : ∃ qa, qa = wd.heap.size := ⟨_, rfl⟩
 rw [← hqa] at HC2 HQa HQa2 ⊢
 clear hqa
 generalize wd.alloc _ = we at *
 have HFe := LH (HFV.out.below HB2.out)
 obtain ⟨M, hm, hv⟩ := HFe.out.inn.map
 have HM := LH hm
 have HV := LH hv
 have HVi : Hid ((M (pairKey m k)).getD (.slice none 0 0) = V sl) := LH (by rw [HSl.out]; exact hv m k hm4 hk)
 have HNm : Hid (n < maxLen) := LH (by unfold maxLen; omega)
 clear hm hv
 refine wpSeg_sq (fun K hK => ?_)
 go_wp2_with (refine wpList_ventry rfl _ _ 252 rfl 288 35 keyed_slot Tryz.underlying252 _ zero_ints mb n M rfl HM.out HNm.out _ _ rfl hkey ?_; intro w3 st hp hg; have HPd := LH hp; have HG3 := LH hg; clear hp hg; rw [HVi.out])
 have HT3 : Hid (Touch (mb :: (rowOf (V sl)).toList) w0 w3) := LH ((Touch.ofBelow HB2.out).trans ((grown_touchO HG3.out).wide (by simp)))
 have hC3 := near_of HT3.out
 go_wp2_with fail
 refine hK _ _ (fun h => nomatch h) ?_
 clear hK K
 refine wpSeg_fl hC3 ?_
 repeat (first | go_big_quiet_step (fail) | quiet_step (fail))
 refine wpQuiet_nil ?_
 have hmbn : rowOf (V sl) ≠ some mb := (HFV.out.inn.neF sl hsl160.out.1).2
 have HO3 : Hid (OwnI w3 (V sl) (S.c m k)) := LH (HOs.out.keep (fun b hb => ((HG3.out.block b (Nat.lt_of_lt_of_le (HOs.out.lt b hb) HB2.out.size) (fun e => hmbn (by rw [hb]; exact e))).trans (HB2.out.block b (HOs.out.lt b hb)))))
 have HC3 : Hid (Cells w3 (some ⟨qa, 0, none⟩) ([a].map vi)) := LH (Cells.touchM HC2.out (grown_touchO HG3.out) (fun y hy _ hm => by
  cases hy
  have h1 := HFV.out.lt mb HFV.out.mb
  have h2 := HQa.out
  simp at hm
  omega))
 have HN1 : Hid ((S.c m k).length + 1 ≤ 1000000000000) := LH (by have := HLs.out; omega)
 refine wpSeg_sq (fun K hK => ?_)
 go_wp2_with (refine wpList_append_ownI (m := 1) HO3.out HC3.out rfl HN1.out rfl rfl rfl rfl ?_; intro v' w4 ho hg hr; have HO4 := LH ho; have HG4 := LH hg; have HR4 := LH hr; clear ho hg hr)
 have HT4 : Hid (Touch (mb :: (rowOf (V sl)).toList) w0 w4) := LH (HT3.out.trans ((grown_touchO HG4.out).wide (fun b hb => List.mem_cons_of_mem _ hb)))
 have hC4 := near_of HT4.out
 go_wp2_with fail
 refine hK _ _ (fun _ => hC4) ?_
 clear hK K
 have HPd4 : Hid (VPend Tryz.prog 288 252 w4 mb n M (pairKey m k) st) := LH (HPd.out.block (HG4.out.block mb (Nat.lt_of_lt_of_le (Nat.lt_of_lt_of_le (HFV.out.lt mb HFV.out.mb) HB2.out.size) HG3.out.size) (fun e => hmbn (e.symm))))
 refine wpSeg_last ?_
 go_wp2_with (refine wpList_ventryStore rfl _ _ _ 252 rfl 288 mb n M (pairKey m k) st v' rfl rfl rfl HPd4.out ?_; intro w5 hm5 hg5; have HM5 := LH hm5; have HG5 := LH hg5; clear hm5 hg5)
 have HB03 : Hid (∀ b, b < w0.heap.size → b ≠ mb → rowOf (V sl) ≠ some b → w5.heap[b]? = w0.heap[b]?) := LH (fun b hb h1 h2 => (HG5.out.block b (Nat.lt_of_lt_of_le hb HT4.out.size) (fun e => h1 (Option.some.inj e.symm).symm)).trans (HT4.out.block b hb (fun hm => by
  rcases List.mem_cons.1 hm with e | e
  ·exact h1 e
  ·exact h2 (by simpa using e))))
 have HO5 : Hid (OwnI w5 v' (S.c m k ++ [a])) := LH (HO4.out.keep (fun b hb => HG5.out.block b (HO4.out.lt b hb) (fun e => by
  rcases HR4.out b hb with c | c
  ·exact hmbn (by rw [c]; exact e)
  ·have h1 := Option.some.inj e
   have h2 := HFV.out.lt mb HFV.out.mb
   have h3 := HB2.out.size
   have h4 := HG3.out.size
   omega)))
 have hst := step_ca (v := v') (xs := S.c m k ++ [a]) HFV.out.inn hm4 hk HFV.out.f HFV.out.mb HFV.out.lt HV.out (fun b hb h1 h2 => HB03.out b hb h1 (by rw [HSl.out]; exact h2)) (Nat.le_trans HT4.out.size HG5.out.size) HM5.out HO5.out (fun b hb => by
  rcases HR4.out b hb with c | c
  ·exact .inl (by rw [← HSl.out]; exact c)
  ·exact .inr (by rw [c]; exact Nat.le_trans HB2.out.size HG3.out.size))
 have hos : w5.os = w0.os ∧ w5.tape = w0.tape ∧ w5.output = w0.output := ⟨HG5.out.os.trans HT4.out.os, HG5.out.tape.trans HT4.out.tape, HG5.out.output.trans HT4.out.output⟩
 rw [← HT.out] at hst
 have HFV5 := LH (HFV.out.step (by rw [← HSl.out]; exact hsl160.out.1) hst)
 have HT5 := LH (hst.touch HFV.out (by rw [← HSl.out]; exact hsl160.out.1) hos)
 have HGo5 : Hid (FreeGo w0 w5 f mb (n + 1) R (S.setC m k T)) := LH (hst.go HFV.out.inn (by rw [← HSl.out]; exact hsl160.out.1) HFV.out.f HFV.out.mb HFV.out.lt HFV.out.rows hos)
 have HRow5 : Hid (RowAt w5 q 288 [.int .i64 (m : Int), .int .i64 (k : Int)]) := LH ((HMem.out.at 0 rfl).keep (HB03.out q (HMem.out.glt 0 rfl) (fun e => Nat.lt_irrefl q (by have := HRlt.out mb HFV.out.mb; rw [← e] at this; exact this)) (fun e => Nat.lt_irrefl q (HRlt.out q (HFV.out.rows sl hsl160.out.1 q e)))))
 have HQl := LH (HMem.out.glt 0 rfl)
 obtain ⟨ao, co, eo, hco, hol, _, hon⟩ := HO5.out.cells2
 rw [← HT.out] at eo hco hol
 obtain ⟨V5, hV5⟩ : ∃ V5, V5 = fun j => if j = slotI m k then v' else V j := ⟨_, rfl⟩
 rw [← hV5] at HFV5
 obtain ⟨lo, hlo⟩ : ∃ lo, lo = T.length := ⟨_, rfl⟩
 rw [← hlo] at eo hol
 have HVo : Hid (V5 (slotI m k) = .slice ao lo co) := LH (by rw [hV5]; dsimp only; rw [if_pos rfl]; exact eo)
 have HVg : Hid (V5 k = V k) := LH (by rw [hV5]; dsimp only; rw [if_neg (by have := HSl.out; have := hsl160.out.2; omega)])
 have HLo := LH hlo
 have HTl : Hid (T.length ≤ 900001) := LH (by rw [HT.out]; simp; exact HLs.out)
 clear hst hos hco HC2 HM HVi HB2 HC3 HPd HG3 HO3 HG4 HO4 HPd4 HG5 HM5 hC1 hC2 hC3 hC4 HV hmbn HR4 HOs HQa HQa2 eo hV5 hlo
 go_upto_region 7 with fail
 have r0 := fun x => later_cell (HRow5.out.cell (i := 0) rfl) x
 have r1 := fun x => later_cell (HRow5.out.cell (i := 1) rfl) x
 have r2 := fun x => later_cell HFV5.out.inn.m x
 refine wp_region_seg (C := fun w' => ∃ x : Later (w5), w' = x.val) [.fl [0, 1, 2, 3, 4], .sq [5, 6] false] (by kernel_rfl) (by kernel_rfl) (by intro c a d v w h; cases d <;> exact h) ?_
 simp only [segs, picks, List.getElem?_cons_succ, List.getElem?_cons_zero]
 have hC1 := later_drew (w5)
 refine wpSeg_fl hC1 ?_
 repeat (first | go_big_quiet_step (fail) | quiet_step (fail))
 refine wpQuiet_nil ?_
 clear r0 r1 r2
 have HD6 : Hid (Below w5.heap.size w5 w5.drew) := LH (later_below hC1)
 generalize w5.drew = w6 at *
 have HFV6 := LH (HFV5.out.below HD6.out)
 obtain ⟨M, hm, hv⟩ := HFV6.out.inn.map
 have HM := LH hm
 have HVi : Hid ((M (pairKey m k)).getD (.slice none 0 0) = .slice ao lo co) := LH ((hv m k hm4 hk).trans HVo.out)
 have HRow6 := LH (HRow5.out.keep (HD6.out.block q HRow5.out.lt))
 clear hm hv
 by_cases h8 : 8 < lo
 case neg =>
  have HFin : Hid (FreeGo w w6 f mb (n + 2) R (S.put m k a)) := LH (by
   have e : S.put m k a = S.setC m k T := by rw [HPut.out, if_neg (by have := HLo.out; omega)]
   rw [e]
   exact ((HGo5.out.later HD6.out).mono (by omega)).own HQ.out HW0.out)
  have h8' : ¬ (8 : Int) < (lo : Int) := by omega
  clear h8
  refine wpSeg_last ?_
  go_wp2_with (refine wpList_vlook rfl _ _ 252 rfl 288 35 keyed_slot Tryz.underlying252 _ (zero_ints _) mb (n + 1) M rfl HM.out _ _ rfl hkey ?_; rw [HVi.out])
  exact HP.out _ _ HE0.out HFin.out
 case pos =>
 have h8' : (8 : Int) < (lo : Int) := by omega
 obtain ⟨hf, hhf⟩ : ∃ hf, hf = lo / 2 := ⟨_, rfl⟩
 have hw2 : wrap64 ((lo : Int) / 2) = (hf : Int) := by
  have h1 := HTl.out
  have h2 := HLo.out
  rw [Go.IntWalk.wrap64_in _ (by omega)]; omega
 have hfl : hf ≤ lo := by omega
 have HHf := LH hhf
 clear hhf
 refine wpSeg_last ?_
 go_upto_region 10 with (refine wpList_vlook rfl _ _ 252 rfl 288 35 keyed_slot Tryz.underlying252 _ (zero_ints _) mb (n + 1) M rfl HM.out _ _ rfl hkey ?_; rw [HVi.out])
 have HOo : Hid (OwnI w6 (.slice ao lo co) T) := LH (by
  have := HFV6.out.inn.rows (slotI m k) (by unfold slotI; omega)
  rw [FL.at_c _ m hk, FL.setC_c, if_pos ⟨rfl, rfl⟩, HVo.out] at this
  exact this)
 have HOg : Hid (OwnI w6 (V k) (S.g k)) := LH (by
  have := HFV6.out.inn.rows k (by omega)
  rw [FL.at_g _ hk, FL.setC_g, HVg.out] at this
  exact this)
 have ck := HFV6.out.inn.g hk
 rw [HVg.out] at ck
 have hfn : f ∉ (rowOf (V k)).toList := fun hm => (HFV.out.inn.neF k (by omega)).1 (by simpa using hm)
 have r0 := fun x => near_cell (L := (rowOf (V k)).toList) ck hfn x
 have hC1 : ∃ x : Near (rowOf (V k)).toList w6, w6.drew = x.val := near_of (Touch.ofBelow (later_below (later_drew w6)))
 have HD7 : Hid (Below w6.heap.size w6 w6.drew) := LH (later_below (later_drew w6))
 clear ck hfn
 refine wp_region_seg (C := fun w' => ∃ x : Near (rowOf (V k)).toList w6, w' = x.val) [.fl [0, 1, 2, 3, 4, 5, 6, 7, 8, 9, 10, 12, 13], .sq [11] true, .sq [14, 15] false] (by kernel_rfl) (by kernel_rfl) (by intro c a d v w h; cases d <;> exact h) ?_
 simp only [segs, picks, List.getElem?_cons_succ, List.getElem?_cons_zero]
 refine wpSeg_fl hC1 ?_
 repeat (first | (refine wpQuiet_slice_to el_int (ad := ao) (n := lo) (cap := co) hf rfl hfl hol rfl rfl rfl rfl ?_) | go_big_quiet_step (fail) | quiet_step (fail))
 refine wpQuiet_nil ?_
 clear r0
 generalize w6.drew = w7 at *
 have HOg7 : Hid (OwnI w7 (V k) (S.g k)) := LH (HOg.out.keep (fun b hb => HD7.out.block b (HOg.out.lt b hb)))
 have HCh : Hid (Cells w7 ao ((T.take hf).map vi)) := LH (by
  obtain ⟨a', c', e', hc', _⟩ := (HOo.out.keep (fun b hb => HD7.out.block b (HOo.out.lt b hb))).cells
  injection e' with e1 _ _
  rw [e1, List.map_take]
  exact hc'.take hf)
 have HTk : Hid ((T.take hf).length = hf) := LH (by rw [List.length_take]; have := HLo.out; omega)
 have HN2 : Hid ((S.g k).length + hf ≤ 1000000000000) := LH (by have := HLg.out; have := HTl.out; have := HLo.out; omega)
 refine wpSeg_sq (fun K hK => ?_)
 go_wp2_with (refine wpList_append_ownI (m := hf) HOg7.out HCh.out HTk.out HN2.out rfl rfl rfl rfl ?_; intro v8 w8 ho hg hr; have HO8 := LH ho; have HG8 := LH hg; have HR8 := LH hr; clear ho hg hr)
 have hC2 := near_of ((Touch.ofBelow HD7.out).trans (grown_touchO HG8.out))
 go_wp2_with fail
 refine hK _ _ (fun _ => hC2) ?_
 clear hK K
 have hst := step_g HFV6.out.inn hk HFV6.out.f HFV6.out.mb HFV6.out.lt HD7.out (by rw [HVg.out]; exact HG8.out) HO8.out (fun b hb => by
  rcases HR8.out b hb with c | c
  ·exact .inl (by rw [HVg.out]; exact c)
  ·exact .inr (by rw [c]; exact HD7.out.size))
 have hos : (w8.setCell ⟨f, k, none⟩ v8).os = w6.os ∧ (w8.setCell ⟨f, k, none⟩ v8).tape = w6.tape ∧ (w8.setCell ⟨f, k, none⟩ v8).output = w6.output := ⟨HG8.out.os.trans HD7.out.os, HG8.out.tape.trans HD7.out.tape, HG8.out.output.trans HD7.out.output⟩
 have HFV9 := LH (HFV6.out.step (by omega) hst)
 have HT9 := LH (hst.touch HFV6.out (by omega) hos)
 have HF1 : Hid (w8.heap[f]? = some (.cells ((List.range 32).map V5 ++ [Value.map (some mb)]).toArray 255 (0, 0))) := LH (by
  have := (HG8.out.block f (Nat.lt_of_lt_of_le (HFV6.out.lt f HFV6.out.f) HD7.out.size) (fun e => (HFV.out.inn.neF k (by omega)).1 e.symm)).trans (HD7.out.block f (HFV6.out.lt f HFV6.out.f))
  exact this.trans HFV6.out.inn.head)
 have fr : w8.frozen? ⟨f, k, none⟩ = false := frozen_of_row _ _ _ _ _ HF1.out
 have ck1 : w8.cell? ⟨f, k, none⟩ = some (V k) := (cell_of_row _ _ k _ _ _ HF1.out).trans ((HFV6.out.inn.lt hk).trans (congrArg some HVg.out))
 have HRow9 : Hid (RowAt (w8.setCell ⟨f, k, none⟩ v8) q 288 [.int .i64 (m : Int), .int .i64 (k : Int)]) := LH (HRow6.out.keep (HT9.out.1.block q HRow6.out.lt (fun hm => by
  rcases HT5.out.2 q hm with c | c
  ·exact Nat.lt_irrefl q (HRlt.out q c)
  ·exact absurd HQl.out (Nat.not_lt.2 c))))
 have HOo9 : Hid (OwnI (w8.setCell ⟨f, k, none⟩ v8) (.slice ao lo co) T) := LH (by
  have := HFV9.out.inn.rows (slotI m k) (by unfold slotI; omega)
  rw [FL.at_c _ m hk, FL.setG_c, FL.setC_c] at this
  rw [if_neg (show ¬ slotI m k = k by unfold slotI; omega), HVo.out, if_pos (show m = m ∧ k = k from ⟨rfl, rfl⟩)] at this
  exact this)
 obtain ⟨a', c', e', _⟩ := HO8.out.cells
 obtain ⟨l', hl'⟩ : ∃ l', l' = (S.g k ++ T.take hf).length := ⟨_, rfl⟩
 rw [← hl'] at e'
 subst e'
 clear hst hl' hos
 refine wpSeg_last ?_
 go_wp2_with fail
 generalize w8.setCell _ _ = w9 at *
 have hho : hf ≤ co := by omega
 have hon2 := HOo9.out.cells2
 obtain ⟨a9, c9, e9, hc9, _, _, hn9⟩ := hon2
 have HLTo := HLo.out
 rw [← HLTo] at e9
 injection e9 with e91 _ e93
 subst e91
 subst e93
 have HCo9 := LH hc9
 have HNil := LH hn9
 clear hc9 hn9 HLTo
 have r0 := fun x => later_cell (HRow9.out.cell (i := 0) rfl) x
 have r1 := fun x => later_cell (HRow9.out.cell (i := 1) rfl) x
 have r2 := fun x => later_cell HFV9.out.inn.m x
 clear hC1 hC2
 refine wp_region_seg (C := fun w' => ∃ x : Later (w9), w' = x.val) [.fl [0, 1, 2, 3, 4, 5, 6, 7], .sq [8] true, .sq [9] false] (by kernel_rfl) (by kernel_rfl) (by intro c a d v w h; cases d <;> exact h) ?_
 simp only [segs, picks, List.getElem?_cons_succ, List.getElem?_cons_zero]
 have hC3 := later_drew (w9)
 refine wpSeg_fl hC3 ?_
 repeat (first | (refine wpQuiet_slice_from el_int (ad := ao) (n := lo) (cap := co) hf rfl hfl hol rfl rfl rfl rfl ?_) | go_big_quiet_step (fail) | quiet_step (fail))
 refine wpQuiet_nil ?_
 clear r0 r1 r2
 obtain ⟨sa, hsa⟩ : ∃ sa, sa = (if co = hf then ao else ao.map (·.add (hf * 1))) := ⟨_, rfl⟩
 rw [← hsa]
 obtain ⟨sn, hsn⟩ : ∃ sn, sn = lo - hf := ⟨_, rfl⟩
 rw [← hsn]
 obtain ⟨sc, hsc⟩ : ∃ sc, sc = co - hf := ⟨_, rfl⟩
 rw [← hsc]
 have HD10 : Hid (Below w9.heap.size w9 w9.drew) := LH (later_below hC3)
 have HCl : Hid (Calls Tryz.prog 204 #[.slice sa sn sc] w9.drew (NewI w9.drew (T.drop hf))) := LH (by
  refine cloneI_any _ _ _ _ (by rw [List.length_drop, ← HLo.out, hsn]) ?_ (by rw [List.length_drop, ← HLo.out]; have := HTl.out; have := HLo.out; omega) (fun h => ?_)
  ·rw [List.map_drop, hsa, Nat.mul_one]
   exact (HCo9.out.below HD10.out (Nat.le_refl _)).shift hf _ (fun e => by rw [List.length_map, ← HLo.out]; omega)
  ·by_cases e : co = hf
   ·omega
   ·rw [hsa, if_neg e] at h
    cases ao with
    | none => have := HNil.out rfl; omega
    | some d => cases h)
 generalize w9.drew = w10 at *
 clear hsa hsn hsc
 refine wpSeg_sq (fun K hK => ?_)
 go_wp2_with fail
 refine HCl.out.mono ?_
 rintro e w11 ⟨v11, rfl, ho3, hr3, hb3⟩
 have HO11 := LH ho3
 have HR11 := LH hr3
 have HB11 : Hid (Below w9.heap.size w9 w11) := LH (HD10.out.trans (hb3.mono HD10.out.size))
 have HW10 := LH HD10.out.size
 have hC4 := later_step hC3 hb3
 clear ho3 hr3 hb3
 go_wp2_with fail
 refine hK _ _ (fun _ => hC4) ?_
 clear hK K
 have HFV11 := LH (HFV9.out.below HB11.out)
 obtain ⟨M3, hm3, hv3⟩ := HFV11.out.inn.map
 have HM3 := LH hm3
 have HV3 := LH hv3
 have HNm2 : Hid (n + 1 < maxLen) := LH (by unfold maxLen; omega)
 clear hm3 hv3
 refine wpSeg_last ?_
 go_wp2_with (refine wpList_vstore rfl _ _ _ 252 rfl 288 35 keyed_slot Tryz.underlying252 mb (n + 1) M3 rfl HM3.out HNm2.out _ _ _ rfl rfl hkey ?_; intro w12 hm4' hg4; have HM12 := LH hm4'; have HG12 := LH hg4; clear hm4' hg4)
 have hst := step_c (o := some v11) HFV9.out.inn hm4 hk HFV9.out.f HFV9.out.mb HFV9.out.lt HV3.out HB11.out HM12.out rfl HG12.out HO11.out (fun b hb => .inr (Nat.le_trans HW10.out (HR11.out b hb)))
 have hos : w12.os = w9.os ∧ w12.tape = w9.tape ∧ w12.output = w9.output := ⟨HG12.out.os.trans HB11.out.os, HG12.out.tape.trans HB11.out.tape, HG12.out.output.trans HB11.out.output⟩
 have HFin : Hid (FreeGo w w12 f mb (n + 2) R (S.put m k a)) := LH (by
  have e : S.put m k a = ((S.setC m k T).setG k (S.g k ++ T.take hf)).setC m k (T.drop hf) := by
   rw [HPut.out, if_pos (by have := HLo.out; omega), ← HLo.out, ← HHf.out]
   refine FL.ext' (fun j => ?_) (fun i j => ?_)
   ·simp only [FL.setC_g, FL.setG_g]
   ·simp only [FL.setC_c, FL.setG_c]
    split <;> rfl
  rw [e]
  have h1 := FreeGo.more HT9.out.1 HT9.out.2 HFV9.out (by unfold slotI; omega) hst hos
  exact ((FreeGo.trans (HT5.out.1.later HD6.out) (fun b hb => HT5.out.2 b hb) h1).mono (by omega)).own HQ.out HW0.out)
 clear hst hos
 exact HP.out _ _ HE0.out HFin.out
end Go.Proofs.YtbimcogdbafjpaaGreat
namespace Go.Proofs
open Go.Shelf
def Tryz.lays189_ren : Go.Shelf.Ren := ⟨fun | 189 => 205 | 125 => 237 | 257 => 236 | 128 => 257 | 129 => 258 | 294 => 248 | 295 => 249 | 296 => 250 | 297 => 251 | 298 => 252 | 299 => 253 | 216 => 254 | 300 => 255 | 301 => 256 | 328 => 270 | 329 => 271 | 330 => 272 | 331 => 273 | 332 => 274 | 215 => 275 | 343 => 280 | n => n, fun | 28 => 35 | 3 => 3 | 46 => 158 | 0 => 0 | 51 => 211 | 53 => 113 | 4 => 4 | 183 => 320 | 182 => 319 | 131 => 174 | 5 => 5 | 9 => 9 | 218 => 333 | 222 => 337 | 228 => 342 | 229 => 137 | n => n, fun | n => n⟩
theorem Tryz.lays189 : Go.Proofs.Lays.n189 Tryz.prog Tryz.lays189_ren := {
 mixed := by kernel_rfl
 f125 := Tryz.func237.trans (congrArg some (by kernel_rfl))
 f128 := Tryz.func257.trans (congrArg some (by kernel_rfl))
 f129 := Tryz.func258.trans (congrArg some (by kernel_rfl))
 f189 := Tryz.func205.trans (congrArg some (by kernel_rfl))
 f215 := Tryz.func275.trans (congrArg some (by kernel_rfl))
 f216 := Tryz.func254.trans (congrArg some (by kernel_rfl))
 f257 := Tryz.func236.trans (congrArg some (by kernel_rfl))
 f294 := Tryz.func248.trans (congrArg some (by kernel_rfl))
 f295 := Tryz.func249.trans (congrArg some (by kernel_rfl))
 f296 := Tryz.func250.trans (congrArg some (by kernel_rfl))
 f297 := Tryz.func251.trans (congrArg some (by kernel_rfl))
 f298 := Tryz.func252.trans (congrArg some (by kernel_rfl))
 f299 := Tryz.func253.trans (congrArg some (by kernel_rfl))
 f300 := Tryz.func255.trans (congrArg some (by kernel_rfl))
 f301 := Tryz.func256.trans (congrArg some (by kernel_rfl))
 f328 := Tryz.func270.trans (congrArg some (by kernel_rfl))
 f329 := Tryz.func271.trans (congrArg some (by kernel_rfl))
 f330 := Tryz.func272.trans (congrArg some (by kernel_rfl))
 f331 := Tryz.func273.trans (congrArg some (by kernel_rfl))
 f332 := Tryz.func274.trans (congrArg some (by kernel_rfl))
 f343 := Tryz.func280.trans (congrArg some (by kernel_rfl))
 t0 := Tryz.underlying0
 a0 := Tryz.isAgg0
 z0 := Tryz.sizeOf0
 v0 := Tryz.zeroValue0
 t3 := Tryz.underlying3
 a3 := Tryz.isAgg3
 z3 := Tryz.sizeOf3
 v3 := Tryz.zeroValue3
 t4 := Tryz.underlying4
 a4 := Tryz.isAgg4
 z4 := Tryz.sizeOf4
 v4 := Tryz.zeroValue4
 t5 := Tryz.underlying5
 a5 := Tryz.isAgg5
 z5 := Tryz.sizeOf5
 v5 := Tryz.zeroValue5
 t9 := Tryz.underlying9
 a9 := Tryz.isAgg9
 z9 := Tryz.sizeOf9
 v9 := Tryz.zeroValue9
 t28 := Tryz.underlying35
 a28 := Tryz.isAgg35
 z28 := Tryz.sizeOf35
 v28 := Tryz.zeroValue35
 t46 := Tryz.underlying158
 a46 := Tryz.isAgg158
 z46 := Tryz.sizeOf158
 v46 := Tryz.zeroValue158
 t51 := Tryz.underlying211
 a51 := Tryz.isAgg211
 z51 := Tryz.sizeOf211
 v51 := Tryz.zeroValue211
 t53 := Tryz.underlying113
 a53 := Tryz.isAgg113
 z53 := Tryz.sizeOf113
 v53 := Tryz.zeroValue113
 t131 := Tryz.underlying174
 a131 := Tryz.isAgg174
 z131 := Tryz.sizeOf174
 v131 := Tryz.zeroValue174
 t182 := Tryz.underlying319
 a182 := Tryz.isAgg319
 z182 := Tryz.sizeOf319
 v182 := Tryz.zeroValue319
 t183 := Tryz.underlying320
 a183 := Tryz.isAgg320
 z183 := Tryz.sizeOf320
 v183 := Tryz.zeroValue320
 t218 := Tryz.underlying333
 a218 := Tryz.isAgg333
 z218 := Tryz.sizeOf333
 v218 := Tryz.zeroValue333
 t222 := Tryz.underlying337
 a222 := Tryz.isAgg337
 z222 := Tryz.sizeOf337
 v222 := Tryz.zeroValue337
 t228 := Tryz.underlying342
 a228 := Tryz.isAgg342
 z228 := Tryz.sizeOf342
 v228 := Tryz.zeroValue342
 t229 := Tryz.underlying137
 a229 := Tryz.isAgg137
 z229 := Tryz.sizeOf137
 v229 := Tryz.zeroValue137 }
end Go.Proofs
namespace Go.Proofs.YtbimcogdbafjpaaGreat
open Go.RowKit Go.Maps Go.Shelf Go.Sort
theorem putCells_front (cur : Array Value) (d : Array Int) (h : d.size ≤ cur.size) : (putCells (Value.int .i64) 0 d cur).toList = d.toList.map (Value.int .i64) ++ cur.toList.drop d.size := by
 apply List.ext_getElem?
 intro k
 unfold putCells
 rw [Array.getElem?_toList, Array.getElem?_mapIdx]
 by_cases hk : k < d.size
 ·rw [List.getElem?_append_left (by simpa using hk), List.getElem?_map, Array.getElem?_toList, Array.getElem?_eq_getElem hk, Array.getElem?_eq_getElem (show k < cur.size by omega)]
  simp [hk]
 ·rw [List.getElem?_append_right (by simpa using hk), List.getElem?_drop]
  have e : d.size + (k - (d.toList.map (Value.int .i64)).length) = k := by simp; omega
  rw [e, Array.getElem?_toList]
  cases cur[k]? with
  | none => rfl
  | some x => simp [hk]
theorem putRow_heap {w : World} {g : Nat} {cur : Array Value} {e : TypeId} {fr : Nat × Nat} (hg : w.heap[g]? = some (.cells cur e fr)) (d : Array Int) (q : Nat) :
  (putRow (Value.int .i64) (Sort.ahead w q) g 0 d).heap[g]? = some (.cells (putCells (Value.int .i64) 0 d cur) e fr) := by
 unfold putRow mapBlock
 simp [Array.getElem?_modify, hg, onCells]
theorem putRow_grown (w : World) (g : Nat) (d : Array Int) (q : Nat) : w.grownBy (putRow (Value.int .i64) (Sort.ahead w q) g 0 d) (some g) := by
 refine ⟨rfl, rfl, rfl, by simp [putRow, mapBlock], fun k hk hne => ?_⟩
 have : ¬ g = k := fun e => hne (by rw [e])
 simp [putRow, mapBlock, Array.getElem?_modify, this]
theorem grow_grown (w : World) (os : Array Obj) : w.grownBy (grow w os) none :=
 ⟨rfl, rfl, rfl, by simp [grow], fun k hk _ => heap_grow_old w os hk⟩
theorem row_put {w : World} {g cap : Nat} {cur : Array Value} (hg : w.heap[g]? = some (.cells cur 3 (0, 0))) (hc : cur.size = cap) (h2 : cap ≤ maxLen) (d : Array Int) (hd : d.size ≤ cap) (q : Nat) (ys : List Nat) (hy : d.toList.take ys.length = ys.map (fun x : Nat => (x : Int))) (hl : ys.length ≤ d.size) :
  OwnI (putRow (Value.int .i64) (Sort.ahead w q) g 0 d) (.slice (some ⟨g, 0, none⟩) ys.length cap) ys := by
 refine .inl ⟨by simp, .inr ⟨g, cap, _, rfl, Nat.zero_le _, putRow_heap hg d q, by omega, h2, by unfold putCells; simp [hc], ?_⟩⟩
 rw [putCells_front _ _ (by omega), Nat.mul_one, List.take_append_of_le_length (by simpa using hl), ← List.map_take, hy, List.map_map]
 rfl
theorem OwnI.row {w : World} {v : Value} {xs : List Nat} (h : OwnI w v xs) (hx : xs ≠ []) : ∃ g cap cur, v = .slice (some ⟨g, 0, none⟩) xs.length cap ∧ w.heap[g]? = some (.cells cur 3 (0, 0)) ∧ xs.length ≤ cap ∧ cap ≤ maxLen ∧ cur.size = cap ∧ rowOf v = some g ∧
  Go.Sort.Holds (Value.int .i64) w g 0 (xs.map (fun x : Nat => (x : Int))).toArray := by
 rcases h with h | ⟨a, _, h⟩
 ·rcases h.2 with ⟨_, h0⟩ | ⟨g, cap, cur, rfl, hb, hg, h1, h2, h3, h4⟩
  ·exact absurd (List.length_eq_zero_iff.1 h0) hx
  ·have hpos : 0 < xs.length := List.length_pos_iff.2 hx
   refine ⟨g, cap, cur, rfl, hg, h1, h2, by omega, ?_, fun j hj => ⟨?_, frozen_of_row _ _ _ _ _ hg⟩⟩
   ·show (if cap = 0 then none else some g) = some g
    rw [if_neg (by omega)]
   ·have hj' : j < xs.length := by simpa using hj
    rw [Nat.zero_add, cell_of_row _ _ j _ _ _ hg]
    have h5 := congrArg (fun l => l[j]?) h4
    rw [Nat.mul_one] at h5
    simp only [List.getElem?_take, if_pos hj', List.getElem?_map, List.getElem?_eq_getElem hj', Option.map_some] at h5
    rw [← Array.getElem?_toList, h5]
    simp [vi, hj']
 ·exact absurd h hx
theorem OwnI.none_val {w : World} {v : Value} (h : OwnI w v []) : ∃ p c, v = .slice p 0 c := by
 obtain ⟨a, c, e, _⟩ := h.cells
 exact ⟨a, c, e⟩
def SortedI (w : World) (v : Value) (xs : List Nat) : Ending → World → Prop := fun e w' => e = .returned (.tuple #[]) ∧ ∃ ys : List Nat, OwnI w' v ys ∧ ys.Pairwise (· ≤ ·) ∧ ys.Perm xs ∧ w.grownBy w' (rowOf v)
theorem sortI_any {w : World} {v : Value} {xs : List Nat} (h : OwnI w v xs) (hl : xs.length ≤ 1000000000) : Calls Tryz.prog 205 #[v] w (SortedI w v xs) := by
 by_cases hx : xs = []
 ·subst hx
  obtain ⟨p, c, rfl⟩ := h.none_val
  refine (Any.slices_Sort_int_none Tryz.lays189 p c w).mono ?_
  rintro e w' ⟨rfl, rfl⟩
  exact ⟨rfl, [], h, List.Pairwise.nil, List.Perm.refl _, grown_self _ _⟩
 ·obtain ⟨g, cap, cur, rfl, hg, h1, h2, h3, h4, hH⟩ := h.row hx
  have hc := Any.slices_Sort_int Tryz.lays189 g 0 cap (xs.map (fun x : Nat => (x : Int))) w hH (Array.getElem?_eq_some_iff.1 hg).1 (by rw [List.length_map]; omega)
  rw [List.length_map] at hc
  refine hc.mono ?_
  rintro e w' ⟨rfl, q, os, rfl⟩
  have hm : (xs.map (fun x : Nat => (x : Int))).mergeSort (fun x y => decide (x ≤ y)) = (xs.mergeSort (fun x y => decide (x ≤ y))).map (fun x : Nat => (x : Int)) := by
   rw [List.map_mergeSort (s := fun x y : Int => decide (x ≤ y)) (fun a _ b _ => by simp)]
  rw [hm]
  have hpm := List.mergeSort_perm xs (fun x y => decide (x ≤ y))
  have hlm : (xs.mergeSort (fun x y => decide (x ≤ y))).length = xs.length := hpm.length_eq
  have hso : (xs.mergeSort (fun x y => decide (x ≤ y))).Pairwise (· ≤ ·) := by
   have := List.pairwise_mergeSort (le := fun x y : Nat => decide (x ≤ y)) (fun a b c h1 h2 => by simp at *; omega) (fun a b => by simp; omega) xs
   exact this.imp (fun h => by simpa using h)
  have ho := row_put hg h3 h2 ((xs.mergeSort (fun x y => decide (x ≤ y))).map (fun x : Nat => (x : Int))).toArray (by rw [List.size_toArray, List.length_map, hlm]; exact h1) q (xs.mergeSort (fun x y => decide (x ≤ y))) (by rw [List.take_of_length_le (by simp)]) (by simp)
  rw [hlm] at ho
  have hgr := putRow_grown w g ((xs.mergeSort (fun x y => decide (x ≤ y))).map (fun x : Nat => (x : Int))).toArray q
  refine ⟨rfl, _, ?_, hso, hpm, ?_⟩
  ·exact ho.keep (fun b hb => heap_grow_old _ _ (ho.lt b hb))
  ·have hg2 := grow_grown (putRow (Value.int .i64) (Sort.ahead w q) g 0 ((xs.mergeSort (fun x y => decide (x ≤ y))).map (fun x : Nat => (x : Int))).toArray) os
   rw [h4]
   exact ⟨hg2.os.trans hgr.os, hg2.tape.trans hgr.tape, hg2.output.trans hgr.output, Nat.le_trans hgr.size hg2.size, fun k hk hne => (hg2.block k (Nat.lt_of_lt_of_le hk hgr.size) (by simp)).trans (hgr.block k hk hne)⟩
end Go.Proofs.YtbimcogdbafjpaaGreat
namespace Go.Proofs.YtbimcogdbafjpaaGreat
open Go.RowKit Go.Maps
def FL.drainTo (S : FL) (m i : Nat) : FL := ⟨fun k => if k < i then S.g k ++ S.c m k else S.g k, fun j k => if j = m ∧ k < i then [] else S.c j k⟩
theorem FL.drainTo_zero (S : FL) (m : Nat) : S.drainTo m 0 = S := FL.ext' (fun k => by unfold FL.drainTo; simp) (fun j k => by unfold FL.drainTo; simp)
theorem FL.drainTo_succ (S : FL) (m i : Nat) : S.drainTo m (i + 1) = ((S.drainTo m i).setG i ((S.drainTo m i).g i ++ (S.drainTo m i).c m i)).setC m i [] := by
 refine FL.ext' (fun k => ?_) (fun j k => ?_)
 ·rw [FL.setC_g, FL.setG_g]
  unfold FL.drainTo
  dsimp only
  by_cases e : k = i
  ·subst e; simp
  ·rw [if_neg e]
   by_cases h : k < i
   ·rw [if_pos h, if_pos (by omega)]
   ·rw [if_neg h, if_neg (by omega)]
 ·rw [FL.setC_c]
  unfold FL.drainTo
  dsimp only
  by_cases e : j = m ∧ k = i
  ·rw [if_pos e, if_pos (by omega)]
  ·rw [if_neg e, FL.setG_c]
   dsimp only
   by_cases h : j = m ∧ k < i
   ·rw [if_pos h, if_pos (by omega)]
   ·rw [if_neg h, if_neg (by omega)]
theorem FL.drainTo_lens {S : FL} {N : Nat} (h : S.upto N) {m i : Nat} (hm : m < 4) (hi : i < 32) : ((S.drainTo m i).g i).length ≤ N ∧ ((S.drainTo m i).c m i).length ≤ N := by
 have h1 := h i (by omega)
 have h2 := h (slotI m i) (by unfold slotI; omega)
 rw [S.at_g hi] at h1
 rw [S.at_c m hi] at h2
 unfold FL.drainTo
 simp
 exact ⟨h1, h2⟩
set_option maxHeartbeats 4000000 in
set_option maxRecDepth 20000 in
theorem fdrain_any {w : World} {f mb n : Nat} {R : List Nat} {S : FL} (h : FreeAt w f mb n R S) (hL : S.upto 1000000) (hn : n < 1000000000000) (m : Nat) (hm4 : m < 4) :
  Calls Tryz.prog 230 #[vfree f, .int .i64 (m : Int)] w fun e w' => e = .returned (.tuple #[]) ∧ FreeGo w w' f mb n R (S.drain m) := by
 have HF := LH h
 have HUp := LH hL
 clear h hL
 go_enter Tryz.func230, Tryz.ntmps230
 go_wp2_with fail
 go_loopw [6] (fun iv wr => ∃ i : Nat, i ≤ 32 ∧ iv = .int .i64 (i : Int) ∧ Hid (FreeGo w wr f mb n R (S.drainTo m i))) (fun iv _ => 32 - (intOf iv).toNat)
 case atStart => exact ⟨0, by omega, rfl, LH (by rw [FL.drainTo_zero]; exact FreeGo.refl HF.out)⟩
 case round =>
  obtain ⟨i, hi32, rfl, HGo⟩ := hrel
  by_cases hlt : i < 32
  case neg =>
   obtain rfl : i = 32 := by omega
   go_wp2_with fail
   go_end0
   exact ⟨rfl, HGo.out⟩
  obtain ⟨R1, hfa, ht1, hr1⟩ := HGo.out
  obtain ⟨V, hfv⟩ := hfa.v
  have HT1 := LH ht1
  have HR1 := LH hr1
  have HMem := LH (Mem.one wr #[.int .i64 (m : Int), .int .i64 (i : Int)] 288)
  have HFV := LH (hfv.below HMem.out.below)
  have HFVr := LH hfv.lt
  have HW0 := LH HMem.out.below
  have HStep : Hid (S.drainTo m (i + 1) = ((S.drainTo m i).setG i ((S.drainTo m i).g i ++ (S.drainTo m i).c m i)).setC m i []) := LH (FL.drainTo_succ S m i)
  have HLens := LH (FL.drainTo_lens HUp.out hm4 hlt)
  generalize S.drainTo m i = T at *
  clear hfa ht1 hr1
  go_upto_region 4 with fail
  obtain ⟨q, hq⟩ : ∃ q, q = wr.heap.size := ⟨_, rfl⟩
  have hqf : q ∉ (rowOf (V i)).toList := fun hm => by
   have h1 := hfv.lt q (hfv.rows i (by omega) q (by simpa using hm))
   rw [hq] at h1
   exact Nat.lt_irrefl _ h1
  clear hfv
  rw [← hq] at HMem ⊢
  have HQ := LH hq
  clear hq
  generalize wr.alloc _ = w0 at *
  have hfn : f ∉ (rowOf (V i)).toList := fun hm => (HFV.out.inn.neF i (by omega)).1 (by simpa using hm)
  have d0 := HMem.out.cell 0 0 rfl rfl
  have d1 := HMem.out.cell 0 1 rfl rfl
  obtain ⟨ac, cc, ec, hcc, hcl, _, hcn⟩ := (HFV.out.inn.rows (slotI m i) (by unfold slotI; omega)).cells2
  rw [T.at_c m hlt] at ec hcc hcl
  have HEc := LH ec
  have HCc := LH hcc
  have hkey := key_slot (m : Int) (i : Int) (wf_small m (by omega)) (wf_small i (by omega))
  have r0 := fun x => near_cell (L := (rowOf (V i)).toList) d0 hqf x
  have r1 := fun x => near_cell (L := (rowOf (V i)).toList) d1 hqf x
  have r2 := fun x => near_cell (L := (rowOf (V i)).toList) HFV.out.inn.m hfn x
  have r3 := fun x => near_cell (L := (rowOf (V i)).toList) (HFV.out.inn.g hlt) hfn x
  have HTn : Hid (Touch (rowOf (V i)).toList w0 w0.drew) := LH (Touch.ofBelow (later_below (later_drew w0)))
  have HD1 : Hid (Below w0.heap.size w0 w0.drew) := LH (later_below (later_drew w0))
  have hC1 := near_of HTn.out
  clear hcc ec hqf hfn d0 d1
  obtain ⟨lc, hlc⟩ : ∃ lc, lc = (T.c m i).length := ⟨_, rfl⟩
  rw [← hlc] at HEc hcl
  have HLc := LH hlc
  clear hlc
  refine wp_region_seg (C := fun w' => ∃ x : Near (rowOf (V i)).toList w0, w' = x.val) [.fl [0, 1, 2, 3, 4, 5, 6, 7, 8, 9, 10, 11, 12, 15, 16], .sq [13] true, .sq [14] true, .sq [17, 18] false] (by kernel_rfl) (by kernel_rfl) (by intro c a d v w h; cases d <;> exact h) ?_
  simp only [segs, picks, List.getElem?_cons_succ, List.getElem?_cons_zero]
  refine wpSeg_fl hC1 ?_
  repeat (first | go_big_quiet_step (fail) | quiet_step (fail))
  refine wpQuiet_nil ?_
  clear r0 r1 r2 r3
  generalize w0.drew = wd at *
  have HFd := LH (HFV.out.below HD1.out)
  obtain ⟨M, hm, hv⟩ := HFd.out.inn.map
  have HM := LH hm
  have HVi := LH ((hv m i hm4 hlt).trans HEc.out)
  clear hm hv
  refine wpSeg_sq (fun K hK => ?_)
  go_wp2_with (refine wpList_vlook rfl _ _ 252 rfl 288 35 keyed_slot Tryz.underlying252 _ (zero_ints _) mb n M rfl HM.out _ _ rfl hkey ?_; rw [HVi.out])
  go_wp2_with fail
  refine hK _ _ (fun _ => hC1) ?_
  clear hK K
  have HOd : Hid (OwnI wd (V i) (T.g i)) := LH (by
   have := HFd.out.inn.rows i (by omega)
   rwa [T.at_g hlt] at this)
  have HCd : Hid (Cells wd ac ((T.c m i).map vi)) := LH (HCc.out.below HD1.out (Nat.le_refl _))
  have HN1 : Hid ((T.g i).length + lc ≤ 1000000000000) := LH (by have := HLens.out; have := HLc.out; omega)
  refine wpSeg_sq (fun K hK => ?_)
  go_wp2_with (refine wpList_append_ownI (m := lc) HOd.out HCd.out HLc.out.symm HN1.out rfl rfl rfl rfl ?_; intro v' w1 ho hg hr; have HO1 := LH ho; have HG1 := LH hg; have HR := LH hr; clear ho hg hr)
  have HTn1 : Hid (Touch (rowOf (V i)).toList w0 w1) := LH (HTn.out.trans (grown_touchO HG1.out))
  have hC3 := near_of HTn1.out
  go_wp2_with fail
  refine hK _ _ (fun _ => hC3) ?_
  clear hK K
  have hst := step_g HFV.out.inn hlt HFV.out.f HFV.out.mb HFV.out.lt HD1.out HG1.out HO1.out (fun b hb => by
   rcases HR.out b hb with c | c
   ·exact .inl c
   ·exact .inr (by rw [c]; exact HD1.out.size))
  have hos : (w1.setCell ⟨f, i, none⟩ v').os = w0.os ∧ (w1.setCell ⟨f, i, none⟩ v').tape = w0.tape ∧ (w1.setCell ⟨f, i, none⟩ v').output = w0.output := ⟨HG1.out.os.trans HD1.out.os, HG1.out.tape.trans HD1.out.tape, HG1.out.output.trans HD1.out.output⟩
  have HFV2 := LH (HFV.out.step (by omega) hst)
  have HT2 := LH (hst.touch HFV.out (by omega) hos)
  have HF1 : Hid (w1.heap[f]? = some (.cells ((List.range 32).map V ++ [Value.map (some mb)]).toArray 255 (0, 0))) := LH (by
   have := (HG1.out.block f (Nat.lt_of_lt_of_le (HFV.out.lt f HFV.out.f) HD1.out.size) (fun e => (HFV.out.inn.neF i (by omega)).1 e.symm)).trans (HD1.out.block f (HFV.out.lt f HFV.out.f))
   exact this.trans HFV.out.inn.head)
  have fr : w1.frozen? ⟨f, i, none⟩ = false := frozen_of_row _ _ _ _ _ HF1.out
  have ck1 : w1.cell? ⟨f, i, none⟩ = some (V i) := (cell_of_row _ _ i _ _ _ HF1.out).trans (HFV.out.inn.lt hlt)
  have HRow2 : Hid (RowAt (w1.setCell ⟨f, i, none⟩ v') q 288 [.int .i64 (m : Int), .int .i64 (i : Int)]) := LH ((HMem.out.at 0 rfl).keep (HT2.out.1.block q (HMem.out.glt 0 rfl) (fun hm => by
   have h1 := HFVr.out q hm
   rw [HQ.out] at h1
   exact Nat.lt_irrefl _ h1)))
  obtain ⟨a', c', e', _⟩ := HO1.out.cells
  obtain ⟨l', hl'⟩ : ∃ l', l' = (T.g i ++ T.c m i).length := ⟨_, rfl⟩
  rw [← hl'] at e'
  subst e'
  clear hst hl' hos
  refine wpSeg_last ?_
  go_wp2_with fail
  generalize w1.setCell _ _ = w2 at *
  have hsl : slotI m i < 160 := by unfold slotI; omega
  go_upto_region 5 with fail
  have d0 := HRow2.out.cell (i := 0) rfl
  have d1 := HRow2.out.cell (i := 1) rfl
  have c32 := HFV2.out.inn.m
  have r0 := fun x => later_cell d0 x
  have r1 := fun x => later_cell d1 x
  have r2 := fun x => later_cell c32 x
  clear d0 d1 c32 hC1 hC3
  refine wp_region_seg (C := fun w' => ∃ x : Later (w2), w' = x.val) [.fl [0, 1, 2, 3, 4], .sq [5] false] (by kernel_rfl) (by kernel_rfl) (by intro c a d v w h; cases d <;> exact h) ?_
  simp only [segs, picks, List.getElem?_cons_succ, List.getElem?_cons_zero]
  have hC5 := later_drew (w2)
  refine wpSeg_fl hC5 ?_
  repeat (first | go_big_quiet_step (fail) | quiet_step (fail))
  refine wpQuiet_nil ?_
  clear r0 r1 r2
  have HD5 : Hid (Below w2.heap.size w2 w2.drew) := LH (later_below hC5)
  generalize w2.drew = w3 at *
  have HFV3 := LH (HFV2.out.below HD5.out)
  obtain ⟨M3, hm3, hv3⟩ := HFV3.out.inn.map
  have HM3 := LH hm3
  have HV3 := LH hv3
  clear hm3 hv3
  refine wpSeg_last ?_
  go_wp2_with (refine wpList_vdelete rfl _ _ 252 288 rfl 35 keyed_slot Tryz.underlying252 mb n M3 rfl HM3.out _ _ rfl hkey ?_; intro w4 hm4' hg4; have HM4 := LH hm4'; have HG4 := LH hg4; clear hm4' hg4)
  have hst := step_c (o := none) HFV3.out.inn hm4 hlt HFV3.out.f HFV3.out.mb HFV3.out.lt HV3.out (Below.refl _ _) HM4.out rfl HG4.out (OwnI.nil _) (fun b hb => by cases hb)
  have HNext : Hid (FreeGo w w4 f mb n R (S.drainTo m (i + 1))) := LH (by
   have e : S.drainTo m (i + 1) = (T.setG i (T.g i ++ T.c m i)).setC m i [] := HStep.out
   rw [e]
   have h1 := FreeGo.more (HT2.out.1.later HD5.out) HT2.out.2 HFV3.out hsl hst ⟨HG4.out.os, HG4.out.tape, HG4.out.output⟩
   exact FreeGo.trans (HT1.out.later HW0.out) (fun b hb => HR1.out b hb) (h1))
  clear hst
  go_wp2_with fail
  go_roundw
  case rel => exact ⟨i + 1, by omega, vint (by omega), HNext⟩
  case measure => simp [intOf]; omega
def FL.allTo (S : FL) (k : Nat) : Nat → List Nat
 | 0 => S.g k
 | i + 1 => S.allTo k i ++ S.c i k
theorem FL.allTo_all (S : FL) (k : Nat) : S.allTo k 4 = S.all k := rfl
theorem FL.allTo_len {S : FL} {N k : Nat} (h : S.upto N) (hk : k < 32) : ∀ i, i ≤ 4 → (S.allTo k i).length ≤ (i + 1) * N
 | 0, _ => by
  have := h k (by omega)
  rw [S.at_g hk] at this
  simpa [FL.allTo] using this
 | i + 1, hi => by
  have h1 := FL.allTo_len h hk i (by omega)
  have h2 := h (slotI i k) (by unfold slotI; omega)
  rw [S.at_c i hk] at h2
  unfold FL.allTo
  rw [List.length_append, Nat.add_mul (i + 1) 1 N, Nat.one_mul]
  omega
def ListI (w : World) (S : FL) (k : Nat) : Ending → World → Prop := fun e w' => ∃ v ys, e = .returned v ∧ OwnI w' v ys ∧ ys.Pairwise (· ≤ ·) ∧ (∀ a, ys.count a = S.cnt k a) ∧ (∀ b, rowOf v = some b → w.heap.size ≤ b) ∧ Below w.heap.size w w'
set_option maxHeartbeats 4000000 in
set_option maxRecDepth 20000 in
theorem flist_any {w : World} {f mb n : Nat} {R : List Nat} {S : FL} (h : FreeAt w f mb n R S) (hL : S.upto 900000) (k : Nat) (hk : k < 32) :
  Calls Tryz.prog 161 #[vfree f, .int .i64 (k : Int)] w (ListI w S k) := by
 obtain ⟨V, hfv⟩ := h.v
 have HFV := LH hfv
 have HUp := LH hL
 have HP : Hid (∀ v ys w', OwnI w' v ys → ys.Pairwise (· ≤ ·) → ys.Perm (S.all k) → (∀ b, rowOf v = some b → w.heap.size ≤ b) → Below w.heap.size w w' → ListI w S k (.returned v) w') := LH (fun v ys w' h1 h2 h3 h4 h5 => ⟨v, ys, rfl, h1, h2, fun a => by rw [← S.all_count]; exact h3.count_eq a, h4, h5⟩)
 generalize ListI w S k = Post at *
 have hVk := HFV.out.inn.rows k (by omega)
 rw [S.at_g hk] at hVk
 obtain ⟨ag, cg, eg, hcg, _, _, hgn⟩ := hVk.cells2
 have HLg : Hid ((S.g k).length ≤ 900000) := LH (by have := HUp.out k (by omega); rwa [S.at_g hk] at this)
 have HCl := LH (cloneI_any ag _ cg (S.g k) rfl hcg (by have := HLg.out; omega) hgn)
 have ck := HFV.out.inn.g hk
 rw [eg] at ck
 have c32 := HFV.out.inn.m
 obtain ⟨lg, hlg⟩ : ∃ lg, lg = (S.g k).length := ⟨_, rfl⟩
 rw [← hlg] at ck HCl
 clear h hL hfv hVk hcg hgn eg hlg
 go_enter Tryz.func161, Tryz.ntmps161
 go_wp2_with fail
 refine (cright_any _ _).mono ?_
 rintro e w1 ⟨rfl, rfl⟩
 rw [decide_eq_true (show (0 : Int) ≤ (k : Int) ∧ (k : Int) < 32 by omega)]
 go_wp2_with fail
 refine HCl.out.mono ?_
 rintro e w1 ⟨v1, rfl, ho1, hr1, hb1⟩
 have HO1 := LH ho1
 have HR1 := LH hr1
 have HB1 := LH hb1
 clear ho1 hr1 hb1 ck c32
 go_wp2_with fail
 go_loopw [5, 17] (fun ov iv wr => ∃ i : Nat, i ≤ 4 ∧ iv = .int .i64 (i : Int) ∧ Hid (OwnI wr ov (S.allTo k i)) ∧ Hid (∀ b, rowOf ov = some b → w.heap.size ≤ b) ∧ Hid (Below w.heap.size w wr)) (fun _ iv _ => 4 - (intOf iv).toNat)
 case atStart => exact ⟨0, by omega, rfl, HO1, HR1, HB1⟩
 case round =>
  obtain ⟨i, hi4, rfl, HO, HR, HB⟩ := hrel
  by_cases hlt : i < 4
  case neg =>
   obtain rfl : i = 4 := by omega
   have HSo := LH (sortI_any HO.out (by have := FL.allTo_len HUp.out hk 4 (by omega); omega))
   go_wp2_with fail
   refine HSo.out.mono ?_
   rintro e w2 ⟨rfl, ys, ho, hs, hp, hg⟩
   have HFin := LH (HP.out _ ys w2 ho hs (by rw [← S.allTo_all]; exact hp) HR.out ⟨hg.os.trans HB.out.os, hg.tape.trans HB.out.tape, hg.output.trans HB.out.output, Nat.le_trans HB.out.size hg.size, fun b hb => (hg.block b (Nat.lt_of_lt_of_le hb HB.out.size) (fun e => by have := HR.out b e.symm; omega)).trans (HB.out.block b hb)⟩)
   clear ho hs hp hg
   go_wp2_with fail
   exact HFin.out
  have hi160 : slotI i k < 160 := by unfold slotI; omega
  have HFr := LH (HFV.out.below HB.out)
  obtain ⟨ac, cc, ec, hcc, _, _, _⟩ := (HFr.out.inn.rows (slotI i k) hi160).cells2
  rw [S.at_c i hk] at ec hcc
  obtain ⟨M, hm, hv⟩ := HFr.out.inn.map
  have HM := LH hm
  obtain ⟨lc, hlc⟩ : ∃ lc, lc = (S.c i k).length := ⟨_, rfl⟩
  rw [← hlc] at ec
  have HLc := LH hlc.symm
  have HVi := LH ((hv i k hlt hk).trans ec)
  have HCc := LH hcc
  have hkey := key_slot (i : Int) (k : Int) (wf_small i (by omega)) (wf_small k (by omega))
  have c32 := HFr.out.inn.m
  have HN1 : Hid ((S.allTo k i).length + lc ≤ 1000000000000) := LH (by
   have h1 := FL.allTo_len HUp.out hk i (by omega)
   have h2 := HUp.out (slotI i k) hi160
   rw [S.at_c i hk, ← hlc] at h2
   have : (i + 1) * 900000 ≤ 5 * 900000 := Nat.mul_le_mul_right _ (by omega)
   omega)
  clear hm hv ec hcc hlc
  go_wp2_with (first
   | (refine wpList_vlook rfl _ _ 252 rfl 288 35 keyed_slot Tryz.underlying252 _ (zero_ints _) mb n M rfl HM.out _ _ rfl hkey ?_; rw [HVi.out])
   | (at_builtin; refine wpList_append_newI (m := lc) (B := w.heap.size) HO.out (Below.refl _ _) HR.out HB.out.size HCc.out HLc.out HN1.out rfl rfl rfl rfl ?_; intro v' w2 ho hb hr; have HO2 := LH ho; have HB2 := LH hb; have HR2 := LH hr; clear ho hb hr))
  go_roundw
  case rel => exact ⟨i + 1, by omega, vint (by omega), HO2, HR2, LH (HB.out.trans HB2.out)⟩
  case measure => simp [intOf]; omega
end Go.Proofs.YtbimcogdbafjpaaGreat
namespace Go.Proofs
open Go.Shelf
end Go.Proofs
namespace Go.Proofs.YtbimcogdbafjpaaGreat
open Go.RowKit Go.Maps Go.Shelf Go.Sort Go.Lib
end Go.Proofs.YtbimcogdbafjpaaGreat
namespace Go.Proofs.YtbimcogdbafjpaaGreat
open Go.RowKit Go.Maps
end Go.Proofs.YtbimcogdbafjpaaGreat
namespace Go.Proofs.YtbimcogdbafjpaaGreat
open Go.RowKit
def relN (h : Hd) : Int := if h.k = 1 then 1 else h.l
def Bm.release (m : Bm) (b : Int) : BmR :=
 if (hdGet m.list b).k ≠ 1 ∧ (hdGet m.list b).k ≠ 2 then ⟨m, 0, 42⟩ else
 (fun r1 : PutR => if r1.err ≠ 0 then ⟨⟨r1.dev, r1.list, m.free⟩, 0, r1.err⟩ else
  (fun r2 : PutR => if r2.err ≠ 0 then ⟨⟨r2.dev, r2.list, m.free⟩, 0, r2.err⟩ else ⟨⟨r2.dev, r2.list, (giveR m.free b (relN (hdGet m.list b))).1⟩, 0, (giveR m.free b (relN (hdGet m.list b))).2⟩)
   (putAll r1.dev r1.list (b + 1) (List.replicate (relN (hdGet m.list b) - 1).toNat ⟨0, 0, 0⟩)))
  (putAll m.dev m.list b [⟨0, 0, 0⟩])
def BmDone1 (w : World) (X : MF) (n B : Nat) (r : BmR) : Ending → World → Prop := fun e w' => e = .returned (.int .i64 r.err) ∧ ManAt w' X n B r.bm ∧ Touch X.hot w w'
theorem hdGet_in {l : List Hd} {b : Int} (h : (hdGet l b).k ≠ 0) : 1 ≤ b ∧ b < l.length := by
 unfold hdGet at h
 by_cases c : b < 1 ∨ (l.length : Int) ≤ b
 ·rw [if_pos c] at h; exact absurd rfl h
 ·omega
theorem hdCs_zeros (n : Nat) : hdCs (List.replicate n ⟨0, 0, 0⟩) = List.replicate (n * 3) (.int .i64 0) := by
 induction n with
 | zero => rfl
 | succ n ih =>
  rw [List.replicate_succ, show (⟨0, 0, 0⟩ : Hd) :: List.replicate n ⟨0, 0, 0⟩ = [⟨0, 0, 0⟩] ++ List.replicate n ⟨0, 0, 0⟩ from rfl, hdCs_append, ih, show (n + 1) * 3 = 3 + n * 3 by omega, ← List.replicate_append_replicate]
  rfl
set_option maxHeartbeats 4000000 in
set_option maxRecDepth 20000 in
theorem brelease_any {w : World} {X : MF} {n B : Nat} {m : Bm} (h : ManAt w X n B m) (hB : B ≤ 1000) (hn : n < 1000000000000) {N : Nat} (hN : N ≤ 999000000) (ho : m.dev.ok N) (hi : m.dev.inv) (hl : ∀ i, (m.list.getD i default).l ≤ 100000) (b : Int) :
  Calls Tryz.prog 157 #[.pointer (some ⟨X.m, 0, none⟩), .int .i64 b] w (BmDone1 w X (n + 1) B (m.release b)) := by
 generalize hr : m.release b = r
 generalize hP : BmDone1 w X (n + 1) B r = Post
 have HP := LH hP
 have HA := LH h
 have HLB : Hid (m.list.length = B) := LH h.tab.len
 have HLF : Hid (m.free.length = B) := LH h.lenF
 have HV : Hid (r = if (hdGet m.list b).k ≠ 1 ∧ (hdGet m.list b).k ≠ 2 then ⟨m, 0, 42⟩ else
  (fun r1 : PutR => if r1.err ≠ 0 then ⟨⟨r1.dev, r1.list, m.free⟩, 0, r1.err⟩ else
  (fun r2 : PutR => if r2.err ≠ 0 then ⟨⟨r2.dev, r2.list, m.free⟩, 0, r2.err⟩ else ⟨⟨r2.dev, r2.list, (giveR m.free b (relN (hdGet m.list b))).1⟩, 0, (giveR m.free b (relN (hdGet m.list b))).2⟩)
   (putAll r1.dev r1.list (b + 1) (List.replicate (relN (hdGet m.list b) - 1).toNat ⟨0, 0, 0⟩)))
  (putAll m.dev m.list b [⟨0, 0, 0⟩])) := LH (by rw [← hr]; rfl)
 have HIn := LH (hdGet_in (l := m.list) (b := b))
 have HZ : Hid ((hdGet m.list b).l ≤ 100000) := LH (by
  unfold hdGet
  split
  ·simp
  ·exact hl _)
 have c0 := h.c0
 have HTg := LH (fun W (h : ManAt W X n B m) => tget_any (h.tab.at (fun e => (MF.notHot (MF.apart h.nd).t).1 e)) b (by rw [h.tab.len]; exact hB))
 clear h hP hr
 obtain ⟨k, c, z, he⟩ : ∃ k c z, hdGet m.list b = ⟨k, c, z⟩ := ⟨_, _, _, rfl⟩
 rw [he] at HV HIn HZ HTg
 unfold Hd.val at HTg
 dsimp only at HV HIn HZ HTg
 clear he
 go_enter Tryz.func157, Tryz.ntmps157
 go_wp2_with fail
 refine (HTg.out _ HA.out).mono ?_
 rintro e w1 ⟨rfl, hb1⟩
 have HA1 := LH (HA.out.below hb1)
 have HT1 := LH (Touch.ofBelow (L := X.hot) hb1)
 clear hb1 c0 HTg HA
 have HM := LH (Mem.one w1 #[.int .i64 k, .int .i64 c, .int .i64 z] 104)
 have HA2 := LH (HA1.out.below HM.out.below)
 have HT2 := LH (HT1.out.later HM.out.below)
 clear HA1 HT1
 go_upto_region 2 with fail
 obtain ⟨q, hq⟩ : ∃ q, q = w1.heap.size := ⟨_, rfl⟩
 rw [← hq] at HM ⊢
 generalize w1.alloc _ = w2 at *
 clear hq
 have d0 := HM.out.cell 0 0 rfl rfl
 have d2 := HM.out.cell 0 2 rfl rfl
 by_cases hk : k ≠ 1 ∧ k ≠ 2
 ·have HE : Hid (r = ⟨m, 0, 42⟩) := LH (by rw [HV.out, if_pos hk])
  have q1 : (k == 1) = false := by simpa using hk.1
  have q2 : (k == 2) = false := by simpa using hk.2
  clear hk
  go_wp2_with fail
  rw [← HP.out, HE.out]
  exact ⟨rfl, HA2.out.mono (by omega), HT2.out⟩
 have hb := HIn.out (by omega)
 rw [HLB.out] at hb
 obtain ⟨b, rfl⟩ := Int.eq_ofNat_of_zero_le (show 0 ≤ b by omega)
 obtain ⟨z', hz'⟩ : ∃ z', z' = relN ⟨k, c, z⟩ := ⟨_, rfl⟩
 have hzk : (k = 1 ∧ z' = 1) ∨ (k = 2 ∧ z' = z) := by
  rw [hz']; unfold relN
  by_cases h1 : k = 1
  ·exact .inl ⟨h1, by rw [if_pos h1]⟩
  ·exact .inr ⟨by omega, by rw [if_neg h1]⟩
 rw [← hz'] at HV
 have HV2 : Hid (r = (fun r1 : PutR => if r1.err ≠ 0 then ⟨⟨r1.dev, r1.list, m.free⟩, 0, r1.err⟩ else
  (fun r2 : PutR => if r2.err ≠ 0 then ⟨⟨r2.dev, r2.list, m.free⟩, 0, r2.err⟩ else ⟨⟨r2.dev, r2.list, (giveR m.free (b : Int) z').1⟩, 0, (giveR m.free (b : Int) z').2⟩)
   (putAll r1.dev r1.list ((b : Int) + 1) (List.replicate (z' - 1).toNat ⟨0, 0, 0⟩)))
  (putAll m.dev m.list (b : Int) [⟨0, 0, 0⟩])) := LH (by rw [HV.out, if_neg hk])
 have hzz := HZ.out
 have hzm : z' ≤ 100000 := by rcases hzk with ⟨_, h⟩ | ⟨_, h⟩ <;> omega
 have hb1 : 1 ≤ b := by omega
 have hb2 : b < B := by omega
 clear HV HIn hb hk hz'
 go_upto_block 0 with fail
 go_cut [6] from 9 (fun v wc => v = .int .i64 z' ∧ wc = w2)
 case first =>
  rcases hzk with ⟨rfl, rfl⟩ | ⟨rfl, rfl⟩
  ·go_wp2_with fail
   go_meet
   case rel => exact ⟨rfl, rfl⟩
  ·go_wp2_with fail
   go_meet
   case rel => exact ⟨rfl, rfl⟩
 case rest =>
  obtain ⟨rfl, rfl⟩ := hcut
  clear d0 d2 hzk
  have c0 := HA2.out.c0
  have hbn := below_alloc wc (.cells #[.int .i64 0, .int .i64 0, .int .i64 0] 104)
  have HC2 : Hid (Cells (wc.alloc (.cells #[.int .i64 0, .int .i64 0, .int .i64 0] 104)) (some ⟨wc.heap.size, 0, none⟩) (hdCs [⟨0, 0, 0⟩])) := LH (by
   rw [hdCs_single]
   exact (RowAt.cells ⟨_, heap_alloc_new _ _, [], rfl⟩))
  have HPut := LH (mput_any (HA2.out.below hbn) hB (by omega) ho (some ⟨wc.heap.size, 0, none⟩) 1 1 [⟨0, 0, 0⟩] rfl HC2.out (fun _ b o s e hm => by
   cases e
   exact HA2.out.lt (Nat.le_refl _) hm) (by omega) (b : Int))
  have HTa := LH (HT2.out.later hbn)
  clear hbn HC2
  go_wp2_with fail
  refine HPut.out.mono ?_
  rintro e w3 ⟨rfl, ha3, ht3⟩
  dsimp only at ha3 ⊢
  obtain ⟨r1, hr1⟩ : ∃ r1, r1 = putAll m.dev m.list (b : Int) [⟨0, 0, 0⟩] := ⟨_, rfl⟩
  rw [← hr1] at HV2 ha3 ⊢
  have HLen1 : Hid (r1.list.length = B) := LH (by rw [hr1, putAll_len]; exact HLB.out)
  have HOk1 : Hid (r1.dev.ok (N + 1 + 200000)) := LH (by have := putAll_ok hi ho m.list (b : Int) [⟨0, 0, 0⟩]; rw [← hr1] at this; exact this)
  have HV3 : Hid (r = if r1.err ≠ 0 then ⟨⟨r1.dev, r1.list, m.free⟩, 0, r1.err⟩ else
   (fun r2 : PutR => if r2.err ≠ 0 then ⟨⟨r2.dev, r2.list, m.free⟩, 0, r2.err⟩ else ⟨⟨r2.dev, r2.list, (giveR m.free (b : Int) z').1⟩, 0, (giveR m.free (b : Int) z').2⟩)
    (putAll r1.dev r1.list ((b : Int) + 1) (List.replicate (z' - 1).toNat ⟨0, 0, 0⟩))) := LH HV2.out
  have HA3 := LH ha3
  have HT3 := LH (HTa.out.trans ht3)
  clear ha3 ht3 HV2 HPut HTa HT2 HA2 c0 hr1
  obtain ⟨e1, he1⟩ : ∃ e1, e1 = r1.err := ⟨_, rfl⟩
  rw [← he1] at HV3 ⊢
  clear he1
  by_cases hz : e1 = 0
  case neg =>
   have hz' : (e1 != 0) = true := by simpa using hz
   have HE : Hid (r = ⟨⟨r1.dev, r1.list, m.free⟩, 0, e1⟩) := LH (by rw [HV3.out, if_pos hz])
   clear hz
   go_wp2_with fail
   rw [← HP.out, HE.out]
   exact ⟨rfl, HA3.out.mono (by omega), HT3.out⟩
  subst hz
  obtain ⟨r2, hr2⟩ : ∃ r2, r2 = putAll r1.dev r1.list ((b : Int) + 1) (List.replicate (z' - 1).toNat ⟨0, 0, 0⟩) := ⟨_, rfl⟩
  have HV4 : Hid (r = if r2.err ≠ 0 then ⟨⟨r2.dev, r2.list, m.free⟩, 0, r2.err⟩ else ⟨⟨r2.dev, r2.list, (giveR m.free (b : Int) z').1⟩, 0, (giveR m.free (b : Int) z').2⟩) := LH (by rw [HV3.out, if_neg (by simp), ← hr2])
  have HR2 := LH hr2
  clear HV3 hr2
  go_upto_if 35 with fail
  go_cut [] from 9 (fun wd => r2.err = 0 ∧ ManAt wd X n B ⟨r2.dev, r2.list, m.free⟩ ∧ Touch X.hot w wd)
  case first =>
   by_cases hz1 : z' ≤ 1
   ·have HE : Hid (r2 = ⟨r1.dev, r1.list, 0⟩) := LH (by
     rw [HR2.out, show (z' - 1).toNat = 0 by omega]
     exact putAll_none _ (by omega) (by rw [HLen1.out]; omega))
    have q3 : decide (1 < z') = false := by simp; omega
    have q3p : ¬ 1 < z' := by omega
    go_wp2_with fail
    go_meet
    case rel => rw [HE.out]; exact ⟨rfl, HA3.out, HT3.out⟩
   ·obtain ⟨y, hy⟩ : ∃ y : Nat, y = (z' - 1).toNat := ⟨_, rfl⟩
    have hy1 : 1 ≤ y := by omega
    have hy9 : y ≤ 100000 := by omega
    have HY : Hid (z' - 1 = (y : Int)) := LH (by omega)
    rw [← hy] at HR2
    have q3p : 1 < z' := by omega
    clear hy hz1
    have c0 := HA3.out.c0
    go_upto_region 12 with fail
    have r0 := fun x => later_cell c0 x
    clear c0
    have hw1 : IntKind.i64.wrap ((b : Int) + 1) = (b : Int) + 1 := IntWalk.i64_in _ (by omega)
    have hw2 : IntKind.i64.wrap (z' - 1) = (y : Int) := by rw [IntWalk.i64_in _ (by omega)]; exact HY.out
    refine wp_region_seg (C := fun w' => ∃ x : Later (w3), w' = x.val) [.fl [0, 1, 2, 3, 4, 5, 6, 7], .sq [8] true, .sq [9, 10] false] (by kernel_rfl) (by kernel_rfl) (by intro c a d v w h; cases d <;> exact h) ?_
    simp only [segs, picks, List.getElem?_cons_succ, List.getElem?_cons_zero]
    have hC1 := later_drew (w3)
    refine wpSeg_fl hC1 ?_
    repeat (first | go_big_quiet_step (fail) | quiet_step (fail))
    refine wpQuiet_nil ?_
    clear r0
    have HA3d := LH (HA3.out.below (later_below hC1))
    have HT3d := LH (HT3.out.later (later_below hC1))
    generalize w3.drew = w3d at *
    refine wpSeg_sq (fun K hK => ?_)
    go_wp2_with (at_make; refine wpList_make_rows elHd w3d.heap.size y (z := .int .i64 0) (by intro i hi; simp at hi; rcases i with _ | _ | _ | i <;> first | rfl | omega) (by omega) (by omega) (by omega) (by decide) (Nat.le_refl _) rfl rfl rfl rfl ?_; intro w4 hown hgrow; have HO4 := LH hown; have HG4 := LH hgrow; clear hown hgrow)
    have HB4 := LH (below_grown HG4.out (Nat.le_refl _))
    have hC2 := later_step hC1 HB4.out
    go_wp2_with fail
    refine hK _ _ (fun _ => hC2) ?_
    clear hK K
    refine wpSeg_last ?_
    go_wp2_with fail
    refine (mput_any (HA3d.out.below HB4.out) hB (N := N + 1 + 200000) (by omega) HOk1.out _ y y (List.replicate y ⟨0, 0, 0⟩) (by simp) (by rw [hdCs_zeros]; exact Cells.owned2 HO4.out) (fun _ b o s e hm => ?_) (by omega) ((b : Int) + 1)).mono ?_
    ·cases e
     exact HA3d.out.lt (Nat.le_refl _) hm
    rintro e w5 ⟨rfl, ha5, ht5⟩
    dsimp only at ha5 ⊢
    rw [← HR2.out] at ha5 ⊢
    have HA5 := LH ha5
    have HT5 := LH ((HT3d.out.later HB4.out).trans ht5)
    clear ha5 ht5 hC1 hC2
    obtain ⟨e2, he2⟩ : ∃ e2, e2 = r2.err := ⟨_, rfl⟩
    rw [← he2] at HV4 ⊢
    have HE2 := LH he2
    clear he2
    by_cases hz : e2 = 0
    ·subst hz
     go_wp2_with fail
     go_meet
     case rel => exact ⟨HE2.out.symm, HA5.out, HT5.out⟩
    ·have hz' : (e2 != 0) = true := by simpa using hz
     have HE : Hid (r = ⟨⟨r2.dev, r2.list, m.free⟩, 0, e2⟩) := LH (by rw [HV4.out, if_pos hz])
     clear hz
     go_wp2_with fail
     rw [← HP.out, HE.out]
     exact ⟨rfl, HA5.out.mono (by omega), HT5.out⟩
  case rest =>
   obtain ⟨he2, ha5, ht5⟩ := hcut
   have HE : Hid (r = ⟨⟨r2.dev, r2.list, (giveR m.free (b : Int) z').1⟩, 0, (giveR m.free (b : Int) z').2⟩) := LH (by rw [HV4.out, if_neg (by rw [he2]; simp)])
   have HA5 := LH ha5
   have HT5 := LH ht5
   have c1 := HA5.out.c1
   clear he2 ha5 ht5 HV4
   go_wp2_with fail
   refine (mgive_any HA5.out hB hn (b : Int) z').mono ?_
   rintro e w6 ⟨rfl, ha6, ht6⟩
   have HA6 := LH ha6
   have HT6 := LH (HT5.out.trans ht6)
   clear ha6 ht6
   go_wp2_with fail
   rw [← HP.out, HE.out]
   exact ⟨rfl, HA6.out, HT6.out⟩
theorem aggGe : Agg Tryz.prog 46 #[.int .i64 0] := ⟨⟨_, Tryz.underlying46, rfl⟩, by kernel_rfl⟩
set_option maxHeartbeats 1000000 in
theorem bgeom_any {w : World} {X : MF} {n B : Nat} {m : Bm} (h : ManAt w X n B m) :
  Calls Tryz.prog 17 #[.pointer (some ⟨X.m, 0, none⟩)] w fun e w' => e = .returned (vgeom (B : Int)) ∧ Below w.heap.size w w' := by
 have HM := LH (Mem.one w #[.int .i64 0] 46)
 have c2 := (h.below HM.out.below).c2
 clear h
 unfold vgeom
 go_enter Tryz.func17, Tryz.ntmps17
 go_upto_region 1 with fail
 generalize w.alloc _ = w0 at *
 obtain ⟨q, hq⟩ : ∃ q, q = w.heap.size := ⟨_, rfl⟩
 rw [← hq] at HM ⊢
 have HQ := LH hq
 clear hq
 go_wp2_with (refine wpList_store_mem aggGe HM.out 0 rfl rfl rfl rfl rfl rfl rfl rfl ?_; intro w9 h9 _; have H9 := LH h9; clear h9)
 refine bodyPost_ret (results_cell_row rfl _ _ _ _ _ _ _ rfl (H9.out.exact 0 rfl) Tryz.underlying46 rfl (by kernel_rfl)) rfl ⟨rfl, H9.out.below⟩
set_option maxHeartbeats 1000000 in
theorem bfree_any {w : World} {X : MF} {n B : Nat} {m : Bm} (h : ManAt w X n B m) (hB : B ≤ 1000) :
  Calls Tryz.prog 90 #[.pointer (some ⟨X.m, 0, none⟩)] w fun e w' => e = .returned (.int .i64 (sumOf (runsOf m.free) : Nat)) ∧ Below w.heap.size w w' := by
 have c1 := h.c1
 have HI := LH (total_any h.ix (by rw [h.lenF]; omega))
 clear h
 go_enter Tryz.func90, Tryz.ntmps90
 go_wp2_with fail
 refine HI.out.mono ?_
 rintro e w1 ⟨rfl, hb1⟩
 go_wp2_with fail
 go_ret
 exact ⟨rfl, hb1⟩
set_option maxHeartbeats 1000000 in
theorem blongest_any {w : World} {X : MF} {n B : Nat} {m : Bm} (h : ManAt w X n B m) (hB : B ≤ 1000) :
  Calls Tryz.prog 143 #[.pointer (some ⟨X.m, 0, none⟩)] w fun e w' => e = .returned (.int .i64 (longOf (runsOf m.free) : Nat)) ∧ Below w.heap.size w w' := by
 have c1 := h.c1
 have HI := LH (longest_any h.ix (by rw [h.lenF]; omega))
 clear h
 go_enter Tryz.func143, Tryz.ntmps143
 go_wp2_with fail
 refine HI.out.mono ?_
 rintro e w1 ⟨rfl, hb1⟩
 go_wp2_with fail
 go_ret
 exact ⟨rfl, hb1⟩
end Go.Proofs.YtbimcogdbafjpaaGreat
